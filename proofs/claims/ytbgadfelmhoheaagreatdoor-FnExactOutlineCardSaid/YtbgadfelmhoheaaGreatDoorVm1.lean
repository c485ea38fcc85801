import Derived.Orders
import Derived.KernelRfl
import Derived.RowKit3
import Derived.Laws.Cells
import Derived.Laws.Rows
import Derived.Laws.OwnMore
import Derived.Below
set_option linter.defProp false
set_option linter.unusedVariables false
set_option linter.unusedSimpArgs false
namespace Go.Vm
def aT{α:Sort _}(a b:α):cond true a b=a:=cond_true ..
def cu{α:Sort _}(a b:α):cond false a b=b:=cond_false ..
def eX{α:Type _}(a b:α):(some a=some b)=(a=b):=Option.some.injEq ..
def iL{α:Type _}{β:Type _}(a:α)(b:β)(c:α)(d:β):((a,b)=(c,d))=(a=c∧b=d):=Prod.mk.injEq ..
def zdt{p:Prop}[Decidable p](h:p):decide p=true:=decide_eq_true h
def qN{p:Prop}[Decidable p](h:¬p):decide p=false:=decide_eq_false h
def uY{n m:Nat}(h:Nat.beq n m=true):n=m:=Nat.eq_of_beq_eq_true h
def qO{α:Type _}{a b:List α}:(a++b).length=a.length+b.length:=List.length_append ..
def G9{α:Type _}{i:Nat}{a:α}{l:List α}:l[i]? =some a↔∃h:i<l.length,l[i]=a:=List.getElem?_eq_some_iff ..
def ng{α:Type _}{a:α}{s:List α}:(a::s).length=s.length+1:=List.length_cons ..
def Bf{α:Type _}(a b c:List α):a++b++c=a++(b++c):=List.append_assoc ..
def LJ{α:Type _}{a:α}:[a].length=1:=List.length_singleton ..
def zo{α:Type _}:([]:List α).length=0:=List.length_nil ..
def Gy{α:Type _}{l:List α}{i:Nat}{a:α}(h:l[i]? =some a):a∈l:=List.mem_of_getElem? h
def zq(a b:Bool):((a&&b)=true)=(a=true∧b=true):=Bool.and_eq_true ..
def He{α:Type _}{β:Type _}(a:α)(f:α->β):Option.map f (some a)=some (f a):=Option.map_some ..
def TN{α:Type _}{β:Type _}{f:α->β}{a:α}{l:List α}:List.map f (a::l)=f a::List.map f l:=List.map_cons ..
def QS(n:Nat):((n:Int)).toNat=n:=Int.toNat_natCast ..
def Uo{α:Type _}{a:α}{s t:List α}:a::s++t=a::(s++t):=List.cons_append ..
def zmm{α:Type _}(y:α){a:α}{l:List α}(h:a∈l):a∈y::l:=List.mem_cons_of_mem _ h
def zmf{α:Type _}{a:α}{l:List α}:a∈a::l:=List.mem_cons_self ..
def ZF{α:Type _}{l:List α}:l.length=1↔∃a,l=[a]:=List.length_eq_one_iff ..
def OV{α:Type _}[BEq α][LawfulBEq α]{a b:α}:(a==b)=false↔a≠b:=beq_eq_false_iff_ne ..
def PW{α:Type _}{i:Nat}{l:List α}:(l.take i).length=min i l.length:=List.length_take ..
end Go.Vm
namespace Go.Vm
open Go
inductive D where
 |int (k:IntKind) (n:Int)
 |bool (b:Bool)
 |str (s:List UInt8)
 |MN
 |sl (own:Bool) (s:Nat) (rows:List (List D))
 deriving Inhabited
abbrev Row:=List D
abbrev aA:=List UInt8
abbrev au:=List Row
inductive V where
 |d (x:D)
 |nil (s:Nat)
 |own (r ver:Nat)
 |ptr (r off:Nat)
 |rZ (r ver i off:Nat)
 |pU (row:Row) (off:Nat)
 |yt (v:V)
 |clo (f:Nat) (first caps:List V)
 |agg (cs:List V)
 |yu (vs:List V)
 |undef
 deriving Inhabited
inductive Cell where
 |box (t:TypeId) (cs:List V)
 |arr (fz fl:Bool) (ver s:Nat) (rows:List Row)
 |dead
 |D5 (ver s:Nat) (rows:List Row)
 |mF (t:TypeId) (v:V)
 deriving Inhabited
abbrev Mem:=List (Nat×Cell)
abbrev jv:=List (Nat×V)
structure St where
 tm:jv
 mem:Mem
def get{α:Type}(k:Nat):List (Nat×α)->Option α
 |[]=>none
 |(j,x)::l=>bif Nat.beq k j then some x else get k l
def put{α:Type}(k:Nat)(x:α):List (Nat×α)->List (Nat×α)
 |[]=>[(k,x)]
 |(j,y)::l=>bif Nat.beq k j then(k,x)::l else bif Nat.blt k j then(k,x)::(j,y)::l else(j,y)::put k x l
def del{α:Type}(k:Nat):List (Nat×α)->List (Nat×α)
 |[]=>[]
 |(j,y)::l=>bif Nat.beq k j then del k l else(j,y)::del k l
def PX(t:Nat)(tm:jv):V:=match get t tm with|some v=>v|none=> .undef
def Ur(dst:Option Nat)(v:V)(tm:jv):jv:=match dst with|some t=>put t v tm|none=>tm
def apC(dst:Option Nat)(tm:jv):jv:=match dst with|some t=>del t tm|none=>tm
inductive Acc(α:Type):Type 1 where
 |ret (a:α)
 |fail
 |get (k:Nat) (c:Option Cell->Acc α)
 |set (k:Nat) (x:Cell) (c:Acc α)
 |opt {β:Type} (o:Option β) (c:β->Acc α)
 |guard (b:Bool) (c:Acc α)
structure Log where
 r:List Nat
 w:List Nat
def Log.rd(l:Log)(k:Nat):Log:={l with r:=k::l.r}
def Log.wr(l:Log)(k:Nat):Log:={l with w:=k::l.w}
def Log.none:Log:=⟨[],[]⟩
def Acc.bind{α β:Type}:Acc α->(α->Acc β)->Acc β
 | .ret a,f=>f a
 | .fail,_=> .fail
 | .get k c,f=> .get k λx=>(c x).bind f
 | .set k x c,f=> .set k x (c.bind f)
 | .opt o c,f=> .opt o λb=>(c b).bind f
 | .guard b c,f=> .guard b (c.bind f)
def Acc.run{α:Type}:Acc α->Mem->Log->Option (α×Mem×Log)
 | .ret a,m,l=>some (a,m,l)
 | .fail,_,_=>none
 | .get k c,m,l=>(c (Vm.get k m)).run m (l.rd k)
 | .set k x c,m,l=>c.run (put k x m) (l.wr k)
 | .opt o c,m,l=>match o with|some b=>(c b).run m l|none=>none
 | .guard b c,m,l=>match b with|true=>c.run m l|false=>none
inductive CT where
 |int (k:IntKind)|bool|str|sl (s:Nat)|other
 deriving Inhabited
def aiD(f:TypeId->Option (List CT)):List TypeId->Option (List CT)
 |[]=>some []
 |t::ts=>match f t,aiD f ts with|some a,some b=>some (a++b)|_,_=>none
def cts(P:Program):Nat->TypeId->Option (List CT)
 |0,_=>none
 |n+1,t=>match P.underlying t with
  |some (.int k)=>some [.int k]
  |some .bool=>some [.bool]
  |some .string=>some [.str]
  |some (.slice e)=>match P.info? e with|some i=>some [.sl i.size]|none=>none
  |some (.struct fs)=>aiD (cts P n) (fs.toList.map (·.type))
  |some (.array k e)=>aiD (cts P n) (List.replicate k e)
  |some (.pointer _)|some (.func ..)=>some [.other]
  |_=>none
def KG(P:Program)(t:TypeId):List CT:=match cts P 8 t with|some l=>l|none=>[.other]
def Gj(P:Program)(t:TypeId):Bool:=match P.underlying t with|some (.struct _)=>true|some (.array ..)=>true|_=>false
def kK(P:Program)(t:TypeId):Nat:=match P.info? t with|some i=>i.size|none=>0
def elT(P:Program)(t:TypeId):Option TypeId:=match P.underlying t with|some (.slice e)=>some e|_=>none
def Xh:CT->Value->V
 |_,.bool b=> .d (.bool b)
 |_,.int k n=> .d (.int k n)
 |_,.string s=> .d (.str s.data.toList)
 |_,.nilFunc=> .d .MN
 | .sl s,.slice none 0 0=> .nil s
 |_,_=> .undef
def BK:List CT->List Value->List V
 |c::cs,v::vs=>Xh c v::BK cs vs
 |[],_::vs=> .undef::BK [] vs
 |_,[]=>[]
def cv(P:Program)(t:TypeId):Value->V
 | .agg cs=> .agg (BK (KG P t) cs.toList)
 |v=>match KG P t with|c::_=>Xh c v|[]=> .undef
def JD(P:Program)(t:TypeId):Option (List V):=
 match P.info? t with
 |some i=>match i.zero with
  |some z=>some (BK (KG P t) z.cells.toList)
  |none=>none
 |none=>none
def V.cells:V->List V
 | .agg cs=>cs
 |v=>[v]
def Fg(P:Program)(t:TypeId)(cs:List V):Option V:=
 bif Gj P t then some (.agg cs) else match cs with|[v]=>some v|_=>none
def asInt(k:IntKind):D->Option Int
 | .int k' n=>bif decide (k'=k) then some n else none
 |_=>none
def asBool:D->Option Bool
 | .bool b=>some b
 |_=>none
def acK:D->Option (List UInt8)
 | .str s=>some s
 |_=>none
def amf(s:Nat):D->Option (List Row)
 | .sl _ s' rows=>bif Nat.beq s' s then some rows else none
 |_=>none
def apD(s:Nat):D->Option (List Row)
 | .sl own s' rows=>bif Nat.beq s' s then(match own with|false=>some rows|true=>match rows with|[]=>some []|_::_=>none) else none
 |_=>none
def ajU(s:Nat):D->Option (List Row)
 | .sl own s' rows=>match own with|true=>bif Nat.beq s' s then some rows else none|false=>none
 |_=>none
def nth(row:Row)(j:Nat):D:=match row[j]? with|some x=>x|none=> .MN
def fQ(k:IntKind)(row:Row)(j:Nat):Option Int:=asInt k (nth row j)
def acL(row:Row)(j:Nat):Option Bool:=asBool (nth row j)
def cStr(row:Row)(j:Nat):Option (List UInt8):=acK (nth row j)
def SK(s:Nat)(row:Row)(j:Nat):Option (List Row):=amf s (nth row j)
def cRo(s:Nat)(row:Row)(j:Nat):Option (List Row):=apD s (nth row j)
def aiE(s:Nat)(row:Row)(j:Nat):Option (List Row):=ajU s (nth row j)
mutual
def D.fz:D->D
 | .int k n=> .int k n
 | .bool b=> .bool b
 | .str s=> .str s
 | .MN=> .MN
 | .sl _ s rows=> .sl false s (bJ rows)
def bJ:List Row->List Row
 |[]=>[]
 |r::rs=>uw r::bJ rs
def uw:Row->Row
 |[]=>[]
 |x::r=>x.fz::uw r
end
def roD:D->D
 | .sl _ s rows=> .sl false s rows
 |x=>x
def D.flat:D->Bool
 | .sl ..=>false
 |_=>true
def ay(rows:List Row):Bool:=rows.all λr=>r.all D.flat
def one:V->Bool
 | .d _=>true
 | .nil _=>true
 | .own _ _=>true
 | .ptr _ _=>true
 | .rZ ..=>true
 | .pU _ _=>true
 | .yt _=>true
 | .clo ..=>true
 |_=>false
mutual
def D.pure:D->Bool
 | .sl own _ rows=>match own with|true=>uy rows|false=>rows.isEmpty
 |_=>true
def uy:List Row->Bool
 |[]=>true
 |r::rs=>eY r && uy rs
def eY:Row->Bool
 |[]=>true
 |x::r=>x.pure && eY r
end
def Hf(strict:Bool):List CT->Row->Nat->(List V->Acc V)->Acc V
 |[],_,_,c=>c []
 | .int k::ts,row,j,c=> .opt (fQ k row j) λn=>Hf strict ts row (j+1) λvs=>c (.d (.int k n)::vs)
 | .bool::ts,row,j,c=> .opt (acL row j) λn=>Hf strict ts row (j+1) λvs=>c (.d (.bool n)::vs)
 | .str::ts,row,j,c=> .opt (cStr row j) λn=>Hf strict ts row (j+1) λvs=>c (.d (.str n)::vs)
 | .sl s::ts,row,j,c=> .opt (bif strict then cRo s row j else SK s row j) λrs=>Hf strict ts row (j+1) λvs=>c (.d (.sl false s rs)::vs)
 | .other::_,_,_,_=> .fail
structure Adv where
 keep:Nat->Nat->List Nat
 move:Nat->List Nat
 ref:Nat->List Nat
 Zc:Nat->Nat->List Nat
 awD:Nat->List Nat
 fuse:Nat->Nat->Nat
 trunc:Nat->Nat->Bool
 raw:Nat->List Nat
 look:Nat->List Nat
structure Ctx where
 P:Program
 G8:Adv
 Tz:Nat->Option (List V->List Cell->Option (List Row×List Cell))
 glob:Nat->Option Row
 aFW:Nat->Bool
 asu:Nat->Bool:=λ_=>false
abbrev iE:=Nat->List V->List Cell->Option (List Row×List Cell)
def mem?(k:Nat):List Nat->Bool
 |[]=>false
 |j::l=>bif Nat.beq k j then true else mem? k l
def arB:List CT->Bool
 |[]=>false
 | .sl _::_=>true
 |_::l=>arB l
def pq(P:Program)(e:TypeId):Bool:= !(arB (KG P e))
def vw(fl:Bool)(rows:List Row):List Row:=bif fl then rows else bJ rows
instance:Monad Acc where
 pure:=.ret
 bind:=.bind
def rd(k:Nat):Acc (Option Cell):=.get k .ret
def wr(k:Nat)(x:Cell):Acc Unit:=.set k x (.ret ())
def ck(b:Bool):Acc Unit:=.guard b (.ret ())
def op'{β:Type}(o:Option β):Acc β:=.opt o .ret
def free(k:Nat):Acc Unit:=do
 match<-rd k with
 |none=>pure ()
 |some _=> .fail
def new(k:Nat)(c:Cell):Acc Unit:=do
 free k
 wr k c
def seen(v:V):Acc (Nat×List Row):=
 match v with
 | .d (.sl _ s rows)=>pure (s,rows)
 | .nil s=>pure (s,[])
 | .own r ver=>do
  match<-rd r with
  |some (.arr _ fl gI s rows)=>do ck (Nat.beq ver gI);pure (s,vw fl rows)
  |_=> .fail
 |_=> .fail
def TP(fl:Bool)(rows:List Row):Bool:=bif fl then ay rows else true
def toD(v:V):Acc D:=
 match v with
 | .d x=>pure (roD x)
 | .nil s=>pure (.sl true s [])
 | .own r ver=>do
  match<-rd r with
  |some (.arr fz fl gI s rows)=>do
   ck (Nat.beq ver gI)
   match fz with
   |true=>pure (.sl false s (vw fl rows))
   |false=>do
    ck (TP fl rows)
    wr r .dead
    pure (.sl true s rows)
  |_=> .fail
 |_=> .fail
def Jb:List V->Acc Row
 |[]=>pure []
 |v::vs=>do
  let x<-toD v
  let xs<-Jb vs
  pure (x::xs)
def splice{α:Type}(l:List α)(off:Nat)(xs:List α):List α:=l.take off++xs++l.drop (off+xs.length)
def part{α:Type}(l:List α)(off n:Nat):List α:=(l.drop off).take n
def idx{α:Type}(l:List α)(i:Int):Option α:=bif decide (0<=i) then l[i.toNat]? else none
def cut{α:Type}(l:List α)(a b:Int):Option (List α):=
 bif decide (0<=a) && decide (a<=b) && decide (b<=l.length) then some ((l.drop a.toNat).take (b.toNat - a.toNat)) else none
def byteRow(b:UInt8):Row:=[.int .u8 b.toNat]
def asByte:Row->Option UInt8
 |[.int .u8 n]=>some (UInt8.ofNat n.toNat)
 |_=>none
def bytesOf:List Row->Option (List UInt8)
 |[]=>some []
 |r::rs=>match asByte r,bytesOf rs with|some b,some bs=>some (b::bs)|_,_=>none
def ev(P:Program)(tm:jv)(t:TypeId):Operand->V
 | .tmp i=>PX i tm
 | .const v=>cv P t v
 | .func f=> .clo f [] []
 | .global _=> .undef
def evG(X:Ctx)(tm:jv)(t:TypeId)(x:Operand):V:=match x with
 | .global g=>match X.glob g with
  |some row=> .pU row 0
  |none=> .undef
 |x=>ev X.P tm t x
def amg(op:BinOp)(k:IntKind)(a b:Int):Option V:=
 match op with
 | .add=>some (.d (.int k (k.wrap (a+b))))
 | .sub=>some (.d (.int k (k.wrap (a - b))))
 | .mul=>some (.d (.int k (k.wrap (a * b))))
 | .quo=>bif decide (b=0) then none else some (.d (.int k (k.wrap (a.tdiv b))))
 | .rem=>bif decide (b=0) then none else some (.d (.int k (a.tmod b)))
 | .eql=>some (.d (.bool (a==b)))
 | .neq=>some (.d (.bool (a !=b)))
 | .lss=>some (.d (.bool (decide (a<b))))
 | .leq=>some (.d (.bool (decide (a<=b))))
 | .gtr=>some (.d (.bool (decide (a>b))))
 | .geq=>some (.d (.bool (decide (a>=b))))
 | .and=>some (.d (.int k (k.wrap (BitVec.ofInt k.bits a &&& BitVec.ofInt k.bits b).toNat)))
 | .or=>some (.d (.int k (k.wrap (BitVec.ofInt k.bits a|||BitVec.ofInt k.bits b).toNat)))
 | .xor=>some (.d (.int k (k.wrap (BitVec.ofInt k.bits a ^^^ BitVec.ofInt k.bits b).toNat)))
 |_=>none
def VG(op:BinOp)(k:IntKind)(a b:Int):Option V:=
 bif decide (b<0) then none else
 match op with
 | .shl=>some (.d (.int k (k.wrap (a * 2 ^(min b.toNat k.bits)))))
 | .shr=>some (.d (.int k (a.fdiv (2 ^(min b.toNat k.bits)))))
 |_=>none
def aiF:Nat:=9223372036854775807
def asv(op:BinOp)(a b:List UInt8):Acc V:=
 match op with
 | .add=> .guard (Nat.ble (a.length+b.length) aiF) (.ret (.d (.str (a++b))))
 | .eql=> .ret (.d (.bool (a==b)))
 | .neq=> .ret (.d (.bool !(a==b)))
 | .lss=> .ret (.d (.bool (Op.bytesLess a b)))
 | .leq=> .ret (.d (.bool (Op.bytesLess a b||a==b)))
 | .gtr=> .ret (.d (.bool !(Op.bytesLess a b||a==b)))
 | .geq=> .ret (.d (.bool !(Op.bytesLess a b)))
 |_=> .fail
def awE(op:BinOp)(a b:Bool):Option V:=
 match op with
 | .eql=>some (.d (.bool (a==b)))
 | .neq=>some (.d (.bool !(a==b)))
 |_=>none
def shiftOp:BinOp->Bool
 | .shl| .shr=>true
 |_=>false
def boolT(P:Program)(t:TypeId):Bool:=match P.underlying t with|some .bool=>true|_=>false
def bin(bt:Bool)(op:BinOp)(x y:V):Acc V:=
 match x,y with
 | .d (.int k a),.d (.int k' b)=>
  match shiftOp op with
  |true=> .opt (VG op k a b) .ret
  |false=>match decide (k=k') with
   |true=> .opt (amg op k a b) .ret
   |false=> .fail
 | .d (.str a),.d (.str b)=>asv op a b
 | .d (.bool a),.d (.bool b)=>match bt with
  |true=> .opt (awE op a b) .ret
  |false=> .fail
 |_,_=> .fail
def aiG:V->V->Option Bool
 | .d (.int k a),.d (.int k' b)=>bif decide (k=k') then some (a==b) else none
 | .d (.str a),.d (.str b)=>some (a==b)
 | .d (.bool a),.d (.bool b)=>some (a==b)
 |_,_=>none
def Xi(P:Program)(t:TypeId)(v:V):Bool:=match P.underlying t,v with
 |some (.int _),.d (.int _ _)=>true
 |some .string,.d (.str _)=>true
 |some .bool,.d (.bool _)=>true
 |_,_=>false
def ZG(P:Program):List Field->List V->List V->Option Bool
 |[],_,_=>some true
 |f::fs,xs,ys=>match xs[f.offset]?,ys[f.offset]? with
  | some x, some y => bif Xi P f.type x && (f.name != "_") then
    (match aiG x y,ZG P fs xs ys with
    |some a,some b=>some (bif a then b else false)
    |_,_=>none) else none
  |_,_=>none
def awF(P:Program)(t:TypeId)(op:BinOp)(cs ds:List V):Acc V:=do
 ck (!(P.stoodInHeld t) && !(P.eqGuardType P.depth t))
 let fs<-op' (match P.underlying t with|some (.struct fs)=>some fs.toList|_=>none)
 let r<-op' (ZG P fs cs ds)
 match op with
 | .eql=>pure (.d (.bool r))
 | .neq=>pure (.d (.bool !r))
 |_=> .fail
def aiH(x:V):Acc Bool:=
 match x with
 | .nil _=>pure true
 | .d (.sl _ _ rows)=>do ck (Nat.ble 1 rows.length);pure false
 | .own r ver=>do
  match<-rd r with
  |some (.arr _ _ gI _ rows)=>do ck (Nat.beq ver gI && Nat.ble 1 rows.length);pure false
  |_=> .fail
 |_=> .fail
def sliceT(P:Program)(t:TypeId):Bool:=match P.underlying t with|some (.slice _)=>true|_=>false
def aiI(P:Program)(t:TypeId)(op:BinOp)(x:V):Acc V:=do
 ck (sliceT P t)
 let b<-aiH x
 match op with
 | .eql=>pure (.d (.bool b))
 | .neq=>pure (.d (.bool !b))
 |_=> .fail
def asw(P:Program)(t:TypeId)(op:BinOp)(x y:V):Acc V:=match x with
 | .agg cs=>(match y with| .agg ds=>awF P t op cs ds|_=> .fail)
 |x=>(match y with| .nil _=>aiI P t op x|y=>bin (boolT P t) op x y)
def un(op:UnOp)(x:V):Acc V:=
 match op,x with
 | .neg,.d (.int k n)=> .ret (.d (.int k (k.wrap (0 - n))))
 | .not,.d (.bool b)=> .ret (.d (.bool !b))
 |_,_=> .fail
def amh(c x y:V):Acc V:=
 match c with
 | .d (.bool c)=>match x,y with
  | .d (.bool a),.d (.bool b)=> .ret (.d (.bool (bif c then a else b)))
  |x,y=>match c with
   |true=> .ret x
   |false=> .ret y
 |_=> .fail
def Az(P:Program)(t:TypeId):Bool:=match P.underlying t with|some _=>true|none=>false
def ami(P:Program)(t:TypeId)(a:V):Acc V:=do
 ck (Az P t && Nat.beq (KG P t).length (kK P t))
 match a with
 | .ptr r off=>do
  match<-rd r with
  |some (.box _ cs)=>do
   ck (Nat.ble (off+kK P t) cs.length)
   op' (Fg P t (part cs off (kK P t)))
  |some (.mF _ v)=>do
   ck (Nat.beq off 0 &&(Nat.beq (kK P t) 1 && !(Gj P t)))
   pure v
  |_=> .fail
 | .yt v=>do
  ck (Nat.beq (kK P t) 1 && !(Gj P t))
  pure v
 | .pU row off=>Hf false (KG P t) row off λvs=>op' (Fg P t vs)
 | .rZ r ver i off=>do
  match<-rd r with
  |some (.arr _ _ gI _ rows)=>do
   ck (Nat.beq ver gI)
   let row<-op' rows[i]?
   Hf true (KG P t) row off λvs=>op' (Fg P t vs)
  |some (.D5 gI _ rows)=>do
   ck (Nat.beq ver gI)
   let row<-op' rows[i]?
   Hf true (KG P t) row off λvs=>op' (Fg P t vs)
  |_=> .fail
 |_=> .fail
def kept(off:Nat)(cs:List V)(x:V):Bool:=match off,cs,x with
 |0,[.undef],.ptr _ _=>true
 |_,_,_=>false
def aiJ(P:Program)(t:TypeId)(a x:V):Acc Unit:=do
 ck (Az P t)
 ck (Nat.beq x.cells.length (kK P t))
 ck (x.cells.all one)
 match a with
 | .ptr r off=>do
  match<-rd r with
  |some (.box T cs)=>do
   ck (Nat.ble (off+kK P t) cs.length)
   match kept off cs x with
   |true=>wr r (.mF T x)
   |false=>wr r (.box T (splice cs off x.cells))
  |_=> .fail
 | .rZ r ver i off=>do
  let xs<-Jb x.cells
  match<-rd r with
  |some (.arr false fl gI s rows)=>do
   ck (Nat.beq ver gI)
   ck (Nat.ble (off+kK P t) s)
   let row<-op' rows[i]?
   wr r (.arr false fl ver s (rows.set i (splice row off xs)))
  |_=> .fail
 |_=> .fail
def PY(P:Program)(T:TypeId)(f:Nat):Option (Nat×Nat×TypeId):=
 match P.underlying T with
 |some (.struct fs)=>match fs[f]? with
  |some fd=>some (fd.offset,kK P fd.type,fd.type)
  |none=>none
 |_=>none
def Us(P:Program)(T:TypeId)(a:V)(f:Nat):Acc V:=do
 let(o,n,_)<-op' (PY P T f)
 ck (Nat.ble 1 n)
 match a with
 | .ptr r off=>pure (.ptr r (off+o))
 | .pU row off=>pure (.pU row (off+o))
 | .rZ r ver i off=>pure (.rZ r ver i (off+o))
 |_=> .fail
def aiK(P:Program)(T:TypeId)(x:V)(f:Nat):Acc V:=do
 let(o,n,t)<-op' (PY P T f)
 match x with
 | .agg cs=>do
  ck (Nat.ble (o+n) cs.length)
  ck (Az P t)
  op' (Fg P t (part cs o n))
 |_=> .fail
def Ut(P:Program)(t:TypeId)(x i:V):Acc V:=do
 let e<-op' (elT P t)
 match i with
 | .d (.int _ i)=>
  match x with
  | .d (.sl _ s rows)=>do
   ck (Nat.beq s (kK P e))
   ck (Az P e)
   let row<-op' (idx rows i)
   pure (.pU row 0)
  | .own r ver=>do
   match<-rd r with
   |some (.arr fz fl gI s rows)=>do
    ck (Nat.beq ver gI)
    ck (Nat.beq s (kK P e))
    ck (Az P e)
    match fz with
    |true=>do
     let row<-op' (idx (vw fl rows) i)
     pure (.pU row 0)
    |false=>do
     let _<-op' (idx rows i)
     pure (.rZ r ver i.toNat 0)
   |some (.D5 gI s rows)=>do
    ck (Nat.beq ver gI)
    ck (Nat.beq s (kK P e))
    ck (Az P e)
    let _<-op' (idx rows i)
    pure (.rZ r ver i.toNat 0)
   |_=> .fail
  |_=> .fail
 |_=> .fail
def arT(P:Program)(t:TypeId):Option (Nat×TypeId):=match P.underlying t with|some (.array n e)=>some (n,e)|_=>none
def aff(P:Program)(n:Nat)(e:TypeId)(x i:V):Acc V:=
 match i with
 | .d (.int _ i)=>do
  ck (Az P e)
  ck (decide (0<=i) && decide (i<(n:Int)))
  match x with
  | .pU row off=>pure (.pU row (off+i.toNat * kK P e))
  | .ptr r off=>pure (.ptr r (off+i.toNat * kK P e))
  |_=> .fail
 |_=> .fail
def Uu(P:Program)(t:TypeId)(x i:V):Acc V:=match arT P t with
 |some (n,e)=>aff P n e x i
 |none=>Ut P t x i
def acM:List V->Option Row
 |[]=>some []
 | .d x::vs=>match acM vs with|some r=>some (x::r)|none=>none
 |_::_=>none
def aac(c:CT)(row:Row)(i:Nat):Acc V:=match c with
 | .int k=> .opt (fQ k row i) λn=> .ret (.d (.int k n))
 | .bool=> .opt (acL row i) λb=> .ret (.d (.bool b))
 | .str=> .opt (cStr row i) λs=> .ret (.d (.str s))
 |_=> .fail
def aiL(P:Program)(t:TypeId)(x i:V):Acc V:=
 match P.underlying t,x,i with
 |some .string,.d (.str s),.d (.int _ i)=> .opt (idx s i) λb=> .ret (.d (.int .u8 b.toNat))
 |some (.array n e),.agg cs,.d (.int _ i)=>do
  ck (Nat.beq (kK P e) 1 &&(Nat.beq cs.length n &&(Az P e && !(Gj P e))))
  ck (decide (0<=i) && decide (i<(n:Int)))
  let row<-op' (acM cs)
  aac (match KG P e with|[c]=>c|_=> .other) row i.toNat
 |_,_,_=> .fail
def lenV(x:V):Acc V:=
 match x with
 | .d (.str s)=> .ret (.d (.int .i64 s.length))
 | .own r ver=>do
  match<-rd r with
  |some (.arr _ _ gI _ rows)=>do ck (Nat.beq ver gI);pure (.d (.int .i64 rows.length))
  |some (.D5 gI _ rows)=>do ck (Nat.beq ver gI);pure (.d (.int .i64 rows.length))
  |_=> .fail
 | .d (.sl _ _ rows)=> .ret (.d (.int .i64 rows.length))
 | .nil _=> .ret (.d (.int .i64 0))
 |_=> .fail
def QT:Nat:=140737488355328
def QU(P:Program)(e:TypeId):Nat:=match P.info? e with|some i=>i.bytes|none=>QT
def tail(P:Program)(e:TypeId)(y:V):Acc (List Row):=
 match y with
 | .d (.str s)=>do
  ck (Nat.beq (kK P e) 1)
  pure (s.map byteRow)
 | .d (.sl _ s rows)=>do
  ck (Nat.beq s (kK P e))
  pure (vw (pq P e) rows)
 | .nil _=>pure []
 | .own r ver=>do
  match<-rd r with
  |some (.arr fz fl gI s rows)=>do
   ck (Nat.beq ver gI)
   ck (Nat.beq s (kK P e))
   match pq P e with
   |true=>do
    ck (fl||fz)
    pure rows
   |false=>do
    ck (!fl)
    match fz with
    |true=>pure (bJ rows)
    |false=>do
     wr r .dead
     pure rows
  |_=> .fail
 |_=> .fail
def adX(P:Program)(dst:Nat)(t ty:TypeId)(x y:V):Acc V:=do
 let e<-op' (elT P t)
 ck (Nat.ble 1 (kK P e))
 ck (match P.underlying ty with|some (.slice _)=>true|some .string=>true|_=>false)
 let z<-op' (JD P e)
 ck (Nat.beq z.length (kK P e))
 let ys<-tail P e y
 match x with
 | .nil _=>do
  ck (Nat.ble (ys.length * QU P e) QT)
  ck (Nat.ble ys.length QT)
  new dst (.arr false (pq P e) 0 (kK P e) ys)
  pure (.own dst 0)
 | .own r ver=>do
  match<-rd r with
  |some (.arr false fl gI s rows)=>do
   ck (Nat.beq ver gI)
   ck (Nat.beq s (kK P e))
   ck (match fl,pq P e with|true,true=>true|false,false=>true|_,_=>false)
   ck (Nat.ble ((rows.length+ys.length) * QU P e) QT)
   ck (Nat.ble (rows.length+ys.length) QT)
   wr r (.arr false fl (ver+1) s (rows++ys))
   pure (.own r (ver+1))
  |some (.D5 gI s rows)=>do
   ck (Nat.beq ver gI)
   ck (Nat.beq s (kK P e))
   ck (pq P e)
   ck (Nat.ble ((rows.length+ys.length) * QU P e) QT)
   ck (Nat.ble (rows.length+ys.length) QT)
   wr r (.D5 (ver+1) s (rows++ys))
   pure (.own r (ver+1))
  |_=> .fail
 |_=> .fail
def afg(P:Program)(e:TypeId):Acc Row:=do
 let z<-op' (JD P e)
 Jb z
def Uw(P:Program)(dst:Nat)(t:TypeId)(l c:V):Acc V:=do
 let e<-op' (elT P t)
 ck (Nat.ble 1 (kK P e))
 let z<-afg P e
 ck (Nat.beq z.length (kK P e))
 match l,c with
 | .d (.int _ l),.d (.int _ c)=>do
  ck (decide (0<=l) && decide (l<=c) && decide (c * QU P e<=QT) && decide (c<=QT))
  new dst (.arr false (pq P e) 0 (kK P e) (List.replicate l.toNat z))
  pure (.own dst 0)
 |_,_=> .fail
def bound(o:Option V)(d:Int):Acc Int:=match o with
 |none=> .ret d
 |some (.d (.int _ n))=> .ret n
 |some _=> .fail
def aiM(P:Program)(t:TypeId)(x:V)(lo hi:Option V):Acc V:=
 match x with
 | .d (.str s)=>do
  ck (match P.underlying t with|some .string=>true|_=>false)
  let l<-bound lo 0
  let h<-bound hi s.length
  let s'<-op' (cut s l h)
  pure (.d (.str s'))
 |_=>do
  let e<-op' (elT P t)
  ck (Az P e)
  let(s,rows)<-seen x
  ck (Nat.beq s (kK P e))
  let l<-bound lo 0
  let h<-bound hi rows.length
  let rows'<-op' (cut rows l h)
  match x with
  | .own r ver=>do
   match<-rd r with
   |some (.arr _ fl gI s rows)=>do
    ck (Nat.beq ver gI)
    wr r (.arr true fl ver s rows)
    pure (.d (.sl false s rows'))
   |_=> .fail
  |_=>pure (.d (.sl false s rows'))
def adY(P:Program)(t:TypeId)(x:V)(lo hi:Option V):Acc V:=
 match x with
 | .pU row off=>do
  let(n,e)<-op' (arT P t)
  ck (Az P e)
  ck (Nat.beq (kK P e) 1 &&(Nat.beq off 0 && Nat.beq row.length n))
  match lo,hi with
  |none,none=>pure (.d (.sl false 1 (row.map λx=>[x])))
  |_,_=> .fail
 |x=>aiM P t x lo hi
def aiN(P:Program)(t:TypeId)(x:V)(hi:Option V):Acc V:=do
 let e<-op' (elT P t)
 ck (Az P e)
 match x with
 | .own r ver=>do
  match<-rd r with
  |some (.arr false fl gI s rows)=>do
   ck (Nat.beq ver gI)
   ck (Nat.beq s (kK P e))
   let h<-bound hi rows.length
   ck (decide (0<=h) && decide (h<=(rows.length:Int)))
   wr r (.arr false fl (ver+1) s (rows.take h.toNat))
   pure (.own r (ver+1))
  |_=> .fail
 |_=> .fail
def amj(P:Program)(t:TypeId)(x lo:V):Acc V:=do
 let e<-op' (elT P t)
 ck (Az P e)
 let l<-bound (some lo) 0
 match x with
 | .own r ver=>do
  match<-rd r with
  |some (.arr false true gI s rows)=>do
   ck (Nat.beq ver gI)
   ck (Nat.beq s (kK P e))
   ck (decide (0<=l) && decide (l<=(rows.length:Int)))
   wr r (.D5 (ver+1) s (rows.drop l.toNat))
   pure (.own r (ver+1))
  |some (.D5 gI s rows)=>do
   ck (Nat.beq ver gI)
   ck (Nat.beq s (kK P e))
   ck (decide (0<=l) && decide (l<=(rows.length:Int)))
   wr r (.D5 (ver+1) s (rows.drop l.toNat))
   pure (.own r (ver+1))
  |_=> .fail
 |_=> .fail
def rQ(P:Program)(T:TypeId)(tm:jv):List (Nat×Operand)->List V->Acc (List V)
 |[],cs=>pure cs
 |(f,x)::ps,cs=>do
  let(o,n,t)<-op' (PY P T f)
  let v:=ev P tm t x
  ck (Nat.beq v.cells.length n)
  ck (v.cells.all one)
  ck (Nat.ble (o+n) cs.length)
  rQ P T tm ps (splice cs o v.cells)
def afh(P:Program)(T:TypeId):Bool:=match P.underlying T with
 |some (.struct fs)=>fs.toList.all λf=>match P.info? f.type with|some _=>true|none=>false
 |_=>false
def oZ(P:Program)(e:TypeId)(tm:jv):List (Nat×Operand)->List V->Acc (List V)
 |[],cs=>pure cs
 |(i,x)::ps,cs=>do
  let v:=ev P tm e x
  ck (Nat.beq v.cells.length (kK P e))
  ck (v.cells.all one)
  ck (Nat.ble (i * kK P e+kK P e) cs.length)
  oZ P e tm ps (splice cs (i * kK P e) v.cells)
def adZ(P:Program)(T:TypeId)(tm:jv)(ps:List (Nat×Operand)):Acc V:=do
 ck (afh P T)
 let z<-op' (JD P T)
 let cs<-rQ P T tm ps z
 pure (.agg cs)
def aiO(P:Program)(T e:TypeId)(tm:jv)(ps:List (Nat×Operand)):Acc V:=do
 ck (Az P e)
 let z<-op' (JD P T)
 let cs<-oZ P e tm ps z
 pure (.agg cs)
def ad1(P:Program)(T:TypeId)(tm:jv)(ps:List (Nat×Operand)):Acc V:=match arT P T with
 |some (_,e)=>aiO P T e tm ps
 |none=>adZ P T tm ps
def rU(P:Program)(e:TypeId)(tm:jv):Nat->List (Nat×Operand)->Acc (List Row)
 |_,[]=>pure []
 |k,(i,x)::ps=>do
  ck (Nat.beq i k)
  let v:=ev P tm e x
  ck (Nat.beq v.cells.length (kK P e))
  let row<-Jb v.cells
  let rows<-rU P e tm (k+1) ps
  pure (row::rows)
def NW(P:Program)(dst:Nat)(t:TypeId)(n:Nat)(tm:jv)(ps:List (Nat×Operand)):Acc V:=do
 let e<-op' (elT P t)
 ck (Nat.ble 1 (kK P e))
 ck (Nat.beq ps.length n)
 ck (Nat.ble (n * kK P e) 16777216)
 let _<-op' (JD P e)
 let rows<-rU P e tm 0 ps
 new dst (.arr false (pq P e) 0 (kK P e) rows)
 pure (.own dst 0)
def aad(P:Program)(src dst:TypeId)(x:V):Acc V:=
 match P.underlying src,P.underlying dst with
 |some (.int _),some (.int k)=>match x with
  | .d (.int _ n)=> .ret (.d (.int k (k.wrap n)))
  |_=> .fail
 |some .string,some .string=>match x with
  | .d (.str s)=> .ret (.d (.str s))
  |_=> .fail
 |some (.slice e),some .string=>do
  ck (match P.underlying e with|some (.int .u8)=>true|_=>false)
  let(s,rows)<-seen x
  ck (Nat.beq s 1)
  let b<-op' (bytesOf rows)
  pure (.d (.str b))
 |_,_=> .fail
def kN:Nat:=100000
def ad2(r:Nat)(l:List Nat):List Nat:=bif mem? r l then l else l++[r]
mutual
def afi(I:List Nat):V->List Nat
 | .ptr r _=>ad2 r I
 | .clo _ a b=>acN (acN I a) b
 | .agg cs=>acN I cs
 | .yt v=>afi I v
 |_=>I
def acN(I:List Nat):List V->List Nat
 |[]=>I
 |v::vs=>acN (afi I v) vs
end
def BD(A:Adv)(f i:Nat):Nat:=bif mem? i (A.move f) then 1 else bif mem? i (A.ref f) then 2 else bif mem? i (A.raw f) then 3 else bif mem? i (A.look f) then 4 else 0
def LK(A:Adv)(f:Nat):Nat->List Nat->List V->List Nat
 |_,I,[]=>I
 |i,I,v::vs=>LK A f (i+1) (match BD A f i,v with
  |2,.own r _=>ad2 r I
  |4,_=>I
  |_,v=>afi I v) vs
def idxOf(r:Nat):Nat->List Nat->Option Nat
 |_,[]=>none
 |i,j::l=>bif Nat.beq r j then some i else idxOf r (i+1) l
def OW(A:Adv)(f:Nat):Nat->List V->Acc (List V)
 |_,[]=>pure []
 |i,v::vs=>do
  let v<-(match BD A f i with
   |1=>do
    let x<-toD v
    pure (.d x)
   |_=>pure v:Acc V)
  let vs<-OW A f (i+1) vs
  pure (v::vs)
mutual
def lend(imp:List Nat):V->Acc (V×List Nat)
 | .d x=>pure (.d (roD x),[])
 | .nil s=>pure (.d (.sl false s []),[])
 | .own r ver=>do
  match<-rd r with
  |some (.arr fz fl gI s rows)=>do
   ck (Nat.beq ver gI)
   ck (!(mem? r imp))
   pure (.d (.sl false s (vw fl rows)),bif fz then[] else[r])
  |_=> .fail
 | .ptr r off=>do
  let i<-op' (idxOf r 0 imp)
  pure (.ptr (kN+i) off,[])
 | .pU row off=>pure (.pU row off,[])
 | .yt v=>do
  let(v,l)<-lend imp v
  pure (.yt v,l)
 | .clo f a b=>do
  let(a,l)<-aae imp a
  let(b,l')<-aae imp b
  pure (.clo f a b,l++l')
 | .agg cs=>do
  let(a,l)<-aae imp cs
  pure (.agg a,l)
 | .rZ ..=> .fail
 | .yu _=> .fail
 | .undef=> .fail
def aae(imp:List Nat):List V->Acc (List V×List Nat)
 |[]=>pure ([],[])
 |v::vs=>do
  let(v,l)<-lend imp v
  let(vs,l')<-aae imp vs
  pure (v::vs,l++l')
end
def OX(imp:List Nat):List V->Acc (Row×List Nat)
 |[]=>pure ([],[])
 |v::vs=>do
  let(v,l)<-lend imp v
  match v with
  | .d x=>do
   let(r,l')<-OX imp vs
   pure (x::r,l++l')
  |_=> .fail
def ZH(imp:List Nat)(v:V):Acc (V×List Nat):=
 match v with
 | .ptr r off=>do
  match<-rd r with
  |some (.box _ cs)=>do
   ck (!(mem? r imp))
   let(row,l)<-OX imp cs
   pure (.pU row off,r::l)
  |_=> .fail
 | .pU row off=>pure (.pU row off,[])
 |_=> .fail
def OY(A:Adv)(imp:List Nat)(f:Nat):Nat->List V->Acc (List V×List Nat)
 |_,[]=>pure ([],[])
 |i,v::vs=>do
  let(v,l)<-(match BD A f i with
   |1=>pure (v,[])
   |2=>match v with
    | .own r ver=>do
     ck (Nat.beq ver 0)
     let i<-op' (idxOf r 0 imp)
     pure (.own (kN+i) 0,[])
    |_=> .fail
   |3=>match v with
    | .nil s=>pure (.nil s,[])
    |_=> .fail
   |4=>ZH imp v
   |_=>lend imp v:Acc (V×List Nat))
  let(vs,l')<-OY A imp f (i+1) vs
  pure (v::vs,l++l')
def amk(imp:List Nat)(own:Bool)(v:V):Acc V:=
 match v with
 | .d x=>pure (.d (roD x))
 | .nil s=>pure (.d (.sl own s []))
 | .own r ver=>do
  match<-rd r with
  |some (.arr fz fl gI s rows)=>do
   ck (Nat.beq ver gI)
   ck (!(mem? r imp))
   match own with
   |true=>do
    ck (!fz)
    ck (TP fl rows)
    wr r .dead
    pure (.d (.sl true s rows))
   |false=>do
    wr r (.arr true fl ver s rows)
    pure (.d (.sl false s (vw fl rows)))
  |_=> .fail
 |_=> .fail
def QV(imp own:List Nat):Nat->List V->Acc (List V)
 |_,[]=>pure []
 |j,v::vs=>do
  let v<-amk imp (mem? j own) v
  let vs<-QV imp own (j+1) vs
  pure (v::vs)
def ad3(A:Adv)(imp:List Nat)(c:Option Cell):Acc Cell:=
 match c with
 |some (.box t cs)=>do
  let cs<-QV imp (A.awD t) 0 cs
  pure (.box t cs)
 |some (.arr fz fl ver s rows)=>do
  ck (!fz)
  ck (Nat.beq ver 0)
  pure (.arr fz fl 0 s rows)
 |_=> .fail
def QW(A:Adv)(imp:List Nat):List Nat->Acc (List Cell)
 |[]=>pure []
 |r::rs=>do
  let c<-rd r
  let c<-ad3 A imp c
  let cs<-QW A imp rs
  pure (c::cs)
def keyOf(r j dst:Nat):Nat:=1000000+(r * 100+j) * 10000+dst
def vD:V->D
 | .d x=>x
 |_=> .MN
def aml(cs:List Cell)(i:Nat):Row:=match cs[i]? with|some (.box _ vs)=>vs.map vD|_=>[]
def amm(s:Nat)(cs:List Cell)(i:Nat):Option (List Row):=match cs[i]? with|some (.arr false _ 0 s' rows)=>bif Nat.beq s s' then some rows else none|_=>none
def amn(cs:List Cell)(i n:Nat):Bool:=match cs[i]? with|some (.box _ vs)=>Nat.beq vs.length n|_=>false
def amo(f:TypeId->List Bool):List TypeId->List Bool
 |[]=>[]
 |t::ts=>f t++amo f ts
def fls(P:Program):Nat->TypeId->List Bool
 |0,_=>[]
 |n+1,t=>match P.underlying t with
  |some (.slice e)=>[pq P e]
  |some (.struct fs)=>amo (fls P n) (fs.toList.map (·.type))
  |_=>[false]
def KH(own fl:Bool)(key:Nat)(row:Row)(j:Nat):CT->Acc V
 | .int k=> .opt (fQ k row j) λn=> .ret (.d (.int k n))
 | .bool=> .opt (acL row j) λn=> .ret (.d (.bool n))
 | .str=> .opt (cStr row j) λn=> .ret (.d (.str n))
 | .sl s=>match own with
  |true=> .opt (aiE s row j) λrows=>do
   new key (.arr false fl 0 s rows)
   pure (.own key 0)
  |false=> .opt (SK s row j) λrows=> .ret (.d (.sl false s (vw fl rows)))
 | .other=> .fail
def VH(own:List Nat)(r dst:Nat)(row:Row):Nat->List CT->List Bool->Acc (List V)
 |_,[],_=>pure []
 |j,ct::l,fs=>do
  let v<-KH (mem? j own) (fs.headD false) (keyOf r j dst) row j ct
  let vs<-VH own r dst row (j+1) l fs.tail
  pure (v::vs)
def Yk(X:Ctx)(dst:Nat)(out:List Cell):Nat->List Nat->Acc Unit
 |_,[]=>pure ()
 |i,r::rs=>do
  match<-rd r with
  |some (.box t _)=>do
   ck (amn out i (KG X.P t).length)
   let vs<-VH (X.G8.awD t) r dst (aml out i) 0 (KG X.P t) (fls X.P 8 t)
   wr r (.box t vs)
  |some (.arr _ fl ver s _)=>do
   let rows<-op' (amm s out i)
   wr r (.arr false fl ver s rows)
  |_=> .fail
  Yk X dst out (i+1) rs
def asx(dst c:Nat):Nat:=1000000000000000+dst * 1000+c
def QX(Zc:List Nat)(dst ri:Nat)(row:Row):Nat->List CT->List Bool->Acc (List V)
 |_,[],_=>pure []
 |j,ct::l,fs=>do
  let v<-KH (mem? (ri * 20+j) Zc) (fs.headD false) (asx dst (ri * 20+j)) row j ct
  let vs<-QX Zc dst ri row (j+1) l fs.tail
  pure (v::vs)
def VI(res:List Row)(ri:Nat):Row:=match res[ri]? with|some r=>r|none=>[]
def Ux(X:Ctx)(Zc:List Nat)(dst:Nat)(res:List Row):Nat->List TypeId->Acc (List V)
 |_,[]=>pure []
 |ri,t::ts=>do
  ck (Nat.beq (VI res ri).length (KG X.P t).length)
  let cs<-QX Zc dst ri (VI res ri) 0 (KG X.P t) (fls X.P 8 t)
  let v<-op' (Fg X.P t cs)
  let vs<-Ux X Zc dst res (ri+1) ts
  pure (v::vs)
def aiP(Zc:List Nat)(ri:Nat):Nat->List CT->Bool
 |_,[]=>true
 |j,.sl _::l=>mem? (ri * 20+j) Zc && aiP Zc ri (j+1) l
 |j,_::l=>aiP Zc ri (j+1) l
def SL(P:Program)(Zc:List Nat):Nat->List TypeId->Bool
 |_,[]=>true
 |ri,t::ts=>aiP Zc ri 0 (KG P t) && SL P Zc (ri+1) ts
def freeze:List Nat->Acc Unit
 |[]=>pure ()
 |r::rs=>do
  match<-rd r with
  |some (.arr _ fl ver s rows)=>wr r (.arr true fl ver s rows)
  |_=> .fail
  freeze rs
def VJ(X:Ctx)(K:iE)(fn dst f:Nat)(args:List V):Acc V:=do
 let g<-op' X.P.funcs[f]?
 ck (g.body.isSome && !(g.name == "runtime.NumGoroutine"))
 let imp:=LK X.G8 f 0 [] args
 let args<-OW X.G8 f 0 args
 let cells<-QW X.G8 imp imp
 let(args,KI)<-OY X.G8 imp f 0 args
 ck (KI.all λr=> !(mem? r imp))
 let out<-op' (K f args cells)
 ck (Nat.beq out.1.length g.resultTypes.size)
 let need:= !(KI.isEmpty) &&(SL X.P (X.G8.Zc fn dst) 0 g.resultTypes.toList && imp.isEmpty)
 ck (bif need then out.1.all eY else true)
 freeze (bif need then[] else KI)
 Yk X dst out.2 0 imp
 let vs<-Ux X (X.G8.Zc fn dst) dst out.1 0 g.resultTypes.toList
 match vs with
 |[v]=>pure v
 |vs=>pure (.yu vs)
def awG(P:Program)(ts:List TypeId)(x:V):Bool:=match ts with
 |[t]=>(match x with
  | .d (.str _)=>(match P.underlying t with|some .string=>true|_=>false)
  |_=>(match P.underlying t with|some (.slice _)=>true|_=>false))
 |_=>false
def qP(P:Program)(tm:jv):List Operand->List TypeId->List V
 |[],_=>[]
 |x::xs,ts=>ev P tm (ts.headD 0) x::qP P tm xs ts.tail
def afj:List V->Acc (List V)
 |[]=>pure []
 |v::vs=>do
  let v<-(match v with
   | .ptr r off=>do
    match<-rd r with
    |some (.mF _ x)=>do
     ck (Nat.beq off 0)
     pure (.yt x)
    |_=>pure (.ptr r off)
   |v=>pure v:Acc V)
  let vs<-afj vs
  pure (v::vs)
def vop(X:Ctx)(K:iE)(fn:Nat)(tm:jv)(o:Oper):Acc V:=
 let P:=X.P
 let dst:=o.dst.getD 0
 match o.op with
 | .move x=>pure (ev P tm o.type x)
 | .assign x=>pure (ev P tm o.type x)
 | .pick c x y=>amh (ev P tm o.type c) (ev P tm o.type x) (ev P tm o.type y)
 | .alloc T=>do
  let z<-op' (JD P T)
  new dst (.box T z)
  pure (.ptr dst 0)
 | .box T x=>do
  let v:=ev P tm T x
  ck (Nat.beq v.cells.length (kK P T))
  ck (v.cells.all one)
  new dst (.box T v.cells)
  pure (.ptr dst 0)
 | .build T ps=>ad1 P T tm ps.toList
 | .buildSlice t n ps=>NW P dst t n tm ps.toList
 | .load t a=>ami P t (evG X tm 0 a)
 | .store t a x=>do aiJ P t (ev P tm 0 a) (ev P tm t x);pure .undef
 | .nilCheck x=>match evG X tm o.type x with
  | .ptr r off=>pure (.ptr r off)
  | .pU row off=>pure (.pU row off)
  | .rZ r ver i off=>pure (.rZ r ver i off)
  |_=> .fail
 | .binOp op t x y t'=>asw P t op (ev P tm t x) (ev P tm t' y)
 | .unOp op t x=>un op (ev P tm t x)
 | .convert s d x=>aad P s d (ev P tm s x)
 | .makeFunc (.func f) first caps=>do
  let cs<-afj (qP P tm caps.toList [])
  pure (.clo f (qP P tm first.toList []) cs)
 | .makeSlice t l c=>Uw P dst t (ev P tm o.type l) (ev P tm o.type c)
 | .slice t x lo hi none=>match X.G8.trunc fn dst,lo,hi with
  |true,none,hi=>aiN P t (ev P tm t x) (hi.map (ev P tm 3))
  |true,some lo,none=>amj P t (ev P tm t x) (ev P tm 3 lo)
  |_,lo,hi=>adY P t (evG X tm t x) (lo.map (ev P tm 3)) (hi.map (ev P tm 3))
 | .fieldAddr T x f=>Us P T (ev P tm 0 x) f
 | .field T x f=>aiK P T (ev P tm T x) f
 | .indexAddr t x i=>Uu P t (evG X tm t x) (ev P tm 3 i)
 | .index t x i=>aiL P t (ev P tm t x) (ev P tm 3 i)
 | .extract x i=>match ev P tm 0 x with
  | .yu vs=>op' vs[i]?
  |_=> .fail
 | .call {callee:=.value f,args,argTypes}=>match ev P tm 0 f with
  | .clo g first caps=>VJ X K fn dst g (first++qP P tm args.toList argTypes.toList++caps)
  |_=> .fail
 | .call {callee:=.builtin .len,args,argTypes}=>match qP P tm args.toList argTypes.toList with
  |[x]=>do
   ck (awG P argTypes.toList x)
   lenV x
  |_=> .fail
 | .call {callee:=.builtin .append,args,argTypes}=>match qP P tm args.toList argTypes.toList,argTypes.toList with
  |[x,y],[t,t']=>adX P dst t t' x y
  |_,_=> .fail
 | .call {callee:=.builtin .max,args,argTypes}=>match qP P tm args.toList argTypes.toList with
  |[.d (.int k x),.d (.int _ y)]=>pure (.d (.int k (bif decide (x<y) then y else x)))
  |_=> .fail
 | .call {callee:=.builtin .min,args,argTypes}=>match qP P tm args.toList argTypes.toList with
  |[.d (.int k x),.d (.int _ y)]=>pure (.d (.int k (bif decide (y<x) then y else x)))
  |_=> .fail
 |_=> .fail
end Go.Vm
namespace Go.Vm
open Go
mutual
def refs:V->List Nat
 | .own r _=>[r]
 | .ptr r _=>[r]
 | .rZ r _ _ _=>[r]
 | .clo _ a b=>JE a++JE b
 | .agg cs=>JE cs
 | .yu vs=>JE vs
 | .yt v=>refs v
 |_=>[]
def JE:List V->List Nat
 |[]=>[]
 |v::vs=>refs v++JE vs
end
def aaf(m:Mem)(r:Nat):List Nat:=match get r m with
 |some (.box _ cs)=>JE cs
 |some (.mF _ v)=>refs v
 |_=>[]
def Jf(k:Nat):Bool:=Nat.ble kN k && Nat.blt k (2 * kN)
def VK:List Nat->List Nat->List Nat
 |acc,[]=>acc
 |acc,k::ks=>VK (bif mem? k acc then acc else acc++[k]) ks
def apE(tm:jv)(m:Mem):List Nat:=
 let l0:=VK [] (tm.flatMap λx=>refs x.2)
 let l1:=VK l0 (l0.flatMap (aaf m))
 let l2:=VK l1 (l1.flatMap (aaf m))
 (VK l2 (m.map (·.1))).filter λk=> !(Jf k)
def names:List Nat:=[nat_lit 300000,nat_lit 300001,nat_lit 300002,nat_lit 300003,nat_lit 300004,nat_lit 300005,nat_lit 300006,nat_lit 300007,nat_lit 300008,nat_lit 300009,nat_lit 300010,nat_lit 300011,nat_lit 300012,nat_lit 300013,nat_lit 300014,nat_lit 300015,nat_lit 300016,nat_lit 300017,nat_lit 300018,nat_lit 300019,nat_lit 300020,nat_lit 300021,nat_lit 300022,nat_lit 300023,nat_lit 300024,nat_lit 300025,nat_lit 300026,nat_lit 300027,nat_lit 300028,nat_lit 300029,nat_lit 300030,nat_lit 300031,nat_lit 300032,nat_lit 300033,nat_lit 300034,nat_lit 300035,nat_lit 300036,nat_lit 300037,nat_lit 300038,nat_lit 300039,nat_lit 300040,nat_lit 300041,nat_lit 300042,nat_lit 300043,nat_lit 300044,nat_lit 300045,nat_lit 300046,nat_lit 300047,nat_lit 300048,nat_lit 300049,nat_lit 300050,nat_lit 300051,nat_lit 300052,nat_lit 300053,nat_lit 300054,nat_lit 300055,nat_lit 300056,nat_lit 300057,nat_lit 300058,nat_lit 300059,nat_lit 300060,nat_lit 300061,nat_lit 300062,nat_lit 300063]
def apF:List Nat->List Nat->List (Nat×Nat)
 |n::ns,k::l=>(k,n)::apF ns l
 |_,_=>[]
def ren(L:List (Nat×Nat))(k:Nat):Nat:=match get k L with
 |some j=>j
 |none=>k
mutual
def KY(L:List (Nat×Nat)):V->V
 | .d x=> .d x
 | .nil s=> .nil s
 | .own r ver=> .own (ren L r) ver
 | .ptr r off=> .ptr (ren L r) off
 | .rZ r ver i off=> .rZ (ren L r) ver i off
 | .pU row off=> .pU row off
 | .yt v=> .yt (KY L v)
 | .clo f a b=> .clo f (QY L a) (QY L b)
 | .agg cs=> .agg (QY L cs)
 | .yu vs=> .yu (QY L vs)
 | .undef=> .undef
def QY(L:List (Nat×Nat)):List V->List V
 |[]=>[]
 |v::vs=>KY L v::QY L vs
end
def aag(L:List (Nat×Nat)):Cell->Cell
 | .box t cs=> .box t (QY L cs)
 | .arr fz fl ver s rows=> .arr fz fl ver s rows
 | .dead=> .dead
 | .D5 ver s rows=> .D5 ver s rows
 | .mF t v=> .mF t (KY L v)
def MO(L:List (Nat×Nat)):Mem->Mem
 |[]=>[]
 |(k,c)::m=>put (ren L k) (aag L c) (MO L m)
def aah(L:List (Nat×Nat)):jv->jv
 |[]=>[]
 |(t,v)::tm=>(t,KY L v)::aah L tm
def nodupB:List Nat->Bool
 |[]=>true
 |k::l=> !(mem? k l) && nodupB l
def VL(L:List (Nat×Nat))(ks:List Nat):Bool:=nodupB (ks.map (ren L)) && ks.all λk=>bif Jf k then Nat.beq (ren L k) k else true
def ad4(L:List (Nat×Nat))(S:St):St:=match VL L (S.mem.map (·.1)) with
 |true=>⟨aah L S.tm,MO L S.mem⟩
 |false=>S
def canon(S:St):St:=match apE S.tm S.mem with
 |[]=>S
 |k::o=>ad4 (apF names (k::o)) S
end Go.Vm
namespace Go.Vm
open Go
mutual
def PZ(m:Mem):V->V
 | .d x=> .d x
 | .nil s=> .nil s
 | .own r ver=>match get r m with
  |some (.arr _ _ gI _ _)=>bif Nat.beq ver gI then .own r 0 else .undef
  |some (.D5 gI _ _)=>bif Nat.beq ver gI then .own r 0 else .undef
  |_=> .undef
 | .ptr r off=>match get r m with
  |some (.box _ _)=> .ptr r off
  |some (.mF _ _)=> .ptr r off
  |_=> .undef
 | .rZ r ver i off=>match get r m with
  |some (.arr _ _ gI _ _)=>bif Nat.beq ver gI then .rZ r 0 i off else .undef
  |some (.D5 gI _ _)=>bif Nat.beq ver gI then .rZ r 0 i off else .undef
  |_=> .undef
 | .pU row off=> .pU row off
 | .yt v=> .yt (PZ m v)
 | .clo f a b=> .clo f (TQ m a) (TQ m b)
 | .agg cs=> .agg (TQ m cs)
 | .yu vs=> .yu (TQ m vs)
 | .undef=> .undef
def TQ(m:Mem):List V->List V
 |[]=>[]
 |v::vs=>PZ m v::TQ m vs
end
def zV(m:Mem):Cell->Cell
 | .box t cs=> .box t (TQ m cs)
 | .arr fz fl _ s rows=> .arr fz fl 0 s rows
 | .dead=> .dead
 | .D5 _ s rows=> .D5 0 s rows
 | .mF t v=> .mF t (PZ m v)
def Uy(m:Mem)(tm:jv):List Nat->jv
 |[]=>[]
 |t::ts=>match get t tm with
  |some v=>(t,PZ m v)::Uy m tm ts
  |none=>Uy m tm ts
def Uz:List Nat->List Nat->List Nat
 |[],l=>l
 |a::as,l=>bif mem? a l then Uz as l else Uz as (a::l)
def reach(m:Mem):Nat->List Nat->List Nat
 |0,l=>l
 |n+1,l=>reach m n (Uz (l.flatMap (aaf m)) l)
def roots(tm:jv)(m:Mem):List Nat:=
 Uz (tm.flatMap λx=>refs x.2) ((m.map (·.1)).filter Jf)
def nY(all:Mem)(R:List Nat):Mem->Mem
 |[]=>[]
 |(k,c)::m=>match c with
  | .dead=>nY all R m
  |c=>bif mem? k R then(k,zV all c)::nY all R m else nY all R m
def closed(R:List Nat)(m:Mem):Bool:=m.all λx=>match x.2 with
 | .box _ cs=>(JE cs).all λr=>mem? r R
 | .mF _ v=>(refs v).all λr=>mem? r R
 |_=>true
def awH(m:Mem):Bool:=m.all λx=>match x.2 with
 | .arr _ _ ver _ _=>bif Jf x.1 then Nat.beq ver 0 else true
 | .dead=> !(Jf x.1)
 | .D5 ..=> !(Jf x.1)
 |_=>true
def sortedK:Mem->Bool
 |[]=>true
 |(k,_)::m=>match m with
  |[]=>true
  |(j,_)::_=>Nat.blt k j && sortedK m
def UA(ts:List Nat)(S:St):Option St:=
 let tm:=Uy S.mem S.tm ts
 let R:=reach S.mem 3 (roots tm S.mem)
 let m:=nY S.mem R S.mem
 bif closed R m &&(awH S.mem && sortedK S.mem) then some ⟨tm,m⟩ else none
def prune(ts:List Nat)(S:St):Option St:=match UA ts S with
 |some S'=>some (canon S')
 |none=>none
def zW(ops:Array Oper)(tm:jv)(o:Oper):Option (Bool×jv):=
 match o.guard with
 |none=>some (true,tm)
 |some (j,want)=>match ops[j]? with
  |some oj=>match oj.dst with
   |some d=>match PX d tm with
    | .d (.bool b)=>match b with
     |true=>some (want,put d (.d (.bool true)) tm)
     |false=>some (!want,put d (.d (.bool false)) tm)
    | .yu vs=>match vs with
     |[]=>some (false,put d (.yu []) tm)
     |_::_=>none
    |_=>none
   |none=>none
  |none=>none
def Jc(nt:Nat):Option Nat->Bool
 |some d=>Nat.blt d nt
 |none=>true
def D7(P:Program)(fn:Nat):Nat:=match P.funcs[fn]? with|some g=>g.ntmps|none=>0
def Yl(nt:Nat)(dst:Option Nat)(tm:jv):jv:=bif Jc nt dst then Ur dst (.yu []) tm else apC dst tm
def yh(X:Ctx)(K:iE)(fn:Nat)(ops:Array Oper)(i:Nat)(S:St):Option (St×Log):=
 match ops[i]? with
 |none=>none
 |some o=>match zW ops S.tm o with
  |none=>none
  |some (false,tm)=>some (⟨Yl (D7 X.P fn) o.dst tm,S.mem⟩,.none)
  |some (true,tm)=>match(vop X K fn tm o).run S.mem .none with
   |none=>none
   |some (v,m,l)=>bif Jc (D7 X.P fn) o.dst then some (⟨Ur o.dst v tm,m⟩,l) else none
def uz(X:Ctx)(K:iE)(fn:Nat)(ops:Array Oper):List Nat->St->List (Nat×Log)->Option (St×List (Nat×Log))
 |[],S,L=>some (S,L)
 |i::is,S,L=>match yh X K fn ops i S with
  |none=>none
  |some (S',l)=>uz X K fn ops is S' ((i,l)::L)
def apG(a b:List Nat):Bool:=a.all λk=> !(mem? k b)
def Log.apart(a b:Log):Bool:=apG a.w b.r && apG a.w b.w && apG a.r b.w
def ordered(bef:Array Nat)(i j:Nat):Bool:=(bef.getD i 0).testBit j
def QZ(ops:Array Oper)(bef:Array Nat):List (Nat×Log)->Bool
 |[]=>true
 |(i,l)::L=>(L.all fun(j,l')=>ordered bef i j||(l.apart l' &&(match ops[i]?,ops[j]? with
   |some a,some b=>a.apart ops b
   |_,_=>false))) && QZ ops bef L
def Q5:Nat->List Oper->Bool
 |_,[]=>true
 |i,o::l=>(o.after.toList.all λe=> !(Region.binds .any e)||Nat.blt e.on i) && Q5 (i+1) l
def backOk(ops:Array Oper):Bool:=Q5 0 ops.toList
def asy(d:Nat):Operand->Bool
 | .tmp t=> !(Nat.beq t d)
 |_=>true
def ajV(args:Array Operand)(d1 d2:Nat):Bool:=match args.toList with
 |[.tmp a,.tmp b]=>Nat.beq a d1 && Nat.beq b d2
 |_=>false
def VN:List Row×List Cell->Option (IntKind×Int×Bool×Nat×List Row)
 |([[.int k n]],[.arr false fl' 0 s' rs'])=>some (k,n,fl',s',rs')
 |_=>none
def aai(e:Nat)(fl:Bool)(q:IntKind×Int×Bool×Nat×List Row):Bool:=Nat.beq q.2.2.2.1 e &&((fl==q.2.2.1) &&(TP fl q.2.2.2.2 && uy q.2.2.2.2))
def amq(X:Ctx)(f:Nat):Bool:=Nat.beq (BD X.G8 f 0) 2 && Nat.beq (BD X.G8 f 1) 0 &&(match X.P.funcs[f]? with
 | some g => g.body.isSome && !(g.name == "runtime.NumGoroutine") && (match g.resultTypes.toList with | [t] => !(Gj X.P t) | _ => false)
 |none=>false)
def KZ(X:Ctx)(K:iE)(tm:jv)(o1 o2 o3:Oper):Acc (Nat×Nat×V×V):=
 match o1,o2,o3 with
 |⟨some d1,.load t (.tmp ta),_,_,_,none⟩,⟨some d2,.move x,ty2,_,_,none⟩,⟨_,.call ⟨.value (.func f),args,_⟩,_,_,_,none⟩=>do
  ck (!(Nat.beq d1 d2) &&(ajV args d1 d2 &&(asy d1 x &&(Az X.P t &&(Nat.beq (kK X.P t) 1 &&(!(Gj X.P t) && amq X f))))))
  let e<-op' (elT X.P t)
  match PX ta tm,ev X.P tm ty2 x with
  | .rZ r ver i off,.d (.int k n)=>do
   match<-rd r with
   |some (.arr false false gI s rows)=>do
    ck (Nat.beq ver gI && Nat.ble (off+1) s)
    let row<-op' rows[i]?
    let rs<-op' (aiE (kK X.P e) row off)
    ck (TP (pq X.P e) rs)
    let out<-op' (K f [.own kN 0,.d (.int k n)] [.arr false (pq X.P e) 0 (kK X.P e) rs])
    let q<-op' (VN out)
    ck (aai (kK X.P e) (pq X.P e) q)
    wr r (.arr false false gI s (rows.set i (splice row off [.sl true (kK X.P e) q.2.2.2.2])))
    pure (d1,d2,.d (.int k n),.d (.int q.1 q.2.1))
   |_=> .fail
  |_,_=> .fail
 |_,_,_=> .fail
def D8(X:Ctx)(K:iE)(fn:Nat)(ops:Array Oper)(p:Nat)(S:St):Option St:=
 match ops[p]?,ops[p+1]?,ops[p+2]? with
 |some o1,some o2,some o3=>match(KZ X K S.tm o1 o2 o3).run S.mem .none with
  |some ((d1,d2,kv,v),m,_)=>bif Nat.blt d1 (D7 X.P fn) &&(Nat.blt d2 (D7 X.P fn) && Jc (D7 X.P fn) o3.dst) then some ⟨Ur o3.dst v (put d2 kv (put d1 .undef S.tm)),m⟩ else none
  |none=>none
 |_,_,_=>none
def yJ(X:Ctx)(K:iE)(fn id:Nat)(ops:Array Oper)(draw:Bool)(S:St):Option (St×List (Nat×Log)):=
 match X.G8.fuse fn id with
 |0=>uz X K fn ops (List.range ops.size) S []
 |p+1=>match draw with
  |true=>none
  |false=>match uz X K fn ops (List.range p) S [] with
   |some (S1,_)=>match D8 X K fn ops p S1 with
    |some S2=>uz X K fn ops ((List.range ops.size).drop (p+3)) S2 []
    |none=>none
   |none=>none
def region(X:Ctx)(K:iE)(fn id:Nat)(ops:Array Oper)(draw:Bool)(S:St):Option St:=
 match yJ X K fn id ops draw S with
 |none=>none
 |some (S',L)=>bif(match draw with|false=>true|true=>X.P.follows .mixedOrders &&(backOk ops && QZ ops (Region.before ops) L)) then prune (X.G8.keep fn id) S' else none
inductive Ex where
 |normal
 |exit (id:Nat)
 |ret
noncomputable def lim{α:Type}(f:Nat->Option α):Option α:=
 open Classical in if h:∃a n,f n=some a then some (Classical.choose h) else none
def iter(b:St->Option (Ex×St)):Nat->St->Option (Ex×St)
 |0,_=>none
 |n+1,S=>match b S with
  |some (.normal,S')=>iter b n S'
  |r=>r
noncomputable def NY(b:St->Option (Ex×St))(S:St):Option (Ex×St):=lim λn=>iter b n S
def TR(P:Program)(tm:jv)(c:Operand):Option Bool:=match ev P tm 0 c with
 | .d (.bool b)=>some b
 |_=>none
noncomputable def den(X:Ctx)(K:iE)(fn:Nat):Code->St->Option (Ex×St)
 | .skip,S=>some (.normal,S)
 | .region id ops draw,S=>match region X K fn id ops draw S with
  |some S'=>some (.normal,S')
  |none=>none
 | .seq a b,S=>match den X K fn a S with
  |some (.normal,S')=>den X K fn b S'
  |r=>r
 | .cond c a b,S=>match TR X.P S.tm c with
  |some true=>den X K fn a S
  |some false=>den X K fn b S
  |none=>none
 | .block id c,S=>match den X K fn c S with
  |some (.exit j,S')=>bif Nat.beq j id then some (.normal,S') else some (.exit j,S')
  |r=>r
 | .loop c,S=>NY (den X K fn c) S
 | .exit id,S=>some (.exit id,S)
 | .ret,S=>some (.ret,S)
 |_,_=>none
def aiQ(A:Adv)(f i:Nat)(fl:Bool)(v:V):Acc V:=
 match BD A f i with
 |1=>(match v with
  | .d (.sl true s rows)=>do
   new i (.arr false fl 0 s rows)
   pure (.own i 0)
  | .d x=>pure (.d (roD x))
  |_=> .fail)
 |_=>pure v
def VO(X:Ctx)(f:Nat):Nat->List TypeId->List V->Acc jv
 |_,_,[]=>pure []
 |i,ts,v::vs=>do
  let v<-aiQ X.G8 f i ((fls X.P 8 (ts.headD 0)).headD false) v
  let r<-VO X f (i+1) ts.tail vs
  pure ((i,v)::r)
def nZ:Nat->List Cell->Mem
 |_,[]=>[]
 |i,c::cs=>(kN+i,c)::nZ (i+1) cs
def rH(n:Nat):List Nat:=(List.range n).map (kN+ ·)
def entry(X:Ctx)(f:Nat)(g:Func)(args:List V)(cells:List Cell):Acc jv:=do
 Yk X 9999 cells 0 (rH cells.length)
 VO X f 0 g.params.toList args
def ad5(P:Program)(tm:jv)(r:ResultVar)(t:TypeId):Acc Row:=
 match r with
 | .tmp x=>match Gj P t,PX x tm with
  |true,.agg cs=>Jb cs
  |false,.agg _=> .fail
  |false,v=>Jb [v]
  |true,_=> .fail
 | .cell a T=>match PX a tm with
  | .ptr r 0=>do
   match<-rd r with
   |some (.box _ cs)=>do
    ck (Nat.beq T t && Nat.beq cs.length (kK P T) &&(Az P T &&(Gj P T||Nat.beq cs.length 1)))
    Jb cs
   |_=> .fail
  |_=> .fail
def SN(P:Program)(tm:jv):List ResultVar->List TypeId->Acc (List Row)
 |[],[]=>pure []
 |r::rs,t::ts=>do
  let row<-ad5 P tm r t
  let rows<-SN P tm rs ts
  pure (row::rows)
 |_,_=> .fail
def leave(X:Ctx)(g:Func)(n:Nat)(S:St):Option (List Row×List Cell):=
 match(do
  let rows<-SN X.P S.tm g.results.toList g.resultTypes.toList
  let cells<-QW X.G8 (rH n) (rH n)
  pure (rows,cells):Acc (List Row×List Cell)).run S.mem .none with
 |some (r,_,_)=>some r
 |none=>none
noncomputable def body(X:Ctx)(K:iE)(f:Nat)(args:List V)(cells:List Cell):Option (List Row×List Cell):=
 match X.P.funcs[f]? with
 |some g=>match g.body with
  |some c=>bif !(Nat.ble cells.length kN && Nat.ble args.length g.ntmps) then none else match(entry X f g args cells).run (nZ 0 cells) .none with
   |some (tm,m,_)=>(match den X K f c ⟨tm,m⟩ with
    |some (.normal,S)=>leave X g cells.length S
    |some (.ret,S)=>leave X g cells.length S
    |_=>none)
   |none=>none
  |none=>none
 |none=>none
noncomputable def Q7(X:Ctx):Nat->iE
 |0,_,_,_=>none
 |n+1,f,args,cells=>match X.Tz f with
  |some p=>p args cells
  |none=>body X (Q7 X n) f args cells
noncomputable def call(X:Ctx):iE:=λf args cells=>lim λn=>Q7 X n f args cells
end Go.Vm
namespace Go.Vm
open Go
abbrev View:=Nat->Nat->Option Value
abbrev Heap:=Nat->Option Obj
def bT(w:World):Heap:=λb=>w.heap[b]?
mutual
def ro(h:View):D->Value->Prop
 | .int k n,v=>v=.int k n
 | .bool b,v=>v=.bool b
 | .str s,v=>v=.string ⟨⟨s⟩⟩
 | .MN,v=>v=.nilFunc
 | .sl _ s rows,v=>∃a cap,v=.slice a rows.length cap∧rows.length<=cap∧(rows≠[]->∃b o,a=some ⟨b,o,none⟩∧lM h s rows b o)
def lM(h:View)(s:Nat):List Row->Nat->Nat->Prop
 |[],_,_=>True
 |r::rs,b,o=>r.length=s∧su h r b o∧lM h s rs b (o+s)
def su(h:View):Row->Nat->Nat->Prop
 |[],_,_=>True
 |x::r,b,o=>(∃v,h b o=some v∧ro h x v)∧su h r b (o+1)
end
mutual
def ow(H:Heap)(h:View):D->Value->List Nat->Prop
 | .int k n,v,N=>v=.int k n∧N=[]
 | .bool b,v,N=>v=.bool b∧N=[]
 | .str s,v,N=>v=.string ⟨⟨s⟩⟩∧N=[]
 | .MN,v,N=>v=.nilFunc∧N=[]
 | .sl own s rows,v,N=>match own with
  |false=>N=[]∧ro h (.sl false s rows) v
  |true=>(rows=[]∧v=.slice none 0 0∧N=[])∨
   ∃b cap cs t N',v=.slice (some ⟨b,0,none⟩) rows.length cap∧rows.length<=cap∧H b=some (.cells cs t (0,0))∧cs.size=cap * s∧
    dW H h s rows cs.toList N'∧N=b::N'
def dW(H:Heap)(h:View)(s:Nat):List Row->List Value->List Nat->Prop
 |[],_,N=>N=[]
 |r::rs,cs,N=>r.length=s∧∃N1 N2,N=N1++N2∧fK H h r cs N1∧dW H h s rs (cs.drop s) N2
def fK(H:Heap)(h:View):Row->List Value->List Nat->Prop
 |[],_,N=>N=[]
 |x::r,cs,N=>∃v cs' N1 N2,cs=v::cs'∧N=N1++N2∧ow H h x v N1∧fK H h r cs' N2
end
def fU(h:View):Row->List Value->Prop
 |[],_=>True
 |x::r,cs=>∃v cs',cs=v::cs'∧ro h x v∧fU h r cs'
def dY(h:View)(s:Nat):List Row->List Value->Prop
 |[],_=>True
 |r::rs,cs=>r.length=s∧fU h r cs∧dY h s rs (cs.drop s)
def QM(H:Heap)(h:View)(fl:Bool)(s:Nat)(rows:List Row)(v:Value)(N:List Nat):Prop:=
 (rows=[]∧v=.slice none 0 0∧N=[])∨
 ∃b cap cs t N',v=.slice (some ⟨b,0,none⟩) rows.length cap∧rows.length<=cap∧H b=some (.cells cs t (0,0))∧cs.size=cap * s∧
  (match fl with
   |true=>dY h s rows cs.toList∧N'=[]
   |false=>dW H h s rows cs.toList N')∧N=b::N'
def acj(H:Heap)(h:View)(s:Nat)(rows:List Row)(v:Value)(N:List Nat):Prop:=
 (rows=[]∧v=.slice none 0 0∧N=[])∨
 ∃b o cap cs t,v=.slice (some ⟨b,o,none⟩) rows.length cap∧rows.length<=cap∧H b=some (.cells cs t (0,0))∧o+cap * s<=cs.size∧
  dY h s rows (cs.toList.drop o)∧N=[b]
def OZ(g:Value):Prop:=∃a n c,g=.slice a n c
def apH(g:Value):Prop:=∃b o,g=.pointer (some ⟨b,o,none⟩)
mutual
def aF(μ:Nat->Value)(m:Mem)(h:View):V->Value->Prop
 | .d x,g=>ro h x g
 | .nil _,g=>g=.slice none 0 0
 | .own r v0,g=>OZ g∧match get r m with
  |some (.arr _ _ ver _ _)=>v0<=ver∧(v0=ver->g=μ r)
  |some .dead=>True
  |some (.D5 ver _ _)=>v0<=ver∧(v0=ver->g=μ r)
  |_=>False
 | .ptr r off,g=>apH g∧match get r m with
  |some (.box _ _)=>∃b,μ r=.pointer (some ⟨b,0,none⟩)∧g=.pointer (some ⟨b,off,none⟩)
  |some (.mF _ _)=>∃b,μ r=.pointer (some ⟨b,0,none⟩)∧g=.pointer (some ⟨b,off,none⟩)
  |some .dead=>True
  |_=>False
 | .rZ r v0 i off,g=>apH g∧match get r m with
  |some (.arr _ _ ver s _)=>v0<=ver∧(v0=ver->∃b n cap,μ r=.slice (some ⟨b,0,none⟩) n cap∧g=.pointer (some ⟨b,i * s+off,none⟩))
  |some .dead=>True
  |some (.D5 ver s _)=>v0<=ver∧(v0=ver->∃b o n cap,μ r=.slice (some ⟨b,o,none⟩) n cap∧g=.pointer (some ⟨b,o+(i * s+off),none⟩))
  |_=>False
 | .pU row off,g=>∃b o,g=.pointer (some ⟨b,o+off,none⟩)∧su h row b o
 | .yt v,g=>∃b x,g=.pointer (some ⟨b,0,none⟩)∧h b 0=some x∧aF μ m h v x
 | .clo f first caps,g=>∃a c,g=.func (.func f) a c∧bF μ m h first a.toList∧bF μ m h caps c.toList
 | .agg cs,g=>∃a,g=.agg a∧bF μ m h cs a.toList
 | .yu vs,g=>∃a,g=.tuple a∧bF μ m h vs a.toList
 | .undef,_=>True
def bF(μ:Nat->Value)(m:Mem)(h:View):List V->List Value->Prop
 |[],gs=>gs=[]
 |v::vs,gs=>∃g gs',gs=g::gs'∧aF μ m h v g∧bF μ m h vs gs'
end
def lN(μ:Nat->Value)(m:Mem)(H:Heap)(h:View)(r:Nat):Cell->List Nat->Prop
 | .box t cs,N=>∃b a,μ r=.pointer (some ⟨b,0,none⟩)∧H b=some (.cells a t (0,0))∧bF μ m h cs a.toList∧N=[b]
 | .arr fz fl _ s rows,N=>match fz with
  |true=>ro h (.sl true s rows) (μ r)∧N=[]
  |false=>QM H h fl s rows (μ r) N
 | .dead,N=>N=[]
 | .D5 _ s rows,N=>acj H h s rows (μ r) N
 | .mF _ v,N=>N=[]∧∃b x,μ r=.pointer (some ⟨b,0,none⟩)∧h b 0=some x∧aF μ m h v x
open Classical in
noncomputable def view(w:World)(U X:Nat->Prop):View:=λb o=>if U b∧¬X b then w.cell? ⟨b,o,none⟩ else none
def excl(F:Nat->List Nat)(E:List Nat):Nat->Prop:=λb=>b∈E∨∃r,b∈F r
structure Keep(M:List Nat)(w w':World):Prop where
 os:w'.os=w.os
 tape:w'.tape=w.tape
 output:w'.output=w.output
 size:w.heap.size<=w'.heap.size
 block:∀b,b<w.heap.size->b ∉ M->w'.heap[b]? =w.heap[b]?
def Keep.refl(M:List Nat)(w:World):Keep M w w:=⟨rfl,rfl,rfl,Nat.le_refl _,λ_ _ _=>rfl⟩
def Keep.trans{M M':List Nat}{a b c:World}(h:Keep M a b)(k:Keep M' b c)(hM:∀x,x∈M'->x∈M∨a.heap.size<=x):Keep M a c:=
 ⟨k.os.trans h.os,k.tape.trans h.tape,k.output.trans h.output,Nat.le_trans h.size k.size,λi hi hm=>(k.block i (Nat.lt_of_lt_of_le hi h.size) (λhx=>(hM i hx).elim hm (λhl=>absurd hi (Nat.not_lt.2 hl)))).trans (h.block i hi hm)⟩
structure MInv(base:Nat)(U:Nat->Prop)(m:Mem)(w:World)(μ:Nat->Value)(F:Nat->List Nat)(E:List Nat)(out:List Nat):Prop where
 cell:∀r c,get r m=some c->r ∉ out->lN μ m (bT w) (view w U (excl F E)) r c (F r)
 dj:∀r r',r≠r'->∀b,b∈F r->b ∉ F r'
 Zd:∀r b,b∈F r->b ∉ E
 nd:∀r,(F r).Nodup
 ndE:E.Nodup
 lt:∀b,excl F E b->b<w.heap.size∧base<=b∧U b
 up:∀b,w.heap.size<=b->U b
 bs:base<=w.heap.size
 none_:∀r,get r m=none->F r=[]
 out_:∀r,r∈out->F r=[]
def View.le(h h':View):Prop:=∀b o v,h b o=some v->h' b o=some v
def View.le_refl(h:View):h.le h:=λ_ _ _ x=>x
def View.le.trans'{a b c:View}(h:a.le b)(k:b.le c):a.le c:=λx y v q=>k x y v (h x y v q)
mutual
def D9{h h':View}(hl:h.le h'):∀(x:D) (v:Value),ro h x v->ro h' x v
 | .int _ _,_,q=>by simpa[ro] using q
 | .bool _,_,q=>by simpa[ro] using q
 | .str _,_,q=>by simpa[ro] using q
 | .MN,_,q=>by simpa[ro] using q
 | .sl _ s rows,v,q=>by simp only[ro] at q⊢;obtain⟨a,cap,h1,h2,h3⟩:=q;refine⟨a,cap,h1,h2,λhn=> ?_⟩;obtain⟨b,o,h4,h5⟩:=h3 hn;exact⟨b,o,h4,Ym hl s rows b o h5⟩
def Ym{h h':View}(hl:h.le h')(s:Nat):∀(rows:List Row) (b o:Nat),lM h s rows b o->lM h' s rows b o
 |[],_,_,_=>by simp[lM]
 |r::rs,b,o,q=>by simp only[lM] at q⊢;exact⟨q.1,Jg hl r b o q.2.1,Ym hl s rs b (o+s) q.2.2⟩
def Jg{h h':View}(hl:h.le h'):∀(r:Row) (b o:Nat),su h r b o->su h' r b o
 |[],_,_,_=>by simp[su]
 |x::r,b,o,q=>by simp only[su] at q⊢;obtain⟨⟨v,h1,h2⟩,h3⟩:=q;exact⟨⟨v,hl _ _ _ h1,D9 hl x v h2⟩,Jg hl r b (o+1) h3⟩
end
mutual
def ad6{H H':Heap}{h h':View}(hl:h.le h'):∀(x:D) (v:Value) (N:List Nat),(∀b,b∈N->H' b=H b)->ow H h x v N->ow H' h' x v N
 | .int _ _,_,_,_,q=>by simpa[ow] using q
 | .bool _,_,_,_,q=>by simpa[ow] using q
 | .str _,_,_,_,q=>by simpa[ow] using q
 | .MN,_,_,_,q=>by simpa[ow] using q
 | .sl false s rows,v,N,_,q=>by simp only[ow] at q⊢;exact⟨q.1,D9 hl _ _ q.2⟩
 | .sl true s rows,v,N,hb,q=>by
  simp only[ow] at q⊢;rcases q with q|⟨b,cap,cs,t,N',h1,h2,h3,h4,h5,rfl⟩
  ·exact .inl q
  ·exact .inr ⟨b,cap,cs,t,N',h1,h2,by rw[hb b (by simp)];exact h3,h4,vU hl s rows cs.toList N' (λb' hb'=>hb b' (by simp[hb'])) h5,rfl⟩
def vU{H H':Heap}{h h':View}(hl:h.le h')(s:Nat):∀(rows:List Row) (cs:List Value) (N:List Nat),(∀b,b∈N->H' b=H b)->dW H h s rows cs N->dW H' h' s rows cs N
 |[],_,_,_,q=>by simpa[dW] using q
 |r::rs,cs,N,hb,q=>by simp only[dW] at q⊢;obtain⟨h1,N1,N2,rfl,h2,h3⟩:=q;exact⟨h1,N1,N2,rfl,Gl hl r cs N1 (λb hx=>hb b (by simp[hx])) h2,vU hl s rs _ N2 (λb hx=>hb b (by simp[hx])) h3⟩
def Gl{H H':Heap}{h h':View}(hl:h.le h'):∀(r:Row) (cs:List Value) (N:List Nat),(∀b,b∈N->H' b=H b)->fK H h r cs N->fK H' h' r cs N
 |[],_,_,_,q=>by simpa[fK] using q
 |x::r,cs,N,hb,q=>by simp only[fK] at q⊢;obtain⟨v,cs',N1,N2,rfl,rfl,h2,h3⟩:=q;exact⟨v,cs',N1,N2,rfl,rfl,ad6 hl x v N1 (λb hx=>hb b (by simp[hx])) h2,Gl hl r cs' N2 (λb hx=>hb b (by simp[hx])) h3⟩
end
def VP{h h':View}(hl:h.le h'):∀(r:Row) (cs:List Value),fU h r cs->fU h' r cs
 |[],_,_=>trivial
 |x::r,cs,⟨v,cs',h1,h2,h3⟩=>⟨v,cs',h1,D9 hl x v h2,VP hl r cs' h3⟩
def mG{h h':View}(hl:h.le h')(s:Nat):∀(rows:List Row) (cs:List Value),dY h s rows cs->dY h' s rows cs
 |[],_,_=>trivial
 |r::rs,cs,⟨h1,h2,h3⟩=>⟨h1,VP hl r cs h2,mG hl s rs _ h3⟩
def Gz{H H':Heap}{h h':View}(hl:h.le h'){fl:Bool}{s:Nat}{rows:List Row}{v:Value}{N:List Nat}(hb:∀b,b∈N->H' b=H b)(q:QM H h fl s rows v N):QM H' h' fl s rows v N:=by
 rcases q with q|⟨b,cap,cs,t,N',h1,h2,h3,h4,h5,rfl⟩
 ·exact .inl q
 ·refine .inr ⟨b,cap,cs,t,N',h1,h2,by rw[hb b (by simp)];exact h3,h4, ?_,rfl⟩;cases fl with
  |true=>exact⟨mG hl s rows _ h5.1,h5.2⟩
  |false=>exact vU hl s rows _ N' (λb' hb'=>hb b' (by simp[hb'])) h5
def Xj{H H':Heap}{h h':View}(hl:h.le h'){s:Nat}{rows:List Row}{v:Value}{N:List Nat}(hb:∀b,b∈N->H' b=H b)(q:acj H h s rows v N):acj H' h' s rows v N:=by
 rcases q with q|⟨b,o,cap,cs,t,h1,h2,h3,h4,h5,rfl⟩
 ·exact .inl q
 ·exact .inr ⟨b,o,cap,cs,t,h1,h2,by rw[hb b (by simp)];exact h3,h4,mG hl s rows _ h5,rfl⟩
def ES(μ μ':Nat->Value)(r:Nat):Cell->Cell->Prop
 | .box t _,.box t' _=>t'=t∧μ' r=μ r
 | .arr _ fl ver s _,.arr _ fl' gI s' _=>ver<=gI∧fl'=fl∧(ver=gI->μ' r=μ r∧s'=s)
 |_,.dead=>True
 | .arr _ _ ver _ _,.D5 gI _ _=>ver<gI
 | .D5 ver s _,.D5 gI s' _=>ver<=gI∧(ver=gI->μ' r=μ r∧s'=s)
 | .box _ _,.mF _ _=>μ' r=μ r
 | .mF _ _,.mF _ _=>μ' r=μ r
 |_,_=>False
def Dl(μ:Nat->Value)(m:Mem)(μ':Nat->Value)(m':Mem):Prop:=∀r c,get r m=some c->∃c',get r m'=some c'∧ES μ μ' r c c'
def Yn(μ:Nat->Value)(r:Nat)(c:Cell):ES μ μ r c c:=by cases c<;>simp[ES]
def og(μ:Nat->Value)(m:Mem):Dl μ m μ m:=λr c h=>⟨c,h,Yn μ r c⟩
def qQ{μ1 μ2 μ3:Nat->Value}{m1 m2 m3:Mem}(h:Dl μ1 m1 μ2 m2)(k:Dl μ2 m2 μ3 m3):Dl μ1 m1 μ3 m3:=by
 intro r c hc;obtain⟨c',h1,h2⟩:=h r c hc;obtain⟨c'',k1,k2⟩:=k r c' h1;refine⟨c'',k1, ?_⟩;cases c<;>cases c'<;>cases c''<;>simp_all [ES]
 ·rename_i ver s _ _ _ gI s' _ _ _ amr s'' _;refine⟨by omega,λe=> ?_⟩;have e1:ver=gI:=by omega
  have e2:gI=amr:=by omega
  exact⟨(k2.2.2 e2).1.trans (h2.2.2 e1).1,(k2.2.2 e2).2.trans (h2.2.2 e1).2⟩
 ·omega
 ·omega
 ·rename_i ver s _ gI s' _ amr s'' _;refine⟨by omega,λe=> ?_⟩;have e1:ver=gI:=by omega
  have e2:gI=amr:=by omega
  exact⟨(k2.2 e2).1.trans (h2.2 e1).1,(k2.2 e2).2.trans (h2.2 e1).2⟩
mutual
def vI{μ μ':Nat->Value}{m m':Mem}{h h':View}(hm:Dl μ m μ' m')(hl:h.le h'):∀(v:V) (g:Value),aF μ m h v g->aF μ' m' h' v g
 | .d x,g,q=>by simp only[aF] at q⊢;exact D9 hl x g q
 | .nil _,_,q=>by simpa[aF] using q
 | .own r v0,g,q=>by
  simp only[aF] at q⊢;refine⟨q.1, ?_⟩;replace q:=q.2;cases hc:get r m with
  |none=>simp[hc] at q
  |some c=>
   obtain⟨c',h1,h2⟩:=hm r c hc;rw[h1];cases c<;>cases c'<;>simp_all [ES]
   ·rename_i ver s _ _ _ gI s' _;refine⟨by omega,λe=> ?_⟩;have e1:ver=gI:=by omega
    rw[(h2.2.2 e1).1];exact q.2 (by omega)
   ·exact⟨by omega,λe=>by omega⟩
   ·rename_i ver s _ gI s' _;refine⟨by omega,λe=> ?_⟩;have e1:ver=gI:=by omega
    rw[(h2.2 e1).1];exact q.2 (by omega)
 | .ptr r off,g,q=>by
  simp only[aF] at q⊢;refine⟨q.1, ?_⟩;replace q:=q.2;cases hc:get r m with
  |none=>simp[hc] at q
  |some c=>obtain⟨c',h1,h2⟩:=hm r c hc;rw[h1];cases c<;>cases c'<;>simp_all [ES]
 | .rZ r v0 i off,g,q=>by
  simp only[aF] at q⊢;refine⟨q.1, ?_⟩;replace q:=q.2;cases hc:get r m with
  |none=>simp[hc] at q
  |some c=>
   obtain⟨c',h1,h2⟩:=hm r c hc;rw[h1];cases c<;>cases c'<;>simp_all [ES]
   ·rename_i ver s _ _ _ gI s' _;refine⟨by omega,λe=> ?_⟩;have e1:ver=gI:=by omega
    rw[(h2.2.2 e1).1,(h2.2.2 e1).2];exact q.2 (by omega)
   ·exact⟨by omega,λe=>by omega⟩
   ·rename_i ver s _ gI s' _;refine⟨by omega,λe=> ?_⟩;have e1:ver=gI:=by omega
    rw[(h2.2 e1).1,(h2.2 e1).2];exact q.2 (by omega)
 | .pU row off,g,q=>by simp only[aF] at q⊢;obtain⟨b,o,h1,h2⟩:=q;exact⟨b,o,h1,Jg hl row b o h2⟩
 | .yt v,g,q=>by simp only[aF] at q⊢;obtain⟨b,x,h1,h2,h3⟩:=q;exact⟨b,x,h1,hl _ _ _ h2,vI hm hl v x h3⟩
 | .clo f first caps,g,q=>by simp only[aF] at q⊢;obtain⟨a,c,h1,h2,h3⟩:=q;exact⟨a,c,h1,pV hm hl first _ h2,pV hm hl caps _ h3⟩
 | .agg cs,g,q=>by simp only[aF] at q⊢;obtain⟨a,h1,h2⟩:=q;exact⟨a,h1,pV hm hl cs _ h2⟩
 | .yu vs,g,q=>by simp only[aF] at q⊢;obtain⟨a,h1,h2⟩:=q;exact⟨a,h1,pV hm hl vs _ h2⟩
 | .undef,_,_=>by simp[aF]
def pV{μ μ':Nat->Value}{m m':Mem}{h h':View}(hm:Dl μ m μ' m')(hl:h.le h'):∀(vs:List V) (gs:List Value),bF μ m h vs gs->bF μ' m' h' vs gs
 |[],_,q=>by simpa[bF] using q
 |v::vs,gs,q=>by simp only[bF] at q⊢;obtain⟨g,gs',h1,h2,h3⟩:=q;exact⟨g,gs',h1,vI hm hl v g h2,pV hm hl vs gs' h3⟩
end
def Hg{μ μ':Nat->Value}{m m':Mem}{H H':Heap}{h h':View}(hm:Dl μ m μ' m')(hl:h.le h'){r:Nat}(hr:μ' r=μ r){c:Cell}{N:List Nat}(hb:∀b,b∈N->H' b=H b)
  (q:lN μ m H h r c N):lN μ' m' H' h' r c N:=by
 cases c with
 |box t cs=>obtain⟨b,a,h1,h2,h3,rfl⟩:=q;exact⟨b,a,by rw[hr];exact h1,by rw[hb b (by simp)];exact h2,pV hm hl cs _ h3,rfl⟩
 |arr fz fl ver s rows=>
  cases fz with
  |true=>exact⟨by rw[hr];exact D9 hl _ _ q.1,q.2⟩
  |false=>simp only[lN] at q⊢;rw[hr];exact Gz hl hb q
 |dead=>exact q
 |D5 ver s rows=>simp only[lN] at q⊢;rw[hr];exact Xj hl hb q
 |mF t v=>obtain⟨h1,b,x,h2,h3,h4⟩:=q;exact⟨h1,b,x,by rw[hr];exact h2,hl _ _ _ h3,vI hm hl v x h4⟩
def rV{k j:Nat}(h:k≠j):Nat.beq k j=false:=by
 cases hb:Nat.beq k j with
 |false=>rfl
 |true=>exact absurd (uY hb) h
def gY{α:Type}(k:Nat)(x:α):∀l:List (Nat×α),get k (put k x l)=some x
 |[]=>by simp[put,get]
 |(j,y)::l=>by
  simp only[put]
  by_cases h:k=j
  ·subst h;simp[get]
  ·have hb:Nat.beq k j=false:=rV h;rw[hb];cases hl:Nat.blt k j with
   |true=>simp[get]
   |false=>simp[get,hb,gY k x l]
def jV{α:Type}{k k':Nat}(hk:k≠k')(x:α):∀l:List (Nat×α),get k (put k' x l)=get k l
 |[]=>by have hb:Nat.beq k k'=false:=rV hk;simp[put,get,hb]
 |(j,y)::l=>by
  have hb:Nat.beq k k'=false:=rV hk;simp only[put]
  by_cases h:k'=j
  ·subst h;simp[get,hb]
  ·have hb':Nat.beq k' j=false:=rV h;rw[hb'];cases hl:Nat.blt k' j with
   |true=>simp[get,hb]
   |false=>simp[get,jV hk x l]
def Hl{α:Type}(k:Nat):∀l:List (Nat×α),get k (del k l)=none
 |[]=>rfl
 |(j,y)::l=>by
  simp only[del];cases hb:Nat.beq k j with
  |true=>simpa using Hl k l
  |false=>simp[get,hb,Hl k l]
def JF{α:Type}{k k':Nat}(hk:k≠k'):∀l:List (Nat×α),get k (del k' l)=get k l
 |[]=>rfl
 |(j,y)::l=>by
  simp only[del];cases hb:Nat.beq k' j with
  |true=>have:k'=j:=uY hb;subst this;have hb:Nat.beq k k'=false:=rV hk;simp[get,hb,JF hk l]
  |false=>simp[get,JF hk l]
def get_put{α:Type}(k k':Nat)(x:α)(l:List (Nat×α)):get k (put k' x l)=if k=k' then some x else get k l:=by
 by_cases h:k=k'
 ·subst h;rw[gY,if_pos rfl]
 ·rw[jV h,if_neg h]
def apI{α:Type}(k k':Nat)(l:List (Nat×α)):get k (del k' l)=if k=k' then none else get k l:=by
 by_cases h:k=k'
 ·subst h;rw[Hl,if_pos rfl]
 ·rw[JF h,if_neg h]
def Acc.run_bind{α β:Type}(a:Acc α)(f:α->Acc β):∀(m:Mem) (l:Log),(a.bind f).run m l=match a.run m l with|some (x,m',l')=>(f x).run m' l'|none=>none:=by
 induction a with
 |ret a=>intro m l;rfl
 |fail=>intro m l;rfl
 |get k c ih=>intro m l;simp only[Acc.bind,Acc.run];exact ih _ _ _
 |set k x c ih=>intro m l;simp only[Acc.bind,Acc.run];exact ih _ _
 |opt o c ih=>intro m l;simp only[Acc.bind,Acc.run];cases o with|none=>rfl|some b=>exact ih b _ _
 |guard b c ih=>intro m l;simp only[Acc.bind,Acc.run];cases b with|true=>exact ih _ _|false=>rfl
def run_bind{α β:Type}(a:Acc α)(f:α->Acc β)(m:Mem)(l:Log):(a>>=f).run m l=match a.run m l with|some (x,m',l')=>(f x).run m' l'|none=>none:=Acc.run_bind a f m l
def aj{α β:Type}{a:Acc α}{f:α->Acc β}{m:Mem}{l:Log}{y:β}{m':Mem}{l':Log}(h:(a>>=f).run m l=some (y,m',l')):
  ∃x m1 l1,a.run m l=some (x,m1,l1)∧(f x).run m1 l1=some (y,m',l'):=by
 rw[run_bind] at h;cases ha:a.run m l with
 |none=>simp[ha] at h
 |some x=>obtain⟨x,m1,l1⟩:=x;rw[ha] at h;exact⟨x,m1,l1,rfl,h⟩
def run_pure{α:Type}(a:α)(m:Mem)(l:Log):(Pure.pure a:Acc α).run m l=some (a,m,l):=rfl
def rW(k:Nat)(m:Mem)(l:Log):(rd k).run m l=some (get k m,m,l.rd k):=rfl
def BF(k:Nat)(c:Cell)(m:Mem)(l:Log):(wr k c).run m l=some ((),put k c m,l.wr k):=rfl
def cZ{b:Bool}{m:Mem}{l:Log}{x:Unit}{m':Mem}{l':Log}(h:(ck b).run m l=some (x,m',l')):b=true∧m'=m∧l'=l:=by cases b<;>simp[ck,Acc.run] at h;exact⟨rfl,h.1.symm,h.2.symm⟩
def eU{β:Type}{o:Option β}{m:Mem}{l:Log}{x:β}{m':Mem}{l':Log}(h:(op' o).run m l=some (x,m',l')):o=some x∧m'=m∧l'=l:=by cases o<;>simp[op',Acc.run] at h;obtain⟨rfl,rfl,rfl⟩:=h;exact⟨rfl,rfl,rfl⟩
def ak{α:Type}{m:Mem}{l:Log}{r:α×Mem×Log}(h:(Acc.fail:Acc α).run m l=some r):False:=by simp[Acc.run] at h
structure VQ(X:Ctx)(h:View):Prop where
 row:∀g row,X.glob g=some row->su h row g 0
 int:∀g,X.aFW g=true->∃n,h g 0=some (.int .i64 n)
def Dn{X:Ctx}{h h':View}(hl:h.le h')(q:VQ X h):VQ X h':=⟨λg row hg=>Jg hl row g 0 (q.row g row hg),λg hg=>by obtain⟨n,hn⟩:=q.int g hg;exact⟨n,hl _ _ _ hn⟩⟩
def aiR(X:Ctx)(w:World):Prop:=∀g,X.asu g=true->∃x row cs T fr,X.glob g=some (x::row)∧w.heap[g]? =some (.cells cs T fr)∧cs.size=row.length+1
def aaj{h:View}:∀(row:Row) (b o:Nat),su h row b o->lM h 1 (row.map λx=>[x]) b o
 |[],_,_,_=>trivial
 |x::r,b,o,⟨h1,h2⟩=>⟨rfl,⟨h1,trivial⟩,aaj r b (o+1) h2⟩
end Go.Vm
namespace Go.Vm
open Go
def VA(F:Nat->List Nat)(r:Nat)(N:List Nat):Nat->List Nat:=λk=>if k=r then N else F k
def upM(μ:Nat->Value)(r:Nat)(g:Value):Nat->Value:=λk=>if k=r then g else μ k
@[simp] theorem AA(F:Nat->List Nat)(r:Nat)(N:List Nat):VA F r N r=N:=by simp[VA]
def iZ{F:Nat->List Nat}{r k:Nat}(N:List Nat)(h:k≠r):VA F r N k=F k:=by simp[VA,h]
@[simp] theorem Ho(μ:Nat->Value)(r:Nat)(g:Value):upM μ r g r=g:=by simp[upM]
def Jh{μ:Nat->Value}{r k:Nat}(g:Value)(h:k≠r):upM μ r g k=μ k:=by simp[upM,h]
def full(w:World):View:=λb o=>w.cell? ⟨b,o,none⟩
def qp(w:World)(U X:Nat->Prop):(view w U X).le (full w):=by
 intro b o v h;unfold view at h;split at h
 ·exact h
 ·cases h
def LM{w:World}{U U' X X':Nat->Prop}(hU:∀b,U b->U' b)(h:∀b,X' b->X b):(view w U X).le (view w U' X'):=by
 intro b o v hv;unfold view at hv⊢;split at hv
 ·rename_i hc;rw[if_pos ⟨hU b hc.1,λhx=>hc.2 (h b hx)⟩];exact hv
 ·cases hv
structure GS where
 μ:Nat->Value
 F:Nat->List Nat
 E:List Nat
 out:List Nat
section
variable (base:Nat) (U:Nat->Prop) (w:World)
def BL(m:Mem)(G:GS):Prop:=MInv base U m w G.μ G.F G.E G.out
noncomputable def Gh(G:GS):View:=view w U (excl G.F G.E)
end
structure Q8(m:Mem)(G:GS)(m':Mem)(G':GS):Prop where
 mem:Dl G.μ m G'.μ m'
 ex:∀b,excl G'.F G'.E b->excl G.F G.E b
def Q8.refl(m:Mem)(G:GS):Q8 m G m G:=⟨og _ _,λ_ h=>h⟩
def Q8.trans{m1 m2 m3:Mem}{G1 G2 G3:GS}(h:Q8 m1 G1 m2 G2)(k:Q8 m2 G2 m3 G3):Q8 m1 G1 m3 G3:=
 ⟨qQ h.mem k.mem,λb hb=>h.ex b (k.ex b hb)⟩
def Q8.view{U:Nat->Prop}{w:World}{m m':Mem}{G G':GS}(h:Q8 m G m' G'):(Gh U w G).le (Gh U w G'):=LM (λ_ x=>x) h.ex
def Q8.aF{U:Nat->Prop}{w:World}{m m':Mem}{G G':GS}(h:Q8 m G m' G'){v:V}{g:Value}(q:aF G.μ m (Gh U w G) v g):aF G'.μ m' (Gh U w G') v g:=
 vI h.mem h.view v g q
def Q8.bF{U:Nat->Prop}{w:World}{m m':Mem}{G G':GS}(h:Q8 m G m' G'){v:List V}{g:List Value}(q:bF G.μ m (Gh U w G) v g):bF G'.μ m' (Gh U w G') v g:=
 pV h.mem h.view v g q
section
variable {base:Nat} {U:Nat->Prop} {w:World} {m:Mem} {G:GS}
def BL.set(hg:BL base U w m G)(r:Nat)(c':Cell)(μ':Nat->Value)(N E' out':List Nat)
  (hs:(N++E').Nodup) (hsub:∀b,b∈N++E'->b∈G.F r∨b∈G.E) (hle:Dl G.μ m μ' (put r c' m)) (hμ:∀k,k≠r->μ' k=G.μ k)
  (ho:∀k,k≠r->(k∈out'↔k∈G.out)) (hr:r∈out'->N=[])
  (hc:(view w U (excl G.F G.E)).le (view w U (excl (VA G.F r N) E'))->r ∉ out'->lN μ' (put r c' m) (bT w) (view w U (excl (VA G.F r N) E')) r c' N):
  BL base U w (put r c' m) ⟨μ',VA G.F r N,E',out'⟩∧Q8 m G (put r c' m) ⟨μ',VA G.F r N,E',out'⟩:=by
 have hex:∀b,excl (VA G.F r N) E' b->excl G.F G.E b:=by
  rintro b (hb|⟨k,hb⟩)
  ·rcases hsub b (by simp[hb]) with h|h
   ·exact .inr ⟨r,h⟩
   ·exact .inl h
  ·by_cases hk:k=r
   ·subst hk;rw[AA] at hb;rcases hsub b (by simp[hb]) with h|h
    ·exact .inr ⟨_,h⟩
    ·exact .inl h
   ·rw[iZ N hk] at hb;exact .inr ⟨k,hb⟩
 have hv:(view w U (excl G.F G.E)).le (view w U (excl (VA G.F r N) E')):=LM (λ_ x=>x) hex;have hN:=List.nodup_append.1 hs;refine⟨show MInv base U (put r c' m) w μ' (VA G.F r N) E' out' from ?_,⟨hle,hex⟩⟩;refine⟨?_, ?_, ?_, ?_,hN.2.1,λb hb=>hg.lt b (hex b hb),hg.up,hg.bs, ?_, ?_⟩
 ·intro k c hk hko;rw[get_put] at hk
  by_cases e:k=r
  ·subst e;rw[if_pos rfl] at hk;cases hk;rw[AA];exact hc hv hko
  ·rw[if_neg e] at hk;rw[iZ N e];exact Hg hle hv (hμ k e) (λb _=>rfl) (hg.cell k c hk (λh=>hko ((ho k e).2 h)))
 ·intro k k' hne b hb hb'
  by_cases e:k=r
  ·subst e;rw[AA] at hb;rw[iZ N (Ne.symm hne)] at hb';rcases hsub b (by simp[hb]) with h|h
   ·exact hg.dj _ _ hne b h hb'
   ·exact hg.Zd _ b hb' h
  ·rw[iZ N e] at hb
   by_cases e':k'=r
   ·subst e';rw[AA] at hb';rcases hsub b (by simp[hb']) with h|h
    ·exact hg.dj _ _ hne b hb h
    ·exact hg.Zd _ b hb h
   ·rw[iZ N e'] at hb';exact hg.dj _ _ hne b hb hb'
 ·intro k b hb hE
  by_cases e:k=r
  ·subst e;rw[AA] at hb;exact hN.2.2 b hb b hE rfl
  ·rw[iZ N e] at hb;rcases hsub b (by simp[hE]) with h|h
   ·exact hg.dj _ _ e b hb h
   ·exact hg.Zd _ b hb h
 ·intro k
  by_cases e:k=r
  ·subst e;rw[AA];exact hN.1
  ·rw[iZ N e];exact hg.nd k
 ·intro k hk;rw[get_put] at hk
  by_cases e:k=r
  ·rw[if_pos e] at hk;cases hk
  ·rw[if_neg e] at hk;rw[iZ N e];exact hg.none_ k hk
 ·intro k hk
  by_cases e:k=r
  ·subst e;rw[AA];exact hr hk
  ·rw[iZ N e];exact hg.out_ k ((ho k e).1 hk)
def BL.less(hg:BL base U w m G)(E':List Nat)(hn:E'.Nodup)(hs:∀b,b∈E'->b∈G.E):
  BL base U w m {G with E:=E'}∧Q8 m G m {G with E:=E'}:=by
 have hex:∀b,excl G.F E' b->excl G.F G.E b:=by
  rintro b (hb|hb)
  ·exact .inl (hs b hb)
  ·exact .inr hb
 have hv:(view w U (excl G.F G.E)).le (view w U (excl G.F E')):=LM (λ_ x=>x) hex;refine⟨⟨?_,hg.dj,λr b hb hE=>hg.Zd r b hb (hs b hE),hg.nd,hn,λb hb=>hg.lt b (hex b hb),hg.up,hg.bs,hg.none_,hg.out_⟩,⟨og _ _,hex⟩⟩;intro r c hc ho;exact Hg (og _ _) hv rfl (λ_ _=>rfl) (hg.cell r c hc ho)
def Ea{μ μ':Nat->Value}{r:Nat}{c':Cell}(hμ:∀k,k≠r->μ' k=μ k)(h:∀c,get r m=some c->ES μ μ' r c c'):Dl μ m μ' (put r c' m):=by
 intro k c hk
 by_cases e:k=r
 ·subst e;exact⟨c',gY _ _ _,h c hk⟩
 ·refine⟨c,by rw[jV e];exact hk, ?_⟩;cases c<;>simp[ES,hμ k e]
def full_cell{b:Nat}{cs:Array Value}{t:TypeId}{fr:Nat×Nat}(h:bT w b=some (.cells cs t fr))(o:Nat):full w b o=cs.toList[o]? :=by simp only[full,World.cell?];unfold bT at h;simp[h]
end
def UC{h:View}{b:Nat}:∀(r:Row) (o:Nat) (cs:List Value),(∀j v,cs[j]? =some v->h b (o+j)=some v)->fU h r cs->su h r b o
 |[],_,_,_,_=>by simp[su]
 |x::r,o,cs,hc,⟨v,cs',e,h1,h2⟩=>by subst e;simp only[su];refine⟨⟨v,hc 0 v rfl,h1⟩,UC r (o+1) cs' (λj u hj=> ?_) h2⟩;have:=hc (j+1) u (by simpa using hj);rw[show o+1+j=o+(j+1) from by omega];exact this
def Q9{h:View}{b s:Nat}:∀(rs:List Row) (o:Nat) (cs:List Value),(∀j v,cs[j]? =some v->h b (o+j)=some v)->dY h s rs cs->lM h s rs b o
 |[],_,_,_,_=>by simp[lM]
 |r::rs,o,cs,hc,⟨h1,h2,h3⟩=>by simp only[lM];refine⟨h1,UC r o cs hc h2,Q9 rs (o+s) (cs.drop s) (λj u hj=> ?_) h3⟩;rw[List.getElem?_drop] at hj;rw[show o+s+j=o+(s+j) from by omega];exact hc _ _ hj
def Xk(h:View)(H:Heap)(N:List Nat):Prop:=∀b,b∈N->∀cs t fr,H b=some (.cells cs t fr)->∀(o:Nat) v,cs.toList[o]? =some v->h b o=some v
def Xk.sub{h:View}{H:Heap}{N N':List Nat}(q:Xk h H N)(hs:∀b,b∈N'->b∈N):Xk h H N':=λb hb=>q b (hs b hb)
mutual
def arC{H:Heap}{h h':View}(hl:h.le h'):∀(x:D) (v:Value) (N:List Nat),Xk h' H N->ow H h x v N->ro h' x v
 | .int _ _,_,_,_,q=>by simp only[ow] at q;simpa[ro] using q.1
 | .bool _,_,_,_,q=>by simp only[ow] at q;simpa[ro] using q.1
 | .str _,_,_,_,q=>by simp only[ow] at q;simpa[ro] using q.1
 | .MN,_,_,_,q=>by simp only[ow] at q;simpa[ro] using q.1
 | .sl false s rows,v,N,_,q=>by simp only[ow] at q;have:=D9 hl _ _ q.2;simpa[ro] using this
 | .sl true s rows,v,N,hs,q=>by
  simp only[ow] at q;simp only[ro];rcases q with⟨rfl,rfl,rfl⟩|⟨b,cap,cs,t,N',h1,h2,h3,h4,h5,rfl⟩
  ·exact⟨none,0,by simp,by simp,λe=>absurd rfl e⟩
  ·refine⟨_,cap,h1,h2,λ_=>⟨b,0,rfl, ?_⟩⟩;refine Q9 rows 0 cs.toList (λj v hj=>by rw[Nat.zero_add];exact hs b (by simp) cs t _ h3 j v hj) ?_;exact GH hl s rows cs.toList N' (hs.sub (by simp;exact λ_ hb=> .inr hb)) h5
def GH{H:Heap}{h h':View}(hl:h.le h')(s:Nat):∀(rows:List Row) (cs:List Value) (N:List Nat),Xk h' H N->dW H h s rows cs N->dY h' s rows cs
 |[],_,_,_,_=>by simp[dY]
 |r::rs,cs,N,hs,q=>by simp only[dW] at q;obtain⟨h1,N1,N2,rfl,h2,h3⟩:=q;simp only[dY];exact⟨h1,UD hl r cs N1 (hs.sub (by simp;exact λ_ hb=> .inl hb)) h2,GH hl s rs _ N2 (hs.sub (by simp;exact λ_ hb=> .inr hb)) h3⟩
def UD{H:Heap}{h h':View}(hl:h.le h'):∀(r:Row) (cs:List Value) (N:List Nat),Xk h' H N->fK H h r cs N->fU h' r cs
 |[],_,_,_,_=>by simp[fU]
 |x::r,cs,N,hs,q=>by simp only[fK] at q;obtain⟨v,cs',N1,N2,rfl,rfl,h1,h2⟩:=q;simp only[fU];exact⟨v,cs',rfl,arC hl x v N1 (hs.sub (by simp;exact λ_ hb=> .inl hb)) h1,UD hl r cs' N2 (hs.sub (by simp;exact λ_ hb=> .inr hb)) h2⟩
end
def ad7{H:Heap}{h h':View}(hl:h.le h'){fl:Bool}{s:Nat}{rows:List Row}{v:Value}{N:List Nat}(hs:Xk h' H N)(q:QM H h fl s rows v N)(o:Bool):ro h' (.sl o s rows) v:=by
 simp only[ro];rcases q with⟨rfl,rfl,rfl⟩|⟨b,cap,cs,t,N',h1,h2,h3,h4,h5,rfl⟩
 ·exact⟨none,0,by simp,by simp,λe=>absurd rfl e⟩
 ·refine⟨_,cap,h1,h2,λ_=>⟨b,0,rfl, ?_⟩⟩;refine Q9 rows 0 cs.toList (λj v hj=>by rw[Nat.zero_add];exact hs b (by simp) cs t _ h3 j v hj) ?_;cases fl with
  |true=>exact mG hl s rows _ h5.1
  |false=>exact GH hl s rows cs.toList N' (hs.sub (by simp;exact λ_ hb=> .inr hb)) h5
def Rf{h:View}{o o':Bool}{s:Nat}{rows:List Row}{v:Value}(q:ro h (.sl o s rows) v):ro h (.sl o' s rows) v:=by simpa[ro] using q
def acO{w:World}{N:List Nat}:Xk (full w) (bT w) N:=by intro b _ cs t fr hb o v hv;rw[full_cell hb,hv]
def GI{w:World}{U X:Nat->Prop}{N:List Nat}(hU:∀b,b∈N->U b∧¬X b):Xk (view w U X) (bT w) N:=by intro b hm cs t fr hb o v hv;unfold view;rw[if_pos (hU b hm)];have:=full_cell hb o;rw[hv] at this;exact this
mutual
def ams{h:View}:∀(x:D) (v:Value),ro h x v->ro h x.fz v
 | .int _ _,_,q=>by simpa[D.fz] using q
 | .bool _,_,q=>by simpa[D.fz] using q
 | .str _,_,q=>by simpa[D.fz] using q
 | .MN,_,q=>by simpa[D.fz] using q
 | .sl own s rows,v,q=>by
  simp only[D.fz,ro] at q⊢;obtain⟨a,cap,h1,h2,h3⟩:=q;have hlen:(bJ rows).length=rows.length:=Oy rows;refine⟨a,cap,by rw[hlen];exact h1,by rw[hlen];exact h2,λhn=> ?_⟩;have hn':rows≠[]:=by intro e;subst e;exact hn rfl
  obtain⟨b,o,h4,h5⟩:=h3 hn';exact⟨b,o,h4,acP s rows b o h5⟩
def Oy:∀rows:List Row,(bJ rows).length=rows.length
 |[]=>rfl
 |r::rs=>by simp[bJ,Oy rs]
def P5:∀r:Row,(uw r).length=r.length
 |[]=>rfl
 |x::r=>by simp[uw,P5 r]
def acP{h:View}(s:Nat):∀(rows:List Row) (b o:Nat),lM h s rows b o->lM h s (bJ rows) b o
 |[],_,_,_=>by simp[bJ,lM]
 |r::rs,b,o,q=>by simp only[bJ,lM] at q⊢;exact⟨by rw[P5];exact q.1,afk r b o q.2.1,acP s rs b (o+s) q.2.2⟩
def afk{h:View}:∀(r:Row) (b o:Nat),su h r b o->su h (uw r) b o
 |[],_,_,_=>by simp[uw,su]
 |x::r,b,o,q=>by simp only[uw,su] at q⊢;obtain⟨⟨v,h1,h2⟩,h3⟩:=q;exact⟨⟨v,h1,ams x v h2⟩,afk r b (o+1) h3⟩
end
def aak{h:View}{fl:Bool}{o:Bool}{s:Nat}{rows:List Row}{v:Value}(q:ro h (.sl o s rows) v):ro h (.sl false s (vw fl rows)) v:=by
 unfold vw;cases fl with
 |true=>exact Rf q
 |false=>simpa[D.fz] using ams _ _ q
def amu{h:View}{x:D}{v:Value}(q:ro h x v):ro h (roD x) v:=by cases x<;>simpa[roD,ro] using q
def amv{H:Heap}{h:View}{x:D}{v:Value}(q:ro h x v):ow H h (roD x) v []:=by cases x<;>simp[roD,ow,ro] at q⊢<;>exact q
def apJ{H:Heap}{h:View}{x:D}{v:Value}(hf:x.flat=true)(q:ro h x v):ow H h x v []:=by cases x<;>simp[D.flat,ow,ro] at hf q⊢<;>exact q
def aal{H:Heap}{h:View}:∀(r:Row) (cs:List Value),(r.all D.flat)=true->fU h r cs->fK H h r cs []
 |[],_,_,_=>by simp[fK]
 |x::r,cs,hf,⟨v,cs',e,h1,h2⟩=>by simp only[List.all_cons,zq] at hf;simp only[fK];exact⟨v,cs',[],[],e,rfl,apJ hf.1 h1,aal r cs' hf.2 h2⟩
def Rh{H:Heap}{h:View}(s:Nat):∀(rs:List Row) (cs:List Value),ay rs=true->dY h s rs cs->dW H h s rs cs []
 |[],_,_,_=>by simp[dW]
 |r::rs,cs,hf,⟨h1,h2,h3⟩=>by simp only[ay,List.all_cons,zq] at hf;simp only[dW];exact⟨h1,[],[],rfl,aal r cs hf.1 h2,Rh s rs _ hf.2 h3⟩
def ad8{H:Heap}{h:View}{fl:Bool}{s:Nat}{rows:List Row}{v:Value}{N:List Nat}(ho:TP fl rows=true)(q:QM H h fl s rows v N):ow H h (.sl true s rows) v N:=by
 simp only[ow];rcases q with q|⟨b,cap,cs,t,N',h1,h2,h3,h4,h5,rfl⟩
 ·exact .inl q
 ·refine .inr ⟨b,cap,cs,t,N',h1,h2,h3,h4, ?_,rfl⟩;cases fl with
  |true=>obtain⟨h5,rfl⟩:=h5;exact Rh s rows _ (by simpa[TP] using ho) h5
  |false=>exact h5
def ajW{H:Heap}{h:View}{s:Nat}{rows:List Row}{v:Value}{N:List Nat}(q:ow H h (.sl true s rows) v N):QM H h false s rows v N:=by simpa[ow,QM] using q
def aiS{H:Heap}{h:View}{s:Nat}{rows:List Row}{v:Value}{N:List Nat}(q:ow H h (.sl true s rows) v N):
  ∃N1 N2,N=N1++N2∧∀h',h.le h'->Xk h' H N2->QM H h' true s rows v N1:=by
 simp only[ow] at q;rcases q with⟨rfl,rfl,rfl⟩|⟨b,cap,cs,t,N',h1,h2,h3,h4,h5,rfl⟩
 ·exact⟨[],[],rfl,λ_ _ _=> .inl ⟨rfl,rfl,rfl⟩⟩
 ·exact⟨[b],N',rfl,λh' hl hs=> .inr ⟨b,cap,cs,t,[],h1,h2,h3,h4,⟨GH hl s rows _ N' hs h5,rfl⟩,rfl⟩⟩
end Go.Vm
namespace Go.Vm
open Go
section
variable {base:Nat} {U:Nat->Prop} {w:World} {m:Mem} {G:GS}
def BL.kill(hg:BL base U w m G){r:Nat}{fl:Bool}{ver s:Nat}{rows:List Row}(hc:get r m=some (.arr false fl ver s rows))(hro:r ∉ G.out):
  BL base U w (put r .dead m) ⟨G.μ,VA G.F r [],G.E++G.F r,G.out⟩∧Q8 m G (put r .dead m) ⟨G.μ,VA G.F r [],G.E++G.F r,G.out⟩∧
   QM (bT w) (Gh U w G) fl s rows (G.μ r) (G.F r):=by
 have h1:=hg.set r .dead G.μ [] (G.E++G.F r) G.out
  (by simpa using List.nodup_append.2 ⟨hg.ndE,hg.nd r,λa ha b hb e=>hg.Zd r b hb (e ▸ ha)⟩)
  (by simp;exact λb hb=>hb.symm) (Ea (λ_ _=>rfl) (λc h=>by rw[hc] at h;cases h;trivial)) (λ_ _=>rfl) (λ_ _=>Iff.rfl) (λ_=>rfl) (λ_ _=>rfl)
 exact⟨h1.1,h1.2,hg.cell r _ hc hro⟩
def BL.freeze(hg:BL base U w m G){r:Nat}{fz fl:Bool}{ver s:Nat}{rows:List Row}(hc:get r m=some (.arr fz fl ver s rows))(hro:r ∉ G.out):
  BL base U w (put r (.arr true fl ver s rows) m) ⟨G.μ,VA G.F r [],G.E,G.out⟩∧Q8 m G (put r (.arr true fl ver s rows) m) ⟨G.μ,VA G.F r [],G.E,G.out⟩∧
   ro (Gh U w ⟨G.μ,VA G.F r [],G.E,G.out⟩) (.sl true s rows) (G.μ r):=by
 have hle:Dl G.μ m G.μ (put r (.arr true fl ver s rows) m):=Ea (λ_ _=>rfl) (λc h=>by rw[hc] at h;cases h;exact⟨Nat.le_refl _,rfl,λ_=>⟨rfl,rfl⟩⟩);have awI:(view w U (excl G.F G.E)).le (view w U (excl (VA G.F r []) G.E))->ro (view w U (excl (VA G.F r []) G.E)) (.sl true s rows) (G.μ r):=by
  intro hv;have hq:=hg.cell r _ hc hro;cases fz with
  |true=>exact D9 hv _ _ hq.1
  |false=>
   refine ad7 hv (GI λb hb=>⟨(hg.lt b (.inr ⟨r,hb⟩)).2.2, ?_⟩) hq true;rintro(hE|⟨k,hk⟩)
   ·exact hg.Zd r b hb hE
   ·by_cases e:k=r
    ·subst e;simp at hk
    ·rw[iZ _ e] at hk;exact hg.dj r k (Ne.symm e) b hb hk
 have h1:=hg.set r (.arr true fl ver s rows) G.μ [] G.E G.out (by simpa using hg.ndE) (by simp;exact λb hb=> .inr hb) hle (λ_ _=>rfl) (λ_ _=>Iff.rfl) (λ_=>rfl)
  (λhv _=>⟨awI hv,rfl⟩)
 exact⟨h1.1,h1.2,awI h1.2.view⟩
def BL.asz(hg:BL base U w m G){k:Nat}(fl:Bool){s:Nat}{rows:List Row}{g:Value}{N E:List Nat}(hn:get k m=none)(hk:k ∉ G.out)(hE:(N++E).Perm G.E)
  (hq:ow (bT w) (Gh U w G) (.sl true s rows) g N):
  ∃F',BL base U w (put k (.arr false fl 0 s rows) m) ⟨upM G.μ k g,F',E,G.out⟩∧Q8 m G (put k (.arr false fl 0 s rows) m) ⟨upM G.μ k g,F',E,G.out⟩:=by
 have hnd:=hE.nodup_iff.2 hg.ndE;have hmem:∀b,b∈N++E->b∈G.E:=λb hb=>hE.mem_iff.1 hb
 have hμ:∀j,j≠k->upM G.μ k g j=G.μ j:=λj e=>Jh g e
 have hle:∀c',Dl G.μ m (upM G.μ k g) (put k c' m):=λc'=>Ea hμ (λc h=>by rw[hn] at h;cases h)
 cases fl with
 |false=>refine⟨_,hg.set k (.arr false false 0 s rows) (upM G.μ k g) N E G.out hnd (λb hb=> .inr (hmem b hb)) (hle _) hμ (λ_ _=>Iff.rfl) (λh=>absurd h hk) (λhv _=> ?_)⟩;simp only[lN,Ho];exact Gz hv (λ_ _=>rfl) (ajW hq)
 |true=>
  obtain⟨N1,N2,rfl,h2⟩:=aiS hq;have hnd':(N1++E).Nodup:=by rw[Bf] at hnd;have:=List.nodup_append.1 hnd;exact List.nodup_append.2 ⟨this.1,(List.nodup_append.1 this.2.1).2.1,λa ha b hb=>this.2.2 a ha b (by simp[hb])⟩
  refine⟨_,hg.set k (.arr false true 0 s rows) (upM G.μ k g) N1 E G.out hnd' (λb hb=> .inr (hmem b (by simp at hb⊢;rcases hb with h|h<;>simp[h]))) (hle _) hμ (λ_ _=>Iff.rfl) (λh=>absurd h hk) (λhv _=> ?_)⟩;simp only[lN,Ho];refine h2 _ hv (GI λb hb=>⟨(hg.lt b (.inl (hmem b (by simp[hb])))).2.2, ?_⟩);rw[Bf] at hnd;have hd:=List.nodup_append.1 hnd;have hd2:=List.nodup_append.1 hd.2.1;rintro(hE'|⟨j,hj⟩)
  ·exact hd2.2.2 b hb b hE' rfl
  ·by_cases e:j=k
   ·subst e;rw[AA] at hj;exact hd.2.2 b hj b (by simp[hb]) rfl
   ·rw[iZ _ e] at hj;exact hg.Zd j b hj (hmem b (by simp[hb]))
structure I8(base:Nat)(U:Nat->Prop)(w:World)(m:Mem)(G:GS)(m':Mem)(G':GS)(N:List Nat):Prop where
 ok:BL base U w m' G'
 le:Q8 m G m' G'
 E:G'.E=G.E++N
 out:G'.out=G.out
 μ:G'.μ=G.μ
def I8.same(hg:BL base U w m G):I8 base U w m G m G []:=⟨hg,Q8.refl _ _,by simp,rfl,rfl⟩
def I8.trans{m1 m2 m3:Mem}{G1 G2 G3:GS}{N N':List Nat}(a:I8 base U w m1 G1 m2 G2 N)(b:I8 base U w m2 G2 m3 G3 N'):I8 base U w m1 G1 m3 G3 (N++N'):=
 ⟨b.ok,a.le.trans b.le,by rw[b.E,a.E,Bf],b.out.trans a.out,b.μ.trans a.μ⟩
def SQ{H:Heap}{h h':View}(hl:h.le h'){x:D}{v:Value}{N:List Nat}(q:ow H h x v N):ow H h' x v N:=ad6 hl x v N (λ_ _=>rfl) q
def amw(hg:BL base U w m G){v:V}{g:Value}(hv:aF G.μ m (Gh U w G) v g)(ho:G.out=[]){x:D}{m':Mem}{l l':Log}(h:(toD v).run m l=some (x,m',l')):
  ∃G' N,I8 base U w m G m' G' N∧ow (bT w) (Gh U w G') x g N:=by
 cases v with
 |d y=>simp only[toD,run_pure,eX,iL] at h;obtain⟨rfl,rfl,rfl⟩:=h;exact⟨G,[],I8.same hg,amv (by simpa[aF] using hv)⟩
 |nil s=>simp only[toD,run_pure,eX,iL] at h;obtain⟨rfl,rfl,rfl⟩:=h;refine⟨G,[],I8.same hg, ?_⟩;simp only[aF] at hv;simp[ow,hv]
 |own r ver=>
  simp only[toD] at h;replace h:=aj h;obtain⟨c,m1,l1,h1,h⟩:=h;rw[rW] at h1;cases h1;cases hc:get r m with
  |none=>rw[hc] at h;exact(ak h).elim
  |some c=>
   rw[hc] at h;cases c with
   |box _ _=>exact(ak h).elim
   |dead=>exact(ak h).elim
   |D5 _ _ _=>exact(ak h).elim
   |mF _ _=>exact(ak h).elim
   |arr fz fl gI s rows=>
    simp only at h;replace h:=aj h;obtain⟨_,m2,l2,h1,h⟩:=h;obtain⟨hb,rfl,rfl⟩:=cZ h1;have hb:=uY hb;subst hb;simp only[aF,hc] at hv;have hv:=hv.2.2 trivial;subst hv;have hro:r ∉ G.out:=by simp[ho]
    cases fz with
    |true=>simp only[run_pure,eX,iL] at h;obtain⟨rfl,rfl,rfl⟩:=h;refine⟨G,[],I8.same hg, ?_⟩;have hq:=(hg.cell r _ hc hro).1;simp only[ow,true_and];exact aak hq
    |false=>simp only at h;replace h:=aj h;obtain⟨_,m2,l2,h1,h⟩:=h;obtain⟨hok,rfl,rfl⟩:=cZ h1;replace h:=aj h;obtain⟨_,m3,l3,h1,h⟩:=h;rw[BF] at h1;cases h1;simp only[run_pure,eX,iL] at h;obtain⟨rfl,rfl,rfl⟩:=h;obtain⟨k1,k2,k3⟩:=hg.kill hc hro;exact⟨_,G.F r,⟨k1,k2,rfl,rfl,rfl⟩,SQ k2.view (ad8 hok k3)⟩
 |ptr _ _=>exact(ak h).elim
 |rZ _ _ _ _=>exact(ak h).elim
 |pU _ _=>exact(ak h).elim
 |yt _=>exact(ak h).elim
 |clo _ _ _=>exact(ak h).elim
 |agg _=>exact(ak h).elim
 |yu _=>exact(ak h).elim
 |undef=>exact(ak h).elim
def lD{μ:Nat->Value}{h:View}{v:V}{vs:List V}{gs:List Value}(q:bF μ m h (v::vs) gs):∃g gs',gs=g::gs'∧aF μ m h v g∧bF μ m h vs gs':=by simpa[bF] using q
def jy{μ:Nat->Value}{h:View}:∀{vs:List V} {gs:List Value},bF μ m h vs gs->gs.length=vs.length
 |[],gs,q=>by simp[bF] at q;simp[q]
 |v::vs,gs,q=>by obtain⟨g,gs',rfl,_,h3⟩:=lD q;simp[jy h3]
def P6{H:Heap}{h h':View}(hl:h.le h'){x:Row}{v:List Value}{N:List Nat}(q:fK H h x v N):fK H h' x v N:=Gl hl x v N (λ_ _=>rfl) q
def afl{H:Heap}{h h':View}(hl:h.le h'){s:Nat}{x:List Row}{v:List Value}{N:List Nat}(q:dW H h s x v N):dW H h' s x v N:=vU hl s x v N (λ_ _=>rfl) q
def O1:∀{vs:List V} {gs:List Value} {m:Mem} {G:GS} (_:BL base U w m G) (_:bF G.μ m (Gh U w G) vs gs) (_:G.out=[]) {xs:Row} {m':Mem} {l l':Log} (_:(Jb vs).run m l=some (xs,m',l')),
  ∃G' N,I8 base U w m G m' G' N∧fK (bT w) (Gh U w G') xs gs N∧xs.length=vs.length
 |[],gs,m,G,hg,hv,ho,xs,m',l,l',h=>by simp only[Jb,run_pure,eX,iL] at h;obtain⟨rfl,rfl,rfl⟩:=h;exact⟨G,[],I8.same hg,by simp[fK],rfl⟩
 |v::vs,gs,m,G,hg,hv,ho,xs,m',l,l',h=>by obtain⟨g,gs',rfl,hv1,hv2⟩:=lD hv;simp only[Jb] at h;replace h:=aj h;obtain⟨x,m1,l1,h1,h⟩:=h;replace h:=aj h;obtain⟨ys,m2,l2,h2,h⟩:=h;simp only[run_pure,eX,iL] at h;obtain⟨rfl,rfl,rfl⟩:=h;obtain⟨G1,N1,t1,q1⟩:=amw hg hv1 ho h1;obtain⟨G2,N2,t2,q2,hlen⟩:=O1 t1.ok (t1.le.bF hv2) (t1.out.trans ho) h2;refine⟨G2,N1++N2,t1.trans t2, ?_,by simp[hlen]⟩;simp only[fK];exact⟨g,gs',N1,N2,rfl,rfl,SQ t2.le.view q1,q2⟩
end
end Go.Vm
namespace Go.Vm
open Go
section
variable {base:Nat} {U:Nat->Prop} {w:World} {m:Mem} {G:GS}
def BL.look(hg:BL base U w m G){r:Nat}{fz fl:Bool}{ver s:Nat}{rows:List Row}(hc:get r m=some (.arr fz fl ver s rows))(hro:r ∉ G.out)(o:Bool):ro (full w) (.sl o s rows) (G.μ r):=by
 have hq:=hg.cell r _ hc hro;cases fz with
 |true=>exact Rf (D9 (qp _ _ _) _ _ hq.1)
 |false=>exact ad7 (qp _ _ _) acO hq o
def ajX(hg:BL base U w m G){v:V}{g:Value}(hv:aF G.μ m (Gh U w G) v g)(ho:G.out=[]){s:Nat}{rows:List Row}{m':Mem}{l l':Log}(h:(seen v).run m l=some ((s,rows),m',l')):
  m'=m∧ro (full w) (.sl false s rows) g:=by
 cases v with
 |d y=>
  cases y with
  |sl own s' rows'=>simp only[seen,run_pure,eX,iL] at h;obtain⟨⟨rfl,rfl⟩,rfl,rfl⟩:=h;simp only[aF] at hv;exact⟨rfl,Rf (D9 (qp _ _ _) _ _ hv)⟩
  |int _ _=>exact(ak h).elim
  |bool _=>exact(ak h).elim
  |str _=>exact(ak h).elim
  |MN=>exact(ak h).elim
 |nil s'=>simp only[seen,run_pure,eX,iL] at h;obtain⟨⟨rfl,rfl⟩,rfl,rfl⟩:=h;simp only[aF] at hv;exact⟨rfl,by simp[ro,hv]⟩
 |own r ver=>
  simp only[seen] at h;replace h:=aj h;obtain⟨c,m1,l1,h1,h⟩:=h;rw[rW] at h1;cases h1;cases hc:get r m with
  |none=>rw[hc] at h;exact(ak h).elim
  |some c=>
   rw[hc] at h;cases c with
   |box _ _=>exact(ak h).elim
   |dead=>exact(ak h).elim
   |D5 _ _ _=>exact(ak h).elim
   |mF _ _=>exact(ak h).elim
   |arr fz fl gI s' rows'=>simp only at h;replace h:=aj h;obtain⟨_,m2,l2,h1,h⟩:=h;obtain⟨hb,rfl,rfl⟩:=cZ h1;have hb:=uY hb;subst hb;simp only[run_pure,eX,iL] at h;obtain⟨⟨rfl,rfl⟩,rfl,rfl⟩:=h;simp only[aF,hc] at hv;have hv:=hv.2.2 trivial;subst hv;exact⟨rfl,aak (hg.look hc (by simp[ho]) true)⟩
 |ptr _ _=>exact(ak h).elim
 |rZ _ _ _ _=>exact(ak h).elim
 |pU _ _=>exact(ak h).elim
 |yt _=>exact(ak h).elim
 |clo _ _ _=>exact(ak h).elim
 |agg _=>exact(ak h).elim
 |yu _=>exact(ak h).elim
 |undef=>exact(ak h).elim
def vV(k:Nat):∀l:List Nat,mem? k l=true↔k∈l
 |[]=>by simp[mem?]
 |j::l=>by
  simp only[mem?,List.mem_cons]
  by_cases e:k=j
  ·subst e;simp
  ·rw[rV e];simp[e,vV k l]
def MP{k:Nat}{l:List Nat}(h:(!(mem? k l))=true):k ∉ l:=by intro hk;rw[(vV k l).2 hk] at h;cases h
def apK(hg:BL base U w m G){v:V}{g:Value}(hv:aF G.μ m (Gh U w G) v g){imp:List Nat}(ho:∀r,r∈G.out->r∈imp){own:Bool}{v':V}{m':Mem}{l l':Log}(h:(amk imp own v).run m l=some (v',m',l')):
  ∃G' N x,v'=.d x∧I8 base U w m G m' G' N∧ow (bT w) (Gh U w G') x g N∧∀k,k∈imp->get k m'=get k m:=by
 cases v with
 |d y=>simp only[amk,run_pure,eX,iL] at h;obtain⟨rfl,rfl,rfl⟩:=h;exact⟨G,[],_,rfl,I8.same hg,amv (by simpa[aF] using hv),λ_ _=>rfl⟩
 |nil s=>simp only[amk,run_pure,eX,iL] at h;obtain⟨rfl,rfl,rfl⟩:=h;refine⟨G,[],_,rfl,I8.same hg, ?_,λ_ _=>rfl⟩;simp only[aF] at hv;cases own<;>simp[ow,ro,hv]
 |own r ver=>
  simp only[amk] at h;replace h:=aj h;obtain⟨c,m1,l1,h1,h⟩:=h;rw[rW] at h1;cases h1;cases hc:get r m with
  |none=>rw[hc] at h;exact(ak h).elim
  |some c=>
   rw[hc] at h;cases c with
   |box _ _=>exact(ak h).elim
   |dead=>exact(ak h).elim
   |D5 _ _ _=>exact(ak h).elim
   |mF _ _=>exact(ak h).elim
   |arr fz fl gI s rows=>
    simp only at h;replace h:=aj h;obtain⟨_,m2,l2,h1,h⟩:=h;obtain⟨hb,rfl,rfl⟩:=cZ h1;have hb:=uY hb;subst hb;replace h:=aj h;obtain⟨_,m2,l2,h1,h⟩:=h;obtain⟨hi,rfl,rfl⟩:=cZ h1;simp only[aF,hc] at hv;have hv:=hv.2.2 trivial;subst hv;have hro:r ∉ G.out:=λhr=>MP hi (ho r hr)
    have hni:∀k,k∈imp->k≠r:=λk hk e=>MP hi (e ▸ hk)
    cases own with
    |false=>simp only at h;replace h:=aj h;obtain⟨_,m3,l3,h1,h⟩:=h;rw[BF] at h1;cases h1;simp only[run_pure,eX,iL] at h;obtain⟨rfl,rfl,rfl⟩:=h;obtain⟨k1,k2,k3⟩:=hg.freeze hc hro;refine⟨_,[],_,rfl,⟨k1,k2,by simp,rfl,rfl⟩, ?_,λk hk=>jV (hni k hk) _ _⟩;simp only[ow,true_and];exact aak k3
    |true=>
     simp only at h;replace h:=aj h;obtain⟨_,m2,l2,h1,h⟩:=h;obtain⟨hfz,rfl,rfl⟩:=cZ h1;replace h:=aj h;obtain⟨_,m2,l2,h1,h⟩:=h;obtain⟨hok,rfl,rfl⟩:=cZ h1;have hfz:fz=false:=by simpa using hfz
     subst hfz;replace h:=aj h;obtain⟨_,m3,l3,h1,h⟩:=h;rw[BF] at h1;cases h1;simp only[run_pure,eX,iL] at h;obtain⟨rfl,rfl,rfl⟩:=h;obtain⟨k1,k2,k3⟩:=hg.kill hc hro;exact⟨_,G.F r,_,rfl,⟨k1,k2,rfl,rfl,rfl⟩,SQ k2.view (ad8 hok k3),λk hk=>jV (hni k hk) _ _⟩
 |ptr _ _=>exact(ak h).elim
 |rZ _ _ _ _=>exact(ak h).elim
 |pU _ _=>exact(ak h).elim
 |yt _=>exact(ak h).elim
 |clo _ _ _=>exact(ak h).elim
 |agg _=>exact(ak h).elim
 |yu _=>exact(ak h).elim
 |undef=>exact(ak h).elim
def Yo{imp own:List Nat}:∀{vs:List V} {gs:List Value} {m:Mem} {G:GS} {j:Nat} (_:BL base U w m G) (_:bF G.μ m (Gh U w G) vs gs) (_:∀r,r∈G.out->r∈imp) {vs':List V} {m':Mem} {l l':Log}
  (_:(QV imp own j vs).run m l=some (vs',m',l')),∃G' N xs,vs'=xs.map V.d∧xs.length=gs.length∧I8 base U w m G m' G' N∧fK (bT w) (Gh U w G') xs gs N∧∀k,k∈imp->get k m'=get k m
 |[],gs,m,G,j,hg,hv,ho,vs',m',l,l',h=>by simp only[QV,run_pure,eX,iL] at h;obtain⟨rfl,rfl,rfl⟩:=h;simp only[bF] at hv;subst hv;exact⟨G,[],[],rfl,rfl,I8.same hg,by simp[fK],λ_ _=>rfl⟩
 |v::vs,gs,m,G,j,hg,hv,ho,vs',m',l,l',h=>by obtain⟨g,gs',rfl,hv1,hv2⟩:=lD hv;simp only[QV] at h;replace h:=aj h;obtain⟨x,m1,l1,h1,h⟩:=h;replace h:=aj h;obtain⟨ys,m2,l2,h2,h⟩:=h;simp only[run_pure,eX,iL] at h;obtain⟨rfl,rfl,rfl⟩:=h;obtain⟨G1,N1,x1,rfl,t1,q1,i1⟩:=apK hg hv1 ho h1;obtain⟨G2,N2,xs,rfl,hlen,t2,q2,i2⟩:=Yo t1.ok (t1.le.bF hv2) (λr hr=>ho r (t1.out ▸ hr)) h2;refine⟨G2,N1++N2,x1::xs,rfl,by simp[hlen],t1.trans t2, ?_,λk hk=>(i2 k hk).trans (i1 k hk)⟩;simp only[fK];exact⟨g,gs',N1,N2,rfl,rfl,SQ t2.le.view q1,q2⟩
def afm(H:Heap)(h:View):Cell->Value->List Nat->Prop
 | .box t vs,g,N=>∃b a xs N',g=.pointer (some ⟨b,0,none⟩)∧H b=some (.cells a t (0,0))∧vs=xs.map V.d∧xs.length=a.toList.length∧fK H h xs a.toList N'∧N=b::N'
 | .arr fz fl ver s rows,g,N=>fz=false∧ver=0∧QM H h fl s rows g N
 | .dead,_,_=>False
 | .D5 ..,_,_=>False
 | .mF ..,_,_=>False
def cellsB(H:Heap)(h:View):List Cell->List Value->List Nat->Prop
 |[],gs,N=>gs=[]∧N=[]
 |c::cs,gs,N=>∃g gs' N1 N2,gs=g::gs'∧N=N1++N2∧afm H h c g N1∧cellsB H h cs gs' N2
def aam{H H':Heap}{h h':View}(hl:h.le h'){c:Cell}{g:Value}{N:List Nat}(hb:∀b,b∈N->H' b=H b)(q:afm H h c g N):afm H' h' c g N:=by
 cases c with
 |box t vs=>obtain⟨b,a,xs,N',h1,h2,h3,h4,h5,rfl⟩:=q;exact⟨b,a,xs,N',h1,by rw[hb b (by simp)];exact h2,h3,h4,Gl hl _ _ _ (λb' hb'=>hb b' (by simp[hb'])) h5,rfl⟩
 |arr fz fl ver s rows=>exact⟨q.1,q.2.1,Gz hl hb q.2.2⟩
 |dead=>exact q
 |D5 _ _ _=>exact q
 |mF _ _=>exact q
def Yp{H H':Heap}{h h':View}(hl:h.le h'):∀{cs:List Cell} {gs:List Value} {N:List Nat},(∀b,b∈N->H' b=H b)->cellsB H h cs gs N->cellsB H' h' cs gs N
 |[],_,_,_,q=>q
 |c::cs,_,_,hb,⟨g,gs',N1,N2,h1,h2,h3,h4⟩=>by subst h2;exact⟨g,gs',N1,N2,h1,rfl,aam hl (λb hx=>hb b (by simp[hx])) h3,Yp hl (λb hx=>hb b (by simp[hx])) h4⟩
def BL.arD(hg:BL base U w m G){r:Nat}{c:Cell}(hc:get r m=some c)(hro:r ∉ G.out):
  BL base U w m ⟨G.μ,VA G.F r [],G.E++G.F r,r::G.out⟩∧Q8 m G m ⟨G.μ,VA G.F r [],G.E++G.F r,r::G.out⟩:=by
 have hex:∀b,excl (VA G.F r []) (G.E++G.F r) b->excl G.F G.E b:=by
  rintro b (hb|⟨k,hb⟩)
  ·simp only[List.mem_append] at hb;rcases hb with h|h
   ·exact .inl h
   ·exact .inr ⟨r,h⟩
  ·by_cases e:k=r
   ·subst e;simp at hb
   ·rw[iZ _ e] at hb;exact .inr ⟨k,hb⟩
 have hv:(view w U (excl G.F G.E)).le (view w U (excl (VA G.F r []) (G.E++G.F r))):=LM (λ_ x=>x) hex;refine⟨show MInv base U m w G.μ (VA G.F r []) (G.E++G.F r) (r::G.out) from ?_,⟨og _ _,hex⟩⟩;refine⟨?_, ?_, ?_, ?_,List.nodup_append.2 ⟨hg.ndE,hg.nd r,λa ha b hb e=>hg.Zd r b hb (e ▸ ha)⟩,λb hb=>hg.lt b (hex b hb),hg.up,hg.bs, ?_, ?_⟩
 ·intro k c hk hko;simp only[List.mem_cons,not_or] at hko;rw[iZ _ hko.1];exact Hg (og _ _) hv rfl (λ_ _=>rfl) (hg.cell k c hk hko.2)
 ·intro k k' hne b hb hb'
  by_cases e:k=r
  ·subst e;simp at hb
  ·rw[iZ _ e] at hb
   by_cases e':k'=r
   ·subst e';simp at hb'
   ·rw[iZ _ e'] at hb';exact hg.dj _ _ hne b hb hb'
 ·intro k b hb hE
  by_cases e:k=r
  ·subst e;simp at hb
  ·rw[iZ _ e] at hb;simp only[List.mem_append] at hE;rcases hE with h|h
   ·exact hg.Zd _ b hb h
   ·exact hg.dj _ _ e b hb h
 ·intro k
  by_cases e:k=r
  ·subst e;simp
  ·rw[iZ _ e];exact hg.nd k
 ·intro k hk
  by_cases e:k=r
  ·subst e;simp
  ·rw[iZ _ e];exact hg.none_ k hk
 ·intro k hk
  by_cases e:k=r
  ·subst e;simp
  ·rw[iZ _ e];exact hg.out_ k (by simpa[e] using hk)
structure Out(base:Nat)(U:Nat->Prop)(w:World)(m:Mem)(G:GS)(m':Mem)(G':GS)(imp rs:List Nat)(N:List Nat):Prop where
 ok:BL base U w m' G'
 le:Q8 m G m' G'
 E:G'.E=G.E++N
 out:∀r,r∈G'.out↔r∈G.out∨r∈rs
 μ:G'.μ=G.μ
 here:∀k,k∈imp->get k m'=get k m
def sameKind:Cell->Cell->Prop
 | .box t _,.box t' _=>t=t'
 | .arr _ fl ver s _,.arr _ fl' gI s' _=>ver=0∧gI=0∧fl=fl'∧s=s'
 |_,_=>False
def kinds(m:Mem):List Nat->List Cell->Prop
 |[],cs=>cs=[]
 |r::rs,cs=>∃c c' cs',cs=c'::cs'∧get r m=some c∧sameKind c c'∧kinds m rs cs'
def VR{m m':Mem}:∀{rs:List Nat} {cs:List Cell},(∀r,r∈rs->get r m'=get r m)->kinds m rs cs->kinds m' rs cs
 |[],_,_,q=>q
 |r::rs,_,h,⟨c,c',cs',h1,h2,h3,h4⟩=>⟨c,c',cs',h1,(h r (by simp)).trans h2,h3,VR (λk hk=>h k (by simp[hk])) h4⟩
def Xl{A:Adv}{imp:List Nat}:∀{rs:List Nat} {m:Mem} {G:GS} (_:BL base U w m G) (_:rs.Nodup) (_:∀r,r∈rs->r∈imp∧r ∉ G.out) (_:∀r,r∈G.out->r∈imp) {cs:List Cell} {m':Mem} {l l':Log}
  (_:(QW A imp rs).run m l=some (cs,m',l')),∃G' N,Out base U w m G m' G' imp rs N∧cellsB (bT w) (Gh U w G') cs (rs.map G.μ) N∧kinds m rs cs
 |[],m,G,hg,hn,hr,ho,cs,m',l,l',h=>by simp only[QW,run_pure,eX,iL] at h;obtain⟨rfl,rfl,rfl⟩:=h;exact⟨G,[],⟨hg,Q8.refl _ _,by simp,λr=>by simp,rfl,λ_ _=>rfl⟩,⟨rfl,rfl⟩,rfl⟩
 |r::rs,m,G,hg,hn,hr,ho,cs,m',l,l',h=>by
  simp only[QW] at h;replace h:=aj h;obtain⟨c,m1,l1,h1,h⟩:=h;rw[rW] at h1;cases h1;replace h:=aj h;obtain⟨c1,m1,l1,h1,h⟩:=h;replace h:=aj h;obtain⟨cs1,m2,l2,h2,h⟩:=h;simp only[run_pure,eX,iL] at h;obtain⟨rfl,rfl,rfl⟩:=h;have hri:=hr r (by simp);have hnr:=List.nodup_cons.1 hn;have step:∃G' N,Out base U w m G m1 G' imp [r] N∧afm (bT w) (Gh U w G') c1 (G.μ r) N∧∃c,get r m=some c∧sameKind c c1:=by
   cases hc:get r m with
   |none=>rw[hc] at h1;exact(ak h1).elim
   |some c=>
    rw[hc] at h1;have hq:=hg.cell r c hc hri.2;obtain⟨k1,k2⟩:=hg.arD hc hri.2;cases c with
    |dead=>exact(ak h1).elim
    |D5 _ _ _=>exact(ak h1).elim
    |mF _ _=>exact(ak h1).elim
    |box t vs=>
     simp only[ad3] at h1;replace h1:=aj h1;obtain⟨vs',m3,l3,h3,h1⟩:=h1;simp only[run_pure,eX,iL] at h1;obtain⟨rfl,rfl,rfl⟩:=h1;obtain⟨b,a,e1,e2,e3,e4⟩:=hq;obtain⟨G2,N2,xs,rfl,hlen,t2,q2,i2⟩:=Yo k1 (k2.bF e3) (λk hk=>by
      simp only[List.mem_cons] at hk;rcases hk with rfl|hk
      ·exact hri.1
      ·exact ho k hk) h3
     refine⟨G2,b::N2,⟨t2.ok,k2.trans t2.le,by rw[t2.E,e4];simp,λk=>by rw[t2.out];simp[or_comm],t2.μ,i2⟩,⟨b,a,xs,N2,e1,e2,rfl,hlen,q2,rfl⟩,_,rfl,rfl⟩
    |arr fz fl ver s rows=>
     simp only[ad3] at h1;replace h1:=aj h1;obtain⟨_,m3,l3,h3,h1⟩:=h1;obtain⟨hfz,rfl,rfl⟩:=cZ h3;replace h1:=aj h1;obtain⟨_,m3,l3,h3,h1⟩:=h1;obtain⟨hv0,rfl,rfl⟩:=cZ h3;simp only[run_pure,eX,iL] at h1;obtain⟨rfl,rfl,rfl⟩:=h1;have hfz:fz=false:=by simpa using hfz
     subst hfz;have hv0:=uY hv0;subst hv0;refine⟨_,G.F r,⟨k1,k2,rfl,λk=>by simp[or_comm],rfl,λ_ _=>rfl⟩,⟨rfl,rfl,Gz k2.view (λ_ _=>rfl) hq⟩,_,rfl,rfl,rfl,rfl,rfl⟩
  obtain⟨G1,N1,o1,q1,c0,hc0,hk0⟩:=step;obtain⟨G2,N2,o2,q2,kd2⟩:=Xl o1.ok hnr.2 (λk hk=>⟨(hr k (by simp[hk])).1,λhko=>by
   rcases(o1.out k).1 hko with h|h
   ·exact(hr k (by simp[hk])).2 h
   ·simp at h;subst h;exact hnr.1 hk⟩) (λk hk=>by
   rcases(o1.out k).1 hk with h|h
   ·exact ho k h
   ·simp at h;subst h;exact hri.1) h2
  refine⟨G2,N1++N2,⟨o2.ok,o1.le.trans o2.le,by rw[o2.E,o1.E,Bf],λk=> ?_,o2.μ.trans o1.μ,λk hk=>(o2.here k hk).trans (o1.here k hk)⟩,⟨G.μ r,rs.map G.μ,N1,N2,rfl,rfl,aam o2.le.view (λ_ _=>rfl) q1,by rw[<-o1.μ];exact q2⟩,c0,c1,cs1,rfl,hc0,hk0,VR (λk hk=>(o1.here k (hr k (by simp[hk])).1).symm) kd2⟩;rw[o2.out,o1.out];simp[or_assoc]
end
end Go.Vm
namespace Go.Vm
open Go
section
variable {base:Nat} {U:Nat->Prop} {w:World} {m:Mem} {G:GS}
def VT{r:Nat}{l:List Nat}(h:l.Nodup):(ad2 r l).Nodup:=by
 unfold ad2;cases hm:mem? r l with
 |true=>exact h
 |false=>
  have:r ∉ l:=λhr=>by rw[(vV r l).2 hr] at hm;cases hm
  exact List.nodup_append.2 ⟨h,by simp,λa ha b hb e=>by simp at hb;subst hb;subst e;exact this ha⟩
mutual
def UE:∀(v:V) (I:List Nat),I.Nodup->(afi I v).Nodup
 | .ptr r _,I,h=>by simp only[afi];exact VT h
 | .clo _ a b,I,h=>by simp only[afi];exact NZ b _ (NZ a _ h)
 | .agg cs,I,h=>by simp only[afi];exact NZ cs _ h
 | .d _,I,h=>h
 | .nil _,I,h=>h
 | .own _ _,I,h=>h
 | .rZ _ _ _ _,I,h=>h
 | .pU _ _,I,h=>h
 | .yt v,I,h=>by simp only[afi];exact UE v I h
 | .yu _,I,h=>h
 | .undef,I,h=>h
def NZ:∀(vs:List V) (I:List Nat),I.Nodup->(acN I vs).Nodup
 |[],I,h=>h
 |v::vs,I,h=>by simp only[acN];exact NZ vs _ (UE v I h)
end
def TS(A:Adv)(f:Nat):∀(vs:List V) (i:Nat) (I:List Nat),I.Nodup->(LK A f i I vs).Nodup
 |[],_,I,h=>h
 |v::vs,i,I,h=>by
  simp only[LK];refine TS A f vs _ _ ?_;split
  ·exact VT h
  ·exact h
  ·exact UE _ _ h
def LP(A:Adv)(f:Nat)(μ:Nat->Value)(m:Mem)(H:Heap)(h:View):Nat->List V->List Value->List Nat->Prop
 |_,[],gs,N=>gs=[]∧N=[]
 |i,v::vs,gs,N=>∃g gs' N1 N2,gs=g::gs'∧N=N1++N2∧(match BD A f i with
   |1=>∃x,v=.d x∧ow H h x g N1
   |_=>N1=[]∧aF μ m h v g)∧LP A f μ m H h (i+1) vs gs' N2
def O4{A:Adv}{f:Nat}{μ μ':Nat->Value}{m m':Mem}{H H':Heap}{h h':View}(hm:Dl μ m μ' m')(hl:h.le h'):∀{vs:List V} {i:Nat} {gs:List Value} {N:List Nat},(∀b,b∈N->H' b=H b)->
  LP A f μ m H h i vs gs N->LP A f μ' m' H' h' i vs gs N
 |[],_,_,_,_,q=>q
 |v::vs,i,gs,N,hb,q=>by
  simp only[LP] at q⊢;obtain⟨g,gs',N1,N2,rfl,rfl,h3,h4⟩:=q;refine⟨g,gs',N1,N2,rfl,rfl, ?_,O4 hm hl (λb hx=>hb b (by simp[hx])) h4⟩;split at h3
  ·rename_i hmo;obtain⟨x,hx,hq⟩:=h3;exact⟨x,hx,ad6 hl x g N1 (λb hx=>hb b (by simp[hx])) hq⟩
  ·exact⟨h3.1,vI hm hl v g h3.2⟩
def Yq{A:Adv}{f:Nat}:∀{vs:List V} {gs:List Value} {m:Mem} {G:GS} {i:Nat} (_:BL base U w m G) (_:bF G.μ m (Gh U w G) vs gs) (_:G.out=[]) {vs':List V} {m':Mem} {l l':Log}
  (_:(OW A f i vs).run m l=some (vs',m',l')),∃G' N,I8 base U w m G m' G' N∧LP A f G'.μ m' (bT w) (Gh U w G') i vs' gs N
 |[],gs,m,G,i,hg,hv,ho,vs',m',l,l',h=>by simp only[OW,run_pure,eX,iL] at h;obtain⟨rfl,rfl,rfl⟩:=h;simp only[bF] at hv;exact⟨G,[],I8.same hg,hv,rfl⟩
 |v::vs,gs,m,G,i,hg,hv,ho,vs',m',l,l',h=>by
  obtain⟨g,gs',rfl,hv1,hv2⟩:=lD hv;simp only[OW] at h;replace h:=aj h;obtain⟨x,m1,l1,h1,h⟩:=h;replace h:=aj h;obtain⟨ys,m2,l2,h2,h⟩:=h;simp only[run_pure,eX,iL] at h;obtain⟨rfl,rfl,rfl⟩:=h;have step:∃G1 N1,I8 base U w m G m1 G1 N1∧(match BD A f i with
   |1=>∃y,x=.d y∧ow (bT w) (Gh U w G1) y g N1
   |_=>N1=[]∧aF G1.μ m1 (Gh U w G1) x g):=by
   split at h1
   ·rename_i hmo;replace h1:=aj h1;obtain⟨y,m3,l3,h3,h1⟩:=h1;simp only[run_pure,eX,iL] at h1;obtain⟨rfl,rfl,rfl⟩:=h1;obtain⟨G1,N1,t1,q1⟩:=amw hg hv1 ho h3;refine⟨G1,N1,t1, ?_⟩
    try rw[hmo]
    exact⟨y,rfl,q1⟩
   ·rename_i hmo;simp only[run_pure,eX,iL] at h1;obtain⟨rfl,rfl,rfl⟩:=h1;refine⟨G,[],I8.same hg, ?_⟩
    first
     |exact⟨rfl,hv1⟩
     |split
      ·rename_i e;exact absurd e hmo
      ·exact⟨rfl,hv1⟩
  obtain⟨G1,N1,t1,q1⟩:=step;obtain⟨G2,N2,t2,q2⟩:=Yq t1.ok (t1.le.bF hv2) (t1.out.trans ho) h2;refine⟨G2,N1++N2,t1.trans t2, ?_⟩;simp only[LP];refine⟨g,gs',N1,N2,rfl,rfl, ?_,q2⟩;split at q1
  ·obtain⟨y,hy,hq⟩:=q1;exact⟨y,hy,SQ t2.le.view hq⟩
  ·exact⟨q1.1,t2.le.aF q1.2⟩
def aan:∀(cs:List Cell) (k i:Nat),get (kN+(k+i)) (nZ k cs)=cs[i]?
 |[],_,_=>by simp[nZ,get]
 |c::cs,k,0=>by simp[nZ,get]
 |c::cs,k,i+1=>by simp only[nZ,get];rw[rV (by omega)];simp only[cu,List.getElem?_cons_succ];rw[<-aan cs (k+1) i,show k+1+i=k+(i+1) from by omega]
def KJ(cs:List Cell)(i:Nat):get (kN+i) (nZ 0 cs)=cs[i]? :=by
 have:=aan cs 0 i
 rwa [Nat.zero_add] at this
def impμ(hs:List Value):Nat->Value:=λk=>hs.getD (k - kN) undef
def UF{r:Nat}:∀{l:List Nat} {k i:Nat},idxOf r k l=some i->k<=i∧l[i - k]? =some r
 |[],_,_,h=>by simp[idxOf] at h
 |j::l,k,i,h=>by
  simp only[idxOf] at h
  by_cases e:r=j
  ·subst e;simp at h;subst h;simp
  ·rw[rV e] at h;simp only[cu] at h;obtain⟨h1,h2⟩:=UF h;refine⟨by omega, ?_⟩;rw[show i - k=(i - (k+1))+1 from by omega,List.getElem?_cons_succ];exact h2
def VU{m:Mem}:∀{rs:List Nat} {cs:List Cell} {i r:Nat},kinds m rs cs->rs[i]? =some r->∃c c',get r m=some c∧cs[i]? =some c'∧sameKind c c'
 |[],_,_,_,_,h=>by simp at h
 |r::rs,_,0,r',⟨c,c',cs',h1,h2,h3,_⟩,h=>by simp at h;subst h;subst h1;exact⟨c,c',h2,rfl,h3⟩
 |r::rs,_,i+1,r',⟨c,c',cs',h1,h2,h3,h4⟩,h=>by subst h1;simp only[List.getElem?_cons_succ] at h⊢;exact VU h4 h
def Ri(U:Nat->Prop)(G:GS)(L:List Nat):Nat->Prop:=λb=>U b∧∀r,b∈G.F r->r∈L
def LQ{L:List Nat}:(Gh U w G).le (view w (Ri U G L) (· ∈G.E)):=by
 intro b o v hv;unfold Gh view at hv;split at hv
 ·rename_i hc;unfold view;rw[if_pos ⟨⟨hc.1,λr hr=>absurd (.inr ⟨r,hr⟩) hc.2⟩,λhE=>hc.2 (.inl hE)⟩];exact hv
 ·cases hv
structure acQ(base:Nat)(U:Nat->Prop)(w:World)(m:Mem)(G:GS)(imp:List Nat)(cells:List Cell):Prop where
 ok:BL base U w m G
 out:∀r,r∈G.out↔r∈imp
 kd:kinds m imp cells
def apL(hg:BL base U w m G){r:Nat}{fz fl:Bool}{ver s:Nat}{rows:List Row}(hc:get r m=some (.arr fz fl ver s rows))(hro:r ∉ G.out){L:List Nat}(hL:fz=false->r∈L)(o:Bool):
  ro (view w (Ri U G L) (· ∈G.E)) (.sl o s rows) (G.μ r):=by
 have hq:=hg.cell r _ hc hro;cases fz with
 |true=>exact Rf (D9 LQ _ _ hq.1)
 |false=>
  refine ad7 LQ (GI λb hb=>⟨⟨(hg.lt b (.inr ⟨r,hb⟩)).2.2,λk hk=> ?_⟩,hg.Zd r b hb⟩) hq o
  by_cases e:k=r
  ·rw[e];exact hL rfl
  ·exact absurd hk (hg.dj r k (Ne.symm e) b hb)
mutual
def ZI{imp:List Nat}{cells:List Cell}(C:acQ base U w m G imp cells):∀{v:V} {g:Value} (_:aF G.μ m (Gh U w G) v g) {v':V} {lt:List Nat} {m':Mem} {l l':Log}
  (_:(lend imp v).run m l=some ((v',lt),m',l')),m'=m∧∀L:List Nat,(∀r,r∈lt->r∈L)->aF (impμ (imp.map G.μ)) (nZ 0 cells) (view w (Ri U G L) (· ∈G.E)) v' g
 | .d x,g,hv,v',lt,m',l,l',h=>by simp only[lend,run_pure,eX,iL] at h;obtain⟨⟨rfl,rfl⟩,rfl,rfl⟩:=h;refine⟨rfl,λL hL=> ?_⟩;simp only[aF] at hv⊢;exact D9 LQ _ _ (amu hv)
 | .nil s,g,hv,v',lt,m',l,l',h=>by simp only[lend,run_pure,eX,iL] at h;obtain⟨⟨rfl,rfl⟩,rfl,rfl⟩:=h;refine⟨rfl,λL hL=> ?_⟩;simp only[aF] at hv⊢;simp[ro,hv]
 | .own r ver,g,hv,v',lt,m',l,l',h=>by
  simp only[lend] at h;replace h:=aj h;obtain⟨c,m1,l1,h1,h⟩:=h;rw[rW] at h1;cases h1;cases hc:get r m with
  |none=>rw[hc] at h;exact(ak h).elim
  |some c=>
   rw[hc] at h;cases c with
   |box _ _=>exact(ak h).elim
   |dead=>exact(ak h).elim
   |D5 _ _ _=>exact(ak h).elim
   |mF _ _=>exact(ak h).elim
   |arr fz fl gI s rows=>
    simp only at h;replace h:=aj h;obtain⟨_,m2,l2,h1,h⟩:=h;obtain⟨hb,rfl,rfl⟩:=cZ h1;have hb:=uY hb;subst hb;replace h:=aj h;obtain⟨_,m2,l2,h1,h⟩:=h;obtain⟨hi,rfl,rfl⟩:=cZ h1;simp only[run_pure,eX,iL] at h;obtain⟨⟨rfl,rfl⟩,rfl,rfl⟩:=h;simp only[aF,hc] at hv;have hv:=hv.2.2 trivial;subst hv;refine⟨rfl,λL hL=> ?_⟩;have hro:r ∉ G.out:=λhr=>MP hi ((C.out r).1 hr)
    simp only[aF];exact aak (apL C.ok hc hro (λhf=>hL r (by subst hf;simp)) true)
 | .ptr r off,g,hv,v',lt,m',l,l',h=>by simp only[lend] at h;replace h:=aj h;obtain⟨i,m1,l1,h1,h⟩:=h;obtain⟨hi,rfl,rfl⟩:=eU h1;simp only[run_pure,eX,iL] at h;obtain⟨⟨rfl,rfl⟩,rfl,rfl⟩:=h;refine⟨rfl,λL hL=> ?_⟩;obtain⟨_,h2⟩:=UF hi;rw[Nat.sub_zero] at h2;obtain⟨c,c',k1,k2,k3⟩:=VU C.kd h2;simp only[aF,k1] at hv;simp only[aF,KJ,k2];refine⟨hv.1, ?_⟩;replace hv:=hv.2;cases c<;>cases c'<;>simp only[sameKind] at k3 hv⊢;obtain⟨b,e1,e2⟩:=hv;refine⟨b, ?_,e2⟩;simp only[impμ,Nat.add_sub_cancel_left,List.getD_eq_getElem?_getD,List.getElem?_map,h2,He,Option.getD_some,e1]
 | .pU row off,g,hv,v',lt,m',l,l',h=>by simp only[lend,run_pure,eX,iL] at h;obtain⟨⟨rfl,rfl⟩,rfl,rfl⟩:=h;refine⟨rfl,λL hL=> ?_⟩;simp only[aF] at hv⊢;obtain⟨b,o,e1,e2⟩:=hv;exact⟨b,o,e1,Jg LQ row b o e2⟩
 | .yt v,g,hv,v',lt,m',l,l',h=>by simp only[lend] at h;replace h:=aj h;obtain⟨⟨a',la⟩,m1,l1,h1,h⟩:=h;simp only[run_pure,eX,iL] at h;obtain⟨⟨rfl,rfl⟩,rfl,rfl⟩:=h;simp only[aF] at hv;obtain⟨b,x,rfl,e2,e3⟩:=hv;obtain⟨hm1,q1⟩:=ZI C e3 h1;refine⟨hm1,λL hL=> ?_⟩;simp only[aF];exact⟨b,x,rfl,LQ _ _ _ e2,q1 L hL⟩
 | .clo f a b,g,hv,v',lt,m',l,l',h=>by simp only[lend] at h;replace h:=aj h;obtain⟨⟨a',la⟩,m1,l1,h1,h⟩:=h;simp only at h;replace h:=aj h;obtain⟨⟨b',lb⟩,m2,l2,h2,h⟩:=h;simp only[run_pure,eX,iL] at h;obtain⟨⟨rfl,rfl⟩,rfl,rfl⟩:=h;simp only[aF] at hv;obtain⟨x,y,rfl,e2,e3⟩:=hv;obtain⟨hm1,q1⟩:=VW C e2 h1;rw[hm1] at h2;obtain⟨hm2,q2⟩:=VW C e3 h2;refine⟨hm2,λL hL=> ?_⟩;simp only[aF];exact⟨x,y,rfl,q1 L (λr hr=>hL r (by simp[hr])),q2 L (λr hr=>hL r (by simp[hr]))⟩
 | .agg cs,g,hv,v',lt,m',l,l',h=>by simp only[lend] at h;replace h:=aj h;obtain⟨⟨a',la⟩,m1,l1,h1,h⟩:=h;simp only[run_pure,eX,iL] at h;obtain⟨⟨rfl,rfl⟩,rfl,rfl⟩:=h;simp only[aF] at hv;obtain⟨x,rfl,e2⟩:=hv;obtain⟨hm1,q1⟩:=VW C e2 h1;refine⟨hm1,λL hL=> ?_⟩;simp only[aF];exact⟨x,rfl,q1 L hL⟩
 | .rZ _ _ _ _,g,hv,v',lt,m',l,l',h=>(ak h).elim
 | .yu _,g,hv,v',lt,m',l,l',h=>(ak h).elim
 | .undef,g,hv,v',lt,m',l,l',h=>(ak h).elim
def VW{imp:List Nat}{cells:List Cell}(C:acQ base U w m G imp cells):∀{vs:List V} {gs:List Value} (_:bF G.μ m (Gh U w G) vs gs) {vs':List V} {lt:List Nat} {m':Mem} {l l':Log}
  (_:(aae imp vs).run m l=some ((vs',lt),m',l')),m'=m∧∀L:List Nat,(∀r,r∈lt->r∈L)->bF (impμ (imp.map G.μ)) (nZ 0 cells) (view w (Ri U G L) (· ∈G.E)) vs' gs
 |[],gs,hv,v',lt,m',l,l',h=>by simp only[aae,run_pure,eX,iL] at h;obtain⟨⟨rfl,rfl⟩,rfl,rfl⟩:=h;simp only[bF] at hv;subst hv;exact⟨rfl,λ_ _=>by simp[bF]⟩
 |v::vs,gs,hv,v',lt,m',l,l',h=>by obtain⟨g,gs',rfl,hv1,hv2⟩:=lD hv;simp only[aae] at h;replace h:=aj h;obtain⟨⟨a',la⟩,m1,l1,h1,h⟩:=h;simp only at h;replace h:=aj h;obtain⟨⟨b',lb⟩,m2,l2,h2,h⟩:=h;simp only[run_pure,eX,iL] at h;obtain⟨⟨rfl,rfl⟩,rfl,rfl⟩:=h;obtain⟨hm1,q1⟩:=ZI C hv1 h1;rw[hm1] at h2;obtain⟨hm2,q2⟩:=VW C hv2 h2;refine⟨hm2,λL hL=> ?_⟩;simp only[bF];exact⟨g,gs',rfl,q1 L (λr hr=>hL r (by simp[hr])),q2 L (λr hr=>hL r (by simp[hr]))⟩
end
def VX{imp:List Nat}{cells:List Cell}(C:acQ base U w m G imp cells):∀{vs:List V} {gs:List Value} (_:bF G.μ m (Gh U w G) vs gs) {row:Row} {lt:List Nat} {m':Mem} {l l':Log}
  (_:(OX imp vs).run m l=some ((row,lt),m',l')),m'=m∧∀L:List Nat,(∀r,r∈lt->r∈L)->fU (view w (Ri U G L) (· ∈G.E)) row gs
 |[],gs,hv,row,lt,m',l,l',h=>by simp only[OX,run_pure,eX,iL] at h;obtain⟨⟨rfl,rfl⟩,rfl,rfl⟩:=h;exact⟨rfl,λ_ _=>by simp[fU]⟩
 |v::vs,gs,hv,row,lt,m',l,l',h=>by
  obtain⟨g,gs',rfl,hv1,hv2⟩:=lD hv;simp only[OX] at h;replace h:=aj h;obtain⟨⟨a',la⟩,m1,l1,h1,h⟩:=h;obtain⟨hm1,q1⟩:=ZI C hv1 h1;cases a' with
  |d x=>simp only at h;replace h:=aj h;obtain⟨⟨b',lb⟩,m2,l2,h2,h⟩:=h;simp only[run_pure,eX,iL] at h;obtain⟨⟨rfl,rfl⟩,rfl,rfl⟩:=h;rw[hm1] at h2;obtain⟨hm2,q2⟩:=VX C hv2 h2;refine⟨hm2,λL hL=> ?_⟩;have:=q1 L (λr hr=>hL r (by simp[hr]));simp only[aF] at this;exact⟨g,gs',rfl,this,q2 L (λr hr=>hL r (by simp[hr]))⟩
  |_=>exact(ak h).elim
def aiT{imp:List Nat}{cells:List Cell}(C:acQ base U w m G imp cells){v:V}{g:Value}(hv:aF G.μ m (Gh U w G) v g){v':V}{lt:List Nat}{m':Mem}{l l':Log}
  (h:(ZH imp v).run m l=some ((v',lt),m',l')):m'=m∧∀L:List Nat,(∀r,r∈lt->r∈L)->aF (impμ (imp.map G.μ)) (nZ 0 cells) (view w (Ri U G L) (· ∈G.E)) v' g:=by
 cases v with
 |ptr r off=>
  simp only[ZH] at h;replace h:=aj h;obtain⟨c,m1,l1,h1,h⟩:=h;rw[rW] at h1;cases h1;cases hc:get r m with
  |none=>rw[hc] at h;exact(ak h).elim
  |some c=>
   rw[hc] at h;cases c with
   |box t cs=>
    simp only at h;replace h:=aj h;obtain⟨_,m2,l2,h1,h⟩:=h;obtain⟨hi,rfl,rfl⟩:=cZ h1;replace h:=aj h;obtain⟨⟨row,la⟩,m2,l2,h1,h⟩:=h;simp only[run_pure,eX,iL] at h;obtain⟨⟨rfl,rfl⟩,rfl,rfl⟩:=h;have hro:r ∉ G.out:=λhr=>MP hi ((C.out r).1 hr)
    obtain⟨b,a,e1,e2,e3,e4⟩:=C.ok.cell r _ hc hro;obtain⟨hm,q⟩:=VX C e3 h1;refine⟨hm,λL hL=> ?_⟩;simp only[aF,hc] at hv⊢;obtain⟨b',e5,e6⟩:=hv.2;rw[e1] at e5;cases e5;refine⟨b,0,by rw[Nat.zero_add];exact e6,UC row 0 a.toList (λj u hj=> ?_) (q L (λk hk=>hL k (by simp[hk])))⟩;rw[Nat.zero_add];have hb:b∈G.F r:=by rw[e4];simp
    refine GI (N:=[b]) (λb' hb'=> ?_) b (by simp) a t _ e2 j u hj;simp only[List.mem_singleton] at hb';subst hb';refine⟨⟨(C.ok.lt _ (.inr ⟨r,hb⟩)).2.2,λk hk=> ?_⟩,C.ok.Zd r _ hb⟩
    by_cases e:k=r
    ·rw[e];exact hL r (by simp)
    ·exact absurd hk (C.ok.dj r k (Ne.symm e) _ hb)
   |_=>exact(ak h).elim
 |pU row off=>simp only[ZH,run_pure,eX,iL] at h;obtain⟨⟨rfl,rfl⟩,rfl,rfl⟩:=h;refine⟨rfl,λL hL=> ?_⟩;simp only[aF] at hv⊢;obtain⟨b,o,e1,e2⟩:=hv;exact⟨b,o,e1,Jg LQ row b o e2⟩
 |_=>exact(ak h).elim
def Yr{A:Adv}{f:Nat}{imp:List Nat}{cells:List Cell}(C:acQ base U w m G imp cells):
  ∀{vs:List V} {gs:List Value} {i:Nat} {N:List Nat} (_:LP A f G.μ m (bT w) (Gh U w G) i vs gs N) {vs':List V} {lt:List Nat} {m':Mem} {l l':Log}
  (_:(OY A imp f i vs).run m l=some ((vs',lt),m',l')),m'=m∧∀L:List Nat,(∀r,r∈lt->r∈L)->LP A f (impμ (imp.map G.μ)) (nZ 0 cells) (bT w) (view w (Ri U G L) (· ∈G.E)) i vs' gs N
 |[],gs,i,N,hv,v',lt,m',l,l',h=>by simp only[OY,run_pure,eX,iL] at h;obtain⟨⟨rfl,rfl⟩,rfl,rfl⟩:=h;exact⟨rfl,λ_ _=>hv⟩
 |v::vs,gs,i,N,hv,v',lt,m',l,l',h=>by
  simp only[LP] at hv;obtain⟨g,gs',N1,N2,rfl,rfl,hv1,hv2⟩:=hv;simp only[OY] at h;replace h:=aj h;obtain⟨⟨a',la⟩,m1,l1,h1,h⟩:=h;simp only at h;replace h:=aj h;obtain⟨⟨b',lb⟩,m2,l2,h2,h⟩:=h;simp only[run_pure,eX,iL] at h;obtain⟨⟨rfl,rfl⟩,rfl,rfl⟩:=h;have step:m1=m∧∀L:List Nat,(∀r,r∈la->r∈L)->(match BD A f i with
   |1=>∃x,a'=.d x∧ow (bT w) (view w (Ri U G L) (· ∈G.E)) x g N1
   |_=>N1=[]∧aF (impμ (imp.map G.μ)) (nZ 0 cells) (view w (Ri U G L) (· ∈G.E)) a' g):=by
   split at h1
   ·rename_i hmo;rw[hmo] at hv1⊢;simp only[run_pure,eX,iL] at h1;obtain⟨⟨rfl,rfl⟩,rfl,rfl⟩:=h1;refine⟨rfl,λL hL=> ?_⟩;obtain⟨x,hx,hq⟩:=hv1;exact⟨x,hx,SQ LQ hq⟩
   ·rename_i hmo;rw[hmo] at hv1⊢;obtain⟨hN,hv1⟩:=hv1;cases v with
    |own r ver=>simp only at h1;replace h1:=aj h1;obtain⟨_,m3,l3,h3,h1⟩:=h1;obtain⟨hb,rfl,rfl⟩:=cZ h3;have hb:=uY hb;subst hb;replace h1:=aj h1;obtain⟨j,m3,l3,h3,h1⟩:=h1;obtain⟨hj,rfl,rfl⟩:=eU h3;simp only[run_pure,eX,iL] at h1;obtain⟨⟨rfl,rfl⟩,rfl,rfl⟩:=h1;refine⟨rfl,λL hL=>⟨hN, ?_⟩⟩;obtain⟨_,h2⟩:=UF hj;rw[Nat.sub_zero] at h2;obtain⟨c,c',k1,k2,k3⟩:=VU C.kd h2;simp only[aF,k1] at hv1;simp only[aF,KJ,k2];refine⟨hv1.1, ?_⟩;replace hv1:=hv1.2;cases c<;>cases c'<;>simp only[sameKind] at k3 hv1⊢;refine⟨by omega,λ_=> ?_⟩;simp only[impμ,Nat.add_sub_cancel_left,List.getD_eq_getElem?_getD,List.getElem?_map,h2,He,Option.getD_some];exact hv1.2 k3.1.symm
    |d _=>exact(ak h1).elim
    |nil _=>exact(ak h1).elim
    |ptr _ _=>exact(ak h1).elim
    |rZ _ _ _ _=>exact(ak h1).elim
    |pU _ _=>exact(ak h1).elim
    |yt _=>exact(ak h1).elim
    |clo _ _ _=>exact(ak h1).elim
    |agg _=>exact(ak h1).elim
    |yu _=>exact(ak h1).elim
    |undef=>exact(ak h1).elim
   ·rename_i hmo;rw[hmo] at hv1⊢;obtain⟨hN,hv1⟩:=hv1;cases v with
    |nil s=>simp only[run_pure,eX,iL] at h1;obtain⟨⟨rfl,rfl⟩,rfl,rfl⟩:=h1;exact⟨rfl,λL hL=>⟨hN,hv1⟩⟩
    |d _=>exact(ak h1).elim
    |own _ _=>exact(ak h1).elim
    |ptr _ _=>exact(ak h1).elim
    |rZ _ _ _ _=>exact(ak h1).elim
    |pU _ _=>exact(ak h1).elim
    |yt _=>exact(ak h1).elim
    |clo _ _ _=>exact(ak h1).elim
    |agg _=>exact(ak h1).elim
    |yu _=>exact(ak h1).elim
    |undef=>exact(ak h1).elim
   ·rename_i hmo;rw[hmo] at hv1⊢;obtain⟨hN,hv1⟩:=hv1;obtain⟨rfl,q⟩:=aiT C hv1 h1;exact⟨rfl,λL hL=>⟨hN,q L hL⟩⟩
   ·rename_i amx aQK aQL aQM;have hm1:∀(α:Prop) (β:Prop),(match BD A f i with|1=>α|_=>β)=β:=by
     intro α β;split
     ·rename_i e;exact absurd e amx
     ·rfl
    rw[hm1] at hv1;obtain⟨hN,hv1⟩:=hv1;obtain⟨rfl,q⟩:=ZI C hv1 h1;refine⟨rfl,λL hL=> ?_⟩;rw[hm1];exact⟨hN,q L hL⟩
  obtain⟨hm1,q1⟩:=step;rw[hm1] at h2;obtain⟨hm2,q2⟩:=Yr C hv2 h2;refine⟨hm2,λL hL=> ?_⟩;simp only[LP];exact⟨g,gs',N1,N2,rfl,rfl,q1 L (λr hr=>hL r (by simp[hr])),q2 L (λr hr=>hL r (by simp[hr]))⟩
end
end Go.Vm
namespace Go.Vm
open Go
def Ji{w:World}{U X:Nat->Prop}{b o:Nat}{v:Value}(h:view w U X b o=some v):U b∧¬X b∧w.cell? ⟨b,o,none⟩=some v:=by
 unfold view at h;split at h
 ·rename_i hc;exact⟨hc.1,hc.2,h⟩
 ·cases h
def ZJ{w:World}{U X:Nat->Prop}{b o:Nat}{v:Value}(h1:U b)(h2:¬X b)(h3:w.cell? ⟨b,o,none⟩=some v):view w U X b o=some v:=by unfold view;rw[if_pos ⟨h1,h2⟩];exact h3
def cell_of_heap{w w':World}{b:Nat}(h:w'.heap[b]? =w.heap[b]?)(o:Nat):w'.cell? ⟨b,o,none⟩=w.cell? ⟨b,o,none⟩:=by simp[World.cell?,h]
def lt_of_cell{w:World}{b o:Nat}{v:Value}(h:w.cell? ⟨b,o,none⟩=some v):b<w.heap.size:=by have:=block_lt_of_cell h;simpa using this
section
variable {base:Nat} {U:Nat->Prop} {w w':World} {m:Mem} {G:GS}
def BL.world(hg:BL base U w m G)(hk:Keep G.E w w'){E':List Nat}(hn:E'.Nodup)(hE:∀b,b∈E'->(b∈G.E∨w.heap.size<=b)∧b<w'.heap.size):
  BL base U w' m {G with E:=E'}∧(Gh U w G).le (Gh U w' {G with E:=E'}):=by
 have hnE:∀b,b<w.heap.size->b ∉ G.E->b ∉ E':=λb hb hx he=>by
  rcases(hE b he).1 with h|h
  ·exact hx h
  ·omega
 have hF:∀r b,b∈G.F r->w'.heap[b]? =w.heap[b]? :=λr b hb=>hk.block b (hg.lt b (.inr ⟨r,hb⟩)).1 (hg.Zd r b hb)
 have hle:(Gh U w G).le (Gh U w' {G with E:=E'}):=by
  intro b o v hv;obtain⟨h1,h2,h3⟩:=Ji hv;have hlt:=lt_of_cell h3;have hbE:b ∉ G.E:=λh=>h2 (.inl h)
  refine ZJ h1 ?_ ((cell_of_heap (hk.block b hlt hbE) o).trans h3);rintro(h|h)
  ·exact hnE b hlt hbE h
  ·exact h2 (.inr h)
 refine⟨⟨?_,hg.dj,λr b hb=>hnE b (hg.lt b (.inr ⟨r,hb⟩)).1 (hg.Zd r b hb),hg.nd,hn, ?_,λb hb=>hg.up b (Nat.le_trans hk.size hb),Nat.le_trans hg.bs hk.size,hg.none_,hg.out_⟩,hle⟩
 ·intro r c hc ho;exact Hg (og _ _) hle rfl (λb hb=>hF r b hb) (hg.cell r c hc ho)
 ·rintro b (h|⟨r,h⟩)
  ·refine⟨(hE b h).2, ?_⟩;rcases(hE b h).1 with h'|h'
   ·exact(hg.lt b (.inl h')).2
   ·exact⟨Nat.le_trans hg.bs h',hg.up b h'⟩
  ·have:=hg.lt b (.inr ⟨r,h⟩);exact⟨Nat.lt_of_lt_of_le this.1 hk.size,this.2⟩
def acR:∀{L:List Nat} {m:Mem} {G:GS} (_:BL base U w m G) (_:∀r,r∈L->r ∉ G.out) {x:Unit} {m':Mem} {l l':Log} (_:(freeze L).run m l=some (x,m',l')),
  ∃F',BL base U w m' ⟨G.μ,F',G.E,G.out⟩∧Q8 m G m' ⟨G.μ,F',G.E,G.out⟩∧(∀r,r∈L->F' r=[])∧(∀r,F' r=[]∨F' r=G.F r)∧(∀k,k ∉ L->get k m'=get k m)
 |[],m,G,hg,ho,x,m',l,l',h=>by simp only[Vm.freeze,run_pure,eX,iL] at h;obtain⟨_,rfl,rfl⟩:=h;exact⟨G.F,hg,Q8.refl _ _,by simp,λr=> .inr rfl,λ_ _=>rfl⟩
 |r::L,m,G,hg,ho,x,m',l,l',h=>by
  simp only[Vm.freeze] at h;replace h:=aj h;obtain⟨c,m1,l1,h1,h⟩:=h;rw[rW] at h1;cases h1;cases hc:get r m with
  |none=>rw[hc] at h;exact(ak h).elim
  |some c=>
   rw[hc] at h;cases c with
   |box _ _=>exact(ak h).elim
   |dead=>exact(ak h).elim
   |D5 _ _ _=>exact(ak h).elim
   |mF _ _=>exact(ak h).elim
   |arr fz fl ver s rows=>
    replace h:=aj h;obtain⟨_,m1,l1,h1,h⟩:=h;simp only[BF,eX,iL] at h1;obtain⟨_,rfl,rfl⟩:=h1;obtain⟨k1,k2,_⟩:=hg.freeze hc (ho r (by simp));obtain⟨F',q1,q2,q3,q4,q5⟩:=acR k1 (λk hk=>ho k (by simp[hk])) h;refine⟨F',q1,k2.trans q2, ?_, ?_, ?_⟩
    ·intro k hk;simp only[List.mem_cons] at hk;rcases hk with rfl|hk
     ·rcases q4 k with e|e
      ·exact e
      ·rw[e];simp
     ·exact q3 k hk
    ·intro k;rcases q4 k with e|e
     ·exact .inl e
     ·by_cases ek:k=r
      ·subst ek;rw[e];left;simp
      ·have e':F' k=VA G.F r [] k:=e;rw[e',iZ _ ek];exact .inr rfl
    ·intro k hk;simp only[List.mem_cons,not_or] at hk;rw[q5 k hk.2,jV hk.1]
def aao{k:IntKind}{x:D}{n:Int}(h:asInt k x=some n):x=.int k n:=by
 cases x<;>simp[asInt] at h;rename_i k' n'
 by_cases e:k'=k
 ·subst e;simp at h;subst h;rfl
 ·simp[e] at h
def Yt{x:D}{b:Bool}(h:asBool x=some b):x=.bool b:=by cases x<;>simp[asBool] at h;subst h;rfl
def aap{x:D}{b:List UInt8}(h:acK x=some b):x=.str b:=by cases x<;>simp[acK] at h;subst h;rfl
def acS{s:Nat}{x:D}{rows:List Row}(h:amf s x=some rows):∃o,x=.sl o s rows:=by
 cases x<;>simp[amf] at h;rename_i o s' rows'
 by_cases e:s'=s
 ·subst e;simp at h;subst h;exact⟨o,rfl⟩
 ·rw[rV e] at h;simp at h
def aaq{s:Nat}{x:D}{rows:List Row}(h:ajU s x=some rows):x=.sl true s rows:=by
 cases x<;>simp[ajU] at h;rename_i o s' rows';cases o<;>simp at h
 by_cases e:s'=s
 ·subst e;simp at h;subst h;rfl
 ·rw[rV e] at h;simp at h
def afn{row:Row}{j:Nat}{x:D}{r:Row}(h:row.drop j=x::r):nth row j=x∧row.drop (j+1)=r:=by
 have h1:row[j]? =some x:=by
  have:(row.drop j)[0]? =some x:=by rw[h];rfl
  rwa [List.getElem?_drop,Nat.add_zero] at this
 refine⟨by simp[nth,h1], ?_⟩;rw[<-List.drop_drop,h];rfl
def BL.aar(hg:BL base U w m G){N E:List Nat}(hE:(N++E).Perm G.E):BL base U w m {G with E:=E}∧Q8 m G m {G with E:=E}∧∀{x:D} {g:Value},ow (bT w) (Gh U w G) x g N->ro (Gh U w {G with E:=E}) x g:=by
 have hnd:=hE.nodup_iff.2 hg.ndE;have hmem:∀b,b∈N++E->b∈G.E:=λb hb=>hE.mem_iff.1 hb
 obtain⟨h1,h2⟩:=hg.less E (List.nodup_append.1 hnd).2.1 (λb hb=>hmem b (by simp[hb]));refine⟨h1,h2,fun{x g} q=>arC h2.view x g N (GI λb hb=>⟨(hg.lt b (.inl (hmem b (by simp[hb])))).2.2, ?_⟩) q⟩;rintro(h|⟨r,h⟩)
 ·exact(List.nodup_append.1 hnd).2.2 b hb b h rfl
 ·exact hg.Zd r b h (hmem b (by simp[hb]))
structure Grew(base:Nat)(U:Nat->Prop)(w:World)(m:Mem)(G:GS)(m':Mem)(G':GS)(E:List Nat):Prop where
 ok:BL base U w m' G'
 le:Q8 m G m' G'
 E:G'.E=E
 out:G'.out=G.out
 old:∀k c,get k m=some c->get k m'=some c
 μ:∀k c,get k m=some c->G'.μ k=G.μ k
def Grew.trans{m1 m2 m3:Mem}{G1 G2 G3:GS}{E E':List Nat}(a:Grew base U w m1 G1 m2 G2 E)(b:Grew base U w m2 G2 m3 G3 E'):Grew base U w m1 G1 m3 G3 E':=
 ⟨b.ok,a.le.trans b.le,b.E,b.out.trans a.out,λk c h=>b.old k c (a.old k c h),λk c h=>(b.μ k c (a.old k c h)).trans (a.μ k c h)⟩
def VY{k:Nat}{c:Cell}{x:Unit}{m':Mem}{l l':Log}(h:(new k c).run m l=some (x,m',l')):get k m=none∧m'=put k c m:=by
 simp only[new] at h;replace h:=aj h;obtain⟨_,m1,l1,h1,h⟩:=h;simp only[free] at h1;replace h1:=aj h1;obtain⟨c',m2,l2,h2,h1⟩:=h1;rw[rW] at h2;cases h2;cases hc:get k m with
 |some c=>rw[hc] at h1;exact(ak h1).elim
 |none=>rw[hc] at h1;simp only[run_pure,eX,iL] at h1;obtain⟨_,rfl,rfl⟩:=h1;simp only[BF,eX,iL] at h;exact⟨rfl,h.2.1.symm⟩
def acT(hg:BL base U w m G)(ho:∀r,r∈G.out->∃c,get r m=some c){k:Nat}{fl:Bool}{s:Nat}{rows:List Row}{g:Value}{N E:List Nat}(hE:(N++E).Perm G.E)
  (hq:ow (bT w) (Gh U w G) (.sl true s rows) g N) {x:Unit} {m':Mem} {l l':Log} (h:(new k (.arr false fl 0 s rows)).run m l=some (x,m',l')):
  ∃G',Grew base U w m G m' G' E∧aF G'.μ m' (Gh U w G') (.own k 0) g:=by
 obtain⟨hn,rfl⟩:=VY h;have hk:k ∉ G.out:=λhx=>by obtain⟨c,hc⟩:=ho k hx;rw[hn] at hc;cases hc
 obtain⟨F',h1,h2⟩:=hg.asz fl hn hk hE hq;refine⟨_,⟨h1,h2,rfl,rfl,λj c hj=> ?_,λj c hj=> ?_⟩, ?_⟩
 ·have hne:j≠k:=λe=>by subst e;rw[hn] at hj;cases hj
  rw[jV hne];exact hj
 ·exact Jh _ (λe=>by subst e;rw[hn] at hj;cases hj)
 ·have:OZ g:=by simp only[ow] at hq;rcases hq with⟨_,rfl,_⟩|⟨b,cap,cs,t,N',rfl,_⟩<;>exact⟨_,_,_,rfl⟩
  simp[aF,gY,this]
def Yu(hg:BL base U w m G)(ho:∀r,r∈G.out->∃c,get r m=some c){row:Row}{j:Nat}{x:D}{g:Value}{N E:List Nat}(hE:(N++E).Perm G.E)(hx:nth row j=x)
  (hq:ow (bT w) (Gh U w G) x g N) {ct:CT} {own fl:Bool} {key:Nat} {v:V} {m':Mem} {l l':Log}
  (h:(KH own fl key row j ct).run m l=some (v,m',l')):
  ∃G',Grew base U w m G m' G' E∧aF G'.μ m' (Gh U w G') v g:=by
 obtain⟨d1,d2,d3⟩:=hg.aar hE;have plain:Grew base U w m G m {G with E:=E} E:=⟨d1,d2,rfl,rfl,λ_ _ h=>h,λ_ _ _=>rfl⟩
 have hro:=d3 hq;cases ct with
 |int k=>
  simp only[KH,fQ,hx,Acc.run] at h;cases ha:asInt k x with
  |none=>simp[ha,Acc.run] at h
  |some n=>simp only[ha,Acc.run,eX,iL] at h;obtain⟨rfl,rfl,rfl⟩:=h;refine⟨_,plain, ?_⟩;rw[aao ha] at hro;simpa[aF] using hro
 |bool=>
  simp only[KH,acL,hx,Acc.run] at h;cases ha:asBool x with
  |none=>simp[ha,Acc.run] at h
  |some n=>simp only[ha,Acc.run,eX,iL] at h;obtain⟨rfl,rfl,rfl⟩:=h;refine⟨_,plain, ?_⟩;rw[Yt ha] at hro;simpa[aF] using hro
 |str=>
  simp only[KH,cStr,hx,Acc.run] at h;cases ha:acK x with
  |none=>simp[ha,Acc.run] at h
  |some n=>simp only[ha,Acc.run,eX,iL] at h;obtain⟨rfl,rfl,rfl⟩:=h;refine⟨_,plain, ?_⟩;rw[aap ha] at hro;simpa[aF] using hro
 |other=>exact(ak h).elim
 |sl s=>
  cases own with
  |false=>
   simp only[KH,SK,hx,Acc.run] at h;cases ha:amf s x with
   |none=>simp[ha,Acc.run] at h
   |some n=>simp only[ha,Acc.run,eX,iL] at h;obtain⟨rfl,rfl,rfl⟩:=h;refine⟨_,plain, ?_⟩;obtain⟨o,rfl⟩:=acS ha;simp only[aF];exact aak hro
  |true=>
   simp only[KH,aiE,hx,Acc.run] at h;cases ha:ajU s x with
   |none=>simp[ha,Acc.run] at h
   |some n=>simp only[ha,Acc.run] at h;have:=aaq ha;subst this;replace h:=aj h;obtain⟨_,m1,l1,h1,h⟩:=h;simp only[run_pure,eX,iL] at h;obtain⟨rfl,rfl,rfl⟩:=h;exact acT hg ho hE hq h1
def Gm{H:Heap}{h:View}{x:D}{r:Row}{cs:List Value}{N:List Nat}(q:fK H h (x::r) cs N):∃v cs' N1 N2,cs=v::cs'∧N=N1++N2∧ow H h x v N1∧fK H h r cs' N2:=by simpa[fK] using q
def Xm{N1 N2 E E0:List Nat}(h:(N1++N2++E).Perm E0):(N1++(N2++E)).Perm E0:=by rwa [Bf] at h
def aas{own:List Nat}{r dst:Nat}{row:Row}:∀{cts:List CT} {fs:List Bool} {j:Nat} {m:Mem} {G:GS} {gs:List Value} {N E:List Nat} (_:BL base U w m G) (_:∀r,r∈G.out->∃c,get r m=some c)
  (_:(N++E).Perm G.E) (_:fK (bT w) (Gh U w G) (row.drop j) gs N) (_:row.length=j+cts.length) (_:gs.length=cts.length) {vs:List V} {m':Mem} {l l':Log}
  (_:(VH own r dst row j cts fs).run m l=some (vs,m',l')),∃G',Grew base U w m G m' G' E∧bF G'.μ m' (Gh U w G') vs gs
 |[],fs,j,m,G,gs,N,E,hg,ho,hE,hq,hlen,hgl,vs,m',l,l',h=>by simp only[VH,run_pure,eX,iL] at h;obtain⟨rfl,rfl,rfl⟩:=h;rw[List.drop_eq_nil_of_le (by simp at hlen;omega)] at hq;simp only[fK] at hq;subst hq;simp at hgl;subst hgl;obtain⟨d1,d2,_⟩:=hg.aar hE;exact⟨_,⟨d1,d2,rfl,rfl,λ_ _ h=>h,λ_ _ _=>rfl⟩,by simp[bF]⟩
 |ct::cts,fs,j,m,G,gs,N,E,hg,ho,hE,hq,hlen,hgl,vs,m',l,l',h=>by
  cases hd:row.drop j with
  |nil=>have:=congrArg List.length hd;simp at this hlen;omega
  |cons x rest=>obtain⟨hx,hrest⟩:=afn hd;rw[hd] at hq;obtain⟨g,gs',N1,N2,rfl,rfl,q1,q2⟩:=Gm hq;simp only[VH] at h;replace h:=aj h;obtain⟨v,m1,l1,h1,h⟩:=h;replace h:=aj h;obtain⟨vs',m2,l2,h2,h⟩:=h;simp only[run_pure,eX,iL] at h;obtain⟨rfl,rfl,rfl⟩:=h;obtain⟨G1,t1,s1⟩:=Yu hg ho (Xm hE) hx q1 h1;obtain⟨G2,t2,s2⟩:=aas t1.ok (λk hk=>by rw[t1.out] at hk;obtain⟨c,hc⟩:=ho k hk;exact⟨c,t1.old k c hc⟩) (by rw[t1.E]) (by rw[hrest];exact P6 t1.le.view q2) (by simp at hlen;omega) (by simpa using hgl) h2;refine⟨G2,t1.trans t2, ?_⟩;simp only[bF];exact⟨g,gs',rfl,t2.le.aF s1,s2⟩
def Yv{Zc:List Nat}{dst ri:Nat}{row:Row}:∀{cts:List CT} {fs:List Bool} {j:Nat} {m:Mem} {G:GS} {gs:List Value} {N E:List Nat} (_:BL base U w m G) (_:∀r,r∈G.out->∃c,get r m=some c)
  (_:(N++E).Perm G.E) (_:fK (bT w) (Gh U w G) (row.drop j) gs N) (_:row.length=j+cts.length) (_:gs.length=cts.length) {vs:List V} {m':Mem} {l l':Log}
  (_:(QX Zc dst ri row j cts fs).run m l=some (vs,m',l')),∃G',Grew base U w m G m' G' E∧bF G'.μ m' (Gh U w G') vs gs
 |[],fs,j,m,G,gs,N,E,hg,ho,hE,hq,hlen,hgl,vs,m',l,l',h=>by simp only[QX,run_pure,eX,iL] at h;obtain⟨rfl,rfl,rfl⟩:=h;rw[List.drop_eq_nil_of_le (by simp at hlen;omega)] at hq;simp only[fK] at hq;subst hq;simp at hgl;subst hgl;obtain⟨d1,d2,_⟩:=hg.aar hE;exact⟨_,⟨d1,d2,rfl,rfl,λ_ _ h=>h,λ_ _ _=>rfl⟩,by simp[bF]⟩
 |ct::cts,fs,j,m,G,gs,N,E,hg,ho,hE,hq,hlen,hgl,vs,m',l,l',h=>by
  cases hd:row.drop j with
  |nil=>have:=congrArg List.length hd;simp at this hlen;omega
  |cons x rest=>obtain⟨hx,hrest⟩:=afn hd;rw[hd] at hq;obtain⟨g,gs',N1,N2,rfl,rfl,q1,q2⟩:=Gm hq;simp only[QX] at h;replace h:=aj h;obtain⟨v,m1,l1,h1,h⟩:=h;replace h:=aj h;obtain⟨vs',m2,l2,h2,h⟩:=h;simp only[run_pure,eX,iL] at h;obtain⟨rfl,rfl,rfl⟩:=h;obtain⟨G1,t1,s1⟩:=Yu hg ho (Xm hE) hx q1 h1;obtain⟨G2,t2,s2⟩:=Yv t1.ok (λk hk=>by rw[t1.out] at hk;obtain⟨c,hc⟩:=ho k hk;exact⟨c,t1.old k c hc⟩) (by rw[t1.E]) (by rw[hrest];exact P6 t1.le.view q2) (by simp at hlen;omega) (by simpa using hgl) h2;refine⟨G2,t1.trans t2, ?_⟩;simp only[bF];exact⟨g,gs',rfl,t2.le.aF s1,s2⟩
def valOf(P:Program)(t:TypeId)(cs:List Value)(g:Value):Prop:=if Gj P t=true then g=.agg cs.toArray else cs=[g]
def N7(P:Program)(H:Heap)(h:View):List TypeId->List Row->List Value->List Nat->Prop
 |[],rows,gs,N=>rows=[]∧gs=[]∧N=[]
 |t::ts,rows,gs,N=>∃row rows' g gs' cs N1 N2,rows=row::rows'∧gs=g::gs'∧N=N1++N2∧valOf P t cs g∧fK H h row cs N1∧row.length=cs.length∧N7 P H h ts rows' gs' N2
def MQ{P:Program}{H H':Heap}{h h':View}(hl:h.le h'):∀{ts:List TypeId} {rows:List Row} {gs:List Value} {N:List Nat},(∀b,b∈N->H' b=H b)->N7 P H h ts rows gs N->N7 P H' h' ts rows gs N
 |[],_,_,_,_,q=>q
 |t::ts,_,_,_,hb,⟨row,rows',g,gs',cs,N1,N2,e1,e2,e3,h1,h2,h3,h4⟩=>by subst e3;exact⟨row,rows',g,gs',cs,N1,N2,e1,e2,rfl,h1,Gl hl _ _ _ (λb hx=>hb b (by simp[hx])) h2,h3,MQ hl (λb hx=>hb b (by simp[hx])) h4⟩
def Gn{P:Program}{t:TypeId}{vs:List V}{v:V}(h:Fg P t vs=some v){μ:Nat->Value}{hh:View}{cs:List Value}{g:Value}(hq:bF μ m hh vs cs)(hg:valOf P t cs g):aF μ m hh v g:=by
 unfold Fg at h;unfold valOf at hg;cases ha:Gj P t with
 |true=>simp only[ha,aT,if_true,eX] at h hg;subst h;simp only[aF];exact⟨_,hg,by simpa using hq⟩
 |false=>
  simp only[ha,cu,Bool.false_eq_true,if_false] at h hg;split at h
  ·cases h;obtain⟨g',gs',e,q1,q2⟩:=lD hq;rw[hg] at e;cases e;exact q1
  ·cases h
def acn{res:List Row}{ri:Nat}{row:Row}{rows:List Row}(h:res.drop ri=row::rows):VI res ri=row∧res.drop (ri+1)=rows:=by
 have h1:res[ri]? =some row:=by
  have:(res.drop ri)[0]? =some row:=by rw[h];rfl
  rwa [List.getElem?_drop,Nat.add_zero] at this
 refine⟨by simp[VI,h1], ?_⟩;rw[<-List.drop_drop,h];rfl
def acU{X:Ctx}{Zc:List Nat}{dst:Nat}{res:List Row}:∀{ts:List TypeId} {ri:Nat} {m:Mem} {G:GS} {gs:List Value} {N E:List Nat} (_:BL base U w m G) (_:∀r,r∈G.out->∃c,get r m=some c)
  (_:(N++E).Perm G.E) (_:N7 X.P (bT w) (Gh U w G) ts (res.drop ri) gs N) {vs:List V} {m':Mem} {l l':Log}
  (_:(Ux X Zc dst res ri ts).run m l=some (vs,m',l')),∃G',Grew base U w m G m' G' E∧bF G'.μ m' (Gh U w G') vs gs
 |[],ri,m,G,gs,N,E,hg,ho,hE,hq,vs,m',l,l',h=>by simp only[Ux,run_pure,eX,iL] at h;obtain⟨rfl,rfl,rfl⟩:=h;obtain⟨_,rfl,rfl⟩:=hq;obtain⟨d1,d2,_⟩:=hg.aar hE;exact⟨_,⟨d1,d2,rfl,rfl,λ_ _ h=>h,λ_ _ _=>rfl⟩,by simp[bF]⟩
 |t::ts,ri,m,G,gs,N,E,hg,ho,hE,hq,vs,m',l,l',h=>by obtain⟨row,rows',g,gs',cs,N1,N2,e1,rfl,rfl,h1,h2,h3,h4⟩:=hq;obtain⟨hrow,hrest⟩:=acn e1;simp only[Ux] at h;replace h:=aj h;obtain⟨_,m1,l1,k1,h⟩:=h;obtain⟨hlen,rfl,rfl⟩:=cZ k1;replace h:=aj h;obtain⟨vc,m2,l2,k2,h⟩:=h;replace h:=aj h;obtain⟨v,m3,l3,k3,h⟩:=h;obtain⟨hv,rfl,rfl⟩:=eU k3;replace h:=aj h;obtain⟨vs',m4,l4,k4,h⟩:=h;simp only[run_pure,eX,iL] at h;obtain⟨rfl,rfl,rfl⟩:=h;have hlen:=uY hlen;rw[hrow] at hlen k2;obtain⟨G1,t1,s1⟩:=Yv hg ho (Xm hE) (by simpa using h2) (by simpa using hlen) (by rw[<-h3];exact hlen) k2;obtain⟨G2,t2,s2⟩:=acU t1.ok (λk hk=>by rw[t1.out] at hk;obtain⟨c,hc⟩:=ho k hk;exact⟨c,t1.old k c hc⟩) (by rw[t1.E]) (by rw[hrest];exact MQ t1.le.view (λ_ _=>rfl) h4) k4;refine⟨G2,t1.trans t2, ?_⟩;simp only[bF];exact⟨g,gs',rfl,t2.le.aF (Gn hv s1 h1),s2⟩
mutual
def ajY{H:Heap}{h h':View}:∀(x:D) (v:Value) (N:List Nat),x.pure=true->ow H h x v N->ow H h' x v N
 | .int _ _,_,_,_,q=>by simpa[ow] using q
 | .bool _,_,_,_,q=>by simpa[ow] using q
 | .str _,_,_,_,q=>by simpa[ow] using q
 | .MN,_,_,_,q=>by simpa[ow] using q
 | .sl false s rows,v,N,hp,q=>by simp only[D.pure,List.isEmpty_iff] at hp;subst hp;simp only[ow,ro] at q⊢;exact⟨q.1,by obtain⟨a,cap,h1,h2,_⟩:=q.2;exact⟨a,cap,h1,h2,λe=>absurd rfl e⟩⟩
 | .sl true s rows,v,N,hp,q=>by
  simp only[D.pure] at hp;simp only[ow] at q⊢;rcases q with q|⟨b,cap,cs,t,N',h1,h2,h3,h4,h5,rfl⟩
  ·exact .inl q
  ·exact .inr ⟨b,cap,cs,t,N',h1,h2,h3,h4,Yw s rows _ N' hp h5,rfl⟩
def Yw{H:Heap}{h h':View}(s:Nat):∀(rows:List Row) (cs:List Value) (N:List Nat),uy rows=true->dW H h s rows cs N->dW H h' s rows cs N
 |[],_,_,_,q=>by simpa[dW] using q
 |r::rs,cs,N,hp,q=>by simp only[uy,zq] at hp;simp only[dW] at q⊢;obtain⟨h1,N1,N2,rfl,h2,h3⟩:=q;exact⟨h1,N1,N2,rfl,UG r _ N1 hp.1 h2,Yw s rs _ N2 hp.2 h3⟩
def UG{H:Heap}{h h':View}:∀(r:Row) (cs:List Value) (N:List Nat),eY r=true->fK H h r cs N->fK H h' r cs N
 |[],_,_,_,q=>by simpa[fK] using q
 |x::r,cs,N,hp,q=>by simp only[eY,zq] at hp;simp only[fK] at q⊢;obtain⟨v,cs',N1,N2,rfl,rfl,h2,h3⟩:=q;exact⟨v,cs',N1,N2,rfl,rfl,ajY x v N1 hp.1 h2,UG r cs' N2 hp.2 h3⟩
end
def aat{P:Program}{H:Heap}{h h':View}:∀{ts:List TypeId} {rows:List Row} {gs:List Value} {N:List Nat},rows.all eY=true->N7 P H h ts rows gs N->N7 P H h' ts rows gs N
 |[],_,_,_,_,q=>q
 |t::ts,_,_,_,hp,⟨row,rows',g,gs',cs,N1,N2,e1,e2,e3,h1,h2,h3,h4⟩=>by subst e1;simp only[List.all_cons,zq] at hp;exact⟨row,rows',g,gs',cs,N1,N2,rfl,e2,e3,h1,UG _ _ _ hp.1 h2,h3,aat hp.2 h4⟩
end
end Go.Vm
namespace Go.Vm
open Go
section
variable {base:Nat} {U:Nat->Prop} {w w':World} {m:Mem} {G:GS}
def drop_cons{α:Type}{l:List α}{i:Nat}{a:α}{r:List α}(h:l.drop i=a::r):l[i]? =some a∧l.drop (i+1)=r:=by
 refine⟨?_,by rw[<-List.drop_drop,h];rfl⟩;have:(l.drop i)[0]? =some a:=by rw[h];rfl
 rwa [List.getElem?_drop,Nat.add_zero] at this
def asA(xs:List D):(xs.map V.d).map vD=xs:=by
 induction xs with
 |nil=>rfl
 |cons x xs ih=>simp[vD,ih]
def aau{m m':Mem}(h:∀k c,get k m=some c->get k m'=some c):∀{rs:List Nat} {cs:List Cell},kinds m rs cs->kinds m' rs cs
 |[],_,q=>q
 |r::rs,_,⟨c,c',cs',h1,h2,h3,h4⟩=>⟨c,c',cs',h1,h r c h2,h3,aau h h4⟩
def Xn{m:Mem}{r:Nat}{c0:Cell}:∀{rs:List Nat} {cs:List Cell},r ∉ rs->kinds m rs cs->kinds (put r c0 m) rs cs
 |[],_,_,q=>q
 |k::rs,_,hr,⟨c,c',cs',h1,h2,h3,h4⟩=>by simp only[List.mem_cons,not_or] at hr;exact⟨c,c',cs',h1,by rw[jV (Ne.symm hr.1)];exact h2,h3,Xn hr.2 h4⟩
structure Came(base:Nat)(U:Nat->Prop)(w:World)(m:Mem)(G:GS)(m':Mem)(G':GS)(E:List Nat):Prop where
 ok:BL base U w m' G'
 le:Q8 m G m' G'
 E:G'.E=E
 out:G'.out=[]
def GK{H:Heap}{h h':View}(hl:h.le h'){cs:List Cell}{gs:List Value}{N:List Nat}(q:cellsB H h cs gs N):cellsB H h' cs gs N:=Yp hl (λ_ _=>rfl) q
def VZ{X:Ctx}{dst:Nat}{outs:List Cell}:∀{rs:List Nat} {i:Nat} {m:Mem} {G:GS} {N E:List Nat} (_:BL base U w m G) (_:rs.Nodup) (_:G.out=rs) (_:kinds m rs (outs.drop i))
  (_:(N++E).Perm G.E) (_:cellsB (bT w) (Gh U w G) (outs.drop i) (rs.map G.μ) N) {x:Unit} {m':Mem} {l l':Log} (_:(Yk X dst outs i rs).run m l=some (x,m',l')),
  ∃G',Came base U w m G m' G' E
 |[],i,m,G,N,E,hg,hn,ho,hk,hE,hq,x,m',l,l',h=>by simp only[Yk,run_pure,eX,iL] at h;obtain⟨_,rfl,rfl⟩:=h;obtain⟨d1,d2,_⟩:=hg.aar hE;exact⟨_,d1,d2,rfl,ho⟩
 |r::rs,i,m,G,N,E,hg,hn,ho,hk,hE,hq,x,m',l,l',h=>by
  obtain⟨c,c',cs',e1,hc,hsk,hk'⟩:=hk;have hnr:=List.nodup_cons.1 hn;obtain⟨hi,hdrop⟩:=drop_cons e1;rw[e1] at hq;obtain⟨g,gs',N1,N2,eg,rfl,q1,q2⟩:=hq;simp only[TN,List.cons.injEq] at eg;obtain⟨rfl,rfl⟩:=eg;have hout:∀k,k∈G.out->∃c,get k m=some c:=by
   intro k hkm;rw[ho] at hkm;simp only[List.mem_cons] at hkm;rcases hkm with rfl|hkm
   ·exact⟨c,hc⟩
   ·obtain⟨j,hj⟩:=List.getElem?_of_mem hkm;obtain⟨c2,_,h2,_⟩:=VU hk' hj;exact⟨c2,h2⟩
  simp only[Yk] at h;replace h:=aj h;obtain⟨c0,m1,l1,h1,h⟩:=h;rw[rW] at h1;cases h1;rw[hc] at h;cases c with
  |dead=>exact hsk.elim
  |D5 _ _ _=>exact hsk.elim
  |mF _ _=>exact hsk.elim
  |box t cs=>
   cases c' with
   |dead=>exact hsk.elim
   |D5 _ _ _=>exact hsk.elim
   |mF _ _=>exact hsk.elim
   |arr _ _ _ _ _=>exact hsk.elim
   |box t' vs=>
    obtain rfl:t=t':=hsk;obtain⟨b,a,xs,N',hμ,hH,hvs,hxl,hrow,rfl⟩:=q1;simp only at h;replace h:=aj h;obtain⟨_,m2,l2,h2,h⟩:=h;obtain⟨hbl,rfl,rfl⟩:=cZ h2;replace h:=aj h;obtain⟨vs',m3,l3,h3,h⟩:=h;replace h:=aj h;obtain⟨_,m4,l4,h4,h⟩:=h;rw[BF] at h4;cases h4;have hbx:aml outs i=xs:=by simp only[aml,hi,hvs];exact asA xs
    have hbl:xs.length=(KG X.P t).length:=by simp only[amn,hi] at hbl;have:=uY hbl;rw[hvs,List.length_map] at this;exact this
    rw[hbx] at h3;obtain⟨G1,t1,s1⟩:=aas hg hout (N:=N') (E:=b::(N2++E)) (List.Perm.trans (by have:(N'++b::(N2++E)).Perm (b::(N'++(N2++E))):=List.perm_middle;refine this.trans ?_;simp[Bf]) hE) (by simpa using hrow) (by simpa using hbl) (by rw[<-hxl];exact hbl) h3;have hc1:=t1.old r _ hc;have apM:=t1.ok.ndE;rw[t1.E] at apM;have hset:=t1.ok.set r (.box t vs') G1.μ [b] (N2++E) rs (by simpa using apM) (λk hk=> .inr (by rw[t1.E];simpa using hk))
     (Ea (λ_ _=>rfl) (λc h=>by rw[hc1] at h;cases h;exact⟨rfl,rfl⟩)) (λ_ _=>rfl)
     (λk hne=>by rw[t1.out,ho];simp[hne]) (λhr=>absurd hr hnr.1)
     (λhv _=>⟨b,a,by rw[t1.μ r _ hc];exact hμ,hH,pV (Ea (λ_ _=>rfl) (λc h=>by rw[hc1] at h;cases h;exact⟨rfl,rfl⟩)) hv _ _ s1,rfl⟩)
    obtain⟨k1,k2⟩:=hset;obtain⟨G2,f1,f2,f3,f4⟩:=VZ k1 hnr.2 rfl (Xn hnr.1 (aau t1.old (by rw[hdrop];exact hk'))) (N:=N2) (E:=E) (List.Perm.refl _)
     (by
      rw[hdrop];have hmap:rs.map G1.μ=rs.map G.μ:=List.map_congr_left λk hk=>by obtain⟨c2,h2⟩:=hout k (by rw[ho];simp[hk]);exact t1.μ k c2 h2
      simp only[hmap];exact GK (t1.le.view.trans' k2.view) q2) h
    exact⟨G2,f1,(t1.le.trans k2).trans f2,f3,f4⟩
  |arr fz fl ver s rows=>
   cases c' with
   |dead=>exact hsk.elim
   |D5 _ _ _=>exact hsk.elim
   |mF _ _=>exact hsk.elim
   |box _ _=>exact hsk.elim
   |arr fz' fl' gI s' rows'=>
    obtain⟨rfl,rfl,rfl,rfl⟩:=hsk;obtain⟨rfl,_,hrow⟩:=q1;simp only at h;replace h:=aj h;obtain⟨ajZ,m2,l2,h2,h⟩:=h;obtain⟨har,rfl,rfl⟩:=eU h2;replace h:=aj h;obtain⟨_,m4,l4,h4,h⟩:=h;rw[BF] at h4;cases h4;have hrr:ajZ=rows':=by simp[amm,hi] at har;exact har.symm
    subst hrr;have apM:=hE.nodup_iff.2 hg.ndE;have hset:=hg.set r (.arr false fl 0 s ajZ) G.μ N1 (N2++E) rs (by rwa [Bf] at apM) (λk hk=> .inr (hE.mem_iff.1 (by rw[Bf];exact hk)))
     (Ea (λ_ _=>rfl) (λc h=>by rw[hc] at h;cases h;exact⟨Nat.le_refl _,rfl,λ_=>⟨rfl,rfl⟩⟩)) (λ_ _=>rfl)
     (λk hne=>by rw[ho];simp[hne]) (λhr=>absurd hr hnr.1)
     (λhv _=>Gz hv (λ_ _=>rfl) hrow)
    obtain⟨k1,k2⟩:=hset;obtain⟨G2,f1,f2,f3,f4⟩:=VZ k1 hnr.2 rfl (Xn hnr.1 (by rw[hdrop];exact hk')) (N:=N2) (E:=E) (List.Perm.refl _)
     (by rw[hdrop];exact GK k2.view q2) h
    exact⟨G2,f1,k2.trans f2,f3,f4⟩
def amy{h:View}(s:List UInt8):∀(cs:List Value),cs=s.map (λb=>Value.int .u8 b.toNat)->dY h 1 (s.map byteRow) cs:=by
 induction s with
 |nil=>intro cs _;simp[dY]
 |cons b s ih=>intro cs e;subst e;simp only[TN,dY,byteRow];exact⟨rfl,by simp[fU,ro],ih _ rfl⟩
end
end Go.Vm
