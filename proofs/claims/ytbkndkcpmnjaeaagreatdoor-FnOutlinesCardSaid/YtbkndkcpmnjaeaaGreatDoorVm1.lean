import Derived.Orders
import Derived.KernelRfl
import Derived.RowKit3
import Derived.Laws.Cells
import Derived.Laws.Rows
import Derived.Laws.OwnMore
import Derived.Below
set_option linter.defProp false
set_option linter.unusedVariables false
set_option linter.unusedSimpArgs false
namespace Go.Vm
def au{p:Prop}(h:p:=by omega):p:=h
def aU{α:Sort _}(a b:α):cond true a b=a:=cond_true ..
def bZ{α:Sort _}(a b:α):cond false a b=b:=cond_false ..
def fF{α:Type _}(a b:α):(some a=some b)=(a=b):=Option.some.injEq ..
def iP{α:Type _}{β:Type _}(a:α)(b:β)(c:α)(d:β):((a,b)=(c,d))=(a=c∧b=d):=Prod.mk.injEq ..
def zdt{p:Prop}[Decidable p](h:p):decide p=true:=decide_eq_true h
def uq{p:Prop}[Decidable p](h:¬p):decide p=false:=decide_eq_false h
def qU{n m:Nat}(h:Nat.beq n m=true):n=m:=Nat.eq_of_beq_eq_true h
def rX{α:Type _}{a b:List α}:(a++b).length=a.length+b.length:=List.length_append ..
def Jm{α:Type _}{i:Nat}{a:α}{l:List α}:l[i]? =some a↔∃h:i<l.length,l[i]=a:=List.getElem?_eq_some_iff ..
def oh{α:Type _}{a:α}{s:List α}:(a::s).length=s.length+1:=List.length_cons ..
def BO{α:Type _}(a b c:List α):a++b++c=a++(b++c):=List.append_assoc ..
def Le{α:Type _}{a:α}:[a].length=1:=List.length_singleton ..
def zM{α:Type _}:([]:List α).length=0:=List.length_nil ..
def Ib{α:Type _}{l:List α}{i:Nat}{a:α}(h:l[i]? =some a):a∈l:=List.mem_of_getElem? h
def vF(a b:Bool):((a&&b)=true)=(a=true∧b=true):=Bool.and_eq_true ..
def Ic{α:Type _}{β:Type _}(a:α)(f:α->β):Option.map f (some a)=some (f a):=Option.map_some ..
def WH{α:Type _}{β:Type _}{f:α->β}{a:α}{l:List α}:List.map f (a::l)=f a::List.map f l:=List.map_cons ..
def RX(n:Nat):((n:Int)).toNat=n:=Int.toNat_natCast ..
def Xg{α:Type _}{a:α}{s t:List α}:a::s++t=a::(s++t):=List.cons_append ..
def zmm{α:Type _}(y:α){a:α}{l:List α}(h:a∈l):a∈y::l:=List.mem_cons_of_mem _ h
def zmf{α:Type _}{a:α}{l:List α}:a∈a::l:=List.mem_cons_self ..
def zlo{α:Type _}{l:List α}:l.length=1↔∃a,l=[a]:=List.length_eq_one_iff ..
def Lu{α:Type _}[BEq α][LawfulBEq α]{a b:α}:(a==b)=false↔a≠b:=beq_eq_false_iff_ne ..
def RZ{α:Type _}{i:Nat}{l:List α}:(l.take i).length=min i l.length:=List.length_take ..
end Go.Vm
namespace Go.Vm
open Go
inductive D where
 |int (k:IntKind) (n:Int)
 |bool (b:Bool)
 |str (s:List UInt8)
 |PW
 |sl (own:Bool) (s:Nat) (rows:List (List D))
 deriving Inhabited
abbrev Row:=List D
abbrev aF:=List UInt8
abbrev aA:=List Row
inductive V where
 |d (x:D)
 |nil (s:Nat)
 |own (r ver:Nat)
 |ptr (r off:Nat)
 |rE (r ver i off:Nat)
 |rF (row:Row) (off:Nat)
 |zK (v:V)
 |clo (f:Nat) (first caps:List V)
 |agg (cs:List V)
 |zL (vs:List V)
 |undef
 deriving Inhabited
inductive Cell where
 |box (t:TypeId) (cs:List V)
 |arr (fz fl:Bool) (ver s:Nat) (rows:List Row)
 |dead
 |D5 (ver s:Nat) (rows:List Row)
 |nR (t:TypeId) (v:V)
 |mX (ver s:Nat) (rows:List Row) (i off:Nat)
 deriving Inhabited
abbrev Mem:=List (Nat×Cell)
abbrev jS:=List (Nat×V)
structure St where
 tm:jS
 mem:Mem
def get{α:Type}(k:Nat):List (Nat×α)->Option α
 |[]=>none
 |(j,x)::l=>bif Nat.beq k j then some x else get k l
def put{α:Type}(k:Nat)(x:α):List (Nat×α)->List (Nat×α)
 |[]=>[(k,x)]
 |(j,y)::l=>bif Nat.beq k j then(k,x)::l else bif Nat.blt k j then(k,x)::(j,y)::l else(j,y)::put k x l
def del{α:Type}(k:Nat):List (Nat×α)->List (Nat×α)
 |[]=>[]
 |(j,y)::l=>bif Nat.beq k j then del k l else(j,y)::del k l
def Si(t:Nat)(tm:jS):V:=match get t tm with|some v=>v|none=> .undef
def Xh(dst:Option Nat)(v:V)(tm:jS):jS:=match dst with|some t=>put t v tm|none=>tm
def auI(dst:Option Nat)(tm:jS):jS:=match dst with|some t=>del t tm|none=>tm
inductive Acc(α:Type):Type 1 where
 |ret (a:α)
 |fail
 |get (k:Nat) (c:Option Cell->Acc α)
 |set (k:Nat) (x:Cell) (c:Acc α)
 |opt {β:Type} (o:Option β) (c:β->Acc α)
 |guard (b:Bool) (c:Acc α)
structure Log where
 r:List Nat
 w:List Nat
def Log.rd(l:Log)(k:Nat):Log:={l with r:=k::l.r}
def Log.wr(l:Log)(k:Nat):Log:={l with w:=k::l.w}
def Log.none:Log:=⟨[],[]⟩
def Acc.bind{α β:Type}:Acc α->(α->Acc β)->Acc β
 | .ret a,f=>f a
 | .fail,_=> .fail
 | .get k c,f=> .get k λx=>(c x).bind f
 | .set k x c,f=> .set k x (c.bind f)
 | .opt o c,f=> .opt o λb=>(c b).bind f
 | .guard b c,f=> .guard b (c.bind f)
def Acc.run{α:Type}:Acc α->Mem->Log->Option (α×Mem×Log)
 | .ret a,m,l=>some (a,m,l)
 | .fail,_,_=>none
 | .get k c,m,l=>(c (Vm.get k m)).run m (l.rd k)
 | .set k x c,m,l=>c.run (put k x m) (l.wr k)
 | .opt o c,m,l=>match o with|some b=>(c b).run m l|none=>none
 | .guard b c,m,l=>match b with|true=>c.run m l|false=>none
inductive CT where
 |int (k:IntKind)|bool|str|sl (s:Nat)|other
 deriving Inhabited
def alB(f:TypeId->Option (List CT)):List TypeId->Option (List CT)
 |[]=>some []
 |t::ts=>match f t,alB f ts with|some a,some b=>some (a++b)|_,_=>none
def cts(P:Program):Nat->TypeId->Option (List CT)
 |0,_=>none
 |n+1,t=>match P.underlying t with
  |some (.int k)=>some [.int k]
  |some .bool=>some [.bool]
  |some .string=>some [.str]
  |some (.slice e)=>match P.info? e with|some i=>some [.sl i.size]|none=>none
  |some (.struct fs)=>alB (cts P n) (fs.toList.map (·.type))
  |some (.array k e)=>alB (cts P n) (List.replicate k e)
  |some (.pointer _)|some (.func ..)=>some [.other]
  |_=>none
def JE(P:Program)(t:TypeId):List CT:=match cts P 8 t with|some l=>l|none=>[.other]
def H6(P:Program)(t:TypeId):Bool:=match P.underlying t with|some (.struct _)=>true|some (.array ..)=>true|_=>false
def kG(P:Program)(t:TypeId):Nat:=match P.info? t with|some i=>i.size|none=>0
def ae9(P:Program)(t:TypeId):Option TypeId:=match P.underlying t with|some (.pointer T)=>some T|_=>none
def elT(P:Program)(t:TypeId):Option TypeId:=match P.underlying t with|some (.slice e)=>some e|_=>none
def ZB:CT->Value->V
 |_,.bool b=> .d (.bool b)
 |_,.int k n=> .d (.int k n)
 |_,.string s=> .d (.str s.data.toList)
 |_,.nilFunc=> .d .PW
 | .sl s,.slice none 0 0=> .nil s
 |_,_=> .undef
def D6:List CT->List Value->List V
 |c::cs,v::vs=>ZB c v::D6 cs vs
 |[],_::vs=> .undef::D6 [] vs
 |_,[]=>[]
def cv(P:Program)(t:TypeId):Value->V
 | .agg cs=> .agg (D6 (JE P t) cs.toList)
 |v=>match JE P t with|c::_=>ZB c v|[]=> .undef
def JF(P:Program)(t:TypeId):Option (List V):=
 match P.info? t with
 |some i=>match i.zero with
  |some z=>some (D6 (JE P t) z.cells.toList)
  |none=>none
 |none=>none
def V.cells:V->List V
 | .agg cs=>cs
 |v=>[v]
def Ie(P:Program)(t:TypeId)(cs:List V):Option V:=
 bif H6 P t then some (.agg cs) else match cs with|[v]=>some v|_=>none
def asInt(k:IntKind):D->Option Int
 | .int k' n=>bif decide (k'=k) then some n else none
 |_=>none
def asBool:D->Option Bool
 | .bool b=>some b
 |_=>none
def afB:D->Option (List UInt8)
 | .str s=>some s
 |_=>none
def apP(s:Nat):D->Option (List Row)
 | .sl _ s' rows=>bif Nat.beq s' s then some rows else none
 |_=>none
def auJ(s:Nat):D->Option (List Row)
 | .sl own s' rows=>bif Nat.beq s' s then(match own with|false=>some rows|true=>match rows with|[]=>some []|_::_=>none) else none
 |_=>none
def anf(s:Nat):D->Option (List Row)
 | .sl own s' rows=>match own with|true=>bif Nat.beq s' s then some rows else none|false=>none
 |_=>none
def nth(row:Row)(j:Nat):D:=match row[j]? with|some x=>x|none=> .PW
def fZ(k:IntKind)(row:Row)(j:Nat):Option Int:=asInt k (nth row j)
def afC(row:Row)(j:Nat):Option Bool:=asBool (nth row j)
def cStr(row:Row)(j:Nat):Option (List UInt8):=afB (nth row j)
def TD(s:Nat)(row:Row)(j:Nat):Option (List Row):=apP s (nth row j)
def cRo(s:Nat)(row:Row)(j:Nat):Option (List Row):=auJ s (nth row j)
def acP(s:Nat)(row:Row)(j:Nat):Option (List Row):=anf s (nth row j)
mutual
def D.fz:D->D
 | .int k n=> .int k n
 | .bool b=> .bool b
 | .str s=> .str s
 | .PW=> .PW
 | .sl _ s rows=> .sl false s (aJ rows)
def aJ:List Row->List Row
 |[]=>[]
 |r::rs=>vP r::aJ rs
def vP:Row->Row
 |[]=>[]
 |x::r=>x.fz::vP r
end
def roD:D->D
 | .sl _ s rows=> .sl false s rows
 |x=>x
def D.flat:D->Bool
 | .sl ..=>false
 |_=>true
def ay(rows:List Row):Bool:=rows.all λr=>r.all D.flat
def one:V->Bool
 | .d _=>true
 | .nil _=>true
 | .own _ _=>true
 | .ptr _ _=>true
 | .rE ..=>true
 | .rF _ _=>true
 | .zK _=>true
 | .clo ..=>true
 |_=>false
mutual
def D.pure:D->Bool
 | .sl own _ rows=>match own with|true=>xK rows|false=>rows.isEmpty
 |_=>true
def xK:List Row->Bool
 |[]=>true
 |r::rs=>bG r && xK rs
def bG:Row->Bool
 |[]=>true
 |x::r=>x.pure && bG r
end
def JG(strict:Bool):List CT->Row->Nat->(List V->Acc V)->Acc V
 |[],_,_,c=>c []
 | .int k::ts,row,j,c=> .opt (fZ k row j) λn=>JG strict ts row (j+1) λvs=>c (.d (.int k n)::vs)
 | .bool::ts,row,j,c=> .opt (afC row j) λn=>JG strict ts row (j+1) λvs=>c (.d (.bool n)::vs)
 | .str::ts,row,j,c=> .opt (cStr row j) λn=>JG strict ts row (j+1) λvs=>c (.d (.str n)::vs)
 | .sl s::ts,row,j,c=> .opt (bif strict then cRo s row j else TD s row j) λrs=>JG strict ts row (j+1) λvs=>c (.d (.sl false s rs)::vs)
 | .other::_,_,_,_=> .fail
structure Adv where
 keep:Nat->Nat->List Nat
 move:Nat->List Nat
 ref:Nat->List Nat
 Yp:Nat->Nat->List Nat
 aDf:Nat->List Nat
 fuse:Nat->Nat->Nat
 trunc:Nat->Nat->Bool
 raw:Nat->List Nat
 look:Nat->List Nat
 mX:Nat->Nat->Bool
structure Ctx where
 P:Program
 JA:Adv
 Wq:Nat->Option (List V->List Cell->Option (List Row×List Cell))
 glob:Nat->Option Row
 aMx:Nat->Bool
 aAh:Nat->Bool:=λ_=>false
abbrev jd:=Nat->List V->List Cell->Option (List Row×List Cell)
def mem?(k:Nat):List Nat->Bool
 |[]=>false
 |j::l=>bif Nat.beq k j then true else mem? k l
def ay1:List CT->Bool
 |[]=>false
 | .sl _::_=>true
 |_::l=>ay1 l
def qV(P:Program)(e:TypeId):Bool:= !(ay1 (JE P e))
def vw(fl:Bool)(rows:List Row):List Row:=bif fl then rows else aJ rows
instance:Monad Acc where
 pure:=.ret
 bind:=.bind
def rd(k:Nat):Acc (Option Cell):=.get k .ret
def wr(k:Nat)(x:Cell):Acc Unit:=.set k x (.ret ())
def ck(b:Bool):Acc Unit:=.guard b (.ret ())
def op'{β:Type}(o:Option β):Acc β:=.opt o .ret
def free(k:Nat):Acc Unit:=do
 match<-rd k with
 |none=>pure ()
 |some _=> .fail
def new(k:Nat)(c:Cell):Acc Unit:=do
 free k
 wr k c
def seen(v:V):Acc (Nat×List Row):=
 match v with
 | .d (.sl _ s rows)=>pure (s,rows)
 | .nil s=>pure (s,[])
 | .own r ver=>do
  match<-rd r with
  |some (.arr _ fl fV s rows)=>do ck (Nat.beq ver fV);pure (s,vw fl rows)
  |_=> .fail
 |_=> .fail
def UH(fl:Bool)(rows:List Row):Bool:=bif fl then ay rows else true
def toD(v:V):Acc D:=
 match v with
 | .d x=>pure (roD x)
 | .nil s=>pure (.sl true s [])
 | .own r ver=>do
  match<-rd r with
  |some (.arr fz fl fV s rows)=>do
   ck (Nat.beq ver fV)
   match fz with
   |true=>pure (.sl false s (vw fl rows))
   |false=>do
    ck (UH fl rows)
    wr r .dead
    pure (.sl true s rows)
  |_=> .fail
 |_=> .fail
def JH:List V->Acc Row
 |[]=>pure []
 |v::vs=>do
  let x<-toD v
  let xs<-JH vs
  pure (x::xs)
def splice{α:Type}(l:List α)(off:Nat)(xs:List α):List α:=l.take off++xs++l.drop (off+xs.length)
def part{α:Type}(l:List α)(off n:Nat):List α:=(l.drop off).take n
def idx{α:Type}(l:List α)(i:Int):Option α:=bif decide (0<=i) then l[i.toNat]? else none
def cut{α:Type}(l:List α)(a b:Int):Option (List α):=
 bif decide (0<=a) && decide (a<=b) && decide (b<=l.length) then some ((l.drop a.toNat).take (b.toNat - a.toNat)) else none
def byteRow(b:UInt8):Row:=[.int .u8 b.toNat]
def asByte:Row->Option UInt8
 |[.int .u8 n]=>some (UInt8.ofNat n.toNat)
 |_=>none
def bytesOf:List Row->Option (List UInt8)
 |[]=>some []
 |r::rs=>match asByte r,bytesOf rs with|some b,some bs=>some (b::bs)|_,_=>none
def ev(P:Program)(tm:jS)(t:TypeId):Operand->V
 | .tmp i=>Si i tm
 | .const v=>cv P t v
 | .func f=> .clo f [] []
 | .global _=> .undef
def evG(X:Ctx)(tm:jS)(t:TypeId)(x:Operand):V:=match x with
 | .global g=>match X.glob g with
  |some row=> .rF row 0
  |none=> .undef
 |x=>ev X.P tm t x
def nz(op:BinOp)(b:Int):Bool:=match op with
 | .quo=> !(decide (b=0))
 | .rem=> !(decide (b=0))
 |_=>true
def aAi(op:BinOp)(k:IntKind)(a b:Int):Option V:=
 match op with
 | .add=>some (.d (.int k (k.wrap (a+b))))
 | .sub=>some (.d (.int k (k.wrap (a - b))))
 | .mul=>some (.d (.int k (k.wrap (a * b))))
 | .quo=>some (.d (.int k (k.wrap (a.tdiv b))))
 | .rem=>some (.d (.int k (a.tmod b)))
 | .eql=>some (.d (.bool (a==b)))
 | .neq=>some (.d (.bool (a !=b)))
 | .lss=>some (.d (.bool (decide (a<b))))
 | .leq=>some (.d (.bool (decide (a<=b))))
 | .gtr=>some (.d (.bool (decide (a>b))))
 | .geq=>some (.d (.bool (decide (a>=b))))
 | .and=>some (.d (.int k (k.wrap (BitVec.ofInt k.bits a &&& BitVec.ofInt k.bits b).toNat)))
 | .or=>some (.d (.int k (k.wrap (BitVec.ofInt k.bits a|||BitVec.ofInt k.bits b).toNat)))
 | .xor=>some (.d (.int k (k.wrap (BitVec.ofInt k.bits a ^^^ BitVec.ofInt k.bits b).toNat)))
 |_=>none
def Yq(op:BinOp)(k:IntKind)(a b:Int):Option V:=
 bif decide (b<0) then none else
 match op with
 | .shl=>some (.d (.int k (k.wrap (a * 2 ^(min b.toNat k.bits)))))
 | .shr=>some (.d (.int k (a.fdiv (2 ^(min b.toNat k.bits)))))
 |_=>none
def alC:Nat:=9223372036854775807
def aAj(op:BinOp)(a b:List UInt8):Acc V:=
 match op with
 | .add=> .guard (Nat.ble (a.length+b.length) alC) (.ret (.d (.str (a++b))))
 | .eql=> .ret (.d (.bool (a==b)))
 | .neq=> .ret (.d (.bool !(a==b)))
 | .lss=> .ret (.d (.bool (Op.bytesLess a b)))
 | .leq=> .ret (.d (.bool (Op.bytesLess a b||a==b)))
 | .gtr=> .ret (.d (.bool !(Op.bytesLess a b||a==b)))
 | .geq=> .ret (.d (.bool !(Op.bytesLess a b)))
 |_=> .fail
def aDg(op:BinOp)(a b:Bool):Option V:=
 match op with
 | .eql=>some (.d (.bool (a==b)))
 | .neq=>some (.d (.bool !(a==b)))
 |_=>none
def shiftOp:BinOp->Bool
 | .shl| .shr=>true
 |_=>false
def boolT(P:Program)(t:TypeId):Bool:=match P.underlying t with|some .bool=>true|_=>false
def bin(bt:Bool)(op:BinOp)(x y:V):Acc V:=
 match x,y with
 | .d (.int k a),.d (.int k' b)=>
  match shiftOp op with
  |true=> .opt (Yq op k a b) .ret
  |false=>match decide (k=k') with
   |true=> .guard (nz op b) (.opt (aAi op k a b) .ret)
   |false=> .fail
 | .d (.str a),.d (.str b)=>aAj op a b
 | .d (.bool a),.d (.bool b)=>match bt with
  |true=> .opt (aDg op a b) .ret
  |false=> .fail
 |_,_=> .fail
def alD:V->V->Option Bool
 | .d (.int k a),.d (.int k' b)=>bif decide (k=k') then some (a==b) else none
 | .d (.str a),.d (.str b)=>some (a==b)
 | .d (.bool a),.d (.bool b)=>some (a==b)
 |_,_=>none
def ZC(P:Program)(t:TypeId)(v:V):Bool:=match P.underlying t,v with
 |some (.int _),.d (.int _ _)=>true
 |some .string,.d (.str _)=>true
 |some .bool,.d (.bool _)=>true
 |_,_=>false
def ab7(P:Program):List Field->List V->List V->Option Bool
 |[],_,_=>some true
 |f::fs,xs,ys=>match xs[f.offset]?,ys[f.offset]? with
  | some x, some y => bif ZC P f.type x && (f.name != "_") then
    (match alD x y,ab7 P fs xs ys with
    |some a,some b=>some (bif a then b else false)
    |_,_=>none) else none
  |_,_=>none
def aDh(P:Program)(t:TypeId)(op:BinOp)(cs ds:List V):Acc V:=do
 ck (!(P.stoodInHeld t) && !(P.eqGuardType P.depth t))
 let fs<-op' (match P.underlying t with|some (.struct fs)=>some fs.toList|_=>none)
 let r<-op' (ab7 P fs cs ds)
 match op with
 | .eql=>pure (.d (.bool r))
 | .neq=>pure (.d (.bool !r))
 |_=> .fail
def alE(x:V):Acc Bool:=
 match x with
 | .nil _=>pure true
 | .d (.sl _ _ rows)=>do ck (Nat.ble 1 rows.length);pure false
 | .own r ver=>do
  match<-rd r with
  |some (.arr _ _ fV _ rows)=>do ck (Nat.beq ver fV && Nat.ble 1 rows.length);pure false
  |_=> .fail
 |_=> .fail
def sliceT(P:Program)(t:TypeId):Bool:=match P.underlying t with|some (.slice _)=>true|_=>false
def alF(P:Program)(t:TypeId)(op:BinOp)(x:V):Acc V:=do
 ck (sliceT P t)
 let b<-alE x
 match op with
 | .eql=>pure (.d (.bool b))
 | .neq=>pure (.d (.bool !b))
 |_=> .fail
def aAk(P:Program)(t:TypeId)(op:BinOp)(x y:V):Acc V:=match x with
 | .agg cs=>(match y with| .agg ds=>aDh P t op cs ds|_=> .fail)
 |x=>(match y with| .nil _=>alF P t op x|y=>bin (boolT P t) op x y)
def un(op:UnOp)(x:V):Acc V:=
 match op,x with
 | .neg,.d (.int k n)=> .ret (.d (.int k (k.wrap (0 - n))))
 | .not,.d (.bool b)=> .ret (.d (.bool !b))
 |_,_=> .fail
def apQ(c x y:V):Acc V:=
 match c with
 | .d (.bool c)=>match x,y with
  | .d (.bool a),.d (.bool b)=> .ret (.d (.bool (bif c then a else b)))
  |x,y=>match c with
   |true=> .ret x
   |false=> .ret y
 |_=> .fail
def zH(P:Program)(t:TypeId):Bool:=match P.underlying t with|some _=>true|none=>false
def apR(P:Program)(t:TypeId)(a:V):Acc V:=do
 ck (zH P t && Nat.beq (JE P t).length (kG P t))
 match a with
 | .ptr r off=>do
  match<-rd r with
  |some (.box _ cs)=>do
   ck (Nat.ble (off+kG P t) cs.length)
   op' (Ie P t (part cs off (kG P t)))
  |some (.nR _ v)=>do
   ck (Nat.beq off 0 &&(Nat.beq (kG P t) 1 && !(H6 P t)))
   pure v
  |_=> .fail
 | .zK v=>do
  ck (Nat.beq (kG P t) 1 && !(H6 P t))
  pure v
 | .rF row off=>JG false (JE P t) row off λvs=>op' (Ie P t vs)
 | .rE r ver i off=>do
  match<-rd r with
  |some (.arr _ _ fV _ rows)=>do
   ck (Nat.beq ver fV)
   let row<-op' rows[i]?
   JG true (JE P t) row off λvs=>op' (Ie P t vs)
  |some (.D5 fV _ rows)=>do
   ck (Nat.beq ver fV)
   let row<-op' rows[i]?
   JG true (JE P t) row off λvs=>op' (Ie P t vs)
  |_=> .fail
 |_=> .fail
def JI:Nat:=1000000000000000000000000
def D7(r:Nat):Nat:=JI+r
def apS(k:Nat):Bool:=Nat.ble JI k
def apT(P:Program)(t:TypeId)(a:V):Acc V:=do
 ck (zH P t &&(Nat.beq (kG P t) 1 && !(H6 P t)))
 let e<-op' (elT P t)
 match a with
 | .rE r ver i off=>do
  match<-rd r with
  |some (.arr false false fV s rows)=>do
   ck (Nat.beq ver fV && Nat.ble (off+1) s)
   let row<-op' rows[i]?
   let rs<-op' (acP (kG P e) row off)
   ck (ay rs)
   new (D7 r) (.arr false true 0 (kG P e) rs)
   wr r (.mX ver s rows i off)
   pure (.own (D7 r) 0)
  |_=> .fail
 |_=> .fail
def ag3(k:Nat):Acc Unit:=match apS k with
 |false=>pure ()
 |true=>do
  match<-rd (k - JI) with
  |some (.mX ver s rows i off)=>do
   match<-rd k with
   |some (.arr false true 0 e rs)=>do
    ck (ay rs)
    let row<-op' rows[i]?
    wr k .dead
    wr (k - JI) (.arr false false ver s (rows.set i (splice row off [.sl true e rs])))
   |_=>pure ()
  |_=>pure ()
def ab8(a:V):Acc Unit:=match a with
 | .own k _=>ag3 k
 | .rE k _ _ _=>ag3 k
 |_=>pure ()
def kept(off:Nat)(cs:List V)(x:V):Bool:=match off,cs,x with
 |0,[.undef],.ptr _ _=>true
 |_,_,_=>false
def alG(P:Program)(t:TypeId)(a x:V):Acc Unit:=do
 ck (zH P t)
 ck (Nat.beq x.cells.length (kG P t))
 ck (x.cells.all one)
 match a with
 | .ptr r off=>do
  match<-rd r with
  |some (.box T cs)=>do
   ck (Nat.ble (off+kG P t) cs.length)
   match kept off cs x with
   |true=>wr r (.nR T x)
   |false=>wr r (.box T (splice cs off x.cells))
  |_=> .fail
 | .rE r ver i off=>do
  let xs<-JH x.cells
  match<-rd r with
  |some (.arr false fl fV s rows)=>do
   ck (Nat.beq ver fV)
   ck (Nat.ble (off+kG P t) s)
   let row<-op' rows[i]?
   wr r (.arr false fl ver s (rows.set i (splice row off xs)))
  |some (.mX fV s rows i' off')=>do
   ck (Nat.beq ver fV &&(Nat.beq i i' &&(Nat.beq off off' && Nat.beq xs.length 1)))
   let row<-op' rows[i']?
   wr r (.arr false false ver s (rows.set i' (splice row off' xs)))
  |_=> .fail
 |_=> .fail
def TF(P:Program)(T:TypeId)(f:Nat):Option (Nat×Nat×TypeId):=
 match P.underlying T with
 |some (.struct fs)=>match fs[f]? with
  |some fd=>some (fd.offset,kG P fd.type,fd.type)
  |none=>none
 |_=>none
def Xi(P:Program)(T:TypeId)(a:V)(f:Nat):Acc V:=do
 let(o,n,_)<-op' (TF P T f)
 ck (Nat.ble 1 n)
 match a with
 | .ptr r off=>pure (.ptr r (off+o))
 | .rF row off=>pure (.rF row (off+o))
 | .rE r ver i off=>pure (.rE r ver i (off+o))
 |_=> .fail
def alH(P:Program)(T:TypeId)(x:V)(f:Nat):Acc V:=do
 let(o,n,t)<-op' (TF P T f)
 match x with
 | .agg cs=>do
  ck (Nat.ble (o+n) cs.length)
  ck (zH P t)
  op' (Ie P t (part cs o n))
 |_=> .fail
def Xj(P:Program)(t:TypeId)(x i:V):Acc V:=do
 let e<-op' (elT P t)
 match i with
 | .d (.int _ i)=>
  match x with
  | .d (.sl _ s rows)=>do
   ck (Nat.beq s (kG P e))
   ck (zH P e)
   let row<-op' (idx rows i)
   pure (.rF row 0)
  | .own r ver=>do
   match<-rd r with
   |some (.arr fz fl fV s rows)=>do
    ck (Nat.beq ver fV)
    ck (Nat.beq s (kG P e))
    ck (zH P e)
    match fz with
    |true=>do
     let row<-op' (idx (vw fl rows) i)
     pure (.rF row 0)
    |false=>do
     let _<-op' (idx rows i)
     pure (.rE r ver i.toNat 0)
   |some (.D5 fV s rows)=>do
    ck (Nat.beq ver fV)
    ck (Nat.beq s (kG P e))
    ck (zH P e)
    let _<-op' (idx rows i)
    pure (.rE r ver i.toNat 0)
   |some (.mX fV s rows _ _)=>do
    ck (Nat.beq ver fV)
    ck (Nat.beq s (kG P e))
    ck (zH P e)
    let _<-op' (idx rows i)
    pure (.rE r ver i.toNat 0)
   |_=> .fail
  |_=> .fail
 |_=> .fail
def arT(P:Program)(t:TypeId):Option (Nat×TypeId):=match P.underlying t with|some (.array n e)=>some (n,e)|_=>none
def aiA(P:Program)(n:Nat)(e:TypeId)(x i:V):Acc V:=
 match i with
 | .d (.int _ i)=>do
  ck (zH P e)
  ck (decide (0<=i) && decide (i<(n:Int)))
  match x with
  | .rF row off=>pure (.rF row (off+i.toNat * kG P e))
  | .ptr r off=>pure (.ptr r (off+i.toNat * kG P e))
  |_=> .fail
 |_=> .fail
def Xk(P:Program)(t:TypeId)(x i:V):Acc V:=match arT P t with
 |some (n,e)=>aiA P n e x i
 |none=>Xj P t x i
def afD:List V->Option Row
 |[]=>some []
 | .d x::vs=>match afD vs with|some r=>some (x::r)|none=>none
 |_::_=>none
def acQ(c:CT)(row:Row)(i:Nat):Acc V:=match c with
 | .int k=> .opt (fZ k row i) λn=> .ret (.d (.int k n))
 | .bool=> .opt (afC row i) λb=> .ret (.d (.bool b))
 | .str=> .opt (cStr row i) λs=> .ret (.d (.str s))
 |_=> .fail
def alI(P:Program)(t:TypeId)(x i:V):Acc V:=
 match P.underlying t,x,i with
 |some .string,.d (.str s),.d (.int _ i)=> .opt (idx s i) λb=> .ret (.d (.int .u8 b.toNat))
 |some (.array n e),.agg cs,.d (.int _ i)=>do
  ck (Nat.beq (kG P e) 1 &&(Nat.beq cs.length n &&(zH P e && !(H6 P e))))
  ck (decide (0<=i) && decide (i<(n:Int)))
  let row<-op' (afD cs)
  acQ (match JE P e with|[c]=>c|_=> .other) row i.toNat
 |_,_,_=> .fail
def lenV(x:V):Acc V:=
 match x with
 | .d (.str s)=> .ret (.d (.int .i64 s.length))
 | .own r ver=>do
  match<-rd r with
  |some (.arr _ _ fV _ rows)=>do ck (Nat.beq ver fV);pure (.d (.int .i64 rows.length))
  |some (.D5 fV _ rows)=>do ck (Nat.beq ver fV);pure (.d (.int .i64 rows.length))
  |_=> .fail
 | .d (.sl _ _ rows)=> .ret (.d (.int .i64 rows.length))
 | .nil _=> .ret (.d (.int .i64 0))
 |_=> .fail
def Sj:Nat:=140737488355328
def PX(P:Program)(e:TypeId):Nat:=match P.info? e with|some i=>i.bytes|none=>Sj
def tail(P:Program)(e:TypeId)(y:V):Acc (List Row):=
 match y with
 | .d (.str s)=>do
  ck (Nat.beq (kG P e) 1)
  pure (s.map byteRow)
 | .d (.sl _ s rows)=>do
  ck (Nat.beq s (kG P e))
  pure (vw (qV P e) rows)
 | .nil _=>pure []
 | .own r ver=>do
  match<-rd r with
  |some (.arr fz fl fV s rows)=>do
   ck (Nat.beq ver fV)
   ck (Nat.beq s (kG P e))
   match qV P e with
   |true=>do
    ck (fl||fz)
    pure rows
   |false=>do
    ck (!fl)
    match fz with
    |true=>pure (aJ rows)
    |false=>do
     wr r .dead
     pure rows
  |_=> .fail
 |_=> .fail
def ag4(P:Program)(dst:Nat)(t ty:TypeId)(x y:V):Acc V:=do
 let e<-op' (elT P t)
 ck (Nat.ble 1 (kG P e))
 ck (match P.underlying ty with|some (.slice _)=>true|some .string=>true|_=>false)
 let z<-op' (JF P e)
 ck (Nat.beq z.length (kG P e))
 let ys<-tail P e y
 match x with
 | .nil _=>do
  ck (Nat.ble (ys.length * PX P e) Sj)
  ck (Nat.ble ys.length Sj)
  new dst (.arr false (qV P e) 0 (kG P e) ys)
  pure (.own dst 0)
 | .own r ver=>do
  match<-rd r with
  |some (.arr false fl fV s rows)=>do
   ck (Nat.beq ver fV)
   ck (Nat.beq s (kG P e))
   ck (match fl,qV P e with|true,true=>true|false,false=>true|_,_=>false)
   ck (Nat.ble ((rows.length+ys.length) * PX P e) Sj)
   ck (Nat.ble (rows.length+ys.length) Sj)
   wr r (.arr false fl (ver+1) s (rows++ys))
   pure (.own r (ver+1))
  |some (.D5 fV s rows)=>do
   ck (Nat.beq ver fV)
   ck (Nat.beq s (kG P e))
   ck (qV P e)
   ck (Nat.ble ((rows.length+ys.length) * PX P e) Sj)
   ck (Nat.ble (rows.length+ys.length) Sj)
   wr r (.D5 (ver+1) s (rows++ys))
   pure (.own r (ver+1))
  |_=> .fail
 |_=> .fail
def ab9:V->V->Bool
 | .own r v,.own r' v'=>Nat.beq r r' && Nat.beq v v'
 |_,_=>false
def alJ(P:Program)(dst:Nat)(t ty:TypeId)(x:V):Acc V:=do
 let e<-op' (elT P t)
 ck (Nat.ble 1 (kG P e))
 ck (sliceT P ty)
 let z<-op' (JF P e)
 ck (Nat.beq z.length (kG P e))
 match x with
 | .own r ver=>do
  match<-rd r with
  |some (.arr false false fV s rows)=>do
   ck (Nat.beq ver fV && Nat.beq s (kG P e))
   ck (Nat.ble ((rows.length+rows.length) * PX P e) Sj && Nat.ble (rows.length+rows.length) Sj)
   free dst
   wr r .dead
   wr dst .dead
   pure (.d (.sl false s (aJ rows++aJ rows)))
  |_=> .fail
 |_=> .fail
def aiB(P:Program)(e:TypeId):Acc Row:=do
 let z<-op' (JF P e)
 JH z
def Xl(P:Program)(dst:Nat)(t:TypeId)(l c:V):Acc V:=do
 let e<-op' (elT P t)
 ck (Nat.ble 1 (kG P e))
 let z<-aiB P e
 ck (Nat.beq z.length (kG P e))
 match l,c with
 | .d (.int _ l),.d (.int _ c)=>do
  ck (decide (0<=l) && decide (l<=c) && decide (c * PX P e<=Sj) && decide (c<=Sj))
  new dst (.arr false (qV P e) 0 (kG P e) (List.replicate l.toNat z))
  pure (.own dst 0)
 |_,_=> .fail
def bound(o:Option V)(d:Int):Acc Int:=match o with
 |none=> .ret d
 |some (.d (.int _ n))=> .ret n
 |some _=> .fail
def alK(P:Program)(t:TypeId)(x:V)(lo hi:Option V):Acc V:=
 match x with
 | .d (.str s)=>do
  ck (match P.underlying t with|some .string=>true|_=>false)
  let l<-bound lo 0
  let h<-bound hi s.length
  let s'<-op' (cut s l h)
  pure (.d (.str s'))
 |_=>do
  let e<-op' (elT P t)
  ck (zH P e)
  let(s,rows)<-seen x
  ck (Nat.beq s (kG P e))
  let l<-bound lo 0
  let h<-bound hi rows.length
  let rows'<-op' (cut rows l h)
  match x with
  | .own r ver=>do
   match<-rd r with
   |some (.arr _ fl fV s rows)=>do
    ck (Nat.beq ver fV)
    wr r (.arr true fl ver s rows)
    pure (.d (.sl false s rows'))
   |_=> .fail
  |_=>pure (.d (.sl false s rows'))
def ag5(P:Program)(t:TypeId)(x:V)(lo hi:Option V):Acc V:=
 match x with
 | .rF row off=>do
  let(n,e)<-op' (arT P t)
  ck (zH P e)
  ck (Nat.beq (kG P e) 1 &&(Nat.beq off 0 && Nat.beq row.length n))
  match lo,hi with
  |none,none=>pure (.d (.sl false 1 (row.map λx=>[x])))
  |_,_=> .fail
 |x=>alK P t x lo hi
def alL(P:Program)(t:TypeId)(x:V)(hi:Option V):Acc V:=do
 let e<-op' (elT P t)
 ck (zH P e)
 match x with
 | .own r ver=>do
  match<-rd r with
  |some (.arr false fl fV s rows)=>do
   ck (Nat.beq ver fV)
   ck (Nat.beq s (kG P e))
   let h<-bound hi rows.length
   ck (decide (0<=h) && decide (h<=(rows.length:Int)))
   wr r (.arr false fl (ver+1) s (rows.take h.toNat))
   pure (.own r (ver+1))
  |_=> .fail
 |_=> .fail
def apU(P:Program)(t:TypeId)(x lo:V):Acc V:=do
 let e<-op' (elT P t)
 ck (zH P e)
 let l<-bound (some lo) 0
 match x with
 | .own r ver=>do
  match<-rd r with
  |some (.arr false true fV s rows)=>do
   ck (Nat.beq ver fV)
   ck (Nat.beq s (kG P e))
   ck (decide (0<=l) && decide (l<=(rows.length:Int)))
   wr r (.D5 (ver+1) s (rows.drop l.toNat))
   pure (.own r (ver+1))
  |some (.D5 fV s rows)=>do
   ck (Nat.beq ver fV)
   ck (Nat.beq s (kG P e))
   ck (decide (0<=l) && decide (l<=(rows.length:Int)))
   wr r (.D5 (ver+1) s (rows.drop l.toNat))
   pure (.own r (ver+1))
  |_=> .fail
 |_=> .fail
def uI(P:Program)(T:TypeId)(tm:jS):List (Nat×Operand)->List V->Acc (List V)
 |[],cs=>pure cs
 |(f,x)::ps,cs=>do
  let(o,n,t)<-op' (TF P T f)
  let v:=ev P tm t x
  ck (Nat.beq v.cells.length n)
  ck (v.cells.all one)
  ck (Nat.ble (o+n) cs.length)
  uI P T tm ps (splice cs o v.cells)
def aiC(P:Program)(T:TypeId):Bool:=match P.underlying T with
 |some (.struct fs)=>fs.toList.all λf=>match P.info? f.type with|some _=>true|none=>false
 |_=>false
def qM(P:Program)(e:TypeId)(tm:jS):List (Nat×Operand)->List V->Acc (List V)
 |[],cs=>pure cs
 |(i,x)::ps,cs=>do
  let v:=ev P tm e x
  ck (Nat.beq v.cells.length (kG P e))
  ck (v.cells.all one)
  ck (Nat.ble (i * kG P e+kG P e) cs.length)
  qM P e tm ps (splice cs (i * kG P e) v.cells)
def ag6(P:Program)(T:TypeId)(tm:jS)(ps:List (Nat×Operand)):Acc V:=do
 ck (aiC P T)
 let z<-op' (JF P T)
 let cs<-uI P T tm ps z
 pure (.agg cs)
def alM(P:Program)(T e:TypeId)(tm:jS)(ps:List (Nat×Operand)):Acc V:=do
 ck (zH P e)
 let z<-op' (JF P T)
 let cs<-qM P e tm ps z
 pure (.agg cs)
def ag7(P:Program)(T:TypeId)(tm:jS)(ps:List (Nat×Operand)):Acc V:=match arT P T with
 |some (_,e)=>alM P T e tm ps
 |none=>ag6 P T tm ps
def uJ(P:Program)(e:TypeId)(tm:jS):Nat->List (Nat×Operand)->Acc (List Row)
 |_,[]=>pure []
 |k,(i,x)::ps=>do
  ck (Nat.beq i k)
  let v:=ev P tm e x
  ck (Nat.beq v.cells.length (kG P e))
  let row<-JH v.cells
  let rows<-uJ P e tm (k+1) ps
  pure (row::rows)
def QI(P:Program)(dst:Nat)(t:TypeId)(n:Nat)(tm:jS)(ps:List (Nat×Operand)):Acc V:=do
 let e<-op' (elT P t)
 ck (Nat.ble 1 (kG P e))
 ck (Nat.beq ps.length n)
 ck (Nat.ble (n * kG P e) 16777216)
 let _<-op' (JF P e)
 let rows<-uJ P e tm 0 ps
 new dst (.arr false (qV P e) 0 (kG P e) rows)
 pure (.own dst 0)
def acR(P:Program)(src dst:TypeId)(x:V):Acc V:=
 match P.underlying src,P.underlying dst with
 |some (.int _),some (.int k)=>match x with
  | .d (.int _ n)=> .ret (.d (.int k (k.wrap n)))
  |_=> .fail
 |some .string,some .string=>match x with
  | .d (.str s)=> .ret (.d (.str s))
  |_=> .fail
 |some (.slice e),some .string=>do
  ck (match P.underlying e with|some (.int .u8)=>true|_=>false)
  let(s,rows)<-seen x
  ck (Nat.beq s 1)
  let b<-op' (bytesOf rows)
  pure (.d (.str b))
 |_,_=> .fail
def lM:Nat:=100000
def ag8(r:Nat)(l:List Nat):List Nat:=bif mem? r l then l else l++[r]
mutual
def aiD(I:List Nat):V->List Nat
 | .ptr r _=>ag8 r I
 | .clo _ a b=>afE (afE I a) b
 | .agg cs=>afE I cs
 | .zK v=>aiD I v
 |_=>I
def afE(I:List Nat):List V->List Nat
 |[]=>I
 |v::vs=>afE (aiD I v) vs
end
def DN(A:Adv)(f i:Nat):Nat:=bif mem? i (A.move f) then 1 else bif mem? i (A.ref f) then 2 else bif mem? i (A.raw f) then 3 else bif mem? i (A.look f) then 4 else 0
def O4(A:Adv)(f:Nat):Nat->List Nat->List V->List Nat
 |_,I,[]=>I
 |i,I,v::vs=>O4 A f (i+1) (match DN A f i,v with
  |2,.own r _=>ag8 r I
  |4,_=>I
  |_,v=>aiD I v) vs
def idxOf(r:Nat):Nat->List Nat->Option Nat
 |_,[]=>none
 |i,j::l=>bif Nat.beq r j then some i else idxOf r (i+1) l
def Sl(A:Adv)(f:Nat):Nat->List V->Acc (List V)
 |_,[]=>pure []
 |i,v::vs=>do
  let v<-(match DN A f i with
   |1=>do
    let x<-toD v
    pure (.d x)
   |_=>pure v:Acc V)
  let vs<-Sl A f (i+1) vs
  pure (v::vs)
mutual
def lend(imp:List Nat):V->Acc (V×List Nat)
 | .d x=>pure (.d (roD x),[])
 | .nil s=>pure (.d (.sl false s []),[])
 | .own r ver=>do
  match<-rd r with
  |some (.arr fz fl fV s rows)=>do
   ck (Nat.beq ver fV)
   ck (!(mem? r imp))
   pure (.d (.sl false s (vw fl rows)),bif fz then[] else[r])
  |_=> .fail
 | .ptr r off=>do
  let i<-op' (idxOf r 0 imp)
  pure (.ptr (lM+i) off,[])
 | .rF row off=>pure (.rF row off,[])
 | .zK v=>do
  let(v,l)<-lend imp v
  pure (.zK v,l)
 | .clo f a b=>do
  let(a,l)<-acS imp a
  let(b,l')<-acS imp b
  pure (.clo f a b,l++l')
 | .agg cs=>do
  let(a,l)<-acS imp cs
  pure (.agg a,l)
 | .rE ..=> .fail
 | .zL _=> .fail
 | .undef=> .fail
def acS(imp:List Nat):List V->Acc (List V×List Nat)
 |[]=>pure ([],[])
 |v::vs=>do
  let(v,l)<-lend imp v
  let(vs,l')<-acS imp vs
  pure (v::vs,l++l')
end
def Sr(imp:List Nat):List V->Acc (Row×List Nat)
 |[]=>pure ([],[])
 |v::vs=>do
  let(v,l)<-lend imp v
  match v with
  | .d x=>do
   let(r,l')<-Sr imp vs
   pure (x::r,l++l')
  |_=> .fail
def acd(imp:List Nat)(v:V):Acc (V×List Nat):=
 match v with
 | .ptr r off=>do
  match<-rd r with
  |some (.box _ cs)=>do
   ck (!(mem? r imp))
   let(row,l)<-Sr imp cs
   pure (.rF row off,r::l)
  |_=> .fail
 | .rF row off=>pure (.rF row off,[])
 |_=> .fail
def Sv(A:Adv)(imp:List Nat)(f:Nat):Nat->List V->Acc (List V×List Nat)
 |_,[]=>pure ([],[])
 |i,v::vs=>do
  let(v,l)<-(match DN A f i with
   |1=>pure (v,[])
   |2=>match v with
    | .own r ver=>do
     ck (Nat.beq ver 0)
     let i<-op' (idxOf r 0 imp)
     pure (.own (lM+i) 0,[])
    |_=> .fail
   |3=>match v with
    | .nil s=>pure (.nil s,[])
    |_=> .fail
   |4=>acd imp v
   |_=>lend imp v:Acc (V×List Nat))
  let(vs,l')<-Sv A imp f (i+1) vs
  pure (v::vs,l++l')
def apV(imp:List Nat)(own:Bool)(v:V):Acc V:=
 match v with
 | .d x=>pure (.d (roD x))
 | .nil s=>pure (.d (.sl own s []))
 | .own r ver=>do
  match<-rd r with
  |some (.arr fz fl fV s rows)=>do
   ck (Nat.beq ver fV)
   ck (!(mem? r imp))
   match own with
   |true=>do
    ck (!fz)
    ck (UH fl rows)
    wr r .dead
    pure (.d (.sl true s rows))
   |false=>do
    wr r (.arr true fl ver s rows)
    pure (.d (.sl false s (vw fl rows)))
  |_=> .fail
 |_=> .fail
def UY(imp own:List Nat):Nat->List V->Acc (List V)
 |_,[]=>pure []
 |j,v::vs=>do
  let v<-apV imp (mem? j own) v
  let vs<-UY imp own (j+1) vs
  pure (v::vs)
def ag9(A:Adv)(imp:List Nat)(c:Option Cell):Acc Cell:=
 match c with
 |some (.box t cs)=>do
  let cs<-UY imp (A.aDf t) 0 cs
  pure (.box t cs)
 |some (.arr fz fl ver s rows)=>do
  ck (!fz)
  ck (Nat.beq ver 0)
  pure (.arr fz fl 0 s rows)
 |_=> .fail
def UZ(A:Adv)(imp:List Nat):List Nat->Acc (List Cell)
 |[]=>pure []
 |r::rs=>do
  let c<-rd r
  let c<-ag9 A imp c
  let cs<-UZ A imp rs
  pure (c::cs)
def keyOf(r j dst:Nat):Nat:=1000000+(r * 100+j) * 10000+dst
def vD:V->D
 | .d x=>x
 |_=> .PW
def apW(cs:List Cell)(i:Nat):Row:=match cs[i]? with|some (.box _ vs)=>vs.map vD|_=>[]
def apX(s:Nat)(cs:List Cell)(i:Nat):Option (List Row):=match cs[i]? with|some (.arr false _ 0 s' rows)=>bif Nat.beq s s' then some rows else none|_=>none
def apY(cs:List Cell)(i n:Nat):Bool:=match cs[i]? with|some (.box _ vs)=>Nat.beq vs.length n|_=>false
def apZ(f:TypeId->List Bool):List TypeId->List Bool
 |[]=>[]
 |t::ts=>f t++apZ f ts
def fls(P:Program):Nat->TypeId->List Bool
 |0,_=>[]
 |n+1,t=>match P.underlying t with
  |some (.slice e)=>[qV P e]
  |some (.struct fs)=>apZ (fls P n) (fs.toList.map (·.type))
  |_=>[false]
def NV(own fl:Bool)(key:Nat)(row:Row)(j:Nat):CT->Acc V
 | .int k=> .opt (fZ k row j) λn=> .ret (.d (.int k n))
 | .bool=> .opt (afC row j) λn=> .ret (.d (.bool n))
 | .str=> .opt (cStr row j) λn=> .ret (.d (.str n))
 | .sl s=>match own with
  |true=> .opt (acP s row j) λrows=>do
   new key (.arr false fl 0 s rows)
   pure (.own key 0)
  |false=> .opt (TD s row j) λrows=> .ret (.d (.sl false s (vw fl rows)))
 | .other=> .fail
def Yr(own:List Nat)(r dst:Nat)(row:Row):Nat->List CT->List Bool->Acc (List V)
 |_,[],_=>pure []
 |j,ct::l,fs=>do
  let v<-NV (mem? j own) (fs.headD false) (keyOf r j dst) row j ct
  let vs<-Yr own r dst row (j+1) l fs.tail
  pure (v::vs)
def aaI(X:Ctx)(dst:Nat)(out:List Cell):Nat->List Nat->Acc Unit
 |_,[]=>pure ()
 |i,r::rs=>do
  match<-rd r with
  |some (.box t _)=>do
   ck (apY out i (JE X.P t).length)
   let vs<-Yr (X.JA.aDf t) r dst (apW out i) 0 (JE X.P t) (fls X.P 8 t)
   wr r (.box t vs)
  |some (.arr _ fl ver s _)=>do
   let rows<-op' (apX s out i)
   wr r (.arr false fl ver s rows)
  |_=> .fail
  aaI X dst out (i+1) rs
def alN(dst c:Nat):Nat:=1000000000000000+dst * 1000+c
def Sz(Yp:List Nat)(dst ri:Nat)(row:Row):Nat->List CT->List Bool->Acc (List V)
 |_,[],_=>pure []
 |j,ct::l,fs=>do
  let v<-NV (mem? (ri * 20+j) Yp) (fs.headD false) (alN dst (ri * 20+j)) row j ct
  let vs<-Sz Yp dst ri row (j+1) l fs.tail
  pure (v::vs)
def alO(X:Ctx)(Yp:List Nat)(dst ri:Nat)(row:Row)(t:TypeId):Acc V:=match ae9 X.P t with
 |some T=>do
  ck (Nat.beq row.length (JE X.P T).length)
  let cs<-Sz [] dst ri row 0 (JE X.P T) (fls X.P 8 T)
  new (alN dst (ri * 20+19)) (.box T cs)
  pure (.ptr (alN dst (ri * 20+19)) 0)
 |none=>do
  ck (Nat.beq row.length (JE X.P t).length)
  let cs<-Sz Yp dst ri row 0 (JE X.P t) (fls X.P 8 t)
  op' (Ie X.P t cs)
def acT(res:List Row)(ri:Nat):Row:=match res[ri]? with|some r=>r|none=>[]
def Xm(X:Ctx)(Yp:List Nat)(dst:Nat)(res:List Row):Nat->List TypeId->Acc (List V)
 |_,[]=>pure []
 |ri,t::ts=>do
  let v<-alO X Yp dst ri (acT res ri) t
  let vs<-Xm X Yp dst res (ri+1) ts
  pure (v::vs)
def alP(Yp:List Nat)(ri:Nat):Nat->List CT->Bool
 |_,[]=>true
 |j,.sl _::l=>mem? (ri * 20+j) Yp && alP Yp ri (j+1) l
 |j,_::l=>alP Yp ri (j+1) l
def VW(P:Program)(Yp:List Nat):Nat->List TypeId->Bool
 |_,[]=>true
 |ri,t::ts=>alP Yp ri 0 (JE P t) && VW P Yp (ri+1) ts
def freeze:List Nat->Acc Unit
 |[]=>pure ()
 |r::rs=>do
  match<-rd r with
  |some (.arr _ fl ver s rows)=>wr r (.arr true fl ver s rows)
  |_=> .fail
  freeze rs
def Yt(X:Ctx)(K:jd)(fn dst f:Nat)(args:List V):Acc V:=do
 let g<-op' X.P.funcs[f]?
 ck (g.body.isSome && !(g.name == "runtime.NumGoroutine"))
 let imp:=O4 X.JA f 0 [] args
 let args<-Sl X.JA f 0 args
 let cells<-UZ X.JA imp imp
 let(args,NW)<-Sv X.JA imp f 0 args
 ck (NW.all λr=> !(mem? r imp))
 let out<-op' (K f args cells)
 ck (Nat.beq out.1.length g.resultTypes.size)
 let need:= !(NW.isEmpty) &&(VW X.P (X.JA.Yp fn dst) 0 g.resultTypes.toList && imp.isEmpty)
 ck (bif need then out.1.all bG else true)
 freeze (bif need then[] else NW)
 aaI X dst out.2 0 imp
 let vs<-Xm X (X.JA.Yp fn dst) dst out.1 0 g.resultTypes.toList
 match vs with
 |[v]=>pure v
 |vs=>pure (.zL vs)
def aDi(P:Program)(ts:List TypeId)(x:V):Bool:=match ts with
 |[t]=>(match x with
  | .d (.str _)=>(match P.underlying t with|some .string=>true|_=>false)
  |_=>(match P.underlying t with|some (.slice _)=>true|_=>false))
 |_=>false
def tq(P:Program)(tm:jS):List Operand->List TypeId->List V
 |[],_=>[]
 |x::xs,ts=>ev P tm (ts.headD 0) x::tq P tm xs ts.tail
def aiE:List V->Acc (List V)
 |[]=>pure []
 |v::vs=>do
  let v<-(match v with
   | .ptr r off=>do
    match<-rd r with
    |some (.nR _ x)=>do
     ck (Nat.beq off 0)
     pure (.zK x)
    |_=>pure (.ptr r off)
   |v=>pure v:Acc V)
  let vs<-aiE vs
  pure (v::vs)
def vop(X:Ctx)(K:jd)(fn:Nat)(tm:jS)(o:Oper):Acc V:=
 let P:=X.P
 let dst:=o.dst.getD 0
 match o.op with
 | .move x=>pure (ev P tm o.type x)
 | .assign x=>pure (ev P tm o.type x)
 | .pick c x y=>apQ (ev P tm o.type c) (ev P tm o.type x) (ev P tm o.type y)
 | .alloc T=>do
  let z<-op' (JF P T)
  new dst (.box T z)
  pure (.ptr dst 0)
 | .box T x=>do
  let v:=ev P tm T x
  ck (Nat.beq v.cells.length (kG P T))
  ck (v.cells.all one)
  new dst (.box T v.cells)
  pure (.ptr dst 0)
 | .build T ps=>ag7 P T tm ps.toList
 | .buildSlice t n ps=>QI P dst t n tm ps.toList
 | .load t a=>match X.JA.mX fn dst with
  |true=>apT P t (evG X tm 0 a)
  |false=>apR P t (evG X tm 0 a)
 | .store t a x=>do alG P t (ev P tm 0 a) (ev P tm t x);ab8 (ev P tm 0 a);pure .undef
 | .nilCheck x=>match evG X tm o.type x with
  | .ptr r off=>pure (.ptr r off)
  | .rF row off=>pure (.rF row off)
  | .rE r ver i off=>pure (.rE r ver i off)
  |_=> .fail
 | .binOp op t x y t'=>aAk P t op (ev P tm t x) (ev P tm t' y)
 | .unOp op t x=>un op (ev P tm t x)
 | .convert s d x=>acR P s d (ev P tm s x)
 | .makeFunc (.func f) first caps=>do
  let cs<-aiE (tq P tm caps.toList [])
  pure (.clo f (tq P tm first.toList []) cs)
 | .makeSlice t l c=>Xl P dst t (ev P tm o.type l) (ev P tm o.type c)
 | .slice t x lo hi none=>match X.JA.trunc fn dst,lo,hi with
  |true,none,hi=>alL P t (ev P tm t x) (hi.map (ev P tm 3))
  |true,some lo,none=>apU P t (ev P tm t x) (ev P tm 3 lo)
  |_,lo,hi=>ag5 P t (evG X tm t x) (lo.map (ev P tm 3)) (hi.map (ev P tm 3))
 | .fieldAddr T x f=>Xi P T (ev P tm 0 x) f
 | .field T x f=>alH P T (ev P tm T x) f
 | .indexAddr t x i=>Xk P t (evG X tm t x) (ev P tm 3 i)
 | .index t x i=>alI P t (ev P tm t x) (ev P tm 3 i)
 | .extract x i=>match ev P tm 0 x with
  | .zL vs=>op' vs[i]?
  |_=> .fail
 | .call {callee:=.value f,args,argTypes}=>match ev P tm 0 f with
  | .clo g first caps=>Yt X K fn dst g (first++tq P tm args.toList argTypes.toList++caps)
  |_=> .fail
 | .call {callee:=.builtin .len,args,argTypes}=>match tq P tm args.toList argTypes.toList with
  |[x]=>do
   ck (aDi P argTypes.toList x)
   let v<-lenV x
   ab8 x
   pure v
  |_=> .fail
 | .call {callee:=.builtin .append,args,argTypes}=>match tq P tm args.toList argTypes.toList,argTypes.toList with
  |[x,y],[t,t']=>match ab9 x y with
   |true=>alJ P dst t t' x
   |false=>ag4 P dst t t' x y
  |_,_=> .fail
 | .call {callee:=.builtin .max,args,argTypes}=>match tq P tm args.toList argTypes.toList with
  |[.d (.int k x),.d (.int _ y)]=>pure (.d (.int k (bif decide (x<y) then y else x)))
  |_=> .fail
 | .call {callee:=.builtin .min,args,argTypes}=>match tq P tm args.toList argTypes.toList with
  |[.d (.int k x),.d (.int _ y)]=>pure (.d (.int k (bif decide (y<x) then y else x)))
  |_=> .fail
 |_=> .fail
end Go.Vm
namespace Go.Vm
open Go
mutual
def refs:V->List Nat
 | .own r _=>[r]
 | .ptr r _=>[r]
 | .rE r _ _ _=>[r]
 | .clo _ a b=>Md a++Md b
 | .agg cs=>Md cs
 | .zL vs=>Md vs
 | .zK v=>refs v
 |_=>[]
def Md:List V->List Nat
 |[]=>[]
 |v::vs=>refs v++Md vs
end
def acU(m:Mem)(r:Nat):List Nat:=match get r m with
 |some (.box _ cs)=>Md cs
 |some (.nR _ v)=>refs v
 |_=>[]
def JJ(k:Nat):Bool:=Nat.ble lM k && Nat.blt k (2 * lM)
def Yu:List Nat->List Nat->List Nat
 |acc,[]=>acc
 |acc,k::ks=>Yu (bif mem? k acc then acc else acc++[k]) ks
def auK(tm:jS)(m:Mem):List Nat:=
 let l0:=Yu [] (tm.flatMap λx=>refs x.2)
 let l1:=Yu l0 (l0.flatMap (acU m))
 let l2:=Yu l1 (l1.flatMap (acU m))
 (Yu l2 (m.map (·.1))).filter λk=> !(JJ k)
def names:List Nat:=[nat_lit 300000,nat_lit 300001,nat_lit 300002,nat_lit 300003,nat_lit 300004,nat_lit 300005,nat_lit 300006,nat_lit 300007,nat_lit 300008,nat_lit 300009,nat_lit 300010,nat_lit 300011,nat_lit 300012,nat_lit 300013,nat_lit 300014,nat_lit 300015,nat_lit 300016,nat_lit 300017,nat_lit 300018,nat_lit 300019,nat_lit 300020,nat_lit 300021,nat_lit 300022,nat_lit 300023,nat_lit 300024,nat_lit 300025,nat_lit 300026,nat_lit 300027,nat_lit 300028,nat_lit 300029,nat_lit 300030,nat_lit 300031,nat_lit 300032,nat_lit 300033,nat_lit 300034,nat_lit 300035,nat_lit 300036,nat_lit 300037,nat_lit 300038,nat_lit 300039,nat_lit 300040,nat_lit 300041,nat_lit 300042,nat_lit 300043,nat_lit 300044,nat_lit 300045,nat_lit 300046,nat_lit 300047,nat_lit 300048,nat_lit 300049,nat_lit 300050,nat_lit 300051,nat_lit 300052,nat_lit 300053,nat_lit 300054,nat_lit 300055,nat_lit 300056,nat_lit 300057,nat_lit 300058,nat_lit 300059,nat_lit 300060,nat_lit 300061,nat_lit 300062,nat_lit 300063]
def auL:List Nat->List Nat->List (Nat×Nat)
 |n::ns,k::l=>(k,n)::auL ns l
 |_,_=>[]
def ren(L:List (Nat×Nat))(k:Nat):Nat:=match get k L with
 |some j=>j
 |none=>k
mutual
def OB(L:List (Nat×Nat)):V->V
 | .d x=> .d x
 | .nil s=> .nil s
 | .own r ver=> .own (ren L r) ver
 | .ptr r off=> .ptr (ren L r) off
 | .rE r ver i off=> .rE (ren L r) ver i off
 | .rF row off=> .rF row off
 | .zK v=> .zK (OB L v)
 | .clo f a b=> .clo f (U0 L a) (U0 L b)
 | .agg cs=> .agg (U0 L cs)
 | .zL vs=> .zL (U0 L vs)
 | .undef=> .undef
def U0(L:List (Nat×Nat)):List V->List V
 |[]=>[]
 |v::vs=>OB L v::U0 L vs
end
def acV(L:List (Nat×Nat)):Cell->Cell
 | .box t cs=> .box t (U0 L cs)
 | .arr fz fl ver s rows=> .arr fz fl ver s rows
 | .dead=> .dead
 | .D5 ver s rows=> .D5 ver s rows
 | .nR t v=> .nR t (OB L v)
 | .mX ver s rows i off=> .mX ver s rows i off
def PY(L:List (Nat×Nat)):Mem->Mem
 |[]=>[]
 |(k,c)::m=>put (ren L k) (acV L c) (PY L m)
def acW(L:List (Nat×Nat)):jS->jS
 |[]=>[]
 |(t,v)::tm=>(t,OB L v)::acW L tm
def nodupB:List Nat->Bool
 |[]=>true
 |k::l=> !(mem? k l) && nodupB l
def ap0(m:Mem):Bool:=m.all λx=>match x.2 with| .mX ..=>false|_=>true
def Yv(L:List (Nat×Nat))(m:Mem):Bool:=nodupB ((m.map (·.1)).map (ren L)) &&((m.map (·.1)).all λk=>bif JJ k then Nat.beq (ren L k) k else true) && ap0 m
def aha(L:List (Nat×Nat))(S:St):St:=match Yv L S.mem with
 |true=>⟨acW L S.tm,PY L S.mem⟩
 |false=>S
def canon(S:St):St:=match auK S.tm S.mem with
 |[]=>S
 |k::o=>aha (auL names (k::o)) S
end Go.Vm
namespace Go.Vm
open Go
mutual
def TG(m:Mem):V->V
 | .d x=> .d x
 | .nil s=> .nil s
 | .own r ver=>match get r m with
  |some (.arr _ _ fV _ _)=>bif Nat.beq ver fV then .own r 0 else .undef
  |some (.D5 fV _ _)=>bif Nat.beq ver fV then .own r 0 else .undef
  |_=> .undef
 | .ptr r off=>match get r m with
  |some (.box _ _)=> .ptr r off
  |some (.nR _ _)=> .ptr r off
  |_=> .undef
 | .rE r ver i off=>match get r m with
  |some (.arr _ _ fV _ _)=>bif Nat.beq ver fV then .rE r 0 i off else .undef
  |some (.D5 fV _ _)=>bif Nat.beq ver fV then .rE r 0 i off else .undef
  |_=> .undef
 | .rF row off=> .rF row off
 | .zK v=> .zK (TG m v)
 | .clo f a b=> .clo f (WI m a) (WI m b)
 | .agg cs=> .agg (WI m cs)
 | .zL vs=> .zL (WI m vs)
 | .undef=> .undef
def WI(m:Mem):List V->List V
 |[]=>[]
 |v::vs=>TG m v::WI m vs
end
def BP(m:Mem):Cell->Cell
 | .box t cs=> .box t (WI m cs)
 | .arr fz fl _ s rows=> .arr fz fl 0 s rows
 | .dead=> .dead
 | .D5 _ s rows=> .D5 0 s rows
 | .nR t v=> .nR t (TG m v)
 | .mX ver s rows i off=> .mX ver s rows i off
def Xn(m:Mem)(tm:jS):List Nat->jS
 |[]=>[]
 |t::ts=>match get t tm with
  |some v=>(t,TG m v)::Xn m tm ts
  |none=>Xn m tm ts
def Xo:List Nat->List Nat->List Nat
 |[],l=>l
 |a::as,l=>bif mem? a l then Xo as l else Xo as (a::l)
def reach(m:Mem):Nat->List Nat->List Nat
 |0,l=>l
 |n+1,l=>reach m n (Xo (l.flatMap (acU m)) l)
def roots(tm:jS)(m:Mem):List Nat:=
 Xo (tm.flatMap λx=>refs x.2) ((m.map (·.1)).filter JJ)
def nK(all:Mem)(R:List Nat):Mem->Mem
 |[]=>[]
 |(k,c)::m=>match c with
  | .dead=>nK all R m
  | .mX ..=>nK all R m
  |c=>bif mem? k R then(k,BP all c)::nK all R m else nK all R m
def closed(R:List Nat)(m:Mem):Bool:=m.all λx=>match x.2 with
 | .box _ cs=>(Md cs).all λr=>mem? r R
 | .nR _ v=>(refs v).all λr=>mem? r R
 |_=>true
def aDj(m:Mem):Bool:=m.all λx=>match x.2 with
 | .arr _ _ ver _ _=>bif JJ x.1 then Nat.beq ver 0 else true
 | .dead=> !(JJ x.1)
 | .D5 ..=> !(JJ x.1)
 | .mX ..=> !(JJ x.1)
 |_=>true
def sortedK:Mem->Bool
 |[]=>true
 |(k,_)::m=>match m with
  |[]=>true
  |(j,_)::_=>Nat.blt k j && sortedK m
def Xp(ts:List Nat)(S:St):Option St:=
 let tm:=Xn S.mem S.tm ts
 let R:=reach S.mem 3 (roots tm S.mem)
 let m:=nK S.mem R S.mem
 bif closed R m &&(aDj S.mem && sortedK S.mem) then some ⟨tm,m⟩ else none
def prune(ts:List Nat)(S:St):Option St:=match Xp ts S with
 |some S'=>some (canon S')
 |none=>none
def BQ(ops:Array Oper)(tm:jS)(o:Oper):Option (Bool×jS):=
 match o.guard with
 |none=>some (true,tm)
 |some (j,want)=>match ops[j]? with
  |some oj=>match oj.dst with
   |some d=>match Si d tm with
    | .d (.bool b)=>match b with
     |true=>some (want,put d (.d (.bool true)) tm)
     |false=>some (!want,put d (.d (.bool false)) tm)
    | .zL vs=>match vs with
     |[]=>some (false,put d (.zL []) tm)
     |_::_=>none
    |_=>none
   |none=>none
  |none=>none
def Lm(nt:Nat):Option Nat->Bool
 |some d=>Nat.blt d nt
 |none=>true
def F6(P:Program)(fn:Nat):Nat:=match P.funcs[fn]? with|some g=>g.ntmps|none=>0
def aaJ(nt:Nat)(dst:Option Nat)(tm:jS):jS:=bif Lm nt dst then Xh dst (.zL []) tm else auI dst tm
def zI(X:Ctx)(K:jd)(fn:Nat)(ops:Array Oper)(i:Nat)(S:St):Option (St×Log):=
 match ops[i]? with
 |none=>none
 |some o=>match BQ ops S.tm o with
  |none=>none
  |some (false,tm)=>some (⟨aaJ (F6 X.P fn) o.dst tm,S.mem⟩,.none)
  |some (true,tm)=>match(vop X K fn tm o).run S.mem .none with
   |none=>none
   |some (v,m,l)=>bif Lm (F6 X.P fn) o.dst then some (⟨Xh o.dst v tm,m⟩,l) else none
def wG(X:Ctx)(K:jd)(fn:Nat)(ops:Array Oper):List Nat->St->List (Nat×Log)->Option (St×List (Nat×Log))
 |[],S,L=>some (S,L)
 |i::is,S,L=>match zI X K fn ops i S with
  |none=>none
  |some (S',l)=>wG X K fn ops is S' ((i,l)::L)
def auM(a b:List Nat):Bool:=a.all λk=> !(mem? k b)
def Log.apart(a b:Log):Bool:=auM a.w b.r && auM a.w b.w && auM a.r b.w
def ordered(bef:Array Nat)(i j:Nat):Bool:=(bef.getD i 0).testBit j
def U1(ops:Array Oper)(bef:Array Nat):List (Nat×Log)->Bool
 |[]=>true
 |(i,l)::L=>(L.all fun(j,l')=>ordered bef i j||(l.apart l' &&(match ops[i]?,ops[j]? with
   |some a,some b=>a.apart ops b
   |_,_=>false))) && U1 ops bef L
def U2:Nat->List Oper->Bool
 |_,[]=>true
 |i,o::l=>(o.after.toList.all λe=> !(Region.binds .any e)||Nat.blt e.on i) && U2 (i+1) l
def backOk(ops:Array Oper):Bool:=U2 0 ops.toList
def aAl(d:Nat):Operand->Bool
 | .tmp t=> !(Nat.beq t d)
 |_=>true
def ang(args:Array Operand)(d1 d2:Nat):Bool:=match args.toList with
 |[.tmp a,.tmp b]=>Nat.beq a d1 && Nat.beq b d2
 |_=>false
def Yw:List Row×List Cell->Option (IntKind×Int×Bool×Nat×List Row)
 |([[.int k n]],[.arr false fl' 0 s' rs'])=>some (k,n,fl',s',rs')
 |_=>none
def acX(e:Nat)(fl:Bool)(q:IntKind×Int×Bool×Nat×List Row):Bool:=Nat.beq q.2.2.2.1 e &&((fl==q.2.2.1) &&(UH fl q.2.2.2.2 && xK q.2.2.2.2))
def ap1(X:Ctx)(f:Nat):Bool:=Nat.beq (DN X.JA f 0) 2 && Nat.beq (DN X.JA f 1) 0 &&(match X.P.funcs[f]? with
 | some g => g.body.isSome && !(g.name == "runtime.NumGoroutine") && (match g.resultTypes.toList with | [t] => !(H6 X.P t) && (ae9 X.P t).isNone | _ => false)
 |none=>false)
def OC(X:Ctx)(K:jd)(tm:jS)(o1 o2 o3:Oper):Acc (Nat×Nat×V×V):=
 match o1,o2,o3 with
 |⟨some d1,.load t (.tmp ta),_,_,_,none⟩,⟨some d2,.move x,ty2,_,_,none⟩,⟨_,.call ⟨.value (.func f),args,_⟩,_,_,_,none⟩=>do
  ck (!(Nat.beq d1 d2) &&(ang args d1 d2 &&(aAl d1 x &&(zH X.P t &&(Nat.beq (kG X.P t) 1 &&(!(H6 X.P t) && ap1 X f))))))
  let e<-op' (elT X.P t)
  match Si ta tm,ev X.P tm ty2 x with
  | .rE r ver i off,.d (.int k n)=>do
   match<-rd r with
   |some (.arr false false fV s rows)=>do
    ck (Nat.beq ver fV && Nat.ble (off+1) s)
    let row<-op' rows[i]?
    let rs<-op' (acP (kG X.P e) row off)
    ck (UH (qV X.P e) rs)
    let out<-op' (K f [.own lM 0,.d (.int k n)] [.arr false (qV X.P e) 0 (kG X.P e) rs])
    let q<-op' (Yw out)
    ck (acX (kG X.P e) (qV X.P e) q)
    wr r (.arr false false fV s (rows.set i (splice row off [.sl true (kG X.P e) q.2.2.2.2])))
    pure (d1,d2,.d (.int k n),.d (.int q.1 q.2.1))
   |_=> .fail
  |_,_=> .fail
 |_,_,_=> .fail
def F7(X:Ctx)(K:jd)(fn:Nat)(ops:Array Oper)(p:Nat)(S:St):Option St:=
 match ops[p]?,ops[p+1]?,ops[p+2]? with
 |some o1,some o2,some o3=>match(OC X K S.tm o1 o2 o3).run S.mem .none with
  |some ((d1,d2,kv,v),m,_)=>bif Nat.blt d1 (F6 X.P fn) &&(Nat.blt d2 (F6 X.P fn) && Lm (F6 X.P fn) o3.dst) then some ⟨Xh o3.dst v (put d2 kv (put d1 .undef S.tm)),m⟩ else none
  |none=>none
 |_,_,_=>none
def zZ(X:Ctx)(K:jd)(fn id:Nat)(ops:Array Oper)(draw:Bool)(S:St):Option (St×List (Nat×Log)):=
 match X.JA.fuse fn id with
 |0=>wG X K fn ops (List.range ops.size) S []
 |p+1=>match draw with
  |true=>none
  |false=>match wG X K fn ops (List.range p) S [] with
   |some (S1,_)=>match F7 X K fn ops p S1 with
    |some S2=>wG X K fn ops ((List.range ops.size).drop (p+3)) S2 []
    |none=>none
   |none=>none
def region(X:Ctx)(K:jd)(fn id:Nat)(ops:Array Oper)(draw:Bool)(S:St):Option St:=
 match zZ X K fn id ops draw S with
 |none=>none
 |some (S',L)=>bif(match draw with|false=>true|true=>X.P.follows .mixedOrders &&(backOk ops && U1 ops (Region.before ops) L)) then prune (X.JA.keep fn id) S' else none
inductive Ex where
 |normal
 |exit (id:Nat)
 |ret
noncomputable def lim{α:Type}(f:Nat->Option α):Option α:=
 open Classical in if h:∃a n,f n=some a then some (Classical.choose h) else none
def iter(b:St->Option (Ex×St)):Nat->St->Option (Ex×St)
 |0,_=>none
 |n+1,S=>match b S with
  |some (.normal,S')=>iter b n S'
  |r=>r
noncomputable def QJ(b:St->Option (Ex×St))(S:St):Option (Ex×St):=lim λn=>iter b n S
def WJ(P:Program)(tm:jS)(c:Operand):Option Bool:=match ev P tm 0 c with
 | .d (.bool b)=>some b
 |_=>none
noncomputable def den(X:Ctx)(K:jd)(fn:Nat):Code->St->Option (Ex×St)
 | .skip,S=>some (.normal,S)
 | .region id ops draw,S=>match region X K fn id ops draw S with
  |some S'=>some (.normal,S')
  |none=>none
 | .seq a b,S=>match den X K fn a S with
  |some (.normal,S')=>den X K fn b S'
  |r=>r
 | .cond c a b,S=>match WJ X.P S.tm c with
  |some true=>den X K fn a S
  |some false=>den X K fn b S
  |none=>none
 | .block id c,S=>match den X K fn c S with
  |some (.exit j,S')=>bif Nat.beq j id then some (.normal,S') else some (.exit j,S')
  |r=>r
 | .loop c,S=>QJ (den X K fn c) S
 | .exit id,S=>some (.exit id,S)
 | .ret,S=>some (.ret,S)
 |_,_=>none
def alQ(A:Adv)(f i:Nat)(fl:Bool)(v:V):Acc V:=
 match DN A f i with
 |1=>(match v with
  | .d (.sl true s rows)=>do
   new i (.arr false fl 0 s rows)
   pure (.own i 0)
  | .d x=>pure (.d (roD x))
  |_=> .fail)
 |_=>pure v
def Yx(X:Ctx)(f:Nat):Nat->List TypeId->List V->Acc jS
 |_,_,[]=>pure []
 |i,ts,v::vs=>do
  let v<-alQ X.JA f i ((fls X.P 8 (ts.headD 0)).headD false) v
  let r<-Yx X f (i+1) ts.tail vs
  pure ((i,v)::r)
def pV:Nat->List Cell->Mem
 |_,[]=>[]
 |i,c::cs=>(lM+i,c)::pV (i+1) cs
def uy(n:Nat):List Nat:=(List.range n).map (lM+ ·)
def entry(X:Ctx)(f:Nat)(g:Func)(args:List V)(cells:List Cell):Acc jS:=do
 aaI X 9999 cells 0 (uy cells.length)
 Yx X f 0 g.params.toList args
def acY(T:TypeId)(v:V):Acc Row:=match v with
 | .ptr r off=>do
  match<-rd r with
  |some (.box T' cs)=>do
   ck (Nat.beq T T' && Nat.beq off 0)
   wr r .dead
   JH cs
  |_=> .fail
 |_=> .fail
def ahb(P:Program)(tm:jS)(r:ResultVar)(t:TypeId):Acc Row:=
 match r with
 | .tmp x=>match ae9 P t with
  |some T=>acY T (Si x tm)
  |none=>match H6 P t,Si x tm with
   |true,.agg cs=>JH cs
   |false,.agg _=> .fail
   |false,v=>JH [v]
   |true,_=> .fail
 | .cell a T=>match Si a tm with
  | .ptr r 0=>do
   match<-rd r with
   |some (.box _ cs)=>do
    ck (Nat.beq T t && Nat.beq cs.length (kG P T) &&(zH P T &&(H6 P T||Nat.beq cs.length 1)) &&(ae9 P t).isNone)
    JH cs
   |_=> .fail
  |_=> .fail
def VX(P:Program)(tm:jS):List ResultVar->List TypeId->Acc (List Row)
 |[],[]=>pure []
 |r::rs,t::ts=>do
  let row<-ahb P tm r t
  let rows<-VX P tm rs ts
  pure (row::rows)
 |_,_=> .fail
def leave(X:Ctx)(g:Func)(n:Nat)(S:St):Option (List Row×List Cell):=
 match(do
  let rows<-VX X.P S.tm g.results.toList g.resultTypes.toList
  let cells<-UZ X.JA (uy n) (uy n)
  pure (rows,cells):Acc (List Row×List Cell)).run S.mem .none with
 |some (r,_,_)=>some r
 |none=>none
noncomputable def body(X:Ctx)(K:jd)(f:Nat)(args:List V)(cells:List Cell):Option (List Row×List Cell):=
 match X.P.funcs[f]? with
 |some g=>match g.body with
  |some c=>bif !(Nat.ble cells.length lM && Nat.ble args.length g.ntmps) then none else match(entry X f g args cells).run (pV 0 cells) .none with
   |some (tm,m,_)=>(match den X K f c ⟨tm,m⟩ with
    |some (.normal,S)=>leave X g cells.length S
    |some (.ret,S)=>leave X g cells.length S
    |_=>none)
   |none=>none
  |none=>none
 |none=>none
noncomputable def U3(X:Ctx):Nat->jd
 |0,_,_,_=>none
 |n+1,f,args,cells=>match X.Wq f with
  |some p=>p args cells
  |none=>body X (U3 X n) f args cells
noncomputable def call(X:Ctx):jd:=λf args cells=>lim λn=>U3 X n f args cells
end Go.Vm
namespace Go.Vm
open Go
abbrev View:=Nat->Nat->Option Value
abbrev Heap:=Nat->Option Obj
def bH(w:World):Heap:=λb=>w.heap[b]?
mutual
def ro(h:View):D->Value->Prop
 | .int k n,v=>v=.int k n
 | .bool b,v=>v=.bool b
 | .str s,v=>v=.string ⟨⟨s⟩⟩
 | .PW,v=>v=.nilFunc
 | .sl _ s rows,v=>∃a cap,v=.slice a rows.length cap∧rows.length<=cap∧(rows≠[]->∃b o,a=some ⟨b,o,none⟩∧mY h s rows b o)
def mY(h:View)(s:Nat):List Row->Nat->Nat->Prop
 |[],_,_=>True
 |r::rs,b,o=>r.length=s∧uQ h r b o∧mY h s rs b (o+s)
def uQ(h:View):Row->Nat->Nat->Prop
 |[],_,_=>True
 |x::r,b,o=>(∃v,h b o=some v∧ro h x v)∧uQ h r b (o+1)
end
mutual
def ow(H:Heap)(h:View):D->Value->List Nat->Prop
 | .int k n,v,N=>v=.int k n∧N=[]
 | .bool b,v,N=>v=.bool b∧N=[]
 | .str s,v,N=>v=.string ⟨⟨s⟩⟩∧N=[]
 | .PW,v,N=>v=.nilFunc∧N=[]
 | .sl own s rows,v,N=>match own with
  |false=>N=[]∧ro h (.sl false s rows) v
  |true=>(rows=[]∧v=.slice none 0 0∧N=[])∨
   ∃b cap cs t N',v=.slice (some ⟨b,0,none⟩) rows.length cap∧rows.length<=cap∧H b=some (.cells cs t (0,0))∧cs.size=cap * s∧
    eP H h s rows cs.toList N'∧N=b::N'
def eP(H:Heap)(h:View)(s:Nat):List Row->List Value->List Nat->Prop
 |[],_,N=>N=[]
 |r::rs,cs,N=>r.length=s∧∃N1 N2,N=N1++N2∧fU H h r cs N1∧eP H h s rs (cs.drop s) N2
def fU(H:Heap)(h:View):Row->List Value->List Nat->Prop
 |[],_,N=>N=[]
 |x::r,cs,N=>∃v cs' N1 N2,cs=v::cs'∧N=N1++N2∧ow H h x v N1∧fU H h r cs' N2
end
def ig(h:View):Row->List Value->Prop
 |[],_=>True
 |x::r,cs=>∃v cs',cs=v::cs'∧ro h x v∧ig h r cs'
def fE(h:View)(s:Nat):List Row->List Value->Prop
 |[],_=>True
 |r::rs,cs=>r.length=s∧ig h r cs∧fE h s rs (cs.drop s)
def UO(H:Heap)(h:View)(fl:Bool)(s:Nat)(rows:List Row)(v:Value)(N:List Nat):Prop:=
 (rows=[]∧v=.slice none 0 0∧N=[])∨
 ∃b cap cs t N',v=.slice (some ⟨b,0,none⟩) rows.length cap∧rows.length<=cap∧H b=some (.cells cs t (0,0))∧cs.size=cap * s∧
  (match fl with
   |true=>fE h s rows cs.toList∧N'=[]
   |false=>eP H h s rows cs.toList N')∧N=b::N'
def Yy(H:Heap)(h:View)(s:Nat)(rows:List Row)(v:Value)(N:List Nat):Prop:=
 (rows=[]∧v=.slice none 0 0∧N=[])∨
 ∃b o cap cs t,v=.slice (some ⟨b,o,none⟩) rows.length cap∧rows.length<=cap∧H b=some (.cells cs t (0,0))∧o+cap * s<=cs.size∧
  fE h s rows (cs.toList.drop o)∧N=[b]
def Ro(g:Value):Prop:=∃a n c,g=.slice a n c
def ap2(g:Value):Prop:=∃b o,g=.pointer (some ⟨b,o,none⟩)
mutual
def aG(μ:Nat->Value)(m:Mem)(h:View):V->Value->Prop
 | .d x,g=>ro h x g
 | .nil _,g=>g=.slice none 0 0
 | .own r v0,g=>Ro g∧match get r m with
  |some (.arr _ _ ver _ _)=>v0<=ver∧(v0=ver->g=μ r)
  |some .dead=>True
  |some (.D5 ver _ _)=>v0<=ver∧(v0=ver->g=μ r)
  |some (.mX ver _ _ _ _)=>v0<=ver∧(v0=ver->g=μ r)
  |_=>False
 | .ptr r off,g=>ap2 g∧match get r m with
  |some (.box _ _)=>∃b,μ r=.pointer (some ⟨b,0,none⟩)∧g=.pointer (some ⟨b,off,none⟩)
  |some (.nR _ _)=>∃b,μ r=.pointer (some ⟨b,0,none⟩)∧g=.pointer (some ⟨b,off,none⟩)
  |some .dead=>True
  |_=>False
 | .rE r v0 i off,g=>ap2 g∧match get r m with
  |some (.arr _ _ ver s _)=>v0<=ver∧(v0=ver->∃b n cap,μ r=.slice (some ⟨b,0,none⟩) n cap∧g=.pointer (some ⟨b,i * s+off,none⟩))
  |some .dead=>True
  |some (.D5 ver s _)=>v0<=ver∧(v0=ver->∃b o n cap,μ r=.slice (some ⟨b,o,none⟩) n cap∧g=.pointer (some ⟨b,o+(i * s+off),none⟩))
  |some (.mX ver s _ _ _)=>v0<=ver∧(v0=ver->∃b n cap,μ r=.slice (some ⟨b,0,none⟩) n cap∧g=.pointer (some ⟨b,i * s+off,none⟩))
  |_=>False
 | .rF row off,g=>∃b o,g=.pointer (some ⟨b,o+off,none⟩)∧uQ h row b o
 | .zK v,g=>∃b x,g=.pointer (some ⟨b,0,none⟩)∧h b 0=some x∧aG μ m h v x
 | .clo f first caps,g=>∃a c,g=.func (.func f) a c∧bT μ m h first a.toList∧bT μ m h caps c.toList
 | .agg cs,g=>∃a,g=.agg a∧bT μ m h cs a.toList
 | .zL vs,g=>∃a,g=.tuple a∧bT μ m h vs a.toList
 | .undef,_=>True
def bT(μ:Nat->Value)(m:Mem)(h:View):List V->List Value->Prop
 |[],gs=>gs=[]
 |v::vs,gs=>∃g gs',gs=g::gs'∧aG μ m h v g∧bT μ m h vs gs'
end
def hole(H:Heap)(h:View)(s:Nat)(rows:List Row)(row:Row)(i off:Nat)(cs:List Value)(Na Nb:List Nat):Prop:=∀(H':Heap) (h':View) (x:D) (g:Value) (N:List Nat),
 (∀b o v,h b o=some v->h' b o=some v)->(∀b,b∈Na++Nb->H' b=H b)->ow H' h' x g N->eP H' h' s (rows.set i (splice row off [x])) (cs.set (i * s+off) g) (Na++N++Nb)
def afF(μ:Nat->Value)(m:Mem)(r:Nat)(g:Value):Prop:=match get (D7 r) m with
 |some (.arr _ _ 0 _ _)=>μ (D7 r)=g
 |some (.mX 0 _ _ _ _)=>μ (D7 r)=g
 |some _=>True
 |none=>False
def kV(μ:Nat->Value)(m:Mem)(H:Heap)(h:View)(r:Nat):Cell->List Nat->Prop
 | .box t cs,N=>∃b a,μ r=.pointer (some ⟨b,0,none⟩)∧H b=some (.cells a t (0,0))∧bT μ m h cs a.toList∧N=[b]
 | .arr fz fl _ s rows,N=>match fz with
  |true=>ro h (.sl true s rows) (μ r)∧N=[]
  |false=>UO H h fl s rows (μ r) N
 | .dead,N=>N=[]
 | .D5 _ s rows,N=>Yy H h s rows (μ r) N
 | .nR _ v,N=>N=[]∧∃b x,μ r=.pointer (some ⟨b,0,none⟩)∧h b 0=some x∧aG μ m h v x
 | .mX _ s rows i off,N=>∃b cap cs t g row Na Nb,μ r=.slice (some ⟨b,0,none⟩) rows.length cap∧rows.length<=cap∧H b=some (.cells cs t (0,0))∧cs.size=cap * s∧cs.toList[i * s+off]? =some g∧
   rows[i]? =some row∧off<s∧hole H h s rows row i off cs.toList Na Nb∧afF μ m r g∧N=b::(Na++Nb)
open Classical in
noncomputable def view(w:World)(U X:Nat->Prop):View:=λb o=>if U b∧¬X b then w.cell? ⟨b,o,none⟩ else none
def excl(F:Nat->List Nat)(E:List Nat):Nat->Prop:=λb=>b∈E∨∃r,b∈F r
structure Keep(M:List Nat)(w w':World):Prop where
 os:w'.os=w.os
 tape:w'.tape=w.tape
 output:w'.output=w.output
 size:w.heap.size<=w'.heap.size
 block:∀b,b<w.heap.size->b ∉ M->w'.heap[b]? =w.heap[b]?
def Keep.refl(M:List Nat)(w:World):Keep M w w:=⟨rfl,rfl,rfl,Nat.le_refl _,λ_ _ _=>rfl⟩
def Keep.trans{M M':List Nat}{a b c:World}(h:Keep M a b)(k:Keep M' b c)(hM:∀x,x∈M'->x∈M∨a.heap.size<=x):Keep M a c:=
 ⟨k.os.trans h.os,k.tape.trans h.tape,k.output.trans h.output,Nat.le_trans h.size k.size,λi hi hm=>(k.block i (Nat.lt_of_lt_of_le hi h.size) (λhx=>(hM i hx).elim hm (λhl=>absurd hi (Nat.not_lt.2 hl)))).trans (h.block i hi hm)⟩
structure MInv(base:Nat)(U:Nat->Prop)(m:Mem)(w:World)(μ:Nat->Value)(F:Nat->List Nat)(E:List Nat)(out:List Nat):Prop where
 cell:∀r c,get r m=some c->r ∉ out->kV μ m (bH w) (view w U (excl F E)) r c (F r)
 dj:∀r r',r≠r'->∀b,b∈F r->b ∉ F r'
 Ym:∀r b,b∈F r->b ∉ E
 nd:∀r,(F r).Nodup
 ndE:E.Nodup
 lt:∀b,excl F E b->b<w.heap.size∧base<=b∧U b
 up:∀b,w.heap.size<=b->U b
 bs:base<=w.heap.size
 none_:∀r,get r m=none->F r=[]
 out_:∀r,r∈out->F r=[]
def View.le(h h':View):Prop:=∀b o v,h b o=some v->h' b o=some v
def View.le_refl(h:View):h.le h:=λ_ _ _ x=>x
def View.le.trans'{a b c:View}(h:a.le b)(k:b.le c):a.le c:=λx y v q=>k x y v (h x y v q)
mutual
def F8{h h':View}(hl:h.le h'):∀(x:D) (v:Value),ro h x v->ro h' x v
 | .int _ _,_,q=>by simpa[ro] using q
 | .bool _,_,q=>by simpa[ro] using q
 | .str _,_,q=>by simpa[ro] using q
 | .PW,_,q=>by simpa[ro] using q
 | .sl _ s rows,v,q=>by simp only[ro] at q⊢;obtain⟨a,cap,h1,h2,h3⟩:=q;refine⟨a,cap,h1,h2,λhn=> ?_⟩;obtain⟨b,o,h4,h5⟩:=h3 hn;exact⟨b,o,h4,aaK hl s rows b o h5⟩
def aaK{h h':View}(hl:h.le h')(s:Nat):∀(rows:List Row) (b o:Nat),mY h s rows b o->mY h' s rows b o
 |[],_,_,_=>by simp[mY]
 |r::rs,b,o,q=>by simp only[mY] at q⊢;exact⟨q.1,LC hl r b o q.2.1,aaK hl s rs b (o+s) q.2.2⟩
def LC{h h':View}(hl:h.le h'):∀(r:Row) (b o:Nat),uQ h r b o->uQ h' r b o
 |[],_,_,_=>by simp[uQ]
 |x::r,b,o,q=>by simp only[uQ] at q⊢;obtain⟨⟨v,h1,h2⟩,h3⟩:=q;exact⟨⟨v,hl _ _ _ h1,F8 hl x v h2⟩,LC hl r b (o+1) h3⟩
end
mutual
def ace{H H':Heap}{h h':View}(hl:h.le h'):∀(x:D) (v:Value) (N:List Nat),(∀b,b∈N->H' b=H b)->ow H h x v N->ow H' h' x v N
 | .int _ _,_,_,_,q=>by simpa[ow] using q
 | .bool _,_,_,_,q=>by simpa[ow] using q
 | .str _,_,_,_,q=>by simpa[ow] using q
 | .PW,_,_,_,q=>by simpa[ow] using q
 | .sl false s rows,v,N,_,q=>by simp only[ow] at q⊢;exact⟨q.1,F8 hl _ _ q.2⟩
 | .sl true s rows,v,N,hb,q=>by
  simp only[ow] at q⊢;rcases q with q|⟨b,cap,cs,t,N',h1,h2,h3,h4,h5,rfl⟩
  ·exact .inl q
  ·exact .inr ⟨b,cap,cs,t,N',h1,h2,by rw[hb b (by simp)];exact h3,h4,tu hl s rows cs.toList N' (λb' hb'=>hb b' (by simp[hb'])) h5,rfl⟩
def tu{H H':Heap}{h h':View}(hl:h.le h')(s:Nat):∀(rows:List Row) (cs:List Value) (N:List Nat),(∀b,b∈N->H' b=H b)->eP H h s rows cs N->eP H' h' s rows cs N
 |[],_,_,_,q=>by simpa[eP] using q
 |r::rs,cs,N,hb,q=>by simp only[eP] at q⊢;obtain⟨h1,N1,N2,rfl,h2,h3⟩:=q;exact⟨h1,N1,N2,rfl,y7 hl r cs N1 (λb hx=>hb b (by simp[hx])) h2,tu hl s rs _ N2 (λb hx=>hb b (by simp[hx])) h3⟩
def y7{H H':Heap}{h h':View}(hl:h.le h'):∀(r:Row) (cs:List Value) (N:List Nat),(∀b,b∈N->H' b=H b)->fU H h r cs N->fU H' h' r cs N
 |[],_,_,_,q=>by simpa[fU] using q
 |x::r,cs,N,hb,q=>by simp only[fU] at q⊢;obtain⟨v,cs',N1,N2,rfl,rfl,h2,h3⟩:=q;exact⟨v,cs',N1,N2,rfl,rfl,ace hl x v N1 (λb hx=>hb b (by simp[hx])) h2,y7 hl r cs' N2 (λb hx=>hb b (by simp[hx])) h3⟩
end
def Yz{h h':View}(hl:h.le h'):∀(r:Row) (cs:List Value),ig h r cs->ig h' r cs
 |[],_,_=>trivial
 |x::r,cs,⟨v,cs',h1,h2,h3⟩=>⟨v,cs',h1,F8 hl x v h2,Yz hl r cs' h3⟩
def mV{h h':View}(hl:h.le h')(s:Nat):∀(rows:List Row) (cs:List Value),fE h s rows cs->fE h' s rows cs
 |[],_,_=>trivial
 |r::rs,cs,⟨h1,h2,h3⟩=>⟨h1,Yz hl r cs h2,mV hl s rs _ h3⟩
def F9{H H':Heap}{h h':View}(hl:h.le h'){fl:Bool}{s:Nat}{rows:List Row}{v:Value}{N:List Nat}(hb:∀b,b∈N->H' b=H b)(q:UO H h fl s rows v N):UO H' h' fl s rows v N:=by
 rcases q with q|⟨b,cap,cs,t,N',h1,h2,h3,h4,h5,rfl⟩
 ·exact .inl q
 ·refine .inr ⟨b,cap,cs,t,N',h1,h2,by rw[hb b (by simp)];exact h3,h4, ?_,rfl⟩;cases fl with
  |true=>exact⟨mV hl s rows _ h5.1,h5.2⟩
  |false=>exact tu hl s rows _ N' (λb' hb'=>hb b' (by simp[hb'])) h5
def ZE{H H':Heap}{h h':View}(hl:h.le h'){s:Nat}{rows:List Row}{v:Value}{N:List Nat}(hb:∀b,b∈N->H' b=H b)(q:Yy H h s rows v N):Yy H' h' s rows v N:=by
 rcases q with q|⟨b,o,cap,cs,t,h1,h2,h3,h4,h5,rfl⟩
 ·exact .inl q
 ·exact .inr ⟨b,o,cap,cs,t,h1,h2,by rw[hb b (by simp)];exact h3,h4,mV hl s rows _ h5,rfl⟩
def vG(μ μ':Nat->Value)(r:Nat):Cell->Cell->Prop
 | .box t _,.box t' _=>t'=t∧μ' r=μ r
 | .arr _ fl ver s _,.arr _ fl' fV s' _=>ver<=fV∧fl'=fl∧(ver=fV->μ' r=μ r∧s'=s)
 |_,.dead=>True
 | .arr _ _ ver _ _,.D5 fV _ _=>ver<fV
 | .D5 ver s _,.D5 fV s' _=>ver<=fV∧(ver=fV->μ' r=μ r∧s'=s)
 | .box _ _,.nR _ _=>μ' r=μ r
 | .nR _ _,.nR _ _=>μ' r=μ r
 | .arr _ fl ver s _,.mX fV s' _ _ _=>fl=false∧ver<=fV∧(ver=fV->μ' r=μ r∧s'=s)
 | .mX ver s _ _ _,.arr _ fl fV s' _=>fl=false∧ver<=fV∧(ver=fV->μ' r=μ r∧s'=s)
 | .mX ver s _ _ _,.mX fV s' _ _ _=>ver<=fV∧(ver=fV->μ' r=μ r∧s'=s)
 | .mX ver _ _ _ _,.D5 fV _ _=>ver<fV
 |_,_=>False
def zJ(μ:Nat->Value)(m:Mem)(μ':Nat->Value)(m':Mem):Prop:=∀r c,get r m=some c->∃c',get r m'=some c'∧vG μ μ' r c c'
def aaL(μ:Nat->Value)(r:Nat)(c:Cell):vG μ μ r c c:=by cases c<;>simp[vG]
def pW(μ:Nat->Value)(m:Mem):zJ μ m μ m:=λr c h=>⟨c,h,aaL μ r c⟩
def ahc{μ1 μ2 μ3:Nat->Value}{r:Nat}{c c' c'':Cell}(h:vG μ1 μ2 r c c')(k:vG μ2 μ3 r c' c''):vG μ1 μ3 r c c'':=by
 have key:∀{a b d s s' s'':Nat},a<=b->(a=b->μ2 r=μ1 r∧s'=s)->b<=d->(b=d->μ3 r=μ2 r∧s''=s')->a<=d∧(a=d->μ3 r=μ1 r∧s''=s):=by intro a b d s s' s'' h1 h2 h3 h4;refine⟨au,λe=> ?_⟩;have e1:a=b:=au;have e2:b=d:=au;exact⟨(h4 e2).1.trans (h2 e1).1,(h4 e2).2.trans (h2 e1).2⟩
 cases c<;>cases c'<;>cases c''<;>simp only[vG] at h k⊢
 all_goals first
  |trivial
  |exact⟨k.1.trans h.1,k.2.trans h.2⟩
  |exact k.trans h
  |exact k.trans h.2
  |omega
  |exact key h.1 h.2 k.1 k.2
  |exact⟨(key h.1 h.2.2 k.1 k.2.2).1,k.2.1.trans h.2.1,(key h.1 h.2.2 k.1 k.2.2).2⟩
  |exact⟨h.2.1.symm.trans k.1,key h.1 h.2.2 k.2.1 k.2.2⟩
  |exact⟨(key h.1 h.2.2 k.2.1 k.2.2).1,(key h.1 h.2.2 k.2.1 k.2.2).2⟩
  |exact⟨h.1,key h.2.1 h.2.2 k.1 k.2⟩
  |exact⟨k.1,key h.1 h.2 k.2.1 k.2.2⟩
  |exact⟨k.2.1.trans h.1,key h.2.1 h.2.2 k.1 k.2.2⟩
  |exact⟨(key h.2.1 h.2.2 k.2.1 k.2.2).1,k.1.trans h.1.symm,(key h.2.1 h.2.2 k.2.1 k.2.2).2⟩
  |exact key h.2.1 h.2.2 k.2.1 k.2.2
def tH{μ1 μ2 μ3:Nat->Value}{m1 m2 m3:Mem}(h:zJ μ1 m1 μ2 m2)(k:zJ μ2 m2 μ3 m3):zJ μ1 m1 μ3 m3:=by intro r c hc;obtain⟨c',h1,h2⟩:=h r c hc;obtain⟨c'',k1,k2⟩:=k r c' h1;exact⟨c'',k1,ahc h2 k2⟩
mutual
def xq{μ μ':Nat->Value}{m m':Mem}{h h':View}(hm:zJ μ m μ' m')(hl:h.le h'):∀(v:V) (g:Value),aG μ m h v g->aG μ' m' h' v g
 | .d x,g,q=>by simp only[aG] at q⊢;exact F8 hl x g q
 | .nil _,_,q=>by simpa[aG] using q
 | .own r v0,g,q=>by
  simp only[aG] at q⊢;refine⟨q.1, ?_⟩;replace q:=q.2;cases hc:get r m with
  |none=>simp[hc] at q
  |some c=>
   obtain⟨c',h1,h2⟩:=hm r c hc;rw[h1];rw[hc] at q;cases c<;>cases c'<;>simp only[vG] at h2<;>first
    |trivial
    |exact q.elim
    |exact⟨au,λe=>by omega⟩
    |exact⟨au,λe=>by rw[(h2.2 au).1];exact q.2 au⟩
    |exact⟨au,λe=>by rw[(h2.2.2 au).1];exact q.2 au⟩
 | .ptr r off,g,q=>by
  simp only[aG] at q⊢;refine⟨q.1, ?_⟩;replace q:=q.2;cases hc:get r m with
  |none=>simp[hc] at q
  |some c=>obtain⟨c',h1,h2⟩:=hm r c hc;rw[h1];cases c<;>cases c'<;>simp_all [vG]
 | .rE r v0 i off,g,q=>by
  simp only[aG] at q⊢;refine⟨q.1, ?_⟩;replace q:=q.2;cases hc:get r m with
  |none=>simp[hc] at q
  |some c=>
   obtain⟨c',h1,h2⟩:=hm r c hc;rw[h1];rw[hc] at q;cases c<;>cases c'<;>simp only[vG] at h2<;>first
    |trivial
    |exact q.elim
    |exact⟨au,λe=>by omega⟩
    |exact⟨au,λe=>by rw[(h2.2 au).1,(h2.2 au).2];exact q.2 au⟩
    |exact⟨au,λe=>by rw[(h2.2.2 au).1,(h2.2.2 au).2];exact q.2 au⟩
 | .rF row off,g,q=>by simp only[aG] at q⊢;obtain⟨b,o,h1,h2⟩:=q;exact⟨b,o,h1,LC hl row b o h2⟩
 | .zK v,g,q=>by simp only[aG] at q⊢;obtain⟨b,x,h1,h2,h3⟩:=q;exact⟨b,x,h1,hl _ _ _ h2,xq hm hl v x h3⟩
 | .clo f first caps,g,q=>by simp only[aG] at q⊢;obtain⟨a,c,h1,h2,h3⟩:=q;exact⟨a,c,h1,pX hm hl first _ h2,pX hm hl caps _ h3⟩
 | .agg cs,g,q=>by simp only[aG] at q⊢;obtain⟨a,h1,h2⟩:=q;exact⟨a,h1,pX hm hl cs _ h2⟩
 | .zL vs,g,q=>by simp only[aG] at q⊢;obtain⟨a,h1,h2⟩:=q;exact⟨a,h1,pX hm hl vs _ h2⟩
 | .undef,_,_=>by simp[aG]
def pX{μ μ':Nat->Value}{m m':Mem}{h h':View}(hm:zJ μ m μ' m')(hl:h.le h'):∀(vs:List V) (gs:List Value),bT μ m h vs gs->bT μ' m' h' vs gs
 |[],_,q=>by simpa[bT] using q
 |v::vs,gs,q=>by simp only[bT] at q⊢;obtain⟨g,gs',h1,h2,h3⟩:=q;exact⟨g,gs',h1,xq hm hl v g h2,pX hm hl vs gs' h3⟩
end
def afG{H H':Heap}{h h':View}(hl:h.le h'){s:Nat}{rows:List Row}{row:Row}{i off:Nat}{cs:List Value}{Na Nb:List Nat}(hb:∀b,b∈Na++Nb->H' b=H b)(q:hole H h s rows row i off cs Na Nb):hole H' h' s rows row i off cs Na Nb:=
 λH'' h'' x g N h1 h2 h3=>q H'' h'' x g N (hl.trans' h1) (λb hb'=>(h2 b hb').trans (hb b hb')) h3
def alR{μ μ':Nat->Value}{m m':Mem}(hm:zJ μ m μ' m'){r:Nat}{g:Value}(q:afF μ m r g):afF μ' m' r g:=by
 unfold afF at q⊢;cases hc:get (D7 r) m with
 |none=>simp[hc] at q
 |some c=>
  obtain⟨c',h1,h2⟩:=hm _ c hc;rw[hc] at q;rw[h1];have key:∀fV,fV<=0->(match fV with|0=>μ (D7 r)=g|_=>True)->μ (D7 r)=g:=λfV e=>by have e:fV=0:=au;subst e;exact id
  cases c' with
  |arr fz fl ver s rows=>
   cases ver with
   |succ n=>trivial
   |zero=>
    cases c<;>simp only[vG] at h2
    ·obtain rfl:=Nat.le_zero.1 h2.1;exact(h2.2.2 rfl).1.trans q
    ·obtain rfl:=Nat.le_zero.1 h2.2.1;exact(h2.2.2 rfl).1.trans q
  |mX ver s rows i off=>
   cases ver with
   |succ n=>trivial
   |zero=>
    cases c<;>simp only[vG] at h2
    ·obtain rfl:=Nat.le_zero.1 h2.2.1;exact(h2.2.2 rfl).1.trans q
    ·obtain rfl:=Nat.le_zero.1 h2.1;exact(h2.2 rfl).1.trans q
  |_=>trivial
def Gf{μ μ':Nat->Value}{m m':Mem}{H H':Heap}{h h':View}(hm:zJ μ m μ' m')(hl:h.le h'){r:Nat}(hr:μ' r=μ r){c:Cell}{N:List Nat}(hb:∀b,b∈N->H' b=H b)
  (q:kV μ m H h r c N):kV μ' m' H' h' r c N:=by
 cases c with
 |box t cs=>obtain⟨b,a,h1,h2,h3,rfl⟩:=q;exact⟨b,a,by rw[hr];exact h1,by rw[hb b (by simp)];exact h2,pX hm hl cs _ h3,rfl⟩
 |arr fz fl ver s rows=>
  cases fz with
  |true=>exact⟨by rw[hr];exact F8 hl _ _ q.1,q.2⟩
  |false=>simp only[kV] at q⊢;rw[hr];exact F9 hl hb q
 |dead=>exact q
 |D5 ver s rows=>simp only[kV] at q⊢;rw[hr];exact ZE hl hb q
 |nR t v=>obtain⟨h1,b,x,h2,h3,h4⟩:=q;exact⟨h1,b,x,by rw[hr];exact h2,hl _ _ _ h3,xq hm hl v x h4⟩
 |mX ver s rows i off=>obtain⟨b,cap,cs,t,g,row,Na,Nb,h1,h2,h3,h4,h5,h6,h7,h8,h9,rfl⟩:=q;exact⟨b,cap,cs,t,g,row,Na,Nb,by rw[hr];exact h1,h2,by rw[hb b (by simp)];exact h3,h4,h5,h6,h7,afG hl (λb' hb'=>hb b' (by simp only[List.mem_cons];exact .inr hb')) h8,alR hm h9,rfl⟩
def rG{k j:Nat}(h:k≠j):Nat.beq k j=false:=by
 cases hb:Nat.beq k j with
 |false=>rfl
 |true=>exact absurd (qU hb) h
def eU{α:Type}(k:Nat)(x:α):∀l:List (Nat×α),get k (put k x l)=some x
 |[]=>by simp[put,get]
 |(j,y)::l=>by
  simp only[put]
  by_cases h:k=j
  ·subst h;simp[get]
  ·have hb:Nat.beq k j=false:=rG h;rw[hb];cases hl:Nat.blt k j with
   |true=>simp[get]
   |false=>simp[get,hb,eU k x l]
def iQ{α:Type}{k k':Nat}(hk:k≠k')(x:α):∀l:List (Nat×α),get k (put k' x l)=get k l
 |[]=>by have hb:Nat.beq k k'=false:=rG hk;simp[put,get,hb]
 |(j,y)::l=>by
  have hb:Nat.beq k k'=false:=rG hk;simp only[put]
  by_cases h:k'=j
  ·subst h;simp[get,hb]
  ·have hb':Nat.beq k' j=false:=rG h;rw[hb'];cases hl:Nat.blt k' j with
   |true=>simp[get,hb]
   |false=>simp[get,iQ hk x l]
def JK{α:Type}(k:Nat):∀l:List (Nat×α),get k (del k l)=none
 |[]=>rfl
 |(j,y)::l=>by
  simp only[del];cases hb:Nat.beq k j with
  |true=>simpa using JK k l
  |false=>simp[get,hb,JK k l]
def Me{α:Type}{k k':Nat}(hk:k≠k'):∀l:List (Nat×α),get k (del k' l)=get k l
 |[]=>rfl
 |(j,y)::l=>by
  simp only[del];cases hb:Nat.beq k' j with
  |true=>have:k'=j:=qU hb;subst this;have hb:Nat.beq k k'=false:=rG hk;simp[get,hb,Me hk l]
  |false=>simp[get,Me hk l]
def get_put{α:Type}(k k':Nat)(x:α)(l:List (Nat×α)):get k (put k' x l)=if k=k' then some x else get k l:=by
 by_cases h:k=k'
 ·subst h;rw[eU,if_pos rfl]
 ·rw[iQ h,if_neg h]
def auN{α:Type}(k k':Nat)(l:List (Nat×α)):get k (del k' l)=if k=k' then none else get k l:=by
 by_cases h:k=k'
 ·subst h;rw[JK,if_pos rfl]
 ·rw[Me h,if_neg h]
def Acc.run_bind{α β:Type}(a:Acc α)(f:α->Acc β):∀(m:Mem) (l:Log),(a.bind f).run m l=match a.run m l with|some (x,m',l')=>(f x).run m' l'|none=>none:=by
 induction a with
 |ret a=>intro m l;rfl
 |fail=>intro m l;rfl
 |get k c ih=>intro m l;simp only[Acc.bind,Acc.run];exact ih _ _ _
 |set k x c ih=>intro m l;simp only[Acc.bind,Acc.run];exact ih _ _
 |opt o c ih=>intro m l;simp only[Acc.bind,Acc.run];cases o with|none=>rfl|some b=>exact ih b _ _
 |guard b c ih=>intro m l;simp only[Acc.bind,Acc.run];cases b with|true=>exact ih _ _|false=>rfl
def run_bind{α β:Type}(a:Acc α)(f:α->Acc β)(m:Mem)(l:Log):(a>>=f).run m l=match a.run m l with|some (x,m',l')=>(f x).run m' l'|none=>none:=Acc.run_bind a f m l
def aj{α β:Type}{a:Acc α}{f:α->Acc β}{m:Mem}{l:Log}{y:β}{m':Mem}{l':Log}(h:(a>>=f).run m l=some (y,m',l')):
  ∃x m1 l1,a.run m l=some (x,m1,l1)∧(f x).run m1 l1=some (y,m',l'):=by
 rw[run_bind] at h;cases ha:a.run m l with
 |none=>simp[ha] at h
 |some x=>obtain⟨x,m1,l1⟩:=x;rw[ha] at h;exact⟨x,m1,l1,rfl,h⟩
def run_pure{α:Type}(a:α)(m:Mem)(l:Log):(Pure.pure a:Acc α).run m l=some (a,m,l):=rfl
def oI(k:Nat)(m:Mem)(l:Log):(rd k).run m l=some (get k m,m,l.rd k):=rfl
def uK(k:Nat)(c:Cell)(m:Mem)(l:Log):(wr k c).run m l=some ((),put k c m,l.wr k):=rfl
def cu{b:Bool}{m:Mem}{l:Log}{x:Unit}{m':Mem}{l':Log}(h:(ck b).run m l=some (x,m',l')):b=true∧m'=m∧l'=l:=by cases b<;>simp[ck,Acc.run] at h;exact⟨rfl,h.1.symm,h.2.symm⟩
def eF{β:Type}{o:Option β}{m:Mem}{l:Log}{x:β}{m':Mem}{l':Log}(h:(op' o).run m l=some (x,m',l')):o=some x∧m'=m∧l'=l:=by cases o<;>simp[op',Acc.run] at h;obtain⟨rfl,rfl,rfl⟩:=h;exact⟨rfl,rfl,rfl⟩
def ak{α:Type}{m:Mem}{l:Log}{r:α×Mem×Log}(h:(Acc.fail:Acc α).run m l=some r):False:=by simp[Acc.run] at h
structure YA(X:Ctx)(h:View):Prop where
 row:∀g row,X.glob g=some row->uQ h row g 0
 int:∀g,X.aMx g=true->∃n,h g 0=some (.int .i64 n)
def EZ{X:Ctx}{h h':View}(hl:h.le h')(q:YA X h):YA X h':=⟨λg row hg=>LC hl row g 0 (q.row g row hg),λg hg=>by obtain⟨n,hn⟩:=q.int g hg;exact⟨n,hl _ _ _ hn⟩⟩
def alS(X:Ctx)(w:World):Prop:=∀g,X.aAh g=true->∃x row cs T fr,X.glob g=some (x::row)∧w.heap[g]? =some (.cells cs T fr)∧cs.size=row.length+1
def acZ{h:View}:∀(row:Row) (b o:Nat),uQ h row b o->mY h 1 (row.map λx=>[x]) b o
 |[],_,_,_=>trivial
 |x::r,b,o,⟨h1,h2⟩=>⟨rfl,⟨h1,trivial⟩,acZ r b (o+1) h2⟩
end Go.Vm
namespace Go.Vm
open Go
def Ld(F:Nat->List Nat)(r:Nat)(N:List Nat):Nat->List Nat:=λk=>if k=r then N else F k
def YB(μ:Nat->Value)(r:Nat)(g:Value):Nat->Value:=λk=>if k=r then g else μ k
@[simp] theorem qW(F:Nat->List Nat)(r:Nat)(N:List Nat):Ld F r N r=N:=by simp[Ld]
def fP{F:Nat->List Nat}{r k:Nat}(N:List Nat)(h:k≠r):Ld F r N k=F k:=by simp[Ld,h]
@[simp] theorem wH(μ:Nat->Value)(r:Nat)(g:Value):YB μ r g r=g:=by simp[YB]
def Du{μ:Nat->Value}{r k:Nat}(g:Value)(h:k≠r):YB μ r g k=μ k:=by simp[YB,h]
def full(w:World):View:=λb o=>w.cell? ⟨b,o,none⟩
def rY(w:World)(U X:Nat->Prop):(view w U X).le (full w):=by
 intro b o v h;unfold view at h;split at h
 ·exact h
 ·cases h
def MB{w:World}{U U' X X':Nat->Prop}(hU:∀b,U b->U' b)(h:∀b,X' b->X b):(view w U X).le (view w U' X'):=by
 intro b o v hv;unfold view at hv⊢;split at hv
 ·rename_i hc;rw[if_pos ⟨hU b hc.1,λhx=>hc.2 (h b hx)⟩];exact hv
 ·cases hv
structure GS where
 μ:Nat->Value
 F:Nat->List Nat
 E:List Nat
 out:List Nat
section
variable (base:Nat) (U:Nat->Prop) (w:World)
def Bg(m:Mem)(G:GS):Prop:=MInv base U m w G.μ G.F G.E G.out
noncomputable def Gh(G:GS):View:=view w U (excl G.F G.E)
end
structure UQ(m:Mem)(G:GS)(m':Mem)(G':GS):Prop where
 mem:zJ G.μ m G'.μ m'
 ex:∀b,excl G'.F G'.E b->excl G.F G.E b
def UQ.refl(m:Mem)(G:GS):UQ m G m G:=⟨pW _ _,λ_ h=>h⟩
def UQ.trans{m1 m2 m3:Mem}{G1 G2 G3:GS}(h:UQ m1 G1 m2 G2)(k:UQ m2 G2 m3 G3):UQ m1 G1 m3 G3:=
 ⟨tH h.mem k.mem,λb hb=>h.ex b (k.ex b hb)⟩
def UQ.view{U:Nat->Prop}{w:World}{m m':Mem}{G G':GS}(h:UQ m G m' G'):(Gh U w G).le (Gh U w G'):=MB (λ_ x=>x) h.ex
def UQ.aG{U:Nat->Prop}{w:World}{m m':Mem}{G G':GS}(h:UQ m G m' G'){v:V}{g:Value}(q:aG G.μ m (Gh U w G) v g):aG G'.μ m' (Gh U w G') v g:=
 xq h.mem h.view v g q
def UQ.bT{U:Nat->Prop}{w:World}{m m':Mem}{G G':GS}(h:UQ m G m' G'){v:List V}{g:List Value}(q:bT G.μ m (Gh U w G) v g):bT G'.μ m' (Gh U w G') v g:=
 pX h.mem h.view v g q
section
variable {base:Nat} {U:Nat->Prop} {w:World} {m:Mem} {G:GS}
def Bg.set(hg:Bg base U w m G)(r:Nat)(c':Cell)(μ':Nat->Value)(N E' out':List Nat)
  (hs:(N++E').Nodup) (hsub:∀b,b∈N++E'->b∈G.F r∨b∈G.E) (hle:zJ G.μ m μ' (put r c' m)) (hμ:∀k,k≠r->μ' k=G.μ k)
  (ho:∀k,k≠r->(k∈out'↔k∈G.out)) (hr:r∈out'->N=[])
  (hc:(view w U (excl G.F G.E)).le (view w U (excl (Ld G.F r N) E'))->r ∉ out'->kV μ' (put r c' m) (bH w) (view w U (excl (Ld G.F r N) E')) r c' N):
  Bg base U w (put r c' m) ⟨μ',Ld G.F r N,E',out'⟩∧UQ m G (put r c' m) ⟨μ',Ld G.F r N,E',out'⟩:=by
 have hex:∀b,excl (Ld G.F r N) E' b->excl G.F G.E b:=by
  rintro b (hb|⟨k,hb⟩)
  ·rcases hsub b (by simp[hb]) with h|h
   ·exact .inr ⟨r,h⟩
   ·exact .inl h
  ·by_cases hk:k=r
   ·subst hk;rw[qW] at hb;rcases hsub b (by simp[hb]) with h|h
    ·exact .inr ⟨_,h⟩
    ·exact .inl h
   ·rw[fP N hk] at hb;exact .inr ⟨k,hb⟩
 have hv:(view w U (excl G.F G.E)).le (view w U (excl (Ld G.F r N) E')):=MB (λ_ x=>x) hex;have hN:=List.nodup_append.1 hs;refine⟨show MInv base U (put r c' m) w μ' (Ld G.F r N) E' out' from ?_,⟨hle,hex⟩⟩;refine⟨?_, ?_, ?_, ?_,hN.2.1,λb hb=>hg.lt b (hex b hb),hg.up,hg.bs, ?_, ?_⟩
 ·intro k c hk hko;rw[get_put] at hk
  by_cases e:k=r
  ·subst e;rw[if_pos rfl] at hk;cases hk;rw[qW];exact hc hv hko
  ·rw[if_neg e] at hk;rw[fP N e];exact Gf hle hv (hμ k e) (λb _=>rfl) (hg.cell k c hk (λh=>hko ((ho k e).2 h)))
 ·intro k k' hne b hb hb'
  by_cases e:k=r
  ·subst e;rw[qW] at hb;rw[fP N (Ne.symm hne)] at hb';rcases hsub b (by simp[hb]) with h|h
   ·exact hg.dj _ _ hne b h hb'
   ·exact hg.Ym _ b hb' h
  ·rw[fP N e] at hb
   by_cases e':k'=r
   ·subst e';rw[qW] at hb';rcases hsub b (by simp[hb']) with h|h
    ·exact hg.dj _ _ hne b hb h
    ·exact hg.Ym _ b hb h
   ·rw[fP N e'] at hb';exact hg.dj _ _ hne b hb hb'
 ·intro k b hb hE
  by_cases e:k=r
  ·subst e;rw[qW] at hb;exact hN.2.2 b hb b hE rfl
  ·rw[fP N e] at hb;rcases hsub b (by simp[hE]) with h|h
   ·exact hg.dj _ _ e b hb h
   ·exact hg.Ym _ b hb h
 ·intro k
  by_cases e:k=r
  ·subst e;rw[qW];exact hN.1
  ·rw[fP N e];exact hg.nd k
 ·intro k hk;rw[get_put] at hk
  by_cases e:k=r
  ·rw[if_pos e] at hk;cases hk
  ·rw[if_neg e] at hk;rw[fP N e];exact hg.none_ k hk
 ·intro k hk
  by_cases e:k=r
  ·subst e;rw[qW];exact hr hk
  ·rw[fP N e];exact hg.out_ k ((ho k e).1 hk)
def Bg.less(hg:Bg base U w m G)(E':List Nat)(hn:E'.Nodup)(hs:∀b,b∈E'->b∈G.E):
  Bg base U w m {G with E:=E'}∧UQ m G m {G with E:=E'}:=by
 have hex:∀b,excl G.F E' b->excl G.F G.E b:=by
  rintro b (hb|hb)
  ·exact .inl (hs b hb)
  ·exact .inr hb
 have hv:(view w U (excl G.F G.E)).le (view w U (excl G.F E')):=MB (λ_ x=>x) hex;refine⟨⟨?_,hg.dj,λr b hb hE=>hg.Ym r b hb (hs b hE),hg.nd,hn,λb hb=>hg.lt b (hex b hb),hg.up,hg.bs,hg.none_,hg.out_⟩,⟨pW _ _,hex⟩⟩;intro r c hc ho;exact Gf (pW _ _) hv rfl (λ_ _=>rfl) (hg.cell r c hc ho)
def xu{μ μ':Nat->Value}{r:Nat}{c':Cell}(hμ:∀k,k≠r->μ' k=μ k)(h:∀c,get r m=some c->vG μ μ' r c c'):zJ μ m μ' (put r c' m):=by
 intro k c hk
 by_cases e:k=r
 ·subst e;exact⟨c',eU _ _ _,h c hk⟩
 ·refine⟨c,by rw[iQ e];exact hk, ?_⟩;cases c<;>simp[vG,hμ k e]
def full_cell{b:Nat}{cs:Array Value}{t:TypeId}{fr:Nat×Nat}(h:bH w b=some (.cells cs t fr))(o:Nat):full w b o=cs.toList[o]? :=by simp only[full,World.cell?];unfold bH at h;simp[h]
end
def Xq{h:View}{b:Nat}:∀(r:Row) (o:Nat) (cs:List Value),(∀j v,cs[j]? =some v->h b (o+j)=some v)->ig h r cs->uQ h r b o
 |[],_,_,_,_=>by simp[uQ]
 |x::r,o,cs,hc,⟨v,cs',e,h1,h2⟩=>by subst e;simp only[uQ];refine⟨⟨v,hc 0 v rfl,h1⟩,Xq r (o+1) cs' (λj u hj=> ?_) h2⟩;have:=hc (j+1) u (by simpa using hj);rw[show o+1+j=o+(j+1) from by omega];exact this
def QK{h:View}{b s:Nat}:∀(rs:List Row) (o:Nat) (cs:List Value),(∀j v,cs[j]? =some v->h b (o+j)=some v)->fE h s rs cs->mY h s rs b o
 |[],_,_,_,_=>by simp[mY]
 |r::rs,o,cs,hc,⟨h1,h2,h3⟩=>by simp only[mY];refine⟨h1,Xq r o cs hc h2,QK rs (o+s) (cs.drop s) (λj u hj=> ?_) h3⟩;rw[List.getElem?_drop] at hj;rw[show o+s+j=o+(s+j) from by omega];exact hc _ _ hj
def Xr(h:View)(H:Heap)(N:List Nat):Prop:=∀b,b∈N->∀cs t fr,H b=some (.cells cs t fr)->∀(o:Nat) v,cs.toList[o]? =some v->h b o=some v
def Xr.sub{h:View}{H:Heap}{N N':List Nat}(q:Xr h H N)(hs:∀b,b∈N'->b∈N):Xr h H N':=λb hb=>q b (hs b hb)
mutual
def ay2{H:Heap}{h h':View}(hl:h.le h'):∀(x:D) (v:Value) (N:List Nat),Xr h' H N->ow H h x v N->ro h' x v
 | .int _ _,_,_,_,q=>by simp only[ow] at q;simpa[ro] using q.1
 | .bool _,_,_,_,q=>by simp only[ow] at q;simpa[ro] using q.1
 | .str _,_,_,_,q=>by simp only[ow] at q;simpa[ro] using q.1
 | .PW,_,_,_,q=>by simp only[ow] at q;simpa[ro] using q.1
 | .sl false s rows,v,N,_,q=>by simp only[ow] at q;have:=F8 hl _ _ q.2;simpa[ro] using this
 | .sl true s rows,v,N,hs,q=>by
  simp only[ow] at q;simp only[ro];rcases q with⟨rfl,rfl,rfl⟩|⟨b,cap,cs,t,N',h1,h2,h3,h4,h5,rfl⟩
  ·exact⟨none,0,by simp,by simp,λe=>absurd rfl e⟩
  ·refine⟨_,cap,h1,h2,λ_=>⟨b,0,rfl, ?_⟩⟩;refine QK rows 0 cs.toList (λj v hj=>by rw[Nat.zero_add];exact hs b (by simp) cs t _ h3 j v hj) ?_;exact E5 hl s rows cs.toList N' (hs.sub (by simp;exact λ_ hb=> .inr hb)) h5
def E5{H:Heap}{h h':View}(hl:h.le h')(s:Nat):∀(rows:List Row) (cs:List Value) (N:List Nat),Xr h' H N->eP H h s rows cs N->fE h' s rows cs
 |[],_,_,_,_=>by simp[fE]
 |r::rs,cs,N,hs,q=>by simp only[eP] at q;obtain⟨h1,N1,N2,rfl,h2,h3⟩:=q;simp only[fE];exact⟨h1,Xt hl r cs N1 (hs.sub (by simp;exact λ_ hb=> .inl hb)) h2,E5 hl s rs _ N2 (hs.sub (by simp;exact λ_ hb=> .inr hb)) h3⟩
def Xt{H:Heap}{h h':View}(hl:h.le h'):∀(r:Row) (cs:List Value) (N:List Nat),Xr h' H N->fU H h r cs N->ig h' r cs
 |[],_,_,_,_=>by simp[ig]
 |x::r,cs,N,hs,q=>by simp only[fU] at q;obtain⟨v,cs',N1,N2,rfl,rfl,h1,h2⟩:=q;simp only[ig];exact⟨v,cs',rfl,ay2 hl x v N1 (hs.sub (by simp;exact λ_ hb=> .inl hb)) h1,Xt hl r cs' N2 (hs.sub (by simp;exact λ_ hb=> .inr hb)) h2⟩
end
def ahd{H:Heap}{h h':View}(hl:h.le h'){fl:Bool}{s:Nat}{rows:List Row}{v:Value}{N:List Nat}(hs:Xr h' H N)(q:UO H h fl s rows v N)(o:Bool):ro h' (.sl o s rows) v:=by
 simp only[ro];rcases q with⟨rfl,rfl,rfl⟩|⟨b,cap,cs,t,N',h1,h2,h3,h4,h5,rfl⟩
 ·exact⟨none,0,by simp,by simp,λe=>absurd rfl e⟩
 ·refine⟨_,cap,h1,h2,λ_=>⟨b,0,rfl, ?_⟩⟩;refine QK rows 0 cs.toList (λj v hj=>by rw[Nat.zero_add];exact hs b (by simp) cs t _ h3 j v hj) ?_;cases fl with
  |true=>exact mV hl s rows _ h5.1
  |false=>exact E5 hl s rows cs.toList N' (hs.sub (by simp;exact λ_ hb=> .inr hb)) h5
def U4{h:View}{o o':Bool}{s:Nat}{rows:List Row}{v:Value}(q:ro h (.sl o s rows) v):ro h (.sl o' s rows) v:=by simpa[ro] using q
def afH{w:World}{N:List Nat}:Xr (full w) (bH w) N:=by intro b _ cs t fr hb o v hv;rw[full_cell hb,hv]
def Gg{w:World}{U X:Nat->Prop}{N:List Nat}(hU:∀b,b∈N->U b∧¬X b):Xr (view w U X) (bH w) N:=by intro b hm cs t fr hb o v hv;unfold view;rw[if_pos (hU b hm)];have:=full_cell hb o;rw[hv] at this;exact this
mutual
def ap3{h:View}:∀(x:D) (v:Value),ro h x v->ro h x.fz v
 | .int _ _,_,q=>by simpa[D.fz] using q
 | .bool _,_,q=>by simpa[D.fz] using q
 | .str _,_,q=>by simpa[D.fz] using q
 | .PW,_,q=>by simpa[D.fz] using q
 | .sl own s rows,v,q=>by
  simp only[D.fz,ro] at q⊢;obtain⟨a,cap,h1,h2,h3⟩:=q;have hlen:(aJ rows).length=rows.length:=MC rows;refine⟨a,cap,by rw[hlen];exact h1,by rw[hlen];exact h2,λhn=> ?_⟩;have hn':rows≠[]:=by intro e;subst e;exact hn rfl
  obtain⟨b,o,h4,h5⟩:=h3 hn';exact⟨b,o,h4,afI s rows b o h5⟩
def MC:∀rows:List Row,(aJ rows).length=rows.length
 |[]=>rfl
 |r::rs=>by simp[aJ,MC rs]
def TI:∀r:Row,(vP r).length=r.length
 |[]=>rfl
 |x::r=>by simp[vP,TI r]
def afI{h:View}(s:Nat):∀(rows:List Row) (b o:Nat),mY h s rows b o->mY h s (aJ rows) b o
 |[],_,_,_=>by simp[aJ,mY]
 |r::rs,b,o,q=>by simp only[aJ,mY] at q⊢;exact⟨by rw[TI];exact q.1,aiF r b o q.2.1,afI s rs b (o+s) q.2.2⟩
def aiF{h:View}:∀(r:Row) (b o:Nat),uQ h r b o->uQ h (vP r) b o
 |[],_,_,_=>by simp[vP,uQ]
 |x::r,b,o,q=>by simp only[vP,uQ] at q⊢;obtain⟨⟨v,h1,h2⟩,h3⟩:=q;exact⟨⟨v,h1,ap3 x v h2⟩,aiF r b (o+1) h3⟩
end
def ac0{h:View}{fl:Bool}{o:Bool}{s:Nat}{rows:List Row}{v:Value}(q:ro h (.sl o s rows) v):ro h (.sl false s (vw fl rows)) v:=by
 unfold vw;cases fl with
 |true=>exact U4 q
 |false=>simpa[D.fz] using ap3 _ _ q
def ap4{h:View}{x:D}{v:Value}(q:ro h x v):ro h (roD x) v:=by cases x<;>simpa[roD,ro] using q
def ap5{H:Heap}{h:View}{x:D}{v:Value}(q:ro h x v):ow H h (roD x) v []:=by cases x<;>simp[roD,ow,ro] at q⊢<;>exact q
def auO{H:Heap}{h:View}{x:D}{v:Value}(hf:x.flat=true)(q:ro h x v):ow H h x v []:=by cases x<;>simp[D.flat,ow,ro] at hf q⊢<;>exact q
def ac1{H:Heap}{h:View}:∀(r:Row) (cs:List Value),(r.all D.flat)=true->ig h r cs->fU H h r cs []
 |[],_,_,_=>by simp[fU]
 |x::r,cs,hf,⟨v,cs',e,h1,h2⟩=>by simp only[List.all_cons,vF] at hf;simp only[fU];exact⟨v,cs',[],[],e,rfl,auO hf.1 h1,ac1 r cs' hf.2 h2⟩
def U5{H:Heap}{h:View}(s:Nat):∀(rs:List Row) (cs:List Value),ay rs=true->fE h s rs cs->eP H h s rs cs []
 |[],_,_,_=>by simp[eP]
 |r::rs,cs,hf,⟨h1,h2,h3⟩=>by simp only[ay,List.all_cons,vF] at hf;simp only[eP];exact⟨h1,[],[],rfl,ac1 r cs hf.1 h2,U5 s rs _ hf.2 h3⟩
def acf{H:Heap}{h:View}{fl:Bool}{s:Nat}{rows:List Row}{v:Value}{N:List Nat}(ho:UH fl rows=true)(q:UO H h fl s rows v N):ow H h (.sl true s rows) v N:=by
 simp only[ow];rcases q with q|⟨b,cap,cs,t,N',h1,h2,h3,h4,h5,rfl⟩
 ·exact .inl q
 ·refine .inr ⟨b,cap,cs,t,N',h1,h2,h3,h4, ?_,rfl⟩;cases fl with
  |true=>obtain⟨h5,rfl⟩:=h5;exact U5 s rows _ (by simpa[UH] using ho) h5
  |false=>exact h5
def anh{H:Heap}{h:View}{s:Nat}{rows:List Row}{v:Value}{N:List Nat}(q:ow H h (.sl true s rows) v N):UO H h false s rows v N:=by simpa[ow,UO] using q
def alT{H:Heap}{h:View}{s:Nat}{rows:List Row}{v:Value}{N:List Nat}(q:ow H h (.sl true s rows) v N):
  ∃N1 N2,N=N1++N2∧∀h',h.le h'->Xr h' H N2->UO H h' true s rows v N1:=by
 simp only[ow] at q;rcases q with⟨rfl,rfl,rfl⟩|⟨b,cap,cs,t,N',h1,h2,h3,h4,h5,rfl⟩
 ·exact⟨[],[],rfl,λ_ _ _=> .inl ⟨rfl,rfl,rfl⟩⟩
 ·exact⟨[b],N',rfl,λh' hl hs=> .inr ⟨b,cap,cs,t,[],h1,h2,h3,h4,⟨E5 hl s rows _ N' hs h5,rfl⟩,rfl⟩⟩
end Go.Vm
namespace Go.Vm
open Go
section
variable {base:Nat} {U:Nat->Prop} {w:World} {m:Mem} {G:GS}
def Bg.kill(hg:Bg base U w m G){r:Nat}{fl:Bool}{ver s:Nat}{rows:List Row}(hc:get r m=some (.arr false fl ver s rows))(hro:r ∉ G.out):
  Bg base U w (put r .dead m) ⟨G.μ,Ld G.F r [],G.E++G.F r,G.out⟩∧UQ m G (put r .dead m) ⟨G.μ,Ld G.F r [],G.E++G.F r,G.out⟩∧
   UO (bH w) (Gh U w G) fl s rows (G.μ r) (G.F r):=by
 have h1:=hg.set r .dead G.μ [] (G.E++G.F r) G.out
  (by simpa using List.nodup_append.2 ⟨hg.ndE,hg.nd r,λa ha b hb e=>hg.Ym r b hb (e ▸ ha)⟩)
  (by simp;exact λb hb=>hb.symm) (xu (λ_ _=>rfl) (λc h=>by rw[hc] at h;cases h;trivial)) (λ_ _=>rfl) (λ_ _=>Iff.rfl) (λ_=>rfl) (λ_ _=>rfl)
 exact⟨h1.1,h1.2,hg.cell r _ hc hro⟩
def Bg.freeze(hg:Bg base U w m G){r:Nat}{fz fl:Bool}{ver s:Nat}{rows:List Row}(hc:get r m=some (.arr fz fl ver s rows))(hro:r ∉ G.out):
  Bg base U w (put r (.arr true fl ver s rows) m) ⟨G.μ,Ld G.F r [],G.E,G.out⟩∧UQ m G (put r (.arr true fl ver s rows) m) ⟨G.μ,Ld G.F r [],G.E,G.out⟩∧
   ro (Gh U w ⟨G.μ,Ld G.F r [],G.E,G.out⟩) (.sl true s rows) (G.μ r):=by
 have hle:zJ G.μ m G.μ (put r (.arr true fl ver s rows) m):=xu (λ_ _=>rfl) (λc h=>by rw[hc] at h;cases h;exact⟨Nat.le_refl _,rfl,λ_=>⟨rfl,rfl⟩⟩);have aDk:(view w U (excl G.F G.E)).le (view w U (excl (Ld G.F r []) G.E))->ro (view w U (excl (Ld G.F r []) G.E)) (.sl true s rows) (G.μ r):=by
  intro hv;have hq:=hg.cell r _ hc hro;cases fz with
  |true=>exact F8 hv _ _ hq.1
  |false=>
   refine ahd hv (Gg λb hb=>⟨(hg.lt b (.inr ⟨r,hb⟩)).2.2, ?_⟩) hq true;rintro(hE|⟨k,hk⟩)
   ·exact hg.Ym r b hb hE
   ·by_cases e:k=r
    ·subst e;simp at hk
    ·rw[fP _ e] at hk;exact hg.dj r k (Ne.symm e) b hb hk
 have h1:=hg.set r (.arr true fl ver s rows) G.μ [] G.E G.out (by simpa using hg.ndE) (by simp;exact λb hb=> .inr hb) hle (λ_ _=>rfl) (λ_ _=>Iff.rfl) (λ_=>rfl)
  (λhv _=>⟨aDk hv,rfl⟩)
 exact⟨h1.1,h1.2,aDk h1.2.view⟩
def Bg.aAm(hg:Bg base U w m G){k:Nat}(fl:Bool){s:Nat}{rows:List Row}{g:Value}{N E:List Nat}(hn:get k m=none)(hk:k ∉ G.out)(hE:(N++E).Perm G.E)
  (hq:ow (bH w) (Gh U w G) (.sl true s rows) g N):
  ∃F',Bg base U w (put k (.arr false fl 0 s rows) m) ⟨YB G.μ k g,F',E,G.out⟩∧UQ m G (put k (.arr false fl 0 s rows) m) ⟨YB G.μ k g,F',E,G.out⟩:=by
 have hnd:=hE.nodup_iff.2 hg.ndE;have hmem:∀b,b∈N++E->b∈G.E:=λb hb=>hE.mem_iff.1 hb
 have hμ:∀j,j≠k->YB G.μ k g j=G.μ j:=λj e=>Du g e
 have hle:∀c',zJ G.μ m (YB G.μ k g) (put k c' m):=λc'=>xu hμ (λc h=>by rw[hn] at h;cases h)
 cases fl with
 |false=>refine⟨_,hg.set k (.arr false false 0 s rows) (YB G.μ k g) N E G.out hnd (λb hb=> .inr (hmem b hb)) (hle _) hμ (λ_ _=>Iff.rfl) (λh=>absurd h hk) (λhv _=> ?_)⟩;simp only[kV,wH];exact F9 hv (λ_ _=>rfl) (anh hq)
 |true=>
  obtain⟨N1,N2,rfl,h2⟩:=alT hq;have hnd':(N1++E).Nodup:=by rw[BO] at hnd;have:=List.nodup_append.1 hnd;exact List.nodup_append.2 ⟨this.1,(List.nodup_append.1 this.2.1).2.1,λa ha b hb=>this.2.2 a ha b (by simp[hb])⟩
  refine⟨_,hg.set k (.arr false true 0 s rows) (YB G.μ k g) N1 E G.out hnd' (λb hb=> .inr (hmem b (by simp at hb⊢;rcases hb with h|h<;>simp[h]))) (hle _) hμ (λ_ _=>Iff.rfl) (λh=>absurd h hk) (λhv _=> ?_)⟩;simp only[kV,wH];refine h2 _ hv (Gg λb hb=>⟨(hg.lt b (.inl (hmem b (by simp[hb])))).2.2, ?_⟩);rw[BO] at hnd;have hd:=List.nodup_append.1 hnd;have hd2:=List.nodup_append.1 hd.2.1;rintro(hE'|⟨j,hj⟩)
  ·exact hd2.2.2 b hb b hE' rfl
  ·by_cases e:j=k
   ·subst e;rw[qW] at hj;exact hd.2.2 b hj b (by simp[hb]) rfl
   ·rw[fP _ e] at hj;exact hg.Ym j b hj (hmem b (by simp[hb]))
structure JB(base:Nat)(U:Nat->Prop)(w:World)(m:Mem)(G:GS)(m':Mem)(G':GS)(N:List Nat):Prop where
 ok:Bg base U w m' G'
 le:UQ m G m' G'
 E:G'.E=G.E++N
 out:G'.out=G.out
 μ:G'.μ=G.μ
def JB.same(hg:Bg base U w m G):JB base U w m G m G []:=⟨hg,UQ.refl _ _,by simp,rfl,rfl⟩
def JB.trans{m1 m2 m3:Mem}{G1 G2 G3:GS}{N N':List Nat}(a:JB base U w m1 G1 m2 G2 N)(b:JB base U w m2 G2 m3 G3 N'):JB base U w m1 G1 m3 G3 (N++N'):=
 ⟨b.ok,a.le.trans b.le,by rw[b.E,a.E,BO],b.out.trans a.out,b.μ.trans a.μ⟩
def TJ{H:Heap}{h h':View}(hl:h.le h'){x:D}{v:Value}{N:List Nat}(q:ow H h x v N):ow H h' x v N:=ace hl x v N (λ_ _=>rfl) q
def ap6(hg:Bg base U w m G){v:V}{g:Value}(hv:aG G.μ m (Gh U w G) v g)(ho:G.out=[]){x:D}{m':Mem}{l l':Log}(h:(toD v).run m l=some (x,m',l')):
  ∃G' N,JB base U w m G m' G' N∧ow (bH w) (Gh U w G') x g N:=by
 cases v with
 |d y=>simp only[toD,run_pure,fF,iP] at h;obtain⟨rfl,rfl,rfl⟩:=h;exact⟨G,[],JB.same hg,ap5 (by simpa[aG] using hv)⟩
 |nil s=>simp only[toD,run_pure,fF,iP] at h;obtain⟨rfl,rfl,rfl⟩:=h;refine⟨G,[],JB.same hg, ?_⟩;simp only[aG] at hv;simp[ow,hv]
 |own r ver=>
  simp only[toD] at h;replace h:=aj h;obtain⟨c,m1,l1,h1,h⟩:=h;rw[oI] at h1;cases h1;cases hc:get r m with
  |none=>rw[hc] at h;exact(ak h).elim
  |some c=>
   rw[hc] at h;cases c with
   |box _ _=>exact(ak h).elim
   |dead=>exact(ak h).elim
   |D5 _ _ _=>exact(ak h).elim
   |nR _ _=>exact(ak h).elim
   |mX _ _ _ _ _=>exact(ak h).elim
   |arr fz fl fV s rows=>
    simp only at h;replace h:=aj h;obtain⟨_,m2,l2,h1,h⟩:=h;obtain⟨hb,rfl,rfl⟩:=cu h1;have hb:=qU hb;subst hb;simp only[aG,hc] at hv;have hv:=hv.2.2 trivial;subst hv;have hro:r ∉ G.out:=by simp[ho]
    cases fz with
    |true=>simp only[run_pure,fF,iP] at h;obtain⟨rfl,rfl,rfl⟩:=h;refine⟨G,[],JB.same hg, ?_⟩;have hq:=(hg.cell r _ hc hro).1;simp only[ow,true_and];exact ac0 hq
    |false=>simp only at h;replace h:=aj h;obtain⟨_,m2,l2,h1,h⟩:=h;obtain⟨hok,rfl,rfl⟩:=cu h1;replace h:=aj h;obtain⟨_,m3,l3,h1,h⟩:=h;rw[uK] at h1;cases h1;simp only[run_pure,fF,iP] at h;obtain⟨rfl,rfl,rfl⟩:=h;obtain⟨k1,k2,k3⟩:=hg.kill hc hro;exact⟨_,G.F r,⟨k1,k2,rfl,rfl,rfl⟩,TJ k2.view (acf hok k3)⟩
 |ptr _ _=>exact(ak h).elim
 |rE _ _ _ _=>exact(ak h).elim
 |rF _ _=>exact(ak h).elim
 |zK _=>exact(ak h).elim
 |clo _ _ _=>exact(ak h).elim
 |agg _=>exact(ak h).elim
 |zL _=>exact(ak h).elim
 |undef=>exact(ak h).elim
def mJ{μ:Nat->Value}{h:View}{v:V}{vs:List V}{gs:List Value}(q:bT μ m h (v::vs) gs):∃g gs',gs=g::gs'∧aG μ m h v g∧bT μ m h vs gs':=by simpa[bT] using q
def iL{μ:Nat->Value}{h:View}:∀{vs:List V} {gs:List Value},bT μ m h vs gs->gs.length=vs.length
 |[],gs,q=>by simp[bT] at q;simp[q]
 |v::vs,gs,q=>by obtain⟨g,gs',rfl,_,h3⟩:=mJ q;simp[iL h3]
def Xu{H:Heap}{h h':View}(hl:h.le h'){x:Row}{v:List Value}{N:List Nat}(q:fU H h x v N):fU H h' x v N:=y7 hl x v N (λ_ _=>rfl) q
def aiG{H:Heap}{h h':View}(hl:h.le h'){s:Nat}{x:List Row}{v:List Value}{N:List Nat}(q:eP H h s x v N):eP H h' s x v N:=tu hl s x v N (λ_ _=>rfl) q
def PZ:∀{vs:List V} {gs:List Value} {m:Mem} {G:GS} (_:Bg base U w m G) (_:bT G.μ m (Gh U w G) vs gs) (_:G.out=[]) {xs:Row} {m':Mem} {l l':Log} (_:(JH vs).run m l=some (xs,m',l')),
  ∃G' N,JB base U w m G m' G' N∧fU (bH w) (Gh U w G') xs gs N∧xs.length=vs.length
 |[],gs,m,G,hg,hv,ho,xs,m',l,l',h=>by simp only[JH,run_pure,fF,iP] at h;obtain⟨rfl,rfl,rfl⟩:=h;exact⟨G,[],JB.same hg,by simp[fU],rfl⟩
 |v::vs,gs,m,G,hg,hv,ho,xs,m',l,l',h=>by obtain⟨g,gs',rfl,hv1,hv2⟩:=mJ hv;simp only[JH] at h;replace h:=aj h;obtain⟨x,m1,l1,h1,h⟩:=h;replace h:=aj h;obtain⟨ys,m2,l2,h2,h⟩:=h;simp only[run_pure,fF,iP] at h;obtain⟨rfl,rfl,rfl⟩:=h;obtain⟨G1,N1,t1,q1⟩:=ap6 hg hv1 ho h1;obtain⟨G2,N2,t2,q2,hlen⟩:=PZ t1.ok (t1.le.bT hv2) (t1.out.trans ho) h2;refine⟨G2,N1++N2,t1.trans t2, ?_,by simp[hlen]⟩;simp only[fU];exact⟨g,gs',N1,N2,rfl,rfl,TJ t2.le.view q1,q2⟩
end
end Go.Vm
namespace Go.Vm
open Go
section
variable {base:Nat} {U:Nat->Prop} {w:World} {m:Mem} {G:GS}
def Bg.look(hg:Bg base U w m G){r:Nat}{fz fl:Bool}{ver s:Nat}{rows:List Row}(hc:get r m=some (.arr fz fl ver s rows))(hro:r ∉ G.out)(o:Bool):ro (full w) (.sl o s rows) (G.μ r):=by
 have hq:=hg.cell r _ hc hro;cases fz with
 |true=>exact U4 (F8 (rY _ _ _) _ _ hq.1)
 |false=>exact ahd (rY _ _ _) afH hq o
def ani(hg:Bg base U w m G){v:V}{g:Value}(hv:aG G.μ m (Gh U w G) v g)(ho:G.out=[]){s:Nat}{rows:List Row}{m':Mem}{l l':Log}(h:(seen v).run m l=some ((s,rows),m',l')):
  m'=m∧ro (full w) (.sl false s rows) g:=by
 cases v with
 |d y=>
  cases y with
  |sl own s' rows'=>simp only[seen,run_pure,fF,iP] at h;obtain⟨⟨rfl,rfl⟩,rfl,rfl⟩:=h;simp only[aG] at hv;exact⟨rfl,U4 (F8 (rY _ _ _) _ _ hv)⟩
  |int _ _=>exact(ak h).elim
  |bool _=>exact(ak h).elim
  |str _=>exact(ak h).elim
  |PW=>exact(ak h).elim
 |nil s'=>simp only[seen,run_pure,fF,iP] at h;obtain⟨⟨rfl,rfl⟩,rfl,rfl⟩:=h;simp only[aG] at hv;exact⟨rfl,by simp[ro,hv]⟩
 |own r ver=>
  simp only[seen] at h;replace h:=aj h;obtain⟨c,m1,l1,h1,h⟩:=h;rw[oI] at h1;cases h1;cases hc:get r m with
  |none=>rw[hc] at h;exact(ak h).elim
  |some c=>
   rw[hc] at h;cases c with
   |box _ _=>exact(ak h).elim
   |dead=>exact(ak h).elim
   |D5 _ _ _=>exact(ak h).elim
   |nR _ _=>exact(ak h).elim
   |mX _ _ _ _ _=>exact(ak h).elim
   |arr fz fl fV s' rows'=>simp only at h;replace h:=aj h;obtain⟨_,m2,l2,h1,h⟩:=h;obtain⟨hb,rfl,rfl⟩:=cu h1;have hb:=qU hb;subst hb;simp only[run_pure,fF,iP] at h;obtain⟨⟨rfl,rfl⟩,rfl,rfl⟩:=h;simp only[aG,hc] at hv;have hv:=hv.2.2 trivial;subst hv;exact⟨rfl,ac0 (hg.look hc (by simp[ho]) true)⟩
 |ptr _ _=>exact(ak h).elim
 |rE _ _ _ _=>exact(ak h).elim
 |rF _ _=>exact(ak h).elim
 |zK _=>exact(ak h).elim
 |clo _ _ _=>exact(ak h).elim
 |agg _=>exact(ak h).elim
 |zL _=>exact(ak h).elim
 |undef=>exact(ak h).elim
def xM(k:Nat):∀l:List Nat,mem? k l=true↔k∈l
 |[]=>by simp[mem?]
 |j::l=>by
  simp only[mem?,List.mem_cons]
  by_cases e:k=j
  ·subst e;simp
  ·rw[rG e];simp[e,xM k l]
def P5{k:Nat}{l:List Nat}(h:(!(mem? k l))=true):k ∉ l:=by intro hk;rw[(xM k l).2 hk] at h;cases h
def auP(hg:Bg base U w m G){v:V}{g:Value}(hv:aG G.μ m (Gh U w G) v g){imp:List Nat}(ho:∀r,r∈G.out->r∈imp){own:Bool}{v':V}{m':Mem}{l l':Log}(h:(apV imp own v).run m l=some (v',m',l')):
  ∃G' N x,v'=.d x∧JB base U w m G m' G' N∧ow (bH w) (Gh U w G') x g N∧∀k,k∈imp->get k m'=get k m:=by
 cases v with
 |d y=>simp only[apV,run_pure,fF,iP] at h;obtain⟨rfl,rfl,rfl⟩:=h;exact⟨G,[],_,rfl,JB.same hg,ap5 (by simpa[aG] using hv),λ_ _=>rfl⟩
 |nil s=>simp only[apV,run_pure,fF,iP] at h;obtain⟨rfl,rfl,rfl⟩:=h;refine⟨G,[],_,rfl,JB.same hg, ?_,λ_ _=>rfl⟩;simp only[aG] at hv;cases own<;>simp[ow,ro,hv]
 |own r ver=>
  simp only[apV] at h;replace h:=aj h;obtain⟨c,m1,l1,h1,h⟩:=h;rw[oI] at h1;cases h1;cases hc:get r m with
  |none=>rw[hc] at h;exact(ak h).elim
  |some c=>
   rw[hc] at h;cases c with
   |box _ _=>exact(ak h).elim
   |dead=>exact(ak h).elim
   |D5 _ _ _=>exact(ak h).elim
   |nR _ _=>exact(ak h).elim
   |mX _ _ _ _ _=>exact(ak h).elim
   |arr fz fl fV s rows=>
    simp only at h;replace h:=aj h;obtain⟨_,m2,l2,h1,h⟩:=h;obtain⟨hb,rfl,rfl⟩:=cu h1;have hb:=qU hb;subst hb;replace h:=aj h;obtain⟨_,m2,l2,h1,h⟩:=h;obtain⟨hi,rfl,rfl⟩:=cu h1;simp only[aG,hc] at hv;have hv:=hv.2.2 trivial;subst hv;have hro:r ∉ G.out:=λhr=>P5 hi (ho r hr)
    have hni:∀k,k∈imp->k≠r:=λk hk e=>P5 hi (e ▸ hk)
    cases own with
    |false=>simp only at h;replace h:=aj h;obtain⟨_,m3,l3,h1,h⟩:=h;rw[uK] at h1;cases h1;simp only[run_pure,fF,iP] at h;obtain⟨rfl,rfl,rfl⟩:=h;obtain⟨k1,k2,k3⟩:=hg.freeze hc hro;refine⟨_,[],_,rfl,⟨k1,k2,by simp,rfl,rfl⟩, ?_,λk hk=>iQ (hni k hk) _ _⟩;simp only[ow,true_and];exact ac0 k3
    |true=>
     simp only at h;replace h:=aj h;obtain⟨_,m2,l2,h1,h⟩:=h;obtain⟨hfz,rfl,rfl⟩:=cu h1;replace h:=aj h;obtain⟨_,m2,l2,h1,h⟩:=h;obtain⟨hok,rfl,rfl⟩:=cu h1;have hfz:fz=false:=by simpa using hfz
     subst hfz;replace h:=aj h;obtain⟨_,m3,l3,h1,h⟩:=h;rw[uK] at h1;cases h1;simp only[run_pure,fF,iP] at h;obtain⟨rfl,rfl,rfl⟩:=h;obtain⟨k1,k2,k3⟩:=hg.kill hc hro;exact⟨_,G.F r,_,rfl,⟨k1,k2,rfl,rfl,rfl⟩,TJ k2.view (acf hok k3),λk hk=>iQ (hni k hk) _ _⟩
 |ptr _ _=>exact(ak h).elim
 |rE _ _ _ _=>exact(ak h).elim
 |rF _ _=>exact(ak h).elim
 |zK _=>exact(ak h).elim
 |clo _ _ _=>exact(ak h).elim
 |agg _=>exact(ak h).elim
 |zL _=>exact(ak h).elim
 |undef=>exact(ak h).elim
def aaM{imp own:List Nat}:∀{vs:List V} {gs:List Value} {m:Mem} {G:GS} {j:Nat} (_:Bg base U w m G) (_:bT G.μ m (Gh U w G) vs gs) (_:∀r,r∈G.out->r∈imp) {vs':List V} {m':Mem} {l l':Log}
  (_:(UY imp own j vs).run m l=some (vs',m',l')),∃G' N xs,vs'=xs.map V.d∧xs.length=gs.length∧JB base U w m G m' G' N∧fU (bH w) (Gh U w G') xs gs N∧∀k,k∈imp->get k m'=get k m
 |[],gs,m,G,j,hg,hv,ho,vs',m',l,l',h=>by simp only[UY,run_pure,fF,iP] at h;obtain⟨rfl,rfl,rfl⟩:=h;simp only[bT] at hv;subst hv;exact⟨G,[],[],rfl,rfl,JB.same hg,by simp[fU],λ_ _=>rfl⟩
 |v::vs,gs,m,G,j,hg,hv,ho,vs',m',l,l',h=>by obtain⟨g,gs',rfl,hv1,hv2⟩:=mJ hv;simp only[UY] at h;replace h:=aj h;obtain⟨x,m1,l1,h1,h⟩:=h;replace h:=aj h;obtain⟨ys,m2,l2,h2,h⟩:=h;simp only[run_pure,fF,iP] at h;obtain⟨rfl,rfl,rfl⟩:=h;obtain⟨G1,N1,x1,rfl,t1,q1,i1⟩:=auP hg hv1 ho h1;obtain⟨G2,N2,xs,rfl,hlen,t2,q2,i2⟩:=aaM t1.ok (t1.le.bT hv2) (λr hr=>ho r (t1.out ▸ hr)) h2;refine⟨G2,N1++N2,x1::xs,rfl,by simp[hlen],t1.trans t2, ?_,λk hk=>(i2 k hk).trans (i1 k hk)⟩;simp only[fU];exact⟨g,gs',N1,N2,rfl,rfl,TJ t2.le.view q1,q2⟩
def aiH(H:Heap)(h:View):Cell->Value->List Nat->Prop
 | .box t vs,g,N=>∃b a xs N',g=.pointer (some ⟨b,0,none⟩)∧H b=some (.cells a t (0,0))∧vs=xs.map V.d∧xs.length=a.toList.length∧fU H h xs a.toList N'∧N=b::N'
 | .arr fz fl ver s rows,g,N=>fz=false∧ver=0∧UO H h fl s rows g N
 | .dead,_,_=>False
 | .D5 ..,_,_=>False
 | .nR ..,_,_=>False
 | .mX ..,_,_=>False
def cellsB(H:Heap)(h:View):List Cell->List Value->List Nat->Prop
 |[],gs,N=>gs=[]∧N=[]
 |c::cs,gs,N=>∃g gs' N1 N2,gs=g::gs'∧N=N1++N2∧aiH H h c g N1∧cellsB H h cs gs' N2
def ac2{H H':Heap}{h h':View}(hl:h.le h'){c:Cell}{g:Value}{N:List Nat}(hb:∀b,b∈N->H' b=H b)(q:aiH H h c g N):aiH H' h' c g N:=by
 cases c with
 |box t vs=>obtain⟨b,a,xs,N',h1,h2,h3,h4,h5,rfl⟩:=q;exact⟨b,a,xs,N',h1,by rw[hb b (by simp)];exact h2,h3,h4,y7 hl _ _ _ (λb' hb'=>hb b' (by simp[hb'])) h5,rfl⟩
 |arr fz fl ver s rows=>exact⟨q.1,q.2.1,F9 hl hb q.2.2⟩
 |dead=>exact q
 |D5 _ _ _=>exact q
 |nR _ _=>exact q
 |mX _ _ _ _ _=>exact q
def aaN{H H':Heap}{h h':View}(hl:h.le h'):∀{cs:List Cell} {gs:List Value} {N:List Nat},(∀b,b∈N->H' b=H b)->cellsB H h cs gs N->cellsB H' h' cs gs N
 |[],_,_,_,q=>q
 |c::cs,_,_,hb,⟨g,gs',N1,N2,h1,h2,h3,h4⟩=>by subst h2;exact⟨g,gs',N1,N2,h1,rfl,ac2 hl (λb hx=>hb b (by simp[hx])) h3,aaN hl (λb hx=>hb b (by simp[hx])) h4⟩
def Bg.ay3(hg:Bg base U w m G){r:Nat}{c:Cell}(hc:get r m=some c)(hro:r ∉ G.out):
  Bg base U w m ⟨G.μ,Ld G.F r [],G.E++G.F r,r::G.out⟩∧UQ m G m ⟨G.μ,Ld G.F r [],G.E++G.F r,r::G.out⟩:=by
 have hex:∀b,excl (Ld G.F r []) (G.E++G.F r) b->excl G.F G.E b:=by
  rintro b (hb|⟨k,hb⟩)
  ·simp only[List.mem_append] at hb;rcases hb with h|h
   ·exact .inl h
   ·exact .inr ⟨r,h⟩
  ·by_cases e:k=r
   ·subst e;simp at hb
   ·rw[fP _ e] at hb;exact .inr ⟨k,hb⟩
 have hv:(view w U (excl G.F G.E)).le (view w U (excl (Ld G.F r []) (G.E++G.F r))):=MB (λ_ x=>x) hex;refine⟨show MInv base U m w G.μ (Ld G.F r []) (G.E++G.F r) (r::G.out) from ?_,⟨pW _ _,hex⟩⟩;refine⟨?_, ?_, ?_, ?_,List.nodup_append.2 ⟨hg.ndE,hg.nd r,λa ha b hb e=>hg.Ym r b hb (e ▸ ha)⟩,λb hb=>hg.lt b (hex b hb),hg.up,hg.bs, ?_, ?_⟩
 ·intro k c hk hko;simp only[List.mem_cons,not_or] at hko;rw[fP _ hko.1];exact Gf (pW _ _) hv rfl (λ_ _=>rfl) (hg.cell k c hk hko.2)
 ·intro k k' hne b hb hb'
  by_cases e:k=r
  ·subst e;simp at hb
  ·rw[fP _ e] at hb
   by_cases e':k'=r
   ·subst e';simp at hb'
   ·rw[fP _ e'] at hb';exact hg.dj _ _ hne b hb hb'
 ·intro k b hb hE
  by_cases e:k=r
  ·subst e;simp at hb
  ·rw[fP _ e] at hb;simp only[List.mem_append] at hE;rcases hE with h|h
   ·exact hg.Ym _ b hb h
   ·exact hg.dj _ _ e b hb h
 ·intro k
  by_cases e:k=r
  ·subst e;simp
  ·rw[fP _ e];exact hg.nd k
 ·intro k hk
  by_cases e:k=r
  ·subst e;simp
  ·rw[fP _ e];exact hg.none_ k hk
 ·intro k hk
  by_cases e:k=r
  ·subst e;simp
  ·rw[fP _ e];exact hg.out_ k (by simpa[e] using hk)
structure Out(base:Nat)(U:Nat->Prop)(w:World)(m:Mem)(G:GS)(m':Mem)(G':GS)(imp rs:List Nat)(N:List Nat):Prop where
 ok:Bg base U w m' G'
 le:UQ m G m' G'
 E:G'.E=G.E++N
 out:∀r,r∈G'.out↔r∈G.out∨r∈rs
 μ:G'.μ=G.μ
 here:∀k,k∈imp->get k m'=get k m
def sameKind:Cell->Cell->Prop
 | .box t _,.box t' _=>t=t'
 | .arr _ fl ver s _,.arr _ fl' fV s' _=>ver=0∧fV=0∧fl=fl'∧s=s'
 |_,_=>False
def kinds(m:Mem):List Nat->List Cell->Prop
 |[],cs=>cs=[]
 |r::rs,cs=>∃c c' cs',cs=c'::cs'∧get r m=some c∧sameKind c c'∧kinds m rs cs'
def YC{m m':Mem}:∀{rs:List Nat} {cs:List Cell},(∀r,r∈rs->get r m'=get r m)->kinds m rs cs->kinds m' rs cs
 |[],_,_,q=>q
 |r::rs,_,h,⟨c,c',cs',h1,h2,h3,h4⟩=>⟨c,c',cs',h1,(h r (by simp)).trans h2,h3,YC (λk hk=>h k (by simp[hk])) h4⟩
def ZF{A:Adv}{imp:List Nat}:∀{rs:List Nat} {m:Mem} {G:GS} (_:Bg base U w m G) (_:rs.Nodup) (_:∀r,r∈rs->r∈imp∧r ∉ G.out) (_:∀r,r∈G.out->r∈imp) {cs:List Cell} {m':Mem} {l l':Log}
  (_:(UZ A imp rs).run m l=some (cs,m',l')),∃G' N,Out base U w m G m' G' imp rs N∧cellsB (bH w) (Gh U w G') cs (rs.map G.μ) N∧kinds m rs cs
 |[],m,G,hg,hn,hr,ho,cs,m',l,l',h=>by simp only[UZ,run_pure,fF,iP] at h;obtain⟨rfl,rfl,rfl⟩:=h;exact⟨G,[],⟨hg,UQ.refl _ _,by simp,λr=>by simp,rfl,λ_ _=>rfl⟩,⟨rfl,rfl⟩,rfl⟩
 |r::rs,m,G,hg,hn,hr,ho,cs,m',l,l',h=>by
  simp only[UZ] at h;replace h:=aj h;obtain⟨c,m1,l1,h1,h⟩:=h;rw[oI] at h1;cases h1;replace h:=aj h;obtain⟨c1,m1,l1,h1,h⟩:=h;replace h:=aj h;obtain⟨cs1,m2,l2,h2,h⟩:=h;simp only[run_pure,fF,iP] at h;obtain⟨rfl,rfl,rfl⟩:=h;have hri:=hr r (by simp);have hnr:=List.nodup_cons.1 hn;have step:∃G' N,Out base U w m G m1 G' imp [r] N∧aiH (bH w) (Gh U w G') c1 (G.μ r) N∧∃c,get r m=some c∧sameKind c c1:=by
   cases hc:get r m with
   |none=>rw[hc] at h1;exact(ak h1).elim
   |some c=>
    rw[hc] at h1;have hq:=hg.cell r c hc hri.2;obtain⟨k1,k2⟩:=hg.ay3 hc hri.2;cases c with
    |dead=>exact(ak h1).elim
    |D5 _ _ _=>exact(ak h1).elim
    |nR _ _=>exact(ak h1).elim
    |mX _ _ _ _ _=>exact(ak h1).elim
    |box t vs=>
     simp only[ag9] at h1;replace h1:=aj h1;obtain⟨vs',m3,l3,h3,h1⟩:=h1;simp only[run_pure,fF,iP] at h1;obtain⟨rfl,rfl,rfl⟩:=h1;obtain⟨b,a,e1,e2,e3,e4⟩:=hq;obtain⟨G2,N2,xs,rfl,hlen,t2,q2,i2⟩:=aaM k1 (k2.bT e3) (λk hk=>by
      simp only[List.mem_cons] at hk;rcases hk with rfl|hk
      ·exact hri.1
      ·exact ho k hk) h3
     refine⟨G2,b::N2,⟨t2.ok,k2.trans t2.le,by rw[t2.E,e4];simp,λk=>by rw[t2.out];simp[or_comm],t2.μ,i2⟩,⟨b,a,xs,N2,e1,e2,rfl,hlen,q2,rfl⟩,_,rfl,rfl⟩
    |arr fz fl ver s rows=>
     simp only[ag9] at h1;replace h1:=aj h1;obtain⟨_,m3,l3,h3,h1⟩:=h1;obtain⟨hfz,rfl,rfl⟩:=cu h3;replace h1:=aj h1;obtain⟨_,m3,l3,h3,h1⟩:=h1;obtain⟨hv0,rfl,rfl⟩:=cu h3;simp only[run_pure,fF,iP] at h1;obtain⟨rfl,rfl,rfl⟩:=h1;have hfz:fz=false:=by simpa using hfz
     subst hfz;have hv0:=qU hv0;subst hv0;refine⟨_,G.F r,⟨k1,k2,rfl,λk=>by simp[or_comm],rfl,λ_ _=>rfl⟩,⟨rfl,rfl,F9 k2.view (λ_ _=>rfl) hq⟩,_,rfl,rfl,rfl,rfl,rfl⟩
  obtain⟨G1,N1,o1,q1,c0,hc0,hk0⟩:=step;obtain⟨G2,N2,o2,q2,kd2⟩:=ZF o1.ok hnr.2 (λk hk=>⟨(hr k (by simp[hk])).1,λhko=>by
   rcases(o1.out k).1 hko with h|h
   ·exact(hr k (by simp[hk])).2 h
   ·simp at h;subst h;exact hnr.1 hk⟩) (λk hk=>by
   rcases(o1.out k).1 hk with h|h
   ·exact ho k h
   ·simp at h;subst h;exact hri.1) h2
  refine⟨G2,N1++N2,⟨o2.ok,o1.le.trans o2.le,by rw[o2.E,o1.E,BO],λk=> ?_,o2.μ.trans o1.μ,λk hk=>(o2.here k hk).trans (o1.here k hk)⟩,⟨G.μ r,rs.map G.μ,N1,N2,rfl,rfl,ac2 o2.le.view (λ_ _=>rfl) q1,by rw[<-o1.μ];exact q2⟩,c0,c1,cs1,rfl,hc0,hk0,YC (λk hk=>(o1.here k (hr k (by simp[hk])).1).symm) kd2⟩;rw[o2.out,o1.out];simp[or_assoc]
end
end Go.Vm
namespace Go.Vm
open Go
section
variable {base:Nat} {U:Nat->Prop} {w:World} {m:Mem} {G:GS}
def YD{r:Nat}{l:List Nat}(h:l.Nodup):(ag8 r l).Nodup:=by
 unfold ag8;cases hm:mem? r l with
 |true=>exact h
 |false=>
  have:r ∉ l:=λhr=>by rw[(xM r l).2 hr] at hm;cases hm
  exact List.nodup_append.2 ⟨h,by simp,λa ha b hb e=>by simp at hb;subst hb;subst e;exact this ha⟩
mutual
def Xv:∀(v:V) (I:List Nat),I.Nodup->(aiD I v).Nodup
 | .ptr r _,I,h=>by simp only[aiD];exact YD h
 | .clo _ a b,I,h=>by simp only[aiD];exact QL b _ (QL a _ h)
 | .agg cs,I,h=>by simp only[aiD];exact QL cs _ h
 | .d _,I,h=>h
 | .nil _,I,h=>h
 | .own _ _,I,h=>h
 | .rE _ _ _ _,I,h=>h
 | .rF _ _,I,h=>h
 | .zK v,I,h=>by simp only[aiD];exact Xv v I h
 | .zL _,I,h=>h
 | .undef,I,h=>h
def QL:∀(vs:List V) (I:List Nat),I.Nodup->(afE I vs).Nodup
 |[],I,h=>h
 |v::vs,I,h=>by simp only[afE];exact QL vs _ (Xv v I h)
end
def WM(A:Adv)(f:Nat):∀(vs:List V) (i:Nat) (I:List Nat),I.Nodup->(O4 A f i I vs).Nodup
 |[],_,I,h=>h
 |v::vs,i,I,h=>by
  simp only[O4];refine WM A f vs _ _ ?_;split
  ·exact YD h
  ·exact h
  ·exact Xv _ _ h
def O5(A:Adv)(f:Nat)(μ:Nat->Value)(m:Mem)(H:Heap)(h:View):Nat->List V->List Value->List Nat->Prop
 |_,[],gs,N=>gs=[]∧N=[]
 |i,v::vs,gs,N=>∃g gs' N1 N2,gs=g::gs'∧N=N1++N2∧(match DN A f i with
   |1=>∃x,v=.d x∧ow H h x g N1
   |_=>N1=[]∧aG μ m h v g)∧O5 A f μ m H h (i+1) vs gs' N2
def SA{A:Adv}{f:Nat}{μ μ':Nat->Value}{m m':Mem}{H H':Heap}{h h':View}(hm:zJ μ m μ' m')(hl:h.le h'):∀{vs:List V} {i:Nat} {gs:List Value} {N:List Nat},(∀b,b∈N->H' b=H b)->
  O5 A f μ m H h i vs gs N->O5 A f μ' m' H' h' i vs gs N
 |[],_,_,_,_,q=>q
 |v::vs,i,gs,N,hb,q=>by
  simp only[O5] at q⊢;obtain⟨g,gs',N1,N2,rfl,rfl,h3,h4⟩:=q;refine⟨g,gs',N1,N2,rfl,rfl, ?_,SA hm hl (λb hx=>hb b (by simp[hx])) h4⟩;split at h3
  ·rename_i hmo;obtain⟨x,hx,hq⟩:=h3;exact⟨x,hx,ace hl x g N1 (λb hx=>hb b (by simp[hx])) hq⟩
  ·exact⟨h3.1,xq hm hl v g h3.2⟩
def aaO{A:Adv}{f:Nat}:∀{vs:List V} {gs:List Value} {m:Mem} {G:GS} {i:Nat} (_:Bg base U w m G) (_:bT G.μ m (Gh U w G) vs gs) (_:G.out=[]) {vs':List V} {m':Mem} {l l':Log}
  (_:(Sl A f i vs).run m l=some (vs',m',l')),∃G' N,JB base U w m G m' G' N∧O5 A f G'.μ m' (bH w) (Gh U w G') i vs' gs N
 |[],gs,m,G,i,hg,hv,ho,vs',m',l,l',h=>by simp only[Sl,run_pure,fF,iP] at h;obtain⟨rfl,rfl,rfl⟩:=h;simp only[bT] at hv;exact⟨G,[],JB.same hg,hv,rfl⟩
 |v::vs,gs,m,G,i,hg,hv,ho,vs',m',l,l',h=>by
  obtain⟨g,gs',rfl,hv1,hv2⟩:=mJ hv;simp only[Sl] at h;replace h:=aj h;obtain⟨x,m1,l1,h1,h⟩:=h;replace h:=aj h;obtain⟨ys,m2,l2,h2,h⟩:=h;simp only[run_pure,fF,iP] at h;obtain⟨rfl,rfl,rfl⟩:=h;have step:∃G1 N1,JB base U w m G m1 G1 N1∧(match DN A f i with
   |1=>∃y,x=.d y∧ow (bH w) (Gh U w G1) y g N1
   |_=>N1=[]∧aG G1.μ m1 (Gh U w G1) x g):=by
   split at h1
   ·rename_i hmo;replace h1:=aj h1;obtain⟨y,m3,l3,h3,h1⟩:=h1;simp only[run_pure,fF,iP] at h1;obtain⟨rfl,rfl,rfl⟩:=h1;obtain⟨G1,N1,t1,q1⟩:=ap6 hg hv1 ho h3;refine⟨G1,N1,t1, ?_⟩
    try rw[hmo]
    exact⟨y,rfl,q1⟩
   ·rename_i hmo;simp only[run_pure,fF,iP] at h1;obtain⟨rfl,rfl,rfl⟩:=h1;refine⟨G,[],JB.same hg, ?_⟩
    first
     |exact⟨rfl,hv1⟩
     |split
      ·rename_i e;exact absurd e hmo
      ·exact⟨rfl,hv1⟩
  obtain⟨G1,N1,t1,q1⟩:=step;obtain⟨G2,N2,t2,q2⟩:=aaO t1.ok (t1.le.bT hv2) (t1.out.trans ho) h2;refine⟨G2,N1++N2,t1.trans t2, ?_⟩;simp only[O5];refine⟨g,gs',N1,N2,rfl,rfl, ?_,q2⟩;split at q1
  ·obtain⟨y,hy,hq⟩:=q1;exact⟨y,hy,TJ t2.le.view hq⟩
  ·exact⟨q1.1,t2.le.aG q1.2⟩
def ac3:∀(cs:List Cell) (k i:Nat),get (lM+(k+i)) (pV k cs)=cs[i]?
 |[],_,_=>by simp[pV,get]
 |c::cs,k,0=>by simp[pV,get]
 |c::cs,k,i+1=>by simp only[pV,get];rw[rG au];simp only[bZ,List.getElem?_cons_succ];rw[<-ac3 cs (k+1) i,show k+1+i=k+(i+1) from by omega]
def NY(cs:List Cell)(i:Nat):get (lM+i) (pV 0 cs)=cs[i]? :=by
 have:=ac3 cs 0 i
 rwa [Nat.zero_add] at this
def impμ(hs:List Value):Nat->Value:=λk=>hs.getD (k - lM) undef
def Xw{r:Nat}:∀{l:List Nat} {k i:Nat},idxOf r k l=some i->k<=i∧l[i - k]? =some r
 |[],_,_,h=>by simp[idxOf] at h
 |j::l,k,i,h=>by
  simp only[idxOf] at h
  by_cases e:r=j
  ·subst e;simp at h;subst h;simp
  ·rw[rG e] at h;simp only[bZ] at h;obtain⟨h1,h2⟩:=Xw h;refine⟨au, ?_⟩;rw[show i - k=(i - (k+1))+1 from by omega,List.getElem?_cons_succ];exact h2
def YE{m:Mem}:∀{rs:List Nat} {cs:List Cell} {i r:Nat},kinds m rs cs->rs[i]? =some r->∃c c',get r m=some c∧cs[i]? =some c'∧sameKind c c'
 |[],_,_,_,_,h=>by simp at h
 |r::rs,_,0,r',⟨c,c',cs',h1,h2,h3,_⟩,h=>by simp at h;subst h;subst h1;exact⟨c,c',h2,rfl,h3⟩
 |r::rs,_,i+1,r',⟨c,c',cs',h1,h2,h3,h4⟩,h=>by subst h1;simp only[List.getElem?_cons_succ] at h⊢;exact YE h4 h
def U6(U:Nat->Prop)(G:GS)(L:List Nat):Nat->Prop:=λb=>U b∧∀r,b∈G.F r->r∈L
def O6{L:List Nat}:(Gh U w G).le (view w (U6 U G L) (· ∈G.E)):=by
 intro b o v hv;unfold Gh view at hv;split at hv
 ·rename_i hc;unfold view;rw[if_pos ⟨⟨hc.1,λr hr=>absurd (.inr ⟨r,hr⟩) hc.2⟩,λhE=>hc.2 (.inl hE)⟩];exact hv
 ·cases hv
structure afJ(base:Nat)(U:Nat->Prop)(w:World)(m:Mem)(G:GS)(imp:List Nat)(cells:List Cell):Prop where
 ok:Bg base U w m G
 out:∀r,r∈G.out↔r∈imp
 kd:kinds m imp cells
def auQ(hg:Bg base U w m G){r:Nat}{fz fl:Bool}{ver s:Nat}{rows:List Row}(hc:get r m=some (.arr fz fl ver s rows))(hro:r ∉ G.out){L:List Nat}(hL:fz=false->r∈L)(o:Bool):
  ro (view w (U6 U G L) (· ∈G.E)) (.sl o s rows) (G.μ r):=by
 have hq:=hg.cell r _ hc hro;cases fz with
 |true=>exact U4 (F8 O6 _ _ hq.1)
 |false=>
  refine ahd O6 (Gg λb hb=>⟨⟨(hg.lt b (.inr ⟨r,hb⟩)).2.2,λk hk=> ?_⟩,hg.Ym r b hb⟩) hq o
  by_cases e:k=r
  ·rw[e];exact hL rfl
  ·exact absurd hk (hg.dj r k (Ne.symm e) b hb)
mutual
def acg{imp:List Nat}{cells:List Cell}(C:afJ base U w m G imp cells):∀{v:V} {g:Value} (_:aG G.μ m (Gh U w G) v g) {v':V} {lt:List Nat} {m':Mem} {l l':Log}
  (_:(lend imp v).run m l=some ((v',lt),m',l')),m'=m∧∀L:List Nat,(∀r,r∈lt->r∈L)->aG (impμ (imp.map G.μ)) (pV 0 cells) (view w (U6 U G L) (· ∈G.E)) v' g
 | .d x,g,hv,v',lt,m',l,l',h=>by simp only[lend,run_pure,fF,iP] at h;obtain⟨⟨rfl,rfl⟩,rfl,rfl⟩:=h;refine⟨rfl,λL hL=> ?_⟩;simp only[aG] at hv⊢;exact F8 O6 _ _ (ap4 hv)
 | .nil s,g,hv,v',lt,m',l,l',h=>by simp only[lend,run_pure,fF,iP] at h;obtain⟨⟨rfl,rfl⟩,rfl,rfl⟩:=h;refine⟨rfl,λL hL=> ?_⟩;simp only[aG] at hv⊢;simp[ro,hv]
 | .own r ver,g,hv,v',lt,m',l,l',h=>by
  simp only[lend] at h;replace h:=aj h;obtain⟨c,m1,l1,h1,h⟩:=h;rw[oI] at h1;cases h1;cases hc:get r m with
  |none=>rw[hc] at h;exact(ak h).elim
  |some c=>
   rw[hc] at h;cases c with
   |box _ _=>exact(ak h).elim
   |dead=>exact(ak h).elim
   |D5 _ _ _=>exact(ak h).elim
   |nR _ _=>exact(ak h).elim
   |mX _ _ _ _ _=>exact(ak h).elim
   |arr fz fl fV s rows=>
    simp only at h;replace h:=aj h;obtain⟨_,m2,l2,h1,h⟩:=h;obtain⟨hb,rfl,rfl⟩:=cu h1;have hb:=qU hb;subst hb;replace h:=aj h;obtain⟨_,m2,l2,h1,h⟩:=h;obtain⟨hi,rfl,rfl⟩:=cu h1;simp only[run_pure,fF,iP] at h;obtain⟨⟨rfl,rfl⟩,rfl,rfl⟩:=h;simp only[aG,hc] at hv;have hv:=hv.2.2 trivial;subst hv;refine⟨rfl,λL hL=> ?_⟩;have hro:r ∉ G.out:=λhr=>P5 hi ((C.out r).1 hr)
    simp only[aG];exact ac0 (auQ C.ok hc hro (λhf=>hL r (by subst hf;simp)) true)
 | .ptr r off,g,hv,v',lt,m',l,l',h=>by simp only[lend] at h;replace h:=aj h;obtain⟨i,m1,l1,h1,h⟩:=h;obtain⟨hi,rfl,rfl⟩:=eF h1;simp only[run_pure,fF,iP] at h;obtain⟨⟨rfl,rfl⟩,rfl,rfl⟩:=h;refine⟨rfl,λL hL=> ?_⟩;obtain⟨_,h2⟩:=Xw hi;rw[Nat.sub_zero] at h2;obtain⟨c,c',k1,k2,k3⟩:=YE C.kd h2;simp only[aG,k1] at hv;simp only[aG,NY,k2];refine⟨hv.1, ?_⟩;replace hv:=hv.2;cases c<;>cases c'<;>simp only[sameKind] at k3 hv⊢;obtain⟨b,e1,e2⟩:=hv;refine⟨b, ?_,e2⟩;simp only[impμ,Nat.add_sub_cancel_left,List.getD_eq_getElem?_getD,List.getElem?_map,h2,Ic,Option.getD_some,e1]
 | .rF row off,g,hv,v',lt,m',l,l',h=>by simp only[lend,run_pure,fF,iP] at h;obtain⟨⟨rfl,rfl⟩,rfl,rfl⟩:=h;refine⟨rfl,λL hL=> ?_⟩;simp only[aG] at hv⊢;obtain⟨b,o,e1,e2⟩:=hv;exact⟨b,o,e1,LC O6 row b o e2⟩
 | .zK v,g,hv,v',lt,m',l,l',h=>by simp only[lend] at h;replace h:=aj h;obtain⟨⟨a',la⟩,m1,l1,h1,h⟩:=h;simp only[run_pure,fF,iP] at h;obtain⟨⟨rfl,rfl⟩,rfl,rfl⟩:=h;simp only[aG] at hv;obtain⟨b,x,rfl,e2,e3⟩:=hv;obtain⟨hm1,q1⟩:=acg C e3 h1;refine⟨hm1,λL hL=> ?_⟩;simp only[aG];exact⟨b,x,rfl,O6 _ _ _ e2,q1 L hL⟩
 | .clo f a b,g,hv,v',lt,m',l,l',h=>by simp only[lend] at h;replace h:=aj h;obtain⟨⟨a',la⟩,m1,l1,h1,h⟩:=h;simp only at h;replace h:=aj h;obtain⟨⟨b',lb⟩,m2,l2,h2,h⟩:=h;simp only[run_pure,fF,iP] at h;obtain⟨⟨rfl,rfl⟩,rfl,rfl⟩:=h;simp only[aG] at hv;obtain⟨x,y,rfl,e2,e3⟩:=hv;obtain⟨hm1,q1⟩:=YF C e2 h1;rw[hm1] at h2;obtain⟨hm2,q2⟩:=YF C e3 h2;refine⟨hm2,λL hL=> ?_⟩;simp only[aG];exact⟨x,y,rfl,q1 L (λr hr=>hL r (by simp[hr])),q2 L (λr hr=>hL r (by simp[hr]))⟩
 | .agg cs,g,hv,v',lt,m',l,l',h=>by simp only[lend] at h;replace h:=aj h;obtain⟨⟨a',la⟩,m1,l1,h1,h⟩:=h;simp only[run_pure,fF,iP] at h;obtain⟨⟨rfl,rfl⟩,rfl,rfl⟩:=h;simp only[aG] at hv;obtain⟨x,rfl,e2⟩:=hv;obtain⟨hm1,q1⟩:=YF C e2 h1;refine⟨hm1,λL hL=> ?_⟩;simp only[aG];exact⟨x,rfl,q1 L hL⟩
 | .rE _ _ _ _,g,hv,v',lt,m',l,l',h=>(ak h).elim
 | .zL _,g,hv,v',lt,m',l,l',h=>(ak h).elim
 | .undef,g,hv,v',lt,m',l,l',h=>(ak h).elim
def YF{imp:List Nat}{cells:List Cell}(C:afJ base U w m G imp cells):∀{vs:List V} {gs:List Value} (_:bT G.μ m (Gh U w G) vs gs) {vs':List V} {lt:List Nat} {m':Mem} {l l':Log}
  (_:(acS imp vs).run m l=some ((vs',lt),m',l')),m'=m∧∀L:List Nat,(∀r,r∈lt->r∈L)->bT (impμ (imp.map G.μ)) (pV 0 cells) (view w (U6 U G L) (· ∈G.E)) vs' gs
 |[],gs,hv,v',lt,m',l,l',h=>by simp only[acS,run_pure,fF,iP] at h;obtain⟨⟨rfl,rfl⟩,rfl,rfl⟩:=h;simp only[bT] at hv;subst hv;exact⟨rfl,λ_ _=>by simp[bT]⟩
 |v::vs,gs,hv,v',lt,m',l,l',h=>by obtain⟨g,gs',rfl,hv1,hv2⟩:=mJ hv;simp only[acS] at h;replace h:=aj h;obtain⟨⟨a',la⟩,m1,l1,h1,h⟩:=h;simp only at h;replace h:=aj h;obtain⟨⟨b',lb⟩,m2,l2,h2,h⟩:=h;simp only[run_pure,fF,iP] at h;obtain⟨⟨rfl,rfl⟩,rfl,rfl⟩:=h;obtain⟨hm1,q1⟩:=acg C hv1 h1;rw[hm1] at h2;obtain⟨hm2,q2⟩:=YF C hv2 h2;refine⟨hm2,λL hL=> ?_⟩;simp only[bT];exact⟨g,gs',rfl,q1 L (λr hr=>hL r (by simp[hr])),q2 L (λr hr=>hL r (by simp[hr]))⟩
end
def YG{imp:List Nat}{cells:List Cell}(C:afJ base U w m G imp cells):∀{vs:List V} {gs:List Value} (_:bT G.μ m (Gh U w G) vs gs) {row:Row} {lt:List Nat} {m':Mem} {l l':Log}
  (_:(Sr imp vs).run m l=some ((row,lt),m',l')),m'=m∧∀L:List Nat,(∀r,r∈lt->r∈L)->ig (view w (U6 U G L) (· ∈G.E)) row gs
 |[],gs,hv,row,lt,m',l,l',h=>by simp only[Sr,run_pure,fF,iP] at h;obtain⟨⟨rfl,rfl⟩,rfl,rfl⟩:=h;exact⟨rfl,λ_ _=>by simp[ig]⟩
 |v::vs,gs,hv,row,lt,m',l,l',h=>by
  obtain⟨g,gs',rfl,hv1,hv2⟩:=mJ hv;simp only[Sr] at h;replace h:=aj h;obtain⟨⟨a',la⟩,m1,l1,h1,h⟩:=h;obtain⟨hm1,q1⟩:=acg C hv1 h1;cases a' with
  |d x=>simp only at h;replace h:=aj h;obtain⟨⟨b',lb⟩,m2,l2,h2,h⟩:=h;simp only[run_pure,fF,iP] at h;obtain⟨⟨rfl,rfl⟩,rfl,rfl⟩:=h;rw[hm1] at h2;obtain⟨hm2,q2⟩:=YG C hv2 h2;refine⟨hm2,λL hL=> ?_⟩;have:=q1 L (λr hr=>hL r (by simp[hr]));simp only[aG] at this;exact⟨g,gs',rfl,this,q2 L (λr hr=>hL r (by simp[hr]))⟩
  |_=>exact(ak h).elim
def alU{imp:List Nat}{cells:List Cell}(C:afJ base U w m G imp cells){v:V}{g:Value}(hv:aG G.μ m (Gh U w G) v g){v':V}{lt:List Nat}{m':Mem}{l l':Log}
  (h:(acd imp v).run m l=some ((v',lt),m',l')):m'=m∧∀L:List Nat,(∀r,r∈lt->r∈L)->aG (impμ (imp.map G.μ)) (pV 0 cells) (view w (U6 U G L) (· ∈G.E)) v' g:=by
 cases v with
 |ptr r off=>
  simp only[acd] at h;replace h:=aj h;obtain⟨c,m1,l1,h1,h⟩:=h;rw[oI] at h1;cases h1;cases hc:get r m with
  |none=>rw[hc] at h;exact(ak h).elim
  |some c=>
   rw[hc] at h;cases c with
   |box t cs=>
    simp only at h;replace h:=aj h;obtain⟨_,m2,l2,h1,h⟩:=h;obtain⟨hi,rfl,rfl⟩:=cu h1;replace h:=aj h;obtain⟨⟨row,la⟩,m2,l2,h1,h⟩:=h;simp only[run_pure,fF,iP] at h;obtain⟨⟨rfl,rfl⟩,rfl,rfl⟩:=h;have hro:r ∉ G.out:=λhr=>P5 hi ((C.out r).1 hr)
    obtain⟨b,a,e1,e2,e3,e4⟩:=C.ok.cell r _ hc hro;obtain⟨hm,q⟩:=YG C e3 h1;refine⟨hm,λL hL=> ?_⟩;simp only[aG,hc] at hv⊢;obtain⟨b',e5,e6⟩:=hv.2;rw[e1] at e5;cases e5;refine⟨b,0,by rw[Nat.zero_add];exact e6,Xq row 0 a.toList (λj u hj=> ?_) (q L (λk hk=>hL k (by simp[hk])))⟩;rw[Nat.zero_add];have hb:b∈G.F r:=by rw[e4];simp
    refine Gg (N:=[b]) (λb' hb'=> ?_) b (by simp) a t _ e2 j u hj;simp only[List.mem_singleton] at hb';subst hb';refine⟨⟨(C.ok.lt _ (.inr ⟨r,hb⟩)).2.2,λk hk=> ?_⟩,C.ok.Ym r _ hb⟩
    by_cases e:k=r
    ·rw[e];exact hL r (by simp)
    ·exact absurd hk (C.ok.dj r k (Ne.symm e) _ hb)
   |_=>exact(ak h).elim
 |rF row off=>simp only[acd,run_pure,fF,iP] at h;obtain⟨⟨rfl,rfl⟩,rfl,rfl⟩:=h;refine⟨rfl,λL hL=> ?_⟩;simp only[aG] at hv⊢;obtain⟨b,o,e1,e2⟩:=hv;exact⟨b,o,e1,LC O6 row b o e2⟩
 |_=>exact(ak h).elim
def aaP{A:Adv}{f:Nat}{imp:List Nat}{cells:List Cell}(C:afJ base U w m G imp cells):
  ∀{vs:List V} {gs:List Value} {i:Nat} {N:List Nat} (_:O5 A f G.μ m (bH w) (Gh U w G) i vs gs N) {vs':List V} {lt:List Nat} {m':Mem} {l l':Log}
  (_:(Sv A imp f i vs).run m l=some ((vs',lt),m',l')),m'=m∧∀L:List Nat,(∀r,r∈lt->r∈L)->O5 A f (impμ (imp.map G.μ)) (pV 0 cells) (bH w) (view w (U6 U G L) (· ∈G.E)) i vs' gs N
 |[],gs,i,N,hv,v',lt,m',l,l',h=>by simp only[Sv,run_pure,fF,iP] at h;obtain⟨⟨rfl,rfl⟩,rfl,rfl⟩:=h;exact⟨rfl,λ_ _=>hv⟩
 |v::vs,gs,i,N,hv,v',lt,m',l,l',h=>by
  simp only[O5] at hv;obtain⟨g,gs',N1,N2,rfl,rfl,hv1,hv2⟩:=hv;simp only[Sv] at h;replace h:=aj h;obtain⟨⟨a',la⟩,m1,l1,h1,h⟩:=h;simp only at h;replace h:=aj h;obtain⟨⟨b',lb⟩,m2,l2,h2,h⟩:=h;simp only[run_pure,fF,iP] at h;obtain⟨⟨rfl,rfl⟩,rfl,rfl⟩:=h;have step:m1=m∧∀L:List Nat,(∀r,r∈la->r∈L)->(match DN A f i with
   |1=>∃x,a'=.d x∧ow (bH w) (view w (U6 U G L) (· ∈G.E)) x g N1
   |_=>N1=[]∧aG (impμ (imp.map G.μ)) (pV 0 cells) (view w (U6 U G L) (· ∈G.E)) a' g):=by
   split at h1
   ·rename_i hmo;rw[hmo] at hv1⊢;simp only[run_pure,fF,iP] at h1;obtain⟨⟨rfl,rfl⟩,rfl,rfl⟩:=h1;refine⟨rfl,λL hL=> ?_⟩;obtain⟨x,hx,hq⟩:=hv1;exact⟨x,hx,TJ O6 hq⟩
   ·rename_i hmo;rw[hmo] at hv1⊢;obtain⟨hN,hv1⟩:=hv1;cases v with
    |own r ver=>simp only at h1;replace h1:=aj h1;obtain⟨_,m3,l3,h3,h1⟩:=h1;obtain⟨hb,rfl,rfl⟩:=cu h3;have hb:=qU hb;subst hb;replace h1:=aj h1;obtain⟨j,m3,l3,h3,h1⟩:=h1;obtain⟨hj,rfl,rfl⟩:=eF h3;simp only[run_pure,fF,iP] at h1;obtain⟨⟨rfl,rfl⟩,rfl,rfl⟩:=h1;refine⟨rfl,λL hL=>⟨hN, ?_⟩⟩;obtain⟨_,h2⟩:=Xw hj;rw[Nat.sub_zero] at h2;obtain⟨c,c',k1,k2,k3⟩:=YE C.kd h2;simp only[aG,k1] at hv1;simp only[aG,NY,k2];refine⟨hv1.1, ?_⟩;replace hv1:=hv1.2;cases c<;>cases c'<;>simp only[sameKind] at k3 hv1⊢;refine⟨au,λ_=> ?_⟩;simp only[impμ,Nat.add_sub_cancel_left,List.getD_eq_getElem?_getD,List.getElem?_map,h2,Ic,Option.getD_some];exact hv1.2 k3.1.symm
    |d _=>exact(ak h1).elim
    |nil _=>exact(ak h1).elim
    |ptr _ _=>exact(ak h1).elim
    |rE _ _ _ _=>exact(ak h1).elim
    |rF _ _=>exact(ak h1).elim
    |zK _=>exact(ak h1).elim
    |clo _ _ _=>exact(ak h1).elim
    |agg _=>exact(ak h1).elim
    |zL _=>exact(ak h1).elim
    |undef=>exact(ak h1).elim
   ·rename_i hmo;rw[hmo] at hv1⊢;obtain⟨hN,hv1⟩:=hv1;cases v with
    |nil s=>simp only[run_pure,fF,iP] at h1;obtain⟨⟨rfl,rfl⟩,rfl,rfl⟩:=h1;exact⟨rfl,λL hL=>⟨hN,hv1⟩⟩
    |d _=>exact(ak h1).elim
    |own _ _=>exact(ak h1).elim
    |ptr _ _=>exact(ak h1).elim
    |rE _ _ _ _=>exact(ak h1).elim
    |rF _ _=>exact(ak h1).elim
    |zK _=>exact(ak h1).elim
    |clo _ _ _=>exact(ak h1).elim
    |agg _=>exact(ak h1).elim
    |zL _=>exact(ak h1).elim
    |undef=>exact(ak h1).elim
   ·rename_i hmo;rw[hmo] at hv1⊢;obtain⟨hN,hv1⟩:=hv1;obtain⟨rfl,q⟩:=alU C hv1 h1;exact⟨rfl,λL hL=>⟨hN,q L hL⟩⟩
   ·rename_i ap7 aWD aWE aWF;have hm1:∀(α:Prop) (β:Prop),(match DN A f i with|1=>α|_=>β)=β:=by
     intro α β;split
     ·rename_i e;exact absurd e ap7
     ·rfl
    rw[hm1] at hv1;obtain⟨hN,hv1⟩:=hv1;obtain⟨rfl,q⟩:=acg C hv1 h1;refine⟨rfl,λL hL=> ?_⟩;rw[hm1];exact⟨hN,q L hL⟩
  obtain⟨hm1,q1⟩:=step;rw[hm1] at h2;obtain⟨hm2,q2⟩:=aaP C hv2 h2;refine⟨hm2,λL hL=> ?_⟩;simp only[O5];exact⟨g,gs',N1,N2,rfl,rfl,q1 L (λr hr=>hL r (by simp[hr])),q2 L (λr hr=>hL r (by simp[hr]))⟩
end
end Go.Vm
namespace Go.Vm
open Go
def LD{w:World}{U X:Nat->Prop}{b o:Nat}{v:Value}(h:view w U X b o=some v):U b∧¬X b∧w.cell? ⟨b,o,none⟩=some v:=by
 unfold view at h;split at h
 ·rename_i hc;exact⟨hc.1,hc.2,h⟩
 ·cases h
def ach{w:World}{U X:Nat->Prop}{b o:Nat}{v:Value}(h1:U b)(h2:¬X b)(h3:w.cell? ⟨b,o,none⟩=some v):view w U X b o=some v:=by unfold view;rw[if_pos ⟨h1,h2⟩];exact h3
def cell_of_heap{w w':World}{b:Nat}(h:w'.heap[b]? =w.heap[b]?)(o:Nat):w'.cell? ⟨b,o,none⟩=w.cell? ⟨b,o,none⟩:=by simp[World.cell?,h]
def lt_of_cell{w:World}{b o:Nat}{v:Value}(h:w.cell? ⟨b,o,none⟩=some v):b<w.heap.size:=by have:=block_lt_of_cell h;simpa using this
section
variable {base:Nat} {U:Nat->Prop} {w w':World} {m:Mem} {G:GS}
def Bg.world(hg:Bg base U w m G)(hk:Keep G.E w w'){E':List Nat}(hn:E'.Nodup)(hE:∀b,b∈E'->(b∈G.E∨w.heap.size<=b)∧b<w'.heap.size):
  Bg base U w' m {G with E:=E'}∧(Gh U w G).le (Gh U w' {G with E:=E'}):=by
 have hnE:∀b,b<w.heap.size->b ∉ G.E->b ∉ E':=λb hb hx he=>by
  rcases(hE b he).1 with h|h
  ·exact hx h
  ·omega
 have hF:∀r b,b∈G.F r->w'.heap[b]? =w.heap[b]? :=λr b hb=>hk.block b (hg.lt b (.inr ⟨r,hb⟩)).1 (hg.Ym r b hb)
 have hle:(Gh U w G).le (Gh U w' {G with E:=E'}):=by
  intro b o v hv;obtain⟨h1,h2,h3⟩:=LD hv;have hlt:=lt_of_cell h3;have hbE:b ∉ G.E:=λh=>h2 (.inl h)
  refine ach h1 ?_ ((cell_of_heap (hk.block b hlt hbE) o).trans h3);rintro(h|h)
  ·exact hnE b hlt hbE h
  ·exact h2 (.inr h)
 refine⟨⟨?_,hg.dj,λr b hb=>hnE b (hg.lt b (.inr ⟨r,hb⟩)).1 (hg.Ym r b hb),hg.nd,hn, ?_,λb hb=>hg.up b (Nat.le_trans hk.size hb),Nat.le_trans hg.bs hk.size,hg.none_,hg.out_⟩,hle⟩
 ·intro r c hc ho;exact Gf (pW _ _) hle rfl (λb hb=>hF r b hb) (hg.cell r c hc ho)
 ·rintro b (h|⟨r,h⟩)
  ·refine⟨(hE b h).2, ?_⟩;rcases(hE b h).1 with h'|h'
   ·exact(hg.lt b (.inl h')).2
   ·exact⟨Nat.le_trans hg.bs h',hg.up b h'⟩
  ·have:=hg.lt b (.inr ⟨r,h⟩);exact⟨Nat.lt_of_lt_of_le this.1 hk.size,this.2⟩
def afK:∀{L:List Nat} {m:Mem} {G:GS} (_:Bg base U w m G) (_:∀r,r∈L->r ∉ G.out) {x:Unit} {m':Mem} {l l':Log} (_:(freeze L).run m l=some (x,m',l')),
  ∃F',Bg base U w m' ⟨G.μ,F',G.E,G.out⟩∧UQ m G m' ⟨G.μ,F',G.E,G.out⟩∧(∀r,r∈L->F' r=[])∧(∀r,F' r=[]∨F' r=G.F r)∧(∀k,k ∉ L->get k m'=get k m)
 |[],m,G,hg,ho,x,m',l,l',h=>by simp only[Vm.freeze,run_pure,fF,iP] at h;obtain⟨_,rfl,rfl⟩:=h;exact⟨G.F,hg,UQ.refl _ _,by simp,λr=> .inr rfl,λ_ _=>rfl⟩
 |r::L,m,G,hg,ho,x,m',l,l',h=>by
  simp only[Vm.freeze] at h;replace h:=aj h;obtain⟨c,m1,l1,h1,h⟩:=h;rw[oI] at h1;cases h1;cases hc:get r m with
  |none=>rw[hc] at h;exact(ak h).elim
  |some c=>
   rw[hc] at h;cases c with
   |box _ _=>exact(ak h).elim
   |dead=>exact(ak h).elim
   |D5 _ _ _=>exact(ak h).elim
   |nR _ _=>exact(ak h).elim
   |mX _ _ _ _ _=>exact(ak h).elim
   |arr fz fl ver s rows=>
    replace h:=aj h;obtain⟨_,m1,l1,h1,h⟩:=h;simp only[uK,fF,iP] at h1;obtain⟨_,rfl,rfl⟩:=h1;obtain⟨k1,k2,_⟩:=hg.freeze hc (ho r (by simp));obtain⟨F',q1,q2,q3,q4,q5⟩:=afK k1 (λk hk=>ho k (by simp[hk])) h;refine⟨F',q1,k2.trans q2, ?_, ?_, ?_⟩
    ·intro k hk;simp only[List.mem_cons] at hk;rcases hk with rfl|hk
     ·rcases q4 k with e|e
      ·exact e
      ·rw[e];simp
     ·exact q3 k hk
    ·intro k;rcases q4 k with e|e
     ·exact .inl e
     ·by_cases ek:k=r
      ·subst ek;rw[e];left;simp
      ·have e':F' k=Ld G.F r [] k:=e;rw[e',fP _ ek];exact .inr rfl
    ·intro k hk;simp only[List.mem_cons,not_or] at hk;rw[q5 k hk.2,iQ hk.1]
def ac4{k:IntKind}{x:D}{n:Int}(h:asInt k x=some n):x=.int k n:=by
 cases x<;>simp[asInt] at h;rename_i k' n'
 by_cases e:k'=k
 ·subst e;simp at h;subst h;rfl
 ·simp[e] at h
def aaQ{x:D}{b:Bool}(h:asBool x=some b):x=.bool b:=by cases x<;>simp[asBool] at h;subst h;rfl
def ac5{x:D}{b:List UInt8}(h:afB x=some b):x=.str b:=by cases x<;>simp[afB] at h;subst h;rfl
def afL{s:Nat}{x:D}{rows:List Row}(h:apP s x=some rows):∃o,x=.sl o s rows:=by
 cases x<;>simp[apP] at h;rename_i o s' rows'
 by_cases e:s'=s
 ·subst e;simp at h;subst h;exact⟨o,rfl⟩
 ·rw[rG e] at h;simp at h
def Xx{s:Nat}{x:D}{rows:List Row}(h:anf s x=some rows):x=.sl true s rows:=by
 cases x<;>simp[anf] at h;rename_i o s' rows';cases o<;>simp at h
 by_cases e:s'=s
 ·subst e;simp at h;subst h;rfl
 ·rw[rG e] at h;simp at h
def aiI{row:Row}{j:Nat}{x:D}{r:Row}(h:row.drop j=x::r):nth row j=x∧row.drop (j+1)=r:=by
 have h1:row[j]? =some x:=by
  have:(row.drop j)[0]? =some x:=by rw[h];rfl
  rwa [List.getElem?_drop,Nat.add_zero] at this
 refine⟨by simp[nth,h1], ?_⟩;rw[<-List.drop_drop,h];rfl
def Bg.ac6(hg:Bg base U w m G){N E:List Nat}(hE:(N++E).Perm G.E):Bg base U w m {G with E:=E}∧UQ m G m {G with E:=E}∧∀{x:D} {g:Value},ow (bH w) (Gh U w G) x g N->ro (Gh U w {G with E:=E}) x g:=by
 have hnd:=hE.nodup_iff.2 hg.ndE;have hmem:∀b,b∈N++E->b∈G.E:=λb hb=>hE.mem_iff.1 hb
 obtain⟨h1,h2⟩:=hg.less E (List.nodup_append.1 hnd).2.1 (λb hb=>hmem b (by simp[hb]));refine⟨h1,h2,fun{x g} q=>ay2 h2.view x g N (Gg λb hb=>⟨(hg.lt b (.inl (hmem b (by simp[hb])))).2.2, ?_⟩) q⟩;rintro(h|⟨r,h⟩)
 ·exact(List.nodup_append.1 hnd).2.2 b hb b h rfl
 ·exact hg.Ym r b h (hmem b (by simp[hb]))
structure Grew(base:Nat)(U:Nat->Prop)(w:World)(m:Mem)(G:GS)(m':Mem)(G':GS)(E:List Nat):Prop where
 ok:Bg base U w m' G'
 le:UQ m G m' G'
 E:G'.E=E
 out:G'.out=G.out
 old:∀k c,get k m=some c->get k m'=some c
 μ:∀k c,get k m=some c->G'.μ k=G.μ k
def Grew.trans{m1 m2 m3:Mem}{G1 G2 G3:GS}{E E':List Nat}(a:Grew base U w m1 G1 m2 G2 E)(b:Grew base U w m2 G2 m3 G3 E'):Grew base U w m1 G1 m3 G3 E':=
 ⟨b.ok,a.le.trans b.le,b.E,b.out.trans a.out,λk c h=>b.old k c (a.old k c h),λk c h=>(b.μ k c (a.old k c h)).trans (a.μ k c h)⟩
def TK{k:Nat}{c:Cell}{x:Unit}{m':Mem}{l l':Log}(h:(new k c).run m l=some (x,m',l')):get k m=none∧m'=put k c m:=by
 simp only[new] at h;replace h:=aj h;obtain⟨_,m1,l1,h1,h⟩:=h;simp only[free] at h1;replace h1:=aj h1;obtain⟨c',m2,l2,h2,h1⟩:=h1;rw[oI] at h2;cases h2;cases hc:get k m with
 |some c=>rw[hc] at h1;exact(ak h1).elim
 |none=>rw[hc] at h1;simp only[run_pure,fF,iP] at h1;obtain⟨_,rfl,rfl⟩:=h1;simp only[uK,fF,iP] at h;exact⟨rfl,h.2.1.symm⟩
def afM(hg:Bg base U w m G)(ho:∀r,r∈G.out->∃c,get r m=some c){k:Nat}{fl:Bool}{s:Nat}{rows:List Row}{g:Value}{N E:List Nat}(hE:(N++E).Perm G.E)
  (hq:ow (bH w) (Gh U w G) (.sl true s rows) g N) {x:Unit} {m':Mem} {l l':Log} (h:(new k (.arr false fl 0 s rows)).run m l=some (x,m',l')):
  ∃G',Grew base U w m G m' G' E∧aG G'.μ m' (Gh U w G') (.own k 0) g:=by
 obtain⟨hn,rfl⟩:=TK h;have hk:k ∉ G.out:=λhx=>by obtain⟨c,hc⟩:=ho k hx;rw[hn] at hc;cases hc
 obtain⟨F',h1,h2⟩:=hg.aAm fl hn hk hE hq;refine⟨_,⟨h1,h2,rfl,rfl,λj c hj=> ?_,λj c hj=> ?_⟩, ?_⟩
 ·have hne:j≠k:=λe=>by subst e;rw[hn] at hj;cases hj
  rw[iQ hne];exact hj
 ·exact Du _ (λe=>by subst e;rw[hn] at hj;cases hj)
 ·have:Ro g:=by simp only[ow] at hq;rcases hq with⟨_,rfl,_⟩|⟨b,cap,cs,t,N',rfl,_⟩<;>exact⟨_,_,_,rfl⟩
  simp[aG,eU,this]
def alV(hg:Bg base U w m G)(ho:∀r,r∈G.out->∃c,get r m=some c){k b:Nat}{T:TypeId}{vs:List V}{a:Array Value}{E:List Nat}(hE:(b::E).Perm G.E)
  (hH:bH w b=some (.cells a T (0,0))) (hq:bT G.μ m (Gh U w G) vs a.toList) {x:Unit} {m':Mem} {l l':Log} (h:(new k (.box T vs)).run m l=some (x,m',l')):
  ∃G',Grew base U w m G m' G' E∧aG G'.μ m' (Gh U w G') (.ptr k 0) (.pointer (some ⟨b,0,none⟩)):=by
 obtain⟨hn,rfl⟩:=TK h;have hk:k ∉ G.out:=λhx=>by obtain⟨c,hc⟩:=ho k hx;rw[hn] at hc;cases hc
 have hnd:=hE.nodup_iff.2 hg.ndE;have hμ:∀j,j≠k->YB G.μ k (.pointer (some ⟨b,0,none⟩)) j=G.μ j:=λj e=>Du _ e
 have hle:zJ G.μ m (YB G.μ k (.pointer (some ⟨b,0,none⟩))) (put k (.box T vs) m):=xu hμ (λc h=>by rw[hn] at h;cases h);obtain⟨h1,h2⟩:=hg.set k (.box T vs) (YB G.μ k (.pointer (some ⟨b,0,none⟩))) [b] E G.out (by simpa using hnd) (λx hx=> .inr (hE.mem_iff.1 (by simpa using hx))) hle hμ (λ_ _=>Iff.rfl) (λh=>absurd h hk)
  (λhv _=>⟨b,a,wH _ _ _,hH,pX hle hv _ _ hq,rfl⟩)
 refine⟨_,⟨h1,h2,rfl,rfl,λj c hj=> ?_,λj c hj=> ?_⟩, ?_⟩
 ·rw[iQ (λe=>by subst e;rw[hn] at hj;cases hj)];exact hj
 ·exact Du _ (λe=>by subst e;rw[hn] at hj;cases hj)
 ·simp[aG,eU,ap2]
def aaR(hg:Bg base U w m G)(ho:∀r,r∈G.out->∃c,get r m=some c){row:Row}{j:Nat}{x:D}{g:Value}{N E:List Nat}(hE:(N++E).Perm G.E)(hx:nth row j=x)
  (hq:ow (bH w) (Gh U w G) x g N) {ct:CT} {own fl:Bool} {key:Nat} {v:V} {m':Mem} {l l':Log}
  (h:(NV own fl key row j ct).run m l=some (v,m',l')):
  ∃G',Grew base U w m G m' G' E∧aG G'.μ m' (Gh U w G') v g:=by
 obtain⟨d1,d2,d3⟩:=hg.ac6 hE;have plain:Grew base U w m G m {G with E:=E} E:=⟨d1,d2,rfl,rfl,λ_ _ h=>h,λ_ _ _=>rfl⟩
 have hro:=d3 hq;cases ct with
 |int k=>
  simp only[NV,fZ,hx,Acc.run] at h;cases ha:asInt k x with
  |none=>simp[ha,Acc.run] at h
  |some n=>simp only[ha,Acc.run,fF,iP] at h;obtain⟨rfl,rfl,rfl⟩:=h;refine⟨_,plain, ?_⟩;rw[ac4 ha] at hro;simpa[aG] using hro
 |bool=>
  simp only[NV,afC,hx,Acc.run] at h;cases ha:asBool x with
  |none=>simp[ha,Acc.run] at h
  |some n=>simp only[ha,Acc.run,fF,iP] at h;obtain⟨rfl,rfl,rfl⟩:=h;refine⟨_,plain, ?_⟩;rw[aaQ ha] at hro;simpa[aG] using hro
 |str=>
  simp only[NV,cStr,hx,Acc.run] at h;cases ha:afB x with
  |none=>simp[ha,Acc.run] at h
  |some n=>simp only[ha,Acc.run,fF,iP] at h;obtain⟨rfl,rfl,rfl⟩:=h;refine⟨_,plain, ?_⟩;rw[ac5 ha] at hro;simpa[aG] using hro
 |other=>exact(ak h).elim
 |sl s=>
  cases own with
  |false=>
   simp only[NV,TD,hx,Acc.run] at h;cases ha:apP s x with
   |none=>simp[ha,Acc.run] at h
   |some n=>simp only[ha,Acc.run,fF,iP] at h;obtain⟨rfl,rfl,rfl⟩:=h;refine⟨_,plain, ?_⟩;obtain⟨o,rfl⟩:=afL ha;simp only[aG];exact ac0 hro
  |true=>
   simp only[NV,acP,hx,Acc.run] at h;cases ha:anf s x with
   |none=>simp[ha,Acc.run] at h
   |some n=>simp only[ha,Acc.run] at h;have:=Xx ha;subst this;replace h:=aj h;obtain⟨_,m1,l1,h1,h⟩:=h;simp only[run_pure,fF,iP] at h;obtain⟨rfl,rfl,rfl⟩:=h;exact afM hg ho hE hq h1
def BR{H:Heap}{h:View}{x:D}{r:Row}{cs:List Value}{N:List Nat}(q:fU H h (x::r) cs N):∃v cs' N1 N2,cs=v::cs'∧N=N1++N2∧ow H h x v N1∧fU H h r cs' N2:=by simpa[fU] using q
def ZG{N1 N2 E E0:List Nat}(h:(N1++N2++E).Perm E0):(N1++(N2++E)).Perm E0:=by rwa [BO] at h
def ac7{own:List Nat}{r dst:Nat}{row:Row}:∀{cts:List CT} {fs:List Bool} {j:Nat} {m:Mem} {G:GS} {gs:List Value} {N E:List Nat} (_:Bg base U w m G) (_:∀r,r∈G.out->∃c,get r m=some c)
  (_:(N++E).Perm G.E) (_:fU (bH w) (Gh U w G) (row.drop j) gs N) (_:row.length=j+cts.length) (_:gs.length=cts.length) {vs:List V} {m':Mem} {l l':Log}
  (_:(Yr own r dst row j cts fs).run m l=some (vs,m',l')),∃G',Grew base U w m G m' G' E∧bT G'.μ m' (Gh U w G') vs gs
 |[],fs,j,m,G,gs,N,E,hg,ho,hE,hq,hlen,hgl,vs,m',l,l',h=>by simp only[Yr,run_pure,fF,iP] at h;obtain⟨rfl,rfl,rfl⟩:=h;rw[List.drop_eq_nil_of_le (by simp at hlen;omega)] at hq;simp only[fU] at hq;subst hq;simp at hgl;subst hgl;obtain⟨d1,d2,_⟩:=hg.ac6 hE;exact⟨_,⟨d1,d2,rfl,rfl,λ_ _ h=>h,λ_ _ _=>rfl⟩,by simp[bT]⟩
 |ct::cts,fs,j,m,G,gs,N,E,hg,ho,hE,hq,hlen,hgl,vs,m',l,l',h=>by
  cases hd:row.drop j with
  |nil=>have:=congrArg List.length hd;simp at this hlen;omega
  |cons x rest=>obtain⟨hx,hrest⟩:=aiI hd;rw[hd] at hq;obtain⟨g,gs',N1,N2,rfl,rfl,q1,q2⟩:=BR hq;simp only[Yr] at h;replace h:=aj h;obtain⟨v,m1,l1,h1,h⟩:=h;replace h:=aj h;obtain⟨vs',m2,l2,h2,h⟩:=h;simp only[run_pure,fF,iP] at h;obtain⟨rfl,rfl,rfl⟩:=h;obtain⟨G1,t1,s1⟩:=aaR hg ho (ZG hE) hx q1 h1;obtain⟨G2,t2,s2⟩:=ac7 t1.ok (λk hk=>by rw[t1.out] at hk;obtain⟨c,hc⟩:=ho k hk;exact⟨c,t1.old k c hc⟩) (by rw[t1.E]) (by rw[hrest];exact Xu t1.le.view q2) (by simp at hlen;omega) (by simpa using hgl) h2;refine⟨G2,t1.trans t2, ?_⟩;simp only[bT];exact⟨g,gs',rfl,t2.le.aG s1,s2⟩
def U7{Yp:List Nat}{dst ri:Nat}{row:Row}:∀{cts:List CT} {fs:List Bool} {j:Nat} {m:Mem} {G:GS} {gs:List Value} {N E:List Nat} (_:Bg base U w m G) (_:∀r,r∈G.out->∃c,get r m=some c)
  (_:(N++E).Perm G.E) (_:fU (bH w) (Gh U w G) (row.drop j) gs N) (_:row.length=j+cts.length) (_:gs.length=cts.length) {vs:List V} {m':Mem} {l l':Log}
  (_:(Sz Yp dst ri row j cts fs).run m l=some (vs,m',l')),∃G',Grew base U w m G m' G' E∧bT G'.μ m' (Gh U w G') vs gs
 |[],fs,j,m,G,gs,N,E,hg,ho,hE,hq,hlen,hgl,vs,m',l,l',h=>by simp only[Sz,run_pure,fF,iP] at h;obtain⟨rfl,rfl,rfl⟩:=h;rw[List.drop_eq_nil_of_le (by simp at hlen;omega)] at hq;simp only[fU] at hq;subst hq;simp at hgl;subst hgl;obtain⟨d1,d2,_⟩:=hg.ac6 hE;exact⟨_,⟨d1,d2,rfl,rfl,λ_ _ h=>h,λ_ _ _=>rfl⟩,by simp[bT]⟩
 |ct::cts,fs,j,m,G,gs,N,E,hg,ho,hE,hq,hlen,hgl,vs,m',l,l',h=>by
  cases hd:row.drop j with
  |nil=>have:=congrArg List.length hd;simp at this hlen;omega
  |cons x rest=>obtain⟨hx,hrest⟩:=aiI hd;rw[hd] at hq;obtain⟨g,gs',N1,N2,rfl,rfl,q1,q2⟩:=BR hq;simp only[Sz] at h;replace h:=aj h;obtain⟨v,m1,l1,h1,h⟩:=h;replace h:=aj h;obtain⟨vs',m2,l2,h2,h⟩:=h;simp only[run_pure,fF,iP] at h;obtain⟨rfl,rfl,rfl⟩:=h;obtain⟨G1,t1,s1⟩:=aaR hg ho (ZG hE) hx q1 h1;obtain⟨G2,t2,s2⟩:=U7 t1.ok (λk hk=>by rw[t1.out] at hk;obtain⟨c,hc⟩:=ho k hk;exact⟨c,t1.old k c hc⟩) (by rw[t1.E]) (by rw[hrest];exact Xu t1.le.view q2) (by simp at hlen;omega) (by simpa using hgl) h2;refine⟨G2,t1.trans t2, ?_⟩;simp only[bT];exact⟨g,gs',rfl,t2.le.aG s1,s2⟩
def valOf(P:Program)(t:TypeId)(cs:List Value)(g:Value):Prop:=if H6 P t=true then g=.agg cs.toArray else cs=[g]
def ac8(P:Program)(H:Heap)(h:View)(t:TypeId)(row:Row)(g:Value)(N:List Nat):Prop:=match ae9 P t with
 |some T=>∃b a N1,g=.pointer (some ⟨b,0,none⟩)∧H b=some (.cells a T (0,0))∧fU H h row a.toList N1∧row.length=a.size∧N=b::N1
 |none=>∃cs,valOf P t cs g∧fU H h row cs N∧row.length=cs.length
def afN{P:Program}{H H':Heap}{h h':View}(hl:h.le h'){t:TypeId}{row:Row}{g:Value}{N:List Nat}(hb:∀b,b∈N->H' b=H b)(q:ac8 P H h t row g N):ac8 P H' h' t row g N:=by
 unfold ac8 at q⊢;split at q
 ·obtain⟨b,a,N1,h1,h2,h3,h4,rfl⟩:=q;exact⟨b,a,N1,h1,(hb b (by simp)).trans h2,y7 hl _ _ _ (λb hx=>hb b (by simp[hx])) h3,h4,rfl⟩
 ·obtain⟨cs,h1,h2,h3⟩:=q;exact⟨cs,h1,y7 hl _ _ _ hb h2,h3⟩
def JL{P:Program}{H:Heap}{h:View}{t:TypeId}{row:Row}{g:Value}{N:List Nat}(hp:ae9 P t=none):ac8 P H h t row g N↔∃cs,valOf P t cs g∧fU H h row cs N∧row.length=cs.length:=by simp only[ac8,hp]
def QM(P:Program)(H:Heap)(h:View):List TypeId->List Row->List Value->List Nat->Prop
 |[],rows,gs,N=>rows=[]∧gs=[]∧N=[]
 |t::ts,rows,gs,N=>∃row rows' g gs' N1 N2,rows=row::rows'∧gs=g::gs'∧N=N1++N2∧ac8 P H h t row g N1∧QM P H h ts rows' gs' N2
def P6{P:Program}{H H':Heap}{h h':View}(hl:h.le h'):∀{ts:List TypeId} {rows:List Row} {gs:List Value} {N:List Nat},(∀b,b∈N->H' b=H b)->QM P H h ts rows gs N->QM P H' h' ts rows gs N
 |[],_,_,_,_,q=>q
 |t::ts,_,_,_,hb,⟨row,rows',g,gs',N1,N2,e1,e2,e3,h1,h4⟩=>by subst e3;exact⟨row,rows',g,gs',N1,N2,e1,e2,rfl,afN hl (λb hx=>hb b (by simp[hx])) h1,P6 hl (λb hx=>hb b (by simp[hx])) h4⟩
def I8{P:Program}{t:TypeId}{vs:List V}{v:V}(h:Ie P t vs=some v){μ:Nat->Value}{hh:View}{cs:List Value}{g:Value}(hq:bT μ m hh vs cs)(hg:valOf P t cs g):aG μ m hh v g:=by
 unfold Ie at h;unfold valOf at hg;cases ha:H6 P t with
 |true=>simp only[ha,aU,if_true,fF] at h hg;subst h;simp only[aG];exact⟨_,hg,by simpa using hq⟩
 |false=>
  simp only[ha,bZ,Bool.false_eq_true,if_false] at h hg;split at h
  ·cases h;obtain⟨g',gs',e,q1,q2⟩:=mJ hq;rw[hg] at e;cases e;exact q1
  ·cases h
def afa{res:List Row}{ri:Nat}{row:Row}{rows:List Row}(h:res.drop ri=row::rows):acT res ri=row∧res.drop (ri+1)=rows:=by
 have h1:res[ri]? =some row:=by
  have:(res.drop ri)[0]? =some row:=by rw[h];rfl
  rwa [List.getElem?_drop,Nat.add_zero] at this
 refine⟨by simp[acT,h1], ?_⟩;rw[<-List.drop_drop,h];rfl
def aoq{X:Ctx}{Yp:List Nat}{dst ri:Nat}{row:Row}{t:TypeId}{g:Value}{N E:List Nat}(hg:Bg base U w m G)(ho:∀r,r∈G.out->∃c,get r m=some c)
  (hE:(N++E).Perm G.E) (hq:ac8 X.P (bH w) (Gh U w G) t row g N) {v:V} {m':Mem} {l l':Log}
  (h:(alO X Yp dst ri row t).run m l=some (v,m',l')):∃G',Grew base U w m G m' G' E∧aG G'.μ m' (Gh U w G') v g:=by
 unfold ac8 at hq;unfold alO at h;split at hq
 ·rename_i T hT;simp only[hT] at h;obtain⟨b,a,N1,rfl,h1,h2,h3,rfl⟩:=hq;replace h:=aj h;obtain⟨_,m1,l1,k1,h⟩:=h;obtain⟨hlen,rfl,rfl⟩:=cu k1;replace h:=aj h;obtain⟨vc,m2,l2,k2,h⟩:=h;replace h:=aj h;obtain⟨_,m3,l3,k3,h⟩:=h;simp only[run_pure,fF,iP] at h;obtain⟨rfl,rfl,rfl⟩:=h;have hlen:=qU hlen;obtain⟨G1,t1,s1⟩:=U7 (N:=N1) (E:=b::E) hg ho (by refine List.Perm.trans List.perm_middle ?_;exact hE) (by simpa using h2) (by simpa using hlen) (by rw[Array.length_toList,<-h3];exact hlen) k2;obtain⟨G2,t2,s2⟩:=alV t1.ok (λk hk=>by rw[t1.out] at hk;obtain⟨c,hc⟩:=ho k hk;exact⟨c,t1.old k c hc⟩) (by rw[t1.E]) h1 s1 k3;exact⟨G2,t1.trans t2,s2⟩
 ·rename_i hT;simp only[hT] at h;obtain⟨cs,h1,h2,h3⟩:=hq;replace h:=aj h;obtain⟨_,m1,l1,k1,h⟩:=h;obtain⟨hlen,rfl,rfl⟩:=cu k1;replace h:=aj h;obtain⟨vc,m2,l2,k2,h⟩:=h;obtain⟨hv,rfl,rfl⟩:=eF h;have hlen:=qU hlen;obtain⟨G1,t1,s1⟩:=U7 hg ho hE (by simpa using h2) (by simpa using hlen) (by rw[<-h3];exact hlen) k2;exact⟨G1,t1,I8 hv s1 h1⟩
def afO{X:Ctx}{Yp:List Nat}{dst:Nat}{res:List Row}:∀{ts:List TypeId} {ri:Nat} {m:Mem} {G:GS} {gs:List Value} {N E:List Nat} (_:Bg base U w m G) (_:∀r,r∈G.out->∃c,get r m=some c)
  (_:(N++E).Perm G.E) (_:QM X.P (bH w) (Gh U w G) ts (res.drop ri) gs N) {vs:List V} {m':Mem} {l l':Log}
  (_:(Xm X Yp dst res ri ts).run m l=some (vs,m',l')),∃G',Grew base U w m G m' G' E∧bT G'.μ m' (Gh U w G') vs gs
 |[],ri,m,G,gs,N,E,hg,ho,hE,hq,vs,m',l,l',h=>by simp only[Xm,run_pure,fF,iP] at h;obtain⟨rfl,rfl,rfl⟩:=h;obtain⟨_,rfl,rfl⟩:=hq;obtain⟨d1,d2,_⟩:=hg.ac6 hE;exact⟨_,⟨d1,d2,rfl,rfl,λ_ _ h=>h,λ_ _ _=>rfl⟩,by simp[bT]⟩
 |t::ts,ri,m,G,gs,N,E,hg,ho,hE,hq,vs,m',l,l',h=>by obtain⟨row,rows',g,gs',N1,N2,e1,rfl,rfl,h1,h4⟩:=hq;obtain⟨hrow,hrest⟩:=afa e1;simp only[Xm] at h;replace h:=aj h;obtain⟨v,m3,l3,k3,h⟩:=h;replace h:=aj h;obtain⟨vs',m4,l4,k4,h⟩:=h;simp only[run_pure,fF,iP] at h;obtain⟨rfl,rfl,rfl⟩:=h;rw[hrow] at k3;obtain⟨G1,t1,s1⟩:=aoq hg ho (ZG hE) h1 k3;obtain⟨G2,t2,s2⟩:=afO t1.ok (λk hk=>by rw[t1.out] at hk;obtain⟨c,hc⟩:=ho k hk;exact⟨c,t1.old k c hc⟩) (by rw[t1.E]) (by rw[hrest];exact P6 t1.le.view (λ_ _=>rfl) h4) k4;refine⟨G2,t1.trans t2, ?_⟩;simp only[bT];exact⟨g,gs',rfl,t2.le.aG s1,s2⟩
mutual
def anj{H:Heap}{h h':View}:∀(x:D) (v:Value) (N:List Nat),x.pure=true->ow H h x v N->ow H h' x v N
 | .int _ _,_,_,_,q=>by simpa[ow] using q
 | .bool _,_,_,_,q=>by simpa[ow] using q
 | .str _,_,_,_,q=>by simpa[ow] using q
 | .PW,_,_,_,q=>by simpa[ow] using q
 | .sl false s rows,v,N,hp,q=>by simp only[D.pure,List.isEmpty_iff] at hp;subst hp;simp only[ow,ro] at q⊢;exact⟨q.1,by obtain⟨a,cap,h1,h2,_⟩:=q.2;exact⟨a,cap,h1,h2,λe=>absurd rfl e⟩⟩
 | .sl true s rows,v,N,hp,q=>by
  simp only[D.pure] at hp;simp only[ow] at q⊢;rcases q with q|⟨b,cap,cs,t,N',h1,h2,h3,h4,h5,rfl⟩
  ·exact .inl q
  ·exact .inr ⟨b,cap,cs,t,N',h1,h2,h3,h4,aaS s rows _ N' hp h5,rfl⟩
def aaS{H:Heap}{h h':View}(s:Nat):∀(rows:List Row) (cs:List Value) (N:List Nat),xK rows=true->eP H h s rows cs N->eP H h' s rows cs N
 |[],_,_,_,q=>by simpa[eP] using q
 |r::rs,cs,N,hp,q=>by simp only[xK,vF] at hp;simp only[eP] at q⊢;obtain⟨h1,N1,N2,rfl,h2,h3⟩:=q;exact⟨h1,N1,N2,rfl,TL r _ N1 hp.1 h2,aaS s rs _ N2 hp.2 h3⟩
def TL{H:Heap}{h h':View}:∀(r:Row) (cs:List Value) (N:List Nat),bG r=true->fU H h r cs N->fU H h' r cs N
 |[],_,_,_,q=>by simpa[fU] using q
 |x::r,cs,N,hp,q=>by simp only[bG,vF] at hp;simp only[fU] at q⊢;obtain⟨v,cs',N1,N2,rfl,rfl,h2,h3⟩:=q;exact⟨v,cs',N1,N2,rfl,rfl,anj x v N1 hp.1 h2,TL r cs' N2 hp.2 h3⟩
end
def ac9{P:Program}{H:Heap}{h h':View}:∀{ts:List TypeId} {rows:List Row} {gs:List Value} {N:List Nat},rows.all bG=true->QM P H h ts rows gs N->QM P H h' ts rows gs N
 |[],_,_,_,_,q=>q
 |t::ts,_,_,_,hp,⟨row,rows',g,gs',N1,N2,e1,e2,e3,h1,h4⟩=>by
  subst e1;simp only[List.all_cons,vF] at hp;refine⟨row,rows',g,gs',N1,N2,rfl,e2,e3, ?_,ac9 hp.2 h4⟩;unfold ac8 at h1⊢;split at h1
  ·obtain⟨b,a,M,k1,k2,k3,k4,k5⟩:=h1;exact⟨b,a,M,k1,k2,TL _ _ _ hp.1 k3,k4,k5⟩
  ·obtain⟨cs,k1,k2,k3⟩:=h1;exact⟨cs,k1,TL _ _ _ hp.1 k2,k3⟩
end
end Go.Vm
