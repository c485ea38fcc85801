import Derived.Orders
import Derived.KernelRfl
import Derived.RowKit3
import Derived.Laws.Cells
import Derived.Laws.Rows
import Derived.Laws.OwnMore
import Derived.Below
set_option linter.defProp false
set_option linter.unusedVariables false
set_option linter.unusedSimpArgs false
namespace Go.Vm
def aB{p:Prop}(h:p:=by omega):p:=h
def aI{α:Sort _}(a b:α):cond true a b=a:=cond_true ..
def aX{α:Sort _}(a b:α):cond false a b=b:=cond_false ..
def iF{α:Type _}(a b:α):(some a=some b)=(a=b):=Option.some.injEq ..
def jQ{α:Type _}{β:Type _}(a:α)(b:β)(c:α)(d:β):((a,b)=(c,d))=(a=c/\b=d):=Prod.mk.injEq ..
def zdt{p:Prop}[Decidable p](h:p):decide p=true:=decide_eq_true h
def zD{p:Prop}[Decidable p](h:¬p):decide p=false:=decide_eq_false h
def Dl{n m:Nat}(h:Nat.beq n m=true):n=m:=Nat.eq_of_beq_eq_true h
def Au{α:Type _}{a b:List α}:(a++b).length=a.length+b.length:=List.length_append ..
def VG{α:Type _}{i:Nat}{a:α}{l:List α}:l[i]? =some a↔∃h:i<l.length,l[i]=a:=List.getElem?_eq_some_iff ..
def X8{α:Type _}{a:α}{s:List α}:(a::s).length=s.length+1:=List.length_cons ..
def Nu{α:Type _}(a b c:List α):a++b++c=a++(b++c):=List.append_assoc ..
def zf{α:Type _}{a:α}:[a].length=1:=List.length_singleton ..
def zln{α:Type _}:([]:List α).length=0:=List.length_nil ..
def zmg{α:Type _}{l:List α}{i:Nat}{a:α}(h:l[i]? =some a):a∈l:=List.mem_of_getElem? h
def Ji(a b:Bool):((a&&b)=true)=(a=true/\b=true):=Bool.and_eq_true ..
def KZ{α:Type _}{β:Type _}(a:α)(f:α->β):Option.map f (some a)=some (f a):=Option.map_some ..
def zmc{α:Type _}{β:Type _}{f:α->β}{a:α}{l:List α}:List.map f (a::l)=f a::List.map f l:=List.map_cons ..
def ztn(n:Nat):((n:Int)).toNat=n:=Int.toNat_natCast ..
def zca{α:Type _}{a:α}{s t:List α}:a::s++t=a::(s++t):=List.cons_append ..
def zmm{α:Type _}(y:α){a:α}{l:List α}(h:a∈l):a∈y::l:=List.mem_cons_of_mem _ h
def XB{α:Type _}[BEq α][LawfulBEq α]{a b:α}:(a==b)=false↔a≠b:=beq_eq_false_iff_ne ..
def zlt{α:Type _}{i:Nat}{l:List α}:(l.take i).length=min i l.length:=List.length_take ..
end Go.Vm
namespace Go.Vm
open Go
inductive D where
 |int (k:IntKind) (n:Int)
 |bool (b:Bool)
 |str (s:List UInt8)
 |TF
 |sl (own:Bool) (s:Nat) (rows:List (List D))
 deriving Inhabited
abbrev Row:=List D
abbrev aJ:=List UInt8
abbrev ay:=List Row
inductive V where
 |d (x:D)
 |nil (s:Nat)
 |own (r ver:Nat)
 |ptr (r off:Nat)
 |zF (r ver i off:Nat)
 |wW (row:Row) (off:Nat)
 |EW (v:V)
 |clo (f:Nat) (first caps:List V)
 |agg (cs:List V)
 |SI (vs:List V)
 |undef
 deriving Inhabited
inductive Cell where
 |box (t:TypeId) (cs:List V)
 |arr (fz fl:Bool) (ver s:Nat) (rows:List Row)
 |dead
 |JX (ver s:Nat) (rows:List Row)
 |rF (t:TypeId) (v:V)
 deriving Inhabited
abbrev Mem:=List (Nat×Cell)
abbrev kY:=List (Nat×V)
structure St where
 tm:kY
 mem:Mem
def get{α:Type}(k:Nat):List (Nat×α)->Option α
 |[]=>none
 |(j,x)::l=>bif Nat.beq k j then some x else get k l
def put{α:Type}(k:Nat)(x:α):List (Nat×α)->List (Nat×α)
 |[]=>[(k,x)]
 |(j,y)::l=>bif Nat.beq k j then(k,x)::l else bif Nat.blt k j then(k,x)::(j,y)::l else(j,y)::put k x l
def del{α:Type}(k:Nat):List (Nat×α)->List (Nat×α)
 |[]=>[]
 |(j,y)::l=>bif Nat.beq k j then del k l else(j,y)::del k l
def WO(t:Nat)(tm:kY):V:=match get t tm with|some v=>v|none=> .undef
def acu(dst:Option Nat)(v:V)(tm:kY):kY:=match dst with|some t=>put t v tm|none=>tm
def ay3(dst:Option Nat)(tm:kY):kY:=match dst with|some t=>del t tm|none=>tm
inductive Acc(α:Type):Type 1 where
 |ret (a:α)
 |fail
 |get (k:Nat) (c:Option Cell->Acc α)
 |set (k:Nat) (x:Cell) (c:Acc α)
 |opt {β:Type} (o:Option β) (c:β->Acc α)
 |guard (b:Bool) (c:Acc α)
structure Log where
 r:List Nat
 w:List Nat
def Log.rd(l:Log)(k:Nat):Log:={l with r:=k::l.r}
def Log.wr(l:Log)(k:Nat):Log:={l with w:=k::l.w}
def Log.none:Log:=⟨[],[]⟩
def Acc.bind{α β:Type}:Acc α->(α->Acc β)->Acc β
 | .ret a,f=>f a
 | .fail,_=> .fail
 | .get k c,f=> .get k λx=>(c x).bind f
 | .set k x c,f=> .set k x (c.bind f)
 | .opt o c,f=> .opt o λb=>(c b).bind f
 | .guard b c,f=> .guard b (c.bind f)
def Acc.run{α:Type}:Acc α->Mem->Log->Option (α×Mem×Log)
 | .ret a,m,l=>some (a,m,l)
 | .fail,_,_=>none
 | .get k c,m,l=>(c (Vm.get k m)).run m (l.rd k)
 | .set k x c,m,l=>c.run (put k x m) (l.wr k)
 | .opt o c,m,l=>match o with|some b=>(c b).run m l|none=>none
 | .guard b c,m,l=>match b with|true=>c.run m l|false=>none
inductive CT where
 |int (k:IntKind)|bool|str|sl (s:Nat)|other
 deriving Inhabited
def apq(f:TypeId->Option (List CT)):List TypeId->Option (List CT)
 |[]=>some []
 |t::ts=>match f t,apq f ts with|some a,some b=>some (a++b)|_,_=>none
def cts(P:Program):Nat->TypeId->Option (List CT)
 |0,_=>none
 |n+1,t=>match P.underlying t with
  |some (.int k)=>some [.int k]
  |some .bool=>some [.bool]
  |some .string=>some [.str]
  |some (.slice e)=>match P.info? e with|some i=>some [.sl i.size]|none=>none
  |some (.struct fs)=>apq (cts P n) (fs.toList.map (·.type))
  |some (.array k e)=>apq (cts P n) (List.replicate k e)
  |some (.pointer _)|some (.func ..)=>some [.other]
  |_=>none
def Q5(P:Program)(t:TypeId):List CT:=match cts P 8 t with|some l=>l|none=>[.other]
def Qb(P:Program)(t:TypeId):Bool:=match P.underlying t with|some (.struct _)=>true|some (.array ..)=>true|_=>false
def nN(P:Program)(t:TypeId):Nat:=match P.info? t with|some i=>i.size|none=>0
def elT(P:Program)(t:TypeId):Option TypeId:=match P.underlying t with|some (.slice e)=>some e|_=>none
def aez:CT->Value->V
 |_,.bool b=> .d (.bool b)
 |_,.int k n=> .d (.int k n)
 |_,.string s=> .d (.str s.data.toList)
 |_,.nilFunc=> .d .TF
 | .sl s,.slice none 0 0=> .nil s
 |_,_=> .undef
def II:List CT->List Value->List V
 |c::cs,v::vs=>aez c v::II cs vs
 |[],_::vs=> .undef::II [] vs
 |_,[]=>[]
def cv(P:Program)(t:TypeId):Value->V
 | .agg cs=> .agg (II (Q5 P t) cs.toList)
 |v=>match Q5 P t with|c::_=>aez c v|[]=> .undef
def Qy(P:Program)(t:TypeId):Option (List V):=
 match P.info? t with
 |some i=>match i.zero with
  |some z=>some (II (Q5 P t) z.cells.toList)
  |none=>none
 |none=>none
def V.cells:V->List V
 | .agg cs=>cs
 |v=>[v]
def L8(P:Program)(t:TypeId)(cs:List V):Option V:=
 bif Qb P t then some (.agg cs) else match cs with|[v]=>some v|_=>none
def asInt(k:IntKind):D->Option Int
 | .int k' n=>bif decide (k'=k) then some n else none
 |_=>none
def asBool:D->Option Bool
 | .bool b=>some b
 |_=>none
def ajS:D->Option (List UInt8)
 | .str s=>some s
 |_=>none
def auW(s:Nat):D->Option (List Row)
 | .sl _ s' rows=>bif Nat.beq s' s then some rows else none
 |_=>none
def ay4(s:Nat):D->Option (List Row)
 | .sl own s' rows=>bif Nat.beq s' s then(match own with|false=>some rows|true=>match rows with|[]=>some []|_::_=>none) else none
 |_=>none
def arh(s:Nat):D->Option (List Row)
 | .sl own s' rows=>match own with|true=>bif Nat.beq s' s then some rows else none|false=>none
 |_=>none
def nth(row:Row)(j:Nat):D:=match row[j]? with|some x=>x|none=> .TF
def mg(k:IntKind)(row:Row)(j:Nat):Option Int:=asInt k (nth row j)
def ajT(row:Row)(j:Nat):Option Bool:=asBool (nth row j)
def cStr(row:Row)(j:Nat):Option (List UInt8):=ajS (nth row j)
def cSl(s:Nat)(row:Row)(j:Nat):Option (List Row):=auW s (nth row j)
def cRo(s:Nat)(row:Row)(j:Nat):Option (List Row):=ay4 s (nth row j)
def aeA(s:Nat)(row:Row)(j:Nat):Option (List Row):=arh s (nth row j)
mutual
def D.fz:D->D
 | .int k n=> .int k n
 | .bool b=> .bool b
 | .str s=> .str s
 | .TF=> .TF
 | .sl _ s rows=> .sl false s (ak rows)
def ak:List Row->List Row
 |[]=>[]
 |r::rs=>Jj r::ak rs
def Jj:Row->Row
 |[]=>[]
 |x::r=>x.fz::Jj r
end
def roD:D->D
 | .sl _ s rows=> .sl false s rows
 |x=>x
def D.flat:D->Bool
 | .sl ..=>false
 |_=>true
def ah(rows:List Row):Bool:=rows.all λr=>r.all D.flat
def one:V->Bool
 | .d _=>true
 | .nil _=>true
 | .own _ _=>true
 | .ptr _ _=>true
 | .zF ..=>true
 | .wW _ _=>true
 | .EW _=>true
 | .clo ..=>true
 |_=>false
mutual
def D.pure:D->Bool
 | .sl own _ rows=>match own with|true=>Jk rows|false=>rows.isEmpty
 |_=>true
def Jk:List Row->Bool
 |[]=>true
 |r::rs=>yU r && Jk rs
def yU:Row->Bool
 |[]=>true
 |x::r=>x.pure && yU r
end
def Oc(strict:Bool):List CT->Row->Nat->(List V->Acc V)->Acc V
 |[],_,_,c=>c []
 | .int k::ts,row,j,c=> .opt (mg k row j) λn=>Oc strict ts row (j+1) λvs=>c (.d (.int k n)::vs)
 | .bool::ts,row,j,c=> .opt (ajT row j) λn=>Oc strict ts row (j+1) λvs=>c (.d (.bool n)::vs)
 | .str::ts,row,j,c=> .opt (cStr row j) λn=>Oc strict ts row (j+1) λvs=>c (.d (.str n)::vs)
 | .sl s::ts,row,j,c=> .opt (bif strict then cRo s row j else cSl s row j) λrs=>Oc strict ts row (j+1) λvs=>c (.d (.sl false s rs)::vs)
 | .other::_,_,_,_=> .fail
structure Adv where
 keep:Nat->Nat->List Nat
 move:Nat->List Nat
 ref:Nat->List Nat
 att:Nat->Nat->List Nat
 aEt:Nat->List Nat
 fuse:Nat->Nat->Nat
 trunc:Nat->Nat->Bool
 raw:Nat->List Nat
 look:Nat->List Nat
structure Ctx where
 P:Program
 PS:Adv
 adr:Nat->Option (List V->List Cell->Option (List Row×List Cell))
 glob:Nat->Option Row
 aMz:Nat->Bool
 aEu:Nat->Bool:=λ_=>false
abbrev jO:=Nat->List V->List Cell->Option (List Row×List Cell)
def mem?(k:Nat):List Nat->Bool
 |[]=>false
 |j::l=>bif Nat.beq k j then true else mem? k l
def aA9:List CT->Bool
 |[]=>false
 | .sl _::_=>true
 |_::l=>aA9 l
def wJ(P:Program)(e:TypeId):Bool:= !(aA9 (Q5 P e))
def vw(fl:Bool)(rows:List Row):List Row:=bif fl then rows else ak rows
instance:Monad Acc where
 pure:=.ret
 bind:=.bind
def rd(k:Nat):Acc (Option Cell):=.get k .ret
def wr(k:Nat)(x:Cell):Acc Unit:=.set k x (.ret ())
def ck(b:Bool):Acc Unit:=.guard b (.ret ())
def op'{β:Type}(o:Option β):Acc β:=.opt o .ret
def free(k:Nat):Acc Unit:=do
 match<-rd k with
 |none=>pure ()
 |some _=> .fail
def new(k:Nat)(c:Cell):Acc Unit:=do
 free k
 wr k c
def seen(v:V):Acc (Nat×List Row):=
 match v with
 | .d (.sl _ s rows)=>pure (s,rows)
 | .nil s=>pure (s,[])
 | .own r ver=>do
  match<-rd r with
  |some (.arr _ fl jl s rows)=>do ck (Nat.beq ver jl);pure (s,vw fl rows)
  |_=> .fail
 |_=> .fail
def aaP(fl:Bool)(rows:List Row):Bool:=bif fl then ah rows else true
def toD(v:V):Acc D:=
 match v with
 | .d x=>pure (roD x)
 | .nil s=>pure (.sl true s [])
 | .own r ver=>do
  match<-rd r with
  |some (.arr fz fl jl s rows)=>do
   ck (Nat.beq ver jl)
   match fz with
   |true=>pure (.sl false s (vw fl rows))
   |false=>do
    ck (aaP fl rows)
    wr r .dead
    pure (.sl true s rows)
  |_=> .fail
 |_=> .fail
def PY:List V->Acc Row
 |[]=>pure []
 |v::vs=>do
  let x<-toD v
  let xs<-PY vs
  pure (x::xs)
def splice{α:Type}(l:List α)(off:Nat)(xs:List α):List α:=l.take off++xs++l.drop (off+xs.length)
def part{α:Type}(l:List α)(off n:Nat):List α:=(l.drop off).take n
def idx{α:Type}(l:List α)(i:Int):Option α:=bif decide (0<=i) then l[i.toNat]? else none
def cut{α:Type}(l:List α)(a b:Int):Option (List α):=
 bif decide (0<=a) && decide (a<=b) && decide (b<=l.length) then some ((l.drop a.toNat).take (b.toNat - a.toNat)) else none
def byteRow(b:UInt8):Row:=[.int .u8 b.toNat]
def asByte:Row->Option UInt8
 |[.int .u8 n]=>some (UInt8.ofNat n.toNat)
 |_=>none
def bytesOf:List Row->Option (List UInt8)
 |[]=>some []
 |r::rs=>match asByte r,bytesOf rs with|some b,some bs=>some (b::bs)|_,_=>none
def ev(P:Program)(tm:kY)(t:TypeId):Operand->V
 | .tmp i=>WO i tm
 | .const v=>cv P t v
 | .func f=> .clo f [] []
 | .global _=> .undef
def evG(X:Ctx)(tm:kY)(t:TypeId)(x:Operand):V:=match x with
 | .global g=>match X.glob g with
  |some row=> .wW row 0
  |none=> .undef
 |x=>ev X.P tm t x
def auX(op:BinOp)(k:IntKind)(a b:Int):Option V:=
 match op with
 | .add=>some (.d (.int k (k.wrap (a+b))))
 | .sub=>some (.d (.int k (k.wrap (a - b))))
 | .mul=>some (.d (.int k (k.wrap (a * b))))
 | .quo=>bif decide (b=0) then none else some (.d (.int k (k.wrap (a.tdiv b))))
 | .rem=>bif decide (b=0) then none else some (.d (.int k (a.tmod b)))
 | .eql=>some (.d (.bool (a==b)))
 | .neq=>some (.d (.bool (a !=b)))
 | .lss=>some (.d (.bool (decide (a<b))))
 | .leq=>some (.d (.bool (decide (a<=b))))
 | .gtr=>some (.d (.bool (decide (a>b))))
 | .geq=>some (.d (.bool (decide (a>=b))))
 | .and=>some (.d (.int k (k.wrap (BitVec.ofInt k.bits a &&& BitVec.ofInt k.bits b).toNat)))
 | .or=>some (.d (.int k (k.wrap (BitVec.ofInt k.bits a|||BitVec.ofInt k.bits b).toNat)))
 | .xor=>some (.d (.int k (k.wrap (BitVec.ofInt k.bits a ^^^ BitVec.ofInt k.bits b).toNat)))
 |_=>none
def ads(op:BinOp)(k:IntKind)(a b:Int):Option V:=
 bif decide (b<0) then none else
 match op with
 | .shl=>some (.d (.int k (k.wrap (a * 2 ^(min b.toNat k.bits)))))
 | .shr=>some (.d (.int k (a.fdiv (2 ^(min b.toNat k.bits)))))
 |_=>none
def apr:Nat:=9223372036854775807
def aB6(op:BinOp)(a b:List UInt8):Acc V:=
 match op with
 | .add=> .guard (Nat.ble (a.length+b.length) apr) (.ret (.d (.str (a++b))))
 | .eql=> .ret (.d (.bool (a==b)))
 | .neq=> .ret (.d (.bool !(a==b)))
 | .lss=> .ret (.d (.bool (Op.bytesLess a b)))
 | .leq=> .ret (.d (.bool (Op.bytesLess a b||a==b)))
 | .gtr=> .ret (.d (.bool !(Op.bytesLess a b||a==b)))
 | .geq=> .ret (.d (.bool !(Op.bytesLess a b)))
 |_=> .fail
def aEv(op:BinOp)(a b:Bool):Option V:=
 match op with
 | .eql=>some (.d (.bool (a==b)))
 | .neq=>some (.d (.bool !(a==b)))
 |_=>none
def shiftOp:BinOp->Bool
 | .shl| .shr=>true
 |_=>false
def boolT(P:Program)(t:TypeId):Bool:=match P.underlying t with|some .bool=>true|_=>false
def bin(bt:Bool)(op:BinOp)(x y:V):Acc V:=
 match x,y with
 | .d (.int k a),.d (.int k' b)=>
  match shiftOp op with
  |true=> .opt (ads op k a b) .ret
  |false=>match decide (k=k') with
   |true=> .opt (auX op k a b) .ret
   |false=> .fail
 | .d (.str a),.d (.str b)=>aB6 op a b
 | .d (.bool a),.d (.bool b)=>match bt with
  |true=> .opt (aEv op a b) .ret
  |false=> .fail
 |_,_=> .fail
def aps:V->V->Option Bool
 | .d (.int k a),.d (.int k' b)=>bif decide (k=k') then some (a==b) else none
 | .d (.str a),.d (.str b)=>some (a==b)
 | .d (.bool a),.d (.bool b)=>some (a==b)
 |_,_=>none
def aeB(P:Program)(t:TypeId)(v:V):Bool:=match P.underlying t,v with
 |some (.int _),.d (.int _ _)=>true
 |some .string,.d (.str _)=>true
 |some .bool,.d (.bool _)=>true
 |_,_=>false
def agQ(P:Program):List Field->List V->List V->Option Bool
 |[],_,_=>some true
 |f::fs,xs,ys=>match xs[f.offset]?,ys[f.offset]? with
  | some x, some y => bif aeB P f.type x && (f.name != "_") then
    (match aps x y,agQ P fs xs ys with
    |some a,some b=>some (bif a then b else false)
    |_,_=>none) else none
  |_,_=>none
def aEw(P:Program)(t:TypeId)(op:BinOp)(cs ds:List V):Acc V:=do
 ck (!(P.stoodInHeld t) && !(P.eqGuardType P.depth t))
 let fs<-op' (match P.underlying t with|some (.struct fs)=>some fs.toList|_=>none)
 let r<-op' (agQ P fs cs ds)
 match op with
 | .eql=>pure (.d (.bool r))
 | .neq=>pure (.d (.bool !r))
 |_=> .fail
def apt(x:V):Acc Bool:=
 match x with
 | .nil _=>pure true
 | .d (.sl _ _ rows)=>do ck (Nat.ble 1 rows.length);pure false
 | .own r ver=>do
  match<-rd r with
  |some (.arr _ _ jl _ rows)=>do ck (Nat.beq ver jl && Nat.ble 1 rows.length);pure false
  |_=> .fail
 |_=> .fail
def sliceT(P:Program)(t:TypeId):Bool:=match P.underlying t with|some (.slice _)=>true|_=>false
def apu(P:Program)(t:TypeId)(op:BinOp)(x:V):Acc V:=do
 ck (sliceT P t)
 let b<-apt x
 match op with
 | .eql=>pure (.d (.bool b))
 | .neq=>pure (.d (.bool !b))
 |_=> .fail
def aB7(P:Program)(t:TypeId)(op:BinOp)(x y:V):Acc V:=match x with
 | .agg cs=>(match y with| .agg ds=>aEw P t op cs ds|_=> .fail)
 |x=>(match y with| .nil _=>apu P t op x|y=>bin (boolT P t) op x y)
def un(op:UnOp)(x:V):Acc V:=
 match op,x with
 | .neg,.d (.int k n)=> .ret (.d (.int k (k.wrap (0 - n))))
 | .not,.d (.bool b)=> .ret (.d (.bool !b))
 |_,_=> .fail
def auY(c x y:V):Acc V:=
 match c with
 | .d (.bool c)=>match x,y with
  | .d (.bool a),.d (.bool b)=> .ret (.d (.bool (bif c then a else b)))
  |x,y=>match c with
   |true=> .ret x
   |false=> .ret y
 |_=> .fail
def okT(P:Program)(t:TypeId):Bool:=match P.underlying t with|some _=>true|none=>false
def auZ(P:Program)(t:TypeId)(a:V):Acc V:=do
 ck (okT P t && Nat.beq (Q5 P t).length (nN P t))
 match a with
 | .ptr r off=>do
  match<-rd r with
  |some (.box _ cs)=>do
   ck (Nat.ble (off+nN P t) cs.length)
   op' (L8 P t (part cs off (nN P t)))
  |some (.rF _ v)=>do
   ck (Nat.beq off 0 &&(Nat.beq (nN P t) 1 && !(Qb P t)))
   pure v
  |_=> .fail
 | .EW v=>do
  ck (Nat.beq (nN P t) 1 && !(Qb P t))
  pure v
 | .wW row off=>Oc false (Q5 P t) row off λvs=>op' (L8 P t vs)
 | .zF r ver i off=>do
  match<-rd r with
  |some (.arr _ _ jl _ rows)=>do
   ck (Nat.beq ver jl)
   let row<-op' rows[i]?
   Oc true (Q5 P t) row off λvs=>op' (L8 P t vs)
  |some (.JX jl _ rows)=>do
   ck (Nat.beq ver jl)
   let row<-op' rows[i]?
   Oc true (Q5 P t) row off λvs=>op' (L8 P t vs)
  |_=> .fail
 |_=> .fail
def kept(off:Nat)(cs:List V)(x:V):Bool:=match off,cs,x with
 |0,[.undef],.ptr _ _=>true
 |_,_,_=>false
def apv(P:Program)(t:TypeId)(a x:V):Acc Unit:=do
 ck (okT P t)
 ck (Nat.beq x.cells.length (nN P t))
 ck (x.cells.all one)
 match a with
 | .ptr r off=>do
  match<-rd r with
  |some (.box T cs)=>do
   ck (Nat.ble (off+nN P t) cs.length)
   match kept off cs x with
   |true=>wr r (.rF T x)
   |false=>wr r (.box T (splice cs off x.cells))
  |_=> .fail
 | .zF r ver i off=>do
  let xs<-PY x.cells
  match<-rd r with
  |some (.arr false fl jl s rows)=>do
   ck (Nat.beq ver jl)
   ck (Nat.ble (off+nN P t) s)
   let row<-op' rows[i]?
   wr r (.arr false fl ver s (rows.set i (splice row off xs)))
  |_=> .fail
 |_=> .fail
def WQ(P:Program)(T:TypeId)(f:Nat):Option (Nat×Nat×TypeId):=
 match P.underlying T with
 |some (.struct fs)=>match fs[f]? with
  |some fd=>some (fd.offset,nN P fd.type,fd.type)
  |none=>none
 |_=>none
def acv(P:Program)(T:TypeId)(a:V)(f:Nat):Acc V:=do
 let(o,n,_)<-op' (WQ P T f)
 ck (Nat.ble 1 n)
 match a with
 | .ptr r off=>pure (.ptr r (off+o))
 | .wW row off=>pure (.wW row (off+o))
 | .zF r ver i off=>pure (.zF r ver i (off+o))
 |_=> .fail
def apw(P:Program)(T:TypeId)(x:V)(f:Nat):Acc V:=do
 let(o,n,t)<-op' (WQ P T f)
 match x with
 | .agg cs=>do
  ck (Nat.ble (o+n) cs.length)
  ck (okT P t)
  op' (L8 P t (part cs o n))
 |_=> .fail
def acw(P:Program)(t:TypeId)(x i:V):Acc V:=do
 let e<-op' (elT P t)
 match i with
 | .d (.int _ i)=>
  match x with
  | .d (.sl _ s rows)=>do
   ck (Nat.beq s (nN P e))
   ck (okT P e)
   let row<-op' (idx rows i)
   pure (.wW row 0)
  | .own r ver=>do
   match<-rd r with
   |some (.arr fz fl jl s rows)=>do
    ck (Nat.beq ver jl)
    ck (Nat.beq s (nN P e))
    ck (okT P e)
    match fz with
    |true=>do
     let row<-op' (idx (vw fl rows) i)
     pure (.wW row 0)
    |false=>do
     let _<-op' (idx rows i)
     pure (.zF r ver i.toNat 0)
   |some (.JX jl s rows)=>do
    ck (Nat.beq ver jl)
    ck (Nat.beq s (nN P e))
    ck (okT P e)
    let _<-op' (idx rows i)
    pure (.zF r ver i.toNat 0)
   |_=> .fail
  |_=> .fail
 |_=> .fail
def arT(P:Program)(t:TypeId):Option (Nat×TypeId):=match P.underlying t with|some (.array n e)=>some (n,e)|_=>none
def amO(P:Program)(n:Nat)(e:TypeId)(x i:V):Acc V:=
 match i with
 | .d (.int _ i)=>do
  ck (okT P e)
  ck (decide (0<=i) && decide (i<(n:Int)))
  match x with
  | .wW row off=>pure (.wW row (off+i.toNat * nN P e))
  | .ptr r off=>pure (.ptr r (off+i.toNat * nN P e))
  |_=> .fail
 |_=> .fail
def acy(P:Program)(t:TypeId)(x i:V):Acc V:=match arT P t with
 |some (n,e)=>amO P n e x i
 |none=>acw P t x i
def ajU:List V->Option Row
 |[]=>some []
 | .d x::vs=>match ajU vs with|some r=>some (x::r)|none=>none
 |_::_=>none
def ag9(c:CT)(row:Row)(i:Nat):Acc V:=match c with
 | .int k=> .opt (mg k row i) λn=> .ret (.d (.int k n))
 | .bool=> .opt (ajT row i) λb=> .ret (.d (.bool b))
 | .str=> .opt (cStr row i) λs=> .ret (.d (.str s))
 |_=> .fail
def apx(P:Program)(t:TypeId)(x i:V):Acc V:=
 match P.underlying t,x,i with
 |some .string,.d (.str s),.d (.int _ i)=> .opt (idx s i) λb=> .ret (.d (.int .u8 b.toNat))
 |some (.array n e),.agg cs,.d (.int _ i)=>do
  ck (Nat.beq (nN P e) 1 &&(Nat.beq cs.length n &&(okT P e && !(Qb P e))))
  ck (decide (0<=i) && decide (i<(n:Int)))
  let row<-op' (ajU cs)
  ag9 (match Q5 P e with|[c]=>c|_=> .other) row i.toNat
 |_,_,_=> .fail
def lenV(x:V):Acc V:=
 match x with
 | .d (.str s)=> .ret (.d (.int .i64 s.length))
 | .own r ver=>do
  match<-rd r with
  |some (.arr _ _ jl _ rows)=>do ck (Nat.beq ver jl);pure (.d (.int .i64 rows.length))
  |some (.JX jl _ rows)=>do ck (Nat.beq ver jl);pure (.d (.int .i64 rows.length))
  |_=> .fail
 | .d (.sl _ _ rows)=> .ret (.d (.int .i64 rows.length))
 | .nil _=> .ret (.d (.int .i64 0))
 |_=> .fail
def Ya:Nat:=140737488355328
def Yb(P:Program)(e:TypeId):Nat:=match P.info? e with|some i=>i.bytes|none=>Ya
def tail(P:Program)(e:TypeId)(y:V):Acc (List Row):=
 match y with
 | .d (.str s)=>do
  ck (Nat.beq (nN P e) 1)
  pure (s.map byteRow)
 | .d (.sl _ s rows)=>do
  ck (Nat.beq s (nN P e))
  pure (vw (wJ P e) rows)
 | .nil _=>pure []
 | .own r ver=>do
  match<-rd r with
  |some (.arr fz fl jl s rows)=>do
   ck (Nat.beq ver jl)
   ck (Nat.beq s (nN P e))
   match wJ P e with
   |true=>do
    ck (fl||fz)
    pure rows
   |false=>do
    ck (!fl)
    match fz with
    |true=>pure (ak rows)
    |false=>do
     wr r .dead
     pure rows
  |_=> .fail
 |_=> .fail
def alo(P:Program)(dst:Nat)(t ty:TypeId)(x y:V):Acc V:=do
 let e<-op' (elT P t)
 ck (Nat.ble 1 (nN P e))
 ck (match P.underlying ty with|some (.slice _)=>true|some .string=>true|_=>false)
 let z<-op' (Qy P e)
 ck (Nat.beq z.length (nN P e))
 let ys<-tail P e y
 match x with
 | .nil _=>do
  ck (Nat.ble (ys.length * Yb P e) Ya)
  ck (Nat.ble ys.length Ya)
  new dst (.arr false (wJ P e) 0 (nN P e) ys)
  pure (.own dst 0)
 | .own r ver=>do
  match<-rd r with
  |some (.arr false fl jl s rows)=>do
   ck (Nat.beq ver jl)
   ck (Nat.beq s (nN P e))
   ck (match fl,wJ P e with|true,true=>true|false,false=>true|_,_=>false)
   ck (Nat.ble ((rows.length+ys.length) * Yb P e) Ya)
   ck (Nat.ble (rows.length+ys.length) Ya)
   wr r (.arr false fl (ver+1) s (rows++ys))
   pure (.own r (ver+1))
  |some (.JX jl s rows)=>do
   ck (Nat.beq ver jl)
   ck (Nat.beq s (nN P e))
   ck (wJ P e)
   ck (Nat.ble ((rows.length+ys.length) * Yb P e) Ya)
   ck (Nat.ble (rows.length+ys.length) Ya)
   wr r (.JX (ver+1) s (rows++ys))
   pure (.own r (ver+1))
  |_=> .fail
 |_=> .fail
def amP(P:Program)(e:TypeId):Acc Row:=do
 let z<-op' (Qy P e)
 PY z
def acz(P:Program)(dst:Nat)(t:TypeId)(l c:V):Acc V:=do
 let e<-op' (elT P t)
 ck (Nat.ble 1 (nN P e))
 let z<-amP P e
 ck (Nat.beq z.length (nN P e))
 match l,c with
 | .d (.int _ l),.d (.int _ c)=>do
  ck (decide (0<=l) && decide (l<=c) && decide (c * Yb P e<=Ya) && decide (c<=Ya))
  new dst (.arr false (wJ P e) 0 (nN P e) (List.replicate l.toNat z))
  pure (.own dst 0)
 |_,_=> .fail
def bound(o:Option V)(d:Int):Acc Int:=match o with
 |none=> .ret d
 |some (.d (.int _ n))=> .ret n
 |some _=> .fail
def apy(P:Program)(t:TypeId)(x:V)(lo hi:Option V):Acc V:=
 match x with
 | .d (.str s)=>do
  ck (match P.underlying t with|some .string=>true|_=>false)
  let l<-bound lo 0
  let h<-bound hi s.length
  let s'<-op' (cut s l h)
  pure (.d (.str s'))
 |_=>do
  let e<-op' (elT P t)
  ck (okT P e)
  let(s,rows)<-seen x
  ck (Nat.beq s (nN P e))
  let l<-bound lo 0
  let h<-bound hi rows.length
  let rows'<-op' (cut rows l h)
  match x with
  | .own r ver=>do
   match<-rd r with
   |some (.arr _ fl jl s rows)=>do
    ck (Nat.beq ver jl)
    wr r (.arr true fl ver s rows)
    pure (.d (.sl false s rows'))
   |_=> .fail
  |_=>pure (.d (.sl false s rows'))
def alp(P:Program)(t:TypeId)(x:V)(lo hi:Option V):Acc V:=
 match x with
 | .wW row off=>do
  let(n,e)<-op' (arT P t)
  ck (okT P e)
  ck (Nat.beq (nN P e) 1 &&(Nat.beq off 0 && Nat.beq row.length n))
  match lo,hi with
  |none,none=>pure (.d (.sl false 1 (row.map λx=>[x])))
  |_,_=> .fail
 |x=>apy P t x lo hi
def apz(P:Program)(t:TypeId)(x:V)(hi:Option V):Acc V:=do
 let e<-op' (elT P t)
 ck (okT P e)
 match x with
 | .own r ver=>do
  match<-rd r with
  |some (.arr false fl jl s rows)=>do
   ck (Nat.beq ver jl)
   ck (Nat.beq s (nN P e))
   let h<-bound hi rows.length
   ck (decide (0<=h) && decide (h<=(rows.length:Int)))
   wr r (.arr false fl (ver+1) s (rows.take h.toNat))
   pure (.own r (ver+1))
  |_=> .fail
 |_=> .fail
def au0(P:Program)(t:TypeId)(x lo:V):Acc V:=do
 let e<-op' (elT P t)
 ck (okT P e)
 let l<-bound (some lo) 0
 match x with
 | .own r ver=>do
  match<-rd r with
  |some (.arr false true jl s rows)=>do
   ck (Nat.beq ver jl)
   ck (Nat.beq s (nN P e))
   ck (decide (0<=l) && decide (l<=(rows.length:Int)))
   wr r (.JX (ver+1) s (rows.drop l.toNat))
   pure (.own r (ver+1))
  |some (.JX jl s rows)=>do
   ck (Nat.beq ver jl)
   ck (Nat.beq s (nN P e))
   ck (decide (0<=l) && decide (l<=(rows.length:Int)))
   wr r (.JX (ver+1) s (rows.drop l.toNat))
   pure (.own r (ver+1))
  |_=> .fail
 |_=> .fail
def zh(P:Program)(T:TypeId)(tm:kY):List (Nat×Operand)->List V->Acc (List V)
 |[],cs=>pure cs
 |(f,x)::ps,cs=>do
  let(o,n,t)<-op' (WQ P T f)
  let v:=ev P tm t x
  ck (Nat.beq v.cells.length n)
  ck (v.cells.all one)
  ck (Nat.ble (o+n) cs.length)
  zh P T tm ps (splice cs o v.cells)
def amQ(P:Program)(T:TypeId):Bool:=match P.underlying T with
 |some (.struct fs)=>fs.toList.all λf=>match P.info? f.type with|some _=>true|none=>false
 |_=>false
def wz(P:Program)(e:TypeId)(tm:kY):List (Nat×Operand)->List V->Acc (List V)
 |[],cs=>pure cs
 |(i,x)::ps,cs=>do
  let v:=ev P tm e x
  ck (Nat.beq v.cells.length (nN P e))
  ck (v.cells.all one)
  ck (Nat.ble (i * nN P e+nN P e) cs.length)
  wz P e tm ps (splice cs (i * nN P e) v.cells)
def alq(P:Program)(T:TypeId)(tm:kY)(ps:List (Nat×Operand)):Acc V:=do
 ck (amQ P T)
 let z<-op' (Qy P T)
 let cs<-zh P T tm ps z
 pure (.agg cs)
def apA(P:Program)(T e:TypeId)(tm:kY)(ps:List (Nat×Operand)):Acc V:=do
 ck (okT P e)
 let z<-op' (Qy P T)
 let cs<-wz P e tm ps z
 pure (.agg cs)
def alr(P:Program)(T:TypeId)(tm:kY)(ps:List (Nat×Operand)):Acc V:=match arT P T with
 |some (_,e)=>apA P T e tm ps
 |none=>alq P T tm ps
def zi(P:Program)(e:TypeId)(tm:kY):Nat->List (Nat×Operand)->Acc (List Row)
 |_,[]=>pure []
 |k,(i,x)::ps=>do
  ck (Nat.beq i k)
  let v:=ev P tm e x
  ck (Nat.beq v.cells.length (nN P e))
  let row<-PY v.cells
  let rows<-zi P e tm (k+1) ps
  pure (row::rows)
def UG(P:Program)(dst:Nat)(t:TypeId)(n:Nat)(tm:kY)(ps:List (Nat×Operand)):Acc V:=do
 let e<-op' (elT P t)
 ck (Nat.ble 1 (nN P e))
 ck (Nat.beq ps.length n)
 ck (Nat.ble (n * nN P e) 16777216)
 let _<-op' (Qy P e)
 let rows<-zi P e tm 0 ps
 new dst (.arr false (wJ P e) 0 (nN P e) rows)
 pure (.own dst 0)
def aha(P:Program)(src dst:TypeId)(x:V):Acc V:=
 match P.underlying src,P.underlying dst with
 |some (.int _),some (.int k)=>match x with
  | .d (.int _ n)=> .ret (.d (.int k (k.wrap n)))
  |_=> .fail
 |some .string,some .string=>match x with
  | .d (.str s)=> .ret (.d (.str s))
  |_=> .fail
 |some (.slice e),some .string=>do
  ck (match P.underlying e with|some (.int .u8)=>true|_=>false)
  let(s,rows)<-seen x
  ck (Nat.beq s 1)
  let b<-op' (bytesOf rows)
  pure (.d (.str b))
 |_,_=> .fail
def oq:Nat:=100000
def als(r:Nat)(l:List Nat):List Nat:=bif mem? r l then l else l++[r]
mutual
def amR(I:List Nat):V->List Nat
 | .ptr r _=>als r I
 | .clo _ a b=>ajV (ajV I a) b
 | .agg cs=>ajV I cs
 | .EW v=>amR I v
 |_=>I
def ajV(I:List Nat):List V->List Nat
 |[]=>I
 |v::vs=>ajV (amR I v) vs
end
def Lc(A:Adv)(f i:Nat):Nat:=bif mem? i (A.move f) then 1 else bif mem? i (A.ref f) then 2 else bif mem? i (A.raw f) then 3 else bif mem? i (A.look f) then 4 else 0
def SK(A:Adv)(f:Nat):Nat->List Nat->List V->List Nat
 |_,I,[]=>I
 |i,I,v::vs=>SK A f (i+1) (match Lc A f i,v with
  |2,.own r _=>als r I
  |4,_=>I
  |_,v=>amR I v) vs
def idxOf(r:Nat):Nat->List Nat->Option Nat
 |_,[]=>none
 |i,j::l=>bif Nat.beq r j then some i else idxOf r (i+1) l
def VH(A:Adv)(f:Nat):Nat->List V->Acc (List V)
 |_,[]=>pure []
 |i,v::vs=>do
  let v<-(match Lc A f i with
   |1=>do
    let x<-toD v
    pure (.d x)
   |_=>pure v:Acc V)
  let vs<-VH A f (i+1) vs
  pure (v::vs)
mutual
def lend(imp:List Nat):V->Acc (V×List Nat)
 | .d x=>pure (.d (roD x),[])
 | .nil s=>pure (.d (.sl false s []),[])
 | .own r ver=>do
  match<-rd r with
  |some (.arr fz fl jl s rows)=>do
   ck (Nat.beq ver jl)
   ck (!(mem? r imp))
   pure (.d (.sl false s (vw fl rows)),bif fz then[] else[r])
  |_=> .fail
 | .ptr r off=>do
  let i<-op' (idxOf r 0 imp)
  pure (.ptr (oq+i) off,[])
 | .wW row off=>pure (.wW row off,[])
 | .EW v=>do
  let(v,l)<-lend imp v
  pure (.EW v,l)
 | .clo f a b=>do
  let(a,l)<-ahb imp a
  let(b,l')<-ahb imp b
  pure (.clo f a b,l++l')
 | .agg cs=>do
  let(a,l)<-ahb imp cs
  pure (.agg a,l)
 | .zF ..=> .fail
 | .SI _=> .fail
 | .undef=> .fail
def ahb(imp:List Nat):List V->Acc (List V×List Nat)
 |[]=>pure ([],[])
 |v::vs=>do
  let(v,l)<-lend imp v
  let(vs,l')<-ahb imp vs
  pure (v::vs,l++l')
end
def VI(imp:List Nat):List V->Acc (Row×List Nat)
 |[]=>pure ([],[])
 |v::vs=>do
  let(v,l)<-lend imp v
  match v with
  | .d x=>do
   let(r,l')<-VI imp vs
   pure (x::r,l++l')
  |_=> .fail
def agR(imp:List Nat)(v:V):Acc (V×List Nat):=
 match v with
 | .ptr r off=>do
  match<-rd r with
  |some (.box _ cs)=>do
   ck (!(mem? r imp))
   let(row,l)<-VI imp cs
   pure (.wW row off,r::l)
  |_=> .fail
 | .wW row off=>pure (.wW row off,[])
 |_=> .fail
def VJ(A:Adv)(imp:List Nat)(f:Nat):Nat->List V->Acc (List V×List Nat)
 |_,[]=>pure ([],[])
 |i,v::vs=>do
  let(v,l)<-(match Lc A f i with
   |1=>pure (v,[])
   |2=>match v with
    | .own r ver=>do
     ck (Nat.beq ver 0)
     let i<-op' (idxOf r 0 imp)
     pure (.own (oq+i) 0,[])
    |_=> .fail
   |3=>match v with
    | .nil s=>pure (.nil s,[])
    |_=> .fail
   |4=>agR imp v
   |_=>lend imp v:Acc (V×List Nat))
  let(vs,l')<-VJ A imp f (i+1) vs
  pure (v::vs,l++l')
def au1(imp:List Nat)(own:Bool)(v:V):Acc V:=
 match v with
 | .d x=>pure (.d (roD x))
 | .nil s=>pure (.d (.sl own s []))
 | .own r ver=>do
  match<-rd r with
  |some (.arr fz fl jl s rows)=>do
   ck (Nat.beq ver jl)
   ck (!(mem? r imp))
   match own with
   |true=>do
    ck (!fz)
    ck (aaP fl rows)
    wr r .dead
    pure (.d (.sl true s rows))
   |false=>do
    wr r (.arr true fl ver s rows)
    pure (.d (.sl false s (vw fl rows)))
  |_=> .fail
 |_=> .fail
def Yc(imp own:List Nat):Nat->List V->Acc (List V)
 |_,[]=>pure []
 |j,v::vs=>do
  let v<-au1 imp (mem? j own) v
  let vs<-Yc imp own (j+1) vs
  pure (v::vs)
def alu(A:Adv)(imp:List Nat)(c:Option Cell):Acc Cell:=
 match c with
 |some (.box t cs)=>do
  let cs<-Yc imp (A.aEt t) 0 cs
  pure (.box t cs)
 |some (.arr fz fl ver s rows)=>do
  ck (!fz)
  ck (Nat.beq ver 0)
  pure (.arr fz fl 0 s rows)
 |_=> .fail
def Yd(A:Adv)(imp:List Nat):List Nat->Acc (List Cell)
 |[]=>pure []
 |r::rs=>do
  let c<-rd r
  let c<-alu A imp c
  let cs<-Yd A imp rs
  pure (c::cs)
def keyOf(r j dst:Nat):Nat:=1000000+(r * 100+j) * 10000+dst
def vD:V->D
 | .d x=>x
 |_=> .TF
def au2(cs:List Cell)(i:Nat):Row:=match cs[i]? with|some (.box _ vs)=>vs.map vD|_=>[]
def au3(s:Nat)(cs:List Cell)(i:Nat):Option (List Row):=match cs[i]? with|some (.arr false _ 0 s' rows)=>bif Nat.beq s s' then some rows else none|_=>none
def au4(cs:List Cell)(i n:Nat):Bool:=match cs[i]? with|some (.box _ vs)=>Nat.beq vs.length n|_=>false
def au5(f:TypeId->List Bool):List TypeId->List Bool
 |[]=>[]
 |t::ts=>f t++au5 f ts
def fls(P:Program):Nat->TypeId->List Bool
 |0,_=>[]
 |n+1,t=>match P.underlying t with
  |some (.slice e)=>[wJ P e]
  |some (.struct fs)=>au5 (fls P n) (fs.toList.map (·.type))
  |_=>[false]
def Q7(own fl:Bool)(key:Nat)(row:Row)(j:Nat):CT->Acc V
 | .int k=> .opt (mg k row j) λn=> .ret (.d (.int k n))
 | .bool=> .opt (ajT row j) λn=> .ret (.d (.bool n))
 | .str=> .opt (cStr row j) λn=> .ret (.d (.str n))
 | .sl s=>match own with
  |true=> .opt (aeA s row j) λrows=>do
   new key (.arr false fl 0 s rows)
   pure (.own key 0)
  |false=> .opt (cSl s row j) λrows=> .ret (.d (.sl false s (vw fl rows)))
 | .other=> .fail
def adt(own:List Nat)(r dst:Nat)(row:Row):Nat->List CT->List Bool->Acc (List V)
 |_,[],_=>pure []
 |j,ct::l,fs=>do
  let v<-Q7 (mem? j own) (fs.headD false) (keyOf r j dst) row j ct
  let vs<-adt own r dst row (j+1) l fs.tail
  pure (v::vs)
def afr(X:Ctx)(dst:Nat)(out:List Cell):Nat->List Nat->Acc Unit
 |_,[]=>pure ()
 |i,r::rs=>do
  match<-rd r with
  |some (.box t _)=>do
   ck (au4 out i (Q5 X.P t).length)
   let vs<-adt (X.PS.aEt t) r dst (au2 out i) 0 (Q5 X.P t) (fls X.P 8 t)
   wr r (.box t vs)
  |some (.arr _ fl ver s _)=>do
   let rows<-op' (au3 s out i)
   wr r (.arr false fl ver s rows)
  |_=> .fail
  afr X dst out (i+1) rs
def aB8(dst c:Nat):Nat:=1000000000000000+dst * 1000+c
def Ye(att:List Nat)(dst ri:Nat)(row:Row):Nat->List CT->List Bool->Acc (List V)
 |_,[],_=>pure []
 |j,ct::l,fs=>do
  let v<-Q7 (mem? (ri * 20+j) att) (fs.headD false) (aB8 dst (ri * 20+j)) row j ct
  let vs<-Ye att dst ri row (j+1) l fs.tail
  pure (v::vs)
def adu(res:List Row)(ri:Nat):Row:=match res[ri]? with|some r=>r|none=>[]
def acA(X:Ctx)(att:List Nat)(dst:Nat)(res:List Row):Nat->List TypeId->Acc (List V)
 |_,[]=>pure []
 |ri,t::ts=>do
  ck (Nat.beq (adu res ri).length (Q5 X.P t).length)
  let cs<-Ye att dst ri (adu res ri) 0 (Q5 X.P t) (fls X.P 8 t)
  let v<-op' (L8 X.P t cs)
  let vs<-acA X att dst res (ri+1) ts
  pure (v::vs)
def apB(att:List Nat)(ri:Nat):Nat->List CT->Bool
 |_,[]=>true
 |j,.sl _::l=>mem? (ri * 20+j) att && apB att ri (j+1) l
 |j,_::l=>apB att ri (j+1) l
def aaf(P:Program)(att:List Nat):Nat->List TypeId->Bool
 |_,[]=>true
 |ri,t::ts=>apB att ri 0 (Q5 P t) && aaf P att (ri+1) ts
def freeze:List Nat->Acc Unit
 |[]=>pure ()
 |r::rs=>do
  match<-rd r with
  |some (.arr _ fl ver s rows)=>wr r (.arr true fl ver s rows)
  |_=> .fail
  freeze rs
def adw(X:Ctx)(K:jO)(fn dst f:Nat)(args:List V):Acc V:=do
 let g<-op' X.P.funcs[f]?
 ck (g.body.isSome && !(g.name == "runtime.NumGoroutine"))
 let imp:=SK X.PS f 0 [] args
 let args<-VH X.PS f 0 args
 let cells<-Yd X.PS imp imp
 let(args,Q8)<-VJ X.PS imp f 0 args
 ck (Q8.all λr=> !(mem? r imp))
 let out<-op' (K f args cells)
 ck (Nat.beq out.1.length g.resultTypes.size)
 let need:= !(Q8.isEmpty) &&(aaf X.P (X.PS.att fn dst) 0 g.resultTypes.toList && imp.isEmpty)
 ck (bif need then out.1.all yU else true)
 freeze (bif need then[] else Q8)
 afr X dst out.2 0 imp
 let vs<-acA X (X.PS.att fn dst) dst out.1 0 g.resultTypes.toList
 match vs with
 |[v]=>pure v
 |vs=>pure (.SI vs)
def aEx(P:Program)(ts:List TypeId)(x:V):Bool:=match ts with
 |[t]=>(match x with
  | .d (.str _)=>(match P.underlying t with|some .string=>true|_=>false)
  |_=>(match P.underlying t with|some (.slice _)=>true|_=>false))
 |_=>false
def yx(P:Program)(tm:kY):List Operand->List TypeId->List V
 |[],_=>[]
 |x::xs,ts=>ev P tm (ts.headD 0) x::yx P tm xs ts.tail
def amS:List V->Acc (List V)
 |[]=>pure []
 |v::vs=>do
  let v<-(match v with
   | .ptr r off=>do
    match<-rd r with
    |some (.rF _ x)=>do
     ck (Nat.beq off 0)
     pure (.EW x)
    |_=>pure (.ptr r off)
   |v=>pure v:Acc V)
  let vs<-amS vs
  pure (v::vs)
def vop(X:Ctx)(K:jO)(fn:Nat)(tm:kY)(o:Oper):Acc V:=
 let P:=X.P
 let dst:=o.dst.getD 0
 match o.op with
 | .move x=>pure (ev P tm o.type x)
 | .assign x=>pure (ev P tm o.type x)
 | .pick c x y=>auY (ev P tm o.type c) (ev P tm o.type x) (ev P tm o.type y)
 | .alloc T=>do
  let z<-op' (Qy P T)
  new dst (.box T z)
  pure (.ptr dst 0)
 | .box T x=>do
  let v:=ev P tm T x
  ck (Nat.beq v.cells.length (nN P T))
  ck (v.cells.all one)
  new dst (.box T v.cells)
  pure (.ptr dst 0)
 | .build T ps=>alr P T tm ps.toList
 | .buildSlice t n ps=>UG P dst t n tm ps.toList
 | .load t a=>auZ P t (evG X tm 0 a)
 | .store t a x=>do apv P t (ev P tm 0 a) (ev P tm t x);pure .undef
 | .nilCheck x=>match evG X tm o.type x with
  | .ptr r off=>pure (.ptr r off)
  | .wW row off=>pure (.wW row off)
  | .zF r ver i off=>pure (.zF r ver i off)
  |_=> .fail
 | .binOp op t x y t'=>aB7 P t op (ev P tm t x) (ev P tm t' y)
 | .unOp op t x=>un op (ev P tm t x)
 | .convert s d x=>aha P s d (ev P tm s x)
 | .makeFunc (.func f) first caps=>do
  let cs<-amS (yx P tm caps.toList [])
  pure (.clo f (yx P tm first.toList []) cs)
 | .makeSlice t l c=>acz P dst t (ev P tm o.type l) (ev P tm o.type c)
 | .slice t x lo hi none=>match X.PS.trunc fn dst,lo,hi with
  |true,none,hi=>apz P t (ev P tm t x) (hi.map (ev P tm 3))
  |true,some lo,none=>au0 P t (ev P tm t x) (ev P tm 3 lo)
  |_,lo,hi=>alp P t (evG X tm t x) (lo.map (ev P tm 3)) (hi.map (ev P tm 3))
 | .fieldAddr T x f=>acv P T (ev P tm 0 x) f
 | .field T x f=>apw P T (ev P tm T x) f
 | .indexAddr t x i=>acy P t (evG X tm t x) (ev P tm 3 i)
 | .index t x i=>apx P t (ev P tm t x) (ev P tm 3 i)
 | .extract x i=>match ev P tm 0 x with
  | .SI vs=>op' vs[i]?
  |_=> .fail
 | .call {callee:=.value f,args,argTypes}=>match ev P tm 0 f with
  | .clo g first caps=>adw X K fn dst g (first++yx P tm args.toList argTypes.toList++caps)
  |_=> .fail
 | .call {callee:=.builtin .len,args,argTypes}=>match yx P tm args.toList argTypes.toList with
  |[x]=>do
   ck (aEx P argTypes.toList x)
   lenV x
  |_=> .fail
 | .call {callee:=.builtin .append,args,argTypes}=>match yx P tm args.toList argTypes.toList,argTypes.toList with
  |[x,y],[t,t']=>alo P dst t t' x y
  |_,_=> .fail
 | .call {callee:=.builtin .max,args,argTypes}=>match yx P tm args.toList argTypes.toList with
  |[.d (.int k x),.d (.int _ y)]=>pure (.d (.int k (bif decide (x<y) then y else x)))
  |_=> .fail
 | .call {callee:=.builtin .min,args,argTypes}=>match yx P tm args.toList argTypes.toList with
  |[.d (.int k x),.d (.int _ y)]=>pure (.d (.int k (bif decide (y<x) then y else x)))
  |_=> .fail
 |_=> .fail
end Go.Vm
namespace Go.Vm
open Go
mutual
def refs:V->List Nat
 | .own r _=>[r]
 | .ptr r _=>[r]
 | .zF r _ _ _=>[r]
 | .clo _ a b=>Qz a++Qz b
 | .agg cs=>Qz cs
 | .SI vs=>Qz vs
 | .EW v=>refs v
 |_=>[]
def Qz:List V->List Nat
 |[]=>[]
 |v::vs=>refs v++Qz vs
end
def ahc(m:Mem)(r:Nat):List Nat:=match get r m with
 |some (.box _ cs)=>Qz cs
 |some (.rF _ v)=>refs v
 |_=>[]
def Qc(k:Nat):Bool:=Nat.ble oq k && Nat.blt k (2 * oq)
def adx:List Nat->List Nat->List Nat
 |acc,[]=>acc
 |acc,k::ks=>adx (bif mem? k acc then acc else acc++[k]) ks
def ay5(tm:kY)(m:Mem):List Nat:=
 let l0:=adx [] (tm.flatMap λx=>refs x.2)
 let l1:=adx l0 (l0.flatMap (ahc m))
 let l2:=adx l1 (l1.flatMap (ahc m))
 (adx l2 (m.map (·.1))).filter λk=> !(Qc k)
def names:List Nat:=[nat_lit 300000,nat_lit 300001,nat_lit 300002,nat_lit 300003,nat_lit 300004,nat_lit 300005,nat_lit 300006,nat_lit 300007,nat_lit 300008,nat_lit 300009,nat_lit 300010,nat_lit 300011,nat_lit 300012,nat_lit 300013,nat_lit 300014,nat_lit 300015,nat_lit 300016,nat_lit 300017,nat_lit 300018,nat_lit 300019,nat_lit 300020,nat_lit 300021,nat_lit 300022,nat_lit 300023,nat_lit 300024,nat_lit 300025,nat_lit 300026,nat_lit 300027,nat_lit 300028,nat_lit 300029,nat_lit 300030,nat_lit 300031,nat_lit 300032,nat_lit 300033,nat_lit 300034,nat_lit 300035,nat_lit 300036,nat_lit 300037,nat_lit 300038,nat_lit 300039,nat_lit 300040,nat_lit 300041,nat_lit 300042,nat_lit 300043,nat_lit 300044,nat_lit 300045,nat_lit 300046,nat_lit 300047,nat_lit 300048,nat_lit 300049,nat_lit 300050,nat_lit 300051,nat_lit 300052,nat_lit 300053,nat_lit 300054,nat_lit 300055,nat_lit 300056,nat_lit 300057,nat_lit 300058,nat_lit 300059,nat_lit 300060,nat_lit 300061,nat_lit 300062,nat_lit 300063]
def ay6:List Nat->List Nat->List (Nat×Nat)
 |n::ns,k::l=>(k,n)::ay6 ns l
 |_,_=>[]
def ren(L:List (Nat×Nat))(k:Nat):Nat:=match get k L with
 |some j=>j
 |none=>k
mutual
def RH(L:List (Nat×Nat)):V->V
 | .d x=> .d x
 | .nil s=> .nil s
 | .own r ver=> .own (ren L r) ver
 | .ptr r off=> .ptr (ren L r) off
 | .zF r ver i off=> .zF (ren L r) ver i off
 | .wW row off=> .wW row off
 | .EW v=> .EW (RH L v)
 | .clo f a b=> .clo f (Yf L a) (Yf L b)
 | .agg cs=> .agg (Yf L cs)
 | .SI vs=> .SI (Yf L vs)
 | .undef=> .undef
def Yf(L:List (Nat×Nat)):List V->List V
 |[]=>[]
 |v::vs=>RH L v::Yf L vs
end
def ahd(L:List (Nat×Nat)):Cell->Cell
 | .box t cs=> .box t (Yf L cs)
 | .arr fz fl ver s rows=> .arr fz fl ver s rows
 | .dead=> .dead
 | .JX ver s rows=> .JX ver s rows
 | .rF t v=> .rF t (RH L v)
def TG(L:List (Nat×Nat)):Mem->Mem
 |[]=>[]
 |(k,c)::m=>put (ren L k) (ahd L c) (TG L m)
def ahe(L:List (Nat×Nat)):kY->kY
 |[]=>[]
 |(t,v)::tm=>(t,RH L v)::ahe L tm
def nodupB:List Nat->Bool
 |[]=>true
 |k::l=> !(mem? k l) && nodupB l
def ady(L:List (Nat×Nat))(ks:List Nat):Bool:=nodupB (ks.map (ren L)) && ks.all λk=>bif Qc k then Nat.beq (ren L k) k else true
def alv(L:List (Nat×Nat))(S:St):St:=match ady L (S.mem.map (·.1)) with
 |true=>⟨ahe L S.tm,TG L S.mem⟩
 |false=>S
def canon(S:St):St:=match ay5 S.tm S.mem with
 |[]=>S
 |k::o=>alv (ay6 names (k::o)) S
end Go.Vm
namespace Go.Vm
open Go
mutual
def WR(m:Mem):V->V
 | .d x=> .d x
 | .nil s=> .nil s
 | .own r ver=>match get r m with
  |some (.arr _ _ jl _ _)=>bif Nat.beq ver jl then .own r 0 else .undef
  |some (.JX jl _ _)=>bif Nat.beq ver jl then .own r 0 else .undef
  |_=> .undef
 | .ptr r off=>match get r m with
  |some (.box _ _)=> .ptr r off
  |some (.rF _ _)=> .ptr r off
  |_=> .undef
 | .zF r ver i off=>match get r m with
  |some (.arr _ _ jl _ _)=>bif Nat.beq ver jl then .zF r 0 i off else .undef
  |some (.JX jl _ _)=>bif Nat.beq ver jl then .zF r 0 i off else .undef
  |_=> .undef
 | .wW row off=> .wW row off
 | .EW v=> .EW (WR m v)
 | .clo f a b=> .clo f (aaQ m a) (aaQ m b)
 | .agg cs=> .agg (aaQ m cs)
 | .SI vs=> .SI (aaQ m vs)
 | .undef=> .undef
def aaQ(m:Mem):List V->List V
 |[]=>[]
 |v::vs=>WR m v::aaQ m vs
end
def Gz(m:Mem):Cell->Cell
 | .box t cs=> .box t (aaQ m cs)
 | .arr fz fl _ s rows=> .arr fz fl 0 s rows
 | .dead=> .dead
 | .JX _ s rows=> .JX 0 s rows
 | .rF t v=> .rF t (WR m v)
def acB(m:Mem)(tm:kY):List Nat->kY
 |[]=>[]
 |t::ts=>match get t tm with
  |some v=>(t,WR m v)::acB m tm ts
  |none=>acB m tm ts
def acC:List Nat->List Nat->List Nat
 |[],l=>l
 |a::as,l=>bif mem? a l then acC as l else acC as (a::l)
def reach(m:Mem):Nat->List Nat->List Nat
 |0,l=>l
 |n+1,l=>reach m n (acC (l.flatMap (ahc m)) l)
def roots(tm:kY)(m:Mem):List Nat:=
 acC (tm.flatMap λx=>refs x.2) ((m.map (·.1)).filter Qc)
def uI(all:Mem)(R:List Nat):Mem->Mem
 |[]=>[]
 |(k,c)::m=>match c with
  | .dead=>uI all R m
  |c=>bif mem? k R then(k,Gz all c)::uI all R m else uI all R m
def closed(R:List Nat)(m:Mem):Bool:=m.all λx=>match x.2 with
 | .box _ cs=>(Qz cs).all λr=>mem? r R
 | .rF _ v=>(refs v).all λr=>mem? r R
 |_=>true
def aEy(m:Mem):Bool:=m.all λx=>match x.2 with
 | .arr _ _ ver _ _=>bif Qc x.1 then Nat.beq ver 0 else true
 | .dead=> !(Qc x.1)
 | .JX ..=> !(Qc x.1)
 |_=>true
def sortedK:Mem->Bool
 |[]=>true
 |(k,_)::m=>match m with
  |[]=>true
  |(j,_)::_=>Nat.blt k j && sortedK m
def acD(ts:List Nat)(S:St):Option St:=
 let tm:=acB S.mem S.tm ts
 let R:=reach S.mem 3 (roots tm S.mem)
 let m:=uI S.mem R S.mem
 bif closed R m &&(aEy S.mem && sortedK S.mem) then some ⟨tm,m⟩ else none
def prune(ts:List Nat)(S:St):Option St:=match acD ts S with
 |some S'=>some (canon S')
 |none=>none
def GH(ops:Array Oper)(tm:kY)(o:Oper):Option (Bool×kY):=
 match o.guard with
 |none=>some (true,tm)
 |some (j,want)=>match ops[j]? with
  |some oj=>match oj.dst with
   |some d=>match WO d tm with
    | .d (.bool b)=>match b with
     |true=>some (want,put d (.d (.bool true)) tm)
     |false=>some (!want,put d (.d (.bool false)) tm)
    | .SI vs=>match vs with
     |[]=>some (false,put d (.SI []) tm)
     |_::_=>none
    |_=>none
   |none=>none
  |none=>none
def PZ(nt:Nat):Option Nat->Bool
 |some d=>Nat.blt d nt
 |none=>true
def J3(P:Program)(fn:Nat):Nat:=match P.funcs[fn]? with|some g=>g.ntmps|none=>0
def afs(nt:Nat)(dst:Option Nat)(tm:kY):kY:=bif PZ nt dst then acu dst (.SI []) tm else ay3 dst tm
def ET(X:Ctx)(K:jO)(fn:Nat)(ops:Array Oper)(i:Nat)(S:St):Option (St×Log):=
 match ops[i]? with
 |none=>none
 |some o=>match GH ops S.tm o with
  |none=>none
  |some (false,tm)=>some (⟨afs (J3 X.P fn) o.dst tm,S.mem⟩,.none)
  |some (true,tm)=>match(vop X K fn tm o).run S.mem .none with
   |none=>none
   |some (v,m,l)=>bif PZ (J3 X.P fn) o.dst then some (⟨acu o.dst v tm,m⟩,l) else none
def BG(X:Ctx)(K:jO)(fn:Nat)(ops:Array Oper):List Nat->St->List (Nat×Log)->Option (St×List (Nat×Log))
 |[],S,L=>some (S,L)
 |i::is,S,L=>match ET X K fn ops i S with
  |none=>none
  |some (S',l)=>BG X K fn ops is S' ((i,l)::L)
def ay7(a b:List Nat):Bool:=a.all λk=> !(mem? k b)
def Log.apart(a b:Log):Bool:=ay7 a.w b.r && ay7 a.w b.w && ay7 a.r b.w
def ordered(bef:Array Nat)(i j:Nat):Bool:=(bef.getD i 0).testBit j
def Yg(ops:Array Oper)(bef:Array Nat):List (Nat×Log)->Bool
 |[]=>true
 |(i,l)::L=>(L.all fun(j,l')=>ordered bef i j||(l.apart l' &&(match ops[i]?,ops[j]? with
   |some a,some b=>a.apart ops b
   |_,_=>false))) && Yg ops bef L
def Yh:Nat->List Oper->Bool
 |_,[]=>true
 |i,o::l=>(o.after.toList.all λe=> !(Region.binds .any e)||Nat.blt e.on i) && Yh (i+1) l
def backOk(ops:Array Oper):Bool:=Yh 0 ops.toList
def aB9(d:Nat):Operand->Bool
 | .tmp t=> !(Nat.beq t d)
 |_=>true
def ari(args:Array Operand)(d1 d2:Nat):Bool:=match args.toList with
 |[.tmp a,.tmp b]=>Nat.beq a d1 && Nat.beq b d2
 |_=>false
def adz:List Row×List Cell->Option (IntKind×Int×Bool×Nat×List Row)
 |([[.int k n]],[.arr false fl' 0 s' rs'])=>some (k,n,fl',s',rs')
 |_=>none
def ahf(e:Nat)(fl:Bool)(q:IntKind×Int×Bool×Nat×List Row):Bool:=Nat.beq q.2.2.2.1 e &&((fl==q.2.2.1) &&(aaP fl q.2.2.2.2 && Jk q.2.2.2.2))
def au6(X:Ctx)(f:Nat):Bool:=Nat.beq (Lc X.PS f 0) 2 && Nat.beq (Lc X.PS f 1) 0 &&(match X.P.funcs[f]? with
 | some g => g.body.isSome && !(g.name == "runtime.NumGoroutine") && (match g.resultTypes.toList with | [t] => !(Qb X.P t) | _ => false)
 |none=>false)
def RJ(X:Ctx)(K:jO)(tm:kY)(o1 o2 o3:Oper):Acc (Nat×Nat×V×V):=
 match o1,o2,o3 with
 |⟨some d1,.load t (.tmp ta),_,_,_,none⟩,⟨some d2,.move x,ty2,_,_,none⟩,⟨_,.call ⟨.value (.func f),args,_⟩,_,_,_,none⟩=>do
  ck (!(Nat.beq d1 d2) &&(ari args d1 d2 &&(aB9 d1 x &&(okT X.P t &&(Nat.beq (nN X.P t) 1 &&(!(Qb X.P t) && au6 X f))))))
  let e<-op' (elT X.P t)
  match WO ta tm,ev X.P tm ty2 x with
  | .zF r ver i off,.d (.int k n)=>do
   match<-rd r with
   |some (.arr false false jl s rows)=>do
    ck (Nat.beq ver jl && Nat.ble (off+1) s)
    let row<-op' rows[i]?
    let rs<-op' (aeA (nN X.P e) row off)
    ck (aaP (wJ X.P e) rs)
    let out<-op' (K f [.own oq 0,.d (.int k n)] [.arr false (wJ X.P e) 0 (nN X.P e) rs])
    let q<-op' (adz out)
    ck (ahf (nN X.P e) (wJ X.P e) q)
    wr r (.arr false false jl s (rows.set i (splice row off [.sl true (nN X.P e) q.2.2.2.2])))
    pure (d1,d2,.d (.int k n),.d (.int q.1 q.2.1))
   |_=> .fail
  |_,_=> .fail
 |_,_,_=> .fail
def J4(X:Ctx)(K:jO)(fn:Nat)(ops:Array Oper)(p:Nat)(S:St):Option St:=
 match ops[p]?,ops[p+1]?,ops[p+2]? with
 |some o1,some o2,some o3=>match(RJ X K S.tm o1 o2 o3).run S.mem .none with
  |some ((d1,d2,kv,v),m,_)=>bif Nat.blt d1 (J3 X.P fn) &&(Nat.blt d2 (J3 X.P fn) && PZ (J3 X.P fn) o3.dst) then some ⟨acu o3.dst v (put d2 kv (put d1 .undef S.tm)),m⟩ else none
  |none=>none
 |_,_,_=>none
def Fq(X:Ctx)(K:jO)(fn id:Nat)(ops:Array Oper)(draw:Bool)(S:St):Option (St×List (Nat×Log)):=
 match X.PS.fuse fn id with
 |0=>BG X K fn ops (List.range ops.size) S []
 |p+1=>match draw with
  |true=>none
  |false=>match BG X K fn ops (List.range p) S [] with
   |some (S1,_)=>match J4 X K fn ops p S1 with
    |some S2=>BG X K fn ops ((List.range ops.size).drop (p+3)) S2 []
    |none=>none
   |none=>none
def region(X:Ctx)(K:jO)(fn id:Nat)(ops:Array Oper)(draw:Bool)(S:St):Option St:=
 match Fq X K fn id ops draw S with
 |none=>none
 |some (S',L)=>bif(match draw with|false=>true|true=>X.P.follows .mixedOrders &&(backOk ops && Yg ops (Region.before ops) L)) then prune (X.PS.keep fn id) S' else none
inductive Ex where
 |normal
 |exit (id:Nat)
 |ret
noncomputable def lim{α:Type}(f:Nat->Option α):Option α:=
 open Classical in if h:∃a n,f n=some a then some (Classical.choose h) else none
def iter(b:St->Option (Ex×St)):Nat->St->Option (Ex×St)
 |0,_=>none
 |n+1,S=>match b S with
  |some (.normal,S')=>iter b n S'
  |r=>r
noncomputable def UH(b:St->Option (Ex×St))(S:St):Option (Ex×St):=lim λn=>iter b n S
def aaR(P:Program)(tm:kY)(c:Operand):Option Bool:=match ev P tm 0 c with
 | .d (.bool b)=>some b
 |_=>none
noncomputable def den(X:Ctx)(K:jO)(fn:Nat):Code->St->Option (Ex×St)
 | .skip,S=>some (.normal,S)
 | .region id ops draw,S=>match region X K fn id ops draw S with
  |some S'=>some (.normal,S')
  |none=>none
 | .seq a b,S=>match den X K fn a S with
  |some (.normal,S')=>den X K fn b S'
  |r=>r
 | .cond c a b,S=>match aaR X.P S.tm c with
  |some true=>den X K fn a S
  |some false=>den X K fn b S
  |none=>none
 | .block id c,S=>match den X K fn c S with
  |some (.exit j,S')=>bif Nat.beq j id then some (.normal,S') else some (.exit j,S')
  |r=>r
 | .loop c,S=>UH (den X K fn c) S
 | .exit id,S=>some (.exit id,S)
 | .ret,S=>some (.ret,S)
 |_,_=>none
def apC(A:Adv)(f i:Nat)(fl:Bool)(v:V):Acc V:=
 match Lc A f i with
 |1=>(match v with
  | .d (.sl true s rows)=>do
   new i (.arr false fl 0 s rows)
   pure (.own i 0)
  | .d x=>pure (.d (roD x))
  |_=> .fail)
 |_=>pure v
def adA(X:Ctx)(f:Nat):Nat->List TypeId->List V->Acc kY
 |_,_,[]=>pure []
 |i,ts,v::vs=>do
  let v<-apC X.PS f i ((fls X.P 8 (ts.headD 0)).headD false) v
  let r<-adA X f (i+1) ts.tail vs
  pure ((i,v)::r)
def uJ:Nat->List Cell->Mem
 |_,[]=>[]
 |i,c::cs=>(oq+i,c)::uJ (i+1) cs
def yV(n:Nat):List Nat:=(List.range n).map (oq+ ·)
def entry(X:Ctx)(f:Nat)(g:Func)(args:List V)(cells:List Cell):Acc kY:=do
 afr X 9999 cells 0 (yV cells.length)
 adA X f 0 g.params.toList args
def alx(P:Program)(tm:kY)(r:ResultVar)(t:TypeId):Acc Row:=
 match r with
 | .tmp x=>match Qb P t,WO x tm with
  |true,.agg cs=>PY cs
  |false,.agg _=> .fail
  |false,v=>PY [v]
  |true,_=> .fail
 | .cell a T=>match WO a tm with
  | .ptr r 0=>do
   match<-rd r with
   |some (.box _ cs)=>do
    ck (Nat.beq T t && Nat.beq cs.length (nN P T) &&(okT P T &&(Qb P T||Nat.beq cs.length 1)))
    PY cs
   |_=> .fail
  |_=> .fail
def aag(P:Program)(tm:kY):List ResultVar->List TypeId->Acc (List Row)
 |[],[]=>pure []
 |r::rs,t::ts=>do
  let row<-alx P tm r t
  let rows<-aag P tm rs ts
  pure (row::rows)
 |_,_=> .fail
def leave(X:Ctx)(g:Func)(n:Nat)(S:St):Option (List Row×List Cell):=
 match(do
  let rows<-aag X.P S.tm g.results.toList g.resultTypes.toList
  let cells<-Yd X.PS (yV n) (yV n)
  pure (rows,cells):Acc (List Row×List Cell)).run S.mem .none with
 |some (r,_,_)=>some r
 |none=>none
noncomputable def body(X:Ctx)(K:jO)(f:Nat)(args:List V)(cells:List Cell):Option (List Row×List Cell):=
 match X.P.funcs[f]? with
 |some g=>match g.body with
  |some c=>bif !(Nat.ble cells.length oq && Nat.ble args.length g.ntmps) then none else match(entry X f g args cells).run (uJ 0 cells) .none with
   |some (tm,m,_)=>(match den X K f c ⟨tm,m⟩ with
    |some (.normal,S)=>leave X g cells.length S
    |some (.ret,S)=>leave X g cells.length S
    |_=>none)
   |none=>none
  |none=>none
 |none=>none
noncomputable def Yi(X:Ctx):Nat->jO
 |0,_,_,_=>none
 |n+1,f,args,cells=>match X.adr f with
  |some p=>p args cells
  |none=>body X (Yi X n) f args cells
noncomputable def call(X:Ctx):jO:=λf args cells=>lim λn=>Yi X n f args cells
end Go.Vm
namespace Go.Vm
open Go
abbrev View:=Nat->Nat->Option Value
abbrev Heap:=Nat->Option Obj
def dO(w:World):Heap:=λb=>w.heap[b]?
mutual
def ro(h:View):D->Value->Prop
 | .int k n,v=>v=.int k n
 | .bool b,v=>v=.bool b
 | .str s,v=>v=.string ⟨⟨s⟩⟩
 | .TF,v=>v=.nilFunc
 | .sl _ s rows,v=>∃a cap,v=.slice a rows.length cap/\rows.length<=cap/\(rows≠[]->∃b o,a=some ⟨b,o,none⟩/\rG h s rows b o)
def rG(h:View)(s:Nat):List Row->Nat->Nat->Prop
 |[],_,_=>True
 |r::rs,b,o=>r.length=s/\Dy h r b o/\rG h s rs b (o+s)
def Dy(h:View):Row->Nat->Nat->Prop
 |[],_,_=>True
 |x::r,b,o=>(∃v,h b o=some v/\ro h x v)/\Dy h r b (o+1)
end
mutual
def ow(H:Heap)(h:View):D->Value->List Nat->Prop
 | .int k n,v,N=>v=.int k n/\N=[]
 | .bool b,v,N=>v=.bool b/\N=[]
 | .str s,v,N=>v=.string ⟨⟨s⟩⟩/\N=[]
 | .TF,v,N=>v=.nilFunc/\N=[]
 | .sl own s rows,v,N=>match own with
  |false=>N=[]/\ro h (.sl false s rows) v
  |true=>(rows=[]/\v=.slice none 0 0/\N=[])\/
   ∃b cap cs t N',v=.slice (some ⟨b,0,none⟩) rows.length cap/\rows.length<=cap/\H b=some (.cells cs t (0,0))/\cs.size=cap * s/\
    ig H h s rows cs.toList N'/\N=b::N'
def ig(H:Heap)(h:View)(s:Nat):List Row->List Value->List Nat->Prop
 |[],_,N=>N=[]
 |r::rs,cs,N=>r.length=s/\∃N1 N2,N=N1++N2/\jq H h r cs N1/\ig H h s rs (cs.drop s) N2
def jq(H:Heap)(h:View):Row->List Value->List Nat->Prop
 |[],_,N=>N=[]
 |x::r,cs,N=>∃v cs' N1 N2,cs=v::cs'/\N=N1++N2/\ow H h x v N1/\jq H h r cs' N2
end
def jf(h:View):Row->List Value->Prop
 |[],_=>True
 |x::r,cs=>∃v cs',cs=v::cs'/\ro h x v/\jf h r cs'
def gW(h:View)(s:Nat):List Row->List Value->Prop
 |[],_=>True
 |r::rs,cs=>r.length=s/\jf h r cs/\gW h s rs (cs.drop s)
def XR(H:Heap)(h:View)(fl:Bool)(s:Nat)(rows:List Row)(v:Value)(N:List Nat):Prop:=
 (rows=[]/\v=.slice none 0 0/\N=[])\/
 ∃b cap cs t N',v=.slice (some ⟨b,0,none⟩) rows.length cap/\rows.length<=cap/\H b=some (.cells cs t (0,0))/\cs.size=cap * s/\
  (match fl with
   |true=>gW h s rows cs.toList/\N'=[]
   |false=>ig H h s rows cs.toList N')/\N=b::N'
def ajf(H:Heap)(h:View)(s:Nat)(rows:List Row)(v:Value)(N:List Nat):Prop:=
 (rows=[]/\v=.slice none 0 0/\N=[])\/
 ∃b o cap cs t,v=.slice (some ⟨b,o,none⟩) rows.length cap/\rows.length<=cap/\H b=some (.cells cs t (0,0))/\o+cap * s<=cs.size/\
  gW h s rows (cs.toList.drop o)/\N=[b]
def VK(g:Value):Prop:=∃a n c,g=.slice a n c
def ay8(g:Value):Prop:=∃b o,g=.pointer (some ⟨b,o,none⟩)
mutual
def bn(μ:Nat->Value)(m:Mem)(h:View):V->Value->Prop
 | .d x,g=>ro h x g
 | .nil _,g=>g=.slice none 0 0
 | .own r v0,g=>VK g/\match get r m with
  |some (.arr _ _ ver _ _)=>v0<=ver/\(v0=ver->g=μ r)
  |some .dead=>True
  |some (.JX ver _ _)=>v0<=ver/\(v0=ver->g=μ r)
  |_=>False
 | .ptr r off,g=>ay8 g/\match get r m with
  |some (.box _ _)=>∃b,μ r=.pointer (some ⟨b,0,none⟩)/\g=.pointer (some ⟨b,off,none⟩)
  |some (.rF _ _)=>∃b,μ r=.pointer (some ⟨b,0,none⟩)/\g=.pointer (some ⟨b,off,none⟩)
  |some .dead=>True
  |_=>False
 | .zF r v0 i off,g=>ay8 g/\match get r m with
  |some (.arr _ _ ver s _)=>v0<=ver/\(v0=ver->∃b n cap,μ r=.slice (some ⟨b,0,none⟩) n cap/\g=.pointer (some ⟨b,i * s+off,none⟩))
  |some .dead=>True
  |some (.JX ver s _)=>v0<=ver/\(v0=ver->∃b o n cap,μ r=.slice (some ⟨b,o,none⟩) n cap/\g=.pointer (some ⟨b,o+(i * s+off),none⟩))
  |_=>False
 | .wW row off,g=>∃b o,g=.pointer (some ⟨b,o+off,none⟩)/\Dy h row b o
 | .EW v,g=>∃b x,g=.pointer (some ⟨b,0,none⟩)/\h b 0=some x/\bn μ m h v x
 | .clo f first caps,g=>∃a c,g=.func (.func f) a c/\dL μ m h first a.toList/\dL μ m h caps c.toList
 | .agg cs,g=>∃a,g=.agg a/\dL μ m h cs a.toList
 | .SI vs,g=>∃a,g=.tuple a/\dL μ m h vs a.toList
 | .undef,_=>True
def dL(μ:Nat->Value)(m:Mem)(h:View):List V->List Value->Prop
 |[],gs=>gs=[]
 |v::vs,gs=>∃g gs',gs=g::gs'/\bn μ m h v g/\dL μ m h vs gs'
end
def qp(μ:Nat->Value)(m:Mem)(H:Heap)(h:View)(r:Nat):Cell->List Nat->Prop
 | .box t cs,N=>∃b a,μ r=.pointer (some ⟨b,0,none⟩)/\H b=some (.cells a t (0,0))/\dL μ m h cs a.toList/\N=[b]
 | .arr fz fl _ s rows,N=>match fz with
  |true=>ro h (.sl true s rows) (μ r)/\N=[]
  |false=>XR H h fl s rows (μ r) N
 | .dead,N=>N=[]
 | .JX _ s rows,N=>ajf H h s rows (μ r) N
 | .rF _ v,N=>N=[]/\∃b x,μ r=.pointer (some ⟨b,0,none⟩)/\h b 0=some x/\bn μ m h v x
open Classical in
noncomputable def view(w:World)(U X:Nat->Prop):View:=λb o=>if U b/\¬X b then w.cell? ⟨b,o,none⟩ else none
def excl(F:Nat->List Nat)(E:List Nat):Nat->Prop:=λb=>b∈E\/∃r,b∈F r
structure Keep(M:List Nat)(w w':World):Prop where
 os:w'.os=w.os
 tape:w'.tape=w.tape
 output:w'.output=w.output
 size:w.heap.size<=w'.heap.size
 block:∀b,b<w.heap.size->b ∉ M->w'.heap[b]? =w.heap[b]?
def Keep.refl(M:List Nat)(w:World):Keep M w w:=⟨rfl,rfl,rfl,Nat.le_refl _,λ_ _ _=>rfl⟩
def Keep.trans{M M':List Nat}{a b c:World}(h:Keep M a b)(k:Keep M' b c)(hM:∀x,x∈M'->x∈M\/a.heap.size<=x):Keep M a c:=
 ⟨k.os.trans h.os,k.tape.trans h.tape,k.output.trans h.output,Nat.le_trans h.size k.size,λi hi hm=>(k.block i (Nat.lt_of_lt_of_le hi h.size) (λhx=>(hM i hx).elim hm (λhl=>absurd hi (Nat.not_lt.2 hl)))).trans (h.block i hi hm)⟩
structure MInv(base:Nat)(U:Nat->Prop)(m:Mem)(w:World)(μ:Nat->Value)(F:Nat->List Nat)(E:List Nat)(out:List Nat):Prop where
 cell:∀r c,get r m=some c->r ∉ out->qp μ m (dO w) (view w U (excl F E)) r c (F r)
 dj:∀r r',r≠r'->∀b,b∈F r->b ∉ F r'
 djE:∀r b,b∈F r->b ∉ E
 nd:∀r,(F r).Nodup
 ndE:E.Nodup
 lt:∀b,excl F E b->b<w.heap.size/\base<=b/\U b
 up:∀b,w.heap.size<=b->U b
 bs:base<=w.heap.size
 none_:∀r,get r m=none->F r=[]
 out_:∀r,r∈out->F r=[]
def View.le(h h':View):Prop:=∀b o v,h b o=some v->h' b o=some v
def View.le_refl(h:View):h.le h:=λ_ _ _ x=>x
def View.le.trans'{a b c:View}(h:a.le b)(k:b.le c):a.le c:=λx y v q=>k x y v (h x y v q)
mutual
def J5{h h':View}(hl:h.le h'):∀(x:D) (v:Value),ro h x v->ro h' x v
 | .int _ _,_,q=>by simpa[ro] using q
 | .bool _,_,q=>by simpa[ro] using q
 | .str _,_,q=>by simpa[ro] using q
 | .TF,_,q=>by simpa[ro] using q
 | .sl _ s rows,v,q=>by simp only[ro] at q|-;obtain⟨a,cap,h1,h2,h3⟩:=q;refine⟨a,cap,h1,h2,λhn=> ?_⟩;obtain⟨b,o,h4,h5⟩:=h3 hn;exact⟨b,o,h4,aft hl s rows b o h5⟩
def aft{h h':View}(hl:h.le h')(s:Nat):∀(rows:List Row) (b o:Nat),rG h s rows b o->rG h' s rows b o
 |[],_,_,_=>by simp[rG]
 |r::rs,b,o,q=>by simp only[rG] at q|-;exact⟨q.1,Qd hl r b o q.2.1,aft hl s rs b (o+s) q.2.2⟩
def Qd{h h':View}(hl:h.le h'):∀(r:Row) (b o:Nat),Dy h r b o->Dy h' r b o
 |[],_,_,_=>by simp[Dy]
 |x::r,b,o,q=>by simp only[Dy] at q|-;obtain⟨⟨v,h1,h2⟩,h3⟩:=q;exact⟨⟨v,hl _ _ _ h1,J5 hl x v h2⟩,Qd hl r b (o+1) h3⟩
end
mutual
def aly{H H':Heap}{h h':View}(hl:h.le h'):∀(x:D) (v:Value) (N:List Nat),(∀b,b∈N->H' b=H b)->ow H h x v N->ow H' h' x v N
 | .int _ _,_,_,_,q=>by simpa[ow] using q
 | .bool _,_,_,_,q=>by simpa[ow] using q
 | .str _,_,_,_,q=>by simpa[ow] using q
 | .TF,_,_,_,q=>by simpa[ow] using q
 | .sl false s rows,v,N,_,q=>by simp only[ow] at q|-;exact⟨q.1,J5 hl _ _ q.2⟩
 | .sl true s rows,v,N,hb,q=>by
  simp only[ow] at q|-;rcases q with q|⟨b,cap,cs,t,N',h1,h2,h3,h4,h5,rfl⟩
  ·exact .inl q
  ·exact .inr ⟨b,cap,cs,t,N',h1,h2,by rw[hb b (by simp)];exact h3,h4,Dz hl s rows cs.toList N' (λb' hb'=>hb b' (by simp[hb'])) h5,rfl⟩
def Dz{H H':Heap}{h h':View}(hl:h.le h')(s:Nat):∀(rows:List Row) (cs:List Value) (N:List Nat),(∀b,b∈N->H' b=H b)->ig H h s rows cs N->ig H' h' s rows cs N
 |[],_,_,_,q=>by simpa[ig] using q
 |r::rs,cs,N,hb,q=>by simp only[ig] at q|-;obtain⟨h1,N1,N2,rfl,h2,h3⟩:=q;exact⟨h1,N1,N2,rfl,Nv hl r cs N1 (λb hx=>hb b (by simp[hx])) h2,Dz hl s rs _ N2 (λb hx=>hb b (by simp[hx])) h3⟩
def Nv{H H':Heap}{h h':View}(hl:h.le h'):∀(r:Row) (cs:List Value) (N:List Nat),(∀b,b∈N->H' b=H b)->jq H h r cs N->jq H' h' r cs N
 |[],_,_,_,q=>by simpa[jq] using q
 |x::r,cs,N,hb,q=>by simp only[jq] at q|-;obtain⟨v,cs',N1,N2,rfl,rfl,h2,h3⟩:=q;exact⟨v,cs',N1,N2,rfl,rfl,aly hl x v N1 (λb hx=>hb b (by simp[hx])) h2,Nv hl r cs' N2 (λb hx=>hb b (by simp[hx])) h3⟩
end
def adB{h h':View}(hl:h.le h'):∀(r:Row) (cs:List Value),jf h r cs->jf h' r cs
 |[],_,_=>trivial
 |x::r,cs,⟨v,cs',h1,h2,h3⟩=>⟨v,cs',h1,J5 hl x v h2,adB hl r cs' h3⟩
def rH{h h':View}(hl:h.le h')(s:Nat):∀(rows:List Row) (cs:List Value),gW h s rows cs->gW h' s rows cs
 |[],_,_=>trivial
 |r::rs,cs,⟨h1,h2,h3⟩=>⟨h1,adB hl r cs h2,rH hl s rs _ h3⟩
def NR{H H':Heap}{h h':View}(hl:h.le h'){fl:Bool}{s:Nat}{rows:List Row}{v:Value}{N:List Nat}(hb:∀b,b∈N->H' b=H b)(q:XR H h fl s rows v N):XR H' h' fl s rows v N:=by
 rcases q with q|⟨b,cap,cs,t,N',h1,h2,h3,h4,h5,rfl⟩
 ·exact .inl q
 ·refine .inr ⟨b,cap,cs,t,N',h1,h2,by rw[hb b (by simp)];exact h3,h4, ?_,rfl⟩;cases fl with
  |true=>exact⟨rH hl s rows _ h5.1,h5.2⟩
  |false=>exact Dz hl s rows _ N' (λb' hb'=>hb b' (by simp[hb'])) h5
def aeC{H H':Heap}{h h':View}(hl:h.le h'){s:Nat}{rows:List Row}{v:Value}{N:List Nat}(hb:∀b,b∈N->H' b=H b)(q:ajf H h s rows v N):ajf H' h' s rows v N:=by
 rcases q with q|⟨b,o,cap,cs,t,h1,h2,h3,h4,h5,rfl⟩
 ·exact .inl q
 ·exact .inr ⟨b,o,cap,cs,t,h1,h2,by rw[hb b (by simp)];exact h3,h4,rH hl s rows _ h5,rfl⟩
def Ld(μ μ':Nat->Value)(r:Nat):Cell->Cell->Prop
 | .box t _,.box t' _=>t'=t/\μ' r=μ r
 | .arr _ fl ver s _,.arr _ fl' jl s' _=>ver<=jl/\fl'=fl/\(ver=jl->μ' r=μ r/\s'=s)
 |_,.dead=>True
 | .arr _ _ ver _ _,.JX jl _ _=>ver<jl
 | .JX ver s _,.JX jl s' _=>ver<=jl/\(ver=jl->μ' r=μ r/\s'=s)
 | .box _ _,.rF _ _=>μ' r=μ r
 | .rF _ _,.rF _ _=>μ' r=μ r
 |_,_=>False
def Jl(μ:Nat->Value)(m:Mem)(μ':Nat->Value)(m':Mem):Prop:=∀r c,get r m=some c->∃c',get r m'=some c'/\Ld μ μ' r c c'
def afu(μ:Nat->Value)(r:Nat)(c:Cell):Ld μ μ r c c:=by cases c<;>simp[Ld]
def uK(μ:Nat->Value)(m:Mem):Jl μ m μ m:=λr c h=>⟨c,h,afu μ r c⟩
def yA{μ1 μ2 μ3:Nat->Value}{m1 m2 m3:Mem}(h:Jl μ1 m1 μ2 m2)(k:Jl μ2 m2 μ3 m3):Jl μ1 m1 μ3 m3:=by
 intro r c hc;obtain⟨c',h1,h2⟩:=h r c hc;obtain⟨c'',k1,k2⟩:=k r c' h1;refine⟨c'',k1, ?_⟩;cases c<;>cases c'<;>cases c''<;>simp_all [Ld]
 ·rename_i ver s _ _ _ jl s' _ _ _ au7 s'' _;refine⟨aB,λe=> ?_⟩;have e1:ver=jl:=aB;have e2:jl=au7:=aB;exact⟨(k2.2.2 e2).1.trans (h2.2.2 e1).1,(k2.2.2 e2).2.trans (h2.2.2 e1).2⟩
 ·omega
 ·omega
 ·rename_i ver s _ jl s' _ au7 s'' _;refine⟨aB,λe=> ?_⟩;have e1:ver=jl:=aB;have e2:jl=au7:=aB;exact⟨(k2.2 e2).1.trans (h2.2 e1).1,(k2.2 e2).2.trans (h2.2 e1).2⟩
mutual
def Dt{μ μ':Nat->Value}{m m':Mem}{h h':View}(hm:Jl μ m μ' m')(hl:h.le h'):∀(v:V) (g:Value),bn μ m h v g->bn μ' m' h' v g
 | .d x,g,q=>by simp only[bn] at q|-;exact J5 hl x g q
 | .nil _,_,q=>by simpa[bn] using q
 | .own r v0,g,q=>by
  simp only[bn] at q|-;refine⟨q.1, ?_⟩;replace q:=q.2;cases hc:get r m with
  |none=>simp[hc] at q
  |some c=>
   obtain⟨c',h1,h2⟩:=hm r c hc;rw[h1];cases c<;>cases c'<;>simp_all [Ld]
   ·rename_i ver s _ _ _ jl s' _;refine⟨aB,λe=> ?_⟩;have e1:ver=jl:=aB;rw[(h2.2.2 e1).1];exact q.2 aB
   ·exact⟨aB,λe=>by omega⟩
   ·rename_i ver s _ jl s' _;refine⟨aB,λe=> ?_⟩;have e1:ver=jl:=aB;rw[(h2.2 e1).1];exact q.2 aB
 | .ptr r off,g,q=>by
  simp only[bn] at q|-;refine⟨q.1, ?_⟩;replace q:=q.2;cases hc:get r m with
  |none=>simp[hc] at q
  |some c=>obtain⟨c',h1,h2⟩:=hm r c hc;rw[h1];cases c<;>cases c'<;>simp_all [Ld]
 | .zF r v0 i off,g,q=>by
  simp only[bn] at q|-;refine⟨q.1, ?_⟩;replace q:=q.2;cases hc:get r m with
  |none=>simp[hc] at q
  |some c=>
   obtain⟨c',h1,h2⟩:=hm r c hc;rw[h1];cases c<;>cases c'<;>simp_all [Ld]
   ·rename_i ver s _ _ _ jl s' _;refine⟨aB,λe=> ?_⟩;have e1:ver=jl:=aB;rw[(h2.2.2 e1).1,(h2.2.2 e1).2];exact q.2 aB
   ·exact⟨aB,λe=>by omega⟩
   ·rename_i ver s _ jl s' _;refine⟨aB,λe=> ?_⟩;have e1:ver=jl:=aB;rw[(h2.2 e1).1,(h2.2 e1).2];exact q.2 aB
 | .wW row off,g,q=>by simp only[bn] at q|-;obtain⟨b,o,h1,h2⟩:=q;exact⟨b,o,h1,Qd hl row b o h2⟩
 | .EW v,g,q=>by simp only[bn] at q|-;obtain⟨b,x,h1,h2,h3⟩:=q;exact⟨b,x,h1,hl _ _ _ h2,Dt hm hl v x h3⟩
 | .clo f first caps,g,q=>by simp only[bn] at q|-;obtain⟨a,c,h1,h2,h3⟩:=q;exact⟨a,c,h1,wX hm hl first _ h2,wX hm hl caps _ h3⟩
 | .agg cs,g,q=>by simp only[bn] at q|-;obtain⟨a,h1,h2⟩:=q;exact⟨a,h1,wX hm hl cs _ h2⟩
 | .SI vs,g,q=>by simp only[bn] at q|-;obtain⟨a,h1,h2⟩:=q;exact⟨a,h1,wX hm hl vs _ h2⟩
 | .undef,_,_=>by simp[bn]
def wX{μ μ':Nat->Value}{m m':Mem}{h h':View}(hm:Jl μ m μ' m')(hl:h.le h'):∀(vs:List V) (gs:List Value),dL μ m h vs gs->dL μ' m' h' vs gs
 |[],_,q=>by simpa[dL] using q
 |v::vs,gs,q=>by simp only[dL] at q|-;obtain⟨g,gs',h1,h2,h3⟩:=q;exact⟨g,gs',h1,Dt hm hl v g h2,wX hm hl vs gs' h3⟩
end
def Oe{μ μ':Nat->Value}{m m':Mem}{H H':Heap}{h h':View}(hm:Jl μ m μ' m')(hl:h.le h'){r:Nat}(hr:μ' r=μ r){c:Cell}{N:List Nat}(hb:∀b,b∈N->H' b=H b)
  (q:qp μ m H h r c N):qp μ' m' H' h' r c N:=by
 cases c with
 |box t cs=>obtain⟨b,a,h1,h2,h3,rfl⟩:=q;exact⟨b,a,by rw[hr];exact h1,by rw[hb b (by simp)];exact h2,wX hm hl cs _ h3,rfl⟩
 |arr fz fl ver s rows=>
  cases fz with
  |true=>exact⟨by rw[hr];exact J5 hl _ _ q.1,q.2⟩
  |false=>simp only[qp] at q|-;rw[hr];exact NR hl hb q
 |dead=>exact q
 |JX ver s rows=>simp only[qp] at q|-;rw[hr];exact aeC hl hb q
 |rF t v=>obtain⟨h1,b,x,h2,h3,h4⟩:=q;exact⟨h1,b,x,by rw[hr];exact h2,hl _ _ _ h3,Dt hm hl v x h4⟩
def zk{k j:Nat}(h:k≠j):Nat.beq k j=false:=by
 cases hb:Nat.beq k j with
 |false=>rfl
 |true=>exact absurd (Dl hb) h
def jv{α:Type}(k:Nat)(x:α):∀l:List (Nat×α),get k (put k x l)=some x
 |[]=>by simp[put,get]
 |(j,y)::l=>by
  simp only[put]
  by_cases h:k=j
  ·subst h;simp[get]
  ·have hb:Nat.beq k j=false:=zk h;rw[hb];cases hl:Nat.blt k j with
   |true=>simp[get]
   |false=>simp[get,hb,jv k x l]
def mQ{α:Type}{k k':Nat}(hk:k≠k')(x:α):∀l:List (Nat×α),get k (put k' x l)=get k l
 |[]=>by have hb:Nat.beq k k'=false:=zk hk;simp[put,get,hb]
 |(j,y)::l=>by
  have hb:Nat.beq k k'=false:=zk hk;simp only[put]
  by_cases h:k'=j
  ·subst h;simp[get,hb]
  ·have hb':Nat.beq k' j=false:=zk h;rw[hb'];cases hl:Nat.blt k' j with
   |true=>simp[get,hb]
   |false=>simp[get,mQ hk x l]
def Og{α:Type}(k:Nat):∀l:List (Nat×α),get k (del k l)=none
 |[]=>rfl
 |(j,y)::l=>by
  simp only[del];cases hb:Nat.beq k j with
  |true=>simpa using Og k l
  |false=>simp[get,hb,Og k l]
def QA{α:Type}{k k':Nat}(hk:k≠k'):∀l:List (Nat×α),get k (del k' l)=get k l
 |[]=>rfl
 |(j,y)::l=>by
  simp only[del];cases hb:Nat.beq k' j with
  |true=>have:k'=j:=Dl hb;subst this;have hb:Nat.beq k k'=false:=zk hk;simp[get,hb,QA hk l]
  |false=>simp[get,QA hk l]
def get_put{α:Type}(k k':Nat)(x:α)(l:List (Nat×α)):get k (put k' x l)=if k=k' then some x else get k l:=by
 by_cases h:k=k'
 ·subst h;rw[jv,if_pos rfl]
 ·rw[mQ h,if_neg h]
def ay9{α:Type}(k k':Nat)(l:List (Nat×α)):get k (del k' l)=if k=k' then none else get k l:=by
 by_cases h:k=k'
 ·subst h;rw[Og,if_pos rfl]
 ·rw[QA h,if_neg h]
def Acc.run_bind{α β:Type}(a:Acc α)(f:α->Acc β):∀(m:Mem) (l:Log),(a.bind f).run m l=match a.run m l with|some (x,m',l')=>(f x).run m' l'|none=>none:=by
 induction a with
 |ret a=>intro m l;rfl
 |fail=>intro m l;rfl
 |get k c ih=>intro m l;simp only[Acc.bind,Acc.run];exact ih _ _ _
 |set k x c ih=>intro m l;simp only[Acc.bind,Acc.run];exact ih _ _
 |opt o c ih=>intro m l;simp only[Acc.bind,Acc.run];cases o with|none=>rfl|some b=>exact ih b _ _
 |guard b c ih=>intro m l;simp only[Acc.bind,Acc.run];cases b with|true=>exact ih _ _|false=>rfl
def run_bind{α β:Type}(a:Acc α)(f:α->Acc β)(m:Mem)(l:Log):(a>>=f).run m l=match a.run m l with|some (x,m',l')=>(f x).run m' l'|none=>none:=Acc.run_bind a f m l
def aA{α β:Type}{a:Acc α}{f:α->Acc β}{m:Mem}{l:Log}{y:β}{m':Mem}{l':Log}(h:(a>>=f).run m l=some (y,m',l')):
  ∃x m1 l1,a.run m l=some (x,m1,l1)/\(f x).run m1 l1=some (y,m',l'):=by
 rw[run_bind] at h;cases ha:a.run m l with
 |none=>simp[ha] at h
 |some x=>obtain⟨x,m1,l1⟩:=x;rw[ha] at h;exact⟨x,m1,l1,rfl,h⟩
def run_pure{α:Type}(a:α)(m:Mem)(l:Log):(Pure.pure a:Acc α).run m l=some (a,m,l):=rfl
def zl(k:Nat)(m:Mem)(l:Log):(rd k).run m l=some (get k m,m,l.rd k):=rfl
def IG(k:Nat)(c:Cell)(m:Mem)(l:Log):(wr k c).run m l=some ((),put k c m,l.wr k):=rfl
def eF{b:Bool}{m:Mem}{l:Log}{x:Unit}{m':Mem}{l':Log}(h:(ck b).run m l=some (x,m',l')):b=true/\m'=m/\l'=l:=by cases b<;>simp[ck,Acc.run] at h;exact⟨rfl,h.1.symm,h.2.symm⟩
def iE{β:Type}{o:Option β}{m:Mem}{l:Log}{x:β}{m':Mem}{l':Log}(h:(op' o).run m l=some (x,m',l')):o=some x/\m'=m/\l'=l:=by cases o<;>simp[op',Acc.run] at h;obtain⟨rfl,rfl,rfl⟩:=h;exact⟨rfl,rfl,rfl⟩
def aC{α:Type}{m:Mem}{l:Log}{r:α×Mem×Log}(h:(Acc.fail:Acc α).run m l=some r):False:=by simp[Acc.run] at h
structure afv(X:Ctx)(h:View):Prop where
 row:∀g row,X.glob g=some row->Dy h row g 0
 int:∀g,X.aMz g=true->∃n,h g 0=some (.int .i64 n)
def Jm{X:Ctx}{h h':View}(hl:h.le h')(q:afv X h):afv X h':=⟨λg row hg=>Qd hl row g 0 (q.row g row hg),λg hg=>by obtain⟨n,hn⟩:=q.int g hg;exact⟨n,hl _ _ _ hn⟩⟩
def asE(X:Ctx)(w:World):Prop:=∀g,X.aEu g=true->∃x row cs T fr,X.glob g=some (x::row)/\w.heap[g]? =some (.cells cs T fr)/\cs.size=row.length+1
def asF{X:Ctx}{w:World}(h:∀g,X.aEu g=false):asE X w:=λg hg=>by rw[h g] at hg;cases hg
def ahg{h:View}:∀(row:Row) (b o:Nat),Dy h row b o->rG h 1 (row.map λx=>[x]) b o
 |[],_,_,_=>trivial
 |x::r,b,o,⟨h1,h2⟩=>⟨rfl,⟨h1,trivial⟩,ahg r b (o+1) h2⟩
end Go.Vm
namespace Go.Vm
open Go
def upF(F:Nat->List Nat)(r:Nat)(N:List Nat):Nat->List Nat:=λk=>if k=r then N else F k
def upM(μ:Nat->Value)(r:Nat)(g:Value):Nat->Value:=λk=>if k=r then g else μ k
@[simp] theorem H9(F:Nat->List Nat)(r:Nat)(N:List Nat):upF F r N r=N:=by simp[upF]
def kF{F:Nat->List Nat}{r k:Nat}(N:List Nat)(h:k≠r):upF F r N k=F k:=by simp[upF,h]
@[simp] theorem Oh(μ:Nat->Value)(r:Nat)(g:Value):upM μ r g r=g:=by simp[upM]
def Qe{μ:Nat->Value}{r k:Nat}(g:Value)(h:k≠r):upM μ r g k=μ k:=by simp[upM,h]
def full(w:World):View:=λb o=>w.cell? ⟨b,o,none⟩
def xZ(w:World)(U X:Nat->Prop):(view w U X).le (full w):=by
 intro b o v h;unfold view at h;split at h
 ·exact h
 ·cases h
def SL{w:World}{U U' X X':Nat->Prop}(hU:∀b,U b->U' b)(h:∀b,X' b->X b):(view w U X).le (view w U' X'):=by
 intro b o v hv;unfold view at hv|-;split at hv
 ·rename_i hc;rw[if_pos ⟨hU b hc.1,λhx=>hc.2 (h b hx)⟩];exact hv
 ·cases hv
structure GS where
 μ:Nat->Value
 F:Nat->List Nat
 E:List Nat
 out:List Nat
section
variable (base:Nat) (U:Nat->Prop) (w:World)
def IJ(m:Mem)(G:GS):Prop:=MInv base U m w G.μ G.F G.E G.out
noncomputable def Gh(G:GS):View:=view w U (excl G.F G.E)
end
structure Yj(m:Mem)(G:GS)(m':Mem)(G':GS):Prop where
 mem:Jl G.μ m G'.μ m'
 ex:∀b,excl G'.F G'.E b->excl G.F G.E b
def Yj.refl(m:Mem)(G:GS):Yj m G m G:=⟨uK _ _,λ_ h=>h⟩
def Yj.trans{m1 m2 m3:Mem}{G1 G2 G3:GS}(h:Yj m1 G1 m2 G2)(k:Yj m2 G2 m3 G3):Yj m1 G1 m3 G3:=
 ⟨yA h.mem k.mem,λb hb=>h.ex b (k.ex b hb)⟩
def Yj.view{U:Nat->Prop}{w:World}{m m':Mem}{G G':GS}(h:Yj m G m' G'):(Gh U w G).le (Gh U w G'):=SL (λ_ x=>x) h.ex
def Yj.bn{U:Nat->Prop}{w:World}{m m':Mem}{G G':GS}(h:Yj m G m' G'){v:V}{g:Value}(q:bn G.μ m (Gh U w G) v g):bn G'.μ m' (Gh U w G') v g:=
 Dt h.mem h.view v g q
def Yj.dL{U:Nat->Prop}{w:World}{m m':Mem}{G G':GS}(h:Yj m G m' G'){v:List V}{g:List Value}(q:dL G.μ m (Gh U w G) v g):dL G'.μ m' (Gh U w G') v g:=
 wX h.mem h.view v g q
section
variable {base:Nat} {U:Nat->Prop} {w:World} {m:Mem} {G:GS}
def IJ.set(hg:IJ base U w m G)(r:Nat)(c':Cell)(μ':Nat->Value)(N E' out':List Nat)
  (hs:(N++E').Nodup) (hsub:∀b,b∈N++E'->b∈G.F r\/b∈G.E) (hle:Jl G.μ m μ' (put r c' m)) (hμ:∀k,k≠r->μ' k=G.μ k)
  (ho:∀k,k≠r->(k∈out'↔k∈G.out)) (hr:r∈out'->N=[])
  (hc:(view w U (excl G.F G.E)).le (view w U (excl (upF G.F r N) E'))->r ∉ out'->qp μ' (put r c' m) (dO w) (view w U (excl (upF G.F r N) E')) r c' N):
  IJ base U w (put r c' m) ⟨μ',upF G.F r N,E',out'⟩/\Yj m G (put r c' m) ⟨μ',upF G.F r N,E',out'⟩:=by
 have hex:∀b,excl (upF G.F r N) E' b->excl G.F G.E b:=by
  rintro b (hb|⟨k,hb⟩)
  ·rcases hsub b (by simp[hb]) with h|h
   ·exact .inr ⟨r,h⟩
   ·exact .inl h
  ·by_cases hk:k=r
   ·subst hk;rw[H9] at hb;rcases hsub b (by simp[hb]) with h|h
    ·exact .inr ⟨_,h⟩
    ·exact .inl h
   ·rw[kF N hk] at hb;exact .inr ⟨k,hb⟩
 have hv:(view w U (excl G.F G.E)).le (view w U (excl (upF G.F r N) E')):=SL (λ_ x=>x) hex;have hN:=List.nodup_append.1 hs;refine⟨show MInv base U (put r c' m) w μ' (upF G.F r N) E' out' from ?_,⟨hle,hex⟩⟩;refine⟨?_, ?_, ?_, ?_,hN.2.1,λb hb=>hg.lt b (hex b hb),hg.up,hg.bs, ?_, ?_⟩
 ·intro k c hk hko;rw[get_put] at hk
  by_cases e:k=r
  ·subst e;rw[if_pos rfl] at hk;cases hk;rw[H9];exact hc hv hko
  ·rw[if_neg e] at hk;rw[kF N e];exact Oe hle hv (hμ k e) (λb _=>rfl) (hg.cell k c hk (λh=>hko ((ho k e).2 h)))
 ·intro k k' hne b hb hb'
  by_cases e:k=r
  ·subst e;rw[H9] at hb;rw[kF N (Ne.symm hne)] at hb';rcases hsub b (by simp[hb]) with h|h
   ·exact hg.dj _ _ hne b h hb'
   ·exact hg.djE _ b hb' h
  ·rw[kF N e] at hb
   by_cases e':k'=r
   ·subst e';rw[H9] at hb';rcases hsub b (by simp[hb']) with h|h
    ·exact hg.dj _ _ hne b hb h
    ·exact hg.djE _ b hb h
   ·rw[kF N e'] at hb';exact hg.dj _ _ hne b hb hb'
 ·intro k b hb hE
  by_cases e:k=r
  ·subst e;rw[H9] at hb;exact hN.2.2 b hb b hE rfl
  ·rw[kF N e] at hb;rcases hsub b (by simp[hE]) with h|h
   ·exact hg.dj _ _ e b hb h
   ·exact hg.djE _ b hb h
 ·intro k
  by_cases e:k=r
  ·subst e;rw[H9];exact hN.1
  ·rw[kF N e];exact hg.nd k
 ·intro k hk;rw[get_put] at hk
  by_cases e:k=r
  ·rw[if_pos e] at hk;cases hk
  ·rw[if_neg e] at hk;rw[kF N e];exact hg.none_ k hk
 ·intro k hk
  by_cases e:k=r
  ·subst e;rw[H9];exact hr hk
  ·rw[kF N e];exact hg.out_ k ((ho k e).1 hk)
def IJ.less(hg:IJ base U w m G)(E':List Nat)(hn:E'.Nodup)(hs:∀b,b∈E'->b∈G.E):
  IJ base U w m {G with E:=E'}/\Yj m G m {G with E:=E'}:=by
 have hex:∀b,excl G.F E' b->excl G.F G.E b:=by
  rintro b (hb|hb)
  ·exact .inl (hs b hb)
  ·exact .inr hb
 have hv:(view w U (excl G.F G.E)).le (view w U (excl G.F E')):=SL (λ_ x=>x) hex;refine⟨⟨?_,hg.dj,λr b hb hE=>hg.djE r b hb (hs b hE),hg.nd,hn,λb hb=>hg.lt b (hex b hb),hg.up,hg.bs,hg.none_,hg.out_⟩,⟨uK _ _,hex⟩⟩;intro r c hc ho;exact Oe (uK _ _) hv rfl (λ_ _=>rfl) (hg.cell r c hc ho)
def J6{μ μ':Nat->Value}{r:Nat}{c':Cell}(hμ:∀k,k≠r->μ' k=μ k)(h:∀c,get r m=some c->Ld μ μ' r c c'):Jl μ m μ' (put r c' m):=by
 intro k c hk
 by_cases e:k=r
 ·subst e;exact⟨c',jv _ _ _,h c hk⟩
 ·refine⟨c,by rw[mQ e];exact hk, ?_⟩;cases c<;>simp[Ld,hμ k e]
def full_cell{b:Nat}{cs:Array Value}{t:TypeId}{fr:Nat×Nat}(h:dO w b=some (.cells cs t fr))(o:Nat):full w b o=cs.toList[o]? :=by simp only[full,World.cell?];unfold dO at h;simp[h]
end
def acE{h:View}{b:Nat}:∀(r:Row) (o:Nat) (cs:List Value),(∀j v,cs[j]? =some v->h b (o+j)=some v)->jf h r cs->Dy h r b o
 |[],_,_,_,_=>by simp[Dy]
 |x::r,o,cs,hc,⟨v,cs',e,h1,h2⟩=>by subst e;simp only[Dy];refine⟨⟨v,hc 0 v rfl,h1⟩,acE r (o+1) cs' (λj u hj=> ?_) h2⟩;have:=hc (j+1) u (by simpa using hj);rw[show o+1+j=o+(j+1) from by omega];exact this
def Yk{h:View}{b s:Nat}:∀(rs:List Row) (o:Nat) (cs:List Value),(∀j v,cs[j]? =some v->h b (o+j)=some v)->gW h s rs cs->rG h s rs b o
 |[],_,_,_,_=>by simp[rG]
 |r::rs,o,cs,hc,⟨h1,h2,h3⟩=>by simp only[rG];refine⟨h1,acE r o cs hc h2,Yk rs (o+s) (cs.drop s) (λj u hj=> ?_) h3⟩;rw[List.getElem?_drop] at hj;rw[show o+s+j=o+(s+j) from by omega];exact hc _ _ hj
def aeD(h:View)(H:Heap)(N:List Nat):Prop:=∀b,b∈N->∀cs t fr,H b=some (.cells cs t fr)->∀(o:Nat) v,cs.toList[o]? =some v->h b o=some v
def aeD.sub{h:View}{H:Heap}{N N':List Nat}(q:aeD h H N)(hs:∀b,b∈N'->b∈N):aeD h H N':=λb hb=>q b (hs b hb)
mutual
def aBa{H:Heap}{h h':View}(hl:h.le h'):∀(x:D) (v:Value) (N:List Nat),aeD h' H N->ow H h x v N->ro h' x v
 | .int _ _,_,_,_,q=>by simp only[ow] at q;simpa[ro] using q.1
 | .bool _,_,_,_,q=>by simp only[ow] at q;simpa[ro] using q.1
 | .str _,_,_,_,q=>by simp only[ow] at q;simpa[ro] using q.1
 | .TF,_,_,_,q=>by simp only[ow] at q;simpa[ro] using q.1
 | .sl false s rows,v,N,_,q=>by simp only[ow] at q;have:=J5 hl _ _ q.2;simpa[ro] using this
 | .sl true s rows,v,N,hs,q=>by
  simp only[ow] at q;simp only[ro];rcases q with⟨rfl,rfl,rfl⟩|⟨b,cap,cs,t,N',h1,h2,h3,h4,h5,rfl⟩
  ·exact⟨none,0,by simp,by simp,λe=>absurd rfl e⟩
  ·refine⟨_,cap,h1,h2,λ_=>⟨b,0,rfl, ?_⟩⟩;refine Yk rows 0 cs.toList (λj v hj=>by rw[Nat.zero_add];exact hs b (by simp) cs t _ h3 j v hj) ?_;exact NS hl s rows cs.toList N' (hs.sub (by simp;exact λ_ hb=> .inr hb)) h5
def NS{H:Heap}{h h':View}(hl:h.le h')(s:Nat):∀(rows:List Row) (cs:List Value) (N:List Nat),aeD h' H N->ig H h s rows cs N->gW h' s rows cs
 |[],_,_,_,_=>by simp[gW]
 |r::rs,cs,N,hs,q=>by simp only[ig] at q;obtain⟨h1,N1,N2,rfl,h2,h3⟩:=q;simp only[gW];exact⟨h1,acF hl r cs N1 (hs.sub (by simp;exact λ_ hb=> .inl hb)) h2,NS hl s rs _ N2 (hs.sub (by simp;exact λ_ hb=> .inr hb)) h3⟩
def acF{H:Heap}{h h':View}(hl:h.le h'):∀(r:Row) (cs:List Value) (N:List Nat),aeD h' H N->jq H h r cs N->jf h' r cs
 |[],_,_,_,_=>by simp[jf]
 |x::r,cs,N,hs,q=>by simp only[jq] at q;obtain⟨v,cs',N1,N2,rfl,rfl,h1,h2⟩:=q;simp only[jf];exact⟨v,cs',rfl,aBa hl x v N1 (hs.sub (by simp;exact λ_ hb=> .inl hb)) h1,acF hl r cs' N2 (hs.sub (by simp;exact λ_ hb=> .inr hb)) h2⟩
end
def alz{H:Heap}{h h':View}(hl:h.le h'){fl:Bool}{s:Nat}{rows:List Row}{v:Value}{N:List Nat}(hs:aeD h' H N)(q:XR H h fl s rows v N)(o:Bool):ro h' (.sl o s rows) v:=by
 simp only[ro];rcases q with⟨rfl,rfl,rfl⟩|⟨b,cap,cs,t,N',h1,h2,h3,h4,h5,rfl⟩
 ·exact⟨none,0,by simp,by simp,λe=>absurd rfl e⟩
 ·refine⟨_,cap,h1,h2,λ_=>⟨b,0,rfl, ?_⟩⟩;refine Yk rows 0 cs.toList (λj v hj=>by rw[Nat.zero_add];exact hs b (by simp) cs t _ h3 j v hj) ?_;cases fl with
  |true=>exact rH hl s rows _ h5.1
  |false=>exact NS hl s rows cs.toList N' (hs.sub (by simp;exact λ_ hb=> .inr hb)) h5
def Yl{h:View}{o o':Bool}{s:Nat}{rows:List Row}{v:Value}(q:ro h (.sl o s rows) v):ro h (.sl o' s rows) v:=by simpa[ro] using q
def ajW{w:World}{N:List Nat}:aeD (full w) (dO w) N:=by intro b _ cs t fr hb o v hv;rw[full_cell hb,hv]
def NT{w:World}{U X:Nat->Prop}{N:List Nat}(hU:∀b,b∈N->U b/\¬X b):aeD (view w U X) (dO w) N:=by intro b hm cs t fr hb o v hv;unfold view;rw[if_pos (hU b hm)];have:=full_cell hb o;rw[hv] at this;exact this
mutual
def au8{h:View}:∀(x:D) (v:Value),ro h x v->ro h x.fz v
 | .int _ _,_,q=>by simpa[D.fz] using q
 | .bool _,_,q=>by simpa[D.fz] using q
 | .str _,_,q=>by simpa[D.fz] using q
 | .TF,_,q=>by simpa[D.fz] using q
 | .sl own s rows,v,q=>by
  simp only[D.fz,ro] at q|-;obtain⟨a,cap,h1,h2,h3⟩:=q;have hlen:(ak rows).length=rows.length:=Vo rows;refine⟨a,cap,by rw[hlen];exact h1,by rw[hlen];exact h2,λhn=> ?_⟩;have hn':rows≠[]:=by intro e;subst e;exact hn rfl
  obtain⟨b,o,h4,h5⟩:=h3 hn';exact⟨b,o,h4,ajX s rows b o h5⟩
def Vo:∀rows:List Row,(ak rows).length=rows.length
 |[]=>rfl
 |r::rs=>by simp[ak,Vo rs]
def WS:∀r:Row,(Jj r).length=r.length
 |[]=>rfl
 |x::r=>by simp[Jj,WS r]
def ajX{h:View}(s:Nat):∀(rows:List Row) (b o:Nat),rG h s rows b o->rG h s (ak rows) b o
 |[],_,_,_=>by simp[ak,rG]
 |r::rs,b,o,q=>by simp only[ak,rG] at q|-;exact⟨by rw[WS];exact q.1,amT r b o q.2.1,ajX s rs b (o+s) q.2.2⟩
def amT{h:View}:∀(r:Row) (b o:Nat),Dy h r b o->Dy h (Jj r) b o
 |[],_,_,_=>by simp[Jj,Dy]
 |x::r,b,o,q=>by simp only[Jj,Dy] at q|-;obtain⟨⟨v,h1,h2⟩,h3⟩:=q;exact⟨⟨v,h1,au8 x v h2⟩,amT r b (o+1) h3⟩
end
def ahh{h:View}{fl:Bool}{o:Bool}{s:Nat}{rows:List Row}{v:Value}(q:ro h (.sl o s rows) v):ro h (.sl false s (vw fl rows)) v:=by
 unfold vw;cases fl with
 |true=>exact Yl q
 |false=>simpa[D.fz] using au8 _ _ q
def au9{h:View}{x:D}{v:Value}(q:ro h x v):ro h (roD x) v:=by cases x<;>simpa[roD,ro] using q
def ava{H:Heap}{h:View}{x:D}{v:Value}(q:ro h x v):ow H h (roD x) v []:=by cases x<;>simp[roD,ow,ro] at q|-<;>exact q
def aza{H:Heap}{h:View}{x:D}{v:Value}(hf:x.flat=true)(q:ro h x v):ow H h x v []:=by cases x<;>simp[D.flat,ow,ro] at hf q|-<;>exact q
def ahi{H:Heap}{h:View}:∀(r:Row) (cs:List Value),(r.all D.flat)=true->jf h r cs->jq H h r cs []
 |[],_,_,_=>by simp[jq]
 |x::r,cs,hf,⟨v,cs',e,h1,h2⟩=>by simp only[List.all_cons,Ji] at hf;simp only[jq];exact⟨v,cs',[],[],e,rfl,aza hf.1 h1,ahi r cs' hf.2 h2⟩
def Ym{H:Heap}{h:View}(s:Nat):∀(rs:List Row) (cs:List Value),ah rs=true->gW h s rs cs->ig H h s rs cs []
 |[],_,_,_=>by simp[ig]
 |r::rs,cs,hf,⟨h1,h2,h3⟩=>by simp only[ah,List.all_cons,Ji] at hf;simp only[ig];exact⟨h1,[],[],rfl,ahi r cs hf.1 h2,Ym s rs _ hf.2 h3⟩
def alA{H:Heap}{h:View}{fl:Bool}{s:Nat}{rows:List Row}{v:Value}{N:List Nat}(ho:aaP fl rows=true)(q:XR H h fl s rows v N):ow H h (.sl true s rows) v N:=by
 simp only[ow];rcases q with q|⟨b,cap,cs,t,N',h1,h2,h3,h4,h5,rfl⟩
 ·exact .inl q
 ·refine .inr ⟨b,cap,cs,t,N',h1,h2,h3,h4, ?_,rfl⟩;cases fl with
  |true=>obtain⟨h5,rfl⟩:=h5;exact Ym s rows _ (by simpa[aaP] using ho) h5
  |false=>exact h5
def arj{H:Heap}{h:View}{s:Nat}{rows:List Row}{v:Value}{N:List Nat}(q:ow H h (.sl true s rows) v N):XR H h false s rows v N:=by simpa[ow,XR] using q
def apD{H:Heap}{h:View}{s:Nat}{rows:List Row}{v:Value}{N:List Nat}(q:ow H h (.sl true s rows) v N):
  ∃N1 N2,N=N1++N2/\∀h',h.le h'->aeD h' H N2->XR H h' true s rows v N1:=by
 simp only[ow] at q;rcases q with⟨rfl,rfl,rfl⟩|⟨b,cap,cs,t,N',h1,h2,h3,h4,h5,rfl⟩
 ·exact⟨[],[],rfl,λ_ _ _=> .inl ⟨rfl,rfl,rfl⟩⟩
 ·exact⟨[b],N',rfl,λh' hl hs=> .inr ⟨b,cap,cs,t,[],h1,h2,h3,h4,⟨NS hl s rows _ N' hs h5,rfl⟩,rfl⟩⟩
end Go.Vm
namespace Go.Vm
open Go
section
variable {base:Nat} {U:Nat->Prop} {w:World} {m:Mem} {G:GS}
def IJ.kill(hg:IJ base U w m G){r:Nat}{fl:Bool}{ver s:Nat}{rows:List Row}(hc:get r m=some (.arr false fl ver s rows))(hro:r ∉ G.out):
  IJ base U w (put r .dead m) ⟨G.μ,upF G.F r [],G.E++G.F r,G.out⟩/\Yj m G (put r .dead m) ⟨G.μ,upF G.F r [],G.E++G.F r,G.out⟩/\
   XR (dO w) (Gh U w G) fl s rows (G.μ r) (G.F r):=by
 have h1:=hg.set r .dead G.μ [] (G.E++G.F r) G.out
  (by simpa using List.nodup_append.2 ⟨hg.ndE,hg.nd r,λa ha b hb e=>hg.djE r b hb (e ▸ ha)⟩)
  (by simp;exact λb hb=>hb.symm) (J6 (λ_ _=>rfl) (λc h=>by rw[hc] at h;cases h;trivial)) (λ_ _=>rfl) (λ_ _=>Iff.rfl) (λ_=>rfl) (λ_ _=>rfl)
 exact⟨h1.1,h1.2,hg.cell r _ hc hro⟩
def IJ.freeze(hg:IJ base U w m G){r:Nat}{fz fl:Bool}{ver s:Nat}{rows:List Row}(hc:get r m=some (.arr fz fl ver s rows))(hro:r ∉ G.out):
  IJ base U w (put r (.arr true fl ver s rows) m) ⟨G.μ,upF G.F r [],G.E,G.out⟩/\Yj m G (put r (.arr true fl ver s rows) m) ⟨G.μ,upF G.F r [],G.E,G.out⟩/\
   ro (Gh U w ⟨G.μ,upF G.F r [],G.E,G.out⟩) (.sl true s rows) (G.μ r):=by
 have hle:Jl G.μ m G.μ (put r (.arr true fl ver s rows) m):=J6 (λ_ _=>rfl) (λc h=>by rw[hc] at h;cases h;exact⟨Nat.le_refl _,rfl,λ_=>⟨rfl,rfl⟩⟩);have aEz:(view w U (excl G.F G.E)).le (view w U (excl (upF G.F r []) G.E))->ro (view w U (excl (upF G.F r []) G.E)) (.sl true s rows) (G.μ r):=by
  intro hv;have hq:=hg.cell r _ hc hro;cases fz with
  |true=>exact J5 hv _ _ hq.1
  |false=>
   refine alz hv (NT λb hb=>⟨(hg.lt b (.inr ⟨r,hb⟩)).2.2, ?_⟩) hq true;rintro(hE|⟨k,hk⟩)
   ·exact hg.djE r b hb hE
   ·by_cases e:k=r
    ·subst e;simp at hk
    ·rw[kF _ e] at hk;exact hg.dj r k (Ne.symm e) b hb hk
 have h1:=hg.set r (.arr true fl ver s rows) G.μ [] G.E G.out (by simpa using hg.ndE) (by simp;exact λb hb=> .inr hb) hle (λ_ _=>rfl) (λ_ _=>Iff.rfl) (λ_=>rfl)
  (λhv _=>⟨aEz hv,rfl⟩)
 exact⟨h1.1,h1.2,aEz h1.2.view⟩
def IJ.aCa(hg:IJ base U w m G){k:Nat}(fl:Bool){s:Nat}{rows:List Row}{g:Value}{N E:List Nat}(hn:get k m=none)(hk:k ∉ G.out)(hE:(N++E).Perm G.E)
  (hq:ow (dO w) (Gh U w G) (.sl true s rows) g N):
  ∃F',IJ base U w (put k (.arr false fl 0 s rows) m) ⟨upM G.μ k g,F',E,G.out⟩/\Yj m G (put k (.arr false fl 0 s rows) m) ⟨upM G.μ k g,F',E,G.out⟩:=by
 have hnd:=hE.nodup_iff.2 hg.ndE;have hmem:∀b,b∈N++E->b∈G.E:=λb hb=>hE.mem_iff.1 hb
 have hμ:∀j,j≠k->upM G.μ k g j=G.μ j:=λj e=>Qe g e
 have hle:∀c',Jl G.μ m (upM G.μ k g) (put k c' m):=λc'=>J6 hμ (λc h=>by rw[hn] at h;cases h)
 cases fl with
 |false=>refine⟨_,hg.set k (.arr false false 0 s rows) (upM G.μ k g) N E G.out hnd (λb hb=> .inr (hmem b hb)) (hle _) hμ (λ_ _=>Iff.rfl) (λh=>absurd h hk) (λhv _=> ?_)⟩;simp only[qp,Oh];exact NR hv (λ_ _=>rfl) (arj hq)
 |true=>
  obtain⟨N1,N2,rfl,h2⟩:=apD hq;have hnd':(N1++E).Nodup:=by rw[Nu] at hnd;have:=List.nodup_append.1 hnd;exact List.nodup_append.2 ⟨this.1,(List.nodup_append.1 this.2.1).2.1,λa ha b hb=>this.2.2 a ha b (by simp[hb])⟩
  refine⟨_,hg.set k (.arr false true 0 s rows) (upM G.μ k g) N1 E G.out hnd' (λb hb=> .inr (hmem b (by simp at hb|-;rcases hb with h|h<;>simp[h]))) (hle _) hμ (λ_ _=>Iff.rfl) (λh=>absurd h hk) (λhv _=> ?_)⟩;simp only[qp,Oh];refine h2 _ hv (NT λb hb=>⟨(hg.lt b (.inl (hmem b (by simp[hb])))).2.2, ?_⟩);rw[Nu] at hnd;have hd:=List.nodup_append.1 hnd;have hd2:=List.nodup_append.1 hd.2.1;rintro(hE'|⟨j,hj⟩)
  ·exact hd2.2.2 b hb b hE' rfl
  ·by_cases e:j=k
   ·subst e;rw[H9] at hj;exact hd.2.2 b hj b (by simp[hb]) rfl
   ·rw[kF _ e] at hj;exact hg.djE j b hj (hmem b (by simp[hb]))
structure PV(base:Nat)(U:Nat->Prop)(w:World)(m:Mem)(G:GS)(m':Mem)(G':GS)(N:List Nat):Prop where
 ok:IJ base U w m' G'
 le:Yj m G m' G'
 E:G'.E=G.E++N
 out:G'.out=G.out
 μ:G'.μ=G.μ
def PV.same(hg:IJ base U w m G):PV base U w m G m G []:=⟨hg,Yj.refl _ _,by simp,rfl,rfl⟩
def PV.trans{m1 m2 m3:Mem}{G1 G2 G3:GS}{N N':List Nat}(a:PV base U w m1 G1 m2 G2 N)(b:PV base U w m2 G2 m3 G3 N'):PV base U w m1 G1 m3 G3 (N++N'):=
 ⟨b.ok,a.le.trans b.le,by rw[b.E,a.E,Nu],b.out.trans a.out,b.μ.trans a.μ⟩
def aah{H:Heap}{h h':View}(hl:h.le h'){x:D}{v:Value}{N:List Nat}(q:ow H h x v N):ow H h' x v N:=aly hl x v N (λ_ _=>rfl) q
def avb(hg:IJ base U w m G){v:V}{g:Value}(hv:bn G.μ m (Gh U w G) v g)(ho:G.out=[]){x:D}{m':Mem}{l l':Log}(h:(toD v).run m l=some (x,m',l')):
  ∃G' N,PV base U w m G m' G' N/\ow (dO w) (Gh U w G') x g N:=by
 cases v with
 |d y=>simp only[toD,run_pure,iF,jQ] at h;obtain⟨rfl,rfl,rfl⟩:=h;exact⟨G,[],PV.same hg,ava (by simpa[bn] using hv)⟩
 |nil s=>simp only[toD,run_pure,iF,jQ] at h;obtain⟨rfl,rfl,rfl⟩:=h;refine⟨G,[],PV.same hg, ?_⟩;simp only[bn] at hv;simp[ow,hv]
 |own r ver=>
  simp only[toD] at h;replace h:=aA h;obtain⟨c,m1,l1,h1,h⟩:=h;rw[zl] at h1;cases h1;cases hc:get r m with
  |none=>rw[hc] at h;exact(aC h).elim
  |some c=>
   rw[hc] at h;cases c with
   |box _ _=>exact(aC h).elim
   |dead=>exact(aC h).elim
   |JX _ _ _=>exact(aC h).elim
   |rF _ _=>exact(aC h).elim
   |arr fz fl jl s rows=>
    simp only at h;replace h:=aA h;obtain⟨_,m2,l2,h1,h⟩:=h;obtain⟨hb,rfl,rfl⟩:=eF h1;have hb:=Dl hb;subst hb;simp only[bn,hc] at hv;have hv:=hv.2.2 trivial;subst hv;have hro:r ∉ G.out:=by simp[ho]
    cases fz with
    |true=>simp only[run_pure,iF,jQ] at h;obtain⟨rfl,rfl,rfl⟩:=h;refine⟨G,[],PV.same hg, ?_⟩;have hq:=(hg.cell r _ hc hro).1;simp only[ow,true_and];exact ahh hq
    |false=>simp only at h;replace h:=aA h;obtain⟨_,m2,l2,h1,h⟩:=h;obtain⟨hok,rfl,rfl⟩:=eF h1;replace h:=aA h;obtain⟨_,m3,l3,h1,h⟩:=h;rw[IG] at h1;cases h1;simp only[run_pure,iF,jQ] at h;obtain⟨rfl,rfl,rfl⟩:=h;obtain⟨k1,k2,k3⟩:=hg.kill hc hro;exact⟨_,G.F r,⟨k1,k2,rfl,rfl,rfl⟩,aah k2.view (alA hok k3)⟩
 |ptr _ _=>exact(aC h).elim
 |zF _ _ _ _=>exact(aC h).elim
 |wW _ _=>exact(aC h).elim
 |EW _=>exact(aC h).elim
 |clo _ _ _=>exact(aC h).elim
 |agg _=>exact(aC h).elim
 |SI _=>exact(aC h).elim
 |undef=>exact(aC h).elim
def oZ{μ:Nat->Value}{h:View}{v:V}{vs:List V}{gs:List Value}(q:dL μ m h (v::vs) gs):∃g gs',gs=g::gs'/\bn μ m h v g/\dL μ m h vs gs':=by simpa[dL] using q
def kZ{μ:Nat->Value}{h:View}:∀{vs:List V} {gs:List Value},dL μ m h vs gs->gs.length=vs.length
 |[],gs,q=>by simp[dL] at q;simp[q]
 |v::vs,gs,q=>by obtain⟨g,gs',rfl,_,h3⟩:=oZ q;simp[kZ h3]
def WT{H:Heap}{h h':View}(hl:h.le h'){x:Row}{v:List Value}{N:List Nat}(q:jq H h x v N):jq H h' x v N:=Nv hl x v N (λ_ _=>rfl) q
def amU{H:Heap}{h h':View}(hl:h.le h'){s:Nat}{x:List Row}{v:List Value}{N:List Nat}(q:ig H h s x v N):ig H h' s x v N:=Dz hl s x v N (λ_ _=>rfl) q
def VL:∀{vs:List V} {gs:List Value} {m:Mem} {G:GS} (_:IJ base U w m G) (_:dL G.μ m (Gh U w G) vs gs) (_:G.out=[]) {xs:Row} {m':Mem} {l l':Log} (_:(PY vs).run m l=some (xs,m',l')),
  ∃G' N,PV base U w m G m' G' N/\jq (dO w) (Gh U w G') xs gs N/\xs.length=vs.length
 |[],gs,m,G,hg,hv,ho,xs,m',l,l',h=>by simp only[PY,run_pure,iF,jQ] at h;obtain⟨rfl,rfl,rfl⟩:=h;exact⟨G,[],PV.same hg,by simp[jq],rfl⟩
 |v::vs,gs,m,G,hg,hv,ho,xs,m',l,l',h=>by obtain⟨g,gs',rfl,hv1,hv2⟩:=oZ hv;simp only[PY] at h;replace h:=aA h;obtain⟨x,m1,l1,h1,h⟩:=h;replace h:=aA h;obtain⟨ys,m2,l2,h2,h⟩:=h;simp only[run_pure,iF,jQ] at h;obtain⟨rfl,rfl,rfl⟩:=h;obtain⟨G1,N1,t1,q1⟩:=avb hg hv1 ho h1;obtain⟨G2,N2,t2,q2,hlen⟩:=VL t1.ok (t1.le.dL hv2) (t1.out.trans ho) h2;refine⟨G2,N1++N2,t1.trans t2, ?_,by simp[hlen]⟩;simp only[jq];exact⟨g,gs',N1,N2,rfl,rfl,aah t2.le.view q1,q2⟩
end
end Go.Vm
namespace Go.Vm
open Go
section
variable {base:Nat} {U:Nat->Prop} {w:World} {m:Mem} {G:GS}
def IJ.look(hg:IJ base U w m G){r:Nat}{fz fl:Bool}{ver s:Nat}{rows:List Row}(hc:get r m=some (.arr fz fl ver s rows))(hro:r ∉ G.out)(o:Bool):ro (full w) (.sl o s rows) (G.μ r):=by
 have hq:=hg.cell r _ hc hro;cases fz with
 |true=>exact Yl (J5 (xZ _ _ _) _ _ hq.1)
 |false=>exact alz (xZ _ _ _) ajW hq o
def ark(hg:IJ base U w m G){v:V}{g:Value}(hv:bn G.μ m (Gh U w G) v g)(ho:G.out=[]){s:Nat}{rows:List Row}{m':Mem}{l l':Log}(h:(seen v).run m l=some ((s,rows),m',l')):
  m'=m/\ro (full w) (.sl false s rows) g:=by
 cases v with
 |d y=>
  cases y with
  |sl own s' rows'=>simp only[seen,run_pure,iF,jQ] at h;obtain⟨⟨rfl,rfl⟩,rfl,rfl⟩:=h;simp only[bn] at hv;exact⟨rfl,Yl (J5 (xZ _ _ _) _ _ hv)⟩
  |int _ _=>exact(aC h).elim
  |bool _=>exact(aC h).elim
  |str _=>exact(aC h).elim
  |TF=>exact(aC h).elim
 |nil s'=>simp only[seen,run_pure,iF,jQ] at h;obtain⟨⟨rfl,rfl⟩,rfl,rfl⟩:=h;simp only[bn] at hv;exact⟨rfl,by simp[ro,hv]⟩
 |own r ver=>
  simp only[seen] at h;replace h:=aA h;obtain⟨c,m1,l1,h1,h⟩:=h;rw[zl] at h1;cases h1;cases hc:get r m with
  |none=>rw[hc] at h;exact(aC h).elim
  |some c=>
   rw[hc] at h;cases c with
   |box _ _=>exact(aC h).elim
   |dead=>exact(aC h).elim
   |JX _ _ _=>exact(aC h).elim
   |rF _ _=>exact(aC h).elim
   |arr fz fl jl s' rows'=>simp only at h;replace h:=aA h;obtain⟨_,m2,l2,h1,h⟩:=h;obtain⟨hb,rfl,rfl⟩:=eF h1;have hb:=Dl hb;subst hb;simp only[run_pure,iF,jQ] at h;obtain⟨⟨rfl,rfl⟩,rfl,rfl⟩:=h;simp only[bn,hc] at hv;have hv:=hv.2.2 trivial;subst hv;exact⟨rfl,ahh (hg.look hc (by simp[ho]) true)⟩
 |ptr _ _=>exact(aC h).elim
 |zF _ _ _ _=>exact(aC h).elim
 |wW _ _=>exact(aC h).elim
 |EW _=>exact(aC h).elim
 |clo _ _ _=>exact(aC h).elim
 |agg _=>exact(aC h).elim
 |SI _=>exact(aC h).elim
 |undef=>exact(aC h).elim
def DC(k:Nat):∀l:List Nat,mem? k l=true↔k∈l
 |[]=>by simp[mem?]
 |j::l=>by
  simp only[mem?,List.mem_cons]
  by_cases e:k=j
  ·subst e;simp
  ·rw[zk e];simp[e,DC k l]
def TI{k:Nat}{l:List Nat}(h:(!(mem? k l))=true):k ∉ l:=by intro hk;rw[(DC k l).2 hk] at h;cases h
def azb(hg:IJ base U w m G){v:V}{g:Value}(hv:bn G.μ m (Gh U w G) v g){imp:List Nat}(ho:∀r,r∈G.out->r∈imp){own:Bool}{v':V}{m':Mem}{l l':Log}(h:(au1 imp own v).run m l=some (v',m',l')):
  ∃G' N x,v'=.d x/\PV base U w m G m' G' N/\ow (dO w) (Gh U w G') x g N/\∀k,k∈imp->get k m'=get k m:=by
 cases v with
 |d y=>simp only[au1,run_pure,iF,jQ] at h;obtain⟨rfl,rfl,rfl⟩:=h;exact⟨G,[],_,rfl,PV.same hg,ava (by simpa[bn] using hv),λ_ _=>rfl⟩
 |nil s=>simp only[au1,run_pure,iF,jQ] at h;obtain⟨rfl,rfl,rfl⟩:=h;refine⟨G,[],_,rfl,PV.same hg, ?_,λ_ _=>rfl⟩;simp only[bn] at hv;cases own<;>simp[ow,ro,hv]
 |own r ver=>
  simp only[au1] at h;replace h:=aA h;obtain⟨c,m1,l1,h1,h⟩:=h;rw[zl] at h1;cases h1;cases hc:get r m with
  |none=>rw[hc] at h;exact(aC h).elim
  |some c=>
   rw[hc] at h;cases c with
   |box _ _=>exact(aC h).elim
   |dead=>exact(aC h).elim
   |JX _ _ _=>exact(aC h).elim
   |rF _ _=>exact(aC h).elim
   |arr fz fl jl s rows=>
    simp only at h;replace h:=aA h;obtain⟨_,m2,l2,h1,h⟩:=h;obtain⟨hb,rfl,rfl⟩:=eF h1;have hb:=Dl hb;subst hb;replace h:=aA h;obtain⟨_,m2,l2,h1,h⟩:=h;obtain⟨hi,rfl,rfl⟩:=eF h1;simp only[bn,hc] at hv;have hv:=hv.2.2 trivial;subst hv;have hro:r ∉ G.out:=λhr=>TI hi (ho r hr)
    have hni:∀k,k∈imp->k≠r:=λk hk e=>TI hi (e ▸ hk)
    cases own with
    |false=>simp only at h;replace h:=aA h;obtain⟨_,m3,l3,h1,h⟩:=h;rw[IG] at h1;cases h1;simp only[run_pure,iF,jQ] at h;obtain⟨rfl,rfl,rfl⟩:=h;obtain⟨k1,k2,k3⟩:=hg.freeze hc hro;refine⟨_,[],_,rfl,⟨k1,k2,by simp,rfl,rfl⟩, ?_,λk hk=>mQ (hni k hk) _ _⟩;simp only[ow,true_and];exact ahh k3
    |true=>
     simp only at h;replace h:=aA h;obtain⟨_,m2,l2,h1,h⟩:=h;obtain⟨hfz,rfl,rfl⟩:=eF h1;replace h:=aA h;obtain⟨_,m2,l2,h1,h⟩:=h;obtain⟨hok,rfl,rfl⟩:=eF h1;have hfz:fz=false:=by simpa using hfz
     subst hfz;replace h:=aA h;obtain⟨_,m3,l3,h1,h⟩:=h;rw[IG] at h1;cases h1;simp only[run_pure,iF,jQ] at h;obtain⟨rfl,rfl,rfl⟩:=h;obtain⟨k1,k2,k3⟩:=hg.kill hc hro;exact⟨_,G.F r,_,rfl,⟨k1,k2,rfl,rfl,rfl⟩,aah k2.view (alA hok k3),λk hk=>mQ (hni k hk) _ _⟩
 |ptr _ _=>exact(aC h).elim
 |zF _ _ _ _=>exact(aC h).elim
 |wW _ _=>exact(aC h).elim
 |EW _=>exact(aC h).elim
 |clo _ _ _=>exact(aC h).elim
 |agg _=>exact(aC h).elim
 |SI _=>exact(aC h).elim
 |undef=>exact(aC h).elim
def afw{imp own:List Nat}:∀{vs:List V} {gs:List Value} {m:Mem} {G:GS} {j:Nat} (_:IJ base U w m G) (_:dL G.μ m (Gh U w G) vs gs) (_:∀r,r∈G.out->r∈imp) {vs':List V} {m':Mem} {l l':Log}
  (_:(Yc imp own j vs).run m l=some (vs',m',l')),∃G' N xs,vs'=xs.map V.d/\xs.length=gs.length/\PV base U w m G m' G' N/\jq (dO w) (Gh U w G') xs gs N/\∀k,k∈imp->get k m'=get k m
 |[],gs,m,G,j,hg,hv,ho,vs',m',l,l',h=>by simp only[Yc,run_pure,iF,jQ] at h;obtain⟨rfl,rfl,rfl⟩:=h;simp only[dL] at hv;subst hv;exact⟨G,[],[],rfl,rfl,PV.same hg,by simp[jq],λ_ _=>rfl⟩
 |v::vs,gs,m,G,j,hg,hv,ho,vs',m',l,l',h=>by obtain⟨g,gs',rfl,hv1,hv2⟩:=oZ hv;simp only[Yc] at h;replace h:=aA h;obtain⟨x,m1,l1,h1,h⟩:=h;replace h:=aA h;obtain⟨ys,m2,l2,h2,h⟩:=h;simp only[run_pure,iF,jQ] at h;obtain⟨rfl,rfl,rfl⟩:=h;obtain⟨G1,N1,x1,rfl,t1,q1,i1⟩:=azb hg hv1 ho h1;obtain⟨G2,N2,xs,rfl,hlen,t2,q2,i2⟩:=afw t1.ok (t1.le.dL hv2) (λr hr=>ho r (t1.out ▸ hr)) h2;refine⟨G2,N1++N2,x1::xs,rfl,by simp[hlen],t1.trans t2, ?_,λk hk=>(i2 k hk).trans (i1 k hk)⟩;simp only[jq];exact⟨g,gs',N1,N2,rfl,rfl,aah t2.le.view q1,q2⟩
def amV(H:Heap)(h:View):Cell->Value->List Nat->Prop
 | .box t vs,g,N=>∃b a xs N',g=.pointer (some ⟨b,0,none⟩)/\H b=some (.cells a t (0,0))/\vs=xs.map V.d/\xs.length=a.toList.length/\jq H h xs a.toList N'/\N=b::N'
 | .arr fz fl ver s rows,g,N=>fz=false/\ver=0/\XR H h fl s rows g N
 | .dead,_,_=>False
 | .JX ..,_,_=>False
 | .rF ..,_,_=>False
def cellsB(H:Heap)(h:View):List Cell->List Value->List Nat->Prop
 |[],gs,N=>gs=[]/\N=[]
 |c::cs,gs,N=>∃g gs' N1 N2,gs=g::gs'/\N=N1++N2/\amV H h c g N1/\cellsB H h cs gs' N2
def ahj{H H':Heap}{h h':View}(hl:h.le h'){c:Cell}{g:Value}{N:List Nat}(hb:∀b,b∈N->H' b=H b)(q:amV H h c g N):amV H' h' c g N:=by
 cases c with
 |box t vs=>obtain⟨b,a,xs,N',h1,h2,h3,h4,h5,rfl⟩:=q;exact⟨b,a,xs,N',h1,by rw[hb b (by simp)];exact h2,h3,h4,Nv hl _ _ _ (λb' hb'=>hb b' (by simp[hb'])) h5,rfl⟩
 |arr fz fl ver s rows=>exact⟨q.1,q.2.1,NR hl hb q.2.2⟩
 |dead=>exact q
 |JX _ _ _=>exact q
 |rF _ _=>exact q
def afx{H H':Heap}{h h':View}(hl:h.le h'):∀{cs:List Cell} {gs:List Value} {N:List Nat},(∀b,b∈N->H' b=H b)->cellsB H h cs gs N->cellsB H' h' cs gs N
 |[],_,_,_,q=>q
 |c::cs,_,_,hb,⟨g,gs',N1,N2,h1,h2,h3,h4⟩=>by subst h2;exact⟨g,gs',N1,N2,h1,rfl,ahj hl (λb hx=>hb b (by simp[hx])) h3,afx hl (λb hx=>hb b (by simp[hx])) h4⟩
def IJ.aBb(hg:IJ base U w m G){r:Nat}{c:Cell}(hc:get r m=some c)(hro:r ∉ G.out):
  IJ base U w m ⟨G.μ,upF G.F r [],G.E++G.F r,r::G.out⟩/\Yj m G m ⟨G.μ,upF G.F r [],G.E++G.F r,r::G.out⟩:=by
 have hex:∀b,excl (upF G.F r []) (G.E++G.F r) b->excl G.F G.E b:=by
  rintro b (hb|⟨k,hb⟩)
  ·simp only[List.mem_append] at hb;rcases hb with h|h
   ·exact .inl h
   ·exact .inr ⟨r,h⟩
  ·by_cases e:k=r
   ·subst e;simp at hb
   ·rw[kF _ e] at hb;exact .inr ⟨k,hb⟩
 have hv:(view w U (excl G.F G.E)).le (view w U (excl (upF G.F r []) (G.E++G.F r))):=SL (λ_ x=>x) hex;refine⟨show MInv base U m w G.μ (upF G.F r []) (G.E++G.F r) (r::G.out) from ?_,⟨uK _ _,hex⟩⟩;refine⟨?_, ?_, ?_, ?_,List.nodup_append.2 ⟨hg.ndE,hg.nd r,λa ha b hb e=>hg.djE r b hb (e ▸ ha)⟩,λb hb=>hg.lt b (hex b hb),hg.up,hg.bs, ?_, ?_⟩
 ·intro k c hk hko;simp only[List.mem_cons,not_or] at hko;rw[kF _ hko.1];exact Oe (uK _ _) hv rfl (λ_ _=>rfl) (hg.cell k c hk hko.2)
 ·intro k k' hne b hb hb'
  by_cases e:k=r
  ·subst e;simp at hb
  ·rw[kF _ e] at hb
   by_cases e':k'=r
   ·subst e';simp at hb'
   ·rw[kF _ e'] at hb';exact hg.dj _ _ hne b hb hb'
 ·intro k b hb hE
  by_cases e:k=r
  ·subst e;simp at hb
  ·rw[kF _ e] at hb;simp only[List.mem_append] at hE;rcases hE with h|h
   ·exact hg.djE _ b hb h
   ·exact hg.dj _ _ e b hb h
 ·intro k
  by_cases e:k=r
  ·subst e;simp
  ·rw[kF _ e];exact hg.nd k
 ·intro k hk
  by_cases e:k=r
  ·subst e;simp
  ·rw[kF _ e];exact hg.none_ k hk
 ·intro k hk
  by_cases e:k=r
  ·subst e;simp
  ·rw[kF _ e];exact hg.out_ k (by simpa[e] using hk)
structure Out(base:Nat)(U:Nat->Prop)(w:World)(m:Mem)(G:GS)(m':Mem)(G':GS)(imp rs:List Nat)(N:List Nat):Prop where
 ok:IJ base U w m' G'
 le:Yj m G m' G'
 E:G'.E=G.E++N
 out:∀r,r∈G'.out↔r∈G.out\/r∈rs
 μ:G'.μ=G.μ
 here:∀k,k∈imp->get k m'=get k m
def sameKind:Cell->Cell->Prop
 | .box t _,.box t' _=>t=t'
 | .arr _ fl ver s _,.arr _ fl' jl s' _=>ver=0/\jl=0/\fl=fl'/\s=s'
 |_,_=>False
def kinds(m:Mem):List Nat->List Cell->Prop
 |[],cs=>cs=[]
 |r::rs,cs=>∃c c' cs',cs=c'::cs'/\get r m=some c/\sameKind c c'/\kinds m rs cs'
def adC{m m':Mem}:∀{rs:List Nat} {cs:List Cell},(∀r,r∈rs->get r m'=get r m)->kinds m rs cs->kinds m' rs cs
 |[],_,_,q=>q
 |r::rs,_,h,⟨c,c',cs',h1,h2,h3,h4⟩=>⟨c,c',cs',h1,(h r (by simp)).trans h2,h3,adC (λk hk=>h k (by simp[hk])) h4⟩
def aeE{A:Adv}{imp:List Nat}:∀{rs:List Nat} {m:Mem} {G:GS} (_:IJ base U w m G) (_:rs.Nodup) (_:∀r,r∈rs->r∈imp/\r ∉ G.out) (_:∀r,r∈G.out->r∈imp) {cs:List Cell} {m':Mem} {l l':Log}
  (_:(Yd A imp rs).run m l=some (cs,m',l')),∃G' N,Out base U w m G m' G' imp rs N/\cellsB (dO w) (Gh U w G') cs (rs.map G.μ) N/\kinds m rs cs
 |[],m,G,hg,hn,hr,ho,cs,m',l,l',h=>by simp only[Yd,run_pure,iF,jQ] at h;obtain⟨rfl,rfl,rfl⟩:=h;exact⟨G,[],⟨hg,Yj.refl _ _,by simp,λr=>by simp,rfl,λ_ _=>rfl⟩,⟨rfl,rfl⟩,rfl⟩
 |r::rs,m,G,hg,hn,hr,ho,cs,m',l,l',h=>by
  simp only[Yd] at h;replace h:=aA h;obtain⟨c,m1,l1,h1,h⟩:=h;rw[zl] at h1;cases h1;replace h:=aA h;obtain⟨c1,m1,l1,h1,h⟩:=h;replace h:=aA h;obtain⟨cs1,m2,l2,h2,h⟩:=h;simp only[run_pure,iF,jQ] at h;obtain⟨rfl,rfl,rfl⟩:=h;have hri:=hr r (by simp);have hnr:=List.nodup_cons.1 hn;have step:∃G' N,Out base U w m G m1 G' imp [r] N/\amV (dO w) (Gh U w G') c1 (G.μ r) N/\∃c,get r m=some c/\sameKind c c1:=by
   cases hc:get r m with
   |none=>rw[hc] at h1;exact(aC h1).elim
   |some c=>
    rw[hc] at h1;have hq:=hg.cell r c hc hri.2;obtain⟨k1,k2⟩:=hg.aBb hc hri.2;cases c with
    |dead=>exact(aC h1).elim
    |JX _ _ _=>exact(aC h1).elim
    |rF _ _=>exact(aC h1).elim
    |box t vs=>
     simp only[alu] at h1;replace h1:=aA h1;obtain⟨vs',m3,l3,h3,h1⟩:=h1;simp only[run_pure,iF,jQ] at h1;obtain⟨rfl,rfl,rfl⟩:=h1;obtain⟨b,a,e1,e2,e3,e4⟩:=hq;obtain⟨G2,N2,xs,rfl,hlen,t2,q2,i2⟩:=afw k1 (k2.dL e3) (λk hk=>by
      simp only[List.mem_cons] at hk;rcases hk with rfl|hk
      ·exact hri.1
      ·exact ho k hk) h3
     refine⟨G2,b::N2,⟨t2.ok,k2.trans t2.le,by rw[t2.E,e4];simp,λk=>by rw[t2.out];simp[or_comm],t2.μ,i2⟩,⟨b,a,xs,N2,e1,e2,rfl,hlen,q2,rfl⟩,_,rfl,rfl⟩
    |arr fz fl ver s rows=>
     simp only[alu] at h1;replace h1:=aA h1;obtain⟨_,m3,l3,h3,h1⟩:=h1;obtain⟨hfz,rfl,rfl⟩:=eF h3;replace h1:=aA h1;obtain⟨_,m3,l3,h3,h1⟩:=h1;obtain⟨hv0,rfl,rfl⟩:=eF h3;simp only[run_pure,iF,jQ] at h1;obtain⟨rfl,rfl,rfl⟩:=h1;have hfz:fz=false:=by simpa using hfz
     subst hfz;have hv0:=Dl hv0;subst hv0;refine⟨_,G.F r,⟨k1,k2,rfl,λk=>by simp[or_comm],rfl,λ_ _=>rfl⟩,⟨rfl,rfl,NR k2.view (λ_ _=>rfl) hq⟩,_,rfl,rfl,rfl,rfl,rfl⟩
  obtain⟨G1,N1,o1,q1,c0,hc0,hk0⟩:=step;obtain⟨G2,N2,o2,q2,kd2⟩:=aeE o1.ok hnr.2 (λk hk=>⟨(hr k (by simp[hk])).1,λhko=>by
   rcases(o1.out k).1 hko with h|h
   ·exact(hr k (by simp[hk])).2 h
   ·simp at h;subst h;exact hnr.1 hk⟩) (λk hk=>by
   rcases(o1.out k).1 hk with h|h
   ·exact ho k h
   ·simp at h;subst h;exact hri.1) h2
  refine⟨G2,N1++N2,⟨o2.ok,o1.le.trans o2.le,by rw[o2.E,o1.E,Nu],λk=> ?_,o2.μ.trans o1.μ,λk hk=>(o2.here k hk).trans (o1.here k hk)⟩,⟨G.μ r,rs.map G.μ,N1,N2,rfl,rfl,ahj o2.le.view (λ_ _=>rfl) q1,by rw[<-o1.μ];exact q2⟩,c0,c1,cs1,rfl,hc0,hk0,adC (λk hk=>(o1.here k (hr k (by simp[hk])).1).symm) kd2⟩;rw[o2.out,o1.out];simp[or_assoc]
end
end Go.Vm
namespace Go.Vm
open Go
section
variable {base:Nat} {U:Nat->Prop} {w:World} {m:Mem} {G:GS}
def adD{r:Nat}{l:List Nat}(h:l.Nodup):(als r l).Nodup:=by
 unfold als;cases hm:mem? r l with
 |true=>exact h
 |false=>
  have:r ∉ l:=λhr=>by rw[(DC r l).2 hr] at hm;cases hm
  exact List.nodup_append.2 ⟨h,by simp,λa ha b hb e=>by simp at hb;subst hb;subst e;exact this ha⟩
mutual
def acG:∀(v:V) (I:List Nat),I.Nodup->(amR I v).Nodup
 | .ptr r _,I,h=>by simp only[amR];exact adD h
 | .clo _ a b,I,h=>by simp only[amR];exact UJ b _ (UJ a _ h)
 | .agg cs,I,h=>by simp only[amR];exact UJ cs _ h
 | .d _,I,h=>h
 | .nil _,I,h=>h
 | .own _ _,I,h=>h
 | .zF _ _ _ _,I,h=>h
 | .wW _ _,I,h=>h
 | .EW v,I,h=>by simp only[amR];exact acG v I h
 | .SI _,I,h=>h
 | .undef,I,h=>h
def UJ:∀(vs:List V) (I:List Nat),I.Nodup->(ajV I vs).Nodup
 |[],I,h=>h
 |v::vs,I,h=>by simp only[ajV];exact UJ vs _ (acG v I h)
end
def aaS(A:Adv)(f:Nat):∀(vs:List V) (i:Nat) (I:List Nat),I.Nodup->(SK A f i I vs).Nodup
 |[],_,I,h=>h
 |v::vs,i,I,h=>by
  simp only[SK];refine aaS A f vs _ _ ?_;split
  ·exact adD h
  ·exact h
  ·exact acG _ _ h
def TJ(A:Adv)(f:Nat)(μ:Nat->Value)(m:Mem)(H:Heap)(h:View):Nat->List V->List Value->List Nat->Prop
 |_,[],gs,N=>gs=[]/\N=[]
 |i,v::vs,gs,N=>∃g gs' N1 N2,gs=g::gs'/\N=N1++N2/\(match Lc A f i with
   |1=>∃x,v=.d x/\ow H h x g N1
   |_=>N1=[]/\bn μ m h v g)/\TJ A f μ m H h (i+1) vs gs' N2
def VN{A:Adv}{f:Nat}{μ μ':Nat->Value}{m m':Mem}{H H':Heap}{h h':View}(hm:Jl μ m μ' m')(hl:h.le h'):∀{vs:List V} {i:Nat} {gs:List Value} {N:List Nat},(∀b,b∈N->H' b=H b)->
  TJ A f μ m H h i vs gs N->TJ A f μ' m' H' h' i vs gs N
 |[],_,_,_,_,q=>q
 |v::vs,i,gs,N,hb,q=>by
  simp only[TJ] at q|-;obtain⟨g,gs',N1,N2,rfl,rfl,h3,h4⟩:=q;refine⟨g,gs',N1,N2,rfl,rfl, ?_,VN hm hl (λb hx=>hb b (by simp[hx])) h4⟩;split at h3
  ·rename_i hmo;obtain⟨x,hx,hq⟩:=h3;exact⟨x,hx,aly hl x g N1 (λb hx=>hb b (by simp[hx])) hq⟩
  ·exact⟨h3.1,Dt hm hl v g h3.2⟩
def afy{A:Adv}{f:Nat}:∀{vs:List V} {gs:List Value} {m:Mem} {G:GS} {i:Nat} (_:IJ base U w m G) (_:dL G.μ m (Gh U w G) vs gs) (_:G.out=[]) {vs':List V} {m':Mem} {l l':Log}
  (_:(VH A f i vs).run m l=some (vs',m',l')),∃G' N,PV base U w m G m' G' N/\TJ A f G'.μ m' (dO w) (Gh U w G') i vs' gs N
 |[],gs,m,G,i,hg,hv,ho,vs',m',l,l',h=>by simp only[VH,run_pure,iF,jQ] at h;obtain⟨rfl,rfl,rfl⟩:=h;simp only[dL] at hv;exact⟨G,[],PV.same hg,hv,rfl⟩
 |v::vs,gs,m,G,i,hg,hv,ho,vs',m',l,l',h=>by
  obtain⟨g,gs',rfl,hv1,hv2⟩:=oZ hv;simp only[VH] at h;replace h:=aA h;obtain⟨x,m1,l1,h1,h⟩:=h;replace h:=aA h;obtain⟨ys,m2,l2,h2,h⟩:=h;simp only[run_pure,iF,jQ] at h;obtain⟨rfl,rfl,rfl⟩:=h;have step:∃G1 N1,PV base U w m G m1 G1 N1/\(match Lc A f i with
   |1=>∃y,x=.d y/\ow (dO w) (Gh U w G1) y g N1
   |_=>N1=[]/\bn G1.μ m1 (Gh U w G1) x g):=by
   split at h1
   ·rename_i hmo;replace h1:=aA h1;obtain⟨y,m3,l3,h3,h1⟩:=h1;simp only[run_pure,iF,jQ] at h1;obtain⟨rfl,rfl,rfl⟩:=h1;obtain⟨G1,N1,t1,q1⟩:=avb hg hv1 ho h3;refine⟨G1,N1,t1, ?_⟩
    try rw[hmo]
    exact⟨y,rfl,q1⟩
   ·rename_i hmo;simp only[run_pure,iF,jQ] at h1;obtain⟨rfl,rfl,rfl⟩:=h1;refine⟨G,[],PV.same hg, ?_⟩
    first
     |exact⟨rfl,hv1⟩
     |split
      ·rename_i e;exact absurd e hmo
      ·exact⟨rfl,hv1⟩
  obtain⟨G1,N1,t1,q1⟩:=step;obtain⟨G2,N2,t2,q2⟩:=afy t1.ok (t1.le.dL hv2) (t1.out.trans ho) h2;refine⟨G2,N1++N2,t1.trans t2, ?_⟩;simp only[TJ];refine⟨g,gs',N1,N2,rfl,rfl, ?_,q2⟩;split at q1
  ·obtain⟨y,hy,hq⟩:=q1;exact⟨y,hy,aah t2.le.view hq⟩
  ·exact⟨q1.1,t2.le.bn q1.2⟩
def ahk:∀(cs:List Cell) (k i:Nat),get (oq+(k+i)) (uJ k cs)=cs[i]?
 |[],_,_=>by simp[uJ,get]
 |c::cs,k,0=>by simp[uJ,get]
 |c::cs,k,i+1=>by simp only[uJ,get];rw[zk aB];simp only[aX,List.getElem?_cons_succ];rw[<-ahk cs (k+1) i,show k+1+i=k+(i+1) from by omega]
def Q9(cs:List Cell)(i:Nat):get (oq+i) (uJ 0 cs)=cs[i]? :=by
 have:=ahk cs 0 i
 rwa [Nat.zero_add] at this
def impμ(hs:List Value):Nat->Value:=λk=>hs.getD (k - oq) undef
def acH{r:Nat}:∀{l:List Nat} {k i:Nat},idxOf r k l=some i->k<=i/\l[i - k]? =some r
 |[],_,_,h=>by simp[idxOf] at h
 |j::l,k,i,h=>by
  simp only[idxOf] at h
  by_cases e:r=j
  ·subst e;simp at h;subst h;simp
  ·rw[zk e] at h;simp only[aX] at h;obtain⟨h1,h2⟩:=acH h;refine⟨aB, ?_⟩;rw[show i - k=(i - (k+1))+1 from by omega,List.getElem?_cons_succ];exact h2
def adE{m:Mem}:∀{rs:List Nat} {cs:List Cell} {i r:Nat},kinds m rs cs->rs[i]? =some r->∃c c',get r m=some c/\cs[i]? =some c'/\sameKind c c'
 |[],_,_,_,_,h=>by simp at h
 |r::rs,_,0,r',⟨c,c',cs',h1,h2,h3,_⟩,h=>by simp at h;subst h;subst h1;exact⟨c,c',h2,rfl,h3⟩
 |r::rs,_,i+1,r',⟨c,c',cs',h1,h2,h3,h4⟩,h=>by subst h1;simp only[List.getElem?_cons_succ] at h|-;exact adE h4 h
def Yn(U:Nat->Prop)(G:GS)(L:List Nat):Nat->Prop:=λb=>U b/\∀r,b∈G.F r->r∈L
def SN{L:List Nat}:(Gh U w G).le (view w (Yn U G L) (· ∈G.E)):=by
 intro b o v hv;unfold Gh view at hv;split at hv
 ·rename_i hc;unfold view;rw[if_pos ⟨⟨hc.1,λr hr=>absurd (.inr ⟨r,hr⟩) hc.2⟩,λhE=>hc.2 (.inl hE)⟩];exact hv
 ·cases hv
structure ajY(base:Nat)(U:Nat->Prop)(w:World)(m:Mem)(G:GS)(imp:List Nat)(cells:List Cell):Prop where
 ok:IJ base U w m G
 out:∀r,r∈G.out↔r∈imp
 kd:kinds m imp cells
def azc(hg:IJ base U w m G){r:Nat}{fz fl:Bool}{ver s:Nat}{rows:List Row}(hc:get r m=some (.arr fz fl ver s rows))(hro:r ∉ G.out){L:List Nat}(hL:fz=false->r∈L)(o:Bool):
  ro (view w (Yn U G L) (· ∈G.E)) (.sl o s rows) (G.μ r):=by
 have hq:=hg.cell r _ hc hro;cases fz with
 |true=>exact Yl (J5 SN _ _ hq.1)
 |false=>
  refine alz SN (NT λb hb=>⟨⟨(hg.lt b (.inr ⟨r,hb⟩)).2.2,λk hk=> ?_⟩,hg.djE r b hb⟩) hq o
  by_cases e:k=r
  ·rw[e];exact hL rfl
  ·exact absurd hk (hg.dj r k (Ne.symm e) b hb)
mutual
def agS{imp:List Nat}{cells:List Cell}(C:ajY base U w m G imp cells):∀{v:V} {g:Value} (_:bn G.μ m (Gh U w G) v g) {v':V} {lt:List Nat} {m':Mem} {l l':Log}
  (_:(lend imp v).run m l=some ((v',lt),m',l')),m'=m/\∀L:List Nat,(∀r,r∈lt->r∈L)->bn (impμ (imp.map G.μ)) (uJ 0 cells) (view w (Yn U G L) (· ∈G.E)) v' g
 | .d x,g,hv,v',lt,m',l,l',h=>by simp only[lend,run_pure,iF,jQ] at h;obtain⟨⟨rfl,rfl⟩,rfl,rfl⟩:=h;refine⟨rfl,λL hL=> ?_⟩;simp only[bn] at hv|-;exact J5 SN _ _ (au9 hv)
 | .nil s,g,hv,v',lt,m',l,l',h=>by simp only[lend,run_pure,iF,jQ] at h;obtain⟨⟨rfl,rfl⟩,rfl,rfl⟩:=h;refine⟨rfl,λL hL=> ?_⟩;simp only[bn] at hv|-;simp[ro,hv]
 | .own r ver,g,hv,v',lt,m',l,l',h=>by
  simp only[lend] at h;replace h:=aA h;obtain⟨c,m1,l1,h1,h⟩:=h;rw[zl] at h1;cases h1;cases hc:get r m with
  |none=>rw[hc] at h;exact(aC h).elim
  |some c=>
   rw[hc] at h;cases c with
   |box _ _=>exact(aC h).elim
   |dead=>exact(aC h).elim
   |JX _ _ _=>exact(aC h).elim
   |rF _ _=>exact(aC h).elim
   |arr fz fl jl s rows=>
    simp only at h;replace h:=aA h;obtain⟨_,m2,l2,h1,h⟩:=h;obtain⟨hb,rfl,rfl⟩:=eF h1;have hb:=Dl hb;subst hb;replace h:=aA h;obtain⟨_,m2,l2,h1,h⟩:=h;obtain⟨hi,rfl,rfl⟩:=eF h1;simp only[run_pure,iF,jQ] at h;obtain⟨⟨rfl,rfl⟩,rfl,rfl⟩:=h;simp only[bn,hc] at hv;have hv:=hv.2.2 trivial;subst hv;refine⟨rfl,λL hL=> ?_⟩;have hro:r ∉ G.out:=λhr=>TI hi ((C.out r).1 hr)
    simp only[bn];exact ahh (azc C.ok hc hro (λhf=>hL r (by subst hf;simp)) true)
 | .ptr r off,g,hv,v',lt,m',l,l',h=>by simp only[lend] at h;replace h:=aA h;obtain⟨i,m1,l1,h1,h⟩:=h;obtain⟨hi,rfl,rfl⟩:=iE h1;simp only[run_pure,iF,jQ] at h;obtain⟨⟨rfl,rfl⟩,rfl,rfl⟩:=h;refine⟨rfl,λL hL=> ?_⟩;obtain⟨_,h2⟩:=acH hi;rw[Nat.sub_zero] at h2;obtain⟨c,c',k1,k2,k3⟩:=adE C.kd h2;simp only[bn,k1] at hv;simp only[bn,Q9,k2];refine⟨hv.1, ?_⟩;replace hv:=hv.2;cases c<;>cases c'<;>simp only[sameKind] at k3 hv|-;obtain⟨b,e1,e2⟩:=hv;refine⟨b, ?_,e2⟩;simp only[impμ,Nat.add_sub_cancel_left,List.getD_eq_getElem?_getD,List.getElem?_map,h2,KZ,Option.getD_some,e1]
 | .wW row off,g,hv,v',lt,m',l,l',h=>by simp only[lend,run_pure,iF,jQ] at h;obtain⟨⟨rfl,rfl⟩,rfl,rfl⟩:=h;refine⟨rfl,λL hL=> ?_⟩;simp only[bn] at hv|-;obtain⟨b,o,e1,e2⟩:=hv;exact⟨b,o,e1,Qd SN row b o e2⟩
 | .EW v,g,hv,v',lt,m',l,l',h=>by simp only[lend] at h;replace h:=aA h;obtain⟨⟨a',la⟩,m1,l1,h1,h⟩:=h;simp only[run_pure,iF,jQ] at h;obtain⟨⟨rfl,rfl⟩,rfl,rfl⟩:=h;simp only[bn] at hv;obtain⟨b,x,rfl,e2,e3⟩:=hv;obtain⟨hm1,q1⟩:=agS C e3 h1;refine⟨hm1,λL hL=> ?_⟩;simp only[bn];exact⟨b,x,rfl,SN _ _ _ e2,q1 L hL⟩
 | .clo f a b,g,hv,v',lt,m',l,l',h=>by simp only[lend] at h;replace h:=aA h;obtain⟨⟨a',la⟩,m1,l1,h1,h⟩:=h;simp only at h;replace h:=aA h;obtain⟨⟨b',lb⟩,m2,l2,h2,h⟩:=h;simp only[run_pure,iF,jQ] at h;obtain⟨⟨rfl,rfl⟩,rfl,rfl⟩:=h;simp only[bn] at hv;obtain⟨x,y,rfl,e2,e3⟩:=hv;obtain⟨hm1,q1⟩:=adF C e2 h1;rw[hm1] at h2;obtain⟨hm2,q2⟩:=adF C e3 h2;refine⟨hm2,λL hL=> ?_⟩;simp only[bn];exact⟨x,y,rfl,q1 L (λr hr=>hL r (by simp[hr])),q2 L (λr hr=>hL r (by simp[hr]))⟩
 | .agg cs,g,hv,v',lt,m',l,l',h=>by simp only[lend] at h;replace h:=aA h;obtain⟨⟨a',la⟩,m1,l1,h1,h⟩:=h;simp only[run_pure,iF,jQ] at h;obtain⟨⟨rfl,rfl⟩,rfl,rfl⟩:=h;simp only[bn] at hv;obtain⟨x,rfl,e2⟩:=hv;obtain⟨hm1,q1⟩:=adF C e2 h1;refine⟨hm1,λL hL=> ?_⟩;simp only[bn];exact⟨x,rfl,q1 L hL⟩
 | .zF _ _ _ _,g,hv,v',lt,m',l,l',h=>(aC h).elim
 | .SI _,g,hv,v',lt,m',l,l',h=>(aC h).elim
 | .undef,g,hv,v',lt,m',l,l',h=>(aC h).elim
def adF{imp:List Nat}{cells:List Cell}(C:ajY base U w m G imp cells):∀{vs:List V} {gs:List Value} (_:dL G.μ m (Gh U w G) vs gs) {vs':List V} {lt:List Nat} {m':Mem} {l l':Log}
  (_:(ahb imp vs).run m l=some ((vs',lt),m',l')),m'=m/\∀L:List Nat,(∀r,r∈lt->r∈L)->dL (impμ (imp.map G.μ)) (uJ 0 cells) (view w (Yn U G L) (· ∈G.E)) vs' gs
 |[],gs,hv,v',lt,m',l,l',h=>by simp only[ahb,run_pure,iF,jQ] at h;obtain⟨⟨rfl,rfl⟩,rfl,rfl⟩:=h;simp only[dL] at hv;subst hv;exact⟨rfl,λ_ _=>by simp[dL]⟩
 |v::vs,gs,hv,v',lt,m',l,l',h=>by obtain⟨g,gs',rfl,hv1,hv2⟩:=oZ hv;simp only[ahb] at h;replace h:=aA h;obtain⟨⟨a',la⟩,m1,l1,h1,h⟩:=h;simp only at h;replace h:=aA h;obtain⟨⟨b',lb⟩,m2,l2,h2,h⟩:=h;simp only[run_pure,iF,jQ] at h;obtain⟨⟨rfl,rfl⟩,rfl,rfl⟩:=h;obtain⟨hm1,q1⟩:=agS C hv1 h1;rw[hm1] at h2;obtain⟨hm2,q2⟩:=adF C hv2 h2;refine⟨hm2,λL hL=> ?_⟩;simp only[dL];exact⟨g,gs',rfl,q1 L (λr hr=>hL r (by simp[hr])),q2 L (λr hr=>hL r (by simp[hr]))⟩
end
def adG{imp:List Nat}{cells:List Cell}(C:ajY base U w m G imp cells):∀{vs:List V} {gs:List Value} (_:dL G.μ m (Gh U w G) vs gs) {row:Row} {lt:List Nat} {m':Mem} {l l':Log}
  (_:(VI imp vs).run m l=some ((row,lt),m',l')),m'=m/\∀L:List Nat,(∀r,r∈lt->r∈L)->jf (view w (Yn U G L) (· ∈G.E)) row gs
 |[],gs,hv,row,lt,m',l,l',h=>by simp only[VI,run_pure,iF,jQ] at h;obtain⟨⟨rfl,rfl⟩,rfl,rfl⟩:=h;exact⟨rfl,λ_ _=>by simp[jf]⟩
 |v::vs,gs,hv,row,lt,m',l,l',h=>by
  obtain⟨g,gs',rfl,hv1,hv2⟩:=oZ hv;simp only[VI] at h;replace h:=aA h;obtain⟨⟨a',la⟩,m1,l1,h1,h⟩:=h;obtain⟨hm1,q1⟩:=agS C hv1 h1;cases a' with
  |d x=>simp only at h;replace h:=aA h;obtain⟨⟨b',lb⟩,m2,l2,h2,h⟩:=h;simp only[run_pure,iF,jQ] at h;obtain⟨⟨rfl,rfl⟩,rfl,rfl⟩:=h;rw[hm1] at h2;obtain⟨hm2,q2⟩:=adG C hv2 h2;refine⟨hm2,λL hL=> ?_⟩;have:=q1 L (λr hr=>hL r (by simp[hr]));simp only[bn] at this;exact⟨g,gs',rfl,this,q2 L (λr hr=>hL r (by simp[hr]))⟩
  |_=>exact(aC h).elim
def apE{imp:List Nat}{cells:List Cell}(C:ajY base U w m G imp cells){v:V}{g:Value}(hv:bn G.μ m (Gh U w G) v g){v':V}{lt:List Nat}{m':Mem}{l l':Log}
  (h:(agR imp v).run m l=some ((v',lt),m',l')):m'=m/\∀L:List Nat,(∀r,r∈lt->r∈L)->bn (impμ (imp.map G.μ)) (uJ 0 cells) (view w (Yn U G L) (· ∈G.E)) v' g:=by
 cases v with
 |ptr r off=>
  simp only[agR] at h;replace h:=aA h;obtain⟨c,m1,l1,h1,h⟩:=h;rw[zl] at h1;cases h1;cases hc:get r m with
  |none=>rw[hc] at h;exact(aC h).elim
  |some c=>
   rw[hc] at h;cases c with
   |box t cs=>
    simp only at h;replace h:=aA h;obtain⟨_,m2,l2,h1,h⟩:=h;obtain⟨hi,rfl,rfl⟩:=eF h1;replace h:=aA h;obtain⟨⟨row,la⟩,m2,l2,h1,h⟩:=h;simp only[run_pure,iF,jQ] at h;obtain⟨⟨rfl,rfl⟩,rfl,rfl⟩:=h;have hro:r ∉ G.out:=λhr=>TI hi ((C.out r).1 hr)
    obtain⟨b,a,e1,e2,e3,e4⟩:=C.ok.cell r _ hc hro;obtain⟨hm,q⟩:=adG C e3 h1;refine⟨hm,λL hL=> ?_⟩;simp only[bn,hc] at hv|-;obtain⟨b',e5,e6⟩:=hv.2;rw[e1] at e5;cases e5;refine⟨b,0,by rw[Nat.zero_add];exact e6,acE row 0 a.toList (λj u hj=> ?_) (q L (λk hk=>hL k (by simp[hk])))⟩;rw[Nat.zero_add];have hb:b∈G.F r:=by rw[e4];simp
    refine NT (N:=[b]) (λb' hb'=> ?_) b (by simp) a t _ e2 j u hj;simp only[List.mem_singleton] at hb';subst hb';refine⟨⟨(C.ok.lt _ (.inr ⟨r,hb⟩)).2.2,λk hk=> ?_⟩,C.ok.djE r _ hb⟩
    by_cases e:k=r
    ·rw[e];exact hL r (by simp)
    ·exact absurd hk (C.ok.dj r k (Ne.symm e) _ hb)
   |_=>exact(aC h).elim
 |wW row off=>simp only[agR,run_pure,iF,jQ] at h;obtain⟨⟨rfl,rfl⟩,rfl,rfl⟩:=h;refine⟨rfl,λL hL=> ?_⟩;simp only[bn] at hv|-;obtain⟨b,o,e1,e2⟩:=hv;exact⟨b,o,e1,Qd SN row b o e2⟩
 |_=>exact(aC h).elim
def afz{A:Adv}{f:Nat}{imp:List Nat}{cells:List Cell}(C:ajY base U w m G imp cells):
  ∀{vs:List V} {gs:List Value} {i:Nat} {N:List Nat} (_:TJ A f G.μ m (dO w) (Gh U w G) i vs gs N) {vs':List V} {lt:List Nat} {m':Mem} {l l':Log}
  (_:(VJ A imp f i vs).run m l=some ((vs',lt),m',l')),m'=m/\∀L:List Nat,(∀r,r∈lt->r∈L)->TJ A f (impμ (imp.map G.μ)) (uJ 0 cells) (dO w) (view w (Yn U G L) (· ∈G.E)) i vs' gs N
 |[],gs,i,N,hv,v',lt,m',l,l',h=>by simp only[VJ,run_pure,iF,jQ] at h;obtain⟨⟨rfl,rfl⟩,rfl,rfl⟩:=h;exact⟨rfl,λ_ _=>hv⟩
 |v::vs,gs,i,N,hv,v',lt,m',l,l',h=>by
  simp only[TJ] at hv;obtain⟨g,gs',N1,N2,rfl,rfl,hv1,hv2⟩:=hv;simp only[VJ] at h;replace h:=aA h;obtain⟨⟨a',la⟩,m1,l1,h1,h⟩:=h;simp only at h;replace h:=aA h;obtain⟨⟨b',lb⟩,m2,l2,h2,h⟩:=h;simp only[run_pure,iF,jQ] at h;obtain⟨⟨rfl,rfl⟩,rfl,rfl⟩:=h;have step:m1=m/\∀L:List Nat,(∀r,r∈la->r∈L)->(match Lc A f i with
   |1=>∃x,a'=.d x/\ow (dO w) (view w (Yn U G L) (· ∈G.E)) x g N1
   |_=>N1=[]/\bn (impμ (imp.map G.μ)) (uJ 0 cells) (view w (Yn U G L) (· ∈G.E)) a' g):=by
   split at h1
   ·rename_i hmo;rw[hmo] at hv1|-;simp only[run_pure,iF,jQ] at h1;obtain⟨⟨rfl,rfl⟩,rfl,rfl⟩:=h1;refine⟨rfl,λL hL=> ?_⟩;obtain⟨x,hx,hq⟩:=hv1;exact⟨x,hx,aah SN hq⟩
   ·rename_i hmo;rw[hmo] at hv1|-;obtain⟨hN,hv1⟩:=hv1;cases v with
    |own r ver=>simp only at h1;replace h1:=aA h1;obtain⟨_,m3,l3,h3,h1⟩:=h1;obtain⟨hb,rfl,rfl⟩:=eF h3;have hb:=Dl hb;subst hb;replace h1:=aA h1;obtain⟨j,m3,l3,h3,h1⟩:=h1;obtain⟨hj,rfl,rfl⟩:=iE h3;simp only[run_pure,iF,jQ] at h1;obtain⟨⟨rfl,rfl⟩,rfl,rfl⟩:=h1;refine⟨rfl,λL hL=>⟨hN, ?_⟩⟩;obtain⟨_,h2⟩:=acH hj;rw[Nat.sub_zero] at h2;obtain⟨c,c',k1,k2,k3⟩:=adE C.kd h2;simp only[bn,k1] at hv1;simp only[bn,Q9,k2];refine⟨hv1.1, ?_⟩;replace hv1:=hv1.2;cases c<;>cases c'<;>simp only[sameKind] at k3 hv1|-;refine⟨aB,λ_=> ?_⟩;simp only[impμ,Nat.add_sub_cancel_left,List.getD_eq_getElem?_getD,List.getElem?_map,h2,KZ,Option.getD_some];exact hv1.2 k3.1.symm
    |d _=>exact(aC h1).elim
    |nil _=>exact(aC h1).elim
    |ptr _ _=>exact(aC h1).elim
    |zF _ _ _ _=>exact(aC h1).elim
    |wW _ _=>exact(aC h1).elim
    |EW _=>exact(aC h1).elim
    |clo _ _ _=>exact(aC h1).elim
    |agg _=>exact(aC h1).elim
    |SI _=>exact(aC h1).elim
    |undef=>exact(aC h1).elim
   ·rename_i hmo;rw[hmo] at hv1|-;obtain⟨hN,hv1⟩:=hv1;cases v with
    |nil s=>simp only[run_pure,iF,jQ] at h1;obtain⟨⟨rfl,rfl⟩,rfl,rfl⟩:=h1;exact⟨rfl,λL hL=>⟨hN,hv1⟩⟩
    |d _=>exact(aC h1).elim
    |own _ _=>exact(aC h1).elim
    |ptr _ _=>exact(aC h1).elim
    |zF _ _ _ _=>exact(aC h1).elim
    |wW _ _=>exact(aC h1).elim
    |EW _=>exact(aC h1).elim
    |clo _ _ _=>exact(aC h1).elim
    |agg _=>exact(aC h1).elim
    |SI _=>exact(aC h1).elim
    |undef=>exact(aC h1).elim
   ·rename_i hmo;rw[hmo] at hv1|-;obtain⟨hN,hv1⟩:=hv1;obtain⟨rfl,q⟩:=apE C hv1 h1;exact⟨rfl,λL hL=>⟨hN,q L hL⟩⟩
   ·rename_i avc aSi aSj aSk;have hm1:∀(α:Prop) (β:Prop),(match Lc A f i with|1=>α|_=>β)=β:=by
     intro α β;split
     ·rename_i e;exact absurd e avc
     ·rfl
    rw[hm1] at hv1;obtain⟨hN,hv1⟩:=hv1;obtain⟨rfl,q⟩:=agS C hv1 h1;refine⟨rfl,λL hL=> ?_⟩;rw[hm1];exact⟨hN,q L hL⟩
  obtain⟨hm1,q1⟩:=step;rw[hm1] at h2;obtain⟨hm2,q2⟩:=afz C hv2 h2;refine⟨hm2,λL hL=> ?_⟩;simp only[TJ];exact⟨g,gs',N1,N2,rfl,rfl,q1 L (λr hr=>hL r (by simp[hr])),q2 L (λr hr=>hL r (by simp[hr]))⟩
end
end Go.Vm
namespace Go.Vm
open Go
def aai{w:World}{U X:Nat->Prop}{b o:Nat}{v:Value}(h:view w U X b o=some v):U b/\¬X b/\w.cell? ⟨b,o,none⟩=some v:=by
 unfold view at h;split at h
 ·rename_i hc;exact⟨hc.1,hc.2,h⟩
 ·cases h
def agT{w:World}{U X:Nat->Prop}{b o:Nat}{v:Value}(h1:U b)(h2:¬X b)(h3:w.cell? ⟨b,o,none⟩=some v):view w U X b o=some v:=by unfold view;rw[if_pos ⟨h1,h2⟩];exact h3
def cell_of_heap{w w':World}{b:Nat}(h:w'.heap[b]? =w.heap[b]?)(o:Nat):w'.cell? ⟨b,o,none⟩=w.cell? ⟨b,o,none⟩:=by simp[World.cell?,h]
def lt_of_cell{w:World}{b o:Nat}{v:Value}(h:w.cell? ⟨b,o,none⟩=some v):b<w.heap.size:=by have:=block_lt_of_cell h;simpa using this
section
variable {base:Nat} {U:Nat->Prop} {w w':World} {m:Mem} {G:GS}
def IJ.world(hg:IJ base U w m G)(hk:Keep G.E w w'){E':List Nat}(hn:E'.Nodup)(hE:∀b,b∈E'->(b∈G.E\/w.heap.size<=b)/\b<w'.heap.size):
  IJ base U w' m {G with E:=E'}/\(Gh U w G).le (Gh U w' {G with E:=E'}):=by
 have hnE:∀b,b<w.heap.size->b ∉ G.E->b ∉ E':=λb hb hx he=>by
  rcases(hE b he).1 with h|h
  ·exact hx h
  ·omega
 have hF:∀r b,b∈G.F r->w'.heap[b]? =w.heap[b]? :=λr b hb=>hk.block b (hg.lt b (.inr ⟨r,hb⟩)).1 (hg.djE r b hb)
 have hle:(Gh U w G).le (Gh U w' {G with E:=E'}):=by
  intro b o v hv;obtain⟨h1,h2,h3⟩:=aai hv;have hlt:=lt_of_cell h3;have hbE:b ∉ G.E:=λh=>h2 (.inl h)
  refine agT h1 ?_ ((cell_of_heap (hk.block b hlt hbE) o).trans h3);rintro(h|h)
  ·exact hnE b hlt hbE h
  ·exact h2 (.inr h)
 refine⟨⟨?_,hg.dj,λr b hb=>hnE b (hg.lt b (.inr ⟨r,hb⟩)).1 (hg.djE r b hb),hg.nd,hn, ?_,λb hb=>hg.up b (Nat.le_trans hk.size hb),Nat.le_trans hg.bs hk.size,hg.none_,hg.out_⟩,hle⟩
 ·intro r c hc ho;exact Oe (uK _ _) hle rfl (λb hb=>hF r b hb) (hg.cell r c hc ho)
 ·rintro b (h|⟨r,h⟩)
  ·refine⟨(hE b h).2, ?_⟩;rcases(hE b h).1 with h'|h'
   ·exact(hg.lt b (.inl h')).2
   ·exact⟨Nat.le_trans hg.bs h',hg.up b h'⟩
  ·have:=hg.lt b (.inr ⟨r,h⟩);exact⟨Nat.lt_of_lt_of_le this.1 hk.size,this.2⟩
def ajZ:∀{L:List Nat} {m:Mem} {G:GS} (_:IJ base U w m G) (_:∀r,r∈L->r ∉ G.out) {x:Unit} {m':Mem} {l l':Log} (_:(freeze L).run m l=some (x,m',l')),
  ∃F',IJ base U w m' ⟨G.μ,F',G.E,G.out⟩/\Yj m G m' ⟨G.μ,F',G.E,G.out⟩/\(∀r,r∈L->F' r=[])/\(∀r,F' r=[]\/F' r=G.F r)/\(∀k,k ∉ L->get k m'=get k m)
 |[],m,G,hg,ho,x,m',l,l',h=>by simp only[Vm.freeze,run_pure,iF,jQ] at h;obtain⟨_,rfl,rfl⟩:=h;exact⟨G.F,hg,Yj.refl _ _,by simp,λr=> .inr rfl,λ_ _=>rfl⟩
 |r::L,m,G,hg,ho,x,m',l,l',h=>by
  simp only[Vm.freeze] at h;replace h:=aA h;obtain⟨c,m1,l1,h1,h⟩:=h;rw[zl] at h1;cases h1;cases hc:get r m with
  |none=>rw[hc] at h;exact(aC h).elim
  |some c=>
   rw[hc] at h;cases c with
   |box _ _=>exact(aC h).elim
   |dead=>exact(aC h).elim
   |JX _ _ _=>exact(aC h).elim
   |rF _ _=>exact(aC h).elim
   |arr fz fl ver s rows=>
    replace h:=aA h;obtain⟨_,m1,l1,h1,h⟩:=h;simp only[IG,iF,jQ] at h1;obtain⟨_,rfl,rfl⟩:=h1;obtain⟨k1,k2,_⟩:=hg.freeze hc (ho r (by simp));obtain⟨F',q1,q2,q3,q4,q5⟩:=ajZ k1 (λk hk=>ho k (by simp[hk])) h;refine⟨F',q1,k2.trans q2, ?_, ?_, ?_⟩
    ·intro k hk;simp only[List.mem_cons] at hk;rcases hk with rfl|hk
     ·rcases q4 k with e|e
      ·exact e
      ·rw[e];simp
     ·exact q3 k hk
    ·intro k;rcases q4 k with e|e
     ·exact .inl e
     ·by_cases ek:k=r
      ·subst ek;rw[e];left;simp
      ·have e':F' k=upF G.F r [] k:=e;rw[e',kF _ ek];exact .inr rfl
    ·intro k hk;simp only[List.mem_cons,not_or] at hk;rw[q5 k hk.2,mQ hk.1]
def ahl{k:IntKind}{x:D}{n:Int}(h:asInt k x=some n):x=.int k n:=by
 cases x<;>simp[asInt] at h;rename_i k' n'
 by_cases e:k'=k
 ·subst e;simp at h;subst h;rfl
 ·simp[e] at h
def afA{x:D}{b:Bool}(h:asBool x=some b):x=.bool b:=by cases x<;>simp[asBool] at h;subst h;rfl
def ahm{x:D}{b:List UInt8}(h:ajS x=some b):x=.str b:=by cases x<;>simp[ajS] at h;subst h;rfl
def aj0{s:Nat}{x:D}{rows:List Row}(h:auW s x=some rows):∃o,x=.sl o s rows:=by
 cases x<;>simp[auW] at h;rename_i o s' rows'
 by_cases e:s'=s
 ·subst e;simp at h;subst h;exact⟨o,rfl⟩
 ·rw[zk e] at h;simp at h
def ahn{s:Nat}{x:D}{rows:List Row}(h:arh s x=some rows):x=.sl true s rows:=by
 cases x<;>simp[arh] at h;rename_i o s' rows';cases o<;>simp at h
 by_cases e:s'=s
 ·subst e;simp at h;subst h;rfl
 ·rw[zk e] at h;simp at h
def amW{row:Row}{j:Nat}{x:D}{r:Row}(h:row.drop j=x::r):nth row j=x/\row.drop (j+1)=r:=by
 have h1:row[j]? =some x:=by
  have:(row.drop j)[0]? =some x:=by rw[h];rfl
  rwa [List.getElem?_drop,Nat.add_zero] at this
 refine⟨by simp[nth,h1], ?_⟩;rw[<-List.drop_drop,h];rfl
def IJ.aho(hg:IJ base U w m G){N E:List Nat}(hE:(N++E).Perm G.E):IJ base U w m {G with E:=E}/\Yj m G m {G with E:=E}/\∀{x:D} {g:Value},ow (dO w) (Gh U w G) x g N->ro (Gh U w {G with E:=E}) x g:=by
 have hnd:=hE.nodup_iff.2 hg.ndE;have hmem:∀b,b∈N++E->b∈G.E:=λb hb=>hE.mem_iff.1 hb
 obtain⟨h1,h2⟩:=hg.less E (List.nodup_append.1 hnd).2.1 (λb hb=>hmem b (by simp[hb]));refine⟨h1,h2,fun{x g} q=>aBa h2.view x g N (NT λb hb=>⟨(hg.lt b (.inl (hmem b (by simp[hb])))).2.2, ?_⟩) q⟩;rintro(h|⟨r,h⟩)
 ·exact(List.nodup_append.1 hnd).2.2 b hb b h rfl
 ·exact hg.djE r b h (hmem b (by simp[hb]))
structure Grew(base:Nat)(U:Nat->Prop)(w:World)(m:Mem)(G:GS)(m':Mem)(G':GS)(E:List Nat):Prop where
 ok:IJ base U w m' G'
 le:Yj m G m' G'
 E:G'.E=E
 out:G'.out=G.out
 old:∀k c,get k m=some c->get k m'=some c
 μ:∀k c,get k m=some c->G'.μ k=G.μ k
def Grew.trans{m1 m2 m3:Mem}{G1 G2 G3:GS}{E E':List Nat}(a:Grew base U w m1 G1 m2 G2 E)(b:Grew base U w m2 G2 m3 G3 E'):Grew base U w m1 G1 m3 G3 E':=
 ⟨b.ok,a.le.trans b.le,b.E,b.out.trans a.out,λk c h=>b.old k c (a.old k c h),λk c h=>(b.μ k c (a.old k c h)).trans (a.μ k c h)⟩
def adH{k:Nat}{c:Cell}{x:Unit}{m':Mem}{l l':Log}(h:(new k c).run m l=some (x,m',l')):get k m=none/\m'=put k c m:=by
 simp only[new] at h;replace h:=aA h;obtain⟨_,m1,l1,h1,h⟩:=h;simp only[free] at h1;replace h1:=aA h1;obtain⟨c',m2,l2,h2,h1⟩:=h1;rw[zl] at h2;cases h2;cases hc:get k m with
 |some c=>rw[hc] at h1;exact(aC h1).elim
 |none=>rw[hc] at h1;simp only[run_pure,iF,jQ] at h1;obtain⟨_,rfl,rfl⟩:=h1;simp only[IG,iF,jQ] at h;exact⟨rfl,h.2.1.symm⟩
def aj1(hg:IJ base U w m G)(ho:∀r,r∈G.out->∃c,get r m=some c){k:Nat}{fl:Bool}{s:Nat}{rows:List Row}{g:Value}{N E:List Nat}(hE:(N++E).Perm G.E)
  (hq:ow (dO w) (Gh U w G) (.sl true s rows) g N) {x:Unit} {m':Mem} {l l':Log} (h:(new k (.arr false fl 0 s rows)).run m l=some (x,m',l')):
  ∃G',Grew base U w m G m' G' E/\bn G'.μ m' (Gh U w G') (.own k 0) g:=by
 obtain⟨hn,rfl⟩:=adH h;have hk:k ∉ G.out:=λhx=>by obtain⟨c,hc⟩:=ho k hx;rw[hn] at hc;cases hc
 obtain⟨F',h1,h2⟩:=hg.aCa fl hn hk hE hq;refine⟨_,⟨h1,h2,rfl,rfl,λj c hj=> ?_,λj c hj=> ?_⟩, ?_⟩
 ·have hne:j≠k:=λe=>by subst e;rw[hn] at hj;cases hj
  rw[mQ hne];exact hj
 ·exact Qe _ (λe=>by subst e;rw[hn] at hj;cases hj)
 ·have:VK g:=by simp only[ow] at hq;rcases hq with⟨_,rfl,_⟩|⟨b,cap,cs,t,N',rfl,_⟩<;>exact⟨_,_,_,rfl⟩
  simp[bn,jv,this]
def afB(hg:IJ base U w m G)(ho:∀r,r∈G.out->∃c,get r m=some c){row:Row}{j:Nat}{x:D}{g:Value}{N E:List Nat}(hE:(N++E).Perm G.E)(hx:nth row j=x)
  (hq:ow (dO w) (Gh U w G) x g N) {ct:CT} {own fl:Bool} {key:Nat} {v:V} {m':Mem} {l l':Log}
  (h:(Q7 own fl key row j ct).run m l=some (v,m',l')):
  ∃G',Grew base U w m G m' G' E/\bn G'.μ m' (Gh U w G') v g:=by
 obtain⟨d1,d2,d3⟩:=hg.aho hE;have plain:Grew base U w m G m {G with E:=E} E:=⟨d1,d2,rfl,rfl,λ_ _ h=>h,λ_ _ _=>rfl⟩
 have hro:=d3 hq;cases ct with
 |int k=>
  simp only[Q7,mg,hx,Acc.run] at h;cases ha:asInt k x with
  |none=>simp[ha,Acc.run] at h
  |some n=>simp only[ha,Acc.run,iF,jQ] at h;obtain⟨rfl,rfl,rfl⟩:=h;refine⟨_,plain, ?_⟩;rw[ahl ha] at hro;simpa[bn] using hro
 |bool=>
  simp only[Q7,ajT,hx,Acc.run] at h;cases ha:asBool x with
  |none=>simp[ha,Acc.run] at h
  |some n=>simp only[ha,Acc.run,iF,jQ] at h;obtain⟨rfl,rfl,rfl⟩:=h;refine⟨_,plain, ?_⟩;rw[afA ha] at hro;simpa[bn] using hro
 |str=>
  simp only[Q7,cStr,hx,Acc.run] at h;cases ha:ajS x with
  |none=>simp[ha,Acc.run] at h
  |some n=>simp only[ha,Acc.run,iF,jQ] at h;obtain⟨rfl,rfl,rfl⟩:=h;refine⟨_,plain, ?_⟩;rw[ahm ha] at hro;simpa[bn] using hro
 |other=>exact(aC h).elim
 |sl s=>
  cases own with
  |false=>
   simp only[Q7,cSl,hx,Acc.run] at h;cases ha:auW s x with
   |none=>simp[ha,Acc.run] at h
   |some n=>simp only[ha,Acc.run,iF,jQ] at h;obtain⟨rfl,rfl,rfl⟩:=h;refine⟨_,plain, ?_⟩;obtain⟨o,rfl⟩:=aj0 ha;simp only[bn];exact ahh hro
  |true=>
   simp only[Q7,aeA,hx,Acc.run] at h;cases ha:arh s x with
   |none=>simp[ha,Acc.run] at h
   |some n=>simp only[ha,Acc.run] at h;have:=ahn ha;subst this;replace h:=aA h;obtain⟨_,m1,l1,h1,h⟩:=h;simp only[run_pure,iF,jQ] at h;obtain⟨rfl,rfl,rfl⟩:=h;exact aj1 hg ho hE hq h1
def Nw{H:Heap}{h:View}{x:D}{r:Row}{cs:List Value}{N:List Nat}(q:jq H h (x::r) cs N):∃v cs' N1 N2,cs=v::cs'/\N=N1++N2/\ow H h x v N1/\jq H h r cs' N2:=by simpa[jq] using q
def aeF{N1 N2 E E0:List Nat}(h:(N1++N2++E).Perm E0):(N1++(N2++E)).Perm E0:=by rwa [Nu] at h
def ahp{own:List Nat}{r dst:Nat}{row:Row}:∀{cts:List CT} {fs:List Bool} {j:Nat} {m:Mem} {G:GS} {gs:List Value} {N E:List Nat} (_:IJ base U w m G) (_:∀r,r∈G.out->∃c,get r m=some c)
  (_:(N++E).Perm G.E) (_:jq (dO w) (Gh U w G) (row.drop j) gs N) (_:row.length=j+cts.length) (_:gs.length=cts.length) {vs:List V} {m':Mem} {l l':Log}
  (_:(adt own r dst row j cts fs).run m l=some (vs,m',l')),∃G',Grew base U w m G m' G' E/\dL G'.μ m' (Gh U w G') vs gs
 |[],fs,j,m,G,gs,N,E,hg,ho,hE,hq,hlen,hgl,vs,m',l,l',h=>by simp only[adt,run_pure,iF,jQ] at h;obtain⟨rfl,rfl,rfl⟩:=h;rw[List.drop_eq_nil_of_le (by simp at hlen;omega)] at hq;simp only[jq] at hq;subst hq;simp at hgl;subst hgl;obtain⟨d1,d2,_⟩:=hg.aho hE;exact⟨_,⟨d1,d2,rfl,rfl,λ_ _ h=>h,λ_ _ _=>rfl⟩,by simp[dL]⟩
 |ct::cts,fs,j,m,G,gs,N,E,hg,ho,hE,hq,hlen,hgl,vs,m',l,l',h=>by
  cases hd:row.drop j with
  |nil=>have:=congrArg List.length hd;simp at this hlen;omega
  |cons x rest=>obtain⟨hx,hrest⟩:=amW hd;rw[hd] at hq;obtain⟨g,gs',N1,N2,rfl,rfl,q1,q2⟩:=Nw hq;simp only[adt] at h;replace h:=aA h;obtain⟨v,m1,l1,h1,h⟩:=h;replace h:=aA h;obtain⟨vs',m2,l2,h2,h⟩:=h;simp only[run_pure,iF,jQ] at h;obtain⟨rfl,rfl,rfl⟩:=h;obtain⟨G1,t1,s1⟩:=afB hg ho (aeF hE) hx q1 h1;obtain⟨G2,t2,s2⟩:=ahp t1.ok (λk hk=>by rw[t1.out] at hk;obtain⟨c,hc⟩:=ho k hk;exact⟨c,t1.old k c hc⟩) (by rw[t1.E]) (by rw[hrest];exact WT t1.le.view q2) (by simp at hlen;omega) (by simpa using hgl) h2;refine⟨G2,t1.trans t2, ?_⟩;simp only[dL];exact⟨g,gs',rfl,t2.le.bn s1,s2⟩
def afC{att:List Nat}{dst ri:Nat}{row:Row}:∀{cts:List CT} {fs:List Bool} {j:Nat} {m:Mem} {G:GS} {gs:List Value} {N E:List Nat} (_:IJ base U w m G) (_:∀r,r∈G.out->∃c,get r m=some c)
  (_:(N++E).Perm G.E) (_:jq (dO w) (Gh U w G) (row.drop j) gs N) (_:row.length=j+cts.length) (_:gs.length=cts.length) {vs:List V} {m':Mem} {l l':Log}
  (_:(Ye att dst ri row j cts fs).run m l=some (vs,m',l')),∃G',Grew base U w m G m' G' E/\dL G'.μ m' (Gh U w G') vs gs
 |[],fs,j,m,G,gs,N,E,hg,ho,hE,hq,hlen,hgl,vs,m',l,l',h=>by simp only[Ye,run_pure,iF,jQ] at h;obtain⟨rfl,rfl,rfl⟩:=h;rw[List.drop_eq_nil_of_le (by simp at hlen;omega)] at hq;simp only[jq] at hq;subst hq;simp at hgl;subst hgl;obtain⟨d1,d2,_⟩:=hg.aho hE;exact⟨_,⟨d1,d2,rfl,rfl,λ_ _ h=>h,λ_ _ _=>rfl⟩,by simp[dL]⟩
 |ct::cts,fs,j,m,G,gs,N,E,hg,ho,hE,hq,hlen,hgl,vs,m',l,l',h=>by
  cases hd:row.drop j with
  |nil=>have:=congrArg List.length hd;simp at this hlen;omega
  |cons x rest=>obtain⟨hx,hrest⟩:=amW hd;rw[hd] at hq;obtain⟨g,gs',N1,N2,rfl,rfl,q1,q2⟩:=Nw hq;simp only[Ye] at h;replace h:=aA h;obtain⟨v,m1,l1,h1,h⟩:=h;replace h:=aA h;obtain⟨vs',m2,l2,h2,h⟩:=h;simp only[run_pure,iF,jQ] at h;obtain⟨rfl,rfl,rfl⟩:=h;obtain⟨G1,t1,s1⟩:=afB hg ho (aeF hE) hx q1 h1;obtain⟨G2,t2,s2⟩:=afC t1.ok (λk hk=>by rw[t1.out] at hk;obtain⟨c,hc⟩:=ho k hk;exact⟨c,t1.old k c hc⟩) (by rw[t1.E]) (by rw[hrest];exact WT t1.le.view q2) (by simp at hlen;omega) (by simpa using hgl) h2;refine⟨G2,t1.trans t2, ?_⟩;simp only[dL];exact⟨g,gs',rfl,t2.le.bn s1,s2⟩
def valOf(P:Program)(t:TypeId)(cs:List Value)(g:Value):Prop:=if Qb P t=true then g=.agg cs.toArray else cs=[g]
def XC(P:Program)(H:Heap)(h:View):List TypeId->List Row->List Value->List Nat->Prop
 |[],rows,gs,N=>rows=[]/\gs=[]/\N=[]
 |t::ts,rows,gs,N=>∃row rows' g gs' cs N1 N2,rows=row::rows'/\gs=g::gs'/\N=N1++N2/\valOf P t cs g/\jq H h row cs N1/\row.length=cs.length/\XC P H h ts rows' gs' N2
def TK{P:Program}{H H':Heap}{h h':View}(hl:h.le h'):∀{ts:List TypeId} {rows:List Row} {gs:List Value} {N:List Nat},(∀b,b∈N->H' b=H b)->XC P H h ts rows gs N->XC P H' h' ts rows gs N
 |[],_,_,_,_,q=>q
 |t::ts,_,_,_,hb,⟨row,rows',g,gs',cs,N1,N2,e1,e2,e3,h1,h2,h3,h4⟩=>by subst e3;exact⟨row,rows',g,gs',cs,N1,N2,e1,e2,rfl,h1,Nv hl _ _ _ (λb hx=>hb b (by simp[hx])) h2,h3,TK hl (λb hx=>hb b (by simp[hx])) h4⟩
def Ny{P:Program}{t:TypeId}{vs:List V}{v:V}(h:L8 P t vs=some v){μ:Nat->Value}{hh:View}{cs:List Value}{g:Value}(hq:dL μ m hh vs cs)(hg:valOf P t cs g):bn μ m hh v g:=by
 unfold L8 at h;unfold valOf at hg;cases ha:Qb P t with
 |true=>simp only[ha,aI,if_true,iF] at h hg;subst h;simp only[bn];exact⟨_,hg,by simpa using hq⟩
 |false=>
  simp only[ha,aX,Bool.false_eq_true,if_false] at h hg;split at h
  ·cases h;obtain⟨g',gs',e,q1,q2⟩:=oZ hq;rw[hg] at e;cases e;exact q1
  ·cases h
def ajg{res:List Row}{ri:Nat}{row:Row}{rows:List Row}(h:res.drop ri=row::rows):adu res ri=row/\res.drop (ri+1)=rows:=by
 have h1:res[ri]? =some row:=by
  have:(res.drop ri)[0]? =some row:=by rw[h];rfl
  rwa [List.getElem?_drop,Nat.add_zero] at this
 refine⟨by simp[adu,h1], ?_⟩;rw[<-List.drop_drop,h];rfl
def aj2{X:Ctx}{att:List Nat}{dst:Nat}{res:List Row}:∀{ts:List TypeId} {ri:Nat} {m:Mem} {G:GS} {gs:List Value} {N E:List Nat} (_:IJ base U w m G) (_:∀r,r∈G.out->∃c,get r m=some c)
  (_:(N++E).Perm G.E) (_:XC X.P (dO w) (Gh U w G) ts (res.drop ri) gs N) {vs:List V} {m':Mem} {l l':Log}
  (_:(acA X att dst res ri ts).run m l=some (vs,m',l')),∃G',Grew base U w m G m' G' E/\dL G'.μ m' (Gh U w G') vs gs
 |[],ri,m,G,gs,N,E,hg,ho,hE,hq,vs,m',l,l',h=>by simp only[acA,run_pure,iF,jQ] at h;obtain⟨rfl,rfl,rfl⟩:=h;obtain⟨_,rfl,rfl⟩:=hq;obtain⟨d1,d2,_⟩:=hg.aho hE;exact⟨_,⟨d1,d2,rfl,rfl,λ_ _ h=>h,λ_ _ _=>rfl⟩,by simp[dL]⟩
 |t::ts,ri,m,G,gs,N,E,hg,ho,hE,hq,vs,m',l,l',h=>by obtain⟨row,rows',g,gs',cs,N1,N2,e1,rfl,rfl,h1,h2,h3,h4⟩:=hq;obtain⟨hrow,hrest⟩:=ajg e1;simp only[acA] at h;replace h:=aA h;obtain⟨_,m1,l1,k1,h⟩:=h;obtain⟨hlen,rfl,rfl⟩:=eF k1;replace h:=aA h;obtain⟨vc,m2,l2,k2,h⟩:=h;replace h:=aA h;obtain⟨v,m3,l3,k3,h⟩:=h;obtain⟨hv,rfl,rfl⟩:=iE k3;replace h:=aA h;obtain⟨vs',m4,l4,k4,h⟩:=h;simp only[run_pure,iF,jQ] at h;obtain⟨rfl,rfl,rfl⟩:=h;have hlen:=Dl hlen;rw[hrow] at hlen k2;obtain⟨G1,t1,s1⟩:=afC hg ho (aeF hE) (by simpa using h2) (by simpa using hlen) (by rw[<-h3];exact hlen) k2;obtain⟨G2,t2,s2⟩:=aj2 t1.ok (λk hk=>by rw[t1.out] at hk;obtain⟨c,hc⟩:=ho k hk;exact⟨c,t1.old k c hc⟩) (by rw[t1.E]) (by rw[hrest];exact TK t1.le.view (λ_ _=>rfl) h4) k4;refine⟨G2,t1.trans t2, ?_⟩;simp only[dL];exact⟨g,gs',rfl,t2.le.bn (Ny hv s1 h1),s2⟩
mutual
def arl{H:Heap}{h h':View}:∀(x:D) (v:Value) (N:List Nat),x.pure=true->ow H h x v N->ow H h' x v N
 | .int _ _,_,_,_,q=>by simpa[ow] using q
 | .bool _,_,_,_,q=>by simpa[ow] using q
 | .str _,_,_,_,q=>by simpa[ow] using q
 | .TF,_,_,_,q=>by simpa[ow] using q
 | .sl false s rows,v,N,hp,q=>by simp only[D.pure,List.isEmpty_iff] at hp;subst hp;simp only[ow,ro] at q|-;exact⟨q.1,by obtain⟨a,cap,h1,h2,_⟩:=q.2;exact⟨a,cap,h1,h2,λe=>absurd rfl e⟩⟩
 | .sl true s rows,v,N,hp,q=>by
  simp only[D.pure] at hp;simp only[ow] at q|-;rcases q with q|⟨b,cap,cs,t,N',h1,h2,h3,h4,h5,rfl⟩
  ·exact .inl q
  ·exact .inr ⟨b,cap,cs,t,N',h1,h2,h3,h4,afD s rows _ N' hp h5,rfl⟩
def afD{H:Heap}{h h':View}(s:Nat):∀(rows:List Row) (cs:List Value) (N:List Nat),Jk rows=true->ig H h s rows cs N->ig H h' s rows cs N
 |[],_,_,_,q=>by simpa[ig] using q
 |r::rs,cs,N,hp,q=>by simp only[Jk,Ji] at hp;simp only[ig] at q|-;obtain⟨h1,N1,N2,rfl,h2,h3⟩:=q;exact⟨h1,N1,N2,rfl,acI r _ N1 hp.1 h2,afD s rs _ N2 hp.2 h3⟩
def acI{H:Heap}{h h':View}:∀(r:Row) (cs:List Value) (N:List Nat),yU r=true->jq H h r cs N->jq H h' r cs N
 |[],_,_,_,q=>by simpa[jq] using q
 |x::r,cs,N,hp,q=>by simp only[yU,Ji] at hp;simp only[jq] at q|-;obtain⟨v,cs',N1,N2,rfl,rfl,h2,h3⟩:=q;exact⟨v,cs',N1,N2,rfl,rfl,arl x v N1 hp.1 h2,acI r cs' N2 hp.2 h3⟩
end
def ahq{P:Program}{H:Heap}{h h':View}:∀{ts:List TypeId} {rows:List Row} {gs:List Value} {N:List Nat},rows.all yU=true->XC P H h ts rows gs N->XC P H h' ts rows gs N
 |[],_,_,_,_,q=>q
 |t::ts,_,_,_,hp,⟨row,rows',g,gs',cs,N1,N2,e1,e2,e3,h1,h2,h3,h4⟩=>by subst e1;simp only[List.all_cons,Ji] at hp;exact⟨row,rows',g,gs',cs,N1,N2,rfl,e2,e3,h1,acI _ _ _ hp.1 h2,h3,ahq hp.2 h4⟩
end
end Go.Vm
namespace Go.Vm
open Go
section
variable {base:Nat} {U:Nat->Prop} {w w':World} {m:Mem} {G:GS}
def drop_cons{α:Type}{l:List α}{i:Nat}{a:α}{r:List α}(h:l.drop i=a::r):l[i]? =some a/\l.drop (i+1)=r:=by
 refine⟨?_,by rw[<-List.drop_drop,h];rfl⟩;have:(l.drop i)[0]? =some a:=by rw[h];rfl
 rwa [List.getElem?_drop,Nat.add_zero] at this
def aCb(xs:List D):(xs.map V.d).map vD=xs:=by
 induction xs with
 |nil=>rfl
 |cons x xs ih=>simp[vD,ih]
def ahr{m m':Mem}(h:∀k c,get k m=some c->get k m'=some c):∀{rs:List Nat} {cs:List Cell},kinds m rs cs->kinds m' rs cs
 |[],_,q=>q
 |r::rs,_,⟨c,c',cs',h1,h2,h3,h4⟩=>⟨c,c',cs',h1,h r c h2,h3,ahr h h4⟩
def aeG{m:Mem}{r:Nat}{c0:Cell}:∀{rs:List Nat} {cs:List Cell},r ∉ rs->kinds m rs cs->kinds (put r c0 m) rs cs
 |[],_,_,q=>q
 |k::rs,_,hr,⟨c,c',cs',h1,h2,h3,h4⟩=>by simp only[List.mem_cons,not_or] at hr;exact⟨c,c',cs',h1,by rw[mQ (Ne.symm hr.1)];exact h2,h3,aeG hr.2 h4⟩
structure Came(base:Nat)(U:Nat->Prop)(w:World)(m:Mem)(G:GS)(m':Mem)(G':GS)(E:List Nat):Prop where
 ok:IJ base U w m' G'
 le:Yj m G m' G'
 E:G'.E=E
 out:G'.out=[]
def NU{H:Heap}{h h':View}(hl:h.le h'){cs:List Cell}{gs:List Value}{N:List Nat}(q:cellsB H h cs gs N):cellsB H h' cs gs N:=afx hl (λ_ _=>rfl) q
def adI{X:Ctx}{dst:Nat}{outs:List Cell}:∀{rs:List Nat} {i:Nat} {m:Mem} {G:GS} {N E:List Nat} (_:IJ base U w m G) (_:rs.Nodup) (_:G.out=rs) (_:kinds m rs (outs.drop i))
  (_:(N++E).Perm G.E) (_:cellsB (dO w) (Gh U w G) (outs.drop i) (rs.map G.μ) N) {x:Unit} {m':Mem} {l l':Log} (_:(afr X dst outs i rs).run m l=some (x,m',l')),
  ∃G',Came base U w m G m' G' E
 |[],i,m,G,N,E,hg,hn,ho,hk,hE,hq,x,m',l,l',h=>by simp only[afr,run_pure,iF,jQ] at h;obtain⟨_,rfl,rfl⟩:=h;obtain⟨d1,d2,_⟩:=hg.aho hE;exact⟨_,d1,d2,rfl,ho⟩
 |r::rs,i,m,G,N,E,hg,hn,ho,hk,hE,hq,x,m',l,l',h=>by
  obtain⟨c,c',cs',e1,hc,hsk,hk'⟩:=hk;have hnr:=List.nodup_cons.1 hn;obtain⟨hi,hdrop⟩:=drop_cons e1;rw[e1] at hq;obtain⟨g,gs',N1,N2,eg,rfl,q1,q2⟩:=hq;simp only[zmc,List.cons.injEq] at eg;obtain⟨rfl,rfl⟩:=eg;have hout:∀k,k∈G.out->∃c,get k m=some c:=by
   intro k hkm;rw[ho] at hkm;simp only[List.mem_cons] at hkm;rcases hkm with rfl|hkm
   ·exact⟨c,hc⟩
   ·obtain⟨j,hj⟩:=List.getElem?_of_mem hkm;obtain⟨c2,_,h2,_⟩:=adE hk' hj;exact⟨c2,h2⟩
  simp only[afr] at h;replace h:=aA h;obtain⟨c0,m1,l1,h1,h⟩:=h;rw[zl] at h1;cases h1;rw[hc] at h;cases c with
  |dead=>exact hsk.elim
  |JX _ _ _=>exact hsk.elim
  |rF _ _=>exact hsk.elim
  |box t cs=>
   cases c' with
   |dead=>exact hsk.elim
   |JX _ _ _=>exact hsk.elim
   |rF _ _=>exact hsk.elim
   |arr _ _ _ _ _=>exact hsk.elim
   |box t' vs=>
    obtain rfl:t=t':=hsk;obtain⟨b,a,xs,N',hμ,hH,hvs,hxl,hrow,rfl⟩:=q1;simp only at h;replace h:=aA h;obtain⟨_,m2,l2,h2,h⟩:=h;obtain⟨hbl,rfl,rfl⟩:=eF h2;replace h:=aA h;obtain⟨vs',m3,l3,h3,h⟩:=h;replace h:=aA h;obtain⟨_,m4,l4,h4,h⟩:=h;rw[IG] at h4;cases h4;have hbx:au2 outs i=xs:=by simp only[au2,hi,hvs];exact aCb xs
    have hbl:xs.length=(Q5 X.P t).length:=by simp only[au4,hi] at hbl;have:=Dl hbl;rw[hvs,List.length_map] at this;exact this
    rw[hbx] at h3;obtain⟨G1,t1,s1⟩:=ahp hg hout (N:=N') (E:=b::(N2++E)) (List.Perm.trans (by have:(N'++b::(N2++E)).Perm (b::(N'++(N2++E))):=List.perm_middle;refine this.trans ?_;simp[Nu]) hE) (by simpa using hrow) (by simpa using hbl) (by rw[<-hxl];exact hbl) h3;have hc1:=t1.old r _ hc;have azd:=t1.ok.ndE;rw[t1.E] at azd;have hset:=t1.ok.set r (.box t vs') G1.μ [b] (N2++E) rs (by simpa using azd) (λk hk=> .inr (by rw[t1.E];simpa using hk))
     (J6 (λ_ _=>rfl) (λc h=>by rw[hc1] at h;cases h;exact⟨rfl,rfl⟩)) (λ_ _=>rfl)
     (λk hne=>by rw[t1.out,ho];simp[hne]) (λhr=>absurd hr hnr.1)
     (λhv _=>⟨b,a,by rw[t1.μ r _ hc];exact hμ,hH,wX (J6 (λ_ _=>rfl) (λc h=>by rw[hc1] at h;cases h;exact⟨rfl,rfl⟩)) hv _ _ s1,rfl⟩)
    obtain⟨k1,k2⟩:=hset;obtain⟨G2,f1,f2,f3,f4⟩:=adI k1 hnr.2 rfl (aeG hnr.1 (ahr t1.old (by rw[hdrop];exact hk'))) (N:=N2) (E:=E) (List.Perm.refl _)
     (by
      rw[hdrop];have hmap:rs.map G1.μ=rs.map G.μ:=List.map_congr_left λk hk=>by obtain⟨c2,h2⟩:=hout k (by rw[ho];simp[hk]);exact t1.μ k c2 h2
      simp only[hmap];exact NU (t1.le.view.trans' k2.view) q2) h
    exact⟨G2,f1,(t1.le.trans k2).trans f2,f3,f4⟩
  |arr fz fl ver s rows=>
   cases c' with
   |dead=>exact hsk.elim
   |JX _ _ _=>exact hsk.elim
   |rF _ _=>exact hsk.elim
   |box _ _=>exact hsk.elim
   |arr fz' fl' jl s' rows'=>
    obtain⟨rfl,rfl,rfl,rfl⟩:=hsk;obtain⟨rfl,_,hrow⟩:=q1;simp only at h;replace h:=aA h;obtain⟨arn,m2,l2,h2,h⟩:=h;obtain⟨har,rfl,rfl⟩:=iE h2;replace h:=aA h;obtain⟨_,m4,l4,h4,h⟩:=h;rw[IG] at h4;cases h4;have hrr:arn=rows':=by simp[au3,hi] at har;exact har.symm
    subst hrr;have azd:=hE.nodup_iff.2 hg.ndE;have hset:=hg.set r (.arr false fl 0 s arn) G.μ N1 (N2++E) rs (by rwa [Nu] at azd) (λk hk=> .inr (hE.mem_iff.1 (by rw[Nu];exact hk)))
     (J6 (λ_ _=>rfl) (λc h=>by rw[hc] at h;cases h;exact⟨Nat.le_refl _,rfl,λ_=>⟨rfl,rfl⟩⟩)) (λ_ _=>rfl)
     (λk hne=>by rw[ho];simp[hne]) (λhr=>absurd hr hnr.1)
     (λhv _=>NR hv (λ_ _=>rfl) hrow)
    obtain⟨k1,k2⟩:=hset;obtain⟨G2,f1,f2,f3,f4⟩:=adI k1 hnr.2 rfl (aeG hnr.1 (by rw[hdrop];exact hk')) (N:=N2) (E:=E) (List.Perm.refl _)
     (by rw[hdrop];exact NU k2.view q2) h
    exact⟨G2,f1,k2.trans f2,f3,f4⟩
def avd{h:View}(s:List UInt8):∀(cs:List Value),cs=s.map (λb=>Value.int .u8 b.toNat)->gW h 1 (s.map byteRow) cs:=by
 induction s with
 |nil=>intro cs _;simp[gW]
 |cons b s ih=>intro cs e;subst e;simp only[zmc,gW,byteRow];exact⟨rfl,by simp[jf,ro],ih _ rfl⟩
end
end Go.Vm
