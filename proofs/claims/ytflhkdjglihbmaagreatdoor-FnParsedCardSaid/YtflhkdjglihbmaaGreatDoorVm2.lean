import Derived.Orders
import Derived.KernelRfl
import Derived.RowKit3
import Derived.Laws.Cells
import Derived.Laws.Rows
import Derived.Laws.OwnMore
import Derived.Below
import Derived.Laws.Append
import Derived.Laws.AppendOwn
import Derived.Laws.CopyRow
import Derived.Laws.Slices
import Derived.Laws.MakeOwn
import Derived.Laws.BytesString
import Derived.Great.BuildSlice
import Derived.Laws.StructEq
import Derived.Laws.Strings
set_option linter.defProp false
set_option linter.unusedVariables false
set_option linter.unusedSimpArgs false
namespace Go.Vm
def ak{p:Prop}(h:p:=by omega):p:=h
def aH{α:Sort _}(a b:α):cond true a b=a:=cond_true ..
def bC{α:Sort _}(a b:α):cond false a b=b:=cond_false ..
def kX{α:Type _}(a b:α):(some a=some b)=(a=b):=Option.some.injEq ..
def pW{α:Type _}{β:Type _}(a:α)(b:β)(c:α)(d:β):((a,b)=(c,d))=(a=c/\b=d):=Prod.mk.injEq ..
def zdt{p:Prop}[Decidable p](h:p):decide p=true:=decide_eq_true h
def xK{p:Prop}[Decidable p](h:¬p):decide p=false:=decide_eq_false h
def I5{n m:Nat}(h:Nat.beq n m=true):n=m:=Nat.eq_of_beq_eq_true h
def Ai{α:Type _}{a b:List α}:(a++b).length=a.length+b.length:=List.length_append ..
def QV{α:Type _}{i:Nat}{a:α}{l:List α}:l[i]? =some a↔∃h:i<l.length,l[i]=a:=List.getElem?_eq_some_iff ..
def GX{α:Type _}{a:α}{s:List α}:(a::s).length=s.length+1:=List.length_cons ..
def WC{α:Type _}(a b c:List α):a++b++c=a++(b++c):=List.append_assoc ..
def Jj{α:Type _}{a:α}:[a].length=1:=List.length_singleton ..
def OT{α:Type _}:([]:List α).length=0:=List.length_nil ..
def UK{α:Type _}{l:List α}{i:Nat}{a:α}(h:l[i]? =some a):a∈l:=List.mem_of_getElem? h
def BK(a b:Bool):((a&&b)=true)=(a=true/\b=true):=Bool.and_eq_true ..
def MI{α:Type _}{β:Type _}(a:α)(f:α->β):Option.map f (some a)=some (f a):=Option.map_some ..
def zmc{α:Type _}{β:Type _}{f:α->β}{a:α}{l:List α}:List.map f (a::l)=f a::List.map f l:=List.map_cons ..
def ztn(n:Nat):((n:Int)).toNat=n:=Int.toNat_natCast ..
def zca{α:Type _}{a:α}{s t:List α}:a::s++t=a::(s++t):=List.cons_append ..
def zmm{α:Type _}(y:α){a:α}{l:List α}(h:a∈l):a∈y::l:=List.mem_cons_of_mem _ h
def zmf{α:Type _}{a:α}{l:List α}:a∈a::l:=List.mem_cons_self ..
def zlo{α:Type _}{l:List α}:l.length=1↔∃a,l=[a]:=List.length_eq_one_iff ..
def Rf{α:Type _}[BEq α][LawfulBEq α]{a b:α}:(a==b)=false↔a≠b:=beq_eq_false_iff_ne ..
def zlt{α:Type _}{i:Nat}{l:List α}:(l.take i).length=min i l.length:=List.length_take ..
inductive D where
 |int (k:IntKind) (n:Int)
 |bool (b:Bool)
 |str (s:List UInt8)
 |ZL
 |sl (own:Bool) (s:Nat) (rows:List (List D))
 deriving Inhabited
abbrev Row:=List D
abbrev aC:=List UInt8
abbrev au:=List Row
inductive V where
 |d (x:D)
 |nil (s:Nat)
 |own (r ver:Nat)
 |ptr (r off:Nat)
 |KX (r ver i off:Nat)
 |EU (row:Row) (off:Nat)
 |Pn (v:V)
 |clo (f:Nat) (first caps:List V)
 |agg (cs:List V)
 |MF (vs:List V)
 |undef
 deriving Inhabited
inductive Cell where
 |box (t:TypeId) (cs:List V)
 |arr (fz fl:Bool) (ver s:Nat) (rows:List Row)
 |dead
 |Dl (t:TypeId) (v:V)
 deriving Inhabited
abbrev Mem:=List (Nat×Cell)
abbrev nK:=List (Nat×V)
structure St where
 tm:nK
 mem:Mem
def get{α:Type}(k:Nat):List (Nat×α)->Option α
 |[]=>none
 |(j,x)::l=>bif Nat.beq k j then some x else get k l
def put{α:Type}(k:Nat)(x:α):List (Nat×α)->List (Nat×α)
 |[]=>[(k,x)]
 |(j,y)::l=>bif Nat.beq k j then(k,x)::l else bif Nat.blt k j then(k,x)::(j,y)::l else(j,y)::put k x l
def del{α:Type}(k:Nat):List (Nat×α)->List (Nat×α)
 |[]=>[]
 |(j,y)::l=>bif Nat.beq k j then del k l else(j,y)::del k l
def acd(t:Nat)(tm:nK):V:=match get t tm with|some v=>v|none=> .undef
def alU(dst:Option Nat)(v:V)(tm:nK):nK:=match dst with|some t=>put t v tm|none=>tm
def aBR(dst:Option Nat)(tm:nK):nK:=match dst with|some t=>del t tm|none=>tm
inductive Acc(α:Type):Type 1 where
 |ret (a:α)
 |fail
 |get (k:Nat) (c:Option Cell->Acc α)
 |set (k:Nat) (x:Cell) (c:Acc α)
 |opt {β:Type} (o:Option β) (c:β->Acc α)
 |guard (b:Bool) (c:Acc α)
structure Log where
 r:List Nat
 w:List Nat
def Log.rd(l:Log)(k:Nat):Log:={l with r:=k::l.r}
def Log.wr(l:Log)(k:Nat):Log:={l with w:=k::l.w}
def Log.none:Log:=⟨[],[]⟩
def Acc.bind{α β:Type}:Acc α->(α->Acc β)->Acc β
 | .ret a,f=>f a
 | .fail,_=> .fail
 | .get k c,f=> .get k λx=>(c x).bind f
 | .set k x c,f=> .set k x (c.bind f)
 | .opt o c,f=> .opt o λb=>(c b).bind f
 | .guard b c,f=> .guard b (c.bind f)
def Acc.run{α:Type}:Acc α->Mem->Log->Option (α×Mem×Log)
 | .ret a,m,l=>some (a,m,l)
 | .fail,_,_=>none
 | .get k c,m,l=>(c (Vm.get k m)).run m (l.rd k)
 | .set k x c,m,l=>c.run (put k x m) (l.wr k)
 | .opt o c,m,l=>match o with|some b=>(c b).run m l|none=>none
 | .guard b c,m,l=>match b with|true=>c.run m l|false=>none
inductive CT where
 |int (k:IntKind)|bool|str|sl (s:Nat)|other
 deriving Inhabited
def atg(f:TypeId->Option (List CT)):List TypeId->Option (List CT)
 |[]=>some []
 |t::ts=>match f t,atg f ts with|some a,some b=>some (a++b)|_,_=>none
def cts(P:Program):Nat->TypeId->Option (List CT)
 |0,_=>none
 |n+1,t=>match P.underlying t with
  |some (.int k)=>some [.int k]
  |some .bool=>some [.bool]
  |some .string=>some [.str]
  |some (.slice e)=>match P.info? e with|some i=>some [.sl i.size]|none=>none
  |some (.struct fs)=>atg (cts P n) (fs.toList.map (·.type))
  |some (.array k e)=>atg (cts P n) (List.replicate k e)
  |some (.pointer _)|some (.func ..)=>some [.other]
  |_=>none
def QZ(P:Program)(t:TypeId):List CT:=match cts P 8 t with|some l=>l|none=>[.other]
def QW(P:Program)(t:TypeId):Bool:=match P.underlying t with|some (.struct _)=>true|some (.array ..)=>true|_=>false
def uf(P:Program)(t:TypeId):Nat:=match P.info? t with|some i=>i.size|none=>0
def aoq(P:Program)(t:TypeId):Option TypeId:=match P.underlying t with|some (.pointer T)=>some T|_=>none
def elT(P:Program)(t:TypeId):Option TypeId:=match P.underlying t with|some (.slice e)=>some e|_=>none
def agy:CT->Value->V
 |_,.bool b=> .d (.bool b)
 |_,.int k n=> .d (.int k n)
 |_,.string s=> .d (.str s.data.toList)
 |_,.nilFunc=> .d .ZL
 | .sl s,.slice none 0 0=> .nil s
 |_,_=> .undef
def Jk:List CT->List Value->List V
 |c::cs,v::vs=>agy c v::Jk cs vs
 |[],_::vs=> .undef::Jk [] vs
 |_,[]=>[]
def cv(P:Program)(t:TypeId):Value->V
 | .agg cs=> .agg (Jk (QZ P t) cs.toList)
 |v=>match QZ P t with|c::_=>agy c v|[]=> .undef
def Sl(P:Program)(t:TypeId):Option (List V):=
 match P.info? t with
 |some i=>match i.zero with
  |some z=>some (Jk (QZ P t) z.cells.toList)
  |none=>none
 |none=>none
def V.cells:V->List V
 | .agg cs=>cs
 |v=>[v]
def Po(P:Program)(t:TypeId)(cs:List V):Option V:=
 bif QW P t then some (.agg cs) else match cs with|[v]=>some v|_=>none
def asInt(k:IntKind):D->Option Int
 | .int k' n=>bif decide (k'=k) then some n else none
 |_=>none
def asBool:D->Option Bool
 | .bool b=>some b
 |_=>none
def amq:D->Option (List UInt8)
 | .str s=>some s
 |_=>none
def ayk(s:Nat):D->Option (List Row)
 | .sl _ s' rows=>bif Nat.beq s' s then some rows else none
 |_=>none
def aBS(s:Nat):D->Option (List Row)
 | .sl own s' rows=>bif Nat.beq s' s then(match own with|false=>some rows|true=>match rows with|[]=>some []|_::_=>none) else none
 |_=>none
def ave(s:Nat):D->Option (List Row)
 | .sl own s' rows=>match own with|true=>bif Nat.beq s' s then some rows else none|false=>none
 |_=>none
def nth(row:Row)(j:Nat):D:=match row[j]? with|some x=>x|none=> .ZL
def jD(k:IntKind)(row:Row)(j:Nat):Option Int:=asInt k (nth row j)
def amr(row:Row)(j:Nat):Option Bool:=asBool (nth row j)
def cStr(row:Row)(j:Nat):Option (List UInt8):=amq (nth row j)
def cSl(s:Nat)(row:Row)(j:Nat):Option (List Row):=ayk s (nth row j)
def cRo(s:Nat)(row:Row)(j:Nat):Option (List Row):=aBS s (nth row j)
def ayl(s:Nat)(row:Row)(j:Nat):Option (List Row):=ave s (nth row j)
mutual
def D.fz:D->D
 | .int k n=> .int k n
 | .bool b=> .bool b
 | .str s=> .str s
 | .ZL=> .ZL
 | .sl _ s rows=> .sl false s (aB rows)
def aB:List Row->List Row
 |[]=>[]
 |r::rs=>AY r::aB rs
def AY:Row->Row
 |[]=>[]
 |x::r=>x.fz::AY r
end
def roD:D->D
 | .sl _ s rows=> .sl false s rows
 |x=>x
def D.flat:D->Bool
 | .sl ..=>false
 |_=>true
def aj(rows:List Row):Bool:=rows.all λr=>r.all D.flat
def one:V->Bool
 | .d _=>true
 | .nil _=>true
 | .own _ _=>true
 | .ptr _ _=>true
 | .KX ..=>true
 | .EU _ _=>true
 | .Pn _=>true
 | .clo ..=>true
 |_=>false
mutual
def D.pure:D->Bool
 | .sl own _ rows=>match own with|true=>Nh rows|false=>rows.isEmpty
 |_=>true
def Nh:List Row->Bool
 |[]=>true
 |r::rs=>gI r && Nh rs
def gI:Row->Bool
 |[]=>true
 |x::r=>x.pure && gI r
end
def Rh(strict:Bool):List CT->Row->Nat->(List V->Acc V)->Acc V
 |[],_,_,c=>c []
 | .int k::ts,row,j,c=> .opt (jD k row j) λn=>Rh strict ts row (j+1) λvs=>c (.d (.int k n)::vs)
 | .bool::ts,row,j,c=> .opt (amr row j) λn=>Rh strict ts row (j+1) λvs=>c (.d (.bool n)::vs)
 | .str::ts,row,j,c=> .opt (cStr row j) λn=>Rh strict ts row (j+1) λvs=>c (.d (.str n)::vs)
 | .sl s::ts,row,j,c=> .opt (bif strict then cRo s row j else cSl s row j) λrs=>Rh strict ts row (j+1) λvs=>c (.d (.sl false s rs)::vs)
 | .other::_,_,_,_=> .fail
structure Adv where
 keep:Nat->Nat->List Nat
 move:Nat->List Nat
 att:Nat->Nat->List Nat
 aJs:Nat->List Nat
 trunc:Nat->Nat->Bool
 look:Nat->List Nat
structure Ctx where
 P:Program
 U4:Adv
 ad5:Nat->Option (List V->List Cell->Option (List Row×List Cell))
 glob:Nat->Option Row
 aTz:Nat->Bool
abbrev mG:=Nat->List V->List Cell->Option (List Row×List Cell)
def mem?(k:Nat):List Nat->Bool
 |[]=>false
 |j::l=>bif Nat.beq k j then true else mem? k l
def aE0:List CT->Bool
 |[]=>false
 | .sl _::_=>true
 |_::l=>aE0 l
def Iy(P:Program)(e:TypeId):Bool:= !(aE0 (QZ P e))
def vw(fl:Bool)(rows:List Row):List Row:=bif fl then rows else aB rows
instance:Monad Acc where
 pure:=.ret
 bind:=.bind
def rd(k:Nat):Acc (Option Cell):=.get k .ret
def wr(k:Nat)(x:Cell):Acc Unit:=.set k x (.ret ())
def ck(b:Bool):Acc Unit:=.guard b (.ret ())
def op'{β:Type}(o:Option β):Acc β:=.opt o .ret
def free(k:Nat):Acc Unit:=do
 match<-rd k with
 |none=>pure ()
 |some _=> .fail
def new(k:Nat)(c:Cell):Acc Unit:=do
 free k
 wr k c
def seen(v:V):Acc (Nat×List Row):=
 match v with
 | .d (.sl _ s rows)=>pure (s,rows)
 | .nil s=>pure (s,[])
 | .own r ver=>do
  match<-rd r with
  |some (.arr _ fl vC s rows)=>do ck (Nat.beq ver vC);pure (s,vw fl rows)
  |_=> .fail
 |_=> .fail
def avf(fl:Bool)(rows:List Row):Bool:=bif fl then aj rows else true
def toD(v:V):Acc D:=
 match v with
 | .d x=>pure (roD x)
 | .nil s=>pure (.sl true s [])
 | .own r ver=>do
  match<-rd r with
  |some (.arr fz fl vC s rows)=>do
   ck (Nat.beq ver vC)
   match fz with
   |true=>pure (.sl false s (vw fl rows))
   |false=>do
    ck (avf fl rows)
    wr r .dead
    pure (.sl true s rows)
  |_=> .fail
 |_=> .fail
def Pq:List V->Acc Row
 |[]=>pure []
 |v::vs=>do
  let x<-toD v
  let xs<-Pq vs
  pure (x::xs)
def splice{α:Type}(l:List α)(off:Nat)(xs:List α):List α:=l.take off++xs++l.drop (off+xs.length)
def part{α:Type}(l:List α)(off n:Nat):List α:=(l.drop off).take n
def idx{α:Type}(l:List α)(i:Int):Option α:=bif decide (0<=i) then l[i.toNat]? else none
def cut{α:Type}(l:List α)(a b:Int):Option (List α):=
 bif decide (0<=a) && decide (a<=b) && decide (b<=l.length) then some ((l.drop a.toNat).take (b.toNat - a.toNat)) else none
def byteRow(b:UInt8):Row:=[.int .u8 b.toNat]
def asByte:Row->Option UInt8
 |[.int .u8 n]=>some (UInt8.ofNat n.toNat)
 |_=>none
def bytesOf:List Row->Option (List UInt8)
 |[]=>some []
 |r::rs=>match asByte r,bytesOf rs with|some b,some bs=>some (b::bs)|_,_=>none
def ev(P:Program)(tm:nK)(t:TypeId):Operand->V
 | .tmp i=>acd i tm
 | .const v=>cv P t v
 | .func f=> .clo f [] []
 | .global _=> .undef
def evG(X:Ctx)(tm:nK)(t:TypeId)(x:Operand):V:=match x with
 | .global g=>match X.glob g with
  |some row=> .EU row 0
  |none=> .undef
 |x=>ev X.P tm t x
def nz(op:BinOp)(b:Int):Bool:=match op with
 | .quo=> !(decide (b=0))
 | .rem=> !(decide (b=0))
 |_=>true
def aF6(op:BinOp)(k:IntKind)(a b:Int):Option V:=
 match op with
 | .add=>some (.d (.int k (k.wrap (a+b))))
 | .sub=>some (.d (.int k (k.wrap (a - b))))
 | .mul=>some (.d (.int k (k.wrap (a * b))))
 | .quo=>some (.d (.int k (k.wrap (a.tdiv b))))
 | .rem=>some (.d (.int k (a.tmod b)))
 | .eql=>some (.d (.bool (a==b)))
 | .neq=>some (.d (.bool (a !=b)))
 | .lss=>some (.d (.bool (decide (a<b))))
 | .leq=>some (.d (.bool (decide (a<=b))))
 | .gtr=>some (.d (.bool (decide (a>b))))
 | .geq=>some (.d (.bool (decide (a>=b))))
 | .and=>some (.d (.int k (k.wrap (BitVec.ofInt k.bits a &&& BitVec.ofInt k.bits b).toNat)))
 | .or=>some (.d (.int k (k.wrap (BitVec.ofInt k.bits a|||BitVec.ofInt k.bits b).toNat)))
 | .xor=>some (.d (.int k (k.wrap (BitVec.ofInt k.bits a ^^^ BitVec.ofInt k.bits b).toNat)))
 |_=>none
def afa(op:BinOp)(k:IntKind)(a b:Int):Option V:=
 bif decide (b<0) then none else
 match op with
 | .shl=>some (.d (.int k (k.wrap (a * 2 ^(min b.toNat k.bits)))))
 | .shr=>some (.d (.int k (a.fdiv (2 ^(min b.toNat k.bits)))))
 |_=>none
def ath:Nat:=9223372036854775807
def aF7(op:BinOp)(a b:List UInt8):Acc V:=
 match op with
 | .add=> .guard (Nat.ble (a.length+b.length) ath) (.ret (.d (.str (a++b))))
 | .eql=> .ret (.d (.bool (a==b)))
 | .neq=> .ret (.d (.bool !(a==b)))
 | .lss=> .ret (.d (.bool (Op.bytesLess a b)))
 | .leq=> .ret (.d (.bool (Op.bytesLess a b||a==b)))
 | .gtr=> .ret (.d (.bool !(Op.bytesLess a b||a==b)))
 | .geq=> .ret (.d (.bool !(Op.bytesLess a b)))
 |_=> .fail
def aJt(op:BinOp)(a b:Bool):Option V:=
 match op with
 | .eql=>some (.d (.bool (a==b)))
 | .neq=>some (.d (.bool !(a==b)))
 |_=>none
def shiftOp:BinOp->Bool
 | .shl| .shr=>true
 |_=>false
def boolT(P:Program)(t:TypeId):Bool:=match P.underlying t with|some .bool=>true|_=>false
def bin(bt:Bool)(op:BinOp)(x y:V):Acc V:=
 match x,y with
 | .d (.int k a),.d (.int k' b)=>
  match shiftOp op with
  |true=> .opt (afa op k a b) .ret
  |false=>match decide (k=k') with
   |true=> .guard (nz op b) (.opt (aF6 op k a b) .ret)
   |false=> .fail
 | .d (.str a),.d (.str b)=>aF7 op a b
 | .d (.bool a),.d (.bool b)=>match bt with
  |true=> .opt (aJt op a b) .ret
  |false=> .fail
 |_,_=> .fail
def ati:V->V->Option Bool
 | .d (.int k a),.d (.int k' b)=>bif decide (k=k') then some (a==b) else none
 | .d (.str a),.d (.str b)=>some (a==b)
 | .d (.bool a),.d (.bool b)=>some (a==b)
 |_,_=>none
def agz(P:Program)(t:TypeId)(v:V):Bool:=match P.underlying t,v with
 |some (.int _),.d (.int _ _)=>true
 |some .string,.d (.str _)=>true
 |some .bool,.d (.bool _)=>true
 |_,_=>false
def sliceT(P:Program)(t:TypeId):Bool:=match P.underlying t with|some (.slice _)=>true|_=>false
def aiS(P:Program):List Field->List V->List V->Option Bool
 |[],_,_=>some true
 |f::fs,xs,ys=>match xs[f.offset]?,ys[f.offset]? with
  | some x, some y => bif agz P f.type x && (f.name != "_") then
    (match ati x y,aiS P fs xs ys with
    |some a,some b=>some (bif a then b else false)
    |_,_=>none) else none
  |_,_=>none
def aJu(P:Program)(t:TypeId)(op:BinOp)(cs ds:List V):Acc V:=do
 ck (!(P.stoodInHeld t) && !(P.eqGuardType P.depth t))
 let fs<-op' (match P.underlying t with|some (.struct fs)=>some fs.toList|_=>none)
 let r<-op' (aiS P fs cs ds)
 match op with
 | .eql=>pure (.d (.bool r))
 | .neq=>pure (.d (.bool !r))
 |_=> .fail
def atj(x:V):Acc Bool:=
 match x with
 | .nil _=>pure true
 | .d (.sl _ _ rows)=>do ck (Nat.ble 1 rows.length);pure false
 | .own r ver=>do
  match<-rd r with
  |some (.arr _ _ vC _ rows)=>do ck (Nat.beq ver vC && Nat.ble 1 rows.length);pure false
  |_=> .fail
 |_=> .fail
def atl(P:Program)(t:TypeId)(op:BinOp)(x:V):Acc V:=do
 ck (sliceT P t)
 let b<-atj x
 match op with
 | .eql=>pure (.d (.bool b))
 | .neq=>pure (.d (.bool !b))
 |_=> .fail
def aF8(P:Program)(t:TypeId)(op:BinOp)(x y:V):Acc V:=match x with
 | .agg cs=>(match y with| .agg ds=>aJu P t op cs ds|_=> .fail)
 |x=>(match y with| .nil _=>atl P t op x|y=>bin (boolT P t) op x y)
def un(op:UnOp)(x:V):Acc V:=
 match op,x with
 | .neg,.d (.int k n)=> .ret (.d (.int k (k.wrap (0 - n))))
 | .not,.d (.bool b)=> .ret (.d (.bool !b))
 |_,_=> .fail
def aym(c x y:V):Acc V:=
 match c with
 | .d (.bool c)=>match x,y with
  | .d (.bool a),.d (.bool b)=> .ret (.d (.bool (bif c then a else b)))
  |x,y=>match c with
   |true=> .ret x
   |false=> .ret y
 |_=> .fail
def Uw(P:Program)(t:TypeId):Bool:=match P.underlying t with|some _=>true|none=>false
def ayn(P:Program)(t:TypeId)(a:V):Acc V:=do
 ck (Uw P t && Nat.beq (QZ P t).length (uf P t))
 match a with
 | .ptr r off=>do
  match<-rd r with
  |some (.box _ cs)=>do
   ck (Nat.ble (off+uf P t) cs.length)
   op' (Po P t (part cs off (uf P t)))
  |some (.Dl _ v)=>do
   ck (Nat.beq off 0 &&(Nat.beq (uf P t) 1 && !(QW P t)))
   pure v
  |_=> .fail
 | .Pn v=>do
  ck (Nat.beq (uf P t) 1 && !(QW P t))
  pure v
 | .EU row off=>Rh false (QZ P t) row off λvs=>op' (Po P t vs)
 | .KX r ver i off=>do
  match<-rd r with
  |some (.arr _ _ vC _ rows)=>do
   ck (Nat.beq ver vC)
   let row<-op' rows[i]?
   Rh true (QZ P t) row off λvs=>op' (Po P t vs)
  |_=> .fail
 |_=> .fail
def kept(off:Nat)(cs:List V)(x:V):Bool:=match off,cs,x with
 |0,[.undef],.ptr _ _=>true
 |_,_,_=>false
def atm(P:Program)(t:TypeId)(a x:V):Acc Unit:=do
 ck (Uw P t)
 ck (Nat.beq x.cells.length (uf P t))
 ck (x.cells.all one)
 match a with
 | .ptr r off=>do
  match<-rd r with
  |some (.box T cs)=>do
   ck (Nat.ble (off+uf P t) cs.length)
   match kept off cs x with
   |true=>wr r (.Dl T x)
   |false=>wr r (.box T (splice cs off x.cells))
  |_=> .fail
 | .KX r ver i off=>do
  let xs<-Pq x.cells
  match<-rd r with
  |some (.arr false fl vC s rows)=>do
   ck (Nat.beq ver vC)
   ck (Nat.ble (off+uf P t) s)
   let row<-op' rows[i]?
   wr r (.arr false fl ver s (rows.set i (splice row off xs)))
  |_=> .fail
 |_=> .fail
def YI(P:Program)(T:TypeId)(f:Nat):Option (Nat×Nat×TypeId):=
 match P.underlying T with
 |some (.struct fs)=>match fs[f]? with
  |some fd=>some (fd.offset,uf P fd.type,fd.type)
  |none=>none
 |_=>none
def ad6(P:Program)(T:TypeId)(a:V)(f:Nat):Acc V:=do
 let(o,n,_)<-op' (YI P T f)
 ck (Nat.ble 1 n)
 match a with
 | .ptr r off=>pure (.ptr r (off+o))
 | .EU row off=>pure (.EU row (off+o))
 | .KX r ver i off=>pure (.KX r ver i (off+o))
 |_=> .fail
def atn(P:Program)(T:TypeId)(x:V)(f:Nat):Acc V:=do
 let(o,n,t)<-op' (YI P T f)
 match x with
 | .agg cs=>do
  ck (Nat.ble (o+n) cs.length)
  ck (Uw P t)
  op' (Po P t (part cs o n))
 |_=> .fail
def ad7(P:Program)(t:TypeId)(x i:V):Acc V:=do
 let e<-op' (elT P t)
 match i with
 | .d (.int _ i)=>
  match x with
  | .d (.sl _ s rows)=>do
   ck (Nat.beq s (uf P e))
   ck (Uw P e)
   let row<-op' (idx rows i)
   pure (.EU row 0)
  | .own r ver=>do
   match<-rd r with
   |some (.arr fz fl vC s rows)=>do
    ck (Nat.beq ver vC)
    ck (Nat.beq s (uf P e))
    ck (Uw P e)
    match fz with
    |true=>do
     let row<-op' (idx (vw fl rows) i)
     pure (.EU row 0)
    |false=>do
     let _<-op' (idx rows i)
     pure (.KX r ver i.toNat 0)
   |_=> .fail
  |_=> .fail
 |_=> .fail
def arT(P:Program)(t:TypeId):Option (Nat×TypeId):=match P.underlying t with|some (.array n e)=>some (n,e)|_=>none
def apU(P:Program)(n:Nat)(e:TypeId)(x i:V):Acc V:=
 match i with
 | .d (.int _ i)=>do
  ck (Uw P e)
  ck (decide (0<=i) && decide (i<(n:Int)))
  match x with
  | .EU row off=>pure (.EU row (off+i.toNat * uf P e))
  | .ptr r off=>pure (.ptr r (off+i.toNat * uf P e))
  |_=> .fail
 |_=> .fail
def ad8(P:Program)(t:TypeId)(x i:V):Acc V:=match arT P t with
 |some (n,e)=>apU P n e x i
 |none=>ad7 P t x i
def ams:List V->Option Row
 |[]=>some []
 | .d x::vs=>match ams vs with|some r=>some (x::r)|none=>none
 |_::_=>none
def ajk(c:CT)(row:Row)(i:Nat):Acc V:=match c with
 | .int k=> .opt (jD k row i) λn=> .ret (.d (.int k n))
 | .bool=> .opt (amr row i) λb=> .ret (.d (.bool b))
 | .str=> .opt (cStr row i) λs=> .ret (.d (.str s))
 |_=> .fail
def ato(P:Program)(t:TypeId)(x i:V):Acc V:=
 match P.underlying t,x,i with
 |some .string,.d (.str s),.d (.int _ i)=> .opt (idx s i) λb=> .ret (.d (.int .u8 b.toNat))
 |some (.array n e),.agg cs,.d (.int _ i)=>do
  ck (Nat.beq (uf P e) 1 &&(Nat.beq cs.length n &&(Uw P e && !(QW P e))))
  ck (decide (0<=i) && decide (i<(n:Int)))
  let row<-op' (ams cs)
  ajk (match QZ P e with|[c]=>c|_=> .other) row i.toNat
 |_,_,_=> .fail
def lenV(x:V):Acc V:=
 match x with
 | .d (.str s)=> .ret (.d (.int .i64 s.length))
 | .own r ver=>do
  match<-rd r with
  |some (.arr _ _ vC _ rows)=>do ck (Nat.beq ver vC);pure (.d (.int .i64 rows.length))
  |_=> .fail
 | .d (.sl _ _ rows)=> .ret (.d (.int .i64 rows.length))
 | .nil _=> .ret (.d (.int .i64 0))
 |_=> .fail
def afb:Nat:=140737488355328
def ad9(P:Program)(e:TypeId):Nat:=match P.info? e with|some i=>i.bytes|none=>afb
def tail(P:Program)(e:TypeId)(y:V):Acc (List Row):=
 match y with
 | .d (.str s)=>do
  ck (Nat.beq (uf P e) 1)
  pure (s.map byteRow)
 | .d (.sl _ s rows)=>do
  ck (Nat.beq s (uf P e))
  pure (vw (Iy P e) rows)
 | .nil _=>pure []
 | .own r ver=>do
  match<-rd r with
  |some (.arr fz fl vC s rows)=>do
   ck (Nat.beq ver vC)
   ck (Nat.beq s (uf P e))
   match Iy P e with
   |true=>do
    ck (fl||fz)
    pure rows
   |false=>do
    ck (!fl)
    match fz with
    |true=>pure (aB rows)
    |false=>do
     wr r .dead
     pure rows
  |_=> .fail
 |_=> .fail
def aor(P:Program)(dst:Nat)(t ty:TypeId)(x y:V):Acc V:=do
 let e<-op' (elT P t)
 ck (Nat.ble 1 (uf P e))
 ck (match P.underlying ty with|some (.slice _)=>true|some .string=>true|_=>false)
 let z<-op' (Sl P e)
 ck (Nat.beq z.length (uf P e))
 let ys<-tail P e y
 match x with
 | .nil _=>do
  ck (Nat.ble (ys.length * ad9 P e) afb)
  ck (Nat.ble ys.length afb)
  new dst (.arr false (Iy P e) 0 (uf P e) ys)
  pure (.own dst 0)
 | .own r ver=>do
  match<-rd r with
  |some (.arr false fl vC s rows)=>do
   ck (Nat.beq ver vC)
   ck (Nat.beq s (uf P e))
   ck (match fl,Iy P e with|true,true=>true|false,false=>true|_,_=>false)
   ck (Nat.ble ((rows.length+ys.length) * ad9 P e) afb)
   ck (Nat.ble (rows.length+ys.length) afb)
   wr r (.arr false fl (ver+1) s (rows++ys))
   pure (.own r (ver+1))
  |_=> .fail
 |_=> .fail
def apV(P:Program)(e:TypeId):Acc Row:=do
 let z<-op' (Sl P e)
 Pq z
def aea(P:Program)(dst:Nat)(t:TypeId)(l c:V):Acc V:=do
 let e<-op' (elT P t)
 ck (Nat.ble 1 (uf P e))
 let z<-apV P e
 ck (Nat.beq z.length (uf P e))
 match l,c with
 | .d (.int _ l),.d (.int _ c)=>do
  ck (decide (0<=l) && decide (l<=c) && decide (c * ad9 P e<=afb) && decide (c<=afb))
  new dst (.arr false (Iy P e) 0 (uf P e) (List.replicate l.toNat z))
  pure (.own dst 0)
 |_,_=> .fail
def bound(o:Option V)(d:Int):Acc Int:=match o with
 |none=> .ret d
 |some (.d (.int _ n))=> .ret n
 |some _=> .fail
def atp(P:Program)(t:TypeId)(x:V)(lo hi:Option V):Acc V:=
 match x with
 | .d (.str s)=>do
  ck (match P.underlying t with|some .string=>true|_=>false)
  let l<-bound lo 0
  let h<-bound hi s.length
  let s'<-op' (cut s l h)
  pure (.d (.str s'))
 |_=>do
  let e<-op' (elT P t)
  ck (Uw P e)
  let(s,rows)<-seen x
  ck (Nat.beq s (uf P e))
  let l<-bound lo 0
  let h<-bound hi rows.length
  let rows'<-op' (cut rows l h)
  match x with
  | .own r ver=>do
   match<-rd r with
   |some (.arr _ fl vC s rows)=>do
    ck (Nat.beq ver vC)
    wr r (.arr true fl ver s rows)
    pure (.d (.sl false s rows'))
   |_=> .fail
  |_=>pure (.d (.sl false s rows'))
def aos(P:Program)(t:TypeId)(x:V)(lo hi:Option V):Acc V:=
 match x with
 | .EU row off=>do
  let(n,e)<-op' (arT P t)
  ck (Uw P e)
  ck (Nat.beq (uf P e) 1 &&(Nat.beq off 0 && Nat.beq row.length n))
  match lo,hi with
  |none,none=>pure (.d (.sl false 1 (row.map λx=>[x])))
  |_,_=> .fail
 |x=>atp P t x lo hi
def atq(P:Program)(t:TypeId)(x:V)(hi:Option V):Acc V:=do
 let e<-op' (elT P t)
 ck (Uw P e)
 match x with
 | .own r ver=>do
  match<-rd r with
  |some (.arr false fl vC s rows)=>do
   ck (Nat.beq ver vC)
   ck (Nat.beq s (uf P e))
   let h<-bound hi rows.length
   ck (decide (0<=h) && decide (h<=(rows.length:Int)))
   wr r (.arr false fl (ver+1) s (rows.take h.toNat))
   pure (.own r (ver+1))
  |_=> .fail
 |_=> .fail
def aE1(P:Program)(t:TypeId)(x lo:V):Acc V:=.fail
def zF(P:Program)(T:TypeId)(tm:nK):List (Nat×Operand)->List V->Acc (List V)
 |[],cs=>pure cs
 |(f,x)::ps,cs=>do
  let(o,n,t)<-op' (YI P T f)
  let v:=ev P tm t x
  ck (Nat.beq v.cells.length n)
  ck (v.cells.all one)
  ck (Nat.ble (o+n) cs.length)
  zF P T tm ps (splice cs o v.cells)
def apW(P:Program)(T:TypeId):Bool:=match P.underlying T with
 |some (.struct fs)=>fs.toList.all λf=>match P.info? f.type with|some _=>true|none=>false
 |_=>false
def wX(P:Program)(e:TypeId)(tm:nK):List (Nat×Operand)->List V->Acc (List V)
 |[],cs=>pure cs
 |(i,x)::ps,cs=>do
  let v:=ev P tm e x
  ck (Nat.beq v.cells.length (uf P e))
  ck (v.cells.all one)
  ck (Nat.ble (i * uf P e+uf P e) cs.length)
  wX P e tm ps (splice cs (i * uf P e) v.cells)
def aot(P:Program)(T:TypeId)(tm:nK)(ps:List (Nat×Operand)):Acc V:=do
 ck (apW P T)
 let z<-op' (Sl P T)
 let cs<-zF P T tm ps z
 pure (.agg cs)
def atr(P:Program)(T e:TypeId)(tm:nK)(ps:List (Nat×Operand)):Acc V:=do
 ck (Uw P e)
 let z<-op' (Sl P T)
 let cs<-wX P e tm ps z
 pure (.agg cs)
def aou(P:Program)(T:TypeId)(tm:nK)(ps:List (Nat×Operand)):Acc V:=match arT P T with
 |some (_,e)=>atr P T e tm ps
 |none=>aot P T tm ps
def zG(P:Program)(e:TypeId)(tm:nK):Nat->List (Nat×Operand)->Acc (List Row)
 |_,[]=>pure []
 |k,(i,x)::ps=>do
  ck (Nat.beq i k)
  let v:=ev P tm e x
  ck (Nat.beq v.cells.length (uf P e))
  let row<-Pq v.cells
  let rows<-zG P e tm (k+1) ps
  pure (row::rows)
def WE(P:Program)(dst:Nat)(t:TypeId)(n:Nat)(tm:nK)(ps:List (Nat×Operand)):Acc V:=do
 let e<-op' (elT P t)
 ck (Nat.ble 1 (uf P e))
 ck (Nat.beq ps.length n)
 ck (Nat.ble (n * uf P e) 16777216)
 let _<-op' (Sl P e)
 let rows<-zG P e tm 0 ps
 new dst (.arr false (Iy P e) 0 (uf P e) rows)
 pure (.own dst 0)
def ajl(P:Program)(src dst:TypeId)(x:V):Acc V:=
 match P.underlying src,P.underlying dst with
 |some (.int _),some (.int k)=>match x with
  | .d (.int _ n)=> .ret (.d (.int k (k.wrap n)))
  |_=> .fail
 |some .string,some .string=>match x with
  | .d (.str s)=> .ret (.d (.str s))
  |_=> .fail
 |some (.slice e),some .string=>do
  ck (match P.underlying e with|some (.int .u8)=>true|_=>false)
  let(s,rows)<-seen x
  ck (Nat.beq s 1)
  let b<-op' (bytesOf rows)
  pure (.d (.str b))
 |_,_=> .fail
def vK:Nat:=100000
def atu(r:Nat)(l:List Nat):List Nat:=bif mem? r l then l else l++[r]
mutual
def apX(I:List Nat):V->List Nat
 | .ptr r _=>atu r I
 | .clo _ a b=>amu (amu I a) b
 | .agg cs=>amu I cs
 | .Pn v=>apX I v
 |_=>I
def amu(I:List Nat):List V->List Nat
 |[]=>I
 |v::vs=>amu (apX I v) vs
end
def Ox(A:Adv)(f i:Nat):Nat:=bif mem? i (A.move f) then 1 else bif mem? i (A.look f) then 4 else 0
def U5(A:Adv)(f:Nat):Nat->List Nat->List V->List Nat
 |_,I,[]=>I
 |i,I,v::vs=>U5 A f (i+1) (match Ox A f i,v with
  |4,_=>I
  |_,v=>apX I v) vs
def idxOf(r:Nat):Nat->List Nat->Option Nat
 |_,[]=>none
 |i,j::l=>bif Nat.beq r j then some i else idxOf r (i+1) l
def XL(A:Adv)(f:Nat):Nat->List V->Acc (List V)
 |_,[]=>pure []
 |i,v::vs=>do
  let v<-(match Ox A f i with
   |1=>do
    let x<-toD v
    pure (.d x)
   |_=>pure v:Acc V)
  let vs<-XL A f (i+1) vs
  pure (v::vs)
mutual
def lend(imp:List Nat):V->Acc (V×List Nat)
 | .d x=>pure (.d (roD x),[])
 | .nil s=>pure (.d (.sl false s []),[])
 | .own r ver=>do
  match<-rd r with
  |some (.arr fz fl vC s rows)=>do
   ck (Nat.beq ver vC)
   ck (!(mem? r imp))
   pure (.d (.sl false s (vw fl rows)),bif fz then[] else[r])
  |_=> .fail
 | .ptr r off=>do
  let i<-op' (idxOf r 0 imp)
  pure (.ptr (vK+i) off,[])
 | .EU row off=>pure (.EU row off,[])
 | .Pn v=>do
  let(v,l)<-lend imp v
  pure (.Pn v,l)
 | .clo f a b=>do
  let(a,l)<-ajm imp a
  let(b,l')<-ajm imp b
  pure (.clo f a b,l++l')
 | .agg cs=>do
  let(a,l)<-ajm imp cs
  pure (.agg a,l)
 | .KX ..=> .fail
 | .MF _=> .fail
 | .undef=> .fail
def ajm(imp:List Nat):List V->Acc (List V×List Nat)
 |[]=>pure ([],[])
 |v::vs=>do
  let(v,l)<-lend imp v
  let(vs,l')<-ajm imp vs
  pure (v::vs,l++l')
end
def XM(imp:List Nat):List V->Acc (Row×List Nat)
 |[]=>pure ([],[])
 |v::vs=>do
  let(v,l)<-lend imp v
  match v with
  | .d x=>do
   let(r,l')<-XM imp vs
   pure (x::r,l++l')
  |_=> .fail
def aiT(imp:List Nat)(v:V):Acc (V×List Nat):=
 match v with
 | .ptr r off=>do
  match<-rd r with
  |some (.box _ cs)=>do
   ck (!(mem? r imp))
   let(row,l)<-XM imp cs
   pure (.EU row off,r::l)
  |_=> .fail
 | .EU row off=>pure (.EU row off,[])
 |_=> .fail
def XO(A:Adv)(imp:List Nat)(f:Nat):Nat->List V->Acc (List V×List Nat)
 |_,[]=>pure ([],[])
 |i,v::vs=>do
  let(v,l)<-(match Ox A f i with
   |1=>pure (v,[])
   |4=>aiT imp v
   |_=>lend imp v:Acc (V×List Nat))
  let(vs,l')<-XO A imp f (i+1) vs
  pure (v::vs,l++l')
def ayo(imp:List Nat)(own:Bool)(v:V):Acc V:=
 match v with
 | .d x=>pure (.d (roD x))
 | .nil s=>pure (.d (.sl own s []))
 | .own r ver=>do
  match<-rd r with
  |some (.arr fz fl vC s rows)=>do
   ck (Nat.beq ver vC)
   ck (!(mem? r imp))
   match own with
   |true=>do
    ck (!fz)
    ck (avf fl rows)
    wr r .dead
    pure (.d (.sl true s rows))
   |false=>do
    wr r (.arr true fl ver s rows)
    pure (.d (.sl false s (vw fl rows)))
  |_=> .fail
 |_=> .fail
def Z4(imp own:List Nat):Nat->List V->Acc (List V)
 |_,[]=>pure []
 |j,v::vs=>do
  let v<-ayo imp (mem? j own) v
  let vs<-Z4 imp own (j+1) vs
  pure (v::vs)
def avg(A:Adv)(imp:List Nat)(c:Option Cell):Acc Cell:=
 match c with
 |some (.box t cs)=>do
  let cs<-Z4 imp (A.aJs t) 0 cs
  pure (.box t cs)
 |_=> .fail
def Z5(A:Adv)(imp:List Nat):List Nat->Acc (List Cell)
 |[]=>pure []
 |r::rs=>do
  let c<-rd r
  let c<-avg A imp c
  let cs<-Z5 A imp rs
  pure (c::cs)
def keyOf(r j dst:Nat):Nat:=1000000+(r * 100+j) * 10000+dst
def vD:V->D
 | .d x=>x
 |_=> .ZL
def ayp(cs:List Cell)(i:Nat):Row:=match cs[i]? with|some (.box _ vs)=>vs.map vD|_=>[]
def ayq(cs:List Cell)(i n:Nat):Bool:=match cs[i]? with|some (.box _ vs)=>Nat.beq vs.length n|_=>false
def ayr(f:TypeId->List Bool):List TypeId->List Bool
 |[]=>[]
 |t::ts=>f t++ayr f ts
def fls(P:Program):Nat->TypeId->List Bool
 |0,_=>[]
 |n+1,t=>match P.underlying t with
  |some (.slice e)=>[Iy P e]
  |some (.struct fs)=>ayr (fls P n) (fs.toList.map (·.type))
  |_=>[false]
def TV(own fl:Bool)(key:Nat)(row:Row)(j:Nat):CT->Acc V
 | .int k=> .opt (jD k row j) λn=> .ret (.d (.int k n))
 | .bool=> .opt (amr row j) λn=> .ret (.d (.bool n))
 | .str=> .opt (cStr row j) λn=> .ret (.d (.str n))
 | .sl s=>match own with
  |true=> .opt (ayl s row j) λrows=>do
   new key (.arr false fl 0 s rows)
   pure (.own key 0)
  |false=> .opt (cSl s row j) λrows=> .ret (.d (.sl false s (vw fl rows)))
 | .other=> .fail
def afc(own:List Nat)(r dst:Nat)(row:Row):Nat->List CT->List Bool->Acc (List V)
 |_,[],_=>pure []
 |j,ct::l,fs=>do
  let v<-TV (mem? j own) (fs.headD false) (keyOf r j dst) row j ct
  let vs<-afc own r dst row (j+1) l fs.tail
  pure (v::vs)
def aht(X:Ctx)(dst:Nat)(out:List Cell):Nat->List Nat->Acc Unit
 |_,[]=>pure ()
 |i,r::rs=>do
  match<-rd r with
  |some (.box t _)=>do
   ck (ayq out i (QZ X.P t).length)
   let vs<-afc (X.U4.aJs t) r dst (ayp out i) 0 (QZ X.P t) (fls X.P 8 t)
   wr r (.box t vs)
  |_=> .fail
  aht X dst out (i+1) rs
def atv(dst c:Nat):Nat:=1000000000000000+dst * 1000+c
def XP(att:List Nat)(dst ri:Nat)(row:Row):Nat->List CT->List Bool->Acc (List V)
 |_,[],_=>pure []
 |j,ct::l,fs=>do
  let v<-TV (mem? (ri * 20+j) att) (fs.headD false) (atv dst (ri * 20+j)) row j ct
  let vs<-XP att dst ri row (j+1) l fs.tail
  pure (v::vs)
def atw(X:Ctx)(att:List Nat)(dst ri:Nat)(row:Row)(t:TypeId):Acc V:=match aoq X.P t with
 |some T=>do
  ck (Nat.beq row.length (QZ X.P T).length)
  let cs<-XP [] dst ri row 0 (QZ X.P T) (fls X.P 8 T)
  new (atv dst (ri * 20+19)) (.box T cs)
  pure (.ptr (atv dst (ri * 20+19)) 0)
 |none=>do
  ck (Nat.beq row.length (QZ X.P t).length)
  let cs<-XP att dst ri row 0 (QZ X.P t) (fls X.P 8 t)
  op' (Po X.P t cs)
def ajn(res:List Row)(ri:Nat):Row:=match res[ri]? with|some r=>r|none=>[]
def aeb(X:Ctx)(att:List Nat)(dst:Nat)(res:List Row):Nat->List TypeId->Acc (List V)
 |_,[]=>pure []
 |ri,t::ts=>do
  let v<-atw X att dst ri (ajn res ri) t
  let vs<-aeb X att dst res (ri+1) ts
  pure (v::vs)
def atx(att:List Nat)(ri:Nat):Nat->List CT->Bool
 |_,[]=>true
 |j,.sl _::l=>mem? (ri * 20+j) att && atx att ri (j+1) l
 |j,_::l=>atx att ri (j+1) l
def abV(P:Program)(att:List Nat):Nat->List TypeId->Bool
 |_,[]=>true
 |ri,t::ts=>atx att ri 0 (QZ P t) && abV P att (ri+1) ts
def freeze:List Nat->Acc Unit
 |[]=>pure ()
 |r::rs=>do
  match<-rd r with
  |some (.arr _ fl ver s rows)=>wr r (.arr true fl ver s rows)
  |_=> .fail
  freeze rs
def afd(X:Ctx)(K:mG)(fn dst f:Nat)(args:List V):Acc V:=do
 let g<-op' X.P.funcs[f]?
 ck (g.body.isSome && !(g.name == "runtime.NumGoroutine"))
 let imp:=U5 X.U4 f 0 [] args
 let args<-XL X.U4 f 0 args
 let cells<-Z5 X.U4 imp imp
 let(args,TW)<-XO X.U4 imp f 0 args
 ck (TW.all λr=> !(mem? r imp))
 let out<-op' (K f args cells)
 ck (Nat.beq out.1.length g.resultTypes.size)
 let need:= !(TW.isEmpty) &&(abV X.P (X.U4.att fn dst) 0 g.resultTypes.toList && imp.isEmpty)
 ck (bif need then out.1.all gI else true)
 freeze (bif need then[] else TW)
 aht X dst out.2 0 imp
 let vs<-aeb X (X.U4.att fn dst) dst out.1 0 g.resultTypes.toList
 match vs with
 |[v]=>pure v
 |vs=>pure (.MF vs)
def aJv(P:Program)(ts:List TypeId)(x:V):Bool:=match ts with
 |[t]=>(match x with
  | .d (.str _)=>(match P.underlying t with|some .string=>true|_=>false)
  |_=>(match P.underlying t with|some (.slice _)=>true|_=>false))
 |_=>false
def yK(P:Program)(tm:nK):List Operand->List TypeId->List V
 |[],_=>[]
 |x::xs,ts=>ev P tm (ts.headD 0) x::yK P tm xs ts.tail
def apY:List V->Acc (List V)
 |[]=>pure []
 |v::vs=>do
  let v<-(match v with
   | .ptr r off=>do
    match<-rd r with
    |some (.Dl _ x)=>do
     ck (Nat.beq off 0)
     pure (.Pn x)
    |_=>pure (.ptr r off)
   |v=>pure v:Acc V)
  let vs<-apY vs
  pure (v::vs)
def vop(X:Ctx)(K:mG)(fn:Nat)(tm:nK)(o:Oper):Acc V:=
 let P:=X.P
 let dst:=o.dst.getD 0
 match o.op with
 | .move x=>pure (ev P tm o.type x)
 | .assign x=>pure (ev P tm o.type x)
 | .pick c x y=>aym (ev P tm o.type c) (ev P tm o.type x) (ev P tm o.type y)
 | .alloc T=>do
  let z<-op' (Sl P T)
  new dst (.box T z)
  pure (.ptr dst 0)
 | .box T x=>do
  let v:=ev P tm T x
  ck (Nat.beq v.cells.length (uf P T))
  ck (v.cells.all one)
  new dst (.box T v.cells)
  pure (.ptr dst 0)
 | .build T ps=>aou P T tm ps.toList
 | .buildSlice t n ps=>WE P dst t n tm ps.toList
 | .load t a=>ayn P t (evG X tm 0 a)
 | .store t a x=>do atm P t (ev P tm 0 a) (ev P tm t x);pure .undef
 | .nilCheck x=>match evG X tm o.type x with
  | .ptr r off=>pure (.ptr r off)
  | .EU row off=>pure (.EU row off)
  | .KX r ver i off=>pure (.KX r ver i off)
  |_=> .fail
 | .binOp op t x y t'=>aF8 P t op (ev P tm t x) (ev P tm t' y)
 | .unOp op t x=>un op (ev P tm t x)
 | .convert s d x=>ajl P s d (ev P tm s x)
 | .makeFunc (.func f) first caps=>do
  let cs<-apY (yK P tm caps.toList [])
  pure (.clo f (yK P tm first.toList []) cs)
 | .makeSlice t l c=>aea P dst t (ev P tm o.type l) (ev P tm o.type c)
 | .slice t x lo hi none=>match X.U4.trunc fn dst,lo,hi with
  |true,none,hi=>atq P t (ev P tm t x) (hi.map (ev P tm 3))
  |true,some lo,none=>aE1 P t (ev P tm t x) (ev P tm 3 lo)
  |_,lo,hi=>aos P t (evG X tm t x) (lo.map (ev P tm 3)) (hi.map (ev P tm 3))
 | .fieldAddr T x f=>ad6 P T (ev P tm 0 x) f
 | .field T x f=>atn P T (ev P tm T x) f
 | .indexAddr t x i=>ad8 P t (evG X tm t x) (ev P tm 3 i)
 | .index t x i=>ato P t (ev P tm t x) (ev P tm 3 i)
 | .extract x i=>match ev P tm 0 x with
  | .MF vs=>op' vs[i]?
  |_=> .fail
 | .call {callee:=.value f,args,argTypes}=>match ev P tm 0 f with
  | .clo g first caps=>afd X K fn dst g (first++yK P tm args.toList argTypes.toList++caps)
  |_=> .fail
 | .call {callee:=.builtin .len,args,argTypes}=>match yK P tm args.toList argTypes.toList with
  |[x]=>do
   ck (aJv P argTypes.toList x)
   lenV x
  |_=> .fail
 | .call {callee:=.builtin .append,args,argTypes}=>match yK P tm args.toList argTypes.toList,argTypes.toList with
  |[x,y],[t,t']=>aor P dst t t' x y
  |_,_=> .fail
 | .call {callee:=.builtin .max,args,argTypes}=>match yK P tm args.toList argTypes.toList with
  |[.d (.int k x),.d (.int _ y)]=>pure (.d (.int k (bif decide (x<y) then y else x)))
  |_=> .fail
 | .call {callee:=.builtin .min,args,argTypes}=>match yK P tm args.toList argTypes.toList with
  |[.d (.int k x),.d (.int _ y)]=>pure (.d (.int k (bif decide (y<x) then y else x)))
  |_=> .fail
 |_=> .fail
mutual
def refs:V->List Nat
 | .own r _=>[r]
 | .ptr r _=>[r]
 | .KX r _ _ _=>[r]
 | .clo _ a b=>Sr a++Sr b
 | .agg cs=>Sr cs
 | .MF vs=>Sr vs
 | .Pn v=>refs v
 |_=>[]
def Sr:List V->List Nat
 |[]=>[]
 |v::vs=>refs v++Sr vs
end
def ajo(m:Mem)(r:Nat):List Nat:=match get r m with
 |some (.box _ cs)=>Sr cs
 |some (.Dl _ v)=>refs v
 |_=>[]
def Ux(k:Nat):Bool:=Nat.ble vK k && Nat.blt k (2 * vK)
def afe:List Nat->List Nat->List Nat
 |acc,[]=>acc
 |acc,k::ks=>afe (bif mem? k acc then acc else acc++[k]) ks
def aBT(tm:nK)(m:Mem):List Nat:=
 let l0:=afe [] (tm.flatMap λx=>refs x.2)
 let l1:=afe l0 (l0.flatMap (ajo m))
 let l2:=afe l1 (l1.flatMap (ajo m))
 (afe l2 (m.map (·.1))).filter λk=> !(Ux k)
def names:List Nat:=[nat_lit 300000,nat_lit 300001,nat_lit 300002,nat_lit 300003,nat_lit 300004,nat_lit 300005,nat_lit 300006,nat_lit 300007,nat_lit 300008,nat_lit 300009,nat_lit 300010,nat_lit 300011,nat_lit 300012,nat_lit 300013,nat_lit 300014,nat_lit 300015,nat_lit 300016,nat_lit 300017,nat_lit 300018,nat_lit 300019,nat_lit 300020,nat_lit 300021,nat_lit 300022,nat_lit 300023,nat_lit 300024,nat_lit 300025,nat_lit 300026,nat_lit 300027,nat_lit 300028,nat_lit 300029,nat_lit 300030,nat_lit 300031,nat_lit 300032,nat_lit 300033,nat_lit 300034,nat_lit 300035,nat_lit 300036,nat_lit 300037,nat_lit 300038,nat_lit 300039,nat_lit 300040,nat_lit 300041,nat_lit 300042,nat_lit 300043,nat_lit 300044,nat_lit 300045,nat_lit 300046,nat_lit 300047,nat_lit 300048,nat_lit 300049,nat_lit 300050,nat_lit 300051,nat_lit 300052,nat_lit 300053,nat_lit 300054,nat_lit 300055,nat_lit 300056,nat_lit 300057,nat_lit 300058,nat_lit 300059,nat_lit 300060,nat_lit 300061,nat_lit 300062,nat_lit 300063]
def aBU:List Nat->List Nat->List (Nat×Nat)
 |n::ns,k::l=>(k,n)::aBU ns l
 |_,_=>[]
def ren(L:List (Nat×Nat))(k:Nat):Nat:=match get k L with
 |some j=>j
 |none=>k
mutual
def Uy(L:List (Nat×Nat)):V->V
 | .d x=> .d x
 | .nil s=> .nil s
 | .own r ver=> .own (ren L r) ver
 | .ptr r off=> .ptr (ren L r) off
 | .KX r ver i off=> .KX (ren L r) ver i off
 | .EU row off=> .EU row off
 | .Pn v=> .Pn (Uy L v)
 | .clo f a b=> .clo f (Z7 L a) (Z7 L b)
 | .agg cs=> .agg (Z7 L cs)
 | .MF vs=> .MF (Z7 L vs)
 | .undef=> .undef
def Z7(L:List (Nat×Nat)):List V->List V
 |[]=>[]
 |v::vs=>Uy L v::Z7 L vs
end
def ajp(L:List (Nat×Nat)):Cell->Cell
 | .box t cs=> .box t (Z7 L cs)
 | .arr fz fl ver s rows=> .arr fz fl ver s rows
 | .dead=> .dead
 | .Dl t v=> .Dl t (Uy L v)
def Vy(L:List (Nat×Nat)):Mem->Mem
 |[]=>[]
 |(k,c)::m=>put (ren L k) (ajp L c) (Vy L m)
def ajq(L:List (Nat×Nat)):nK->nK
 |[]=>[]
 |(t,v)::tm=>(t,Uy L v)::ajq L tm
def nodupB:List Nat->Bool
 |[]=>true
 |k::l=> !(mem? k l) && nodupB l
def aff(L:List (Nat×Nat))(ks:List Nat):Bool:=nodupB (ks.map (ren L)) && ks.all λk=>bif Ux k then Nat.beq (ren L k) k else true
def aov(L:List (Nat×Nat))(S:St):St:=match aff L (S.mem.map (·.1)) with
 |true=>⟨ajq L S.tm,Vy L S.mem⟩
 |false=>S
def canon(S:St):St:=match aBT S.tm S.mem with
 |[]=>S
 |k::o=>aov (aBU names (k::o)) S
mutual
def YJ(m:Mem):V->V
 | .d x=> .d x
 | .nil s=> .nil s
 | .own r ver=>match get r m with
  |some (.arr _ _ vC _ _)=>bif Nat.beq ver vC then .own r 0 else .undef
  |_=> .undef
 | .ptr r off=>match get r m with
  |some (.box _ _)=> .ptr r off
  |some (.Dl _ _)=> .ptr r off
  |_=> .undef
 | .KX r ver i off=>match get r m with
  |some (.arr _ _ vC _ _)=>bif Nat.beq ver vC then .KX r 0 i off else .undef
  |_=> .undef
 | .EU row off=> .EU row off
 | .Pn v=> .Pn (YJ m v)
 | .clo f a b=> .clo f (acA m a) (acA m b)
 | .agg cs=> .agg (acA m cs)
 | .MF vs=> .MF (acA m vs)
 | .undef=> .undef
def acA(m:Mem):List V->List V
 |[]=>[]
 |v::vs=>YJ m v::acA m vs
end
def KY(m:Mem):Cell->Cell
 | .box t cs=> .box t (acA m cs)
 | .arr fz fl _ s rows=> .arr fz fl 0 s rows
 | .dead=> .dead
 | .Dl t v=> .Dl t (YJ m v)
def aec(m:Mem)(tm:nK):List Nat->nK
 |[]=>[]
 |t::ts=>match get t tm with
  |some v=>(t,YJ m v)::aec m tm ts
  |none=>aec m tm ts
def aed:List Nat->List Nat->List Nat
 |[],l=>l
 |a::as,l=>bif mem? a l then aed as l else aed as (a::l)
def reach(m:Mem):Nat->List Nat->List Nat
 |0,l=>l
 |n+1,l=>reach m n (aed (l.flatMap (ajo m)) l)
def roots(tm:nK)(m:Mem):List Nat:=
 aed (tm.flatMap λx=>refs x.2) ((m.map (·.1)).filter Ux)
def zk(all:Mem)(R:List Nat):Mem->Mem
 |[]=>[]
 |(k,c)::m=>match c with
  | .dead=>zk all R m
  |c=>bif mem? k R then(k,KY all c)::zk all R m else zk all R m
def closed(R:List Nat)(m:Mem):Bool:=m.all λx=>match x.2 with
 | .box _ cs=>(Sr cs).all λr=>mem? r R
 | .Dl _ v=>(refs v).all λr=>mem? r R
 |_=>true
def aJw(m:Mem):Bool:=m.all λx=>match x.2 with
 | .arr _ _ ver _ _=>bif Ux x.1 then Nat.beq ver 0 else true
 | .dead=> !(Ux x.1)
 |_=>true
def sortedK:Mem->Bool
 |[]=>true
 |(k,_)::m=>match m with
  |[]=>true
  |(j,_)::_=>Nat.blt k j && sortedK m
def aee(ts:List Nat)(S:St):Option St:=
 let tm:=aec S.mem S.tm ts
 let R:=reach S.mem 3 (roots tm S.mem)
 let m:=zk S.mem R S.mem
 bif closed R m &&(aJw S.mem && sortedK S.mem) then some ⟨tm,m⟩ else none
def prune(ts:List Nat)(S:St):Option St:=match aee ts S with
 |some S'=>some (canon S')
 |none=>none
def Hq(ops:Array Oper)(tm:nK)(o:Oper):Option (Bool×nK):=
 match o.guard with
 |none=>some (true,tm)
 |some (j,want)=>match ops[j]? with
  |some oj=>match oj.dst with
   |some d=>match acd d tm with
    | .d (.bool b)=>match b with
     |true=>some (want,put d (.d (.bool true)) tm)
     |false=>some (!want,put d (.d (.bool false)) tm)
    | .MF vs=>match vs with
     |[]=>some (false,put d (.MF []) tm)
     |_::_=>none
    |_=>none
   |none=>none
  |none=>none
def Z8(nt:Nat):Option Nat->Bool
 |some d=>Nat.blt d nt
 |none=>true
def ZM(P:Program)(fn:Nat):Nat:=match P.funcs[fn]? with|some g=>g.ntmps|none=>0
def ahu(nt:Nat)(dst:Option Nat)(tm:nK):nK:=bif Z8 nt dst then alU dst (.MF []) tm else aBR dst tm
def FH(X:Ctx)(K:mG)(fn:Nat)(ops:Array Oper)(i:Nat)(S:St):Option (St×Log):=
 match ops[i]? with
 |none=>none
 |some o=>match Hq ops S.tm o with
  |none=>none
  |some (false,tm)=>some (⟨ahu (ZM X.P fn) o.dst tm,S.mem⟩,.none)
  |some (true,tm)=>match(vop X K fn tm o).run S.mem .none with
   |none=>none
   |some (v,m,l)=>bif Z8 (ZM X.P fn) o.dst then some (⟨alU o.dst v tm,m⟩,l) else none
def Oy(X:Ctx)(K:mG)(fn:Nat)(ops:Array Oper):List Nat->St->List (Nat×Log)->Option (St×List (Nat×Log))
 |[],S,L=>some (S,L)
 |i::is,S,L=>match FH X K fn ops i S with
  |none=>none
  |some (S',l)=>Oy X K fn ops is S' ((i,l)::L)
def aBV(a b:List Nat):Bool:=a.all λk=> !(mem? k b)
def Log.apart(a b:Log):Bool:=aBV a.w b.r && aBV a.w b.w && aBV a.r b.w
def ordered(bef:Array Nat)(i j:Nat):Bool:=(bef.getD i 0).testBit j
def Z9(ops:Array Oper)(bef:Array Nat):List (Nat×Log)->Bool
 |[]=>true
 |(i,l)::L=>(L.all fun(j,l')=>ordered bef i j||(l.apart l' &&(match ops[i]?,ops[j]? with
   |some a,some b=>a.apart ops b
   |_,_=>false))) && Z9 ops bef L
def aac:Nat->List Oper->Bool
 |_,[]=>true
 |i,o::l=>(o.after.toList.all λe=> !(Region.binds .any e)||Nat.blt e.on i) && aac (i+1) l
def backOk(ops:Array Oper):Bool:=aac 0 ops.toList
def KZ(X:Ctx)(K:mG)(fn id:Nat)(ops:Array Oper)(draw:Bool)(S:St):Option (St×List (Nat×Log)):=Oy X K fn ops (List.range ops.size) S []
def region(X:Ctx)(K:mG)(fn id:Nat)(ops:Array Oper)(draw:Bool)(S:St):Option St:=
 match KZ X K fn id ops draw S with
 |none=>none
 |some (S',L)=>bif(match draw with|false=>true|true=>X.P.follows .mixedOrders &&(backOk ops && Z9 ops (Region.before ops) L)) then prune (X.U4.keep fn id) S' else none
inductive Ex where
 |normal
 |exit (id:Nat)
 |ret
noncomputable def lim{α:Type}(f:Nat->Option α):Option α:=
 open Classical in if h:∃a n,f n=some a then some (Classical.choose h) else none
def iter(b:St->Option (Ex×St)):Nat->St->Option (Ex×St)
 |0,_=>none
 |n+1,S=>match b S with
  |some (.normal,S')=>iter b n S'
  |r=>r
noncomputable def WG(b:St->Option (Ex×St))(S:St):Option (Ex×St):=lim λn=>iter b n S
def acB(P:Program)(tm:nK)(c:Operand):Option Bool:=match ev P tm 0 c with
 | .d (.bool b)=>some b
 |_=>none
noncomputable def den(X:Ctx)(K:mG)(fn:Nat):Code->St->Option (Ex×St)
 | .skip,S=>some (.normal,S)
 | .region id ops draw,S=>match region X K fn id ops draw S with
  |some S'=>some (.normal,S')
  |none=>none
 | .seq a b,S=>match den X K fn a S with
  |some (.normal,S')=>den X K fn b S'
  |r=>r
 | .cond c a b,S=>match acB X.P S.tm c with
  |some true=>den X K fn a S
  |some false=>den X K fn b S
  |none=>none
 | .block id c,S=>match den X K fn c S with
  |some (.exit j,S')=>bif Nat.beq j id then some (.normal,S') else some (.exit j,S')
  |r=>r
 | .loop c,S=>WG (den X K fn c) S
 | .exit id,S=>some (.exit id,S)
 | .ret,S=>some (.ret,S)
 |_,_=>none
def aty(A:Adv)(f i:Nat)(fl:Bool)(v:V):Acc V:=
 match Ox A f i with
 |1=>(match v with
  | .d (.sl true s rows)=>do
   new i (.arr false fl 0 s rows)
   pure (.own i 0)
  | .d x=>pure (.d (roD x))
  |_=> .fail)
 |_=>pure v
def afg(X:Ctx)(f:Nat):Nat->List TypeId->List V->Acc nK
 |_,_,[]=>pure []
 |i,ts,v::vs=>do
  let v<-aty X.U4 f i ((fls X.P 8 (ts.headD 0)).headD false) v
  let r<-afg X f (i+1) ts.tail vs
  pure ((i,v)::r)
def xu:Nat->List Cell->Mem
 |_,[]=>[]
 |i,c::cs=>(vK+i,c)::xu (i+1) cs
def zl(n:Nat):List Nat:=(List.range n).map (vK+ ·)
def entry(X:Ctx)(f:Nat)(g:Func)(args:List V)(cells:List Cell):Acc nK:=do
 aht X 9999 cells 0 (zl cells.length)
 afg X f 0 g.params.toList args
def ajr(T:TypeId)(v:V):Acc Row:=match v with
 | .ptr r off=>do
  match<-rd r with
  |some (.box T' cs)=>do
   ck (Nat.beq T T' && Nat.beq off 0)
   wr r .dead
   Pq cs
  |_=> .fail
 |_=> .fail
def aow(P:Program)(tm:nK)(r:ResultVar)(t:TypeId):Acc Row:=
 match r with
 | .tmp x=>match aoq P t with
  |some T=>ajr T (acd x tm)
  |none=>match QW P t,acd x tm with
   |true,.agg cs=>Pq cs
   |false,.agg _=> .fail
   |false,v=>Pq [v]
   |true,_=> .fail
 | .cell a T=>match acd a tm with
  | .ptr r 0=>do
   match<-rd r with
   |some (.box _ cs)=>do
    ck (Nat.beq T t && Nat.beq cs.length (uf P T) &&(Uw P T &&(QW P T||Nat.beq cs.length 1)) &&(aoq P t).isNone)
    Pq cs
   |_=> .fail
  |_=> .fail
def abW(P:Program)(tm:nK):List ResultVar->List TypeId->Acc (List Row)
 |[],[]=>pure []
 |r::rs,t::ts=>do
  let row<-aow P tm r t
  let rows<-abW P tm rs ts
  pure (row::rows)
 |_,_=> .fail
def leave(X:Ctx)(g:Func)(n:Nat)(S:St):Option (List Row×List Cell):=
 match(do
  let rows<-abW X.P S.tm g.results.toList g.resultTypes.toList
  let cells<-Z5 X.U4 (zl n) (zl n)
  pure (rows,cells):Acc (List Row×List Cell)).run S.mem .none with
 |some (r,_,_)=>some r
 |none=>none
noncomputable def body(X:Ctx)(K:mG)(f:Nat)(args:List V)(cells:List Cell):Option (List Row×List Cell):=
 match X.P.funcs[f]? with
 |some g=>match g.body with
  |some c=>bif !(Nat.ble cells.length vK && Nat.ble args.length g.ntmps) then none else match(entry X f g args cells).run (xu 0 cells) .none with
   |some (tm,m,_)=>(match den X K f c ⟨tm,m⟩ with
    |some (.normal,S)=>leave X g cells.length S
    |some (.ret,S)=>leave X g cells.length S
    |_=>none)
   |none=>none
  |none=>none
 |none=>none
noncomputable def aad(X:Ctx):Nat->mG
 |0,_,_,_=>none
 |n+1,f,args,cells=>match X.ad5 f with
  |some p=>p args cells
  |none=>body X (aad X n) f args cells
noncomputable def call(X:Ctx):mG:=λf args cells=>lim λn=>aad X n f args cells
abbrev View:=Nat->Nat->Option Value
abbrev Heap:=Nat->Option Obj
def eY(w:World):Heap:=λb=>w.heap[b]?
mutual
def ro(h:View):D->Value->Prop
 | .int k n,v=>v=.int k n
 | .bool b,v=>v=.bool b
 | .str s,v=>v=.string ⟨⟨s⟩⟩
 | .ZL,v=>v=.nilFunc
 | .sl _ s rows,v=>∃a cap,v=.slice a rows.length cap/\rows.length<=cap/\(rows≠[]->∃b o,a=some ⟨b,o,none⟩/\sJ h s rows b o)
def sJ(h:View)(s:Nat):List Row->Nat->Nat->Prop
 |[],_,_=>True
 |r::rs,b,o=>r.length=s/\BL h r b o/\sJ h s rs b (o+s)
def BL(h:View):Row->Nat->Nat->Prop
 |[],_,_=>True
 |x::r,b,o=>(∃v,h b o=some v/\ro h x v)/\BL h r b (o+1)
end
mutual
def ow(H:Heap)(h:View):D->Value->List Nat->Prop
 | .int k n,v,N=>v=.int k n/\N=[]
 | .bool b,v,N=>v=.bool b/\N=[]
 | .str s,v,N=>v=.string ⟨⟨s⟩⟩/\N=[]
 | .ZL,v,N=>v=.nilFunc/\N=[]
 | .sl own s rows,v,N=>match own with
  |false=>N=[]/\ro h (.sl false s rows) v
  |true=>(rows=[]/\v=.slice none 0 0/\N=[])\/
   ∃b cap cs t N',v=.slice (some ⟨b,0,none⟩) rows.length cap/\rows.length<=cap/\H b=some (.cells cs t (0,0))/\cs.size=cap * s/\
    jc H h s rows cs.toList N'/\N=b::N'
def jc(H:Heap)(h:View)(s:Nat):List Row->List Value->List Nat->Prop
 |[],_,N=>N=[]
 |r::rs,cs,N=>r.length=s/\∃N1 N2,N=N1++N2/\jY H h r cs N1/\jc H h s rs (cs.drop s) N2
def jY(H:Heap)(h:View):Row->List Value->List Nat->Prop
 |[],_,N=>N=[]
 |x::r,cs,N=>∃v cs' N1 N2,cs=v::cs'/\N=N1++N2/\ow H h x v N1/\jY H h r cs' N2
end
def jM(h:View):Row->List Value->Prop
 |[],_=>True
 |x::r,cs=>∃v cs',cs=v::cs'/\ro h x v/\jM h r cs'
def jK(h:View)(s:Nat):List Row->List Value->Prop
 |[],_=>True
 |r::rs,cs=>r.length=s/\jM h r cs/\jK h s rs (cs.drop s)
def aef(H:Heap)(h:View)(fl:Bool)(s:Nat)(rows:List Row)(v:Value)(N:List Nat):Prop:=
 (rows=[]/\v=.slice none 0 0/\N=[])\/
 ∃b cap cs t N',v=.slice (some ⟨b,0,none⟩) rows.length cap/\rows.length<=cap/\H b=some (.cells cs t (0,0))/\cs.size=cap * s/\
  (match fl with
   |true=>jK h s rows cs.toList/\N'=[]
   |false=>jc H h s rows cs.toList N')/\N=b::N'
def aeg(g:Value):Prop:=∃a n c,g=.slice a n c
def ays(g:Value):Prop:=∃b o,g=.pointer (some ⟨b,o,none⟩)
mutual
def aZ(μ:Nat->Value)(m:Mem)(h:View):V->Value->Prop
 | .d x,g=>ro h x g
 | .nil _,g=>g=.slice none 0 0
 | .own r v0,g=>aeg g/\match get r m with
  |some (.arr _ _ ver _ _)=>v0<=ver/\(v0=ver->g=μ r)
  |some .dead=>True
  |_=>False
 | .ptr r off,g=>ays g/\match get r m with
  |some (.box _ _)=>∃b,μ r=.pointer (some ⟨b,0,none⟩)/\g=.pointer (some ⟨b,off,none⟩)
  |some (.Dl _ _)=>∃b,μ r=.pointer (some ⟨b,0,none⟩)/\g=.pointer (some ⟨b,off,none⟩)
  |some .dead=>True
  |_=>False
 | .KX r v0 i off,g=>ays g/\match get r m with
  |some (.arr _ _ ver s _)=>v0<=ver/\(v0=ver->∃b n cap,μ r=.slice (some ⟨b,0,none⟩) n cap/\g=.pointer (some ⟨b,i * s+off,none⟩))
  |some .dead=>True
  |_=>False
 | .EU row off,g=>∃b o,g=.pointer (some ⟨b,o+off,none⟩)/\BL h row b o
 | .Pn v,g=>∃b x,g=.pointer (some ⟨b,0,none⟩)/\h b 0=some x/\aZ μ m h v x
 | .clo f first caps,g=>∃a c,g=.func (.func f) a c/\dH μ m h first a.toList/\dH μ m h caps c.toList
 | .agg cs,g=>∃a,g=.agg a/\dH μ m h cs a.toList
 | .MF vs,g=>∃a,g=.tuple a/\dH μ m h vs a.toList
 | .undef,_=>True
def dH(μ:Nat->Value)(m:Mem)(h:View):List V->List Value->Prop
 |[],gs=>gs=[]
 |v::vs,gs=>∃g gs',gs=g::gs'/\aZ μ m h v g/\dH μ m h vs gs'
end
def vM(μ:Nat->Value)(m:Mem)(H:Heap)(h:View)(r:Nat):Cell->List Nat->Prop
 | .box t cs,N=>∃b a,μ r=.pointer (some ⟨b,0,none⟩)/\H b=some (.cells a t (0,0))/\dH μ m h cs a.toList/\N=[b]
 | .arr fz fl _ s rows,N=>match fz with
  |true=>ro h (.sl true s rows) (μ r)/\N=[]
  |false=>aef H h fl s rows (μ r) N
 | .dead,N=>N=[]
 | .Dl _ v,N=>N=[]/\∃b x,μ r=.pointer (some ⟨b,0,none⟩)/\h b 0=some x/\aZ μ m h v x
open Classical in
noncomputable def view(w:World)(U X:Nat->Prop):View:=λb o=>if U b/\¬X b then w.cell? ⟨b,o,none⟩ else none
def excl(F:Nat->List Nat)(E:List Nat):Nat->Prop:=λb=>b∈E\/∃r,b∈F r
structure Keep(M:List Nat)(w w':World):Prop where
 os:w'.os=w.os
 tape:w'.tape=w.tape
 output:w'.output=w.output
 size:w.heap.size<=w'.heap.size
 block:∀b,b<w.heap.size->b ∉ M->w'.heap[b]? =w.heap[b]?
def Keep.refl(M:List Nat)(w:World):Keep M w w:=⟨rfl,rfl,rfl,Nat.le_refl _,λ_ _ _=>rfl⟩
def Keep.trans{M M':List Nat}{a b c:World}(h:Keep M a b)(k:Keep M' b c)(hM:∀x,x∈M'->x∈M\/a.heap.size<=x):Keep M a c:=
 ⟨k.os.trans h.os,k.tape.trans h.tape,k.output.trans h.output,Nat.le_trans h.size k.size,λi hi hm=>(k.block i (Nat.lt_of_lt_of_le hi h.size) (λhx=>(hM i hx).elim hm (λhl=>absurd hi (Nat.not_lt.2 hl)))).trans (h.block i hi hm)⟩
structure MInv(base:Nat)(U:Nat->Prop)(m:Mem)(w:World)(μ:Nat->Value)(F:Nat->List Nat)(E:List Nat)(out:List Nat):Prop where
 cell:∀r c,get r m=some c->r ∉ out->vM μ m (eY w) (view w U (excl F E)) r c (F r)
 dj:∀r r',r≠r'->∀b,b∈F r->b ∉ F r'
 djE:∀r b,b∈F r->b ∉ E
 nd:∀r,(F r).Nodup
 ndE:E.Nodup
 lt:∀b,excl F E b->b<w.heap.size/\base<=b/\U b
 up:∀b,w.heap.size<=b->U b
 bs:base<=w.heap.size
 none_:∀r,get r m=none->F r=[]
 out_:∀r,r∈out->F r=[]
def View.le(h h':View):Prop:=∀b o v,h b o=some v->h' b o=some v
def View.le_refl(h:View):h.le h:=λ_ _ _ x=>x
def View.le.trans'{a b c:View}(h:a.le b)(k:b.le c):a.le c:=λx y v q=>k x y v (h x y v q)
mutual
def La{h h':View}(hl:h.le h'):∀(x:D) (v:Value),ro h x v->ro h' x v
 | .int _ _,_,q=>by simpa[ro] using q
 | .bool _,_,q=>by simpa[ro] using q
 | .str _,_,q=>by simpa[ro] using q
 | .ZL,_,q=>by simpa[ro] using q
 | .sl _ s rows,v,q=>by simp only[ro] at q|-;obtain⟨a,cap,h1,h2,h3⟩:=q;refine⟨a,cap,h1,h2,λhn=> ?_⟩;obtain⟨b,o,h4,h5⟩:=h3 hn;exact⟨b,o,h4,ahv hl s rows b o h5⟩
def ahv{h h':View}(hl:h.le h')(s:Nat):∀(rows:List Row) (b o:Nat),sJ h s rows b o->sJ h' s rows b o
 |[],_,_,_=>by simp[sJ]
 |r::rs,b,o,q=>by simp only[sJ] at q|-;exact⟨q.1,Ri hl r b o q.2.1,ahv hl s rs b (o+s) q.2.2⟩
def Ri{h h':View}(hl:h.le h'):∀(r:Row) (b o:Nat),BL h r b o->BL h' r b o
 |[],_,_,_=>by simp[BL]
 |x::r,b,o,q=>by simp only[BL] at q|-;obtain⟨⟨v,h1,h2⟩,h3⟩:=q;exact⟨⟨v,hl _ _ _ h1,La hl x v h2⟩,Ri hl r b (o+1) h3⟩
end
mutual
def aox{H H':Heap}{h h':View}(hl:h.le h'):∀(x:D) (v:Value) (N:List Nat),(∀b,b∈N->H' b=H b)->ow H h x v N->ow H' h' x v N
 | .int _ _,_,_,_,q=>by simpa[ow] using q
 | .bool _,_,_,_,q=>by simpa[ow] using q
 | .str _,_,_,_,q=>by simpa[ow] using q
 | .ZL,_,_,_,q=>by simpa[ow] using q
 | .sl false s rows,v,N,_,q=>by simp only[ow] at q|-;exact⟨q.1,La hl _ _ q.2⟩
 | .sl true s rows,v,N,hb,q=>by
  simp only[ow] at q|-;rcases q with q|⟨b,cap,cs,t,N',h1,h2,h3,h4,h5,rfl⟩
  ·exact .inl q
  ·exact .inr ⟨b,cap,cs,t,N',h1,h2,by rw[hb b (by simp)];exact h3,h4,JU hl s rows cs.toList N' (λb' hb'=>hb b' (by simp[hb'])) h5,rfl⟩
def JU{H H':Heap}{h h':View}(hl:h.le h')(s:Nat):∀(rows:List Row) (cs:List Value) (N:List Nat),(∀b,b∈N->H' b=H b)->jc H h s rows cs N->jc H' h' s rows cs N
 |[],_,_,_,q=>by simpa[jc] using q
 |r::rs,cs,N,hb,q=>by simp only[jc] at q|-;obtain⟨h1,N1,N2,rfl,h2,h3⟩:=q;exact⟨h1,N1,N2,rfl,Rj hl r cs N1 (λb hx=>hb b (by simp[hx])) h2,JU hl s rs _ N2 (λb hx=>hb b (by simp[hx])) h3⟩
def Rj{H H':Heap}{h h':View}(hl:h.le h'):∀(r:Row) (cs:List Value) (N:List Nat),(∀b,b∈N->H' b=H b)->jY H h r cs N->jY H' h' r cs N
 |[],_,_,_,q=>by simpa[jY] using q
 |x::r,cs,N,hb,q=>by simp only[jY] at q|-;obtain⟨v,cs',N1,N2,rfl,rfl,h2,h3⟩:=q;exact⟨v,cs',N1,N2,rfl,rfl,aox hl x v N1 (λb hx=>hb b (by simp[hx])) h2,Rj hl r cs' N2 (λb hx=>hb b (by simp[hx])) h3⟩
end
def afh{h h':View}(hl:h.le h'):∀(r:Row) (cs:List Value),jM h r cs->jM h' r cs
 |[],_,_=>trivial
 |x::r,cs,⟨v,cs',h1,h2,h3⟩=>⟨v,cs',h1,La hl x v h2,afh hl r cs' h3⟩
def Nj{h h':View}(hl:h.le h')(s:Nat):∀(rows:List Row) (cs:List Value),jK h s rows cs->jK h' s rows cs
 |[],_,_=>trivial
 |r::rs,cs,⟨h1,h2,h3⟩=>⟨h1,afh hl r cs h2,Nj hl s rs _ h3⟩
def XQ{H H':Heap}{h h':View}(hl:h.le h'){fl:Bool}{s:Nat}{rows:List Row}{v:Value}{N:List Nat}(hb:∀b,b∈N->H' b=H b)(q:aef H h fl s rows v N):aef H' h' fl s rows v N:=by
 rcases q with q|⟨b,cap,cs,t,N',h1,h2,h3,h4,h5,rfl⟩
 ·exact .inl q
 ·refine .inr ⟨b,cap,cs,t,N',h1,h2,by rw[hb b (by simp)];exact h3,h4, ?_,rfl⟩;cases fl with
  |true=>exact⟨Nj hl s rows _ h5.1,h5.2⟩
  |false=>exact JU hl s rows _ N' (λb' hb'=>hb b' (by simp[hb'])) h5
def MJ(μ μ':Nat->Value)(r:Nat):Cell->Cell->Prop
 | .box t _,.box t' _=>t'=t/\μ' r=μ r
 | .arr _ fl ver s _,.arr _ fl' vC s' _=>ver<=vC/\fl'=fl/\(ver=vC->μ' r=μ r/\s'=s)
 |_,.dead=>True
 | .box _ _,.Dl _ _=>μ' r=μ r
 | .Dl _ _,.Dl _ _=>μ' r=μ r
 |_,_=>False
def Jl(μ:Nat->Value)(m:Mem)(μ':Nat->Value)(m':Mem):Prop:=∀r c,get r m=some c->∃c',get r m'=some c'/\MJ μ μ' r c c'
def ahw(μ:Nat->Value)(r:Nat)(c:Cell):MJ μ μ r c c:=by cases c<;>simp[MJ]
def vN(μ:Nat->Value)(m:Mem):Jl μ m μ m:=λr c h=>⟨c,h,ahw μ r c⟩
def yL{μ1 μ2 μ3:Nat->Value}{m1 m2 m3:Mem}(h:Jl μ1 m1 μ2 m2)(k:Jl μ2 m2 μ3 m3):Jl μ1 m1 μ3 m3:=by
 intro r c hc;obtain⟨c',h1,h2⟩:=h r c hc;obtain⟨c'',k1,k2⟩:=k r c' h1;refine⟨c'',k1, ?_⟩;cases c<;>cases c'<;>cases c''<;>simp_all [MJ]
 ·rename_i ver s _ _ _ vC s' _ _ _ aJx s'' _;refine⟨ak,λe=> ?_⟩;have e1:ver=vC:=ak;have e2:vC=aJx:=ak;exact⟨(k2.2.2 e2).1.trans (h2.2.2 e1).1,(k2.2.2 e2).2.trans (h2.2.2 e1).2⟩
mutual
def Dv{μ μ':Nat->Value}{m m':Mem}{h h':View}(hm:Jl μ m μ' m')(hl:h.le h'):∀(v:V) (g:Value),aZ μ m h v g->aZ μ' m' h' v g
 | .d x,g,q=>by simp only[aZ] at q|-;exact La hl x g q
 | .nil _,_,q=>by simpa[aZ] using q
 | .own r v0,g,q=>by
  simp only[aZ] at q|-;refine⟨q.1, ?_⟩;replace q:=q.2;cases hc:get r m with
  |none=>simp[hc] at q
  |some c=>
   obtain⟨c',h1,h2⟩:=hm r c hc;rw[h1];cases c<;>cases c'<;>simp_all [MJ]
   ·rename_i ver s _ _ _ vC s' _;refine⟨ak,λe=> ?_⟩;have e1:ver=vC:=ak;rw[(h2.2.2 e1).1];exact q.2 ak
 | .ptr r off,g,q=>by
  simp only[aZ] at q|-;refine⟨q.1, ?_⟩;replace q:=q.2;cases hc:get r m with
  |none=>simp[hc] at q
  |some c=>obtain⟨c',h1,h2⟩:=hm r c hc;rw[h1];cases c<;>cases c'<;>simp_all [MJ]
 | .KX r v0 i off,g,q=>by
  simp only[aZ] at q|-;refine⟨q.1, ?_⟩;replace q:=q.2;cases hc:get r m with
  |none=>simp[hc] at q
  |some c=>
   obtain⟨c',h1,h2⟩:=hm r c hc;rw[h1];cases c<;>cases c'<;>simp_all [MJ]
   ·rename_i ver s _ _ _ vC s' _;refine⟨ak,λe=> ?_⟩;have e1:ver=vC:=ak;rw[(h2.2.2 e1).1,(h2.2.2 e1).2];exact q.2 ak
 | .EU row off,g,q=>by simp only[aZ] at q|-;obtain⟨b,o,h1,h2⟩:=q;exact⟨b,o,h1,Ri hl row b o h2⟩
 | .Pn v,g,q=>by simp only[aZ] at q|-;obtain⟨b,x,h1,h2,h3⟩:=q;exact⟨b,x,h1,hl _ _ _ h2,Dv hm hl v x h3⟩
 | .clo f first caps,g,q=>by simp only[aZ] at q|-;obtain⟨a,c,h1,h2,h3⟩:=q;exact⟨a,c,h1,vO hm hl first _ h2,vO hm hl caps _ h3⟩
 | .agg cs,g,q=>by simp only[aZ] at q|-;obtain⟨a,h1,h2⟩:=q;exact⟨a,h1,vO hm hl cs _ h2⟩
 | .MF vs,g,q=>by simp only[aZ] at q|-;obtain⟨a,h1,h2⟩:=q;exact⟨a,h1,vO hm hl vs _ h2⟩
 | .undef,_,_=>by simp[aZ]
def vO{μ μ':Nat->Value}{m m':Mem}{h h':View}(hm:Jl μ m μ' m')(hl:h.le h'):∀(vs:List V) (gs:List Value),dH μ m h vs gs->dH μ' m' h' vs gs
 |[],_,q=>by simpa[dH] using q
 |v::vs,gs,q=>by simp only[dH] at q|-;obtain⟨g,gs',h1,h2,h3⟩:=q;exact⟨g,gs',h1,Dv hm hl v g h2,vO hm hl vs gs' h3⟩
end
def Pv{μ μ':Nat->Value}{m m':Mem}{H H':Heap}{h h':View}(hm:Jl μ m μ' m')(hl:h.le h'){r:Nat}(hr:μ' r=μ r){c:Cell}{N:List Nat}(hb:∀b,b∈N->H' b=H b)
  (q:vM μ m H h r c N):vM μ' m' H' h' r c N:=by
 cases c with
 |box t cs=>obtain⟨b,a,h1,h2,h3,rfl⟩:=q;exact⟨b,a,by rw[hr];exact h1,by rw[hb b (by simp)];exact h2,vO hm hl cs _ h3,rfl⟩
 |arr fz fl ver s rows=>
  cases fz with
  |true=>exact⟨by rw[hr];exact La hl _ _ q.1,q.2⟩
  |false=>simp only[vM] at q|-;rw[hr];exact XQ hl hb q
 |dead=>exact q
 |Dl t v=>obtain⟨h1,b,x,h2,h3,h4⟩:=q;exact⟨h1,b,x,by rw[hr];exact h2,hl _ _ _ h3,Dv hm hl v x h4⟩
def zH{k j:Nat}(h:k≠j):Nat.beq k j=false:=by
 cases hb:Nat.beq k j with
 |false=>rfl
 |true=>exact absurd (I5 hb) h
def kH{α:Type}(k:Nat)(x:α):∀l:List (Nat×α),get k (put k x l)=some x
 |[]=>by simp[put,get]
 |(j,y)::l=>by
  simp only[put]
  by_cases h:k=j
  ·subst h;simp[get]
  ·have hb:Nat.beq k j=false:=zH h;rw[hb];cases hl:Nat.blt k j with
   |true=>simp[get]
   |false=>simp[get,hb,kH k x l]
def oh{α:Type}{k k':Nat}(hk:k≠k')(x:α):∀l:List (Nat×α),get k (put k' x l)=get k l
 |[]=>by have hb:Nat.beq k k'=false:=zH hk;simp[put,get,hb]
 |(j,y)::l=>by
  have hb:Nat.beq k k'=false:=zH hk;simp only[put]
  by_cases h:k'=j
  ·subst h;simp[get,hb]
  ·have hb':Nat.beq k' j=false:=zH h;rw[hb'];cases hl:Nat.blt k' j with
   |true=>simp[get,hb]
   |false=>simp[get,oh hk x l]
def Px{α:Type}(k:Nat):∀l:List (Nat×α),get k (del k l)=none
 |[]=>rfl
 |(j,y)::l=>by
  simp only[del];cases hb:Nat.beq k j with
  |true=>simpa using Px k l
  |false=>simp[get,hb,Px k l]
def Sv{α:Type}{k k':Nat}(hk:k≠k'):∀l:List (Nat×α),get k (del k' l)=get k l
 |[]=>rfl
 |(j,y)::l=>by
  simp only[del];cases hb:Nat.beq k' j with
  |true=>have:k'=j:=I5 hb;subst this;have hb:Nat.beq k k'=false:=zH hk;simp[get,hb,Sv hk l]
  |false=>simp[get,Sv hk l]
def get_put{α:Type}(k k':Nat)(x:α)(l:List (Nat×α)):get k (put k' x l)=if k=k' then some x else get k l:=by
 by_cases h:k=k'
 ·subst h;rw[kH,if_pos rfl]
 ·rw[oh h,if_neg h]
def aBW{α:Type}(k k':Nat)(l:List (Nat×α)):get k (del k' l)=if k=k' then none else get k l:=by
 by_cases h:k=k'
 ·subst h;rw[Px,if_pos rfl]
 ·rw[Sv h,if_neg h]
def Acc.run_bind{α β:Type}(a:Acc α)(f:α->Acc β):∀(m:Mem) (l:Log),(a.bind f).run m l=match a.run m l with|some (x,m',l')=>(f x).run m' l'|none=>none:=by
 induction a with
 |ret a=>intro m l;rfl
 |fail=>intro m l;rfl
 |get k c ih=>intro m l;simp only[Acc.bind,Acc.run];exact ih _ _ _
 |set k x c ih=>intro m l;simp only[Acc.bind,Acc.run];exact ih _ _
 |opt o c ih=>intro m l;simp only[Acc.bind,Acc.run];cases o with|none=>rfl|some b=>exact ih b _ _
 |guard b c ih=>intro m l;simp only[Acc.bind,Acc.run];cases b with|true=>exact ih _ _|false=>rfl
def run_bind{α β:Type}(a:Acc α)(f:α->Acc β)(m:Mem)(l:Log):(a>>=f).run m l=match a.run m l with|some (x,m',l')=>(f x).run m' l'|none=>none:=Acc.run_bind a f m l
def ay{α β:Type}{a:Acc α}{f:α->Acc β}{m:Mem}{l:Log}{y:β}{m':Mem}{l':Log}(h:(a>>=f).run m l=some (y,m',l')):
  ∃x m1 l1,a.run m l=some (x,m1,l1)/\(f x).run m1 l1=some (y,m',l'):=by
 rw[run_bind] at h;cases ha:a.run m l with
 |none=>simp[ha] at h
 |some x=>obtain⟨x,m1,l1⟩:=x;rw[ha] at h;exact⟨x,m1,l1,rfl,h⟩
def run_pure{α:Type}(a:α)(m:Mem)(l:Log):(Pure.pure a:Acc α).run m l=some (a,m,l):=rfl
def Aj(k:Nat)(m:Mem)(l:Log):(rd k).run m l=some (get k m,m,l.rd k):=rfl
def Py(k:Nat)(c:Cell)(m:Mem)(l:Log):(wr k c).run m l=some ((),put k c m,l.wr k):=rfl
def iK{b:Bool}{m:Mem}{l:Log}{x:Unit}{m':Mem}{l':Log}(h:(ck b).run m l=some (x,m',l')):b=true/\m'=m/\l'=l:=by cases b<;>simp[ck,Acc.run] at h;exact⟨rfl,h.1.symm,h.2.symm⟩
def lW{β:Type}{o:Option β}{m:Mem}{l:Log}{x:β}{m':Mem}{l':Log}(h:(op' o).run m l=some (x,m',l')):o=some x/\m'=m/\l'=l:=by cases o<;>simp[op',Acc.run] at h;obtain⟨rfl,rfl,rfl⟩:=h;exact⟨rfl,rfl,rfl⟩
def ajs{α:Type}{m:Mem}{l:Log}{r:α×Mem×Log}(h:(Acc.fail:Acc α).run m l=some r):False:=by simp[Acc.run] at h
def aI{α:Type}{m:Mem}{l:Log}{r:α×Mem×Log}{C:Prop}(h:(Acc.fail:Acc α).run m l=some r):C:=(ajs h).elim
def bck{β:Type}{b:Bool}{f:Unit->Acc β}{m:Mem}{l:Log}{r:β×Mem×Log}(h:(ck b>>=f).run m l=some r):b=true/\(f ()).run m l=some r:=by obtain⟨_,_,_,h1,h2⟩:=ay h;obtain⟨h0,rfl,rfl⟩:=iK h1;exact⟨h0,h2⟩
def bop{α β:Type}{o:Option α}{f:α->Acc β}{m:Mem}{l:Log}{r:β×Mem×Log}(h:(op' o>>=f).run m l=some r):∃x,o=some x/\(f x).run m l=some r:=by obtain⟨x,_,_,h1,h2⟩:=ay h;obtain⟨h0,rfl,rfl⟩:=lW h1;exact⟨x,h0,h2⟩
def ZN{α:Type}{a b:α}{m m':Mem}{l l':Log}(h:(Pure.pure a:Acc α).run m l=some (b,m',l')):a=b/\m=m'/\l=l':=by rw[run_pure] at h;cases h;exact⟨rfl,rfl,rfl⟩
structure ajt(X:Ctx)(h:View):Prop where
 row:∀g row,X.glob g=some row->BL h row g 0
 int:∀g,X.aTz g=true->∃n,h g 0=some (.int .i64 n)
def Rk{X:Ctx}{h h':View}(hl:h.le h')(q:ajt X h):ajt X h':=⟨λg row hg=>Ri hl row g 0 (q.row g row hg),λg hg=>by obtain⟨n,hn⟩:=q.int g hg;exact⟨n,hl _ _ _ hn⟩⟩
def aju{h:View}:∀(row:Row) (b o:Nat),BL h row b o->sJ h 1 (row.map λx=>[x]) b o
 |[],_,_,_=>trivial
 |x::r,b,o,⟨h1,h2⟩=>⟨rfl,⟨h1,trivial⟩,aju r b (o+1) h2⟩
def upF(F:Nat->List Nat)(r:Nat)(N:List Nat):Nat->List Nat:=λk=>if k=r then N else F k
def upM(μ:Nat->Value)(r:Nat)(g:Value):Nat->Value:=λk=>if k=r then g else μ k
@[simp] theorem Iz(F:Nat->List Nat)(r:Nat)(N:List Nat):upF F r N r=N:=by simp[upF]
def lF{F:Nat->List Nat}{r k:Nat}(N:List Nat)(h:k≠r):upF F r N k=F k:=by simp[upF,h]
@[simp] theorem TY(μ:Nat->Value)(r:Nat)(g:Value):upM μ r g r=g:=by simp[upM]
def Rl{μ:Nat->Value}{r k:Nat}(g:Value)(h:k≠r):upM μ r g k=μ k:=by simp[upM,h]
def full(w:World):View:=λb o=>w.cell? ⟨b,o,none⟩
def yA(w:World)(U X:Nat->Prop):(view w U X).le (full w):=by
 intro b o v h;unfold view at h;split at h
 ·exact h
 ·cases h
def WH{w:World}{U U' X X':Nat->Prop}(hU:∀b,U b->U' b)(h:∀b,X' b->X b):(view w U X).le (view w U' X'):=by
 intro b o v hv;unfold view at hv|-;split at hv
 ·rename_i hc;rw[if_pos ⟨hU b hc.1,λhx=>hc.2 (h b hx)⟩];exact hv
 ·cases hv
structure GS where
 μ:Nat->Value
 F:Nat->List Nat
 E:List Nat
 out:List Nat
section
variable (base:Nat) (U:Nat->Prop) (w:World)
def I7(m:Mem)(G:GS):Prop:=MInv base U m w G.μ G.F G.E G.out
noncomputable def Gh(G:GS):View:=view w U (excl G.F G.E)
end
structure GLe(m:Mem)(G:GS)(m':Mem)(G':GS):Prop where
 mem:Jl G.μ m G'.μ m'
 ex:∀b,excl G'.F G'.E b->excl G.F G.E b
def GLe.refl(m:Mem)(G:GS):GLe m G m G:=⟨vN _ _,λ_ h=>h⟩
def GLe.trans{m1 m2 m3:Mem}{G1 G2 G3:GS}(h:GLe m1 G1 m2 G2)(k:GLe m2 G2 m3 G3):GLe m1 G1 m3 G3:=
 ⟨yL h.mem k.mem,λb hb=>h.ex b (k.ex b hb)⟩
def GLe.view{U:Nat->Prop}{w:World}{m m':Mem}{G G':GS}(h:GLe m G m' G'):(Gh U w G).le (Gh U w G'):=WH (λ_ x=>x) h.ex
def GLe.aZ{U:Nat->Prop}{w:World}{m m':Mem}{G G':GS}(h:GLe m G m' G'){v:V}{g:Value}(q:aZ G.μ m (Gh U w G) v g):aZ G'.μ m' (Gh U w G') v g:=
 Dv h.mem h.view v g q
def GLe.dH{U:Nat->Prop}{w:World}{m m':Mem}{G G':GS}(h:GLe m G m' G'){v:List V}{g:List Value}(q:dH G.μ m (Gh U w G) v g):dH G'.μ m' (Gh U w G') v g:=
 vO h.mem h.view v g q
section
variable {base:Nat} {U:Nat->Prop} {w:World} {m:Mem} {G:GS}
def I7.set(hg:I7 base U w m G)(r:Nat)(c':Cell)(μ':Nat->Value)(N E' out':List Nat)
  (hs:(N++E').Nodup) (hsub:∀b,b∈N++E'->b∈G.F r\/b∈G.E) (hle:Jl G.μ m μ' (put r c' m)) (hμ:∀k,k≠r->μ' k=G.μ k)
  (ho:∀k,k≠r->(k∈out'↔k∈G.out)) (hr:r∈out'->N=[])
  (hc:(view w U (excl G.F G.E)).le (view w U (excl (upF G.F r N) E'))->r ∉ out'->vM μ' (put r c' m) (eY w) (view w U (excl (upF G.F r N) E')) r c' N):
  I7 base U w (put r c' m) ⟨μ',upF G.F r N,E',out'⟩/\GLe m G (put r c' m) ⟨μ',upF G.F r N,E',out'⟩:=by
 have hex:∀b,excl (upF G.F r N) E' b->excl G.F G.E b:=by
  rintro b (hb|⟨k,hb⟩)
  ·rcases hsub b (by simp[hb]) with h|h
   ·exact .inr ⟨r,h⟩
   ·exact .inl h
  ·by_cases hk:k=r
   ·subst hk;rw[Iz] at hb;rcases hsub b (by simp[hb]) with h|h
    ·exact .inr ⟨_,h⟩
    ·exact .inl h
   ·rw[lF N hk] at hb;exact .inr ⟨k,hb⟩
 have hv:(view w U (excl G.F G.E)).le (view w U (excl (upF G.F r N) E')):=WH (λ_ x=>x) hex;have hN:=List.nodup_append.1 hs;refine⟨show MInv base U (put r c' m) w μ' (upF G.F r N) E' out' from ?_,⟨hle,hex⟩⟩;refine⟨?_, ?_, ?_, ?_,hN.2.1,λb hb=>hg.lt b (hex b hb),hg.up,hg.bs, ?_, ?_⟩
 ·intro k c hk hko;rw[get_put] at hk
  by_cases e:k=r
  ·subst e;rw[if_pos rfl] at hk;cases hk;rw[Iz];exact hc hv hko
  ·rw[if_neg e] at hk;rw[lF N e];exact Pv hle hv (hμ k e) (λb _=>rfl) (hg.cell k c hk (λh=>hko ((ho k e).2 h)))
 ·intro k k' hne b hb hb'
  by_cases e:k=r
  ·subst e;rw[Iz] at hb;rw[lF N (Ne.symm hne)] at hb';rcases hsub b (by simp[hb]) with h|h
   ·exact hg.dj _ _ hne b h hb'
   ·exact hg.djE _ b hb' h
  ·rw[lF N e] at hb
   by_cases e':k'=r
   ·subst e';rw[Iz] at hb';rcases hsub b (by simp[hb']) with h|h
    ·exact hg.dj _ _ hne b hb h
    ·exact hg.djE _ b hb h
   ·rw[lF N e'] at hb';exact hg.dj _ _ hne b hb hb'
 ·intro k b hb hE
  by_cases e:k=r
  ·subst e;rw[Iz] at hb;exact hN.2.2 b hb b hE rfl
  ·rw[lF N e] at hb;rcases hsub b (by simp[hE]) with h|h
   ·exact hg.dj _ _ e b hb h
   ·exact hg.djE _ b hb h
 ·intro k
  by_cases e:k=r
  ·subst e;rw[Iz];exact hN.1
  ·rw[lF N e];exact hg.nd k
 ·intro k hk;rw[get_put] at hk
  by_cases e:k=r
  ·rw[if_pos e] at hk;cases hk
  ·rw[if_neg e] at hk;rw[lF N e];exact hg.none_ k hk
 ·intro k hk
  by_cases e:k=r
  ·subst e;rw[Iz];exact hr hk
  ·rw[lF N e];exact hg.out_ k ((ho k e).1 hk)
def I7.less(hg:I7 base U w m G)(E':List Nat)(hn:E'.Nodup)(hs:∀b,b∈E'->b∈G.E):
  I7 base U w m {G with E:=E'}/\GLe m G m {G with E:=E'}:=by
 have hex:∀b,excl G.F E' b->excl G.F G.E b:=by
  rintro b (hb|hb)
  ·exact .inl (hs b hb)
  ·exact .inr hb
 have hv:(view w U (excl G.F G.E)).le (view w U (excl G.F E')):=WH (λ_ x=>x) hex;refine⟨⟨?_,hg.dj,λr b hb hE=>hg.djE r b hb (hs b hE),hg.nd,hn,λb hb=>hg.lt b (hex b hb),hg.up,hg.bs,hg.none_,hg.out_⟩,⟨vN _ _,hex⟩⟩;intro r c hc ho;exact Pv (vN _ _) hv rfl (λ_ _=>rfl) (hg.cell r c hc ho)
def I8{μ μ':Nat->Value}{r:Nat}{c':Cell}(hμ:∀k,k≠r->μ' k=μ k)(h:∀c,get r m=some c->MJ μ μ' r c c'):Jl μ m μ' (put r c' m):=by
 intro k c hk
 by_cases e:k=r
 ·subst e;exact⟨c',kH _ _ _,h c hk⟩
 ·refine⟨c,by rw[oh e];exact hk, ?_⟩;cases c<;>simp[MJ,hμ k e]
def full_cell{b:Nat}{cs:Array Value}{t:TypeId}{fr:Nat×Nat}(h:eY w b=some (.cells cs t fr))(o:Nat):full w b o=cs.toList[o]? :=by simp only[full,World.cell?];unfold eY at h;simp[h]
end
def aeh{h:View}{b:Nat}:∀(r:Row) (o:Nat) (cs:List Value),(∀j v,cs[j]? =some v->h b (o+j)=some v)->jM h r cs->BL h r b o
 |[],_,_,_,_=>by simp[BL]
 |x::r,o,cs,hc,⟨v,cs',e,h1,h2⟩=>by subst e;simp only[BL];refine⟨⟨v,hc 0 v rfl,h1⟩,aeh r (o+1) cs' (λj u hj=> ?_) h2⟩;have:=hc (j+1) u (by simpa using hj);rw[show o+1+j=o+(j+1) from by omega];exact this
def aae{h:View}{b s:Nat}:∀(rs:List Row) (o:Nat) (cs:List Value),(∀j v,cs[j]? =some v->h b (o+j)=some v)->jK h s rs cs->sJ h s rs b o
 |[],_,_,_,_=>by simp[sJ]
 |r::rs,o,cs,hc,⟨h1,h2,h3⟩=>by simp only[sJ];refine⟨h1,aeh r o cs hc h2,aae rs (o+s) (cs.drop s) (λj u hj=> ?_) h3⟩;rw[List.getElem?_drop] at hj;rw[show o+s+j=o+(s+j) from by omega];exact hc _ _ hj
def agA(h:View)(H:Heap)(N:List Nat):Prop:=∀b,b∈N->∀cs t fr,H b=some (.cells cs t fr)->∀(o:Nat) v,cs.toList[o]? =some v->h b o=some v
def agA.sub{h:View}{H:Heap}{N N':List Nat}(q:agA h H N)(hs:∀b,b∈N'->b∈N):agA h H N':=λb hb=>q b (hs b hb)
mutual
def aE2{H:Heap}{h h':View}(hl:h.le h'):∀(x:D) (v:Value) (N:List Nat),agA h' H N->ow H h x v N->ro h' x v
 | .int _ _,_,_,_,q=>by simp only[ow] at q;simpa[ro] using q.1
 | .bool _,_,_,_,q=>by simp only[ow] at q;simpa[ro] using q.1
 | .str _,_,_,_,q=>by simp only[ow] at q;simpa[ro] using q.1
 | .ZL,_,_,_,q=>by simp only[ow] at q;simpa[ro] using q.1
 | .sl false s rows,v,N,_,q=>by simp only[ow] at q;have:=La hl _ _ q.2;simpa[ro] using this
 | .sl true s rows,v,N,hs,q=>by
  simp only[ow] at q;simp only[ro];rcases q with⟨rfl,rfl,rfl⟩|⟨b,cap,cs,t,N',h1,h2,h3,h4,h5,rfl⟩
  ·exact⟨none,0,by simp,by simp,λe=>absurd rfl e⟩
  ·refine⟨_,cap,h1,h2,λ_=>⟨b,0,rfl, ?_⟩⟩;refine aae rows 0 cs.toList (λj v hj=>by rw[Nat.zero_add];exact hs b (by simp) cs t _ h3 j v hj) ?_;exact OU hl s rows cs.toList N' (hs.sub (by simp;exact λ_ hb=> .inr hb)) h5
def OU{H:Heap}{h h':View}(hl:h.le h')(s:Nat):∀(rows:List Row) (cs:List Value) (N:List Nat),agA h' H N->jc H h s rows cs N->jK h' s rows cs
 |[],_,_,_,_=>by simp[jK]
 |r::rs,cs,N,hs,q=>by simp only[jc] at q;obtain⟨h1,N1,N2,rfl,h2,h3⟩:=q;simp only[jK];exact⟨h1,aei hl r cs N1 (hs.sub (by simp;exact λ_ hb=> .inl hb)) h2,OU hl s rs _ N2 (hs.sub (by simp;exact λ_ hb=> .inr hb)) h3⟩
def aei{H:Heap}{h h':View}(hl:h.le h'):∀(r:Row) (cs:List Value) (N:List Nat),agA h' H N->jY H h r cs N->jM h' r cs
 |[],_,_,_,_=>by simp[jM]
 |x::r,cs,N,hs,q=>by simp only[jY] at q;obtain⟨v,cs',N1,N2,rfl,rfl,h1,h2⟩:=q;simp only[jM];exact⟨v,cs',rfl,aE2 hl x v N1 (hs.sub (by simp;exact λ_ hb=> .inl hb)) h1,aei hl r cs' N2 (hs.sub (by simp;exact λ_ hb=> .inr hb)) h2⟩
end
def aoy{H:Heap}{h h':View}(hl:h.le h'){fl:Bool}{s:Nat}{rows:List Row}{v:Value}{N:List Nat}(hs:agA h' H N)(q:aef H h fl s rows v N)(o:Bool):ro h' (.sl o s rows) v:=by
 simp only[ro];rcases q with⟨rfl,rfl,rfl⟩|⟨b,cap,cs,t,N',h1,h2,h3,h4,h5,rfl⟩
 ·exact⟨none,0,by simp,by simp,λe=>absurd rfl e⟩
 ·refine⟨_,cap,h1,h2,λ_=>⟨b,0,rfl, ?_⟩⟩;refine aae rows 0 cs.toList (λj v hj=>by rw[Nat.zero_add];exact hs b (by simp) cs t _ h3 j v hj) ?_;cases fl with
  |true=>exact Nj hl s rows _ h5.1
  |false=>exact OU hl s rows cs.toList N' (hs.sub (by simp;exact λ_ hb=> .inr hb)) h5
def aej{h:View}{o o':Bool}{s:Nat}{rows:List Row}{v:Value}(q:ro h (.sl o s rows) v):ro h (.sl o' s rows) v:=by simpa[ro] using q
def amv{w:World}{N:List Nat}:agA (full w) (eY w) N:=by intro b _ cs t fr hb o v hv;rw[full_cell hb,hv]
def OV{w:World}{U X:Nat->Prop}{N:List Nat}(hU:∀b,b∈N->U b/\¬X b):agA (view w U X) (eY w) N:=by intro b hm cs t fr hb o v hv;unfold view;rw[if_pos (hU b hm)];have:=full_cell hb o;rw[hv] at this;exact this
mutual
def ayt{h:View}:∀(x:D) (v:Value),ro h x v->ro h x.fz v
 | .int _ _,_,q=>by simpa[D.fz] using q
 | .bool _,_,q=>by simpa[D.fz] using q
 | .str _,_,q=>by simpa[D.fz] using q
 | .ZL,_,q=>by simpa[D.fz] using q
 | .sl own s rows,v,q=>by
  simp only[D.fz,ro] at q|-;obtain⟨a,cap,h1,h2,h3⟩:=q;have hlen:(aB rows).length=rows.length:=Xn rows;refine⟨a,cap,by rw[hlen];exact h1,by rw[hlen];exact h2,λhn=> ?_⟩;have hn':rows≠[]:=by intro e;subst e;exact hn rfl
  obtain⟨b,o,h4,h5⟩:=h3 hn';exact⟨b,o,h4,amw s rows b o h5⟩
def Xn:∀rows:List Row,(aB rows).length=rows.length
 |[]=>rfl
 |r::rs=>by simp[aB,Xn rs]
def YK:∀r:Row,(AY r).length=r.length
 |[]=>rfl
 |x::r=>by simp[AY,YK r]
def amw{h:View}(s:Nat):∀(rows:List Row) (b o:Nat),sJ h s rows b o->sJ h s (aB rows) b o
 |[],_,_,_=>by simp[aB,sJ]
 |r::rs,b,o,q=>by simp only[aB,sJ] at q|-;exact⟨by rw[YK];exact q.1,apZ r b o q.2.1,amw s rs b (o+s) q.2.2⟩
def apZ{h:View}:∀(r:Row) (b o:Nat),BL h r b o->BL h (AY r) b o
 |[],_,_,_=>by simp[AY,BL]
 |x::r,b,o,q=>by simp only[AY,BL] at q|-;obtain⟨⟨v,h1,h2⟩,h3⟩:=q;exact⟨⟨v,h1,ayt x v h2⟩,apZ r b (o+1) h3⟩
end
def ajv{h:View}{fl:Bool}{o:Bool}{s:Nat}{rows:List Row}{v:Value}(q:ro h (.sl o s rows) v):ro h (.sl false s (vw fl rows)) v:=by
 unfold vw;cases fl with
 |true=>exact aej q
 |false=>simpa[D.fz] using ayt _ _ q
def ayu{h:View}{x:D}{v:Value}(q:ro h x v):ro h (roD x) v:=by cases x<;>simpa[roD,ro] using q
def ayv{H:Heap}{h:View}{x:D}{v:Value}(q:ro h x v):ow H h (roD x) v []:=by cases x<;>simp[roD,ow,ro] at q|-<;>exact q
def aBX{H:Heap}{h:View}{x:D}{v:Value}(hf:x.flat=true)(q:ro h x v):ow H h x v []:=by cases x<;>simp[D.flat,ow,ro] at hf q|-<;>exact q
def ajw{H:Heap}{h:View}:∀(r:Row) (cs:List Value),(r.all D.flat)=true->jM h r cs->jY H h r cs []
 |[],_,_,_=>by simp[jY]
 |x::r,cs,hf,⟨v,cs',e,h1,h2⟩=>by simp only[List.all_cons,BK] at hf;simp only[jY];exact⟨v,cs',[],[],e,rfl,aBX hf.1 h1,ajw r cs' hf.2 h2⟩
def aaf{H:Heap}{h:View}(s:Nat):∀(rs:List Row) (cs:List Value),aj rs=true->jK h s rs cs->jc H h s rs cs []
 |[],_,_,_=>by simp[jc]
 |r::rs,cs,hf,⟨h1,h2,h3⟩=>by simp only[aj,List.all_cons,BK] at hf;simp only[jc];exact⟨h1,[],[],rfl,ajw r cs hf.1 h2,aaf s rs _ hf.2 h3⟩
def avh{H:Heap}{h:View}{fl:Bool}{s:Nat}{rows:List Row}{v:Value}{N:List Nat}(ho:avf fl rows=true)(q:aef H h fl s rows v N):ow H h (.sl true s rows) v N:=by
 simp only[ow];rcases q with q|⟨b,cap,cs,t,N',h1,h2,h3,h4,h5,rfl⟩
 ·exact .inl q
 ·refine .inr ⟨b,cap,cs,t,N',h1,h2,h3,h4, ?_,rfl⟩;cases fl with
  |true=>obtain⟨h5,rfl⟩:=h5;exact aaf s rows _ (by simpa[avf] using ho) h5
  |false=>exact h5
def aBY{H:Heap}{h:View}{s:Nat}{rows:List Row}{v:Value}{N:List Nat}(q:ow H h (.sl true s rows) v N):aef H h false s rows v N:=by simpa[ow,aef] using q
def atz{H:Heap}{h:View}{s:Nat}{rows:List Row}{v:Value}{N:List Nat}(q:ow H h (.sl true s rows) v N):
  ∃N1 N2,N=N1++N2/\∀h',h.le h'->agA h' H N2->aef H h' true s rows v N1:=by
 simp only[ow] at q;rcases q with⟨rfl,rfl,rfl⟩|⟨b,cap,cs,t,N',h1,h2,h3,h4,h5,rfl⟩
 ·exact⟨[],[],rfl,λ_ _ _=> .inl ⟨rfl,rfl,rfl⟩⟩
 ·exact⟨[b],N',rfl,λh' hl hs=> .inr ⟨b,cap,cs,t,[],h1,h2,h3,h4,⟨OU hl s rows _ N' hs h5,rfl⟩,rfl⟩⟩
section
variable {base:Nat} {U:Nat->Prop} {w:World} {m:Mem} {G:GS}
def I7.kill(hg:I7 base U w m G){r:Nat}{fl:Bool}{ver s:Nat}{rows:List Row}(hc:get r m=some (.arr false fl ver s rows))(hro:r ∉ G.out):
  I7 base U w (put r .dead m) ⟨G.μ,upF G.F r [],G.E++G.F r,G.out⟩/\GLe m G (put r .dead m) ⟨G.μ,upF G.F r [],G.E++G.F r,G.out⟩/\
   aef (eY w) (Gh U w G) fl s rows (G.μ r) (G.F r):=by
 have h1:=hg.set r .dead G.μ [] (G.E++G.F r) G.out
  (by simpa using List.nodup_append.2 ⟨hg.ndE,hg.nd r,λa ha b hb e=>hg.djE r b hb (e ▸ ha)⟩)
  (by simp;exact λb hb=>hb.symm) (I8 (λ_ _=>rfl) (λc h=>by rw[hc] at h;cases h;trivial)) (λ_ _=>rfl) (λ_ _=>Iff.rfl) (λ_=>rfl) (λ_ _=>rfl)
 exact⟨h1.1,h1.2,hg.cell r _ hc hro⟩
def I7.freeze(hg:I7 base U w m G){r:Nat}{fz fl:Bool}{ver s:Nat}{rows:List Row}(hc:get r m=some (.arr fz fl ver s rows))(hro:r ∉ G.out):
  I7 base U w (put r (.arr true fl ver s rows) m) ⟨G.μ,upF G.F r [],G.E,G.out⟩/\GLe m G (put r (.arr true fl ver s rows) m) ⟨G.μ,upF G.F r [],G.E,G.out⟩/\
   ro (Gh U w ⟨G.μ,upF G.F r [],G.E,G.out⟩) (.sl true s rows) (G.μ r):=by
 have hle:Jl G.μ m G.μ (put r (.arr true fl ver s rows) m):=I8 (λ_ _=>rfl) (λc h=>by rw[hc] at h;cases h;exact⟨Nat.le_refl _,rfl,λ_=>⟨rfl,rfl⟩⟩);have aJy:(view w U (excl G.F G.E)).le (view w U (excl (upF G.F r []) G.E))->ro (view w U (excl (upF G.F r []) G.E)) (.sl true s rows) (G.μ r):=by
  intro hv;have hq:=hg.cell r _ hc hro;cases fz with
  |true=>exact La hv _ _ hq.1
  |false=>
   refine aoy hv (OV λb hb=>⟨(hg.lt b (.inr ⟨r,hb⟩)).2.2, ?_⟩) hq true;rintro(hE|⟨k,hk⟩)
   ·exact hg.djE r b hb hE
   ·by_cases e:k=r
    ·subst e;simp at hk
    ·rw[lF _ e] at hk;exact hg.dj r k (Ne.symm e) b hb hk
 have h1:=hg.set r (.arr true fl ver s rows) G.μ [] G.E G.out (by simpa using hg.ndE) (by simp;exact λb hb=> .inr hb) hle (λ_ _=>rfl) (λ_ _=>Iff.rfl) (λ_=>rfl)
  (λhv _=>⟨aJy hv,rfl⟩)
 exact⟨h1.1,h1.2,aJy h1.2.view⟩
def I7.aF9(hg:I7 base U w m G){k:Nat}(fl:Bool){s:Nat}{rows:List Row}{g:Value}{N E:List Nat}(hn:get k m=none)(hk:k ∉ G.out)(hE:(N++E).Perm G.E)
  (hq:ow (eY w) (Gh U w G) (.sl true s rows) g N):
  ∃F',I7 base U w (put k (.arr false fl 0 s rows) m) ⟨upM G.μ k g,F',E,G.out⟩/\GLe m G (put k (.arr false fl 0 s rows) m) ⟨upM G.μ k g,F',E,G.out⟩:=by
 have hnd:=hE.nodup_iff.2 hg.ndE;have hmem:∀b,b∈N++E->b∈G.E:=λb hb=>hE.mem_iff.1 hb
 have hμ:∀j,j≠k->upM G.μ k g j=G.μ j:=λj e=>Rl g e
 have hle:∀c',Jl G.μ m (upM G.μ k g) (put k c' m):=λc'=>I8 hμ (λc h=>by rw[hn] at h;cases h)
 cases fl with
 |false=>refine⟨_,hg.set k (.arr false false 0 s rows) (upM G.μ k g) N E G.out hnd (λb hb=> .inr (hmem b hb)) (hle _) hμ (λ_ _=>Iff.rfl) (λh=>absurd h hk) (λhv _=> ?_)⟩;simp only[vM,TY];exact XQ hv (λ_ _=>rfl) (aBY hq)
 |true=>
  obtain⟨N1,N2,rfl,h2⟩:=atz hq;have hnd':(N1++E).Nodup:=by rw[WC] at hnd;have:=List.nodup_append.1 hnd;exact List.nodup_append.2 ⟨this.1,(List.nodup_append.1 this.2.1).2.1,λa ha b hb=>this.2.2 a ha b (by simp[hb])⟩
  refine⟨_,hg.set k (.arr false true 0 s rows) (upM G.μ k g) N1 E G.out hnd' (λb hb=> .inr (hmem b (by simp at hb|-;rcases hb with h|h<;>simp[h]))) (hle _) hμ (λ_ _=>Iff.rfl) (λh=>absurd h hk) (λhv _=> ?_)⟩;simp only[vM,TY];refine h2 _ hv (OV λb hb=>⟨(hg.lt b (.inl (hmem b (by simp[hb])))).2.2, ?_⟩);rw[WC] at hnd;have hd:=List.nodup_append.1 hnd;have hd2:=List.nodup_append.1 hd.2.1;rintro(hE'|⟨j,hj⟩)
  ·exact hd2.2.2 b hb b hE' rfl
  ·by_cases e:j=k
   ·subst e;rw[Iz] at hj;exact hd.2.2 b hj b (by simp[hb]) rfl
   ·rw[lF _ e] at hj;exact hg.djE j b hj (hmem b (by simp[hb]))
structure Ph(base:Nat)(U:Nat->Prop)(w:World)(m:Mem)(G:GS)(m':Mem)(G':GS)(N:List Nat):Prop where
 ok:I7 base U w m' G'
 le:GLe m G m' G'
 E:G'.E=G.E++N
 out:G'.out=G.out
 μ:G'.μ=G.μ
def Ph.same(hg:I7 base U w m G):Ph base U w m G m G []:=⟨hg,GLe.refl _ _,by simp,rfl,rfl⟩
def Ph.trans{m1 m2 m3:Mem}{G1 G2 G3:GS}{N N':List Nat}(a:Ph base U w m1 G1 m2 G2 N)(b:Ph base U w m2 G2 m3 G3 N'):Ph base U w m1 G1 m3 G3 (N++N'):=
 ⟨b.ok,a.le.trans b.le,by rw[b.E,a.E,WC],b.out.trans a.out,b.μ.trans a.μ⟩
def abX{H:Heap}{h h':View}(hl:h.le h'){x:D}{v:Value}{N:List Nat}(q:ow H h x v N):ow H h' x v N:=aox hl x v N (λ_ _=>rfl) q
def ayw(hg:I7 base U w m G){v:V}{g:Value}(hv:aZ G.μ m (Gh U w G) v g)(ho:G.out=[]){x:D}{m':Mem}{l l':Log}(h:(toD v).run m l=some (x,m',l')):
  ∃G' N,Ph base U w m G m' G' N/\ow (eY w) (Gh U w G') x g N:=by
 cases v with
 |d y=>simp only[toD,run_pure,kX,pW] at h;obtain⟨rfl,rfl,rfl⟩:=h;exact⟨G,[],Ph.same hg,ayv (by simpa[aZ] using hv)⟩
 |nil s=>simp only[toD,run_pure,kX,pW] at h;obtain⟨rfl,rfl,rfl⟩:=h;refine⟨G,[],Ph.same hg, ?_⟩;simp only[aZ] at hv;simp[ow,hv]
 |own r ver=>
  simp only[toD] at h;replace h:=ay h;obtain⟨c,m1,l1,h1,h⟩:=h;rw[Aj] at h1;cases h1;cases hc:get r m with
  |none=>rw[hc] at h;exact aI h
  |some c=>
   rw[hc] at h;cases c with
   |arr fz fl vC s rows=>
    simp only at h;replace h:=ay h;obtain⟨_,m2,l2,h1,h⟩:=h;obtain⟨hb,rfl,rfl⟩:=iK h1;have hb:=I5 hb;subst hb;simp only[aZ,hc] at hv;have hv:=hv.2.2 trivial;subst hv;have hro:r ∉ G.out:=by simp[ho]
    cases fz with
    |true=>simp only[run_pure,kX,pW] at h;obtain⟨rfl,rfl,rfl⟩:=h;refine⟨G,[],Ph.same hg, ?_⟩;have hq:=(hg.cell r _ hc hro).1;simp only[ow,true_and];exact ajv hq
    |false=>simp only at h;replace h:=ay h;obtain⟨_,m2,l2,h1,h⟩:=h;obtain⟨hok,rfl,rfl⟩:=iK h1;replace h:=ay h;obtain⟨_,m3,l3,h1,h⟩:=h;rw[Py] at h1;cases h1;simp only[run_pure,kX,pW] at h;obtain⟨rfl,rfl,rfl⟩:=h;obtain⟨k1,k2,k3⟩:=hg.kill hc hro;exact⟨_,G.F r,⟨k1,k2,rfl,rfl,rfl⟩,abX k2.view (avh hok k3)⟩
   |_=>exact aI h
 |_=>exact aI h
def ql{μ:Nat->Value}{h:View}{v:V}{vs:List V}{gs:List Value}(q:dH μ m h (v::vs) gs):∃g gs',gs=g::gs'/\aZ μ m h v g/\dH μ m h vs gs':=by simpa[dH] using q
def lC{μ:Nat->Value}{h:View}:∀{vs:List V} {gs:List Value},dH μ m h vs gs->gs.length=vs.length
 |[],gs,q=>by simp[dH] at q;simp[q]
 |v::vs,gs,q=>by obtain⟨g,gs',rfl,_,h3⟩:=ql q;simp[lC h3]
def aek{H:Heap}{h h':View}(hl:h.le h'){x:Row}{v:List Value}{N:List Nat}(q:jY H h x v N):jY H h' x v N:=Rj hl x v N (λ_ _=>rfl) q
def ap0{H:Heap}{h h':View}(hl:h.le h'){s:Nat}{x:List Row}{v:List Value}{N:List Nat}(q:jc H h s x v N):jc H h' s x v N:=JU hl s x v N (λ_ _=>rfl) q
def Vz:∀{vs:List V} {gs:List Value} {m:Mem} {G:GS} (_:I7 base U w m G) (_:dH G.μ m (Gh U w G) vs gs) (_:G.out=[]) {xs:Row} {m':Mem} {l l':Log} (_:(Pq vs).run m l=some (xs,m',l')),
  ∃G' N,Ph base U w m G m' G' N/\jY (eY w) (Gh U w G') xs gs N/\xs.length=vs.length
 |[],gs,m,G,hg,hv,ho,xs,m',l,l',h=>by simp only[Pq,run_pure,kX,pW] at h;obtain⟨rfl,rfl,rfl⟩:=h;exact⟨G,[],Ph.same hg,by simp[jY],rfl⟩
 |v::vs,gs,m,G,hg,hv,ho,xs,m',l,l',h=>by obtain⟨g,gs',rfl,hv1,hv2⟩:=ql hv;simp only[Pq] at h;replace h:=ay h;obtain⟨x,m1,l1,h1,h⟩:=h;replace h:=ay h;obtain⟨ys,m2,l2,h2,h⟩:=h;obtain⟨rfl,rfl,rfl⟩:=ZN h;obtain⟨G1,N1,t1,q1⟩:=ayw hg hv1 ho h1;obtain⟨G2,N2,t2,q2,hlen⟩:=Vz t1.ok (t1.le.dH hv2) (t1.out.trans ho) h2;refine⟨G2,N1++N2,t1.trans t2, ?_,by simp[hlen]⟩;simp only[jY];exact⟨g,gs',N1,N2,rfl,rfl,abX t2.le.view q1,q2⟩
def I7.look(hg:I7 base U w m G){r:Nat}{fz fl:Bool}{ver s:Nat}{rows:List Row}(hc:get r m=some (.arr fz fl ver s rows))(hro:r ∉ G.out)(o:Bool):ro (full w) (.sl o s rows) (G.μ r):=by
 have hq:=hg.cell r _ hc hro;cases fz with
 |true=>exact aej (La (yA _ _ _) _ _ hq.1)
 |false=>exact aoy (yA _ _ _) amv hq o
def avi(hg:I7 base U w m G){v:V}{g:Value}(hv:aZ G.μ m (Gh U w G) v g)(ho:G.out=[]){s:Nat}{rows:List Row}{m':Mem}{l l':Log}(h:(seen v).run m l=some ((s,rows),m',l')):
  m'=m/\ro (full w) (.sl false s rows) g:=by
 cases v with
 |d y=>
  cases y with
  |sl own s' rows'=>simp only[seen,run_pure,kX,pW] at h;obtain⟨⟨rfl,rfl⟩,rfl,rfl⟩:=h;simp only[aZ] at hv;exact⟨rfl,aej (La (yA _ _ _) _ _ hv)⟩
  |_=>exact aI h
 |nil s'=>simp only[seen,run_pure,kX,pW] at h;obtain⟨⟨rfl,rfl⟩,rfl,rfl⟩:=h;simp only[aZ] at hv;exact⟨rfl,by simp[ro,hv]⟩
 |own r ver=>
  simp only[seen] at h;replace h:=ay h;obtain⟨c,m1,l1,h1,h⟩:=h;rw[Aj] at h1;cases h1;cases hc:get r m with
  |none=>rw[hc] at h;exact aI h
  |some c=>
   rw[hc] at h;cases c with
   |arr fz fl vC s' rows'=>simp only at h;replace h:=ay h;obtain⟨_,m2,l2,h1,h⟩:=h;obtain⟨hb,rfl,rfl⟩:=iK h1;have hb:=I5 hb;subst hb;simp only[run_pure,kX,pW] at h;obtain⟨⟨rfl,rfl⟩,rfl,rfl⟩:=h;simp only[aZ,hc] at hv;have hv:=hv.2.2 trivial;subst hv;exact⟨rfl,ajv (hg.look hc (by simp[ho]) true)⟩
   |_=>exact aI h
 |_=>exact aI h
def IB(k:Nat):∀l:List Nat,mem? k l=true↔k∈l
 |[]=>by simp[mem?]
 |j::l=>by
  simp only[mem?,List.mem_cons]
  by_cases e:k=j
  ·subst e;simp
  ·rw[zH e];simp[e,IB k l]
def VA{k:Nat}{l:List Nat}(h:(!(mem? k l))=true):k ∉ l:=by intro hk;rw[(IB k l).2 hk] at h;cases h
def aBZ(hg:I7 base U w m G){v:V}{g:Value}(hv:aZ G.μ m (Gh U w G) v g){imp:List Nat}(ho:∀r,r∈G.out->r∈imp){own:Bool}{v':V}{m':Mem}{l l':Log}(h:(ayo imp own v).run m l=some (v',m',l')):
  ∃G' N x,v'=.d x/\Ph base U w m G m' G' N/\ow (eY w) (Gh U w G') x g N/\∀k,k∈imp->get k m'=get k m:=by
 cases v with
 |d y=>simp only[ayo,run_pure,kX,pW] at h;obtain⟨rfl,rfl,rfl⟩:=h;exact⟨G,[],_,rfl,Ph.same hg,ayv (by simpa[aZ] using hv),λ_ _=>rfl⟩
 |nil s=>simp only[ayo,run_pure,kX,pW] at h;obtain⟨rfl,rfl,rfl⟩:=h;refine⟨G,[],_,rfl,Ph.same hg, ?_,λ_ _=>rfl⟩;simp only[aZ] at hv;cases own<;>simp[ow,ro,hv]
 |own r ver=>
  simp only[ayo] at h;replace h:=ay h;obtain⟨c,m1,l1,h1,h⟩:=h;rw[Aj] at h1;cases h1;cases hc:get r m with
  |none=>rw[hc] at h;exact aI h
  |some c=>
   rw[hc] at h;cases c with
   |arr fz fl vC s rows=>
    simp only at h;replace h:=ay h;obtain⟨_,m2,l2,h1,h⟩:=h;obtain⟨hb,rfl,rfl⟩:=iK h1;have hb:=I5 hb;subst hb;replace h:=ay h;obtain⟨_,m2,l2,h1,h⟩:=h;obtain⟨hi,rfl,rfl⟩:=iK h1;simp only[aZ,hc] at hv;have hv:=hv.2.2 trivial;subst hv;have hro:r ∉ G.out:=λhr=>VA hi (ho r hr)
    have hni:∀k,k∈imp->k≠r:=λk hk e=>VA hi (e ▸ hk)
    cases own with
    |false=>simp only at h;replace h:=ay h;obtain⟨_,m3,l3,h1,h⟩:=h;rw[Py] at h1;cases h1;simp only[run_pure,kX,pW] at h;obtain⟨rfl,rfl,rfl⟩:=h;obtain⟨k1,k2,k3⟩:=hg.freeze hc hro;refine⟨_,[],_,rfl,⟨k1,k2,by simp,rfl,rfl⟩, ?_,λk hk=>oh (hni k hk) _ _⟩;simp only[ow,true_and];exact ajv k3
    |true=>
     simp only at h;replace h:=ay h;obtain⟨_,m2,l2,h1,h⟩:=h;obtain⟨hfz,rfl,rfl⟩:=iK h1;replace h:=ay h;obtain⟨_,m2,l2,h1,h⟩:=h;obtain⟨hok,rfl,rfl⟩:=iK h1;have hfz:fz=false:=by simpa using hfz
     subst hfz;replace h:=ay h;obtain⟨_,m3,l3,h1,h⟩:=h;rw[Py] at h1;cases h1;simp only[run_pure,kX,pW] at h;obtain⟨rfl,rfl,rfl⟩:=h;obtain⟨k1,k2,k3⟩:=hg.kill hc hro;exact⟨_,G.F r,_,rfl,⟨k1,k2,rfl,rfl,rfl⟩,abX k2.view (avh hok k3),λk hk=>oh (hni k hk) _ _⟩
   |_=>exact aI h
 |_=>exact aI h
def ahx{imp own:List Nat}:∀{vs:List V} {gs:List Value} {m:Mem} {G:GS} {j:Nat} (_:I7 base U w m G) (_:dH G.μ m (Gh U w G) vs gs) (_:∀r,r∈G.out->r∈imp) {vs':List V} {m':Mem} {l l':Log}
  (_:(Z4 imp own j vs).run m l=some (vs',m',l')),∃G' N xs,vs'=xs.map V.d/\xs.length=gs.length/\Ph base U w m G m' G' N/\jY (eY w) (Gh U w G') xs gs N/\∀k,k∈imp->get k m'=get k m
 |[],gs,m,G,j,hg,hv,ho,vs',m',l,l',h=>by simp only[Z4,run_pure,kX,pW] at h;obtain⟨rfl,rfl,rfl⟩:=h;simp only[dH] at hv;subst hv;exact⟨G,[],[],rfl,rfl,Ph.same hg,by simp[jY],λ_ _=>rfl⟩
 |v::vs,gs,m,G,j,hg,hv,ho,vs',m',l,l',h=>by obtain⟨g,gs',rfl,hv1,hv2⟩:=ql hv;simp only[Z4] at h;replace h:=ay h;obtain⟨x,m1,l1,h1,h⟩:=h;replace h:=ay h;obtain⟨ys,m2,l2,h2,h⟩:=h;obtain⟨rfl,rfl,rfl⟩:=ZN h;obtain⟨G1,N1,x1,rfl,t1,q1,i1⟩:=aBZ hg hv1 ho h1;obtain⟨G2,N2,xs,rfl,hlen,t2,q2,i2⟩:=ahx t1.ok (t1.le.dH hv2) (λr hr=>ho r (t1.out ▸ hr)) h2;refine⟨G2,N1++N2,x1::xs,rfl,by simp[hlen],t1.trans t2, ?_,λk hk=>(i2 k hk).trans (i1 k hk)⟩;simp only[jY];exact⟨g,gs',N1,N2,rfl,rfl,abX t2.le.view q1,q2⟩
def ap1(H:Heap)(h:View):Cell->Value->List Nat->Prop
 | .box t vs,g,N=>∃b a xs N',g=.pointer (some ⟨b,0,none⟩)/\H b=some (.cells a t (0,0))/\vs=xs.map V.d/\xs.length=a.toList.length/\jY H h xs a.toList N'/\N=b::N'
 | .arr fz fl ver s rows,g,N=>fz=false/\ver=0/\aef H h fl s rows g N
 | .dead,_,_=>False
 | .Dl ..,_,_=>False
def cellsB(H:Heap)(h:View):List Cell->List Value->List Nat->Prop
 |[],gs,N=>gs=[]/\N=[]
 |c::cs,gs,N=>∃g gs' N1 N2,gs=g::gs'/\N=N1++N2/\ap1 H h c g N1/\cellsB H h cs gs' N2
def ajx{H H':Heap}{h h':View}(hl:h.le h'){c:Cell}{g:Value}{N:List Nat}(hb:∀b,b∈N->H' b=H b)(q:ap1 H h c g N):ap1 H' h' c g N:=by
 cases c with
 |box t vs=>obtain⟨b,a,xs,N',h1,h2,h3,h4,h5,rfl⟩:=q;exact⟨b,a,xs,N',h1,by rw[hb b (by simp)];exact h2,h3,h4,Rj hl _ _ _ (λb' hb'=>hb b' (by simp[hb'])) h5,rfl⟩
 |arr fz fl ver s rows=>exact⟨q.1,q.2.1,XQ hl hb q.2.2⟩
 |dead=>exact q
 |Dl _ _=>exact q
def ahy{H H':Heap}{h h':View}(hl:h.le h'):∀{cs:List Cell} {gs:List Value} {N:List Nat},(∀b,b∈N->H' b=H b)->cellsB H h cs gs N->cellsB H' h' cs gs N
 |[],_,_,_,q=>q
 |c::cs,_,_,hb,⟨g,gs',N1,N2,h1,h2,h3,h4⟩=>by subst h2;exact⟨g,gs',N1,N2,h1,rfl,ajx hl (λb hx=>hb b (by simp[hx])) h3,ahy hl (λb hx=>hb b (by simp[hx])) h4⟩
def I7.aE3(hg:I7 base U w m G){r:Nat}{c:Cell}(hc:get r m=some c)(hro:r ∉ G.out):
  I7 base U w m ⟨G.μ,upF G.F r [],G.E++G.F r,r::G.out⟩/\GLe m G m ⟨G.μ,upF G.F r [],G.E++G.F r,r::G.out⟩:=by
 have hex:∀b,excl (upF G.F r []) (G.E++G.F r) b->excl G.F G.E b:=by
  rintro b (hb|⟨k,hb⟩)
  ·simp only[List.mem_append] at hb;rcases hb with h|h
   ·exact .inl h
   ·exact .inr ⟨r,h⟩
  ·by_cases e:k=r
   ·subst e;simp at hb
   ·rw[lF _ e] at hb;exact .inr ⟨k,hb⟩
 have hv:(view w U (excl G.F G.E)).le (view w U (excl (upF G.F r []) (G.E++G.F r))):=WH (λ_ x=>x) hex;refine⟨show MInv base U m w G.μ (upF G.F r []) (G.E++G.F r) (r::G.out) from ?_,⟨vN _ _,hex⟩⟩;refine⟨?_, ?_, ?_, ?_,List.nodup_append.2 ⟨hg.ndE,hg.nd r,λa ha b hb e=>hg.djE r b hb (e ▸ ha)⟩,λb hb=>hg.lt b (hex b hb),hg.up,hg.bs, ?_, ?_⟩
 ·intro k c hk hko;simp only[List.mem_cons,not_or] at hko;rw[lF _ hko.1];exact Pv (vN _ _) hv rfl (λ_ _=>rfl) (hg.cell k c hk hko.2)
 ·intro k k' hne b hb hb'
  by_cases e:k=r
  ·subst e;simp at hb
  ·rw[lF _ e] at hb
   by_cases e':k'=r
   ·subst e';simp at hb'
   ·rw[lF _ e'] at hb';exact hg.dj _ _ hne b hb hb'
 ·intro k b hb hE
  by_cases e:k=r
  ·subst e;simp at hb
  ·rw[lF _ e] at hb;simp only[List.mem_append] at hE;rcases hE with h|h
   ·exact hg.djE _ b hb h
   ·exact hg.dj _ _ e b hb h
 ·intro k
  by_cases e:k=r
  ·subst e;simp
  ·rw[lF _ e];exact hg.nd k
 ·intro k hk
  by_cases e:k=r
  ·subst e;simp
  ·rw[lF _ e];exact hg.none_ k hk
 ·intro k hk
  by_cases e:k=r
  ·subst e;simp
  ·rw[lF _ e];exact hg.out_ k (by simpa[e] using hk)
structure Out(base:Nat)(U:Nat->Prop)(w:World)(m:Mem)(G:GS)(m':Mem)(G':GS)(imp rs:List Nat)(N:List Nat):Prop where
 ok:I7 base U w m' G'
 le:GLe m G m' G'
 E:G'.E=G.E++N
 out:∀r,r∈G'.out↔r∈G.out\/r∈rs
 μ:G'.μ=G.μ
 here:∀k,k∈imp->get k m'=get k m
def sameKind:Cell->Cell->Prop
 | .box t _,.box t' _=>t=t'
 | .arr _ fl ver s _,.arr _ fl' vC s' _=>ver=0/\vC=0/\fl=fl'/\s=s'
 |_,_=>False
def kinds(m:Mem):List Nat->List Cell->Prop
 |[],cs=>cs=[]
 |r::rs,cs=>∃c c' cs',cs=c'::cs'/\get r m=some c/\sameKind c c'/\kinds m rs cs'
def afi{m m':Mem}:∀{rs:List Nat} {cs:List Cell},(∀r,r∈rs->get r m'=get r m)->kinds m rs cs->kinds m' rs cs
 |[],_,_,q=>q
 |r::rs,_,h,⟨c,c',cs',h1,h2,h3,h4⟩=>⟨c,c',cs',h1,(h r (by simp)).trans h2,h3,afi (λk hk=>h k (by simp[hk])) h4⟩
def agB{A:Adv}{imp:List Nat}:∀{rs:List Nat} {m:Mem} {G:GS} (_:I7 base U w m G) (_:rs.Nodup) (_:∀r,r∈rs->r∈imp/\r ∉ G.out) (_:∀r,r∈G.out->r∈imp) {cs:List Cell} {m':Mem} {l l':Log}
  (_:(Z5 A imp rs).run m l=some (cs,m',l')),∃G' N,Out base U w m G m' G' imp rs N/\cellsB (eY w) (Gh U w G') cs (rs.map G.μ) N/\kinds m rs cs
 |[],m,G,hg,hn,hr,ho,cs,m',l,l',h=>by simp only[Z5,run_pure,kX,pW] at h;obtain⟨rfl,rfl,rfl⟩:=h;exact⟨G,[],⟨hg,GLe.refl _ _,by simp,λr=>by simp,rfl,λ_ _=>rfl⟩,⟨rfl,rfl⟩,rfl⟩
 |r::rs,m,G,hg,hn,hr,ho,cs,m',l,l',h=>by
  simp only[Z5] at h;replace h:=ay h;obtain⟨c,m1,l1,h1,h⟩:=h;rw[Aj] at h1;cases h1;replace h:=ay h;obtain⟨c1,m1,l1,h1,h⟩:=h;replace h:=ay h;obtain⟨cs1,m2,l2,h2,h⟩:=h;obtain⟨rfl,rfl,rfl⟩:=ZN h;have hri:=hr r (by simp);have hnr:=List.nodup_cons.1 hn;have step:∃G' N,Out base U w m G m1 G' imp [r] N/\ap1 (eY w) (Gh U w G') c1 (G.μ r) N/\∃c,get r m=some c/\sameKind c c1:=by
   cases hc:get r m with
   |none=>rw[hc] at h1;exact aI h1
   |some c=>
    rw[hc] at h1;have hq:=hg.cell r c hc hri.2;obtain⟨k1,k2⟩:=hg.aE3 hc hri.2;cases c with
    |box t vs=>
     simp only[avg] at h1;replace h1:=ay h1;obtain⟨vs',m3,l3,h3,h1⟩:=h1;obtain⟨rfl,rfl,rfl⟩:=ZN h1;obtain⟨b,a,e1,e2,e3,e4⟩:=hq;obtain⟨G2,N2,xs,rfl,hlen,t2,q2,i2⟩:=ahx k1 (k2.dH e3) (λk hk=>by
      simp only[List.mem_cons] at hk;rcases hk with rfl|hk
      ·exact hri.1
      ·exact ho k hk) h3
     refine⟨G2,b::N2,⟨t2.ok,k2.trans t2.le,by rw[t2.E,e4];simp,λk=>by rw[t2.out];simp[or_comm],t2.μ,i2⟩,⟨b,a,xs,N2,e1,e2,rfl,hlen,q2,rfl⟩,_,rfl,rfl⟩
    |_=>exact aI h1
  obtain⟨G1,N1,o1,q1,c0,hc0,hk0⟩:=step;obtain⟨G2,N2,o2,q2,kd2⟩:=agB o1.ok hnr.2 (λk hk=>⟨(hr k (by simp[hk])).1,λhko=>by
   rcases(o1.out k).1 hko with h|h
   ·exact(hr k (by simp[hk])).2 h
   ·simp at h;subst h;exact hnr.1 hk⟩) (λk hk=>by
   rcases(o1.out k).1 hk with h|h
   ·exact ho k h
   ·simp at h;subst h;exact hri.1) h2
  refine⟨G2,N1++N2,⟨o2.ok,o1.le.trans o2.le,by rw[o2.E,o1.E,WC],λk=> ?_,o2.μ.trans o1.μ,λk hk=>(o2.here k hk).trans (o1.here k hk)⟩,⟨G.μ r,rs.map G.μ,N1,N2,rfl,rfl,ajx o2.le.view (λ_ _=>rfl) q1,by rw[<-o1.μ];exact q2⟩,c0,c1,cs1,rfl,hc0,hk0,afi (λk hk=>(o1.here k (hr k (by simp[hk])).1).symm) kd2⟩;rw[o2.out,o1.out];simp[or_assoc]
def aoz{r:Nat}{l:List Nat}(h:l.Nodup):(atu r l).Nodup:=by
 unfold atu;cases hm:mem? r l with
 |true=>exact h
 |false=>
  have:r ∉ l:=λhr=>by rw[(IB r l).2 hr] at hm;cases hm
  exact List.nodup_append.2 ⟨h,by simp,λa ha b hb e=>by simp at hb;subst hb;subst e;exact this ha⟩
mutual
def ael:∀(v:V) (I:List Nat),I.Nodup->(apX I v).Nodup
 | .ptr r _,I,h=>by simp only[apX];exact aoz h
 | .clo _ a b,I,h=>by simp only[apX];exact WI b _ (WI a _ h)
 | .agg cs,I,h=>by simp only[apX];exact WI cs _ h
 | .d _,I,h=>h
 | .nil _,I,h=>h
 | .own _ _,I,h=>h
 | .KX _ _ _ _,I,h=>h
 | .EU _ _,I,h=>h
 | .Pn v,I,h=>by simp only[apX];exact ael v I h
 | .MF _,I,h=>h
 | .undef,I,h=>h
def WI:∀(vs:List V) (I:List Nat),I.Nodup->(amu I vs).Nodup
 |[],I,h=>h
 |v::vs,I,h=>by simp only[amu];exact WI vs _ (ael v I h)
end
def acC(A:Adv)(f:Nat):∀(vs:List V) (i:Nat) (I:List Nat),I.Nodup->(U5 A f i I vs).Nodup
 |[],_,I,h=>h
 |v::vs,i,I,h=>by
  simp only[U5];refine acC A f vs _ _ ?_;split
  ·exact h
  ·exact ael _ _ h
def VB(A:Adv)(f:Nat)(μ:Nat->Value)(m:Mem)(H:Heap)(h:View):Nat->List V->List Value->List Nat->Prop
 |_,[],gs,N=>gs=[]/\N=[]
 |i,v::vs,gs,N=>∃g gs' N1 N2,gs=g::gs'/\N=N1++N2/\(match Ox A f i with
   |1=>∃x,v=.d x/\ow H h x g N1
   |_=>N1=[]/\aZ μ m h v g)/\VB A f μ m H h (i+1) vs gs' N2
def XR{A:Adv}{f:Nat}{μ μ':Nat->Value}{m m':Mem}{H H':Heap}{h h':View}(hm:Jl μ m μ' m')(hl:h.le h'):∀{vs:List V} {i:Nat} {gs:List Value} {N:List Nat},(∀b,b∈N->H' b=H b)->
  VB A f μ m H h i vs gs N->VB A f μ' m' H' h' i vs gs N
 |[],_,_,_,_,q=>q
 |v::vs,i,gs,N,hb,q=>by
  simp only[VB] at q|-;obtain⟨g,gs',N1,N2,rfl,rfl,h3,h4⟩:=q;refine⟨g,gs',N1,N2,rfl,rfl, ?_,XR hm hl (λb hx=>hb b (by simp[hx])) h4⟩;split at h3
  ·rename_i hmo;obtain⟨x,hx,hq⟩:=h3;exact⟨x,hx,aox hl x g N1 (λb hx=>hb b (by simp[hx])) hq⟩
  ·exact⟨h3.1,Dv hm hl v g h3.2⟩
def ahz{A:Adv}{f:Nat}:∀{vs:List V} {gs:List Value} {m:Mem} {G:GS} {i:Nat} (_:I7 base U w m G) (_:dH G.μ m (Gh U w G) vs gs) (_:G.out=[]) {vs':List V} {m':Mem} {l l':Log}
  (_:(XL A f i vs).run m l=some (vs',m',l')),∃G' N,Ph base U w m G m' G' N/\VB A f G'.μ m' (eY w) (Gh U w G') i vs' gs N
 |[],gs,m,G,i,hg,hv,ho,vs',m',l,l',h=>by simp only[XL,run_pure,kX,pW] at h;obtain⟨rfl,rfl,rfl⟩:=h;simp only[dH] at hv;exact⟨G,[],Ph.same hg,hv,rfl⟩
 |v::vs,gs,m,G,i,hg,hv,ho,vs',m',l,l',h=>by
  obtain⟨g,gs',rfl,hv1,hv2⟩:=ql hv;simp only[XL] at h;replace h:=ay h;obtain⟨x,m1,l1,h1,h⟩:=h;replace h:=ay h;obtain⟨ys,m2,l2,h2,h⟩:=h;obtain⟨rfl,rfl,rfl⟩:=ZN h;have step:∃G1 N1,Ph base U w m G m1 G1 N1/\(match Ox A f i with
   |1=>∃y,x=.d y/\ow (eY w) (Gh U w G1) y g N1
   |_=>N1=[]/\aZ G1.μ m1 (Gh U w G1) x g):=by
   split at h1
   ·rename_i hmo;replace h1:=ay h1;obtain⟨y,m3,l3,h3,h1⟩:=h1;obtain⟨rfl,rfl,rfl⟩:=ZN h1;obtain⟨G1,N1,t1,q1⟩:=ayw hg hv1 ho h3;refine⟨G1,N1,t1, ?_⟩
    try rw[hmo]
    exact⟨y,rfl,q1⟩
   ·rename_i hmo;obtain⟨rfl,rfl,rfl⟩:=ZN h1;refine⟨G,[],Ph.same hg, ?_⟩
    first
     |exact⟨rfl,hv1⟩
     |split
      ·rename_i e;exact absurd e hmo
      ·exact⟨rfl,hv1⟩
  obtain⟨G1,N1,t1,q1⟩:=step;obtain⟨G2,N2,t2,q2⟩:=ahz t1.ok (t1.le.dH hv2) (t1.out.trans ho) h2;refine⟨G2,N1++N2,t1.trans t2, ?_⟩;simp only[VB];refine⟨g,gs',N1,N2,rfl,rfl, ?_,q2⟩;split at q1
  ·obtain⟨y,hy,hq⟩:=q1;exact⟨y,hy,abX t2.le.view hq⟩
  ·exact⟨q1.1,t2.le.aZ q1.2⟩
def ajy:∀(cs:List Cell) (k i:Nat),get (vK+(k+i)) (xu k cs)=cs[i]?
 |[],_,_=>by simp[xu,get]
 |c::cs,k,0=>by simp[xu,get]
 |c::cs,k,i+1=>by simp only[xu,get];rw[zH ak];simp only[bC,List.getElem?_cons_succ];rw[<-ajy cs (k+1) i,show k+1+i=k+(i+1) from by omega]
def WJ(cs:List Cell)(i:Nat):get (vK+i) (xu 0 cs)=cs[i]? :=by
 have:=ajy cs 0 i
 rwa [Nat.zero_add] at this
def impμ(hs:List Value):Nat->Value:=λk=>hs.getD (k - vK) undef
def ajz{r:Nat}:∀{l:List Nat} {k i:Nat},idxOf r k l=some i->k<=i/\l[i - k]? =some r
 |[],_,_,h=>by simp[idxOf] at h
 |j::l,k,i,h=>by
  simp only[idxOf] at h
  by_cases e:r=j
  ·subst e;simp at h;subst h;simp
  ·rw[zH e] at h;simp only[bC] at h;obtain⟨h1,h2⟩:=ajz h;refine⟨ak, ?_⟩;rw[show i - k=(i - (k+1))+1 from by omega,List.getElem?_cons_succ];exact h2
def ajA{m:Mem}:∀{rs:List Nat} {cs:List Cell} {i r:Nat},kinds m rs cs->rs[i]? =some r->∃c c',get r m=some c/\cs[i]? =some c'/\sameKind c c'
 |[],_,_,_,_,h=>by simp at h
 |r::rs,_,0,r',⟨c,c',cs',h1,h2,h3,_⟩,h=>by simp at h;subst h;subst h1;exact⟨c,c',h2,rfl,h3⟩
 |r::rs,_,i+1,r',⟨c,c',cs',h1,h2,h3,h4⟩,h=>by subst h1;simp only[List.getElem?_cons_succ] at h|-;exact ajA h4 h
def aag(U:Nat->Prop)(G:GS)(L:List Nat):Nat->Prop:=λb=>U b/\∀r,b∈G.F r->r∈L
def U6{L:List Nat}:(Gh U w G).le (view w (aag U G L) (· ∈G.E)):=by
 intro b o v hv;unfold Gh view at hv;split at hv
 ·rename_i hc;unfold view;rw[if_pos ⟨⟨hc.1,λr hr=>absurd (.inr ⟨r,hr⟩) hc.2⟩,λhE=>hc.2 (.inl hE)⟩];exact hv
 ·cases hv
structure amx(base:Nat)(U:Nat->Prop)(w:World)(m:Mem)(G:GS)(imp:List Nat)(cells:List Cell):Prop where
 ok:I7 base U w m G
 out:∀r,r∈G.out↔r∈imp
 kd:kinds m imp cells
def aB0(hg:I7 base U w m G){r:Nat}{fz fl:Bool}{ver s:Nat}{rows:List Row}(hc:get r m=some (.arr fz fl ver s rows))(hro:r ∉ G.out){L:List Nat}(hL:fz=false->r∈L)(o:Bool):
  ro (view w (aag U G L) (· ∈G.E)) (.sl o s rows) (G.μ r):=by
 have hq:=hg.cell r _ hc hro;cases fz with
 |true=>exact aej (La U6 _ _ hq.1)
 |false=>
  refine aoy U6 (OV λb hb=>⟨⟨(hg.lt b (.inr ⟨r,hb⟩)).2.2,λk hk=> ?_⟩,hg.djE r b hb⟩) hq o
  by_cases e:k=r
  ·rw[e];exact hL rfl
  ·exact absurd hk (hg.dj r k (Ne.symm e) b hb)
mutual
def aiU{imp:List Nat}{cells:List Cell}(C:amx base U w m G imp cells):∀{v:V} {g:Value} (_:aZ G.μ m (Gh U w G) v g) {v':V} {lt:List Nat} {m':Mem} {l l':Log}
  (_:(lend imp v).run m l=some ((v',lt),m',l')),m'=m/\∀L:List Nat,(∀r,r∈lt->r∈L)->aZ (impμ (imp.map G.μ)) (xu 0 cells) (view w (aag U G L) (· ∈G.E)) v' g
 | .d x,g,hv,v',lt,m',l,l',h=>by simp only[lend,run_pure,kX,pW] at h;obtain⟨⟨rfl,rfl⟩,rfl,rfl⟩:=h;refine⟨rfl,λL hL=> ?_⟩;simp only[aZ] at hv|-;exact La U6 _ _ (ayu hv)
 | .nil s,g,hv,v',lt,m',l,l',h=>by simp only[lend,run_pure,kX,pW] at h;obtain⟨⟨rfl,rfl⟩,rfl,rfl⟩:=h;refine⟨rfl,λL hL=> ?_⟩;simp only[aZ] at hv|-;simp[ro,hv]
 | .own r ver,g,hv,v',lt,m',l,l',h=>by
  simp only[lend] at h;replace h:=ay h;obtain⟨c,m1,l1,h1,h⟩:=h;rw[Aj] at h1;cases h1;cases hc:get r m with
  |none=>rw[hc] at h;exact aI h
  |some c=>
   rw[hc] at h;cases c with
   |arr fz fl vC s rows=>
    simp only at h;replace h:=ay h;obtain⟨_,m2,l2,h1,h⟩:=h;obtain⟨hb,rfl,rfl⟩:=iK h1;have hb:=I5 hb;subst hb;replace h:=ay h;obtain⟨_,m2,l2,h1,h⟩:=h;obtain⟨hi,rfl,rfl⟩:=iK h1;simp only[run_pure,kX,pW] at h;obtain⟨⟨rfl,rfl⟩,rfl,rfl⟩:=h;simp only[aZ,hc] at hv;have hv:=hv.2.2 trivial;subst hv;refine⟨rfl,λL hL=> ?_⟩;have hro:r ∉ G.out:=λhr=>VA hi ((C.out r).1 hr)
    simp only[aZ];exact ajv (aB0 C.ok hc hro (λhf=>hL r (by subst hf;simp)) true)
   |_=>exact aI h
 | .ptr r off,g,hv,v',lt,m',l,l',h=>by simp only[lend] at h;replace h:=ay h;obtain⟨i,m1,l1,h1,h⟩:=h;obtain⟨hi,rfl,rfl⟩:=lW h1;simp only[run_pure,kX,pW] at h;obtain⟨⟨rfl,rfl⟩,rfl,rfl⟩:=h;refine⟨rfl,λL hL=> ?_⟩;obtain⟨_,h2⟩:=ajz hi;rw[Nat.sub_zero] at h2;obtain⟨c,c',k1,k2,k3⟩:=ajA C.kd h2;simp only[aZ,k1] at hv;simp only[aZ,WJ,k2];refine⟨hv.1, ?_⟩;replace hv:=hv.2;cases c<;>cases c'<;>simp only[sameKind] at k3 hv|-;obtain⟨b,e1,e2⟩:=hv;refine⟨b, ?_,e2⟩;simp only[impμ,Nat.add_sub_cancel_left,List.getD_eq_getElem?_getD,List.getElem?_map,h2,MI,Option.getD_some,e1]
 | .EU row off,g,hv,v',lt,m',l,l',h=>by simp only[lend,run_pure,kX,pW] at h;obtain⟨⟨rfl,rfl⟩,rfl,rfl⟩:=h;refine⟨rfl,λL hL=> ?_⟩;simp only[aZ] at hv|-;obtain⟨b,o,e1,e2⟩:=hv;exact⟨b,o,e1,Ri U6 row b o e2⟩
 | .Pn v,g,hv,v',lt,m',l,l',h=>by simp only[lend] at h;replace h:=ay h;obtain⟨⟨a',la⟩,m1,l1,h1,h⟩:=h;simp only[run_pure,kX,pW] at h;obtain⟨⟨rfl,rfl⟩,rfl,rfl⟩:=h;simp only[aZ] at hv;obtain⟨b,x,rfl,e2,e3⟩:=hv;obtain⟨hm1,q1⟩:=aiU C e3 h1;refine⟨hm1,λL hL=> ?_⟩;simp only[aZ];exact⟨b,x,rfl,U6 _ _ _ e2,q1 L hL⟩
 | .clo f a b,g,hv,v',lt,m',l,l',h=>by simp only[lend] at h;replace h:=ay h;obtain⟨⟨a',la⟩,m1,l1,h1,h⟩:=h;simp only at h;replace h:=ay h;obtain⟨⟨b',lb⟩,m2,l2,h2,h⟩:=h;simp only[run_pure,kX,pW] at h;obtain⟨⟨rfl,rfl⟩,rfl,rfl⟩:=h;simp only[aZ] at hv;obtain⟨x,y,rfl,e2,e3⟩:=hv;obtain⟨hm1,q1⟩:=afj C e2 h1;rw[hm1] at h2;obtain⟨hm2,q2⟩:=afj C e3 h2;refine⟨hm2,λL hL=> ?_⟩;simp only[aZ];exact⟨x,y,rfl,q1 L (λr hr=>hL r (by simp[hr])),q2 L (λr hr=>hL r (by simp[hr]))⟩
 | .agg cs,g,hv,v',lt,m',l,l',h=>by simp only[lend] at h;replace h:=ay h;obtain⟨⟨a',la⟩,m1,l1,h1,h⟩:=h;simp only[run_pure,kX,pW] at h;obtain⟨⟨rfl,rfl⟩,rfl,rfl⟩:=h;simp only[aZ] at hv;obtain⟨x,rfl,e2⟩:=hv;obtain⟨hm1,q1⟩:=afj C e2 h1;refine⟨hm1,λL hL=> ?_⟩;simp only[aZ];exact⟨x,rfl,q1 L hL⟩
 | .KX _ _ _ _,g,hv,v',lt,m',l,l',h=>aI h
 | .MF _,g,hv,v',lt,m',l,l',h=>aI h
 | .undef,g,hv,v',lt,m',l,l',h=>aI h
def afj{imp:List Nat}{cells:List Cell}(C:amx base U w m G imp cells):∀{vs:List V} {gs:List Value} (_:dH G.μ m (Gh U w G) vs gs) {vs':List V} {lt:List Nat} {m':Mem} {l l':Log}
  (_:(ajm imp vs).run m l=some ((vs',lt),m',l')),m'=m/\∀L:List Nat,(∀r,r∈lt->r∈L)->dH (impμ (imp.map G.μ)) (xu 0 cells) (view w (aag U G L) (· ∈G.E)) vs' gs
 |[],gs,hv,v',lt,m',l,l',h=>by simp only[ajm,run_pure,kX,pW] at h;obtain⟨⟨rfl,rfl⟩,rfl,rfl⟩:=h;simp only[dH] at hv;subst hv;exact⟨rfl,λ_ _=>by simp[dH]⟩
 |v::vs,gs,hv,v',lt,m',l,l',h=>by obtain⟨g,gs',rfl,hv1,hv2⟩:=ql hv;simp only[ajm] at h;replace h:=ay h;obtain⟨⟨a',la⟩,m1,l1,h1,h⟩:=h;simp only at h;replace h:=ay h;obtain⟨⟨b',lb⟩,m2,l2,h2,h⟩:=h;simp only[run_pure,kX,pW] at h;obtain⟨⟨rfl,rfl⟩,rfl,rfl⟩:=h;obtain⟨hm1,q1⟩:=aiU C hv1 h1;rw[hm1] at h2;obtain⟨hm2,q2⟩:=afj C hv2 h2;refine⟨hm2,λL hL=> ?_⟩;simp only[dH];exact⟨g,gs',rfl,q1 L (λr hr=>hL r (by simp[hr])),q2 L (λr hr=>hL r (by simp[hr]))⟩
end
def afk{imp:List Nat}{cells:List Cell}(C:amx base U w m G imp cells):∀{vs:List V} {gs:List Value} (_:dH G.μ m (Gh U w G) vs gs) {row:Row} {lt:List Nat} {m':Mem} {l l':Log}
  (_:(XM imp vs).run m l=some ((row,lt),m',l')),m'=m/\∀L:List Nat,(∀r,r∈lt->r∈L)->jM (view w (aag U G L) (· ∈G.E)) row gs
 |[],gs,hv,row,lt,m',l,l',h=>by simp only[XM,run_pure,kX,pW] at h;obtain⟨⟨rfl,rfl⟩,rfl,rfl⟩:=h;exact⟨rfl,λ_ _=>by simp[jM]⟩
 |v::vs,gs,hv,row,lt,m',l,l',h=>by
  obtain⟨g,gs',rfl,hv1,hv2⟩:=ql hv;simp only[XM] at h;replace h:=ay h;obtain⟨⟨a',la⟩,m1,l1,h1,h⟩:=h;obtain⟨hm1,q1⟩:=aiU C hv1 h1;cases a' with
  |d x=>simp only at h;replace h:=ay h;obtain⟨⟨b',lb⟩,m2,l2,h2,h⟩:=h;simp only[run_pure,kX,pW] at h;obtain⟨⟨rfl,rfl⟩,rfl,rfl⟩:=h;rw[hm1] at h2;obtain⟨hm2,q2⟩:=afk C hv2 h2;refine⟨hm2,λL hL=> ?_⟩;have:=q1 L (λr hr=>hL r (by simp[hr]));simp only[aZ] at this;exact⟨g,gs',rfl,this,q2 L (λr hr=>hL r (by simp[hr]))⟩
  |_=>exact aI h
def atA{imp:List Nat}{cells:List Cell}(C:amx base U w m G imp cells){v:V}{g:Value}(hv:aZ G.μ m (Gh U w G) v g){v':V}{lt:List Nat}{m':Mem}{l l':Log}
  (h:(aiT imp v).run m l=some ((v',lt),m',l')):m'=m/\∀L:List Nat,(∀r,r∈lt->r∈L)->aZ (impμ (imp.map G.μ)) (xu 0 cells) (view w (aag U G L) (· ∈G.E)) v' g:=by
 cases v with
 |ptr r off=>
  simp only[aiT] at h;replace h:=ay h;obtain⟨c,m1,l1,h1,h⟩:=h;rw[Aj] at h1;cases h1;cases hc:get r m with
  |none=>rw[hc] at h;exact aI h
  |some c=>
   rw[hc] at h;cases c with
   |box t cs=>
    simp only at h;replace h:=ay h;obtain⟨_,m2,l2,h1,h⟩:=h;obtain⟨hi,rfl,rfl⟩:=iK h1;replace h:=ay h;obtain⟨⟨row,la⟩,m2,l2,h1,h⟩:=h;simp only[run_pure,kX,pW] at h;obtain⟨⟨rfl,rfl⟩,rfl,rfl⟩:=h;have hro:r ∉ G.out:=λhr=>VA hi ((C.out r).1 hr)
    obtain⟨b,a,e1,e2,e3,e4⟩:=C.ok.cell r _ hc hro;obtain⟨hm,q⟩:=afk C e3 h1;refine⟨hm,λL hL=> ?_⟩;simp only[aZ,hc] at hv|-;obtain⟨b',e5,e6⟩:=hv.2;rw[e1] at e5;cases e5;refine⟨b,0,by rw[Nat.zero_add];exact e6,aeh row 0 a.toList (λj u hj=> ?_) (q L (λk hk=>hL k (by simp[hk])))⟩;rw[Nat.zero_add];have hb:b∈G.F r:=by rw[e4];simp
    refine OV (N:=[b]) (λb' hb'=> ?_) b (by simp) a t _ e2 j u hj;simp only[List.mem_singleton] at hb';subst hb';refine⟨⟨(C.ok.lt _ (.inr ⟨r,hb⟩)).2.2,λk hk=> ?_⟩,C.ok.djE r _ hb⟩
    by_cases e:k=r
    ·rw[e];exact hL r (by simp)
    ·exact absurd hk (C.ok.dj r k (Ne.symm e) _ hb)
   |_=>exact aI h
 |EU row off=>simp only[aiT,run_pure,kX,pW] at h;obtain⟨⟨rfl,rfl⟩,rfl,rfl⟩:=h;refine⟨rfl,λL hL=> ?_⟩;simp only[aZ] at hv|-;obtain⟨b,o,e1,e2⟩:=hv;exact⟨b,o,e1,Ri U6 row b o e2⟩
 |_=>exact aI h
def ahA{A:Adv}{f:Nat}{imp:List Nat}{cells:List Cell}(C:amx base U w m G imp cells):
  ∀{vs:List V} {gs:List Value} {i:Nat} {N:List Nat} (_:VB A f G.μ m (eY w) (Gh U w G) i vs gs N) {vs':List V} {lt:List Nat} {m':Mem} {l l':Log}
  (_:(XO A imp f i vs).run m l=some ((vs',lt),m',l')),m'=m/\∀L:List Nat,(∀r,r∈lt->r∈L)->VB A f (impμ (imp.map G.μ)) (xu 0 cells) (eY w) (view w (aag U G L) (· ∈G.E)) i vs' gs N
 |[],gs,i,N,hv,v',lt,m',l,l',h=>by simp only[XO,run_pure,kX,pW] at h;obtain⟨⟨rfl,rfl⟩,rfl,rfl⟩:=h;exact⟨rfl,λ_ _=>hv⟩
 |v::vs,gs,i,N,hv,v',lt,m',l,l',h=>by
  simp only[VB] at hv;obtain⟨g,gs',N1,N2,rfl,rfl,hv1,hv2⟩:=hv;simp only[XO] at h;replace h:=ay h;obtain⟨⟨a',la⟩,m1,l1,h1,h⟩:=h;simp only at h;replace h:=ay h;obtain⟨⟨b',lb⟩,m2,l2,h2,h⟩:=h;simp only[run_pure,kX,pW] at h;obtain⟨⟨rfl,rfl⟩,rfl,rfl⟩:=h;have step:m1=m/\∀L:List Nat,(∀r,r∈la->r∈L)->(match Ox A f i with
   |1=>∃x,a'=.d x/\ow (eY w) (view w (aag U G L) (· ∈G.E)) x g N1
   |_=>N1=[]/\aZ (impμ (imp.map G.μ)) (xu 0 cells) (view w (aag U G L) (· ∈G.E)) a' g):=by
   split at h1
   ·rename_i hmo;rw[hmo] at hv1|-;simp only[run_pure,kX,pW] at h1;obtain⟨⟨rfl,rfl⟩,rfl,rfl⟩:=h1;refine⟨rfl,λL hL=> ?_⟩;obtain⟨x,hx,hq⟩:=hv1;exact⟨x,hx,abX U6 hq⟩
   ·rename_i hmo;rw[hmo] at hv1|-;obtain⟨hN,hv1⟩:=hv1;obtain⟨rfl,q⟩:=atA C hv1 h1;exact⟨rfl,λL hL=>⟨hN,q L hL⟩⟩
   ·rename_i aTA a1C;have hm1:∀(α:Prop) (β:Prop),(match Ox A f i with|1=>α|_=>β)=β:=by
     intro α β;split
     ·rename_i e;exact absurd e aTA
     ·rfl
    rw[hm1] at hv1;obtain⟨hN,hv1⟩:=hv1;obtain⟨rfl,q⟩:=aiU C hv1 h1;refine⟨rfl,λL hL=> ?_⟩;rw[hm1];exact⟨hN,q L hL⟩
  obtain⟨hm1,q1⟩:=step;rw[hm1] at h2;obtain⟨hm2,q2⟩:=ahA C hv2 h2;refine⟨hm2,λL hL=> ?_⟩;simp only[VB];exact⟨g,gs',N1,N2,rfl,rfl,q1 L (λr hr=>hL r (by simp[hr])),q2 L (λr hr=>hL r (by simp[hr]))⟩
end
def agC{w:World}{U X:Nat->Prop}{b o:Nat}{v:Value}(h:view w U X b o=some v):U b/\¬X b/\w.cell? ⟨b,o,none⟩=some v:=by
 unfold view at h;split at h
 ·rename_i hc;exact⟨hc.1,hc.2,h⟩
 ·cases h
def aiV{w:World}{U X:Nat->Prop}{b o:Nat}{v:Value}(h1:U b)(h2:¬X b)(h3:w.cell? ⟨b,o,none⟩=some v):view w U X b o=some v:=by unfold view;rw[if_pos ⟨h1,h2⟩];exact h3
def cell_of_heap{w w':World}{b:Nat}(h:w'.heap[b]? =w.heap[b]?)(o:Nat):w'.cell? ⟨b,o,none⟩=w.cell? ⟨b,o,none⟩:=by simp[World.cell?,h]
def lt_of_cell{w:World}{b o:Nat}{v:Value}(h:w.cell? ⟨b,o,none⟩=some v):b<w.heap.size:=by have:=block_lt_of_cell h;simpa using this
section
variable {base:Nat} {U:Nat->Prop} {w w':World} {m:Mem} {G:GS}
def I7.world(hg:I7 base U w m G)(hk:Keep G.E w w'){E':List Nat}(hn:E'.Nodup)(hE:∀b,b∈E'->(b∈G.E\/w.heap.size<=b)/\b<w'.heap.size):
  I7 base U w' m {G with E:=E'}/\(Gh U w G).le (Gh U w' {G with E:=E'}):=by
 have hnE:∀b,b<w.heap.size->b ∉ G.E->b ∉ E':=λb hb hx he=>by
  rcases(hE b he).1 with h|h
  ·exact hx h
  ·omega
 have hF:∀r b,b∈G.F r->w'.heap[b]? =w.heap[b]? :=λr b hb=>hk.block b (hg.lt b (.inr ⟨r,hb⟩)).1 (hg.djE r b hb)
 have hle:(Gh U w G).le (Gh U w' {G with E:=E'}):=by
  intro b o v hv;obtain⟨h1,h2,h3⟩:=agC hv;have hlt:=lt_of_cell h3;have hbE:b ∉ G.E:=λh=>h2 (.inl h)
  refine aiV h1 ?_ ((cell_of_heap (hk.block b hlt hbE) o).trans h3);rintro(h|h)
  ·exact hnE b hlt hbE h
  ·exact h2 (.inr h)
 refine⟨⟨?_,hg.dj,λr b hb=>hnE b (hg.lt b (.inr ⟨r,hb⟩)).1 (hg.djE r b hb),hg.nd,hn, ?_,λb hb=>hg.up b (Nat.le_trans hk.size hb),Nat.le_trans hg.bs hk.size,hg.none_,hg.out_⟩,hle⟩
 ·intro r c hc ho;exact Pv (vN _ _) hle rfl (λb hb=>hF r b hb) (hg.cell r c hc ho)
 ·rintro b (h|⟨r,h⟩)
  ·refine⟨(hE b h).2, ?_⟩;rcases(hE b h).1 with h'|h'
   ·exact(hg.lt b (.inl h')).2
   ·exact⟨Nat.le_trans hg.bs h',hg.up b h'⟩
  ·have:=hg.lt b (.inr ⟨r,h⟩);exact⟨Nat.lt_of_lt_of_le this.1 hk.size,this.2⟩
def amy:∀{L:List Nat} {m:Mem} {G:GS} (_:I7 base U w m G) (_:∀r,r∈L->r ∉ G.out) {x:Unit} {m':Mem} {l l':Log} (_:(freeze L).run m l=some (x,m',l')),
  ∃F',I7 base U w m' ⟨G.μ,F',G.E,G.out⟩/\GLe m G m' ⟨G.μ,F',G.E,G.out⟩/\(∀r,r∈L->F' r=[])/\(∀r,F' r=[]\/F' r=G.F r)/\(∀k,k ∉ L->get k m'=get k m)
 |[],m,G,hg,ho,x,m',l,l',h=>by simp only[Vm.freeze,run_pure,kX,pW] at h;obtain⟨_,rfl,rfl⟩:=h;exact⟨G.F,hg,GLe.refl _ _,by simp,λr=> .inr rfl,λ_ _=>rfl⟩
 |r::L,m,G,hg,ho,x,m',l,l',h=>by
  simp only[Vm.freeze] at h;replace h:=ay h;obtain⟨c,m1,l1,h1,h⟩:=h;rw[Aj] at h1;cases h1;cases hc:get r m with
  |none=>rw[hc] at h;exact aI h
  |some c=>
   rw[hc] at h;cases c with
   |arr fz fl ver s rows=>
    replace h:=ay h;obtain⟨_,m1,l1,h1,h⟩:=h;simp only[Py,kX,pW] at h1;obtain⟨_,rfl,rfl⟩:=h1;obtain⟨k1,k2,_⟩:=hg.freeze hc (ho r (by simp));obtain⟨F',q1,q2,q3,q4,q5⟩:=amy k1 (λk hk=>ho k (by simp[hk])) h;refine⟨F',q1,k2.trans q2, ?_, ?_, ?_⟩
    ·intro k hk;simp only[List.mem_cons] at hk;rcases hk with rfl|hk
     ·rcases q4 k with e|e
      ·exact e
      ·rw[e];simp
     ·exact q3 k hk
    ·intro k;rcases q4 k with e|e
     ·exact .inl e
     ·by_cases ek:k=r
      ·subst ek;rw[e];left;simp
      ·have e':F' k=upF G.F r [] k:=e;rw[e',lF _ ek];exact .inr rfl
    ·intro k hk;simp only[List.mem_cons,not_or] at hk;rw[q5 k hk.2,oh hk.1]
   |_=>exact aI h
def ajB{k:IntKind}{x:D}{n:Int}(h:asInt k x=some n):x=.int k n:=by
 cases x<;>simp[asInt] at h;rename_i k' n'
 by_cases e:k'=k
 ·subst e;simp at h;subst h;rfl
 ·simp[e] at h
def ahB{x:D}{b:Bool}(h:asBool x=some b):x=.bool b:=by cases x<;>simp[asBool] at h;subst h;rfl
def ajC{x:D}{b:List UInt8}(h:amq x=some b):x=.str b:=by cases x<;>simp[amq] at h;subst h;rfl
def amA{s:Nat}{x:D}{rows:List Row}(h:ayk s x=some rows):∃o,x=.sl o s rows:=by
 cases x<;>simp[ayk] at h;rename_i o s' rows'
 by_cases e:s'=s
 ·subst e;simp at h;subst h;exact⟨o,rfl⟩
 ·rw[zH e] at h;simp at h
def atB{s:Nat}{x:D}{rows:List Row}(h:ave s x=some rows):x=.sl true s rows:=by
 cases x<;>simp[ave] at h;rename_i o s' rows';cases o<;>simp at h
 by_cases e:s'=s
 ·subst e;simp at h;subst h;rfl
 ·rw[zH e] at h;simp at h
def ap2{row:Row}{j:Nat}{x:D}{r:Row}(h:row.drop j=x::r):nth row j=x/\row.drop (j+1)=r:=by
 have h1:row[j]? =some x:=by
  have:(row.drop j)[0]? =some x:=by rw[h];rfl
  rwa [List.getElem?_drop,Nat.add_zero] at this
 refine⟨by simp[nth,h1], ?_⟩;rw[<-List.drop_drop,h];rfl
def I7.ajD(hg:I7 base U w m G){N E:List Nat}(hE:(N++E).Perm G.E):I7 base U w m {G with E:=E}/\GLe m G m {G with E:=E}/\∀{x:D} {g:Value},ow (eY w) (Gh U w G) x g N->ro (Gh U w {G with E:=E}) x g:=by
 have hnd:=hE.nodup_iff.2 hg.ndE;have hmem:∀b,b∈N++E->b∈G.E:=λb hb=>hE.mem_iff.1 hb
 obtain⟨h1,h2⟩:=hg.less E (List.nodup_append.1 hnd).2.1 (λb hb=>hmem b (by simp[hb]));refine⟨h1,h2,fun{x g} q=>aE2 h2.view x g N (OV λb hb=>⟨(hg.lt b (.inl (hmem b (by simp[hb])))).2.2, ?_⟩) q⟩;rintro(h|⟨r,h⟩)
 ·exact(List.nodup_append.1 hnd).2.2 b hb b h rfl
 ·exact hg.djE r b h (hmem b (by simp[hb]))
structure Grew(base:Nat)(U:Nat->Prop)(w:World)(m:Mem)(G:GS)(m':Mem)(G':GS)(E:List Nat):Prop where
 ok:I7 base U w m' G'
 le:GLe m G m' G'
 E:G'.E=E
 out:G'.out=G.out
 old:∀k c,get k m=some c->get k m'=some c
 μ:∀k c,get k m=some c->G'.μ k=G.μ k
def Grew.trans{m1 m2 m3:Mem}{G1 G2 G3:GS}{E E':List Nat}(a:Grew base U w m1 G1 m2 G2 E)(b:Grew base U w m2 G2 m3 G3 E'):Grew base U w m1 G1 m3 G3 E':=
 ⟨b.ok,a.le.trans b.le,b.E,b.out.trans a.out,λk c h=>b.old k c (a.old k c h),λk c h=>(b.μ k c (a.old k c h)).trans (a.μ k c h)⟩
def abY{k:Nat}{c:Cell}{x:Unit}{m':Mem}{l l':Log}(h:(new k c).run m l=some (x,m',l')):get k m=none/\m'=put k c m:=by
 simp only[new] at h;replace h:=ay h;obtain⟨_,m1,l1,h1,h⟩:=h;simp only[free] at h1;replace h1:=ay h1;obtain⟨c',m2,l2,h2,h1⟩:=h1;rw[Aj] at h2;cases h2;cases hc:get k m with
 |some c=>rw[hc] at h1;exact aI h1
 |none=>rw[hc] at h1;simp only[run_pure,kX,pW] at h1;obtain⟨_,rfl,rfl⟩:=h1;simp only[Py,kX,pW] at h;exact⟨rfl,h.2.1.symm⟩
def amB(hg:I7 base U w m G)(ho:∀r,r∈G.out->∃c,get r m=some c){k:Nat}{fl:Bool}{s:Nat}{rows:List Row}{g:Value}{N E:List Nat}(hE:(N++E).Perm G.E)
  (hq:ow (eY w) (Gh U w G) (.sl true s rows) g N) {x:Unit} {m':Mem} {l l':Log} (h:(new k (.arr false fl 0 s rows)).run m l=some (x,m',l')):
  ∃G',Grew base U w m G m' G' E/\aZ G'.μ m' (Gh U w G') (.own k 0) g:=by
 obtain⟨hn,rfl⟩:=abY h;have hk:k ∉ G.out:=λhx=>by obtain⟨c,hc⟩:=ho k hx;rw[hn] at hc;cases hc
 obtain⟨F',h1,h2⟩:=hg.aF9 fl hn hk hE hq;refine⟨_,⟨h1,h2,rfl,rfl,λj c hj=> ?_,λj c hj=> ?_⟩, ?_⟩
 ·have hne:j≠k:=λe=>by subst e;rw[hn] at hj;cases hj
  rw[oh hne];exact hj
 ·exact Rl _ (λe=>by subst e;rw[hn] at hj;cases hj)
 ·have:aeg g:=by simp only[ow] at hq;rcases hq with⟨_,rfl,_⟩|⟨b,cap,cs,t,N',rfl,_⟩<;>exact⟨_,_,_,rfl⟩
  simp[aZ,kH,this]
def atC(hg:I7 base U w m G)(ho:∀r,r∈G.out->∃c,get r m=some c){k b:Nat}{T:TypeId}{vs:List V}{a:Array Value}{E:List Nat}(hE:(b::E).Perm G.E)
  (hH:eY w b=some (.cells a T (0,0))) (hq:dH G.μ m (Gh U w G) vs a.toList) {x:Unit} {m':Mem} {l l':Log} (h:(new k (.box T vs)).run m l=some (x,m',l')):
  ∃G',Grew base U w m G m' G' E/\aZ G'.μ m' (Gh U w G') (.ptr k 0) (.pointer (some ⟨b,0,none⟩)):=by
 obtain⟨hn,rfl⟩:=abY h;have hk:k ∉ G.out:=λhx=>by obtain⟨c,hc⟩:=ho k hx;rw[hn] at hc;cases hc
 have hnd:=hE.nodup_iff.2 hg.ndE;have hμ:∀j,j≠k->upM G.μ k (.pointer (some ⟨b,0,none⟩)) j=G.μ j:=λj e=>Rl _ e
 have hle:Jl G.μ m (upM G.μ k (.pointer (some ⟨b,0,none⟩))) (put k (.box T vs) m):=I8 hμ (λc h=>by rw[hn] at h;cases h);obtain⟨h1,h2⟩:=hg.set k (.box T vs) (upM G.μ k (.pointer (some ⟨b,0,none⟩))) [b] E G.out (by simpa using hnd) (λx hx=> .inr (hE.mem_iff.1 (by simpa using hx))) hle hμ (λ_ _=>Iff.rfl) (λh=>absurd h hk)
  (λhv _=>⟨b,a,TY _ _ _,hH,vO hle hv _ _ hq,rfl⟩)
 refine⟨_,⟨h1,h2,rfl,rfl,λj c hj=> ?_,λj c hj=> ?_⟩, ?_⟩
 ·rw[oh (λe=>by subst e;rw[hn] at hj;cases hj)];exact hj
 ·exact Rl _ (λe=>by subst e;rw[hn] at hj;cases hj)
 ·simp[aZ,kH,ays]
def ahC(hg:I7 base U w m G)(ho:∀r,r∈G.out->∃c,get r m=some c){row:Row}{j:Nat}{x:D}{g:Value}{N E:List Nat}(hE:(N++E).Perm G.E)(hx:nth row j=x)
  (hq:ow (eY w) (Gh U w G) x g N) {ct:CT} {own fl:Bool} {key:Nat} {v:V} {m':Mem} {l l':Log}
  (h:(TV own fl key row j ct).run m l=some (v,m',l')):
  ∃G',Grew base U w m G m' G' E/\aZ G'.μ m' (Gh U w G') v g:=by
 obtain⟨d1,d2,d3⟩:=hg.ajD hE;have plain:Grew base U w m G m {G with E:=E} E:=⟨d1,d2,rfl,rfl,λ_ _ h=>h,λ_ _ _=>rfl⟩
 have hro:=d3 hq;cases ct with
 |int k=>
  simp only[TV,jD,hx,Acc.run] at h;cases ha:asInt k x with
  |none=>simp[ha,Acc.run] at h
  |some n=>simp only[ha,Acc.run,kX,pW] at h;obtain⟨rfl,rfl,rfl⟩:=h;refine⟨_,plain, ?_⟩;rw[ajB ha] at hro;simpa[aZ] using hro
 |bool=>
  simp only[TV,amr,hx,Acc.run] at h;cases ha:asBool x with
  |none=>simp[ha,Acc.run] at h
  |some n=>simp only[ha,Acc.run,kX,pW] at h;obtain⟨rfl,rfl,rfl⟩:=h;refine⟨_,plain, ?_⟩;rw[ahB ha] at hro;simpa[aZ] using hro
 |str=>
  simp only[TV,cStr,hx,Acc.run] at h;cases ha:amq x with
  |none=>simp[ha,Acc.run] at h
  |some n=>simp only[ha,Acc.run,kX,pW] at h;obtain⟨rfl,rfl,rfl⟩:=h;refine⟨_,plain, ?_⟩;rw[ajC ha] at hro;simpa[aZ] using hro
 |other=>exact aI h
 |sl s=>
  cases own with
  |false=>
   simp only[TV,cSl,hx,Acc.run] at h;cases ha:ayk s x with
   |none=>simp[ha,Acc.run] at h
   |some n=>simp only[ha,Acc.run,kX,pW] at h;obtain⟨rfl,rfl,rfl⟩:=h;refine⟨_,plain, ?_⟩;obtain⟨o,rfl⟩:=amA ha;simp only[aZ];exact ajv hro
  |true=>
   simp only[TV,ayl,hx,Acc.run] at h;cases ha:ave s x with
   |none=>simp[ha,Acc.run] at h
   |some n=>simp only[ha,Acc.run] at h;have:=atB ha;subst this;replace h:=ay h;obtain⟨_,m1,l1,h1,h⟩:=h;obtain⟨rfl,rfl,rfl⟩:=ZN h;exact amB hg ho hE hq h1
def Oz{H:Heap}{h:View}{x:D}{r:Row}{cs:List Value}{N:List Nat}(q:jY H h (x::r) cs N):∃v cs' N1 N2,cs=v::cs'/\N=N1++N2/\ow H h x v N1/\jY H h r cs' N2:=by simpa[jY] using q
def agD{N1 N2 E E0:List Nat}(h:(N1++N2++E).Perm E0):(N1++(N2++E)).Perm E0:=by rwa [WC] at h
def ajE{own:List Nat}{r dst:Nat}{row:Row}:∀{cts:List CT} {fs:List Bool} {j:Nat} {m:Mem} {G:GS} {gs:List Value} {N E:List Nat} (_:I7 base U w m G) (_:∀r,r∈G.out->∃c,get r m=some c)
  (_:(N++E).Perm G.E) (_:jY (eY w) (Gh U w G) (row.drop j) gs N) (_:row.length=j+cts.length) (_:gs.length=cts.length) {vs:List V} {m':Mem} {l l':Log}
  (_:(afc own r dst row j cts fs).run m l=some (vs,m',l')),∃G',Grew base U w m G m' G' E/\dH G'.μ m' (Gh U w G') vs gs
 |[],fs,j,m,G,gs,N,E,hg,ho,hE,hq,hlen,hgl,vs,m',l,l',h=>by simp only[afc,run_pure,kX,pW] at h;obtain⟨rfl,rfl,rfl⟩:=h;rw[List.drop_eq_nil_of_le (by simp at hlen;omega)] at hq;simp only[jY] at hq;subst hq;simp at hgl;subst hgl;obtain⟨d1,d2,_⟩:=hg.ajD hE;exact⟨_,⟨d1,d2,rfl,rfl,λ_ _ h=>h,λ_ _ _=>rfl⟩,by simp[dH]⟩
 |ct::cts,fs,j,m,G,gs,N,E,hg,ho,hE,hq,hlen,hgl,vs,m',l,l',h=>by
  cases hd:row.drop j with
  |nil=>have:=congrArg List.length hd;simp at this hlen;omega
  |cons x rest=>obtain⟨hx,hrest⟩:=ap2 hd;rw[hd] at hq;obtain⟨g,gs',N1,N2,rfl,rfl,q1,q2⟩:=Oz hq;simp only[afc] at h;replace h:=ay h;obtain⟨v,m1,l1,h1,h⟩:=h;replace h:=ay h;obtain⟨vs',m2,l2,h2,h⟩:=h;obtain⟨rfl,rfl,rfl⟩:=ZN h;obtain⟨G1,t1,s1⟩:=ahC hg ho (agD hE) hx q1 h1;obtain⟨G2,t2,s2⟩:=ajE t1.ok (λk hk=>by rw[t1.out] at hk;obtain⟨c,hc⟩:=ho k hk;exact⟨c,t1.old k c hc⟩) (by rw[t1.E]) (by rw[hrest];exact aek t1.le.view q2) (by simp at hlen;omega) (by simpa using hgl) h2;refine⟨G2,t1.trans t2, ?_⟩;simp only[dH];exact⟨g,gs',rfl,t2.le.aZ s1,s2⟩
def aah{att:List Nat}{dst ri:Nat}{row:Row}:∀{cts:List CT} {fs:List Bool} {j:Nat} {m:Mem} {G:GS} {gs:List Value} {N E:List Nat} (_:I7 base U w m G) (_:∀r,r∈G.out->∃c,get r m=some c)
  (_:(N++E).Perm G.E) (_:jY (eY w) (Gh U w G) (row.drop j) gs N) (_:row.length=j+cts.length) (_:gs.length=cts.length) {vs:List V} {m':Mem} {l l':Log}
  (_:(XP att dst ri row j cts fs).run m l=some (vs,m',l')),∃G',Grew base U w m G m' G' E/\dH G'.μ m' (Gh U w G') vs gs
 |[],fs,j,m,G,gs,N,E,hg,ho,hE,hq,hlen,hgl,vs,m',l,l',h=>by simp only[XP,run_pure,kX,pW] at h;obtain⟨rfl,rfl,rfl⟩:=h;rw[List.drop_eq_nil_of_le (by simp at hlen;omega)] at hq;simp only[jY] at hq;subst hq;simp at hgl;subst hgl;obtain⟨d1,d2,_⟩:=hg.ajD hE;exact⟨_,⟨d1,d2,rfl,rfl,λ_ _ h=>h,λ_ _ _=>rfl⟩,by simp[dH]⟩
 |ct::cts,fs,j,m,G,gs,N,E,hg,ho,hE,hq,hlen,hgl,vs,m',l,l',h=>by
  cases hd:row.drop j with
  |nil=>have:=congrArg List.length hd;simp at this hlen;omega
  |cons x rest=>obtain⟨hx,hrest⟩:=ap2 hd;rw[hd] at hq;obtain⟨g,gs',N1,N2,rfl,rfl,q1,q2⟩:=Oz hq;simp only[XP] at h;replace h:=ay h;obtain⟨v,m1,l1,h1,h⟩:=h;replace h:=ay h;obtain⟨vs',m2,l2,h2,h⟩:=h;obtain⟨rfl,rfl,rfl⟩:=ZN h;obtain⟨G1,t1,s1⟩:=ahC hg ho (agD hE) hx q1 h1;obtain⟨G2,t2,s2⟩:=aah t1.ok (λk hk=>by rw[t1.out] at hk;obtain⟨c,hc⟩:=ho k hk;exact⟨c,t1.old k c hc⟩) (by rw[t1.E]) (by rw[hrest];exact aek t1.le.view q2) (by simp at hlen;omega) (by simpa using hgl) h2;refine⟨G2,t1.trans t2, ?_⟩;simp only[dH];exact⟨g,gs',rfl,t2.le.aZ s1,s2⟩
def valOf(P:Program)(t:TypeId)(cs:List Value)(g:Value):Prop:=if QW P t=true then g=.agg cs.toArray else cs=[g]
def ajF(P:Program)(H:Heap)(h:View)(t:TypeId)(row:Row)(g:Value)(N:List Nat):Prop:=match aoq P t with
 |some T=>∃b a N1,g=.pointer (some ⟨b,0,none⟩)/\H b=some (.cells a T (0,0))/\jY H h row a.toList N1/\row.length=a.size/\N=b::N1
 |none=>∃cs,valOf P t cs g/\jY H h row cs N/\row.length=cs.length
def amC{P:Program}{H H':Heap}{h h':View}(hl:h.le h'){t:TypeId}{row:Row}{g:Value}{N:List Nat}(hb:∀b,b∈N->H' b=H b)(q:ajF P H h t row g N):ajF P H' h' t row g N:=by
 unfold ajF at q|-;split at q
 ·obtain⟨b,a,N1,h1,h2,h3,h4,rfl⟩:=q;exact⟨b,a,N1,h1,(hb b (by simp)).trans h2,Rj hl _ _ _ (λb hx=>hb b (by simp[hx])) h3,h4,rfl⟩
 ·obtain⟨cs,h1,h2,h3⟩:=q;exact⟨cs,h1,Rj hl _ _ _ hb h2,h3⟩
def Ua{P:Program}{H:Heap}{h:View}{t:TypeId}{row:Row}{g:Value}{N:List Nat}(hp:aoq P t=none):ajF P H h t row g N↔∃cs,valOf P t cs g/\jY H h row cs N/\row.length=cs.length:=by simp only[ajF,hp]
def XT(P:Program)(H:Heap)(h:View):List TypeId->List Row->List Value->List Nat->Prop
 |[],rows,gs,N=>rows=[]/\gs=[]/\N=[]
 |t::ts,rows,gs,N=>∃row rows' g gs' N1 N2,rows=row::rows'/\gs=g::gs'/\N=N1++N2/\ajF P H h t row g N1/\XT P H h ts rows' gs' N2
def VD{P:Program}{H H':Heap}{h h':View}(hl:h.le h'):∀{ts:List TypeId} {rows:List Row} {gs:List Value} {N:List Nat},(∀b,b∈N->H' b=H b)->XT P H h ts rows gs N->XT P H' h' ts rows gs N
 |[],_,_,_,_,q=>q
 |t::ts,_,_,_,hb,⟨row,rows',g,gs',N1,N2,e1,e2,e3,h1,h4⟩=>by subst e3;exact⟨row,rows',g,gs',N1,N2,e1,e2,rfl,amC hl (λb hx=>hb b (by simp[hx])) h1,VD hl (λb hx=>hb b (by simp[hx])) h4⟩
def Rn{P:Program}{t:TypeId}{vs:List V}{v:V}(h:Po P t vs=some v){μ:Nat->Value}{hh:View}{cs:List Value}{g:Value}(hq:dH μ m hh vs cs)(hg:valOf P t cs g):aZ μ m hh v g:=by
 unfold Po at h;unfold valOf at hg;cases ha:QW P t with
 |true=>simp only[ha,aH,if_true,kX] at h hg;subst h;simp only[aZ];exact⟨_,hg,by simpa using hq⟩
 |false=>
  simp only[ha,bC,Bool.false_eq_true,if_false] at h hg;split at h
  ·cases h;obtain⟨g',gs',e,q1,q2⟩:=ql hq;rw[hg] at e;cases e;exact q1
  ·cases h
def alV{res:List Row}{ri:Nat}{row:Row}{rows:List Row}(h:res.drop ri=row::rows):ajn res ri=row/\res.drop (ri+1)=rows:=by
 have h1:res[ri]? =some row:=by
  have:(res.drop ri)[0]? =some row:=by rw[h];rfl
  rwa [List.getElem?_drop,Nat.add_zero] at this
 refine⟨by simp[ajn,h1], ?_⟩;rw[<-List.drop_drop,h];rfl
def awH{X:Ctx}{att:List Nat}{dst ri:Nat}{row:Row}{t:TypeId}{g:Value}{N E:List Nat}(hg:I7 base U w m G)(ho:∀r,r∈G.out->∃c,get r m=some c)
  (hE:(N++E).Perm G.E) (hq:ajF X.P (eY w) (Gh U w G) t row g N) {v:V} {m':Mem} {l l':Log}
  (h:(atw X att dst ri row t).run m l=some (v,m',l')):∃G',Grew base U w m G m' G' E/\aZ G'.μ m' (Gh U w G') v g:=by
 unfold ajF at hq;unfold atw at h;split at hq
 ·rename_i T hT;simp only[hT] at h;obtain⟨b,a,N1,rfl,h1,h2,h3,rfl⟩:=hq;replace h:=ay h;obtain⟨_,m1,l1,k1,h⟩:=h;obtain⟨hlen,rfl,rfl⟩:=iK k1;replace h:=ay h;obtain⟨vc,m2,l2,k2,h⟩:=h;replace h:=ay h;obtain⟨_,m3,l3,k3,h⟩:=h;simp only[run_pure,kX,pW] at h;obtain⟨rfl,rfl,rfl⟩:=h;have hlen:=I5 hlen;obtain⟨G1,t1,s1⟩:=aah (N:=N1) (E:=b::E) hg ho (by refine List.Perm.trans List.perm_middle ?_;exact hE) (by simpa using h2) (by simpa using hlen) (by rw[Array.length_toList,<-h3];exact hlen) k2;obtain⟨G2,t2,s2⟩:=atC t1.ok (λk hk=>by rw[t1.out] at hk;obtain⟨c,hc⟩:=ho k hk;exact⟨c,t1.old k c hc⟩) (by rw[t1.E]) h1 s1 k3;exact⟨G2,t1.trans t2,s2⟩
 ·rename_i hT;simp only[hT] at h;obtain⟨cs,h1,h2,h3⟩:=hq;replace h:=ay h;obtain⟨_,m1,l1,k1,h⟩:=h;obtain⟨hlen,rfl,rfl⟩:=iK k1;replace h:=ay h;obtain⟨vc,m2,l2,k2,h⟩:=h;obtain⟨hv,rfl,rfl⟩:=lW h;have hlen:=I5 hlen;obtain⟨G1,t1,s1⟩:=aah hg ho hE (by simpa using h2) (by simpa using hlen) (by rw[<-h3];exact hlen) k2;exact⟨G1,t1,Rn hv s1 h1⟩
def amD{X:Ctx}{att:List Nat}{dst:Nat}{res:List Row}:∀{ts:List TypeId} {ri:Nat} {m:Mem} {G:GS} {gs:List Value} {N E:List Nat} (_:I7 base U w m G) (_:∀r,r∈G.out->∃c,get r m=some c)
  (_:(N++E).Perm G.E) (_:XT X.P (eY w) (Gh U w G) ts (res.drop ri) gs N) {vs:List V} {m':Mem} {l l':Log}
  (_:(aeb X att dst res ri ts).run m l=some (vs,m',l')),∃G',Grew base U w m G m' G' E/\dH G'.μ m' (Gh U w G') vs gs
 |[],ri,m,G,gs,N,E,hg,ho,hE,hq,vs,m',l,l',h=>by simp only[aeb,run_pure,kX,pW] at h;obtain⟨rfl,rfl,rfl⟩:=h;obtain⟨_,rfl,rfl⟩:=hq;obtain⟨d1,d2,_⟩:=hg.ajD hE;exact⟨_,⟨d1,d2,rfl,rfl,λ_ _ h=>h,λ_ _ _=>rfl⟩,by simp[dH]⟩
 |t::ts,ri,m,G,gs,N,E,hg,ho,hE,hq,vs,m',l,l',h=>by obtain⟨row,rows',g,gs',N1,N2,e1,rfl,rfl,h1,h4⟩:=hq;obtain⟨hrow,hrest⟩:=alV e1;simp only[aeb] at h;replace h:=ay h;obtain⟨v,m3,l3,k3,h⟩:=h;replace h:=ay h;obtain⟨vs',m4,l4,k4,h⟩:=h;obtain⟨rfl,rfl,rfl⟩:=ZN h;rw[hrow] at k3;obtain⟨G1,t1,s1⟩:=awH hg ho (agD hE) h1 k3;obtain⟨G2,t2,s2⟩:=amD t1.ok (λk hk=>by rw[t1.out] at hk;obtain⟨c,hc⟩:=ho k hk;exact⟨c,t1.old k c hc⟩) (by rw[t1.E]) (by rw[hrest];exact VD t1.le.view (λ_ _=>rfl) h4) k4;refine⟨G2,t1.trans t2, ?_⟩;simp only[dH];exact⟨g,gs',rfl,t2.le.aZ s1,s2⟩
mutual
def aB1{H:Heap}{h h':View}:∀(x:D) (v:Value) (N:List Nat),x.pure=true->ow H h x v N->ow H h' x v N
 | .int _ _,_,_,_,q=>by simpa[ow] using q
 | .bool _,_,_,_,q=>by simpa[ow] using q
 | .str _,_,_,_,q=>by simpa[ow] using q
 | .ZL,_,_,_,q=>by simpa[ow] using q
 | .sl false s rows,v,N,hp,q=>by simp only[D.pure,List.isEmpty_iff] at hp;subst hp;simp only[ow,ro] at q|-;exact⟨q.1,by obtain⟨a,cap,h1,h2,_⟩:=q.2;exact⟨a,cap,h1,h2,λe=>absurd rfl e⟩⟩
 | .sl true s rows,v,N,hp,q=>by
  simp only[D.pure] at hp;simp only[ow] at q|-;rcases q with q|⟨b,cap,cs,t,N',h1,h2,h3,h4,h5,rfl⟩
  ·exact .inl q
  ·exact .inr ⟨b,cap,cs,t,N',h1,h2,h3,h4,ahD s rows _ N' hp h5,rfl⟩
def ahD{H:Heap}{h h':View}(s:Nat):∀(rows:List Row) (cs:List Value) (N:List Nat),Nh rows=true->jc H h s rows cs N->jc H h' s rows cs N
 |[],_,_,_,q=>by simpa[jc] using q
 |r::rs,cs,N,hp,q=>by simp only[Nh,BK] at hp;simp only[jc] at q|-;obtain⟨h1,N1,N2,rfl,h2,h3⟩:=q;exact⟨h1,N1,N2,rfl,YL r _ N1 hp.1 h2,ahD s rs _ N2 hp.2 h3⟩
def YL{H:Heap}{h h':View}:∀(r:Row) (cs:List Value) (N:List Nat),gI r=true->jY H h r cs N->jY H h' r cs N
 |[],_,_,_,q=>by simpa[jY] using q
 |x::r,cs,N,hp,q=>by simp only[gI,BK] at hp;simp only[jY] at q|-;obtain⟨v,cs',N1,N2,rfl,rfl,h2,h3⟩:=q;exact⟨v,cs',N1,N2,rfl,rfl,aB1 x v N1 hp.1 h2,YL r cs' N2 hp.2 h3⟩
end
def ajG{P:Program}{H:Heap}{h h':View}:∀{ts:List TypeId} {rows:List Row} {gs:List Value} {N:List Nat},rows.all gI=true->XT P H h ts rows gs N->XT P H h' ts rows gs N
 |[],_,_,_,_,q=>q
 |t::ts,_,_,_,hp,⟨row,rows',g,gs',N1,N2,e1,e2,e3,h1,h4⟩=>by
  subst e1;simp only[List.all_cons,BK] at hp;refine⟨row,rows',g,gs',N1,N2,rfl,e2,e3, ?_,ajG hp.2 h4⟩;unfold ajF at h1|-;split at h1
  ·obtain⟨b,a,M,k1,k2,k3,k4,k5⟩:=h1;exact⟨b,a,M,k1,k2,YL _ _ _ hp.1 k3,k4,k5⟩
  ·obtain⟨cs,k1,k2,k3⟩:=h1;exact⟨cs,k1,YL _ _ _ hp.1 k2,k3⟩
def drop_cons{α:Type}{l:List α}{i:Nat}{a:α}{r:List α}(h:l.drop i=a::r):l[i]? =some a/\l.drop (i+1)=r:=by
 refine⟨?_,by rw[<-List.drop_drop,h];rfl⟩;have:(l.drop i)[0]? =some a:=by rw[h];rfl
 rwa [List.getElem?_drop,Nat.add_zero] at this
def aGa(xs:List D):(xs.map V.d).map vD=xs:=by
 induction xs with
 |nil=>rfl
 |cons x xs ih=>simp[vD,ih]
def ajH{m m':Mem}(h:∀k c,get k m=some c->get k m'=some c):∀{rs:List Nat} {cs:List Cell},kinds m rs cs->kinds m' rs cs
 |[],_,q=>q
 |r::rs,_,⟨c,c',cs',h1,h2,h3,h4⟩=>⟨c,c',cs',h1,h r c h2,h3,ajH h h4⟩
def amE{m:Mem}{r:Nat}{c0:Cell}:∀{rs:List Nat} {cs:List Cell},r ∉ rs->kinds m rs cs->kinds (put r c0 m) rs cs
 |[],_,_,q=>q
 |k::rs,_,hr,⟨c,c',cs',h1,h2,h3,h4⟩=>by simp only[List.mem_cons,not_or] at hr;exact⟨c,c',cs',h1,by rw[oh (Ne.symm hr.1)];exact h2,h3,amE hr.2 h4⟩
structure Came(base:Nat)(U:Nat->Prop)(w:World)(m:Mem)(G:GS)(m':Mem)(G':GS)(E:List Nat):Prop where
 ok:I7 base U w m' G'
 le:GLe m G m' G'
 E:G'.E=E
 out:G'.out=[]
def Ub{H:Heap}{h h':View}(hl:h.le h'){cs:List Cell}{gs:List Value}{N:List Nat}(q:cellsB H h cs gs N):cellsB H h' cs gs N:=ahy hl (λ_ _=>rfl) q
def ajI{X:Ctx}{dst:Nat}{outs:List Cell}:∀{rs:List Nat} {i:Nat} {m:Mem} {G:GS} {N E:List Nat} (_:I7 base U w m G) (_:rs.Nodup) (_:G.out=rs) (_:kinds m rs (outs.drop i))
  (_:(N++E).Perm G.E) (_:cellsB (eY w) (Gh U w G) (outs.drop i) (rs.map G.μ) N) {x:Unit} {m':Mem} {l l':Log} (_:(aht X dst outs i rs).run m l=some (x,m',l')),
  ∃G',Came base U w m G m' G' E
 |[],i,m,G,N,E,hg,hn,ho,hk,hE,hq,x,m',l,l',h=>by simp only[aht,run_pure,kX,pW] at h;obtain⟨_,rfl,rfl⟩:=h;obtain⟨d1,d2,_⟩:=hg.ajD hE;exact⟨_,d1,d2,rfl,ho⟩
 |r::rs,i,m,G,N,E,hg,hn,ho,hk,hE,hq,x,m',l,l',h=>by
  obtain⟨c,c',cs',e1,hc,hsk,hk'⟩:=hk;have hnr:=List.nodup_cons.1 hn;obtain⟨hi,hdrop⟩:=drop_cons e1;rw[e1] at hq;obtain⟨g,gs',N1,N2,eg,rfl,q1,q2⟩:=hq;simp only[zmc,List.cons.injEq] at eg;obtain⟨rfl,rfl⟩:=eg;have hout:∀k,k∈G.out->∃c,get k m=some c:=by
   intro k hkm;rw[ho] at hkm;simp only[List.mem_cons] at hkm;rcases hkm with rfl|hkm
   ·exact⟨c,hc⟩
   ·obtain⟨j,hj⟩:=List.getElem?_of_mem hkm;obtain⟨c2,_,h2,_⟩:=ajA hk' hj;exact⟨c2,h2⟩
  simp only[aht] at h;replace h:=ay h;obtain⟨c0,m1,l1,h1,h⟩:=h;rw[Aj] at h1;cases h1;rw[hc] at h;cases c with
  |box t cs=>
   cases c' with
   |box t' vs=>
    obtain rfl:t=t':=hsk;obtain⟨b,a,xs,N',hμ,hH,hvs,hxl,hrow,rfl⟩:=q1;simp only at h;obtain⟨hbl,h⟩:=bck h;replace h:=ay h;obtain⟨vs',m3,l3,h3,h⟩:=h;replace h:=ay h;obtain⟨_,m4,l4,h4,h⟩:=h;rw[Py] at h4;cases h4;have hbx:ayp outs i=xs:=by simp only[ayp,hi,hvs];exact aGa xs
    have hbl:xs.length=(QZ X.P t).length:=by simp only[ayq,hi] at hbl;have:=I5 hbl;rw[hvs,List.length_map] at this;exact this
    rw[hbx] at h3;obtain⟨G1,t1,s1⟩:=ajE hg hout (N:=N') (E:=b::(N2++E)) (List.Perm.trans (by have:(N'++b::(N2++E)).Perm (b::(N'++(N2++E))):=List.perm_middle;refine this.trans ?_;simp[WC]) hE) (by simpa using hrow) (by simpa using hbl) (by rw[<-hxl];exact hbl) h3;have hc1:=t1.old r _ hc;have aJz:=t1.ok.ndE;rw[t1.E] at aJz;have hset:=t1.ok.set r (.box t vs') G1.μ [b] (N2++E) rs (by simpa using aJz) (λk hk=> .inr (by rw[t1.E];simpa using hk))
     (I8 (λ_ _=>rfl) (λc h=>by rw[hc1] at h;cases h;exact⟨rfl,rfl⟩)) (λ_ _=>rfl)
     (λk hne=>by rw[t1.out,ho];simp[hne]) (λhr=>absurd hr hnr.1)
     (λhv _=>⟨b,a,by rw[t1.μ r _ hc];exact hμ,hH,vO (I8 (λ_ _=>rfl) (λc h=>by rw[hc1] at h;cases h;exact⟨rfl,rfl⟩)) hv _ _ s1,rfl⟩)
    obtain⟨k1,k2⟩:=hset;obtain⟨G2,f1,f2,f3,f4⟩:=ajI k1 hnr.2 rfl (amE hnr.1 (ajH t1.old (by rw[hdrop];exact hk'))) (N:=N2) (E:=E) (List.Perm.refl _)
     (by
      rw[hdrop];have hmap:rs.map G1.μ=rs.map G.μ:=List.map_congr_left λk hk=>by obtain⟨c2,h2⟩:=hout k (by rw[ho];simp[hk]);exact t1.μ k c2 h2
      simp only[hmap];exact Ub (t1.le.view.trans' k2.view) q2) h
    exact⟨G2,f1,(t1.le.trans k2).trans f2,f3,f4⟩
   |_=>exact hsk.elim
  |arr fz fl ver s rows=>simp only at h;replace h:=ay h;obtain⟨_,m2,l2,h2,h⟩:=h;exact aI h2
  |_=>exact hsk.elim
def ayx{h:View}(s:List UInt8):∀(cs:List Value),cs=s.map (λb=>Value.int .u8 b.toNat)->jK h 1 (s.map byteRow) cs:=by
 induction s with
 |nil=>intro cs _;simp[jK]
 |cons b s ih=>intro cs e;subst e;simp only[zmc,jK,byteRow];exact⟨rfl,by simp[jM,ro],ih _ rfl⟩
end
def Xo(b o j:Nat):(⟨b,o,none⟩:Addr).add j=⟨b,o+j,none⟩:=by
 unfold Addr.add;split
 ·rename_i h;subst h;rfl
 ·rfl
def JV{P:Program}{t:TypeId}(h:Uw P t=true):∃d,P.underlying t=some d:=by
 unfold Uw at h;cases hu:P.underlying t with
 |none=>simp[hu] at h
 |some d=>exact⟨d,rfl⟩
def F6{P:Program}{t:TypeId}{d:TypeDesc}(h:P.underlying t=some d):∃i,P.info? t=some i:=by
 unfold Program.underlying at h;cases hi:P.info? t with
 |none=>simp[hi] at h
 |some i=>exact⟨i,rfl⟩
def Pz{P:Program}{t:TypeId}{i:TypeInfo}(h:P.info? t=some i):uf P t=i.size:=by simp[uf,h]
section
variable {P:Program} {w:World}
def XU{t:TypeId}{d:TypeDesc}(h:P.underlying t=some d)(w:World):(isAgg t).run P w=.ok (QW P t) w:=by unfold isAgg QW;rw[Sem.run_bind,run_underlying h w,h];cases d<;>rfl
def VE{t:TypeId}{b off:Nat}{cs:List Value}{g:Value}(hok:Uw P t=true)(hlen:cs.length=uf P t)(hc:∀j v,cs[j]? =some v->w.cell? ⟨b,off+j,none⟩=some v)(hg:valOf P t cs g):
  (Instr.loadAt t (.pointer (some ⟨b,off,none⟩))).run P w=.ok g w:=by
 obtain⟨d,hd⟩:=JV hok;obtain⟨i,hi⟩:=F6 hd;have hsz:i.size=cs.length:=by rw[hlen,Pz hi]
 unfold Instr.loadAt Instr.sureAddr;simp only[Sem.run_bind,Sem.run_pure,Result.andThen_ok,loadVar,XU hd];unfold valOf at hg;cases ha:QW P t with
 |true=>simp only[ha,if_true] at hg;subst hg;have hl:=run_loadCells_list (P:=P) w ⟨b,off,none⟩ cs (λj v hv=>by rw[Xo];exact hc j v hv);simp[sizeOf,typeInfo,hi,hsz,hl]
 |false=>simp only[ha,Bool.false_eq_true,if_false] at hg;subst hg;have:=hc 0 g rfl;simp only[Nat.add_zero] at this;simp[this]
def ahE{t T:TypeId}{b off:Nat}{cur:Array Value}{g:Value}(hok:Uw P t=true)(hH:w.heap[b]? =some (.cells cur T (0,0)))(hlen:g.cells.size=uf P t)(hfit:off+g.cells.size<=cur.size)(h1:∀v∈g.cells.toList,v.oneCell'=true):
  (Instr.storeAt t (.pointer (some ⟨b,off,none⟩)) g).run P w=.ok () (w.setRow b (splice cur.toList off g.cells.toList).toArray):=by
 obtain⟨d,hd⟩:=JV hok;obtain⟨i,hi⟩:=F6 hd;have hsz:g.cells.size=i.size:=by rw[hlen,Pz hi]
 have hst:=run_storeCells_at P b off T g.cells.toList 0 cur w hH (by simpa using hfit) h1;simp only[Nat.add_zero] at hst;unfold Instr.storeAt Instr.sureAddr;simp only[Sem.run_bind,Sem.run_pure,Result.andThen_ok,storeVar,sizeOf,typeInfo,run_program,hi];simp[hsz,hst,splice]
def aai{T:TypeId}{f b off o n:Nat}{t:TypeId}(hf:YI P T f=some (o,n,t))(hn:1<=n):
  (Instr.fieldAt T (.pointer (some ⟨b,off,none⟩)) f).run P w=.ok (.pointer (some ⟨b,off+o,none⟩)) w:=by
 unfold YI at hf;cases hu:P.underlying T with
 |none=>simp[hu] at hf
 |some d=>
  rw[hu] at hf;cases d with
  |struct fs=>
   simp only at hf;cases hfd:fs[f]? with
   |none=>simp[hfd] at hf
   |some fd=>
    simp only[hfd,kX,pW] at hf;obtain⟨rfl,rfl,rfl⟩:=hf;cases hi:P.info? fd.type with
    |none=>simp[uf,hi] at hn
    |some i=>
     have hne:i.size≠0:=by rw[Pz hi] at hn;omega
     unfold Instr.fieldAt;simp[run_underlying hu,hfd,Instr.sureAddr,fieldPlace,sizeOf,typeInfo,hi,hne,Xo]
  |_=>simp at hf
def XV{t e:TypeId}(h:elT P t=some e):P.underlying t=some (.slice e):=by
 unfold elT at h;cases hu:P.underlying t with
 |none=>simp[hu] at h
 |some d=>rw[hu] at h;cases d<;>simp at h;rw[h]
def run_indexAt{t e:TypeId}{k:IntKind}{i:Int}{b o n cap:Nat}(he:elT P t=some e){inf:TypeInfo}(hi:P.info? e=some inf)(h0:0<=i)(hn:i<n):
  (Instr.indexAt t (.slice (some ⟨b,o,none⟩) n cap) (.int k i)).run P w=.ok (.pointer (some ⟨b,o+i.toNat * inf.size,none⟩)) w:=by
 have hu:=XV he;have hc:0<=i/\i<(n:Int):=⟨h0,hn⟩
 unfold Instr.indexAt;simp[asIntOf,run_underlying hu,hc,sizeOf,typeInfo,hi,Xo]
structure Src(P:Program)(size:Nat)(w:World)(y:Value)(m:Nat)(news:List Value):Prop where
 len:(Builtin.lenOf y).run P w=.ok m w
 get:(Builtin.firstCells size m y).run P w=.ok news.toArray w
 lend:(Builtin.lenOf y).run P w.drew=.ok m w.drew
 aJA:(Builtin.firstCells size m y).run P w.drew=.ok news.toArray w.drew
 n:news.length=m * size
 one:∀u∈news,u.oneCell'=true
def Src.slice{size:Nat}{a:Option Addr}{m c:Nat}{news:List Value}(hl:news.length=m * size)(h1:∀u∈news,u.oneCell'=true)
  (h:m≠0->∃b o,a=some ⟨b,o,none⟩/\∀j v,news[j]? =some v->w.cell? ⟨b,o+j,none⟩=some v):Src P size w (.slice a m c) m news:=by
 have key:∀w':World,(∀x,w'.cell? x=w.cell? x)->(Builtin.firstCells size m (.slice a m c)).run P w'=.ok news.toArray w':=by
  intro w' hw
  by_cases hm:m=0
  ·subst hm;have:news=[]:=List.eq_nil_of_length_eq_zero (by simpa using hl);subst this;cases a with
   |none=>simp[Builtin.firstCells]
   |some a=>simp[Builtin.firstCells,loadCells,loadCellsFrom]
  ·obtain⟨b,o,rfl,hc⟩:=h hm;exact run_firstCells_some (P:=P) w' size m ⟨b,o,none⟩ m c news hl (λj v hv=>by rw[Xo,hw];exact hc j v hv)
 exact⟨by simp[Builtin.lenOf],key w (λ_=>rfl),by simp[Builtin.lenOf],key w.drew (λx=>rfl),hl,h1⟩
def Src.string{s:List UInt8}:Src P 1 w (.string ⟨⟨s⟩⟩) s.length (s.map λb=>Value.int .u8 b.toNat):=by
 have hsz:(⟨⟨s⟩⟩:ByteArray).size=s.length:=rfl;have hex:((⟨⟨s⟩⟩:ByteArray).extract 0 s.length)=⟨⟨s⟩⟩:=by rw[<-hsz];apply ByteArray.ext;simp[ByteArray.data_extract]
 have hm:(Array.map (λb:UInt8=>Value.int .u8 (b.toNat:Int)) ⟨s⟩)=(s.map λb=>Value.int .u8 (b.toNat:Int)).toArray:=by apply Array.ext';simp
 refine⟨by simp[Builtin.lenOf,hsz],by simp[Builtin.firstCells,hex,hm],by simp[Builtin.lenOf,hsz],by simp[Builtin.firstCells,hex,hm],by simp, ?_⟩;intro u hu;simp only[List.mem_map] at hu;obtain⟨b,_,rfl⟩:=hu;rfl
def Zo{t ty y e:TypeId}{inf:TypeInfo}{z gy:Value}{m:Nat}{news:List Value}(he:P.underlying t=some (.slice e))(hty:(∃e',P.underlying y=some (.slice e'))\/P.underlying y=some .string)
  (hi:P.info? e=some inf) (hz:inf.zero=some z) (hs:Src P inf.size w gy m news) (hm:m≠0) (h63:m<=140737488355328) (hb:m * inf.bytes<=140737488355328):
  ∃cap,m<=cap/\(Builtin.append_ #[t,y] ty #[.slice none 0 0,gy]).run P w=.ok (.slice (some ⟨w.heap.size,0,none⟩) m cap) (w.drew.alloc (.cells (news.toArray++Builtin.zeroCells z.cells (cap - m)) e)):=by
 have h63':¬(9223372036854775807<(m:Int)):=ak;have h48':¬(281474976710656<Builtin.nextslicecap m 0 * inf.bytes):=by rw[nextslicecap_zero ak];omega
 refine⟨grownCap w m 0 e,grownCap_ge w m 0 e, ?_⟩;rcases hty with⟨e',hd⟩|hd<;>simp[Builtin.append_,run_underlying he,run_underlying hd,sizeOf,typeInfo,zeroValue,hi,hz,hs.len,hm,h63',h48',Question.forced,run_firstCells_none,hs.aJA,newRow,grownCap]
def Zp{t ty y e:TypeId}{inf:TypeInfo}{gy:Value}{news:List Value}(he:P.underlying t=some (.slice e))(hty:(∃e',P.underlying y=some (.slice e'))\/P.underlying y=some .string)
  (hi:P.info? e=some inf) (hs:Src P inf.size w gy 0 news):
  (Builtin.append_ #[t,y] ty #[.slice none 0 0,gy]).run P w=.ok (.slice none 0 0) w:=by
 rcases hty with⟨e',hd⟩|hd<;>simp[Builtin.append_,run_underlying he,run_underlying hd,sizeOf,typeInfo,hi,hs.len,hs.get]
def run_append_fits{t ty y e T:TypeId}{inf:TypeInfo}{gy:Value}{b n m cap:Nat}{cur:Array Value}{news:List Value}(he:P.underlying t=some (.slice e))(hty:(∃e',P.underlying y=some (.slice e'))\/P.underlying y=some .string)
  (hi:P.info? e=some inf) (hs:Src P inf.size w gy m news) (hH:w.heap[b]? =some (.cells cur T (0,0))) (hroom:n+m<=cap) (hc:cur.size=cap * inf.size):
  (Builtin.append_ #[t,y] ty #[.slice (some ⟨b,0,none⟩) n cap,gy]).run P w=.ok (.slice (some ⟨b,0,none⟩) (n+m) cap) (w.setRow b (splice cur.toList (n * inf.size) news).toArray):=by
 have hfit:n * inf.size+0+news.length<=cur.size:=by rw[hs.n,hc,Nat.add_zero,<-Nat.add_mul];exact Nat.mul_le_mul_right _ hroom
 have hst:=run_storeCells_at P b (n * inf.size) T news 0 cur w hH hfit hs.one;simp only[Nat.add_zero] at hst;rcases hty with⟨e',hd⟩|hd<;>simp[Builtin.append_,run_underlying he,run_underlying hd,sizeOf,typeInfo,hi,hs.len,hroom,hs.get,Xo,hst,splice]
def ais{t ty y e:TypeId}{inf:TypeInfo}{z gy:Value}{b n m cap:Nat}{olds news:List Value}(he:P.underlying t=some (.slice e))(hty:(∃e',P.underlying y=some (.slice e'))\/P.underlying y=some .string)
  (hi:P.info? e=some inf) (hz:inf.zero=some z) (hs:Src P inf.size w gy m news) (hl:olds.length=n * inf.size) (ho:∀j v,olds[j]? =some v->w.cell? ⟨b,0+j,none⟩=some v) (hroom:cap<n+m) (h63:n+m<=140737488355328) (hb:(n+m) * inf.bytes<=140737488355328):
  ∃cap',n+m<=cap'/\(Builtin.append_ #[t,y] ty #[.slice (some ⟨b,0,none⟩) n cap,gy]).run P w=.ok (.slice (some ⟨w.heap.size,0,none⟩) (n+m) cap') (w.drew.alloc (.cells ((olds++news).toArray++Builtin.zeroCells z.cells (cap' - (n+m))) e)):=by
 have hn:¬(n+m<=cap):=ak;have h63':¬(9223372036854775807<((n:Int)+(m:Int))):=ak;have h48':¬(281474976710656<Builtin.nextslicecap (n+m) cap * inf.bytes):=by have:=growslice_fits hroom hb;omega
 have hfo:=run_firstCells_some (P:=P) w.drew inf.size n ⟨b,0,none⟩ n cap olds hl (λj v hv=>by rw[Xo];exact ho j v hv);refine⟨grownCap w (n+m) cap e,grownCap_ge w (n+m) cap e, ?_⟩;rcases hty with⟨e',hd⟩|hd<;>simp[Builtin.append_,run_underlying he,run_underlying hd,sizeOf,typeInfo,zeroValue,hi,hz,hs.len,hn,h63',h48',Question.forced,hfo,hs.aJA,newRow,grownCap]<;>
  (congr 2;apply Array.ext';simp[WC])
end
open Go
structure Fr(M0:List Nat)(w0 w:World)(G:GS):Prop where
 keep:Keep M0 w0 w
 fr:∀b,excl G.F G.E b->b∈M0\/w0.heap.size<=b
structure Nx(base:Nat)(U:Nat->Prop)(M0:List Nat)(w0 w:World)(m:Mem)(G:GS)(w':World)(m':Mem)(G':GS):Prop where
 ok:I7 base U w' m' G'
 E:G'.E=[]
 out:G'.out=[]
 mem:Jl G.μ m G'.μ m'
 view:(Gh U w G).le (Gh U w' G')
 fr:Fr M0 w0 w' G'
structure At(base:Nat)(U:Nat->Prop)(M0:List Nat)(w0 w:World)(m:Mem)(G:GS):Prop where
 ok:I7 base U w m G
 E:G.E=[]
 out:G.out=[]
 fr:Fr M0 w0 w G
def Uc{P:Program}{o:Oper}{a:Act}{w w':World}{K:Act->World->Prop}{Q:Exit->Act->World->Prop}{g:Value}(h:(execOp a.eval o).run P w=.ok (.value g) w')(hn:K (a.put o.dst g) w'):o.wp P a w K Q:=by unfold Oper.wp;rw[h];exact hn
def wp_skip{P:Program}{o:Oper}{a:Act}{w w':World}{K:Act->World->Prop}{Q:Exit->Act->World->Prop}(h:(execOp a.eval o).run P w=.ok .skip w')(hn:K (a.put o.dst undef) w'):o.wp P a w K Q:=by unfold Oper.wp;rw[h];exact hn
section
variable {base:Nat} {U:Nat->Prop} {M0:List Nat} {w0 w w':World} {m m':Mem} {G G':GS} {P:Program}
def At.nx(h:At base U M0 w0 w m G):Nx base U M0 w0 w m G w m G:=⟨h.ok,h.E,h.out,vN _ _,View.le_refl _,h.fr⟩
def Nx.at_(h:Nx base U M0 w0 w m G w' m' G'):At base U M0 w0 w' m' G':=⟨h.ok,h.E,h.out,h.fr⟩
def Nx.trans{w2:World}{m2:Mem}{G2:GS}(h:Nx base U M0 w0 w m G w' m' G')(k:Nx base U M0 w0 w' m' G' w2 m2 G2):Nx base U M0 w0 w m G w2 m2 G2:=
 ⟨k.ok,k.E,k.out,yL h.mem k.mem,h.view.trans' k.view,k.fr⟩
def Nx.aZ(h:Nx base U M0 w0 w m G w' m' G'){v:V}{g:Value}(q:aZ G.μ m (Gh U w G) v g):aZ G'.μ m' (Gh U w' G') v g:=Dv h.mem h.view v g q
def Nx.dH(h:Nx base U M0 w0 w m G w' m' G'){v:List V}{g:List Value}(q:dH G.μ m (Gh U w G) v g):dH G'.μ m' (Gh U w' G') v g:=vO h.mem h.view v g q
def Fr.less(h:Fr M0 w0 w G)(hx:∀b,excl G'.F G'.E b->excl G.F G.E b):Fr M0 w0 w G':=⟨h.keep,λb hb=>h.fr b (hx b hb)⟩
def At.still(h:At base U M0 w0 w m G)(hg:I7 base U w m' G')(hl:GLe m G m' G')(ho:G'.out=[]):
  Nx base U M0 w0 w m G w m' {G' with E:=[]}:=by
 obtain⟨k1,k2⟩:=hg.less [] (by simp) (by simp);have:=hl.trans k2;exact⟨k1,rfl,ho,this.mem,this.view,h.fr.less this.ex⟩
def PD{μ:Nat->Value}{h:View}:∀{a b:List V} {g k:List Value},dH μ m h a g->dH μ m h b k->dH μ m h (a++b) (g++k)
 |[],b,g,k,ha,hb=>by simp only[dH] at ha;subst ha;simpa using hb
 |v::a,b,g,k,ha,hb=>by obtain⟨g0,g',rfl,h1,h2⟩:=ql ha;simp only[zca,dH];exact⟨g0,g'++k,rfl,h1,PD h2 hb⟩
def aem{μ:Nat->Value}{h:View}:∀{a:List V} {g:List Value} (n:Nat),dH μ m h a g->dH μ m h (a.drop n) (g.drop n)
 |a,g,0,ha=>by simpa using ha
 |[],g,n+1,ha=>by simp only[dH] at ha;subst ha;simp[dH]
 |v::a,g,n+1,ha=>by obtain⟨g0,g',rfl,h1,h2⟩:=ql ha;simpa using aem n h2
def aen{μ:Nat->Value}{h:View}:∀{a:List V} {g:List Value} (n:Nat),dH μ m h a g->dH μ m h (a.take n) (g.take n)
 |a,g,0,ha=>by simp[dH]
 |[],g,n+1,ha=>by simp only[dH] at ha;subst ha;simp[dH]
 |v::a,g,n+1,ha=>by obtain⟨g0,g',rfl,h1,h2⟩:=ql ha;simp only[List.take_succ_cons,dH];exact⟨g0,g'.take n,rfl,h1,aen n h2⟩
def ajJ{μ:Nat->Value}{h:View}{a:List V}{g:List Value}(o n:Nat)(q:dH μ m h a g):dH μ m h (part a o n) ((g.drop o).take n):=aen n (aem o q)
def YM{μ:Nat->Value}{h:View}{a b:List V}{g k:List Value}(o:Nat)(q:dH μ m h a g)(q':dH μ m h b k):dH μ m h (splice a o b) (splice g o k):=by have hl:k.length=b.length:=lC q';unfold splice;rw[hl];exact PD (PD (aen o q) q') (aem _ q)
def abZ{μ:Nat->Value}{h:View}:∀{a:List V} {g:List Value} {i:Nat} {v:V},dH μ m h a g->a[i]? =some v->∃x,g[i]? =some x/\aZ μ m h v x
 |[],g,i,v,ha,hi=>by simp at hi
 |v0::a,g,i,v,ha,hi=>by
  obtain⟨g0,g',rfl,h1,h2⟩:=ql ha;cases i with
  |zero=>simp at hi;subst hi;exact⟨g0,rfl,h1⟩
  |succ i=>simpa using abZ h2 (by simpa using hi)
def ap3{t:TypeId}{vs:List V}{v:V}(h:Po P t vs=some v){μ:Nat->Value}{hh:View}{cs:List Value}(hq:dH μ m hh vs cs):∃g,valOf P t cs g:=by
 unfold Po at h;unfold valOf;cases ha:QW P t with
 |true=>exact⟨_,by simp;rfl⟩
 |false=>
  simp only[ha,bC] at h;split at h
  ·obtain⟨g',gs',e,q1,q2⟩:=ql hq;simp only[dH] at q2;subst q2;exact⟨g',by simpa using e⟩
  ·cases h
def Xq{h:View}{x:D}{g:Value}(q:ro h x g):g.oneCell'=true:=by
 cases x with
 |sl o s rows=>simp only[ro] at q;obtain⟨a,cap,rfl,_⟩:=q;rfl
 |_=>simp only[ro] at q;subst q;rfl
def aB2{row:Row}{j:Nat}{x:D}(h:nth row j=x)(hx:x≠.ZL):row[j]? =some x:=by
 unfold nth at h;cases hr:row[j]? with
 |none=>rw[hr] at h;exact absurd h.symm hx
 |some y=>rw[hr] at h;exact congrArg some h
def awI{s:Nat}{x:D}{rows:List Row}(h:aBS s x=some rows):∃o,x=.sl o s rows/\(o=false\/rows=[]):=by
 cases x<;>simp[aBS] at h;rename_i o s' rows'
 by_cases e:s'=s
 ·subst e;simp at h;cases o with
  |false=>simp at h;subst h;exact⟨false,rfl,.inl rfl⟩
  |true=>
   cases rows' with
   |nil=>simp at h;subst h;exact⟨true,rfl,.inr rfl⟩
   |cons _ _=>simp at h
 ·rw[zH e] at h;simp at h
def agE{strict:Bool}{row:Row}{μ:Nat->Value}{h:View}(cell:Nat->Option Value)(Rel:D->Value->Prop)(hrow:∀k x,row[k]? =some x->∃g,cell k=some g/\Rel x g)
  (hint:∀k n g,Rel (.int k n) g->g=.int k n) (aE4:∀b g,Rel (.bool b) g->g=.bool b) (hstr:∀s g,Rel (.str s) g->g=.string ⟨⟨s⟩⟩)
  (hsl:∀o s rs g,Rel (.sl o s rs) g->(strict=true->o=false\/rs=[])->ro h (.sl false s rs) g):
  ∀(cts:List CT) (j:Nat) (c:List V->Acc V) (m0:Mem) (l:Log) (r:V×Mem×Log),(Rh strict cts row j c).run m0 l=some r->
   ∃vs cs,(c vs).run m0 l=some r/\cs.length=cts.length/\dH μ m h vs cs/\∀i g,cs[i]? =some g->cell (j+i)=some g
 |[],j,c,m0,l,r,hr=>⟨[],[],hr,rfl,by simp[dH],by simp⟩
 |ct::cts,j,c,m0,l,r,hr=>by
  have go:∀(x:D) (y:V),nth row j=x->x≠.ZL->(∀g,Rel x g->aZ μ m h y g)->(Rh strict cts row (j+1) λvs=>c (y::vs)).run m0 l=some r->
    ∃vs cs,(c vs).run m0 l=some r/\cs.length=(ct::cts).length/\dH μ m h vs cs/\∀i g,cs[i]? =some g->cell (j+i)=some g:=by
   intro x y hx hxn hs hr;obtain⟨g,hg,hrel⟩:=hrow j x (aB2 hx hxn);obtain⟨vs,cs,h1,h2,h3,h4⟩:=agE cell Rel hrow hint aE4 hstr hsl cts (j+1) _ m0 l r hr;refine⟨y::vs,g::cs,h1,by simp[h2],by simp only[dH];exact⟨g,cs,rfl,hs g hrel,h3⟩, ?_⟩;intro i g' hi;cases i with
   |zero=>simp at hi;subst hi;exact hg
   |succ i=>have:=h4 i g' (by simpa using hi);rw[show j+(i+1)=j+1+i from by omega];exact this
  cases ct with
  |int k=>
   simp only[Rh,Acc.run,jD] at hr;cases ha:asInt k (nth row j) with
   |none=>simp[ha,Acc.run] at hr
   |some n=>simp only[ha,Acc.run] at hr;exact go _ _ (ajB ha) (by simp) (λg hg=>by rw[hint _ _ g hg];simp[aZ,ro]) hr
  |bool=>
   simp only[Rh,Acc.run,amr] at hr;cases ha:asBool (nth row j) with
   |none=>simp[ha,Acc.run] at hr
   |some n=>simp only[ha,Acc.run] at hr;exact go _ _ (ahB ha) (by simp) (λg hg=>by rw[aE4 _ g hg];simp[aZ,ro]) hr
  |str=>
   simp only[Rh,Acc.run,cStr] at hr;cases ha:amq (nth row j) with
   |none=>simp[ha,Acc.run] at hr
   |some n=>simp only[ha,Acc.run] at hr;exact go _ _ (ajC ha) (by simp) (λg hg=>by rw[hstr _ g hg];simp[aZ,ro]) hr
  |other=>simp[Rh,Acc.run] at hr
  |sl s=>
   simp only[Rh,Acc.run,cRo,cSl] at hr;cases strict with
   |true=>
    simp only[aH] at hr;cases ha:aBS s (nth row j) with
    |none=>simp[ha,Acc.run] at hr
    |some n=>simp only[ha,Acc.run] at hr;obtain⟨o,hx,ho⟩:=awI ha;exact go _ _ hx (by simp) (λg hg=>by simp only[aZ];exact hsl _ _ _ g hg (λ_=>ho)) hr
   |false=>
    simp only[bC] at hr;cases ha:ayk s (nth row j) with
    |none=>simp[ha,Acc.run] at hr
    |some n=>simp only[ha,Acc.run] at hr;obtain⟨o,hx⟩:=amA ha;exact go _ _ hx (by simp) (λg hg=>by simp only[aZ];exact hsl _ _ _ g hg (λh=>by cases h)) hr
def agF{h:View}{b:Nat}:∀{r:Row} {o k:Nat} {x:D},BL h r b o->r[k]? =some x->∃g,h b (o+k)=some g/\ro h x g
 |[],_,_,_,_,hk=>by simp at hk
 |y::r,o,0,x,q,hk=>by simp only[BL] at q;simp at hk;subst hk;simpa using q.1
 |y::r,o,k+1,x,q,hk=>by
  simp only[BL] at q;have:=agF q.2 (by simpa using hk)
  rwa [show o+(k+1)=o+1+k from by omega]
def ahF{h:View}:∀{r:Row} {cs:List Value} {k:Nat} {x:D},jM h r cs->r[k]? =some x->∃g,cs[k]? =some g/\ro h x g
 |[],_,_,_,_,hk=>by simp at hk
 |y::r,cs,0,x,⟨v,cs',e,h1,h2⟩,hk=>by simp at hk;subst hk;subst e;exact⟨v,rfl,h1⟩
 |y::r,cs,k+1,x,⟨v,cs',e,h1,h2⟩,hk=>by subst e;simpa using ahF h2 (by simpa using hk)
def amF{H:Heap}{h:View}:∀{r:Row} {cs:List Value} {N:List Nat} {k:Nat} {x:D},jY H h r cs N->r[k]? =some x->∃g N1,cs[k]? =some g/\ow H h x g N1
 |[],_,_,_,_,_,hk=>by simp at hk
 |y::r,cs,N,0,x,q,hk=>by obtain⟨v,cs',N1,N2,rfl,rfl,h1,h2⟩:=Oz q;simp at hk;subst hk;exact⟨v,N1,rfl,h1⟩
 |y::r,cs,N,k+1,x,q,hk=>by obtain⟨v,cs',N1,N2,rfl,rfl,h1,h2⟩:=Oz q;simpa using amF h2 (by simpa using hk)
def OA{h:View}{s b:Nat}:∀{rs:List Row} {o k:Nat} {r:Row},sJ h s rs b o->rs[k]? =some r->r.length=s/\BL h r b (o+k * s)
 |[],_,_,_,_,hk=>by simp at hk
 |y::rs,o,0,x,q,hk=>by simp only[sJ] at q;simp at hk;subst hk;simpa using⟨q.1,q.2.1⟩
 |y::rs,o,k+1,x,q,hk=>by
  simp only[sJ] at q;have:=OA q.2.2 (by simpa using hk)
  rwa [show o+(k+1) * s=o+s+k * s from by rw[Nat.add_mul];omega]
def afl{h:View}{s:Nat}:∀{rs:List Row} {cs:List Value} {k:Nat} {r:Row},jK h s rs cs->rs[k]? =some r->r.length=s/\jM h r (cs.drop (k * s))
 |[],_,_,_,_,hk=>by simp at hk
 |y::rs,cs,0,x,q,hk=>by simp at hk;subst hk;simpa using⟨q.1,q.2.1⟩
 |y::rs,cs,k+1,x,q,hk=>by
  have:=afl q.2.2 (by simpa using hk);rw[List.drop_drop] at this
  rwa [show(k+1) * s=s+k * s from by rw[Nat.add_mul];omega]
def ajK{H:Heap}{h:View}{s:Nat}:∀{rs:List Row} {cs:List Value} {N:List Nat} {k:Nat} {r:Row},jc H h s rs cs N->rs[k]? =some r->r.length=s/\∃N1,jY H h r (cs.drop (k * s)) N1
 |[],_,_,_,_,_,hk=>by simp at hk
 |y::rs,cs,N,0,x,q,hk=>by simp only[jc] at q;obtain⟨h1,N1,N2,rfl,h2,h3⟩:=q;simp at hk;subst hk;exact⟨h1,N1,by simpa using h2⟩
 |y::rs,cs,N,k+1,x,q,hk=>by
  simp only[jc] at q;obtain⟨h1,N1,N2,rfl,h2,h3⟩:=q;have:=ajK h3 (by simpa using hk);rw[List.drop_drop] at this
  rwa [show(k+1) * s=s+k * s from by rw[Nat.add_mul];omega]
def avj{h:View}{fz fl:Bool}{ver s:Nat}{rows:List Row}{r i:Nat}{row:Row}{N:List Nat}(hq:vM G.μ m (eY w) h r (.arr fz fl ver s rows) N)(hl:h.le (full w))(hi:rows[i]? =some row):
  ∃b o cap,G.μ r=.slice (some ⟨b,o,none⟩) rows.length cap/\(fz=false->o=0)/\row.length=s/\
   ∃Rel:D->Value->Prop,(∀k x,row[k]? =some x->∃g,full w b (o+i * s+k)=some g/\Rel x g)/\
   (∀k n g,Rel (.int k n) g->g=.int k n)/\(∀b g,Rel (.bool b) g->g=.bool b)/\(∀s g,Rel (.str s) g->g=.string ⟨⟨s⟩⟩)/\
   (∀o s rs g,Rel (.sl o s rs) g->(o=false\/rs=[])->ro h (.sl false s rs) g):=by
 have hne:rows≠[]:=by intro e;subst e;simp at hi
 cases fz with
 |true=>
  obtain⟨h1,_⟩:=hq;simp only[ro] at h1;obtain⟨a,cap,h2,h3,h4⟩:=h1;obtain⟨b,o,rfl,h5⟩:=h4 hne;obtain⟨h6,h7⟩:=OA h5 hi;refine⟨b,o,cap,h2,by simp,h6,ro h,λk x hk=> ?_, ?_, ?_, ?_, ?_⟩
  ·obtain⟨g,hg1,hg2⟩:=agF h7 hk;exact⟨g,hl _ _ _ hg1,hg2⟩
  ·intro k n g hg;simpa[ro] using hg
  ·intro b g hg;simpa[ro] using hg
  ·intro s g hg;simpa[ro] using hg
  ·intro o s rs g hg _;exact aej hg
 |false=>
  simp only[vM] at hq;rcases hq with⟨rfl,_,_⟩|⟨b,cap,cs,t,N',h1,h2,h3,h4,h5,_⟩
  ·exact absurd rfl hne
  ·have hfull:∀k g,(cs.toList.drop (i * s))[k]? =some g->full w b (0+i * s+k)=some g:=by intro k g hg;rw[List.getElem?_drop] at hg;rw[full_cell h3,Nat.zero_add];exact hg
   cases fl with
   |true=>
    obtain⟨h6,h7⟩:=afl h5.1 hi;refine⟨b,0,cap,h1,by simp,h6,ro h,λk x hk=> ?_, ?_, ?_, ?_, ?_⟩
    ·obtain⟨g,hg1,hg2⟩:=ahF h7 hk;exact⟨g,hfull k g hg1,hg2⟩
    ·intro k n g hg;simpa[ro] using hg
    ·intro b g hg;simpa[ro] using hg
    ·intro s g hg;simpa[ro] using hg
    ·intro o s rs g hg _;exact aej hg
   |false=>
    obtain⟨h6,N1,h7⟩:=ajK h5 hi;refine⟨b,0,cap,h1,by simp,h6,λx g=>∃N,ow (eY w) h x g N,λk x hk=> ?_, ?_, ?_, ?_, ?_⟩
    ·obtain⟨g,N2,hg1,hg2⟩:=amF h7 hk;exact⟨g,hfull k g hg1,N2,hg2⟩
    ·rintro k n g ⟨N,hg⟩;simp only[ow] at hg;exact hg.1
    ·rintro b g ⟨N,hg⟩;simp only[ow] at hg;exact hg.1
    ·rintro s g ⟨N,hg⟩;simp only[ow] at hg;exact hg.1
    ·rintro o s rs g ⟨N,hg⟩ ho;cases o with
     |false=>simp only[ow] at hg;exact hg.2
     |true=>
      rcases ho with ho|rfl
      ·cases ho
      ·simp only[ow] at hg;rcases hg with⟨_,rfl,_⟩|⟨b,cap,cs,t,N',e1,e2,_⟩
       ·simp[ro]
       ·simp only[ro];exact⟨_,cap,e1,by simp,λe=>absurd rfl e⟩
def ap4{t:TypeId}{b:Nat}{x:Value}{v:V}(hok:Uw P t=true)(hc:(Nat.beq (uf P t) 1 && !(QW P t))=true)(hx:full w b 0=some x)(hs:aZ G.μ m (Gh U w G) v x):
  ∃g,(Instr.loadAt t (.pointer (some ⟨b,0,none⟩))).run P w=.ok g w/\aZ G.μ m (Gh U w G) v g:=by
 simp only[BK,Bool.not_eq_true'] at hc;have hsz:=I5 hc.1;have hv:Po P t [v]=some v:=by simp[Po,hc.2]
 have hp:dH G.μ m (Gh U w G) [v] [x]:=by simp only[dH];exact⟨x,[],rfl,hs,rfl⟩
 obtain⟨g,hg⟩:=ap3 hv hp;refine⟨g,VE hok (by simp;omega) ?_ hg,Rn hv hp hg⟩;intro j y hj;cases j with
 |zero=>simp at hj;subst hj;exact hx
 |succ j=>simp at hj
def ayy(hA:At base U M0 w0 w m G){t:TypeId}{a:V}{ga:Value}(ha:aZ G.μ m (Gh U w G) a ga){v:V}{l l':Log}(h:(ayn P t a).run m l=some (v,m',l')):
  ∃g,(Instr.loadAt t ga).run P w=.ok g w/\m'=m/\aZ G.μ m (Gh U w G) v g:=by
 simp only[ayn] at h;replace h:=ay h;obtain⟨_,m1,l1,h1,h⟩:=h;obtain⟨hok,rfl,rfl⟩:=iK h1;simp only[BK] at hok;obtain⟨hok,hsz⟩:=hok;have hsz:=I5 hsz;cases a with
 |ptr r off=>
  simp only at h;replace h:=ay h;obtain⟨c,m2,l2,h2,h⟩:=h;rw[Aj] at h2;cases h2;cases hc:get r m1 with
  |none=>rw[hc] at h;exact aI h
  |some c=>
   rw[hc] at h;cases c with
   |Dl T x=>simp only at h;replace h:=ay h;obtain⟨_,m2,l2,h2,h⟩:=h;obtain⟨hfit,rfl,rfl⟩:=iK h2;simp only[run_pure,kX,pW] at h;obtain⟨rfl,rfl,rfl⟩:=h;simp only[BK] at hfit;have h0:=I5 hfit.1;subst h0;simp only[aZ,hc] at ha;obtain⟨_,b,hμ,rfl⟩:=ha;obtain⟨_,b',y,e1,e2,e3⟩:=hA.ok.cell r _ hc (by rw[hA.out];simp);rw[hμ] at e1;cases e1;obtain⟨g,hg1,hg2⟩:=ap4 (P:=P) hok (by rw[BK];exact hfit.2) (yA _ _ _ _ _ _ e2) e3;exact⟨g,hg1,rfl,hg2⟩
   |box T cs=>
    simp only at h;replace h:=ay h;obtain⟨_,m2,l2,h2,h⟩:=h;obtain⟨hfit,rfl,rfl⟩:=iK h2;obtain⟨hv,rfl,rfl⟩:=lW h;simp only[aZ,hc] at ha;obtain⟨_,b,hμ,rfl⟩:=ha;obtain⟨b',arr,e1,e2,e3,e4⟩:=hA.ok.cell r _ hc (by rw[hA.out];simp);rw[hμ] at e1;cases e1;have hp:=ajJ off (uf P t) e3;have hlen:arr.size=cs.length:=by simpa using lC e3
    have hfit:=Nat.le_of_ble_eq_true hfit;obtain⟨g,hg⟩:=ap3 hv hp;refine⟨g,VE hok (by simp;omega) ?_ hg,rfl,Rn hv hp hg⟩;intro j x hj;have hj':j<uf P t:=by have:=(QV.1 hj).1;simp at this;omega
    rw[List.getElem?_take,if_pos hj',List.getElem?_drop] at hj;have:=full_cell (w:=w) e2 (off+j);rw[hj] at this;exact this
   |_=>exact aI h
 |Pn x=>simp only at h;replace h:=ay h;obtain⟨_,m2,l2,h2,h⟩:=h;obtain⟨hfit,rfl,rfl⟩:=iK h2;simp only[run_pure,kX,pW] at h;obtain⟨rfl,rfl,rfl⟩:=h;simp only[aZ] at ha;obtain⟨b,y,rfl,e2,e3⟩:=ha;obtain⟨g,hg1,hg2⟩:=ap4 (P:=P) hok hfit (yA _ _ _ _ _ _ e2) e3;exact⟨g,hg1,rfl,hg2⟩
 |EU row off=>
  simp only at h;simp only[aZ] at ha;obtain⟨b,o,rfl,hrow⟩:=ha;obtain⟨vs,cs,h2,h3,h4,h5⟩:=agE (m:=m1) (μ:=G.μ) (h:=Gh U w G) (λk=>Gh U w G b (o+k)) (ro (Gh U w G)) (λk x hk=>agF hrow hk)
   (λk n g hg=>by simpa[ro] using hg) (λb g hg=>by simpa[ro] using hg) (λs g hg=>by simpa[ro] using hg) (λ_ s rs g hg _=>aej hg) _ _ _ _ _ _ h
  obtain⟨hv,rfl,rfl⟩:=lW h2;obtain⟨g,hg⟩:=ap3 hv h4;refine⟨g,VE hok (by rw[h3,hsz]) ?_ hg,rfl,Rn hv h4 hg⟩;intro j x hj;have:=h5 j x hj;rw[Nat.add_assoc];exact yA _ _ _ _ _ _ this
 |KX r ver i off=>
  simp only at h;replace h:=ay h;obtain⟨c,m2,l2,h2,h⟩:=h;rw[Aj] at h2;cases h2;cases hc:get r m1 with
  |none=>rw[hc] at h;exact aI h
  |some c=>
   rw[hc] at h;cases c with
   |arr fz fl vC s rows=>simp only at h;replace h:=ay h;obtain⟨_,m2,l2,h2,h⟩:=h;obtain⟨hb,rfl,rfl⟩:=iK h2;have hb:=I5 hb;subst hb;replace h:=ay h;obtain⟨row,m2,l2,h2,h⟩:=h;obtain⟨hrow,rfl,rfl⟩:=lW h2;simp only[aZ,hc] at ha;obtain⟨b,n,cap,hμ,rfl⟩:=ha.2.2 trivial;have hcell:=hA.ok.cell r _ hc (by rw[hA.out];simp);obtain⟨b',o,cap',e1,e2,e3,Rel,q1,q2,q3,q4,q5⟩:=avj hcell (yA _ _ _) hrow;rw[hμ] at e1;simp only[Value.slice.injEq,kX,Addr.mk.injEq] at e1;obtain⟨⟨rfl,ho,_⟩,_,_⟩:=e1;subst ho;obtain⟨vs,cs,h2,h3,h4,h5⟩:=agE (m:=_) (μ:=G.μ) (h:=Gh U w G) (λk=>full w b (0+i * s+k)) Rel q1 q2 q3 q4 (λo s rs g hg hs=>q5 o s rs g hg (hs rfl)) _ _ _ _ _ _ h;obtain⟨hv,rfl,rfl⟩:=lW h2;obtain⟨g,hg⟩:=ap3 hv h4;refine⟨g,VE hok (by rw[h3,hsz]) ?_ hg,rfl,Rn hv h4 hg⟩;intro j x hj;have:=h5 j x hj;rw[show i * s+off+j=0+i * s+(off+j) from by omega];exact this
   |_=>exact aI h
 |_=>exact aI h
def sK{μ:Nat->Value}{h:View}{v:V}{g:Value}(h1:one v=true)(q:aZ μ m h v g):g.oneCell'=true:=by
 cases v with
 |d x=>simp only[aZ] at q;exact Xq q
 |nil s=>simp only[aZ] at q;subst q;rfl
 |own _ _=>simp only[aZ] at q;obtain⟨⟨a,n,c,rfl⟩,_⟩:=q;rfl
 |ptr _ _=>simp only[aZ] at q;obtain⟨⟨b,o,rfl⟩,_⟩:=q;rfl
 |KX _ _ _ _=>simp only[aZ] at q;obtain⟨⟨b,o,rfl⟩,_⟩:=q;rfl
 |EU _ _=>simp only[aZ] at q;obtain⟨b,o,rfl,_⟩:=q;rfl
 |Pn _=>simp only[aZ] at q;obtain⟨b,x,rfl,_⟩:=q;rfl
 |clo _ _ _=>simp only[aZ] at q;obtain⟨a,c,rfl,_⟩:=q;rfl
 |agg _=>simp[one] at h1
 |MF _=>simp[one] at h1
 |undef=>simp[one] at h1
def cells_one{g:Value}(h:g.oneCell'=true):g.cells=#[g]:=by cases g<;>first|rfl|simp[Value.oneCell'] at h
def amG{μ:Nat->Value}{h:View}:∀{vs:List V} {gs:List Value},vs.all one=true->dH μ m h vs gs->∀x∈gs,x.oneCell'=true
 |[],gs,_,q=>by simp only[dH] at q;subst q;simp
 |v::vs,gs,h1,q=>by
  obtain⟨g,gs',rfl,q1,q2⟩:=ql q;simp only[List.all_cons,BK] at h1;intro x hx;simp only[List.mem_cons] at hx;rcases hx with rfl|hx
  ·exact sK h1.1 q1
  ·exact amG h1.2 q2 x hx
def cells_ok{μ:Nat->Value}{h:View}{v:V}{g:Value}(h1:v.cells.all one=true)(q:aZ μ m h v g):dH μ m h v.cells g.cells.toList/\∀x∈g.cells.toList,x.oneCell'=true:=by
 have single:one v=true->v.cells=[v]->dH μ m h v.cells g.cells.toList/\∀x∈g.cells.toList,x.oneCell'=true:=by intro ho hv;have:=sK ho q;rw[cells_one this,hv];exact⟨by simp only[dH];exact⟨g,[],rfl,q,rfl⟩,by simpa using this⟩
 cases v with
 |agg cs=>simp only[aZ] at q;obtain⟨a,rfl,q⟩:=q;exact⟨q,amG h1 q⟩
 |MF _=>simp[V.cells,one] at h1
 |undef=>simp[V.cells,one] at h1
 |_=>exact single rfl rfl
def amH{μ:Nat->Value}{h:View}(c:CT)(g:Value):aZ μ m h (agy c g) g:=by unfold agy;split<;>simp[aZ,ro]
def YN{μ:Nat->Value}{h:View}:∀(cs:List CT) (gs:List Value),dH μ m h (Jk cs gs) gs
 |[],[]=>by simp[Jk,dH]
 |_::_,[]=>by simp[Jk,dH]
 |[],g::gs=>by simp only[Jk,dH];exact⟨g,gs,rfl,by simp[aZ],YN [] gs⟩
 |c::cs,g::gs=>by simp only[Jk,dH];exact⟨g,gs,rfl,amH c g,YN cs gs⟩
def aJB{μ:Nat->Value}{h:View}(t:TypeId)(g:Value):aZ μ m h (cv P t g) g:=by
 unfold cv;split
 ·simp only[aZ];exact⟨_,rfl,YN _ _⟩
 ·split
  ·exact amH _ _
  ·simp[aZ]
def afm(μ:Nat->Value)(m:Mem)(h:View)(tm:nK)(a:Act):Prop:=∀t v,get t tm=some v->t<a.tmps.size/\aZ μ m h v (a.tmps.getD t undef)
def aaj{μ:Nat->Value}{h:View}{tm:nK}{a:Act}(hT:afm μ m h tm a)(t:TypeId)(x:Operand):aZ μ m h (ev P tm t x) (a.eval x):=by
 cases x with
 |tmp i=>
  simp only[ev,acd];cases hg:get i tm with
  |none=>simp[aZ]
  |some v=>exact(hT i v hg).2
 |const v=>exact aJB t v
 |global g=>simp[ev,aZ]
 |func f=>simp only[ev,aZ];exact⟨#[],#[],rfl,by simp[dH],by simp[dH]⟩
def ab1{μ:Nat->Value}{h:View}{tm:nK}{a:Act}(hT:afm μ m h tm a):∀(xs:List Operand) (ts:List TypeId),dH μ m h (yK P tm xs ts) (xs.map a.eval)
 |[],_=>by simp[yK,dH]
 |x::xs,ts=>by simp only[yK,dH,zmc];exact⟨_,_,rfl,aaj hT _ x,ab1 hT xs _⟩
def VF{μ:Nat->Value}{h:View}{t:TypeId}{z:List V}(hz:Sl P t=some z):∃i zv,P.info? t=some i/\i.zero=some zv/\dH μ m h z zv.cells.toList:=by
 unfold Sl at hz;cases hi:P.info? t with
 |none=>simp[hi] at hz
 |some i=>
  simp only[hi] at hz;cases hzv:i.zero with
  |none=>simp[hzv] at hz
  |some zv=>simp only[hzv,kX] at hz;subst hz;exact⟨i,zv,rfl,hzv,YN _ _⟩
def I7.rewrite(hg:I7 base U w m G)(ho:G.out=[])(hfr:Fr M0 w0 w G){r:Nat}{c c':Cell}{μ':Nat->Value}{N:List Nat}(hc:get r m=some c)(hk:Keep (G.F r) w w')(hN:N.Nodup)
  (hNs:∀b,b∈N->(b∈G.F r\/b∈G.E\/w.heap.size<=b)/\b<w'.heap.size) (hμ:∀k,k≠r->μ' k=G.μ k) (hle:MJ G.μ μ' r c c')
  (hcell:∀h':View,(Gh U w G).le h'->Jl G.μ m μ' (put r c' m)->(∀k,k∈G.E->k ∉ N->agA h' (eY w) [k])->vM μ' (put r c' m) (eY w') h' r c' N):
  Nx base U M0 w0 w m G w' (put r c' m) ⟨μ',upF G.F r N,[],[]⟩:=by
 have hro:r ∉ G.out:=by rw[ho];simp
 obtain⟨k1,k2⟩:=hg.aE3 hc hro;have hk':Keep (G.E++G.F r) w w':=⟨hk.os,hk.tape,hk.output,hk.size,λb hb hn=>hk.block b hb (λh=>hn (by simp[h]))⟩
 obtain⟨q1,q2⟩:=I7.world k1 hk' (E':=N) hN (λb hb=>by
  have:=hNs b hb;refine⟨?_,this.2⟩;rcases this.1 with h|h|h
  ·left;simp[h]
  ·left;simp[h]
  ·exact .inr h)
 have hup:upF (upF G.F r []) r N=upF G.F r N:=by
  funext k
  by_cases e:k=r
  ·subst e;simp
  ·simp[lF _ e]
 have hml:Jl G.μ m μ' (put r c' m):=I8 hμ (λc0 h0=>by rw[hc] at h0;cases h0;exact hle);have hset:=I7.set (U:=U) (w:=w') q1 r c' μ' N [] [] (by simpa using hN) (by simp) hml hμ (λk hkr=>by simp[ho,hkr]) (by simp)
  (λhv _=>hcell _ (k2.view.trans' (q2.trans' hv)) hml (λk hkE hkN b hb cs t fr hH o v hv=>by
   simp only[List.mem_singleton] at hb;subst hb;have hbF:∀j,b ∉ G.F j:=λj hj=>hg.djE j b hj hkE
   have hlt:=hg.lt b (.inl hkE);have hsame:eY w' b=eY w b:=hk.block b hlt.1 (hbF r);refine OV (w:=w') (N:=[b]) (λx hx=> ?_) b (by simp) cs t fr (hsame.trans hH) o v hv;simp only[List.mem_singleton] at hx;subst hx;refine⟨hlt.2.2, ?_⟩;rintro(h|⟨j,h⟩)
   ·simp at h
   ·rw[hup] at h
    by_cases e:j=r
    ·subst e;rw[Iz] at h;exact hkN h
    ·rw[lF _ e] at h;exact hbF j h))
 simp only[hup] at hset;obtain⟨s1,s2⟩:=hset;refine⟨s1,rfl,rfl,hml,k2.view.trans' (q2.trans' s2.view), ?_⟩;refine⟨hfr.keep.trans hk (λx hx=>hfr.fr x (.inr ⟨r,hx⟩)), ?_⟩;rintro b (hb|⟨k,hb⟩)
 ·simp at hb
 ·by_cases e:k=r
  ·subst e;simp only[Iz] at hb;rcases(hNs b hb).1 with h|h|h
   ·exact hfr.fr b (.inr ⟨_,h⟩)
   ·exact hfr.fr b (.inl h)
   ·exact .inr (Nat.le_trans hfr.keep.size h)
  ·simp only[lF _ e] at hb;exact hfr.fr b (.inr ⟨k,hb⟩)
def At.rewrite(hA:At base U M0 w0 w m G){r:Nat}{c c':Cell}{μ':Nat->Value}{N:List Nat}(hc:get r m=some c)(hk:Keep (G.F r) w w')(hN:N.Nodup)
  (hNs:∀b,b∈N->(b∈G.F r\/w.heap.size<=b)/\b<w'.heap.size) (hμ:∀k,k≠r->μ' k=G.μ k) (hle:MJ G.μ μ' r c c')
  (hcell:∀h':View,(Gh U w G).le h'->Jl G.μ m μ' (put r c' m)->vM μ' (put r c' m) (eY w') h' r c' N):
  Nx base U M0 w0 w m G w' (put r c' m) ⟨μ',upF G.F r N,[],[]⟩:=
 hA.ok.rewrite hA.out hA.fr hc hk hN (λb hb=>⟨(hNs b hb).1.imp id .inr,(hNs b hb).2⟩) hμ hle (λh' h1 h2 _=>hcell h' h1 h2)
def Nx.after{G1:GS}{m1:Mem}(hl:GLe m G m1 G1)(h:Nx base U M0 w0 w m1 G1 w' m' G'):Nx base U M0 w0 w m G w' m' G':=
 ⟨h.ok,h.E,h.out,yL hl.mem h.mem,hl.view.trans' h.view,h.fr⟩
def aak{b:Nat}{cs:Array Value}{M:List Nat}(hb:b∈M):Keep M w (w.setRow b cs):=
 ⟨rfl,rfl,rfl,by simp[World.setRow],λk _ hk=>setRow_other w b k cs (λe=>hk (e ▸ hb))⟩
def aeo{o:Obj}{M:List Nat}:Keep M w (w.alloc o):=⟨rfl,rfl,rfl,by simp,λk hk _=>heap_alloc_old w o k hk⟩
def agG{M:List Nat}:Keep M w w.drew:=⟨rfl,rfl,rfl,Nat.le_refl _,λ_ _ _=>rfl⟩
def Ro{H:Heap}{h:View}:∀{r:Row} {cs cs':List Value} {N:List Nat},cs.take r.length=cs'.take r.length->jY H h r cs N->jY H h r cs' N
 |[],_,_,_,_,q=>by simpa[jY] using q
 |x::r,cs,cs',N,e,q=>by
  obtain⟨v,cs1,N1,N2,rfl,rfl,h1,h2⟩:=Oz q;cases cs' with
  |nil=>simp at e
  |cons v' aGb=>simp only[GX,List.take_succ_cons,List.cons.injEq] at e;obtain⟨rfl,e⟩:=e;simp only[jY];exact⟨v,aGb,N1,N2,rfl,rfl,h1,Ro e h2⟩
def Lc{H:Heap}{h:View}:∀{a b:Row} {cs:List Value} {N:List Nat},jY H h (a++b) cs N↔∃N1 N2,N=N1++N2/\jY H h a cs N1/\jY H h b (cs.drop a.length) N2
 |[],b,cs,N=>by
  simp only[List.nil_append,jY,OT,List.drop_zero];constructor
  ·intro q;exact⟨[],N,rfl,rfl,q⟩
  ·rintro⟨N1,N2,rfl,rfl,q⟩;simpa using q
 |x::a,b,cs,N=>by
  simp only[zca,jY];constructor
  ·rintro⟨v,cs',N1,N2,rfl,rfl,h1,h2⟩;obtain⟨N3,N4,rfl,h3,h4⟩:=Lc.1 h2;exact⟨N1++N3,N4,by simp,⟨v,cs',N1,N3,rfl,rfl,h1,h3⟩,by simpa using h4⟩
  ·rintro⟨N1,N2,rfl,⟨v,cs',N3,N4,rfl,rfl,h1,h3⟩,h4⟩;exact⟨v,cs',N3,N4++N2,rfl,by simp,h1,Lc.2 ⟨N4,N2,rfl,h3,by simpa using h4⟩⟩
def ajL{H:Heap}{h:View}:∀{r:Row} {cs:List Value} {N:List Nat},jY H h r cs N->r.length<=cs.length
 |[],_,_,_=>by simp
 |x::r,cs,N,q=>by obtain⟨v,cs',N1,N2,rfl,rfl,_,h2⟩:=Oz q;have:=ajL h2;simp;omega
def Sz{α:Type}{l xs:List α}{o:Nat}(h:o+xs.length<=l.length):(splice l o xs).length=l.length:=by simp[splice];omega
def aoA{H:Heap}{h:View}{row xs:Row}{cs gs:List Value}{N N1:List Nat}{o:Nat}(q:jY H h row cs N)(q1:jY H h xs gs N1)(hl:xs.length=gs.length)(ho:o+xs.length<=row.length):
  ∃N' Dr,jY H h (splice row o xs) (splice cs o gs) N'/\(N'++Dr).Perm (N++N1):=by
 have hrow:row=row.take o++((row.drop o).take xs.length++row.drop (o+xs.length)):=by rw[<-List.drop_drop,List.take_append_drop,List.take_append_drop]
 have hcl:=ajL q;rw[hrow] at q;obtain⟨Na,Nb,rfl,qa,qb⟩:=Lc.1 q;obtain⟨Nc,Nd,rfl,qc,qd⟩:=Lc.1 qb;have l1:(row.take o).length=o:=by simp;omega
 have l2:((row.drop o).take xs.length).length=xs.length:=by simp;omega
 rw[l1,List.drop_drop,l2] at qd;refine⟨Na++(N1++Nd),Nc, ?_, ?_⟩
 ·have e:splice row o xs=row.take o++(xs++row.drop (o+xs.length)):=by simp[splice]
  rw[e];refine Lc.2 ⟨Na,N1++Nd,rfl, ?_, ?_⟩
  ·refine Ro ?_ qa;rw[l1];simp only[splice,WC];rw[List.take_append_of_le_length (by simp;omega)];rw[List.take_take];congr 1;omega
  ·rw[l1];have hd:(splice cs o gs).drop o=gs++cs.drop (o+gs.length):=by
    simp only[splice,WC];rw[List.drop_append_of_le_length (by simp;omega)];have:(cs.take o).drop o=[]:=by simp
    rw[this];rfl
   rw[hd];refine Lc.2 ⟨N1,Nd,rfl, ?_, ?_⟩
   ·refine Ro ?_ q1;rw[hl];simp
   ·rw[hl];rw[hl] at qd;simpa using qd
 ·simp only[WC];refine List.Perm.append_left Na ?_;have h1:(N1++(Nd++Nc)).Perm ((Nd++Nc)++N1):=List.perm_append_comm;have h2:((Nd++Nc)++N1).Perm ((Nc++Nd)++N1):=List.Perm.append_right N1 List.perm_append_comm;simpa using h1.trans h2
def WM{H:Heap}{h:View}{s:Nat}:∀{rs:List Row} {cs cs':List Value} {N:List Nat},cs.take (rs.length * s)=cs'.take (rs.length * s)->jc H h s rs cs N->jc H h s rs cs' N
 |[],_,_,_,_,q=>by simpa[jc] using q
 |r::rs,cs,cs',N,e,q=>by
  simp only[jc] at q|-;obtain⟨h1,N1,N2,rfl,h2,h3⟩:=q;have hs:(r::rs).length * s=s+rs.length * s:=by simp[Nat.add_mul];omega
  rw[hs] at e;refine⟨h1,N1,N2,rfl,Ro ?_ h2,WM ?_ h3⟩
  ·rw[h1];have:=congrArg (List.take s) e;simpa[List.take_take,Nat.min_eq_left] using this
  ·have:=congrArg (List.drop s) e;simpa[List.drop_take] using this
def Nl{H:Heap}{h:View}{s:Nat}:∀{a b:List Row} {cs:List Value} {N:List Nat},jc H h s (a++b) cs N↔∃N1 N2,N=N1++N2/\jc H h s a cs N1/\jc H h s b (cs.drop (a.length * s)) N2
 |[],b,cs,N=>by
  simp only[List.nil_append,jc,OT,Nat.zero_mul,List.drop_zero];constructor
  ·intro q;exact⟨[],N,rfl,rfl,q⟩
  ·rintro⟨N1,N2,rfl,rfl,q⟩;simpa using q
 |x::a,b,cs,N=>by
  have hs:(x::a).length * s=s+a.length * s:=by simp[Nat.add_mul];omega
  simp only[zca,jc,hs];constructor
  ·rintro⟨h0,N1,N2,rfl,h1,h2⟩;obtain⟨N3,N4,rfl,h3,h4⟩:=Nl.1 h2;exact⟨N1++N3,N4,by simp,⟨h0,N1,N3,rfl,h1,h3⟩,by simpa using h4⟩
  ·rintro⟨N1,N2,rfl,⟨h0,N3,N4,rfl,h1,h3⟩,h4⟩;exact⟨h0,N3,N4++N2,by simp,h1,Nl.2 ⟨N4,N2,rfl,h3,by simpa using h4⟩⟩
def PE{h:View}:∀{r:Row} {cs cs':List Value},cs.take r.length=cs'.take r.length->jM h r cs->jM h r cs'
 |[],_,_,_,_=>trivial
 |x::r,cs,cs',e,⟨v,cs1,e1,h1,h2⟩=>by
  subst e1;cases cs' with
  |nil=>simp at e
  |cons v' aGb=>simp only[GX,List.take_succ_cons,List.cons.injEq] at e;obtain⟨rfl,e⟩:=e;exact⟨v,aGb,rfl,h1,PE e h2⟩
def F7{h:View}:∀{a b:Row} {cs:List Value},jM h (a++b) cs↔jM h a cs/\jM h b (cs.drop a.length)
 |[],b,cs=>by simp[jM]
 |x::a,b,cs=>by
  simp only[zca,jM];constructor
  ·rintro⟨v,cs',rfl,h1,h2⟩;obtain⟨h3,h4⟩:=F7.1 h2;exact⟨⟨v,cs',rfl,h1,h3⟩,by simpa using h4⟩
  ·rintro⟨⟨v,cs',rfl,h1,h3⟩,h4⟩;exact⟨v,cs',rfl,h1,F7.2 ⟨h3,by simpa using h4⟩⟩
def aep{h:View}:∀{r:Row} {cs:List Value},jM h r cs->r.length<=cs.length
 |[],_,_=>by simp
 |x::r,cs,⟨v,cs',e,_,h2⟩=>by subst e;have:=aep h2;simp;omega
def ajM{h:View}{row xs:Row}{cs gs:List Value}{o:Nat}(q:jM h row cs)(q1:jM h xs gs)(hl:xs.length=gs.length)(ho:o+xs.length<=row.length):jM h (splice row o xs) (splice cs o gs):=by
 have hrow:row=row.take o++((row.drop o).take xs.length++row.drop (o+xs.length)):=by rw[<-List.drop_drop,List.take_append_drop,List.take_append_drop]
 have hcl:=aep q;rw[hrow] at q;obtain⟨qa,qb⟩:=F7.1 q;obtain⟨qc,qd⟩:=F7.1 qb;have l1:(row.take o).length=o:=by simp;omega
 have l2:((row.drop o).take xs.length).length=xs.length:=by simp;omega
 rw[l1,List.drop_drop,l2] at qd;have e:splice row o xs=row.take o++(xs++row.drop (o+xs.length)):=by simp[splice]
 rw[e];refine F7.2 ⟨?_, ?_⟩
 ·refine PE ?_ qa;rw[l1];simp only[splice,WC];rw[List.take_append_of_le_length (by simp;omega)];rw[List.take_take];congr 1;omega
 ·rw[l1];have hd:(splice cs o gs).drop o=gs++cs.drop (o+gs.length):=by
   simp only[splice,WC];rw[List.drop_append_of_le_length (by simp;omega)];have:(cs.take o).drop o=[]:=by simp
   rw[this];rfl
  rw[hd];refine F7.2 ⟨PE (by rw[hl];simp) q1, ?_⟩;rw[hl];rw[hl] at qd;simpa using qd
def SA{h:View}{s:Nat}:∀{rs:List Row} {cs cs':List Value},cs.take (rs.length * s)=cs'.take (rs.length * s)->jK h s rs cs->jK h s rs cs'
 |[],_,_,_,_=>trivial
 |r::rs,cs,cs',e,⟨h1,h2,h3⟩=>by
  have hs:(r::rs).length * s=s+rs.length * s:=by simp[Nat.add_mul];omega
  rw[hs] at e;refine⟨h1,PE ?_ h2,SA ?_ h3⟩
  ·rw[h1];have:=congrArg (List.take s) e;simpa[List.take_take,Nat.min_eq_left] using this
  ·have:=congrArg (List.drop s) e;simpa[List.drop_take] using this
def NH{h:View}{s:Nat}:∀{a b:List Row} {cs:List Value},jK h s (a++b) cs↔jK h s a cs/\jK h s b (cs.drop (a.length * s))
 |[],b,cs=>by simp[jK]
 |x::a,b,cs=>by
  have hs:(x::a).length * s=s+a.length * s:=by simp[Nat.add_mul];omega
  simp only[zca,jK,hs];rw[NH,List.drop_drop];constructor
  ·rintro⟨h0,h1,h2,h3⟩;exact⟨⟨h0,h1,h2⟩,h3⟩
  ·rintro⟨⟨h0,h1,h2⟩,h3⟩;exact⟨h0,h1,h2,h3⟩
def ahG{α:Type}{l:List α}{i:Nat}{a b:α}(h:l[i]? =some a):l.set i b=l.take i++(b::l.drop (i+1))/\l=l.take i++(a::l.drop (i+1)):=by
 have hi:=(QV.1 h).1;have ha:=(QV.1 h).2;refine⟨?_, ?_⟩
 ·rw[List.set_eq_take_append_cons_drop,if_pos hi]
 ·rw[<-ha,List.getElem_cons_drop,List.take_append_drop]
def atD{H:Heap}{h:View}{s i o:Nat}{rows:List Row}{row xs:Row}{cs gs:List Value}{N N1:List Nat}(q:jc H h s rows cs N)(hi:rows[i]? =some row)(q1:jY H h xs gs N1)(hl:xs.length=gs.length)(ho:o+xs.length<=s):
  ∃N' Dr,jc H h s (rows.set i (splice row o xs)) (splice cs (i * s+o) gs) N'/\(N'++Dr).Perm (N++N1):=by
 obtain⟨e1,e2⟩:=ahG (b:=splice row o xs) hi;have hil:=(QV.1 hi).1;rw[e2] at q;obtain⟨Na,Nb,rfl,qa,qb⟩:=Nl.1 q;have l1:(rows.take i).length=i:=by simp;omega
 rw[l1] at qb;simp only[jc] at qb;obtain⟨h0,Nc,Nd,rfl,qc,qd⟩:=qb;have hcl:=ajL qc;simp only[List.length_drop] at hcl;obtain⟨N',Dr,qe,hp⟩:=aoA (o:=o) qc q1 hl ak;have atE:(splice row o xs).length=s:=by rw[Sz (l:=row) (xs:=xs) (o:=o) ak];exact h0
 have his:i * s<=cs.length:=by
  rcases Nat.eq_zero_or_pos s with e|e
  ·rw[e];simp
  ·omega
 refine⟨Na++(N'++Nd),Dr, ?_, ?_⟩
 ·rw[e1];refine Nl.2 ⟨Na,N'++Nd,rfl, ?_, ?_⟩
  ·refine WM ?_ qa;rw[l1];simp only[splice,WC];rw[List.take_append_of_le_length (by simp;omega),List.take_take];congr 1;omega
  ·rw[l1];have hd:(splice cs (i * s+o) gs).drop (i * s)=splice (cs.drop (i * s)) o gs:=by simp only[splice];rw[WC,List.drop_append_of_le_length (by simp;omega),List.drop_take,List.drop_drop];rw[show i * s+o - i * s=o from by omega,WC,Nat.add_assoc]
   simp only[jc,hd];refine⟨atE,N',Nd,rfl,qe, ?_⟩;have hd2:(splice (cs.drop (i * s)) o gs).drop s=(cs.drop (i * s)).drop s:=by simp only[splice];rw[List.drop_append,List.drop_eq_nil_of_le (by simp;omega)];simp only[List.nil_append,List.drop_drop,Ai,zlt,List.length_drop];congr 1;omega
   rw[hd2];exact qd
 ·simp only[WC];refine List.Perm.append_left Na ?_;have h1:(N'++(Nd++Dr)).Perm (N'++(Dr++Nd)):=List.Perm.append_left N' List.perm_append_comm;have h2:((N'++Dr)++Nd).Perm ((Nc++N1)++Nd):=List.Perm.append_right Nd hp;have h3:(Nc++(N1++Nd)).Perm (Nc++(Nd++N1)):=List.Perm.append_left Nc List.perm_append_comm;have h2':(N'++(Dr++Nd)).Perm (Nc++(N1++Nd)):=by simpa using h2
  exact h1.trans (h2'.trans h3)
def aoB{h:View}{s i o:Nat}{rows:List Row}{row xs:Row}{cs gs:List Value}(q:jK h s rows cs)(hi:rows[i]? =some row)(q1:jM h xs gs)(hl:xs.length=gs.length)(ho:o+xs.length<=s):
  jK h s (rows.set i (splice row o xs)) (splice cs (i * s+o) gs):=by
 obtain⟨e1,e2⟩:=ahG (b:=splice row o xs) hi;have hil:=(QV.1 hi).1;rw[e2] at q;obtain⟨qa,qb⟩:=NH.1 q;have l1:(rows.take i).length=i:=by simp;omega
 rw[l1] at qb;obtain⟨h0,qc,qd⟩:=qb;have hcl:=aep qc;simp only[List.length_drop] at hcl;have qe:=ajM (o:=o) qc q1 hl ak;have atE:(splice row o xs).length=s:=by rw[Sz (l:=row) (xs:=xs) (o:=o) ak];exact h0
 have his:i * s<=cs.length:=by
  rcases Nat.eq_zero_or_pos s with e|e
  ·rw[e];simp
  ·omega
 rw[e1];refine NH.2 ⟨?_, ?_⟩
 ·refine SA ?_ qa;rw[l1];simp only[splice,WC];rw[List.take_append_of_le_length (by simp;omega),List.take_take];congr 1;omega
 ·rw[l1];have hd:(splice cs (i * s+o) gs).drop (i * s)=splice (cs.drop (i * s)) o gs:=by simp only[splice];rw[WC,List.drop_append_of_le_length (by simp;omega),List.drop_take,List.drop_drop];rw[show i * s+o - i * s=o from by omega,WC,Nat.add_assoc]
  rw[hd];refine⟨atE,qe, ?_⟩;have hd2:(splice (cs.drop (i * s)) o gs).drop s=(cs.drop (i * s)).drop s:=by simp only[splice];rw[List.drop_append,List.drop_eq_nil_of_le (by simp;omega)];simp only[List.nil_append,List.drop_drop,Ai,zlt,List.length_drop];congr 1;omega
  rw[hd2];exact qd
def At.took(hA:At base U M0 w0 w m G){N:List Nat}(ht:Ph base U w m G m' G' N):G'.E=N/\G'.out=[]/\Fr M0 w0 w G':=
 ⟨by rw[ht.E,hA.E];rfl,ht.out.trans hA.out,hA.fr.less ht.le.ex⟩
def avk(k:Nat)(c c':Cell):∀m:Mem,put k c (put k c' m)=put k c m
 |[]=>by simp[put]
 |(j,y)::m=>by
  have hk:Nat.beq k k=true:=Nat.beq_refl k
  by_cases h:k=j
  ·subst h;simp[put]
  ·have hb:Nat.beq k j=false:=zH h;cases hl:Nat.blt k j with
   |true=>simp[put,hb,hl]
   |false=>simp[put,hb,hl,avk k c c' m]
def At.settle(hA:At base U M0 w0 w m G){r:Nat}{T:TypeId}{x:V}(hc:get r m=some (.box T [x])):∃G',Nx base U M0 w0 w m G w (put r (.Dl T x) m) G':=by
 have hro:r ∉ G.out:=by rw[hA.out];simp
 have hle:Jl G.μ m G.μ (put r (.Dl T x) m):=I8 (λ_ _=>rfl) (λc h=>by rw[hc] at h;cases h;exact rfl);obtain⟨b,a,e1,e2,e3,e4⟩:=hA.ok.cell r _ hc hro;have hb:b∈G.F r:=by rw[e4];simp
 obtain⟨y,ys,ea,e5,e6⟩:=ql e3;have h1:=hA.ok.set r (.Dl T x) G.μ [] G.E G.out (by simpa using hA.ok.ndE) (by simp;exact λb hb=> .inr hb) hle (λ_ _=>rfl) (λ_ _=>Iff.rfl) (λ_=>rfl)
  (λhv _=>by
   refine⟨rfl,b,y,e1, ?_,Dv hle hv _ _ e5⟩;refine OV (w:=w) (N:=[b]) (λb' hb'=> ?_) b (by simp) a T (0,0) e2 0 y (by rw[ea];rfl);simp only[List.mem_singleton] at hb';subst hb';refine⟨(hA.ok.lt _ (.inr ⟨r,hb⟩)).2.2, ?_⟩;rintro(hE|⟨k,hk⟩)
   ·exact hA.ok.djE r _ hb hE
   ·by_cases e:k=r
    ·subst e;simp at hk
    ·rw[lF _ e] at hk;exact hA.ok.dj r k (Ne.symm e) _ hb hk)
 exact⟨_,hA.still h1.1 h1.2 hA.out⟩
def ayz{off:Nat}{cs:List V}{x:V}(h:kept off cs x=true):off=0/\cs=[.undef]/\∃r o,x=.ptr r o:=by
 unfold kept at h;split at h
 ·exact⟨rfl,rfl,_,_,rfl⟩
 ·cases h
def awJ(hA:At base U M0 w0 w m G){t:TypeId}{a x:V}{ga gx:Value}(ha:aZ G.μ m (Gh U w G) a ga)(hx:aZ G.μ m (Gh U w G) x gx){u:Unit}{l l':Log}(h:(atm P t a x).run m l=some (u,m',l')):
  ∃w' G',(Instr.storeAt t ga gx).run P w=.ok () w'/\Nx base U M0 w0 w m G w' m' G':=by
 simp only[atm] at h;replace h:=ay h;obtain⟨_,m1,l1,h1,h⟩:=h;obtain⟨hok,rfl,rfl⟩:=iK h1;replace h:=ay h;obtain⟨_,m1,l1,h1,h⟩:=h;obtain⟨hlen,rfl,rfl⟩:=iK h1;replace h:=ay h;obtain⟨_,m1,l1,h1,h⟩:=h;obtain⟨hone,rfl,rfl⟩:=iK h1;have hlen:=I5 hlen;obtain⟨hxs,hx1⟩:=cells_ok hone hx;have hgl:gx.cells.size=uf P t:=by rw[<-hlen,<-lC hxs,Array.length_toList]
 cases a with
 |ptr r off=>
  simp only at h;replace h:=ay h;obtain⟨c,m2,l2,h2,h⟩:=h;rw[Aj] at h2;cases h2;cases hc:get r m1 with
  |none=>rw[hc] at h;exact aI h
  |some c=>
   rw[hc] at h;cases c with
   |box T cs=>
    simp only at h;replace h:=ay h;obtain⟨_,m2,l2,h2,h⟩:=h;obtain⟨hfit,rfl,rfl⟩:=iK h2;simp only[aZ,hc] at ha;obtain⟨_,b,hμ,rfl⟩:=ha;obtain⟨b',arr,e1,e2,e3,e4⟩:=hA.ok.cell r _ hc (by rw[hA.out];simp);rw[hμ] at e1;cases e1;have hal:arr.size=cs.length:=by simpa using lC e3
    have hfit:=Nat.le_of_ble_eq_true hfit;have hrun:=ahE (P:=P) hok e2 hgl (off:=off) ak hx1;have hb:b∈G.F r:=by rw[e4];simp
    have hnx:=hA.rewrite (c':=.box T (splice cs off x.cells)) (w':=w.setRow b (splice arr.toList off gx.cells.toList).toArray) (μ':=G.μ) (N:=[b]) hc (aak hb) (by simp) (λk hk=>by
     simp at hk;subst hk;refine⟨.inl hb, ?_⟩;have:=(hA.ok.lt _ (.inr ⟨r,hb⟩)).1;simpa[World.setRow] using this) (λ_ _=>rfl) ⟨rfl,rfl⟩ (λh' hv hml=>by
     refine⟨b,_,hμ,setRow_heap w b arr _ T (0,0) e2, ?_,rfl⟩;have:=YM off e3 hxs;simpa using vO hml hv _ _ this)
    cases hkp:kept off cs x with
    |false=>rw[hkp] at h;simp only[Py,kX,pW] at h;obtain⟨_,rfl,_⟩:=h;exact⟨_,_,hrun,hnx⟩
    |true=>rw[hkp] at h;simp only[Py,kX,pW] at h;obtain⟨_,rfl,_⟩:=h;obtain⟨rfl,rfl,r',o',rfl⟩:=ayz hkp;have hsp:splice [V.undef] 0 (V.ptr r' o').cells=[V.ptr r' o']:=rfl;rw[hsp] at hnx;obtain⟨G',hnx2⟩:=hnx.at_.settle (r:=r) (T:=T) (x:=.ptr r' o') (kH _ _ _);rw[avk] at hnx2;exact⟨_,_,hrun,hnx.trans hnx2⟩
   |_=>exact aI h
 |KX r ver i off=>
  simp only at h;replace h:=ay h;obtain⟨xs,m2,l2,h2,h⟩:=h;obtain⟨G1,N1,t1,hrow,hxl⟩:=Vz hA.ok hxs hA.out h2;obtain⟨hE1,ho1,ap5⟩:=hA.took t1;replace h:=ay h;obtain⟨c,m3,l3,h3,h⟩:=h;rw[Aj] at h3;cases h3;replace ha:=t1.le.aZ ha;cases hc:get r m2 with
  |none=>rw[hc] at h;exact aI h
  |some c=>
   rw[hc] at h;cases c with
   |arr fz fl vC s rows=>
    cases fz with
    |true=>exact aI h
    |false=>
    simp only at h;replace h:=ay h;obtain⟨_,m4,l4,h4,h⟩:=h;obtain⟨hb,rfl,rfl⟩:=iK h4;have hb:=I5 hb;subst hb;replace h:=ay h;obtain⟨_,m4,l4,h4,h⟩:=h;obtain⟨hfit,rfl,rfl⟩:=iK h4;have hfit:=Nat.le_of_ble_eq_true hfit;replace h:=ay h;obtain⟨row,m4,l4,h4,h⟩:=h;obtain⟨hrw,rfl,rfl⟩:=lW h4;simp only[Py,kX,pW] at h;obtain⟨_,rfl,_⟩:=h;simp only[aZ,hc] at ha;obtain⟨b,n,cap,hμ,rfl⟩:=ha.2.2 trivial;have hcell:=t1.ok.cell r _ hc (by rw[ho1];simp);have hne:rows≠[]:=by intro e;subst e;simp at hrw
    have hil:=(QV.1 hrw).1;simp only[vM] at hcell;rcases hcell with⟨e,_,_⟩|⟨b',cap',cs,T,N',k1,k2,k3,k4,k5,k6⟩
    ·exact absurd e hne
    rw[hμ] at k1;simp only[Value.slice.injEq,kX,Addr.mk.injEq] at k1;obtain⟨⟨rfl,_⟩,rfl,rfl⟩:=k1;have hbF:b∈G1.F r:=by rw[k6];simp
    have ayA:xs.length=gx.cells.toList.length:=by rw[hxl,lC hxs]
    have hsz:i * s+off+gx.cells.size<=cs.size:=by rw[k4,hgl];have:(i+1) * s<=cap * s:=Nat.mul_le_mul_right s ak;rw[Nat.add_mul] at this;omega
    have hrun:=ahE (P:=P) hok k3 hgl (off:=i * s+off) hsz hx1;have hh:=setRow_heap w b cs (splice cs.toList (i * s+off) gx.cells.toList).toArray T (0,0) k3;have aJC:off+xs.length<=s:=by rw[ayA,Array.length_toList,hgl];exact hfit
    have aJD:(splice cs.toList (i * s+off) gx.cells.toList).length=cs.size:=by rw[Sz (by simpa using hsz)];simp
    have key:∃N2,N2.Nodup/\(fl=true->N2=[])/\(∀k,k∈N2->k∈G1.F r\/k∈G1.E)/\∀h':View,(Gh U w G1).le h'->(fl=true->agA h' (eY w) N1)->aef (eY (w.setRow b (splice cs.toList (i * s+off) gx.cells.toList).toArray)) h' fl s (rows.set i (splice row off xs)) (G1.μ r) (b::N2)/\b ∉ N2:=by
     have hoth:∀k,k≠b->eY (w.setRow b (splice cs.toList (i * s+off) gx.cells.toList).toArray) k=eY w k:=λk hk=>setRow_other w b k _ hk
     cases fl with
     |true=>
      refine⟨[],by simp,λ_=>rfl,by simp,λh' hv hs=>⟨.inr ⟨b,cap,_,T,[], ?_, ?_,hh, ?_,⟨?_,rfl⟩,rfl⟩,by simp⟩⟩
      ·rw[hμ];simp
      ·simpa using k2
      ·simpa[aJD] using k4
      ·have q1:jM h' xs gx.cells.toList:=aei hv xs _ N1 (hs rfl) hrow;simpa using aoB (Nj hv s rows _ k5.1) hrw q1 ayA aJC
     |false=>
      obtain⟨N2,Dr,q1,hp⟩:=atD k5 hrw hrow ayA aJC;have aTB:(N'++N1).Nodup:=by have h1:=t1.ok.nd r;rw[k6] at h1;have h2:=t1.ok.ndE;rw[hE1] at h2;exact List.nodup_append.2 ⟨(List.nodup_cons.1 h1).2,h2,λx hx y hy e=>t1.ok.djE r x (by rw[k6];simp[hx]) (by rw[hE1,e];exact hy)⟩
      have hnd:=List.nodup_append.1 (hp.nodup_iff.2 aTB);have hmem:∀k,k∈N2->k∈N'\/k∈N1:=λk hk=>by simpa using hp.mem_iff.1 (List.mem_append_left Dr hk)
      have hbn:b ∉ N2:=by
       intro hb2;rcases hmem b hb2 with h|h
       ·have:=t1.ok.nd r;rw[k6] at this;exact(List.nodup_cons.1 this).1 h
       ·exact t1.ok.djE r b hbF (by rw[hE1];exact h)
      refine⟨N2,hnd.1,(λe=>by cases e),λk hk=> ?_,λh' hv _=>⟨.inr ⟨b,cap,_,T,N2, ?_, ?_,hh, ?_, ?_,rfl⟩,hbn⟩⟩
      ·rcases hmem k hk with h|h
       ·left;rw[k6];simp[h]
       ·right;rw[hE1];exact h
      ·rw[hμ];simp
      ·simpa using k2
      ·simpa[aJD] using k4
      ·have:=JU hv s _ _ N2 (λk hk=>hoth k (λe=>hbn (e ▸ hk))) q1;simpa using this
    obtain⟨N2,hN2,aTC,aTD,Xr⟩:=key;refine⟨_,_,hrun,Nx.after t1.le (t1.ok.rewrite ho1 ap5 (μ':=G1.μ) (N:=b::N2) hc (aak hbF) ?_ ?_ (λ_ _=>rfl) ⟨Nat.le_refl _,rfl,λ_=>⟨rfl,rfl⟩⟩ ?_)⟩
    ·exact List.nodup_cons.2 ⟨(Xr (full w) (yA _ _ _) (λ_=>amv)).2,hN2⟩
    ·intro k hk;have hsz':(w.setRow b (splice cs.toList (i * s+off) gx.cells.toList).toArray).heap.size=w.heap.size:=by simp[World.setRow]
     rw[hsz'];simp only[List.mem_cons] at hk;rcases hk with rfl|hk
     ·exact⟨.inl hbF,(t1.ok.lt _ (.inr ⟨r,hbF⟩)).1⟩
     ·rcases aTD k hk with h|h
      ·exact⟨.inl h,(t1.ok.lt _ (.inr ⟨r,h⟩)).1⟩
      ·exact⟨.inr (.inl h),(t1.ok.lt _ (.inl h)).1⟩
    ·intro h' hv hml aB3;refine(Xr h' hv (λhfl=> ?_)).1;intro k hk;have hkE:k∈G1.E:=by rw[hE1];exact hk
     refine aB3 k hkE ?_ k (by simp);rw[aTC hfl];simp only[List.mem_singleton];intro e;subst e;exact t1.ok.djE r _ hbF hkE
   |_=>exact aI h
 |_=>exact aI h
def I7.fresh(hg:I7 base U w m G)(ho:G.out=[])(hfr:Fr M0 w0 w G){k:Nat}{c':Cell}{gv:Value}{N:List Nat}(hn:get k m=none)(hk:Keep [] w w')(hN:N.Nodup)
  (hNs:∀b,b∈N->(b∈G.E\/w.heap.size<=b)/\b<w'.heap.size)
  (hcell:∀h':View,(Gh U w G).le h'->Jl G.μ m (upM G.μ k gv) (put k c' m)->(∀j,j∈G.E->j ∉ N->agA h' (eY w) [j])->vM (upM G.μ k gv) (put k c' m) (eY w') h' k c' N):
  Nx base U M0 w0 w m G w' (put k c' m) ⟨upM G.μ k gv,upF G.F k N,[],[]⟩:=by
 have hk':Keep G.E w w':=⟨hk.os,hk.tape,hk.output,hk.size,λb hb _=>hk.block b hb (by simp)⟩
 obtain⟨q1,q2⟩:=I7.world hg hk' (E':=N) hN hNs;have hμ:∀j,j≠k->upM G.μ k gv j=G.μ j:=λj e=>Rl gv e
 have hml:Jl G.μ m (upM G.μ k gv) (put k c' m):=I8 hμ (λc0 h0=>by rw[hn] at h0;cases h0);have hFk:G.F k=[]:=hg.none_ k hn;have hset:=I7.set (U:=U) (w:=w') q1 k c' (upM G.μ k gv) N [] [] (by simpa using hN) (by simp;exact λb hb=> .inr hb) hml hμ (λj hj=>by simp[ho]) (by simp)
  (λhv _=>hcell _ (q2.trans' hv) hml (λj hjE hjN b hb cs t fr hH o v hv=>by
   have hb:=List.mem_singleton.1 hb;rw[<-hb] at hjE hjN;have hlt:=hg.lt b (.inl hjE);have hsame:eY w' b=eY w b:=hk.block b hlt.1 (by simp);refine OV (w:=w') (N:=[b]) (λx hx=> ?_) b (by simp) cs t fr (hsame.trans hH) o v hv;rw[List.mem_singleton.1 hx];refine⟨hlt.2.2, ?_⟩;rintro(h|⟨i,h⟩)
   ·simp at h
   ·by_cases e:i=k
    ·subst e;rw[Iz] at h;exact hjN h
    ·rw[lF _ e] at h;exact hg.djE i b h hjE))
 obtain⟨s1,s2⟩:=hset;refine⟨s1,rfl,rfl,hml,q2.trans' s2.view, ?_⟩;refine⟨hfr.keep.trans hk (by simp), ?_⟩;rintro b (hb|⟨i,hb⟩)
 ·simp at hb
 ·by_cases e:i=k
  ·subst e;simp only[Iz] at hb;rcases(hNs b hb).1 with h|h
   ·exact hfr.fr b (.inl h)
   ·exact .inr (Nat.le_trans hfr.keep.size h)
  ·simp only[lF _ e] at hb;exact hfr.fr b (.inr ⟨i,hb⟩)
def aal{w1:World}{o:Obj}(h:w1.heap=w.heap):eY (w1.alloc o) w.heap.size=some o:=by have:=heap_alloc_new w1 o;rw[h] at this;exact this
def amI(hA:At base U M0 w0 w m G){k:Nat}{T:TypeId}{cs:List V}{arr:Array Value}(hs:dH G.μ m (Gh U w G) cs arr.toList){u:Unit}{l l':Log}(h:(new k (.box T cs)).run m l=some (u,m',l')):
  ∃G',Nx base U M0 w0 w m G (w.alloc (.cells arr T)) m' G'/\aZ G'.μ m' (Gh U (w.alloc (.cells arr T)) G') (.ptr k 0) (.pointer (some ⟨w.heap.size,0,none⟩)):=by
 obtain⟨hn,rfl⟩:=abY h;refine⟨_,hA.ok.fresh hA.out hA.fr (gv:=.pointer (some ⟨w.heap.size,0,none⟩)) (N:=[w.heap.size]) hn aeo (by simp) (λb hb=>by simp at hb;subst hb;simp) (λh' hv hml _=> ?_), ?_⟩
 ·exact⟨w.heap.size,arr,by simp,aal rfl,vO hml hv _ _ hs,rfl⟩
 ·simp[aZ,kH,aeg,ays]
def ajN(hg:I7 base U w m G)(ho:G.out=[])(hfr:Fr M0 w0 w G){w1:World}(hw1:w1.heap=w.heap)(hk1:Keep [] w w1){k:Nat}{fl:Bool}{s cap:Nat}{rows:List Row}{arr:Array Value}{T:TypeId}(hq:jc (eY w) (Gh U w G) s rows arr.toList G.E)
  (hcap:rows.length<=cap) (hsz:arr.size=cap * s) {u:Unit} {l l':Log} (h:(new k (.arr false fl 0 s rows)).run m l=some (u,m',l')):
  ∃G',Nx base U M0 w0 w m G (w1.alloc (.cells arr T)) m' G'/\aZ G'.μ m' (Gh U (w1.alloc (.cells arr T)) G') (.own k 0) (.slice (some ⟨w.heap.size,0,none⟩) rows.length cap):=by
 obtain⟨hn,rfl⟩:=abY h;have hsize:(w1.alloc (.cells arr T)).heap.size=w.heap.size+1:=by rw[World.size_alloc,hw1]
 have hkeep:Keep [] w (w1.alloc (.cells arr T)):=hk1.trans (aeo (M:=[])) (by simp);have hnE:w.heap.size ∉ G.E:=λhE=>by have:=(hg.lt _ (.inl hE)).1;omega
 have hnew:eY (w1.alloc (.cells arr T)) w.heap.size=some (.cells arr T (0,0)):=aal hw1;refine⟨_,hg.fresh ho hfr (gv:=.slice (some ⟨w.heap.size,0,none⟩) rows.length cap) (N:=w.heap.size::(match fl with|true=>[]|false=>G.E)) hn hkeep ?_ ?_ ?_, ?_⟩
 ·cases fl with
  |true=>simp
  |false=>exact List.nodup_cons.2 ⟨hnE,hg.ndE⟩
 ·intro b hb;simp only[List.mem_cons] at hb;rcases hb with rfl|hb
  ·exact⟨.inr (Nat.le_refl _),by rw[hsize];omega⟩
  ·cases fl with
   |true=>simp at hb
   |false=>exact⟨.inl hb,by rw[hsize];have:=(hg.lt b (.inl hb)).1;omega⟩
 ·intro h' hv hml aB3;simp only[vM,TY];refine .inr ⟨w.heap.size,cap,arr,T,_,rfl,hcap,hnew,hsz, ?_,rfl⟩;cases fl with
  |true=>refine⟨OU hv s rows _ _ (λb hb=> ?_) hq,rfl⟩;refine aB3 b hb ?_ b (by simp);simp only[List.mem_singleton];intro e;exact hnE (e ▸ hb)
  |false=>exact JU hv s rows _ _ (λb hb=>hkeep.block b (hg.lt b (.inl hb)).1 (by simp)) hq
 ·simp[aZ,kH,aeg,ays]
def YO(off:Nat):∀(xs:List Value) (k:Nat) (cells:Array Value),off+k+xs.length<=cells.size->
  ((xs.zipIdx k).foldl (λcs (c,j)=>cs.setIfInBounds (off+j) c) cells).toList=splice cells.toList (off+k) xs
 |[],k,cells,h=>by simp[splice]
 |x::xs,k,cells,h=>by simp only[GX] at h;simp only[List.zipIdx_cons,List.foldl_cons];rw[YO off xs (k+1) _ (by simp;omega)];have e:=list_seg_step cells.toList (off+k) x xs (by simp;omega);simpa[splice,Array.toList_setIfInBounds,Nat.add_assoc] using e
def NI(base:Nat)(U:Nat->Prop)(M0:List Nat)(w0 w:World)(m:Mem)(G:GS)(P:Program)(s:Sem Value)(v:V)(m':Mem):Prop:=
 ∃g w' G',s.run P w=.ok g w'/\Nx base U M0 w0 w m G w' m' G'/\aZ G'.μ m' (Gh U w' G') v g
def NI.same(hA:At base U M0 w0 w m G){s:Sem Value}{g:Value}{v:V}(h:s.run P w=.ok g w)(hv:aZ G.μ m (Gh U w G) v g):NI base U M0 w0 w m G P s v m:=⟨g,w,G,h,hA.nx,hv⟩
def ayB(hA:At base U M0 w0 w m G){T k:Nat}{z:List V}(hz:Sl P T=some z){u:Unit}{l l':Log}(h:(new k (.box T z)).run m l=some (u,m',l')):
  NI base U M0 w0 w m G P (Instr.alloc T true (.tuple #[])) (.ptr k 0) m':=by
 obtain⟨i,zv,hi,hzv,hs⟩:=VF (m:=m) (μ:=G.μ) (h:=Gh U w G) hz;obtain⟨G',hnx,Xr⟩:=amI hA hs h;refine⟨_,_,G', ?_,hnx,Xr⟩;simp[Instr.alloc,zeroValue,typeInfo,hi,hzv,newVar,newRow]
def aGc(hA:At base U M0 w0 w m G){T k:Nat}{v:V}{g:Value}(hv:aZ G.μ m (Gh U w G) v g)(h1:v.cells.all one=true){u:Unit}{l l':Log}(h:(new k (.box T v.cells)).run m l=some (u,m',l')):
  NI base U M0 w0 w m G P (Instr.box T g) (.ptr k 0) m':=by
 obtain⟨hs,_⟩:=cells_ok h1 hv;obtain⟨G',hnx,Xr⟩:=amI hA hs h;refine⟨_,_,G', ?_,hnx,Xr⟩;simp[Instr.box,newVar,newRow]
def ahH:∀(fs:List Field),(fs.all λf=>match P.info? f.type with|some _=>true|none=>false)=true->
  ∃places,fs.mapM (λf=>(P.info? f.type).map λi=>(f.offset,i.size))=some places/\∀(j:Nat) f,fs[j]? =some f->places[j]? =some (f.offset,uf P f.type)
 |[],_=>⟨[],by simp,by simp⟩
 |f::fs,h=>by
  simp only[List.all_cons,BK] at h;obtain⟨places,h1,h2⟩:=ahH fs h.2;cases hi:P.info? f.type with
  |none=>simp[hi] at h
  |some i=>
   refine⟨(f.offset,i.size)::places,by simp[List.mapM_cons,hi,h1], ?_⟩;intro j g hj;cases j with
   |zero=>simp at hj;subst hj;simp[uf,hi]
   |succ j=>simpa using h2 j g (by simpa using hj)
def acD{T:TypeId}{fs:Array Field}(hu:P.underlying T=some (.struct fs)){place:Nat->Option (Nat×Nat)}(hp:∀(j:Nat) f,fs[j]? =some f->place j=some (f.offset,uf P f.type)){tm:nK}{a:Act}
  {μ:Nat->Value} {h:View}:∀(ps:List (Nat×Operand)) {m:Mem} (_:afm μ m h tm a) {cs:List V} {cells:Array Value} (_:dH μ m h cs cells.toList) {out:List V} {m':Mem} {l l':Log}
  (_:(zF P T tm ps cs).run m l=some (out,m',l')),m'=m/\∃r,Instr.fill place cells (ps.map λx=>(x.1,a.eval x.2))=some r/\dH μ m h out r.toList
 |[],m,hT,cs,cells,hs,out,m',l,l',hr=>by simp only[zF,run_pure,kX,pW] at hr;obtain⟨rfl,rfl,_⟩:=hr;exact⟨rfl,cells,rfl,hs⟩
 |(f,x)::ps,m,hT,cs,cells,hs,out,m',l,l',hr=>by
  simp only[zF] at hr;replace hr:=ay hr;obtain⟨⟨o,n,t⟩,m1,l1,h1,hr⟩:=hr;obtain⟨hf,rfl,rfl⟩:=lW h1;simp only at hr;obtain⟨hlen,hr⟩:=bck hr;obtain⟨hone,hr⟩:=bck hr;obtain⟨hfit,hr⟩:=bck hr;have hlen:=I5 hlen;have hfit:=Nat.le_of_ble_eq_true hfit;obtain⟨hv,hv1⟩:=cells_ok hone (aaj hT t x);have hgl:(a.eval x).cells.size=n:=by rw[<-hlen,<-lC hv,Array.length_toList]
  have hcl:cells.size=cs.length:=by rw[<-lC hs,Array.length_toList]
  have hpl:place f=some (o,n):=by
   unfold YI at hf;rw[hu] at hf;simp only at hf;cases hfd:fs[f]? with
   |none=>simp[hfd] at hf
   |some fd=>simp only[hfd,kX,pW] at hf;obtain⟨rfl,rfl,rfl⟩:=hf;exact hp f fd hfd
  have hsp:=YO o (a.eval x).cells.toList 0 cells (by simp;omega);have hz:(a.eval x).cells.zipIdx.foldl (λcs (c,j)=>cs.setIfInBounds (o+j) c) cells=(splice cells.toList o (a.eval x).cells.toList).toArray:=by apply Array.ext';rw[<-Array.foldl_toList];simpa using hsp
  obtain⟨hm,r,hr1,hr2⟩:=acD hu hp ps hT (cells:=(splice cells.toList o (a.eval x).cells.toList).toArray) (by simpa using YM o hs hv) hr;refine⟨hm,r, ?_,hr2⟩;simp only[zmc,Instr.fill,hpl];rw[if_neg (by simp[hgl];omega),hz];exact hr1
def awK(hA:At base U M0 w0 w m G){tm:nK}{a:Act}(hT:afm G.μ m (Gh U w G) tm a){T:TypeId}{ps:Array (Nat×Operand)}{v:V}{l l':Log}(h:(aot P T tm ps.toList).run m l=some (v,m',l')):
  NI base U M0 w0 w m G P (Instr.build T (ps.map λx=>(x.1,a.eval x.2))) v m':=by
 simp only[aot] at h;replace h:=ay h;obtain⟨_,m1,l1,h1,h⟩:=h;obtain⟨hok,rfl,rfl⟩:=iK h1;replace h:=ay h;obtain⟨z,m1,l1,h1,h⟩:=h;obtain⟨hz,rfl,rfl⟩:=lW h1;replace h:=ay h;obtain⟨cs,m2,l2,h2,h⟩:=h;simp only[run_pure,kX,pW] at h;obtain⟨rfl,rfl,_⟩:=h;obtain⟨i,zv,hi,hzv,hs⟩:=VF (m:=m1) (μ:=G.μ) (h:=Gh U w G) hz;unfold apW at hok;cases hu:P.underlying T with
 |none=>simp[hu] at hok
 |some d=>
  rw[hu] at hok;cases d with
  |struct fs=>simp only at hok;obtain⟨places,hpl,hpg⟩:=ahH fs.toList hok;obtain⟨hm,r,hr1,hr2⟩:=acD (place:=(places.toArray[·]?)) hu (λj f hj=>by simpa using hpg j f (by simpa using hj)) ps.toList hT hs h2;subst hm;refine NI.same hA (g:=.agg r) ?_ (by simp only[aZ];exact⟨r,rfl,hr2⟩);refine run_build w T _ r ?_;unfold Program.built;simp only[hi,hu,hzv,hpl];simpa[Array.toList_map] using hr1
  |_=>simp at hok
def aam{e:TypeId}{size:Nat}(hsz:uf P e=size){tm:nK}{a:Act}
  {μ:Nat->Value} {h:View}:∀(ps:List (Nat×Operand)) {m:Mem} (_:afm μ m h tm a) {cs:List V} {cells:Array Value} (_:dH μ m h cs cells.toList) {out:List V} {m':Mem} {l l':Log}
  (_:(wX P e tm ps cs).run m l=some (out,m',l')),m'=m/\∃r,Instr.fill (λi=>some (i * size,size)) cells (ps.map λx=>(x.1,a.eval x.2))=some r/\dH μ m h out r.toList
 |[],m,hT,cs,cells,hs,out,m',l,l',hr=>by simp only[wX,run_pure,kX,pW] at hr;obtain⟨rfl,rfl,_⟩:=hr;exact⟨rfl,cells,rfl,hs⟩
 |(i,x)::ps,m,hT,cs,cells,hs,out,m',l,l',hr=>by
  simp only[wX] at hr;obtain⟨hlen,hr⟩:=bck hr;obtain⟨hone,hr⟩:=bck hr;obtain⟨hfit,hr⟩:=bck hr;have hlen:=I5 hlen;have hfit:=Nat.le_of_ble_eq_true hfit;rw[hsz] at hlen hfit hr;obtain⟨hv,hv1⟩:=cells_ok hone (aaj hT e x);have hgl:(a.eval x).cells.size=size:=by rw[<-hlen,<-lC hv,Array.length_toList]
  have hcl:cells.size=cs.length:=by rw[<-lC hs,Array.length_toList]
  have hsp:=YO (i * size) (a.eval x).cells.toList 0 cells (by simp;omega);have hz:(a.eval x).cells.zipIdx.foldl (λcs (c,j)=>cs.setIfInBounds (i * size+j) c) cells=(splice cells.toList (i * size) (a.eval x).cells.toList).toArray:=by apply Array.ext';rw[<-Array.foldl_toList];simpa using hsp
  obtain⟨hm,r,hr1,hr2⟩:=aam hsz ps hT (cells:=(splice cells.toList (i * size) (a.eval x).cells.toList).toArray) (by simpa using YM (i * size) hs hv) hr;refine⟨hm,r, ?_,hr2⟩;simp only[zmc,Instr.fill];rw[if_neg (by simp[hgl];omega),hz];exact hr1
def awL(hA:At base U M0 w0 w m G){tm:nK}{a:Act}(hT:afm G.μ m (Gh U w G) tm a){T:TypeId}{ps:Array (Nat×Operand)}{v:V}{l l':Log}(h:(aou P T tm ps.toList).run m l=some (v,m',l')):
  NI base U M0 w0 w m G P (Instr.build T (ps.map λx=>(x.1,a.eval x.2))) v m':=by
 unfold aou at h;split at h
 ·rename_i n e har;unfold arT at har;cases hu:P.underlying T with
  |none=>simp[hu] at har
  |some d=>rw[hu] at har;cases d<;>simp at har;obtain⟨rfl,rfl⟩:=har;simp only[atr] at h;replace h:=ay h;obtain⟨_,m1,l1,h1,h⟩:=h;obtain⟨hok,rfl,rfl⟩:=iK h1;replace h:=ay h;obtain⟨z,m1,l1,h1,h⟩:=h;obtain⟨hz,rfl,rfl⟩:=lW h1;replace h:=ay h;obtain⟨cs,m2,l2,h2,h⟩:=h;simp only[run_pure,kX,pW] at h;obtain⟨rfl,rfl,_⟩:=h;obtain⟨i,zv,hi,hzv,hs⟩:=VF (m:=m1) (μ:=G.μ) (h:=Gh U w G) hz;obtain⟨d',hd'⟩:=JV hok;obtain⟨inf,Rq⟩:=F6 hd';obtain⟨hm,r,hr1,hr2⟩:=aam (Pz Rq) ps.toList hT hs h2;subst hm;refine NI.same hA (g:=.agg r) ?_ (by simp only[aZ];exact⟨r,rfl,hr2⟩);refine run_build w T _ r ?_;unfold Program.built;simp only[hi,hu,hzv,Rq];simpa[Array.toList_map] using hr1
 ·exact awK hA hT h
def acE{e:TypeId}{tm:nK}{a:Act}:∀(ps:List (Nat×Operand)) {m:Mem} {G:GS} {k:Nat} (_:I7 base U w m G) (_:G.out=[]) (_:afm G.μ m (Gh U w G) tm a) {rows:List Row} {m':Mem} {l l':Log}
  (_:(zG P e tm k ps).run m l=some (rows,m',l')),∃G' N,Ph base U w m G m' G' N/\jc (eY w) (Gh U w G') (uf P e) rows ((ps.map λx=>a.eval x.2).flatMap λv=>v.cells.toList) N/\rows.length=ps.length/\
   (∀v∈ps.map (λx=>a.eval x.2),v.cells.size=uf P e)/\ps.map (λx=>(x.1,a.eval x.2))=((ps.map λx=>a.eval x.2).zipIdx k).map λx=>(x.2,x.1)
 |[],m,G,k,hg,ho,hT,rows,m',l,l',h=>by simp only[zG,run_pure,kX,pW] at h;obtain⟨rfl,rfl,_⟩:=h;exact⟨G,[],Ph.same hg,by simp[jc],rfl,by simp,by simp⟩
 |(i,x)::ps,m,G,k,hg,ho,hT,rows,m',l,l',h=>by
  simp only[zG] at h;replace h:=ay h;obtain⟨_,m1,l1,h1,h⟩:=h;obtain⟨hik,rfl,rfl⟩:=iK h1;have hik:=I5 hik;subst hik;replace h:=ay h;obtain⟨_,m1,l1,h1,h⟩:=h;obtain⟨hlen,rfl,rfl⟩:=iK h1;have hlen:=I5 hlen;replace h:=ay h;obtain⟨row,m2,l2,h2,h⟩:=h;replace h:=ay h;obtain⟨rows',m3,l3,h3,h⟩:=h;simp only[run_pure,kX,pW] at h;obtain⟨rfl,rfl,_⟩:=h;have hev:=aaj (P:=P) hT e x;have hcells:∃gs,dH G.μ m1 (Gh U w G) (ev P tm e x).cells gs/\(a.eval x).cells.toList=gs:=by
   generalize ev P tm e x=v at hev h2 hlen;cases v with
   |agg cs=>simp only[aZ] at hev;obtain⟨arr,he,hq⟩:=hev;exact⟨arr.toList,hq,by rw[he];rfl⟩
   |d y=>have h1:(a.eval x).oneCell'=true:=sK (v:=.d y) rfl hev;exact⟨[a.eval x],by simp only[V.cells,dH];exact⟨_,[],rfl,hev,rfl⟩,by rw[cells_one h1]⟩
   |nil s=>have h1:(a.eval x).oneCell'=true:=sK (v:=.nil s) rfl hev;exact⟨[a.eval x],by simp only[V.cells,dH];exact⟨_,[],rfl,hev,rfl⟩,by rw[cells_one h1]⟩
   |own r ver=>have h1:(a.eval x).oneCell'=true:=sK (v:=.own r ver) rfl hev;exact⟨[a.eval x],by simp only[V.cells,dH];exact⟨_,[],rfl,hev,rfl⟩,by rw[cells_one h1]⟩
   |ptr r o=>have h1:(a.eval x).oneCell'=true:=sK (v:=.ptr r o) rfl hev;exact⟨[a.eval x],by simp only[V.cells,dH];exact⟨_,[],rfl,hev,rfl⟩,by rw[cells_one h1]⟩
   |KX r v i o=>have h1:(a.eval x).oneCell'=true:=sK (v:=.KX r v i o) rfl hev;exact⟨[a.eval x],by simp only[V.cells,dH];exact⟨_,[],rfl,hev,rfl⟩,by rw[cells_one h1]⟩
   |EU r o=>have h1:(a.eval x).oneCell'=true:=sK (v:=.EU r o) rfl hev;exact⟨[a.eval x],by simp only[V.cells,dH];exact⟨_,[],rfl,hev,rfl⟩,by rw[cells_one h1]⟩
   |Pn q=>have h1:(a.eval x).oneCell'=true:=sK (v:=.Pn q) rfl hev;exact⟨[a.eval x],by simp only[V.cells,dH];exact⟨_,[],rfl,hev,rfl⟩,by rw[cells_one h1]⟩
   |clo f p q=>have h1:(a.eval x).oneCell'=true:=sK (v:=.clo f p q) rfl hev;exact⟨[a.eval x],by simp only[V.cells,dH];exact⟨_,[],rfl,hev,rfl⟩,by rw[cells_one h1]⟩
   |MF vs=>simp only[V.cells,Pq,toD] at h2;replace h2:=ay h2;obtain⟨_,_,_,h4,_⟩:=h2;exact aI h4
   |undef=>simp only[V.cells,Pq,toD] at h2;replace h2:=ay h2;obtain⟨_,_,_,h4,_⟩:=h2;exact aI h4
  obtain⟨gs,hgs,hge⟩:=hcells;obtain⟨G1,N1,t1,q1,hrl⟩:=Vz hg hgs ho h2;have hT1:afm G1.μ m2 (Gh U w G1) tm a:=λt v hv=>⟨(hT t v hv).1,t1.le.aZ (hT t v hv).2⟩
  obtain⟨G2,N2,t2,q2,hl2,hs2,hz2⟩:=acE ps t1.ok (t1.out.trans ho) hT1 h3;have hgl:gs.length=uf P e:=by rw[lC hgs,hlen]
  refine⟨G2,N1++N2,t1.trans t2, ?_,by simp[hl2], ?_, ?_⟩
  ·simp only[jc,zmc,List.flatMap_cons,hge];refine⟨by rw[hrl,hlen],N1,N2,rfl,Ro (by rw[hrl,<-lC hgs];simp) (aek t2.le.view q1), ?_⟩;rw[List.drop_append_of_le_length ak,List.drop_eq_nil_of_le ak];exact q2
  ·intro v hv;simp only[zmc,List.mem_cons] at hv;rcases hv with rfl|hv
   ·rw[<-Array.length_toList,hge,hgl]
   ·exact hs2 v hv
  ·simp only[zmc,List.zipIdx_cons,hz2]
def ajO(hA:At base U M0 w0 w m G){tm:nK}{a:Act}(hT:afm G.μ m (Gh U w G) tm a){t:TypeId}{n k:Nat}{ps:Array (Nat×Operand)}{v:V}{l l':Log}(h:(WE P k t n tm ps.toList).run m l=some (v,m',l')):
  NI base U M0 w0 w m G P (Instr.buildSlice t n (ps.map λx=>(x.1,a.eval x.2))) v m':=by
 simp only[WE] at h;replace h:=ay h;obtain⟨e,m1,l1,h1,h⟩:=h;obtain⟨he,rfl,rfl⟩:=lW h1;replace h:=ay h;obtain⟨_,m1,l1,h1,h⟩:=h;obtain⟨hs1,rfl,rfl⟩:=iK h1;replace h:=ay h;obtain⟨_,m1,l1,h1,h⟩:=h;obtain⟨hn,rfl,rfl⟩:=iK h1;replace h:=ay h;obtain⟨_,m1,l1,h1,h⟩:=h;obtain⟨hb,rfl,rfl⟩:=iK h1;replace h:=ay h;obtain⟨z,m1,l1,h1,h⟩:=h;obtain⟨hz,rfl,rfl⟩:=lW h1;obtain⟨inf,zv,hi,hzv,_⟩:=VF (m:=m1) (μ:=G.μ) (h:=Gh U w G) hz;replace h:=ay h;obtain⟨rows,m2,l2,h2,h⟩:=h;replace h:=ay h;obtain⟨_,m3,l3,h3,h⟩:=h;simp only[run_pure,kX,pW] at h;obtain⟨rfl,rfl,_⟩:=h;have hs1:=Nat.le_of_ble_eq_true hs1;have hn:=I5 hn;have hb:=Nat.le_of_ble_eq_true hb;have hu:=XV he;obtain⟨G1,N1,t1,q1,hrl,hsz,aTE⟩:=acE (e:=e) ps.toList hA.ok hA.out hT h2;obtain⟨hE1,ho1,ap5⟩:=hA.took t1;have hsz':uf P e=inf.size:=Pz hi;have hrn:rows.length=n:=by rw[hrl,hn]
 by_cases hn0:n=0
 ·subst hn0;have hps:ps.toList=[]:=List.eq_nil_of_length_eq_zero hn;have hrows:rows=[]:=List.eq_nil_of_length_eq_zero hrn;subst hrows;have hpa:ps=#[]:=by cases ps;simp_all
  subst hpa;simp only[jc] at q1;obtain⟨G2,hnx,Xr⟩:=ajN (w1:=w) (cap:=0) (arr:=#[]) (T:=e) t1.ok ho1 ap5 rfl (Keep.refl _ _) (k:=k) (fl:=Iy P e) (s:=uf P e) (rows:=[]) (by rw[hE1,q1];simp[jc]) (by simp) (by simp) h3;refine⟨_,_,G2, ?_,Nx.after t1.le hnx,Xr⟩;simp[Instr.buildSlice,run_underlying hu,sizeOf,typeInfo,hi,Instr.fill,newRow,Array.range_zero']
 ·have hpos:¬n * inf.size=0:=by rw[<-hsz'];intro e0;rcases Nat.mul_eq_zero.1 e0 with e1|e1<;>omega
  have hsmall:¬n * inf.size>2 ^ 24:=by rw[<-hsz'];omega
  have ayC:=Go.Great.fill_whole (s:=uf P e) ak (ps.toList.map λx=>a.eval x.2) ((Array.range (n * inf.size)).map (zv.cells[· % zv.cells.size]!)) hsz (by simp[<-hsz'];rw[<-hn];simp);rw[<-aTE] at ayC;have hrun:=run_buildSlice w t e n (ps.map λx=>(x.1,a.eval x.2)) _ inf zv hu hi hzv hsmall hpos (by rw[<-hsz'];rw[<-hsz'] at ayC;simpa[Array.toList_map] using ayC);have hcl:((ps.toList.map λx=>a.eval x.2).flatMap λv=>v.cells.toList).length=n * uf P e:=by
   have:∀(l:List Value),(∀v∈l,v.cells.size=uf P e)->(l.flatMap λv=>v.cells.toList).length=l.length * uf P e:=by
    intro l;induction l with
    |nil=>simp
    |cons v l ih=>intro hv;simp only[List.flatMap_cons,Ai,GX,Nat.add_mul,Array.length_toList];rw[ih (λu hu=>hv u (by simp[hu])),hv v (by simp)];omega
   rw[this _ hsz];simp[<-hn]
  obtain⟨G2,hnx,Xr⟩:=ajN (w1:=w) (cap:=n) (arr:=((ps.toList.map λx=>a.eval x.2).flatMap λv=>v.cells.toList).toArray) (T:=e) t1.ok ho1 ap5 rfl (Keep.refl _ _) (k:=k) (fl:=Iy P e) (s:=uf P e) (rows:=rows) (by rw[hE1];simpa using q1) ak (by simp[hcl]) h3;rw[hrn] at Xr;exact⟨_,_,G2,hrun,Nx.after t1.le hnx,Xr⟩
def ahI{h:View}{b:Nat}:∀(r:Row) (o:Nat),BL h r b o->∃cs:List Value,cs.length=r.length/\(∀j v,cs[j]? =some v->h b (o+j)=some v)/\jM h r cs
 |[],_,_=>⟨[],rfl,by simp,trivial⟩
 |x::r,o,q=>by
  simp only[BL] at q;obtain⟨⟨v,h1,h2⟩,h3⟩:=q;obtain⟨cs,e1,e2,e3⟩:=ahI r (o+1) h3;refine⟨v::cs,by simp[e1], ?_,⟨v,cs,rfl,h2,e3⟩⟩;intro j u hj;cases j with
  |zero=>simp at hj;subst hj;exact h1
  |succ j=>
   have:=e2 j u (by simpa using hj)
   rwa [show o+(j+1)=o+1+j from by omega]
def YP{h:View}{s b:Nat}:∀(rs:List Row) (o:Nat),sJ h s rs b o->∃cs:List Value,cs.length=rs.length * s/\(∀j v,cs[j]? =some v->h b (o+j)=some v)/\jK h s rs cs
 |[],_,_=>⟨[],by simp,by simp,trivial⟩
 |r::rs,o,q=>by
  simp only[sJ] at q;obtain⟨h1,h2,h3⟩:=q;obtain⟨cs1,a1,a2,a3⟩:=ahI r o h2;obtain⟨cs2,b1,b2,b3⟩:=YP rs (o+s) h3;have hl:cs1.length=s:=by rw[a1,h1]
  refine⟨cs1++cs2,by simp[hl,b1,Nat.add_mul];omega, ?_,h1, ?_, ?_⟩
  ·intro j u hj
   by_cases hlt:j<s
   ·rw[List.getElem?_append_left ak] at hj;exact a2 j u hj
   ·rw[List.getElem?_append_right ak,hl] at hj;have:=b2 (j - s) u hj
    rwa [show o+j=o+s+(j - s) from by omega]
  ·refine PE ?_ a3;rw[List.take_append_of_le_length ak]
  ·rw[List.drop_append_of_le_length ak,List.drop_eq_nil_of_le ak];exact b3
def ahJ{h:View}:∀{r:Row} {cs:List Value},jM h r cs->∀u∈cs.take r.length,u.oneCell'=true
 |[],_,_=>by simp
 |x::r,cs,⟨v,cs',e,h1,h2⟩=>by
  subst e;intro u hu;simp only[GX,List.take_succ_cons,List.mem_cons] at hu;rcases hu with rfl|hu
  ·exact Xq h1
  ·exact ahJ h2 u hu
def YQ{h:View}{s:Nat}:∀{rs:List Row} {cs:List Value},jK h s rs cs->∀u∈cs.take (rs.length * s),u.oneCell'=true
 |[],_,_=>by simp
 |r::rs,cs,⟨h1,h2,h3⟩=>by
  intro u hu;have hs:(r::rs).length * s=s+rs.length * s:=by simp[Nat.add_mul];omega
  rw[hs,List.take_add] at hu;simp only[List.mem_append] at hu;rcases hu with hu|hu
  ·exact ahJ h2 u (by rw[h1];exact hu)
  ·exact YQ h3 u hu
def alW{H:Heap}{h:View}{x:D}{g:Value}{N:List Nat}(q:ow H h x g N):g.oneCell'=true:=by
 cases x with
 |sl o s rows=>
  cases o with
  |false=>simp only[ow] at q;exact Xq q.2
  |true=>simp only[ow] at q;rcases q with⟨_,rfl,_⟩|⟨b,cap,cs,t,N',rfl,_⟩<;>rfl
 |_=>simp only[ow] at q;rw[q.1];rfl
def amJ{H:Heap}{h:View}:∀{r:Row} {cs:List Value} {N:List Nat},jY H h r cs N->∀u∈cs.take r.length,u.oneCell'=true
 |[],_,_,_=>by simp
 |x::r,cs,N,q=>by
  obtain⟨v,cs',N1,N2,rfl,rfl,h1,h2⟩:=Oz q;intro u hu;simp only[GX,List.take_succ_cons,List.mem_cons] at hu;rcases hu with rfl|hu
  ·exact alW h1
  ·exact amJ h2 u hu
def ajP{H:Heap}{h:View}{s:Nat}:∀{rs:List Row} {cs:List Value} {N:List Nat},jc H h s rs cs N->∀u∈cs.take (rs.length * s),u.oneCell'=true
 |[],_,_,_=>by simp
 |r::rs,cs,N,q=>by
  simp only[jc] at q;obtain⟨h1,N1,N2,rfl,h2,h3⟩:=q;intro u hu;have hs:(r::rs).length * s=s+rs.length * s:=by simp[Nat.add_mul];omega
  rw[hs,List.take_add] at hu;simp only[List.mem_append] at hu;rcases hu with hu|hu
  ·exact amJ h2 u (by rw[h1];exact hu)
  ·exact ajP h3 u hu
def Jm(H:Heap)(h:View)(fl:Bool)(s:Nat)(rows:List Row)(cs:List Value)(N:List Nat):Prop:=match fl with
 |true=>jK h s rows cs/\N=[]
 |false=>jc H h s rows cs N
def Rt{H:Heap}{h:View}{fl:Bool}{s:Nat}{rows:List Row}{cs cs':List Value}{N:List Nat}(e:cs.take (rows.length * s)=cs'.take (rows.length * s))(q:Jm H h fl s rows cs N):Jm H h fl s rows cs' N:=by
 cases fl with
 |true=>exact⟨SA e q.1,q.2⟩
 |false=>exact WM e q
def afn{H:Heap}{h:View}{fl:Bool}{s:Nat}{a b:List Row}{cs:List Value}{N N':List Nat}(q:Jm H h fl s a cs N)(q':Jm H h fl s b (cs.drop (a.length * s)) N'):Jm H h fl s (a++b) cs (N++N'):=by
 cases fl with
 |true=>exact⟨NH.2 ⟨q.1,q'.1⟩,by rw[q.2,q'.2];rfl⟩
 |false=>exact Nl.2 ⟨N,N',rfl,q,q'⟩
def OB{H H':Heap}{h h':View}(hl:h.le h'){fl:Bool}{s:Nat}{rows:List Row}{cs:List Value}{N:List Nat}(hb:∀b,b∈N->H' b=H b)(q:Jm H h fl s rows cs N):Jm H' h' fl s rows cs N:=by
 cases fl with
 |true=>exact⟨Nj hl s rows _ q.1,q.2⟩
 |false=>exact JU hl s rows _ N hb q
mutual
def ayD{H:Heap}{h:View}:∀(x:D) (v:Value),ro h x.fz v->ow H h x.fz v []
 | .int _ _,_,q=>by simpa[D.fz,ow,ro] using q
 | .bool _,_,q=>by simpa[D.fz,ow,ro] using q
 | .str _,_,q=>by simpa[D.fz,ow,ro] using q
 | .ZL,_,q=>by simpa[D.fz,ow,ro] using q
 | .sl _ s rows,v,q=>by simp only[D.fz,ow,true_and] at q|-;exact q
end
def ahK{H:Heap}{h:View}:∀(r:Row) (cs:List Value),jM h (AY r) cs->jY H h (AY r) cs []
 |[],_,_=>by simp[AY,jY]
 |x::r,cs,q=>by simp only[AY,jM] at q;obtain⟨v,cs',e,h1,h2⟩:=q;simp only[AY,jY];exact⟨v,cs',[],[],e,rfl,ayD x v h1,ahK r cs' h2⟩
def afo{H:Heap}{h:View}{s:Nat}:∀(rs:List Row) (cs:List Value),jK h s (aB rs) cs->jc H h s (aB rs) cs []
 |[],_,_=>by simp[aB,jc]
 |r::rs,cs,q=>by simp only[aB,jK] at q;obtain⟨h1,h2,h3⟩:=q;simp only[aB,jc];exact⟨h1,[],[],rfl,ahK r cs h2,afo rs _ h3⟩
def ajQ{h:View}:∀{r:Row} {cs:List Value},jM h r cs->jM h (AY r) cs
 |[],_,_=>by simp[AY,jM]
 |x::r,cs,⟨v,cs',e,h1,h2⟩=>by simp only[AY,jM];exact⟨v,cs',e,ayt x v h1,ajQ h2⟩
def ahL{h:View}{s:Nat}:∀{rs:List Row} {cs:List Value},jK h s rs cs->jK h s (aB rs) cs
 |[],_,_=>by simp[aB,jK]
 |r::rs,cs,⟨h1,h2,h3⟩=>by simp only[aB,jK];exact⟨by rw[YK];exact h1,ajQ h2,ahL h3⟩
structure Tail(P:Program)(base:Nat)(U:Nat->Prop)(w:World)(m:Mem)(G:GS)(size:Nat)(fl:Bool)(gy:Value)(ys:List Row)(m':Mem):Prop where
 ex:∃G' news,I7 base U w m' G'/\GLe m G m' G'/\G'.out=G.out/\G'.μ=G.μ/\Src P size w gy ys.length news/\Jm (eY w) (Gh U w G') fl size ys news G'.E/\∀r c,get r m=some c->get r m'=some c\/get r m'=some .dead
def aB4(hA:At base U M0 w0 w m G){e:TypeId}{y:V}{gy:Value}(hy:aZ G.μ m (Gh U w G) y gy)(hsz:1<=uf P e){ys:List Row}{l l':Log}(h:(tail P e y).run m l=some (ys,m',l')):
  Tail P base U w m G (uf P e) (Iy P e) gy ys m':=by
 have plain:∀(ys:List Row) (news:List Value),Src P (uf P e) w gy ys.length news->(Iy P e=true->jK (Gh U w G) (uf P e) ys news)->(Iy P e=false->jc (eY w) (Gh U w G) (uf P e) ys news [])->
   Tail P base U w m G (uf P e) (Iy P e) gy ys m:=by
  intro ys news h1 h2 h3;refine⟨G,news,hA.ok,GLe.refl _ _,rfl,rfl,h1, ?_,λr c h=> .inl h⟩;rw[hA.E];cases hf:Iy P e with
  |true=>exact⟨h2 hf,rfl⟩
  |false=>exact h3 hf
 have seen:∀(rows:List Row) (o:Bool),ro (Gh U w G) (.sl o (uf P e) rows) gy->Tail P base U w m G (uf P e) (Iy P e) gy (vw (Iy P e) rows) m:=by
  intro rows o hq;simp only[ro] at hq;obtain⟨a,cap,rfl,hcap,hne⟩:=hq;have hvl:(vw (Iy P e) rows).length=rows.length:=by unfold vw;cases Iy P e<;>simp[Xn]
  by_cases hr:rows=[]
  ·subst hr;have hv:vw (Iy P e) []=[]:=by unfold vw;cases Iy P e<;>simp[aB]
   rw[hv];exact plain [] [] (Src.slice (by simp) (by simp) (by simp)) (λ_=>trivial) (λ_=>by simp[jc])
  ·obtain⟨b,o',rfl,hrows⟩:=hne hr;obtain⟨cs,c1,c2,c3⟩:=YP rows o' hrows;refine plain _ cs ?_ (λhf=> ?_) (λhf=> ?_)
   ·rw[hvl];refine Src.slice c1 (λu hu=> ?_) (λ_=>⟨b,o',rfl,λj v hj=>yA _ _ _ _ _ _ (c2 j v hj)⟩);exact YQ c3 u (by rw[<-c1,List.take_length];exact hu)
   ·rw[hf];exact c3
   ·rw[hf];simp only[vw,bC];exact afo rows cs (ahL c3)
 cases y with
 |d x=>
  cases x with
  |str s=>simp only[Vm.tail] at h;replace h:=ay h;obtain⟨_,m1,l1,h1,h⟩:=h;obtain⟨hs,rfl,rfl⟩:=iK h1;simp only[run_pure,kX,pW] at h;obtain⟨rfl,rfl,_⟩:=h;have hs:=I5 hs;simp only[aZ,ro] at hy;subst hy;have aE5:=ayx (h:=Gh U w G) s _ rfl;refine plain _ _ (by rw[hs];simpa using Src.string) (λ_=>by rw[hs];exact aE5) (λ_=> ?_);rw[hs];refine aaf 1 _ _ ?_ aE5;simp[aj,byteRow,D.flat]
  |sl o s rows=>simp only[Vm.tail] at h;replace h:=ay h;obtain⟨_,m1,l1,h1,h⟩:=h;obtain⟨hs,rfl,rfl⟩:=iK h1;simp only[run_pure,kX,pW] at h;obtain⟨rfl,rfl,_⟩:=h;have hs:=I5 hs;subst hs;simp only[aZ] at hy;exact seen rows o hy
  |_=>exact aI h
 |nil s=>simp only[Vm.tail,run_pure,kX,pW] at h;obtain⟨rfl,rfl,_⟩:=h;simp only[aZ] at hy;subst hy;exact plain [] [] (Src.slice (by simp) (by simp) (by simp)) (λ_=>trivial) (λ_=>by simp[jc])
 |own r ver=>
  simp only[Vm.tail] at h;replace h:=ay h;obtain⟨c,m1,l1,h1,h⟩:=h;rw[Aj] at h1;cases h1;cases hc:get r m with
  |none=>rw[hc] at h;exact aI h
  |some c=>
   rw[hc] at h;cases c with
   |arr fz fl vC s rows=>
    simp only at h;replace h:=ay h;obtain⟨_,m1,l1,h1,h⟩:=h;obtain⟨hb,rfl,rfl⟩:=iK h1;have hb:=I5 hb;subst hb;replace h:=ay h;obtain⟨_,m1,l1,h1,h⟩:=h;obtain⟨hs,rfl,rfl⟩:=iK h1;have hs:=I5 hs;subst hs;simp only[aZ,hc] at hy;have hy:=hy.2.2 trivial;subst hy;have hro:r ∉ G.out:=by rw[hA.out];simp
    have hcell:=hA.ok.cell r _ hc hro;cases hf:Iy P e with
    |true=>
     rw[hf] at h;simp only at h;replace h:=ay h;obtain⟨_,m1,l1,h1,h⟩:=h;obtain⟨hff,rfl,rfl⟩:=iK h1;simp only[run_pure,kX,pW] at h;obtain⟨rfl,rfl,_⟩:=h;cases fz with
     |true=>have:=seen rows true hcell.1;rw[hf] at this;simpa[vw] using this
     |false=>
      have hfl:fl=true:=by simpa using hff
      subst hfl;rw[hf] at plain;simp only[vM] at hcell;rcases hcell with⟨rfl,hμ,_⟩|⟨b,cap,cs,T,N',h1,h2,h3,h4,h5,_⟩
      ·rw[hμ] at plain|-;exact plain [] [] (Src.slice (by simp) (by simp) (by simp)) (λ_=>trivial) (λe=>by cases e)
      ·rw[h1] at plain|-;have hle:rows.length * uf P e<=cs.toList.length:=by
        have hcl:cs.toList.length=cap * uf P e:=by simpa using h4
        rw[hcl];exact Nat.mul_le_mul_right _ h2
       refine plain rows (cs.toList.take (rows.length * uf P e)) (Src.slice (by rw[zlt];omega) (λu hu=>YQ h5.1 u hu) (λ_=>⟨b,0,rfl,λj v hj=> ?_⟩)) (λ_=>SA (by rw[List.take_take,Nat.min_self]) h5.1) (λe=>by cases e);rw[List.getElem?_take] at hj;split at hj
       ·have:=full_cell (w:=w) h3 (0+j);rw[Nat.zero_add] at this|-;rw[hj] at this;exact this
       ·cases hj
    |false=>
     rw[hf] at h;simp only at h;replace h:=ay h;obtain⟨_,m1,l1,h1,h⟩:=h;obtain⟨hff,rfl,rfl⟩:=iK h1;have hfl:fl=false:=by simpa using hff
     subst hfl;cases fz with
     |true=>simp only[run_pure,kX,pW] at h;obtain⟨rfl,rfl,_⟩:=h;have:=seen rows true hcell.1;rw[hf] at this;simpa[vw] using this
     |false=>
      simp only at h;replace h:=ay h;obtain⟨_,m1,l1,h1,h⟩:=h;rw[Py] at h1;cases h1;simp only[run_pure,kX,pW] at h;obtain⟨rfl,rfl,_⟩:=h;obtain⟨k1,k2,k3⟩:=hA.ok.kill hc hro;have hold:∀j c,get j m1=some c->get j (put r .dead m1)=some c\/get j (put r .dead m1)=some .dead:=by
       intro j c hj
       by_cases e:j=r
       ·subst e;right;exact kH _ _ _
       ·left;rw[oh e];exact hj
      rcases k3 with⟨rfl,hμ,hF⟩|⟨b,cap,cs,T,N',h1,h2,h3,h4,h5,hF⟩
      ·refine⟨_,[],k1,k2,rfl,rfl, ?_, ?_,hold⟩
       ·rw[hμ];exact Src.slice (by simp) (by simp) (by simp)
       ·rw[hA.E,hF];simp[Jm,jc]
      ·have hnd:(b::N').Nodup:=by rw[<-hF];exact hA.ok.nd r
       obtain⟨q1,q2⟩:=k1.less N' (List.nodup_cons.1 hnd).2 (λx hx=>by rw[hA.E,hF];simp[hx]);have hle:rows.length * uf P e<=cs.toList.length:=by
        have hcl:cs.toList.length=cap * uf P e:=by simpa using h4
        rw[hcl];exact Nat.mul_le_mul_right _ h2
       refine⟨_,cs.toList.take (rows.length * uf P e),q1,k2.trans q2,rfl,rfl, ?_, ?_,hold⟩
       ·rw[h1];refine Src.slice (by rw[zlt];omega) (λu hu=>ajP h5 u hu) (λ_=>⟨b,0,rfl,λj v hj=> ?_⟩);rw[List.getElem?_take] at hj;split at hj
        ·have:=full_cell (w:=w) h3 (0+j);rw[Nat.zero_add] at this|-;rw[hj] at this;exact this
        ·cases hj
       ·exact WM (by rw[List.take_take,Nat.min_self]) (ap0 (k2.view.trans' q2.view) h5)
   |_=>exact aI h
 |_=>exact aI h
end
section
variable {base:Nat} {U:Nat->Prop} {M0:List Nat} {w0 w w':World} {m m':Mem} {G G' G1:GS} {P:Program}
def Hr{b:Bool}{l:Log}{x:Unit}{l':Log}(h:(ck b).run m l=some (x,m',l')):b=true/\m=m'/\l=l':=by obtain⟨h1,h2,h3⟩:=iK h;exact⟨h1,h2.symm,h3.symm⟩
def afp{a:Nat}(h:Nat.ble a afb=true):a<=140737488355328:=Nat.le_of_ble_eq_true h
def amK{M M':List Nat}(h:Keep M w w')(hs:∀b,b∈M->b∈M'):Keep M' w w':=⟨h.os,h.tape,h.output,h.size,λb hb hn=>h.block b hb (λhx=>hn (hs b hx))⟩
def aer{w1:World}{o:Obj}(h:Keep [] w w1):Keep [] w (w1.alloc o):=h.trans (aeo (M:=[])) (by simp)
def ahM(hg:I7 base U w m G)(ho:G.out=[])(hfr:Fr M0 w0 w G){w1:World}(hw1:w1.heap=w.heap)(hk1:Keep [] w w1){k:Nat}{fl:Bool}{s cap:Nat}{rows:List Row}{arr:Array Value}{T:TypeId}(hq:Jm (eY w) (Gh U w G) fl s rows arr.toList G.E)
  (hcap:rows.length<=cap) (hsz:arr.size=cap * s) {u:Unit} {l l':Log} (h:(new k (.arr false fl 0 s rows)).run m l=some (u,m',l')):
  ∃G',Nx base U M0 w0 w m G (w1.alloc (.cells arr T)) m' G'/\aZ G'.μ m' (Gh U (w1.alloc (.cells arr T)) G') (.own k 0) (.slice (some ⟨w.heap.size,0,none⟩) rows.length cap):=by
 obtain⟨hn,rfl⟩:=abY h;have hsize:(w1.alloc (.cells arr T)).heap.size=w.heap.size+1:=by rw[World.size_alloc,hw1]
 have hkeep:Keep [] w (w1.alloc (.cells arr T)):=aer hk1;have hnE:w.heap.size ∉ G.E:=λhE=>by have:=(hg.lt _ (.inl hE)).1;omega
 refine⟨_,hg.fresh ho hfr (gv:=.slice (some ⟨w.heap.size,0,none⟩) rows.length cap) (N:=w.heap.size::G.E) hn hkeep (List.nodup_cons.2 ⟨hnE,hg.ndE⟩) ?_ ?_, ?_⟩
 ·intro b hb;simp only[List.mem_cons] at hb;rcases hb with rfl|hb
  ·exact⟨.inr (Nat.le_refl _),by rw[hsize];omega⟩
  ·exact⟨.inl hb,by rw[hsize];have:=(hg.lt b (.inl hb)).1;omega⟩
 ·intro h' hv hml aB3;simp only[vM,TY];refine .inr ⟨w.heap.size,cap,arr,T,G.E,rfl,hcap,aal hw1,hsz, ?_,rfl⟩;have:=OB (H':=eY (w1.alloc (.cells arr T))) hv (λb hb=>hkeep.block b (hg.lt b (.inl hb)).1 (by simp)) hq;cases fl with
  |true=>exact this
  |false=>exact this
 ·simp[aZ,kH,aeg]
def aes{z:Value}{n s:Nat}(h:z.cells.size=s):(Builtin.zeroCells z.cells n).size=n * s:=by simp[Builtin.zeroCells,h]
def atF(hA:At base U M0 w0 w m G){dst:Nat}{t ty ry:TypeId}{x y:V}{gx gy:Value}(hx:aZ G.μ m (Gh U w G) x gx)(hy:aZ G.μ m (Gh U w G) y gy){v:V}{l l':Log}(h:(aor P dst t ty x y).run m l=some (v,m',l')):
  NI base U M0 w0 w m G P (Builtin.append_ #[t,ty] ry #[gx,gy]) v m':=by
 simp only[aor] at h;replace h:=ay h;obtain⟨e,m1,l1,h1,h⟩:=h;obtain⟨he,rfl,rfl⟩:=lW h1;replace h:=ay h;obtain⟨_,m1,l1,h1,h⟩:=h;obtain⟨hs1,rfl,rfl⟩:=iK h1;replace h:=ay h;obtain⟨_,m1,l1,h1,h⟩:=h;obtain⟨hty,rfl,rfl⟩:=iK h1;replace h:=ay h;obtain⟨z,m1,l1,h1,h⟩:=h;obtain⟨hz,rfl,rfl⟩:=lW h1;replace h:=ay h;obtain⟨_,m1,l1,h1,h⟩:=h;obtain⟨hzs,rfl,rfl⟩:=iK h1;replace h:=ay h;obtain⟨ys,m2,l2,h2,h⟩:=h;have hs1:=Nat.le_of_ble_eq_true hs1;have hu:=XV he;have hty':(∃e',P.underlying ty=some (.slice e'))\/P.underlying ty=some .string:=by
  cases hq:P.underlying ty with
  |none=>simp[hq] at hty
  |some d=>rw[hq] at hty;cases d<;>simp at hty<;>simp
 obtain⟨G1,news,t1,t2,t3,t4,hsrc,hrows,hold⟩:=(aB4 hA hy hs1 h2).ex;have ap5:Fr M0 w0 w G1:=hA.fr.less t2.ex;have ho1:G1.out=[]:=t3.trans hA.out;obtain⟨inf,zv,hi,hzv,aJE⟩:=VF (m:=m1) (μ:=G.μ) (h:=Gh U w G) hz;have hzs:zv.cells.size=uf P e:=by rw[<-I5 hzs,<-lC aJE,Array.length_toList]
 have hsz:uf P e=inf.size:=Pz hi;have hby:ad9 P e=inf.bytes:=by simp[ad9,hi]
 rw[hsz] at hsrc;cases x with
 |nil s0=>
  simp only at h;replace h:=ay h;obtain⟨_,m3,l3,h3,h⟩:=h;obtain⟨hb1,rfl,rfl⟩:=iK h3;replace h:=ay h;obtain⟨_,m3,l3,h3,h⟩:=h;obtain⟨hb2,rfl,rfl⟩:=iK h3;replace h:=ay h;obtain⟨_,m3,l3,h3,h⟩:=h;simp only[run_pure,kX,pW] at h;obtain⟨rfl,rfl,_⟩:=h;simp only[aZ] at hx;subst hx;have hb1:=afp hb1;have hb2:=afp hb2;rw[hby] at hb1
  by_cases hy0:ys=[]
  ·subst hy0;obtain⟨hn,rfl⟩:=abY h3;refine⟨_,w,_,Zp hu hty' hi hsrc,Nx.after t2 (t1.fresh ho1 ap5 (gv:=.slice none 0 0) (N:=[]) hn (Keep.refl _ _) (by simp) (by simp) (λh' hv hml _=> ?_)), ?_⟩
   ·simp only[vM,TY];exact .inl ⟨rfl,rfl,rfl⟩
   ·simp[aZ,kH,aeg]
  ·have hm:ys.length≠0:=by simpa using hy0
   obtain⟨cap,hcap,hrun⟩:=Zo (w:=w) (ty:=ry) hu hty' hi hzv hsrc hm hb2 hb1;obtain⟨G2,hnx,Xr⟩:=ahM (w1:=w.drew) (cap:=cap) (arr:=news.toArray++Builtin.zeroCells zv.cells (cap - ys.length)) (T:=e) t1 ho1 ap5 rfl agG (k:=dst) (fl:=Iy P e) (s:=uf P e) (rows:=ys)
    (Rt (by
     have hnl:news.length=ys.length * uf P e:=by rw[hsz];exact hsrc.n
     simp only[Array.toList_append];rw[List.take_append_of_le_length ak]) hrows) hcap (by
     rw[Array.size_append,aes hzs,hsz];have hnl:news.toArray.size=ys.length * inf.size:=by simpa using hsrc.n
     rw[hnl,<-Nat.add_mul];congr 1;omega) h3
   exact⟨_,_,G2,hrun,Nx.after t2 hnx,Xr⟩
 |own r ver=>
  simp only at h;replace h:=ay h;obtain⟨c,m3,l3,h3,h⟩:=h;rw[Aj] at h3;cases h3;replace hx:=t2.aZ hx;cases hc:get r m2 with
  |none=>rw[hc] at h;exact aI h
  |some c=>
  rw[hc] at h;cases c with
  |box _ _=>exact aI h
  |dead=>exact aI h
  |Dl _ _=>exact aI h
  |arr fz fl vC s rows=>
  cases fz with
  |true=>exact aI h
  |false=>
  simp only at h;replace h:=ay h;obtain⟨_,m4,l4,h4,h⟩:=h;obtain⟨hb,rfl,rfl⟩:=Hr h4;have hb:=I5 hb;subst hb;replace h:=ay h;obtain⟨_,m4,l4,h4,h⟩:=h;obtain⟨hs,rfl,rfl⟩:=Hr h4;have hs:=I5 hs;subst hs;replace h:=ay h;obtain⟨_,m4,l4,h4,h⟩:=h;obtain⟨hfl,rfl,rfl⟩:=Hr h4;have hfl:fl=Iy P e:=by cases fl<;>cases hq:Iy P e<;>simp_all
  rw[<-hfl] at hrows;replace h:=ay h;obtain⟨_,m4,l4,h4,h⟩:=h;obtain⟨hb1,rfl,rfl⟩:=Hr h4;have hb1:=afp hb1;rw[hby] at hb1;replace h:=ay h;obtain⟨_,m4,l4,h4,h⟩:=h;obtain⟨hb2,rfl,rfl⟩:=Hr h4;have hb2:=afp hb2;replace h:=ay h;obtain⟨_,m4,l4,h4,h⟩:=h;rw[Py] at h4;cases h4;simp only[run_pure,kX,pW] at h;obtain⟨rfl,rfl,_⟩:=h;simp only[aZ,hc] at hx;have hx:=hx.2.2 trivial;subst hx;have hcell:=t1.cell r _ hc (by rw[ho1];simp);have hnl:news.length=ys.length * uf P e:=by rw[hsz];exact hsrc.n
  have aGd:¬ver=ver+1:=ak;have hEd:∀b,b∈G1.F r->b ∉ G1.E:=λb=>t1.djE r b
  have fin:∀(w':World) (g:Value) (N:List Nat),Keep (G1.F r) w w'->N.Nodup->(∀b,b∈N->(b∈G1.F r\/b∈G1.E\/w.heap.size<=b)/\b<w'.heap.size)->
    (∀h':View,(Gh U w G1).le h'->aef (eY w') h' fl (uf P e) (rows++ys) g N)->(Builtin.append_ #[t,ty] ry #[G1.μ r,gy]).run P w=.ok g w'->aeg g->
    NI base U M0 w0 w m1 G P (Builtin.append_ #[t,ty] ry #[G1.μ r,gy]) (.own r (ver+1)) (put r (.arr false fl (ver+1) (uf P e) (rows++ys)) m2):=by
   intro w' g N hk hN hNs Xr hrun hone;refine⟨g,w',_,hrun,Nx.after t2 (t1.rewrite ho1 ap5 (μ':=upM G1.μ r g) (N:=N) hc hk hN hNs (λk hk=>Rl g hk) ⟨ak,rfl,λe=>absurd e aGd⟩ (λh' hv hml _=> ?_)), ?_⟩
   ·simp only[vM,TY];exact Xr h' hv
   ·simp[aZ,kH,hone]
  simp only[vM] at hcell;rcases hcell with⟨rfl,hμ,hF⟩|⟨b,cap,cs,T,N',k1,k2,k3,k4,k5,k6⟩
  ·
   by_cases hy0:ys=[]
   ·subst hy0;refine fin w (.slice none 0 0) [] (Keep.refl _ _) (by simp) (by simp) (λh' hv=> .inl ⟨rfl,rfl,rfl⟩) ?_ ⟨_,_,_,rfl⟩;rw[hμ];exact Zp hu hty' hi hsrc
   ·have hm:ys.length≠0:=by simpa using hy0
    obtain⟨cap,hcap,hrun⟩:=Zo (w:=w) (ty:=ry) hu hty' hi hzv hsrc hm (by simpa using hb2) (by simpa using hb1);have hkeep:Keep [] w (w.drew.alloc (.cells (news.toArray++Builtin.zeroCells zv.cells (cap - ys.length)) e)):=aer agG;have hsize:(w.drew.alloc (.cells (news.toArray++Builtin.zeroCells zv.cells (cap - ys.length)) e)).heap.size=w.heap.size+1:=by rw[World.size_alloc];rfl
    have hnE:w.heap.size ∉ G1.E:=λhE=>by have:=(t1.lt _ (.inl hE)).1;omega
    refine fin _ _ (w.heap.size::G1.E) (amK hkeep (by simp)) (List.nodup_cons.2 ⟨hnE,t1.ndE⟩) ?_ ?_ (by rw[hμ];exact hrun) ⟨_,_,_,rfl⟩
    ·intro k hk;simp only[List.mem_cons] at hk;rcases hk with rfl|hk
     ·exact⟨.inr (.inr (Nat.le_refl _)),by rw[hsize];omega⟩
     ·exact⟨.inr (.inl hk),by rw[hsize];have:=(t1.lt k (.inl hk)).1;omega⟩
    ·intro h' hv;refine .inr ⟨w.heap.size,cap,_,e,G1.E,rfl,by simpa using hcap,aal rfl, ?_, ?_,rfl⟩
     ·rw[Array.size_append,aes hzs,hsz];have hnl:news.toArray.size=ys.length * inf.size:=by simpa using hsrc.n
      rw[hnl,<-Nat.add_mul];congr 1;omega
     ·have h1:=OB hv (λb hb=>hkeep.block b (t1.lt b (.inl hb)).1 (by simp)) hrows;have h2:=Rt (cs':=(news.toArray++Builtin.zeroCells zv.cells (cap - ys.length)).toList) (by simp only[Array.toList_append];rw[List.take_append_of_le_length ak]) h1;rw[List.nil_append];cases fl with
      |true=>exact h2
      |false=>exact h2
  ·have hbF:b∈G1.F r:=by rw[k6];simp
   have aGe:=t1.nd r;rw[k6] at aGe;have atG:∀k,k∈N'->k∈G1.F r:=λk hk=>by rw[k6];simp[hk]
   have aE6:(N'++G1.E).Nodup:=List.nodup_append.2 ⟨(List.nodup_cons.1 aGe).2,t1.ndE,λa ha c hc e=>hEd a (atG a ha) (e ▸ hc)⟩;have hcl:cs.toList.length=cap * uf P e:=by simpa using k4
   have hrl:rows.length * uf P e<=cs.toList.length:=by rw[hcl];exact Nat.mul_le_mul_right _ k2
   have k5':Jm (eY w) (Gh U w G1) fl (uf P e) rows cs.toList N':=by
    cases fl with
    |true=>exact k5
    |false=>exact k5
   by_cases hroom:rows.length+ys.length<=cap
   ·
    have hrun:=run_append_fits (ty:=ry) hu hty' hi hsrc k3 hroom (by rw[k4,hsz]);rw[<-hsz] at hrun;have hh:=setRow_heap w b cs (splice cs.toList (rows.length * uf P e) news).toArray T (0,0) k3;have hfit:rows.length * uf P e+news.length<=cs.toList.length:=by rw[hnl,hcl,<-Nat.add_mul];exact Nat.mul_le_mul_right _ hroom
    have hoth:∀k,k≠b->eY (w.setRow b (splice cs.toList (rows.length * uf P e) news).toArray) k=eY w k:=λk hk=>setRow_other w b k _ hk
    have hsz2:(w.setRow b (splice cs.toList (rows.length * uf P e) news).toArray).heap.size=w.heap.size:=by simp[World.setRow]
    have hbN:b ∉ N'++G1.E:=by
     intro hx;simp only[List.mem_append] at hx;rcases hx with hx|hx
     ·exact(List.nodup_cons.1 aGe).1 hx
     ·exact hEd b hbF hx
    refine fin _ (.slice (some ⟨b,0,none⟩) (rows.length+ys.length) cap) (b::(N'++G1.E)) (aak hbF) (List.nodup_cons.2 ⟨hbN,aE6⟩) ?_ ?_ (by rw[k1];exact hrun) ⟨_,_,_,rfl⟩
    ·intro k hk;rw[hsz2];simp only[List.mem_cons,List.mem_append] at hk;rcases hk with rfl|hk|hk
     ·exact⟨.inl hbF,(t1.lt _ (.inr ⟨r,hbF⟩)).1⟩
     ·exact⟨.inl (atG k hk),(t1.lt _ (.inr ⟨r,atG k hk⟩)).1⟩
     ·exact⟨.inr (.inl hk),(t1.lt _ (.inl hk)).1⟩
    ·intro h' hv;refine .inr ⟨b,cap,_,T,N'++G1.E,by simp,by simpa using hroom,hh, ?_, ?_,rfl⟩
     ·have:=Sz (l:=cs.toList) (xs:=news) (o:=rows.length * uf P e) hfit;simp only[List.size_toArray];rw[this,hcl]
     ·have h1:=OB (H':=eY (w.setRow b (splice cs.toList (rows.length * uf P e) news).toArray)) hv (λk hk=>hoth k (λe=>hbN (by rw[<-e];simp[hk]))) k5';have h2:=OB (H':=eY (w.setRow b (splice cs.toList (rows.length * uf P e) news).toArray)) hv (λk hk=>hoth k (λe=>hbN (by rw[<-e];simp[hk]))) hrows;have h3:=afn (Rt (cs':=splice cs.toList (rows.length * uf P e) news) (by
       simp only[splice,WC];rw[List.take_append_of_le_length (by simp;omega),List.take_take,Nat.min_self]) h1) (Rt (cs':=(splice cs.toList (rows.length * uf P e) news).drop (rows.length * uf P e)) (by
       simp only[splice,WC];rw[List.drop_append_of_le_length (by simp;omega)];have:(cs.toList.take (rows.length * uf P e)).drop (rows.length * uf P e)=[]:=by simp
       rw[this,List.nil_append,List.take_append_of_le_length ak]) h2)
      cases fl with
      |true=>simpa[Jm] using h3
      |false=>simpa[Jm] using h3
   ·
    have hlt:cap<rows.length+ys.length:=ak;obtain⟨cap',hcap',hrun⟩:=ais (ty:=ry) (olds:=cs.toList.take (rows.length * uf P e)) hu hty' hi hzv hsrc (by rw[zlt,<-hsz];omega) (λj u hj=>by
     rw[List.getElem?_take] at hj;split at hj
     ·have:=full_cell (w:=w) k3 (0+j);rw[Nat.zero_add] at this|-;rw[hj] at this;exact this
     ·cases hj) hlt hb2 hb1
    have hkeep:Keep [] w (w.drew.alloc (.cells ((cs.toList.take (rows.length * uf P e)++news).toArray++Builtin.zeroCells zv.cells (cap' - (rows.length+ys.length))) e)):=aer agG;have hsize:(w.drew.alloc (.cells ((cs.toList.take (rows.length * uf P e)++news).toArray++Builtin.zeroCells zv.cells (cap' - (rows.length+ys.length))) e)).heap.size=w.heap.size+1:=by rw[World.size_alloc];rfl
    have aTF:w.heap.size ∉ N'++G1.E:=λhE=>by
     simp only[List.mem_append] at hE;rcases hE with hE|hE
     ·have:=(t1.lt _ (.inr ⟨r,atG _ hE⟩)).1;omega
     ·have:=(t1.lt _ (.inl hE)).1;omega
    refine fin _ (.slice (some ⟨w.heap.size,0,none⟩) (rows.length+ys.length) cap') (w.heap.size::(N'++G1.E)) (amK hkeep (by simp)) (List.nodup_cons.2 ⟨aTF,aE6⟩) ?_ ?_ (by rw[k1];exact hrun) ⟨_,_,_,rfl⟩
    ·intro k hk;rw[hsize];simp only[List.mem_cons,List.mem_append] at hk;rcases hk with rfl|hk|hk
     ·exact⟨.inr (.inr (Nat.le_refl _)),ak⟩
     ·exact⟨.inl (atG k hk),by have:=(t1.lt _ (.inr ⟨r,atG k hk⟩)).1;omega⟩
     ·exact⟨.inr (.inl hk),by have:=(t1.lt _ (.inl hk)).1;omega⟩
    ·intro h' hv;refine .inr ⟨w.heap.size,cap',_,e,N'++G1.E,by simp,by simpa using hcap',aal rfl, ?_, ?_,rfl⟩
     ·rw[Array.size_append,aes hzs];simp only[List.size_toArray,Ai,zlt,hnl];rw[Nat.min_eq_left hrl,<-Nat.add_mul,<-Nat.add_mul];congr 1;omega
     ·have h1:=OB hv (λb hb=>hkeep.block b (t1.lt b (.inr ⟨r,atG b hb⟩)).1 (by simp)) k5';have h2:=OB hv (λb hb=>hkeep.block b (t1.lt b (.inl hb)).1 (by simp)) hrows;have l1:(cs.toList.take (rows.length * uf P e)).length=rows.length * uf P e:=by rw[zlt];omega
      have h3:=afn (Rt (cs':=((cs.toList.take (rows.length * uf P e)++news).toArray++Builtin.zeroCells zv.cells (cap' - (rows.length+ys.length))).toList) (by
       simp only[Array.toList_append,WC];rw[List.take_append_of_le_length ak,List.take_take,Nat.min_self]) h1) (Rt (cs':=(((cs.toList.take (rows.length * uf P e)++news).toArray++Builtin.zeroCells zv.cells (cap' - (rows.length+ys.length))).toList).drop (rows.length * uf P e)) (by
       simp only[Array.toList_append,WC];rw[List.drop_append_of_le_length ak,List.drop_eq_nil_of_le ak,List.nil_append,List.take_append_of_le_length ak]) h2)
      cases fl with
      |true=>exact h3
      |false=>exact h3
 |d _=>exact aI h
 |ptr _ _=>exact aI h
 |KX _ _ _ _=>exact aI h
 |EU _ _=>exact aI h
 |Pn _=>exact aI h
 |clo _ _ _=>exact aI h
 |agg _=>exact aI h
 |MF _=>exact aI h
 |undef=>exact aI h
end
section
variable {base:Nat} {U:Nat->Prop} {M0:List Nat} {w0 w w':World} {m m':Mem} {G G':GS} {P:Program}
def alX(hA:At base U M0 w0 w m G){T f:Nat}{a:V}{ga:Value}(ha:aZ G.μ m (Gh U w G) a ga){v:V}{l l':Log}(h:(ad6 P T a f).run m l=some (v,m',l')):
  NI base U M0 w0 w m G P (Instr.fieldAt T ga f) v m':=by
 simp only[ad6] at h;replace h:=ay h;obtain⟨⟨o,n,t⟩,m1,l1,h1,h⟩:=h;obtain⟨hf,rfl,rfl⟩:=lW h1;simp only at h;obtain⟨hn,h⟩:=bck h;have hn:=Nat.le_of_ble_eq_true hn;cases a with
 |ptr r off=>
  obtain⟨rfl,rfl,_⟩:=ZN h;simp only[aZ] at ha;obtain⟨⟨b,o',rfl⟩,ha⟩:=ha;refine NI.same hA (aai hf hn) ?_;simp only[aZ];refine⟨⟨_,_,rfl⟩, ?_⟩;split at ha
  ·obtain⟨b1,hμ,e⟩:=ha;simp only[Value.pointer.injEq,kX,Addr.mk.injEq] at e;obtain⟨rfl,rfl,_⟩:=e;exact⟨_,hμ,rfl⟩
  ·obtain⟨b1,hμ,e⟩:=ha;simp only[Value.pointer.injEq,kX,Addr.mk.injEq] at e;obtain⟨rfl,rfl,_⟩:=e;exact⟨_,hμ,rfl⟩
  ·trivial
  ·exact ha
 |EU row off=>obtain⟨rfl,rfl,_⟩:=ZN h;simp only[aZ] at ha;obtain⟨b,o',rfl,hrow⟩:=ha;refine NI.same hA (aai hf hn) ?_;simp only[aZ];exact⟨b,o',by rw[Nat.add_assoc],hrow⟩
 |KX r ver i off=>
  obtain⟨rfl,rfl,_⟩:=ZN h;simp only[aZ] at ha;obtain⟨⟨b,o',rfl⟩,ha⟩:=ha;refine NI.same hA (aai hf hn) ?_;simp only[aZ];refine⟨⟨_,_,rfl⟩, ?_⟩;split at ha
  ·refine⟨ha.1,λe=> ?_⟩;obtain⟨b1,n1,cap,hμ,e1⟩:=ha.2 e;simp only[Value.pointer.injEq,kX,Addr.mk.injEq] at e1;obtain⟨rfl,rfl,_⟩:=e1;exact⟨_,n1,cap,hμ,by rw[Nat.add_assoc]⟩
  ·trivial
  ·exact ha
 |_=>exact aI h
def awM(hA:At base U M0 w0 w m G){T f:Nat}{a:V}{ga:Value}(ha:aZ G.μ m (Gh U w G) a ga){v:V}{l l':Log}(h:(atn P T a f).run m l=some (v,m',l')):
  NI base U M0 w0 w m G P (Instr.field T ga f) v m':=by
 simp only[atn] at h;replace h:=ay h;obtain⟨⟨o,n,t⟩,m1,l1,h1,h⟩:=h;obtain⟨hf,rfl,rfl⟩:=lW h1;simp only at h;cases a with
 |agg cs=>
  simp only at h;obtain⟨hfit,h⟩:=bck h;obtain⟨hok,h⟩:=bck h;obtain⟨hv,rfl,rfl⟩:=lW h;simp only[aZ] at ha;obtain⟨arr,rfl,hs⟩:=ha;have hfit:=Nat.le_of_ble_eq_true hfit;have hp:=ajJ o n hs;have hal:arr.size=cs.length:=by simpa using lC hs
  obtain⟨g,hg⟩:=ap3 hv hp;refine NI.same hA (g:=g) ?_ (Rn hv hp hg);unfold YI at hf;cases hu:P.underlying T with
  |none=>simp[hu] at hf
  |some d=>
   rw[hu] at hf;cases d with
   |struct fs=>
    simp only at hf;cases hfd:fs[f]? with
    |none=>simp[hfd] at hf
    |some fd=>
     simp only[hfd,kX,pW] at hf;obtain⟨rfl,rfl,rfl⟩:=hf;obtain⟨d',hd'⟩:=JV hok;obtain⟨i,hi⟩:=F6 hd';unfold Instr.field;simp only[Sem.run_bind,run_underlying hu,Result.andThen_ok,hfd];unfold Go.part;simp only[Sem.run_bind,asAgg,Sem.run_pure,Result.andThen_ok,XU hd'];unfold valOf at hg;cases hag:QW P fd.type with
     |true=>
      simp only[hag,if_true] at hg;subst hg;rw[Pz hi];have hex:arr.extract fd.offset (fd.offset+i.size)=(List.take i.size (List.drop fd.offset arr.toList)).toArray:=by apply Array.ext';simp[Array.toList_extract,List.extract_eq_take_drop]
      simp[sizeOf,typeInfo,hi,hex]
     |false=>
      simp only[hag,Bool.false_eq_true,if_false] at hg;have h0:arr[fd.offset]? =some g:=by
       have:(List.take (uf P fd.type) (List.drop fd.offset arr.toList))[0]? =some g:=by rw[hg];rfl
       rw[List.getElem?_take] at this;split at this
       ·rw[List.getElem?_drop,Nat.add_zero] at this;simpa using this
       ·cases this
      simp[h0]
   |_=>simp at hf
 |_=>exact aI h
def ajR{α:Type}{l:List α}{i:Int}{x:α}(h:idx l i=some x):0<=i/\i.toNat<l.length/\l[i.toNat]? =some x:=by
 unfold idx at h
 by_cases h0:0<=i
 ·simp only[h0,decide_true,aH] at h;exact⟨h0,(QV.1 h).1,h⟩
 ·simp[h0] at h
def alY(hA:At base U M0 w0 w m G){t:TypeId}{x i:V}{gx gi:Value}(hx:aZ G.μ m (Gh U w G) x gx)(hi:aZ G.μ m (Gh U w G) i gi){v:V}{l l':Log}(h:(ad7 P t x i).run m l=some (v,m',l')):
  NI base U M0 w0 w m G P (Instr.indexAt t gx gi) v m':=by
 simp only[ad7] at h;replace h:=ay h;obtain⟨e,m1,l1,h1,h⟩:=h;obtain⟨he,rfl,rfl⟩:=lW h1;cases i with
 |d xi=>
  cases xi with
  |int k n=>
   simp only at h;simp only[aZ,ro] at hi;subst hi;have seen:∀(rows:List Row) (o:Bool),ro (Gh U w G) (.sl o (uf P e) rows) gx->∀row,idx rows n=some row->1<=uf P e\/True->(∃inf,P.info? e=some inf)->NI base U M0 w0 w m1 G P (Instr.indexAt t gx (.int k n)) (.EU row 0) m1:=by intro rows o hq row hrow _ Rq;obtain⟨inf,Rq⟩:=Rq;obtain⟨h0,hlt,hget⟩:=ajR hrow;simp only[ro] at hq;obtain⟨a,cap,rfl,hcap,hne⟩:=hq;obtain⟨b,o',rfl,hrows⟩:=hne (by intro e;subst e;simp at hlt);obtain⟨hl,hr⟩:=OA hrows hget;refine NI.same hA (run_indexAt he Rq h0 ak) ?_;simp only[aZ];rw[<-Pz Rq];exact⟨b,o'+n.toNat * uf P e,rfl,hr⟩
   cases x with
   |d y=>
    cases y with
    |sl o s rows=>simp only at h;replace h:=ay h;obtain⟨_,m2,l2,h2,h⟩:=h;obtain⟨hs,rfl,rfl⟩:=iK h2;replace h:=ay h;obtain⟨_,m2,l2,h2,h⟩:=h;obtain⟨hok,rfl,rfl⟩:=iK h2;replace h:=ay h;obtain⟨row,m2,l2,h2,h⟩:=h;obtain⟨hrow,rfl,rfl⟩:=lW h2;simp only[run_pure,kX,pW] at h;obtain⟨rfl,rfl,_⟩:=h;have hs:=I5 hs;subst hs;simp only[aZ] at hx;obtain⟨d',hd'⟩:=JV hok;exact seen rows o hx row hrow (.inr trivial) (F6 hd')
    |_=>exact aI h
   |own r ver=>
    simp only at h;replace h:=ay h;obtain⟨c,m2,l2,h2,h⟩:=h;rw[Aj] at h2;cases h2;cases hc:get r m1 with
    |none=>rw[hc] at h;exact aI h
    |some c=>
     rw[hc] at h;cases c with
     |arr fz fl vC s rows=>
      simp only at h;replace h:=ay h;obtain⟨_,m2,l2,h2,h⟩:=h;obtain⟨hb,rfl,rfl⟩:=Hr h2;have hb:=I5 hb;subst hb;replace h:=ay h;obtain⟨_,m2,l2,h2,h⟩:=h;obtain⟨hs,rfl,rfl⟩:=Hr h2;have hs:=I5 hs;subst hs;replace h:=ay h;obtain⟨_,m2,l2,h2,h⟩:=h;obtain⟨hok,rfl,rfl⟩:=Hr h2;obtain⟨d',hd'⟩:=JV hok;obtain⟨inf,Rq⟩:=F6 hd';simp only[aZ,hc] at hx;have hx:=hx.2.2 trivial;subst hx;have hcell:=hA.ok.cell r _ hc (by rw[hA.out];simp);cases fz with
      |true=>simp only at h;replace h:=ay h;obtain⟨row,m2,l2,h2,h⟩:=h;obtain⟨hrow,rfl,rfl⟩:=lW h2;simp only[run_pure,kX,pW] at h;obtain⟨rfl,rfl,_⟩:=h;exact seen (vw fl rows) false (ajv hcell.1) row hrow (.inr trivial) ⟨inf,Rq⟩
      |false=>simp only at h;replace h:=ay h;obtain⟨row,m2,l2,h2,h⟩:=h;obtain⟨hrow,rfl,rfl⟩:=lW h2;simp only[run_pure,kX,pW] at h;obtain⟨rfl,rfl,_⟩:=h;obtain⟨h0,hlt,hget⟩:=ajR hrow;obtain⟨b,o,cap,hμ,ho,hl,_⟩:=avj hcell (yA _ _ _) hget;have ho:=ho rfl;subst ho;rw[hμ];refine NI.same hA (run_indexAt he Rq h0 ak) ?_;simp only[aZ,hc,hμ];exact⟨⟨_,_,rfl⟩,Nat.le_refl _,λ_=>⟨b,_,_,rfl,by rw[Pz Rq];simp⟩⟩
     |_=>exact aI h
   |_=>exact aI h
  |_=>exact aI h
 |_=>exact aI h
def ap6{t e:TypeId}{n:Nat}(h:arT P t=some (n,e)):P.underlying t=some (.array n e):=by
 unfold arT at h;cases hu:P.underlying t with
 |none=>simp[hu] at h
 |some d=>rw[hu] at h;cases d<;>simp at h;obtain⟨rfl,rfl⟩:=h;rfl
def afq{t e:TypeId}{k:IntKind}{i:Int}{b o n:Nat}(hu:P.underlying t=some (.array n e)){inf:TypeInfo}(hi:P.info? e=some inf)(h0:0<=i)(hn:i<n):
  (Instr.indexAt t (.pointer (some ⟨b,o,none⟩)) (.int k i)).run P w=.ok (.pointer (some ⟨b,o+i.toNat * inf.size,none⟩)) w:=by
 have hc:0<=i/\i<(n:Int):=⟨h0,hn⟩
 unfold Instr.indexAt;simp[asIntOf,run_underlying hu,hc,sizeOf,typeInfo,hi,Xo,Instr.sureAddr]
def alZ(hA:At base U M0 w0 w m G){t:TypeId}{x i:V}{gx gi:Value}(hx:aZ G.μ m (Gh U w G) x gx)(hi:aZ G.μ m (Gh U w G) i gi){v:V}{l l':Log}(h:(ad8 P t x i).run m l=some (v,m',l')):
  NI base U M0 w0 w m G P (Instr.indexAt t gx gi) v m':=by
 unfold ad8 at h;cases ha:arT P t with
 |none=>rw[ha] at h;exact alY hA hx hi h
 |some q=>
  obtain⟨n,e⟩:=q;rw[ha] at h;have hu:=ap6 ha;cases i<;>try exact aI h
  rename_i y;cases y<;>try exact aI h
  rename_i k j;simp only[aZ,ro] at hi;subst hi;simp only[apU] at h;replace h:=ay h;obtain⟨_,m1,l1,h1,h⟩:=h;obtain⟨hok,rfl,rfl⟩:=iK h1;replace h:=ay h;obtain⟨_,m1,l1,h1,h⟩:=h;obtain⟨hj,rfl,rfl⟩:=iK h1;simp only[BK,decide_eq_true_eq] at hj;obtain⟨d',hd'⟩:=JV hok;obtain⟨inf,Rq⟩:=F6 hd';have hsz:=Pz Rq;cases x<;>try exact aI h
  ·rename_i r off;simp only[run_pure,kX,pW] at h;obtain⟨rfl,rfl,_⟩:=h;simp only[aZ] at hx;obtain⟨⟨b,o,rfl⟩,hx⟩:=hx;refine NI.same hA (afq hu Rq hj.1 hj.2) ?_;simp only[aZ];refine⟨⟨b,_,rfl⟩, ?_⟩;cases hc:get r m1 with
   |none=>rw[hc] at hx;exact hx.elim
   |some c=>
    rw[hc] at hx;cases c with
    |box T cs=>obtain⟨b',h1,h2⟩:=hx;simp only[Value.pointer.injEq,kX,Addr.mk.injEq] at h2;obtain⟨rfl,rfl,_⟩:=h2;exact⟨b,h1,by rw[hsz]⟩
    |Dl T cs=>obtain⟨b',h1,h2⟩:=hx;simp only[Value.pointer.injEq,kX,Addr.mk.injEq] at h2;obtain⟨rfl,rfl,_⟩:=h2;exact⟨b,h1,by rw[hsz]⟩
    |arr _ _ _ _ _=>exact hx.elim
    |dead=>trivial
  ·rename_i row off;simp only[run_pure,kX,pW] at h;obtain⟨rfl,rfl,_⟩:=h;simp only[aZ] at hx;obtain⟨b,o,rfl,hr⟩:=hx;refine NI.same hA (afq hu Rq hj.1 hj.2) ?_;simp only[aZ];exact⟨b,o,by rw[hsz,Nat.add_assoc],hr⟩
def amL{μ:Nat->Value}{mm:Mem}{hh:View}:∀{cs:List V} {row:Row} {gs:List Value},ams cs=some row->dH μ mm hh cs gs->∀i:Nat,i<cs.length->∃g,gs[i]? =some g/\ro hh (nth row i) g
 |[],row,gs,h,q,i,hi=>by simp at hi
 |v::cs,row,gs,h,q,i,hi=>by
  simp only[dH] at q;obtain⟨g,gs',rfl,q1,q2⟩:=q;cases v<;>simp only[ams] at h<;>try cases h
  rename_i x;cases hr:ams cs with
  |none=>rw[hr] at h;cases h
  |some r=>
   rw[hr] at h;cases h;cases i with
   |zero=>exact⟨g,rfl,by simpa[nth,aZ] using q1⟩
   |succ i=>obtain⟨g',h1,h2⟩:=amL hr q2 i (by simpa using hi);exact⟨g',by simpa using h1,by simpa[nth] using h2⟩
def aoC(hA:At base U M0 w0 w m G){t e:TypeId}{n:Nat}{k:IntKind}{j:Int}{cs:List V}{gx:Value}(hu:P.underlying t=some (.array n e))(hx:aZ G.μ m (Gh U w G) (.agg cs) gx){v:V}{l l':Log} (h:(do
  ck (Nat.beq (uf P e) 1 &&(Nat.beq cs.length n &&(Uw P e && !(QW P e))))
  ck (decide (0<=j) && decide (j<(n:Int)))
  let row<-op' (ams cs)
  ajk (match QZ P e with|[c]=>c|_=> .other) row j.toNat:Acc V).run m l=some (v,m',l')):
  NI base U M0 w0 w m G P (Instr.index t gx (.int k j)) v m':=by
 replace h:=ay h;obtain⟨_,m1,l1,h1,h⟩:=h;obtain⟨hk,rfl,rfl⟩:=iK h1;simp only[BK,Bool.not_eq_true',Nat.beq_eq] at hk;obtain⟨hsz,hlen,hok,hagg⟩:=hk;replace h:=ay h;obtain⟨_,m1,l1,h1,h⟩:=h;obtain⟨hj,rfl,rfl⟩:=iK h1;simp only[BK,decide_eq_true_eq] at hj;replace h:=ay h;obtain⟨row,m1,l1,h1,h⟩:=h;obtain⟨hrow,rfl,rfl⟩:=lW h1;simp only[aZ] at hx;obtain⟨arr,rfl,hs⟩:=hx;obtain⟨g,hg,hr⟩:=amL hrow hs j.toNat ak;obtain⟨d',hd'⟩:=JV hok;obtain⟨inf,Rq⟩:=F6 hd';have hone:=Pz Rq;have hrun:(Instr.index t (.agg arr) (.int k j)).run P w=.ok g w:=by
  unfold Instr.index;have hg':arr[j.toNat * inf.size]? =some g:=by rw[<-hone,hsz,Nat.mul_one];simpa using hg
  simp[asIntOf,run_underlying hu,hj.1,hj.2,sizeOf,typeInfo,Rq];unfold Go.part;simp[XU hd',hagg,hg']
 have fin:v=.d (nth row j.toNat)/\m'=m1:=by
  generalize (match QZ P e with|[c]=>c|_=>CT.other)=c at h;cases hx:nth row j.toNat<;>cases c<;>simp[ajk,jD,amr,cStr,hx,asInt,asBool,amq,Acc.run] at h
  ·rename_i k1 n1 k2
   by_cases e:k1=k2
   ·subst e;simp[Acc.run] at h;exact⟨h.1.symm,h.2.1.symm⟩
   ·simp[e,Acc.run] at h
  ·exact⟨h.1.symm,h.2.1.symm⟩
  ·exact⟨h.1.symm,h.2.1.symm⟩
 obtain⟨rfl,rfl⟩:=fin;exact NI.same hA hrun (by simpa[aZ] using hr)
def awN(hA:At base U M0 w0 w m G){t:TypeId}{x i:V}{gx gi:Value}(hx:aZ G.μ m (Gh U w G) x gx)(hi:aZ G.μ m (Gh U w G) i gi){v:V}{l l':Log}(h:(ato P t x i).run m l=some (v,m',l')):
  NI base U M0 w0 w m G P (Instr.index t gx gi) v m':=by
 unfold ato at h;cases hu:P.underlying t with
 |none=>rw[hu] at h;exact aI h
 |some d=>
  rw[hu] at h
  by_cases harr:∃n e,d=.array n e
  ·obtain⟨n,e,rfl⟩:=harr;cases x<;>try exact aI h
   cases i<;>try exact aI h
   rename_i y;cases y<;>try exact aI h
   simp only[aZ,ro] at hi;subst hi;exact aoC hA hu hx h
  cases d<;>first|exact aI h|exact(harr ⟨_,_,rfl⟩).elim|skip
  cases x<;>try exact aI h
  rename_i y;cases y<;>try exact aI h
  rename_i s;cases i<;>try exact aI h
  rename_i y;cases y<;>try exact aI h
  rename_i k n;simp only[aZ,ro] at hx hi;subst hx hi;dsimp only at h;cases hb:idx s n with
  |none=>rw[hb] at h;simp[Acc.run] at h
  |some b=>
   rw[hb] at h;change some (_,_,_)=_ at h;simp only[kX,pW] at h;obtain⟨rfl,rfl,_⟩:=h;obtain⟨h0,hlt,hget⟩:=ajR hb;refine NI.same hA (g:=.int .u8 b.toNat) ?_ (by simp[aZ,ro]);have hg:(ByteArray.mk ⟨s⟩)[n.toNat]? =some b:=by
    have hsz:n.toNat<(ByteArray.mk ⟨s⟩).size:=hlt;rw[getElem?_pos (ByteArray.mk ⟨s⟩) n.toNat hsz];have:s[n.toNat]=b:=by have:=List.getElem?_eq_getElem hlt;rw[this] at hget;exact Option.some.inj hget
    exact congrArg some this
   simp[Instr.index,asIntOf,run_underlying hu,h0,hg]
def aB5(hA:At base U M0 w0 w m G){t ty:TypeId}{x:V}{gx:Value}(hx:aZ G.μ m (Gh U w G) x gx)
  (hk:∀s,x=.d (.str s)->P.underlying t=some .string) (hk':(∀s,x≠.d (.str s))->∃e,P.underlying t=some (.slice e)) {v:V} {l l':Log} (h:(lenV x).run m l=some (v,m',l')):
  NI base U M0 w0 w m G P (Builtin.len_ #[t] ty #[gx]) v m':=by
 have slice:∀(a:Option Addr) (n c:Nat),(∃e,P.underlying t=some (.slice e))->NI base U M0 w0 w m G P (Builtin.len_ #[t] ty #[.slice a n c]) (.d (.int .i64 n)) m:=by intro a n c ⟨e,he⟩;refine NI.same hA (g:=.int .i64 n) ?_ (by simp[aZ,ro]);simp[Builtin.len_,run_underlying he,goInt]
 cases x with
 |d y=>
  cases y with
  |str s=>change some (_,_,_)=_ at h;simp only[kX,pW] at h;obtain⟨rfl,rfl,_⟩:=h;simp only[aZ,ro] at hx;subst hx;refine NI.same hA (g:=.int .i64 s.length) ?_ (by simp[aZ,ro]);have hsz:(ByteArray.mk ⟨s⟩).size=s.length:=rfl;simp[Builtin.len_,run_underlying (hk s rfl),goInt,hsz]
  |sl o s rows=>change some (_,_,_)=_ at h;simp only[kX,pW] at h;obtain⟨rfl,rfl,_⟩:=h;simp only[aZ,ro] at hx;obtain⟨a,cap,rfl,_⟩:=hx;exact slice a rows.length cap (hk' (by simp))
  |_=>exact aI h
 |nil s=>change some (_,_,_)=_ at h;simp only[kX,pW] at h;obtain⟨rfl,rfl,_⟩:=h;simp only[aZ] at hx;subst hx;exact slice none 0 0 (hk' (by simp))
 |own r ver=>
  simp only[lenV] at h;replace h:=ay h;obtain⟨c,m2,l2,h2,h⟩:=h;rw[Aj] at h2;cases h2;cases hc:get r m with
  |none=>rw[hc] at h;exact aI h
  |some c=>
   rw[hc] at h;cases c with
   |arr fz fl vC s rows=>simp only at h;replace h:=ay h;obtain⟨_,m2,l2,h2,h⟩:=h;obtain⟨hb,rfl,rfl⟩:=Hr h2;have hb:=I5 hb;subst hb;simp only[run_pure,kX,pW] at h;obtain⟨rfl,rfl,_⟩:=h;have hro:=hA.ok.look hc (by rw[hA.out];simp) false;simp only[aZ,hc] at hx;rw[<-hx.2.2 trivial] at hro;simp only[ro] at hro;obtain⟨a,cap,rfl,_⟩:=hro;exact slice a rows.length cap (hk' (by simp))
   |_=>exact aI h
 |_=>exact aI h
def aGf{H:Heap}{h:View}{c:CT}{g:Value}{x:D}{l l':Log}(hr:(toD (agy c g)).run m l=some (x,m',l')):m'=m/\ow H h x g []:=by
 unfold agy at hr;split at hr
 all_goals first
  |exact(ajs hr).elim
  |(simp only[toD,roD,run_pure,kX,pW] at hr
    obtain⟨rfl,rfl,_⟩:=hr;exact⟨rfl,by simp[ow]⟩)
def ap7{H:Heap}{h:View}:∀{cs:List CT} {gs:List Value} {xs:Row} {m m':Mem} {l l':Log},(Pq (Jk cs gs)).run m l=some (xs,m',l')->m'=m/\jY H h xs gs []/\xs.length=gs.length
 |c::cs,g::gs,xs,m,m',l,l',hr=>by simp only[Jk,Pq] at hr;replace hr:=ay hr;obtain⟨x,m1,l1,h1,hr⟩:=hr;replace hr:=ay hr;obtain⟨ys,m2,l2,h2,hr⟩:=hr;simp only[run_pure,kX,pW] at hr;obtain⟨rfl,rfl,_⟩:=hr;obtain⟨rfl,q1⟩:=aGf (H:=H) (h:=h) h1;obtain⟨rfl,q2,q3⟩:=ap7 (H:=H) (h:=h) h2;exact⟨rfl,by simp only[jY];exact⟨g,gs,[],[],rfl,rfl,q1,q2⟩,by simp[q3]⟩
 |[],g::gs,xs,m,m',l,l',hr=>by simp only[Jk,Pq] at hr;replace hr:=ay hr;obtain⟨x,m1,l1,h1,hr⟩:=hr;exact aI h1
 |c::cs,[],xs,m,m',l,l',hr=>by simp only[Jk,Pq,run_pure,kX,pW] at hr;obtain⟨rfl,rfl,_⟩:=hr;exact⟨rfl,by simp[jY],rfl⟩
 |[],[],xs,m,m',l,l',hr=>by simp only[Jk,Pq,run_pure,kX,pW] at hr;obtain⟨rfl,rfl,_⟩:=hr;exact⟨rfl,by simp[jY],rfl⟩
def amM{H:Heap}{h:View}{row:Row}{z L:List Value}{cap:Nat}(hz:z.length=row.length)(hL:L.length=cap * row.length)(hj:∀i j,i<cap->j<row.length->L[i * row.length+j]? =z[j]?)(hq:jY H h row z []):
  ∀(n i:Nat),i+n<=cap->jc H h row.length (List.replicate n row) (L.drop (i * row.length)) []
 |0,i,_=>by simp[jc]
 |n+1,i,hi=>by
  rw[List.replicate_succ];simp only[jc];refine⟨trivial,[],[],rfl, ?_, ?_⟩
  ·refine Ro ?_ hq;apply List.ext_getElem?;intro j
   by_cases hjl:j<row.length
   ·rw[List.getElem?_take_of_lt hjl,List.getElem?_take_of_lt hjl,List.getElem?_drop,hj i j ak hjl]
   ·rw[List.getElem?_eq_none (by rw[zlt];omega),List.getElem?_eq_none (by rw[zlt];omega)]
  ·rw[List.drop_drop];have:=amM hz hL hj hq n (i+1) ak
   rwa [Nat.add_mul,Nat.one_mul] at this
def al0(hA:At base U M0 w0 w m G){dst:Nat}{t:TypeId}{x y:V}{gx gy:Value}(hx:aZ G.μ m (Gh U w G) x gx)(hy:aZ G.μ m (Gh U w G) y gy){v:V}{l l':Log}(h:(aea P dst t x y).run m l=some (v,m',l')):
  NI base U M0 w0 w m G P (Instr.makeSlice t gx gy) v m':=by
 simp only[aea,apV] at h;replace h:=ay h;obtain⟨e,m1,l1,h1,h⟩:=h;obtain⟨he,rfl,rfl⟩:=lW h1;have he:=XV he;replace h:=ay h;obtain⟨_,m1,l1,h1,h⟩:=h;obtain⟨hs,rfl,rfl⟩:=Hr h1;have hs:=Nat.le_of_ble_eq_true hs;replace h:=ay h;obtain⟨row,m1,l1,h1,h⟩:=h;replace h1:=ay h1;obtain⟨z,m2,l2,h2,h1⟩:=h1;obtain⟨hz,rfl,rfl⟩:=lW h2;unfold Sl at hz;cases hi:P.info? e with
 |none=>simp[hi] at hz
 |some i=>
  simp only[hi] at hz;cases hzz:i.zero with
  |none=>simp[hzz] at hz
  |some zv=>
   simp only[hzz,kX] at hz;subst hz;obtain⟨rfl,hrow,hlen⟩:=ap7 (H:=eY w) (h:=Gh U w G) h1;replace h:=ay h;obtain⟨_,m2,l2,h2,h⟩:=h;obtain⟨hlr,rfl,rfl⟩:=Hr h2;have hlr:=I5 hlr;have hsz:=Pz hi;have hzs:zv.cells.size=i.size:=by
    have:zv.cells.toList.length=zv.cells.size:=by simp
    omega
   split at h
   next k1 n1 k2 n2=>
    replace h:=ay h;obtain⟨_,m3,l3,h3,h⟩:=h;obtain⟨hck,rfl,rfl⟩:=Hr h3;simp only[BK,decide_eq_true_eq] at hck;obtain⟨⟨⟨h0,hle⟩,hby⟩,hc⟩:=hck;replace h:=ay h;obtain⟨u,m4,l4,h4,h⟩:=h;simp only[run_pure,kX,pW] at h;obtain⟨rfl,rfl,_⟩:=h;simp only[aZ,ro] at hx hy;subst hx hy;have hbt:ad9 P e=i.bytes:=by simp[ad9,hi]
    rw[hbt] at hby;have hroom:(afb:Int)=140737488355328:=rfl;rw[hroom] at hby hc;have hrun:=run_make (P:=P) w t e i zv he hi hzz k1 k2 n1 n2 h0 hle (by rw[Int.mul_comm];omega) ak;have hE:=hA.E;have hrl:row.length=i.size:=ak;have hq:jc (eY w) (Gh U w G) (uf P e) (List.replicate n1.toNat row) (madeCells zv.cells (n2.toNat * i.size)).toList []:=by
     rw[hsz,<-hrl];have:=amM (H:=eY w) (h:=Gh U w G) (row:=row) (z:=zv.cells.toList) (L:=(madeCells zv.cells (n2.toNat * i.size)).toList) (cap:=n2.toNat) hlen.symm (by simp[size_madeCells,hrl]) ?_ hrow n1.toNat 0 ak
     ·simpa[hrl] using this
     ·intro a b ha hb;have hlt:a * row.length+b<n2.toNat * i.size:=by
       rw[hrl] at hb|-
       calc a * i.size+b<a * i.size+i.size:=ak
        _=(a+1) * i.size:=by rw[Nat.add_mul,Nat.one_mul]
        _<=n2.toNat * i.size:=Nat.mul_le_mul_right _ ha
      have hbz:b<zv.cells.size:=ak;have hmod:(a * row.length+b) % zv.cells.size=b:=by rw[hzs,<-hrl,Nat.mul_comm,Nat.mul_add_mod];exact Nat.mod_eq_of_lt hb
      simp only[madeCells,Array.toList_map,Array.toList_range,List.getElem?_map];rw[List.getElem?_range hlt];simp[hmod,hbz]
    have hqS:Jm (eY w) (Gh U w G) (Iy P e) (uf P e) (List.replicate n1.toNat row) (madeCells zv.cells (n2.toNat * i.size)).toList G.E:=by
     unfold Jm;rw[hE];split
     ·exact⟨OU (View.le_refl _) _ _ _ [] (by intro b hb;simp at hb) hq,rfl⟩
     ·exact hq
    obtain⟨G',hnx,Xr⟩:=ahM hA.ok hA.out hA.fr (w1:=w) rfl (Keep.refl _ _) (cap:=n2.toNat) (T:=e) hqS (by simp;omega) (by simp[size_madeCells,hsz]) h4;refine⟨_,_,G',hrun,hnx, ?_⟩;simpa using Xr
   next=>exact aI h
def atH(μ:Nat->Value)(m:Mem)(h:View):Option V->Option Value->Prop
 |none,g=>g=none
 |some v,g=>∃x,g=some x/\aZ μ m h v x
def aan{μ:Nat->Value}{h:View}{o:Option V}{g:Option Value}{d n:Int}{l l':Log}(hq:atH μ m h o g)(hr:(bound o d).run m l=some (n,m',l')):
  m'=m/\((g=none/\n=d)\/∃k,g=some (.int k n)):=by
 unfold bound at hr;split at hr
 ·change some (_,_,_)=_ at hr;simp only[kX,pW] at hr;obtain⟨rfl,rfl,_⟩:=hr;exact⟨rfl,.inl ⟨hq,rfl⟩⟩
 ·change some (_,_,_)=_ at hr;simp only[kX,pW] at hr;obtain⟨rfl,rfl,_⟩:=hr;obtain⟨x,rfl,hx⟩:=hq;simp only[aZ,ro] at hx;exact⟨rfl,.inr ⟨_,by rw[hx]⟩⟩
 ·exact(ajs hr).elim
def ap8{α:Type}{l r:List α}{a b:Int}(h:cut l a b=some r):0<=a/\a<=b/\b<=l.length/\r=(l.drop a.toNat).take (b.toNat - a.toNat):=by
 unfold cut at h;cases hc:(decide (0<=a) && decide (a<=b) && decide (b<=(l.length:Int))) with
 |false=>simp[hc] at h
 |true=>simp only[hc,aH,kX] at h;simp only[BK,decide_eq_true_eq] at hc;exact⟨hc.1.1,hc.1.2,hc.2,h.symm⟩
def VG{aeg:Bool}{len cap:Nat}{lo hi:Option Value}{a b:Int}(ha:(lo=none/\a=0)\/∃k,lo=some (.int k a))(hb:(hi=none/\b=len)\/∃k,hi=some (.int k b))
  (h0:0<=a) (h1:a<=b) (h2:b<=len) (h3:len<=cap):(Instr.sliceBounds aeg len cap lo hi none).run P w=.ok (a.toNat,b.toNat,cap) w:=by
 have hbc:b<=cap:=ak;have h0b:0<=b:=ak;rcases ha with⟨rfl,rfl⟩|⟨k,rfl⟩<;>rcases hb with⟨rfl,rfl⟩|⟨k',rfl⟩
 ·simp[Instr.sliceBounds]
 ·simp[Instr.sliceBounds,Instr.sliceBound,asIntOf,h0b,hbc]
 ·simp[Instr.sliceBounds,Instr.sliceBound,asIntOf,h0,h2,h1]
 ·have:(a:Int)<=(b.toNat:Int):=ak;simp[Instr.sliceBounds,Instr.sliceBound,asIntOf,h0b,hbc,h0,this];omega
def ahN{h:View}{s:Nat}:∀{rows:List Row} {b o:Nat} (n:Nat),sJ h s rows b o->sJ h s (rows.drop n) b (o+n * s)
 |rows,b,o,0,q=>by simpa using q
 |[],b,o,n+1,q=>by simp[sJ]
 |r::rows,b,o,n+1,q=>by simp only[sJ] at q;have:=ahN n q.2.2;rw[List.drop_succ_cons,Nat.add_mul,Nat.one_mul,show o+(n * s+s)=o+s+n * s by omega];exact this
def ahO{h:View}{s:Nat}:∀{rows:List Row} {b o:Nat} (n:Nat),sJ h s rows b o->sJ h s (rows.take n) b o
 |rows,b,o,0,q=>by simp[sJ]
 |[],b,o,n+1,q=>by simp[sJ]
 |r::rows,b,o,n+1,q=>by simp only[sJ] at q;simp only[List.take_succ_cons,sJ];exact⟨q.1,q.2.1,ahO n q.2.2⟩
def ayE{h:View}{o:Bool}{s:Nat}{rows rows':List Row}{t e:TypeId}{inf:TypeInfo}{g:Value}{lo hi:Option Value}{a b:Int}(hu:P.underlying t=some (.slice e))(hi':P.info? e=some inf)(hs:s=inf.size)
  (hq:ro h (.sl o s rows) g) (ha:(lo=none/\a=0)\/∃k,lo=some (.int k a)) (hb:(hi=none/\b=rows.length)\/∃k,hi=some (.int k b)) (hc:cut rows a b=some rows'):
  ∃g',(Instr.sliceAt t g lo hi none).run P w=.ok g' w/\ro h (.sl false s rows') g':=by
 obtain⟨h0,h1,h2,rfl⟩:=ap8 hc;simp only[ro] at hq;obtain⟨ad,cap,rfl,hcap,hne⟩:=hq;have hrun:=VG (P:=P) (w:=w) (aeg:=true) ha hb h0 h1 ak hcap;have hlen:(List.take (b.toNat - a.toNat) (List.drop a.toNat rows)).length=b.toNat - a.toNat:=by simp;omega
 refine⟨.slice (if cap=a.toNat then ad else ad.map (·.add (a.toNat * inf.size))) (b.toNat - a.toNat) (cap - a.toNat), ?_, ?_⟩
 ·simp only[Instr.sliceAt,Sem.run_bind,run_underlying hu,Result.andThen_ok,Instr.slice,hrun,sizeOf,typeInfo];simp[hi']
 ·simp only[ro];refine⟨_,cap - a.toNat,by rw[hlen],by rw[hlen];omega, ?_⟩;intro hne';have hpos:0<b.toNat - a.toNat:=by rw[<-hlen];exact List.length_pos_iff.2 hne'
  have hrows:rows≠[]:=by intro e;subst e;simp at hne'
  obtain⟨bb,oo,rfl,hr⟩:=hne hrows;have hca:¬cap=a.toNat:=ak;refine⟨bb,oo+a.toNat * s, ?_,ahO _ (ahN _ hr)⟩;subst hs;simp[hca,Addr.add]
def al1(s:List UInt8)(a b:Nat)(h:a<=b)(hb:b<=s.length):(ByteArray.mk ⟨s⟩).extract a b=⟨⟨(s.drop a).take (b - a)⟩⟩:=by
 have:((ByteArray.mk ⟨s⟩).extract a b).data=⟨(s.drop a).take (b - a)⟩:=by rw[ByteArray.data_extract];apply Array.ext';simp[Array.toList_extract,List.extract_eq_take_drop]
 exact congrArg ByteArray.mk this
def awO(hA:At base U M0 w0 w m G){t:TypeId}{x:V}{gx:Value}{lo hi:Option V}{glo ghi:Option Value}(hx:aZ G.μ m (Gh U w G) x gx)(hlo:atH G.μ m (Gh U w G) lo glo)(hhi:atH G.μ m (Gh U w G) hi ghi)
  {v:V} {l l':Log} (hh0:(atp P t x lo hi).run m l=some (v,m',l')):NI base U M0 w0 w m G P (Instr.sliceAt t gx glo ghi none) v m':=by
 have gen:∀(x:V),aZ G.μ m (Gh U w G) x gx->(do
   let e<-op' (elT P t)
   ck (Uw P e)
   let(s,rows)<-seen x
   ck (Nat.beq s (uf P e))
   let l<-bound lo 0
   let h<-bound hi rows.length
   let rows'<-op' (cut rows l h)
   match x with
   | .own r ver=>do
    match<-rd r with
    |some (.arr _ fl vC s rows)=>do
     ck (Nat.beq ver vC)
     wr r (.arr true fl ver s rows)
     pure (.d (.sl false s rows'))
    |_=> .fail
   |_=>pure (.d (.sl false s rows')):Acc V).run m l=some (v,m',l')->NI base U M0 w0 w m G P (Instr.sliceAt t gx glo ghi none) v m':=by
  intro x hx h;replace h:=ay h;obtain⟨e,m1,l1,h1,h⟩:=h;obtain⟨he,rfl,rfl⟩:=lW h1;have he:=XV he;replace h:=ay h;obtain⟨_,m1,l1,h1,h⟩:=h;obtain⟨hok,rfl,rfl⟩:=iK h1;obtain⟨d',hd'⟩:=JV hok;obtain⟨inf,Rq⟩:=F6 hd';have hsz:=Pz Rq;replace h:=ay h;obtain⟨⟨s,rows⟩,m1,l1,h1,h⟩:=h;obtain⟨rfl,hfull⟩:=avi hA.ok hx hA.out h1;simp only at h;replace h:=ay h;obtain⟨_,m2,l2,h2,h⟩:=h;obtain⟨hs,rfl,rfl⟩:=iK h2;have hs:=I5 hs;replace h:=ay h;obtain⟨a,m2,l2,h2,h⟩:=h;obtain⟨rfl,ha⟩:=aan hlo h2;replace h:=ay h;obtain⟨b,m3,l3,h3,h⟩:=h;obtain⟨rfl,hb⟩:=aan hhi h3;replace h:=ay h;obtain⟨rows',m4,l4,h4,h⟩:=h;obtain⟨hcut,rfl,rfl⟩:=lW h4;have ayF:∀{h':View} {G1:GS} {m1':Mem} {o:Bool},Nx base U M0 w0 w m4 G w m1' G1->h'=Gh U w G1->ro h' (.sl o s rows) gx->NI base U M0 w0 w m4 G P (Instr.sliceAt t gx glo ghi none) (.d (.sl false s rows')) m1':=by intro h' G1 m1' o hnx hh hro;subst hh;obtain⟨g',hrun,hg'⟩:=ayE (w:=w) he Rq (hs.trans hsz) hro ha hb hcut;exact⟨g',w,G1,hrun,hnx,hg'⟩
  cases x with
  |own r ver=>
   simp only at h;replace h:=ay h;obtain⟨c,m5,l5,h5,h⟩:=h;rw[Aj] at h5;cases h5;cases hc:get r m4 with
   |none=>rw[hc] at h;exact aI h
   |some c=>
    rw[hc] at h;cases c with
    |arr fz fl vC s2 aJF=>simp only at h;replace h:=ay h;obtain⟨_,m5,l5,h5,h⟩:=h;obtain⟨hbq,rfl,rfl⟩:=iK h5;have hbq:=I5 hbq;subst hbq;replace h:=ay h;obtain⟨_,m5,l5,h5,h⟩:=h;rw[Py] at h5;simp only[kX,pW] at h5;obtain⟨_,rfl,_⟩:=h5;simp only[run_pure,kX,pW] at h;obtain⟨rfl,rfl,_⟩:=h;simp only[seen] at h1;replace h1:=ay h1;obtain⟨c,m6,l6,h6,h1⟩:=h1;rw[Aj] at h6;cases h6;rw[hc] at h1;simp only at h1;replace h1:=ay h1;obtain⟨_,m6,l6,h6,h1⟩:=h1;obtain⟨_,rfl,rfl⟩:=iK h6;simp only[run_pure,kX,pW] at h1;obtain⟨⟨rfl,rfl⟩,_⟩:=h1;obtain⟨k1,k2,k3⟩:=hA.ok.freeze hc (by rw[hA.out];simp);simp only[aZ,hc] at hx;have hgx:=hx.2.2 trivial;rw[<-hgx] at k3;rw[hA.E] at k3;exact ayF (hA.still k1 k2 hA.out) rfl (ajv (fl:=fl) k3)
    |_=>exact aI h
  |d y=>
   cases y with
   |sl o s2 aJF=>simp only[seen,run_pure,kX,pW] at h1 h;obtain⟨⟨rfl,rfl⟩,_⟩:=h1;obtain⟨rfl,rfl,_⟩:=h;exact ayF (o:=o) hA.nx rfl hx
   |_=>exact aI h1
  |nil s2=>simp only[seen,run_pure,kX,pW] at h1 h;obtain⟨⟨rfl,rfl⟩,_⟩:=h1;obtain⟨rfl,rfl,_⟩:=h;refine ayF (o:=false) hA.nx rfl ?_;simp only[aZ] at hx;subst hx;simp[ro]
  |_=>exact aI h1
 have h:=hh0;cases x with
 |d y=>
  cases y with
  |str s=>
   simp only[atp] at h;replace h:=ay h;obtain⟨_,m1,l1,h1,h⟩:=h;obtain⟨hu,rfl,rfl⟩:=iK h1;replace h:=ay h;obtain⟨a,m2,l2,h2,h⟩:=h;obtain⟨rfl,ha⟩:=aan hlo h2;replace h:=ay h;obtain⟨b,m3,l3,h3,h⟩:=h;obtain⟨rfl,hb⟩:=aan hhi h3;replace h:=ay h;obtain⟨s',m4,l4,h4,h⟩:=h;obtain⟨hcut,rfl,rfl⟩:=lW h4;simp only[run_pure,kX,pW] at h;obtain⟨rfl,rfl,_⟩:=h;obtain⟨h0,h1,h2,rfl⟩:=ap8 hcut;simp only[aZ,ro] at hx;subst hx;have hu:P.underlying t=some .string:=by
    cases hd:P.underlying t with
    |none=>simp[hd] at hu
    |some d=>rw[hd] at hu;cases d<;>simp at hu;rfl
   have hrun:=VG (P:=P) (w:=w) (aeg:=false) (len:=s.length) (cap:=s.length) ha hb h0 h1 h2 (Nat.le_refl _);have hsize:(ByteArray.mk ⟨s⟩).size=s.length:=rfl;refine NI.same hA (g:=.string ((ByteArray.mk ⟨s⟩).extract a.toNat b.toNat)) ?_ ?_
   ·simp only[Instr.sliceAt,Sem.run_bind,run_underlying hu,Result.andThen_ok,Instr.slice];simp[hsize,hrun]
   ·simp only[aZ,ro];rw[al1 s _ _ ak ak]
  |sl o s rows=>exact gen _ hx h
  |int _ _=>exact gen _ hx h
  |bool _=>exact gen _ hx h
  |ZL=>exact gen _ hx h
 |nil _=>exact gen _ hx h
 |own _ _=>exact gen _ hx h
 |ptr _ _=>exact gen _ hx h
 |KX _ _ _ _=>exact gen _ hx h
 |EU _ _=>exact gen _ hx h
 |Pn _=>exact gen _ hx h
 |clo _ _ _=>exact gen _ hx h
 |agg _=>exact gen _ hx h
 |MF _=>exact gen _ hx h
 |undef=>exact gen _ hx h
def awP(hA:At base U M0 w0 w m G){t:TypeId}{x:V}{gx:Value}{lo hi:Option V}{glo ghi:Option Value}(hx:aZ G.μ m (Gh U w G) x gx)(hlo:atH G.μ m (Gh U w G) lo glo)(hhi:atH G.μ m (Gh U w G) hi ghi)
  {v:V} {l l':Log} (h:(aos P t x lo hi).run m l=some (v,m',l')):NI base U M0 w0 w m G P (Instr.sliceAt t gx glo ghi none) v m':=by
 cases x with
 |EU row off=>
  simp only[aos] at h;replace h:=ay h;obtain⟨q,m1,l1,h1,h⟩:=h;obtain⟨ha,rfl,rfl⟩:=lW h1;obtain⟨n,e⟩:=q;simp only at h;replace h:=ay h;obtain⟨_,m1,l1,h1,h⟩:=h;obtain⟨hok,rfl,rfl⟩:=iK h1;replace h:=ay h;obtain⟨_,m1,l1,h1,h⟩:=h;obtain⟨hk,rfl,rfl⟩:=iK h1;simp only[BK,Nat.beq_eq] at hk;obtain⟨hsz,rfl,hlen⟩:=hk;cases lo<;>try exact aI h
  cases hi<;>try exact aI h
  simp only[run_pure,kX,pW] at h;obtain⟨rfl,rfl,_⟩:=h;simp only[atH] at hlo hhi;subst hlo hhi;simp only[aZ] at hx;obtain⟨b,o,rfl,hr⟩:=hx;have hu:=ap6 ha;obtain⟨d',hd'⟩:=JV hok;obtain⟨inf,Rq⟩:=F6 hd';have hrun:=VG (P:=P) (w:=w) (aeg:=false) (len:=n) (cap:=n) (lo:=none) (hi:=none) (a:=0) (b:=n) (.inl ⟨rfl,rfl⟩) (.inl ⟨rfl,rfl⟩) ak ak ak (Nat.le_refl _);refine NI.same hA (g:=.slice (some ⟨b,o,none⟩) n n) ?_ ?_
  ·simp only[Instr.sliceAt,Sem.run_bind,run_underlying hu,Result.andThen_ok,Instr.sureAddr,sizeOf,typeInfo];simp only[Sem.run_pure,Result.andThen_ok];rw[hrun];simp[Rq,Xo]
  ·simp only[aZ,ro];refine⟨_,n,by simp[hlen],by simp[hlen],λ_=>⟨b,o,rfl,aju row b o hr⟩⟩
 |_=>exact awO hA hx hlo hhi h
def YR{H:Heap}{h:View}{fl:Bool}{s:Nat}:∀{rows:List Row} {cs:List Value} {N:List Nat} (n:Nat),Jm H h fl s rows cs N->∃N' N2,N=N'++N2/\Jm H h fl s (rows.take n) cs N'
 |rows,cs,N,0,q=>⟨[],N,by simp,by cases fl<;>simp[Jm,jK,jc]⟩
 |[],cs,N,n+1,q=>⟨N,[],by simp,by simpa using q⟩
 |r::rs,cs,N,n+1,q=>by
  cases fl with
  |true=>simp only[Jm,jK] at q;obtain⟨⟨q1,q2,q3⟩,rfl⟩:=q;obtain⟨N',N2,e,k⟩:=YR (H:=H) (fl:=true) n (show Jm H h true s rs (cs.drop s) [] from⟨q3,rfl⟩);obtain⟨rfl,rfl⟩:=List.append_eq_nil_iff.1 e.symm;exact⟨[],[],rfl,⟨⟨q1,q2,k.1⟩,rfl⟩⟩
  |false=>simp only[Jm,jc] at q;obtain⟨q1,N1,N3,rfl,q2,q3⟩:=q;obtain⟨N',N2,rfl,k⟩:=YR (fl:=false) n (show Jm H h false s rs (cs.drop s) N3 from q3);refine⟨N1++N',N2,by simp, ?_⟩;simp only[Jm,List.take_succ_cons,jc];exact⟨q1,N1,N',rfl,q2,k⟩
def awQ(hA:At base U M0 w0 w m G){t:TypeId}{x:V}{gx:Value}{hi:Option V}{ghi:Option Value}(hx:aZ G.μ m (Gh U w G) x gx)(hhi:atH G.μ m (Gh U w G) hi ghi)
  {v:V} {l l':Log} (h:(atq P t x hi).run m l=some (v,m',l')):NI base U M0 w0 w m G P (Instr.sliceAt t gx none ghi none) v m':=by
 simp only[atq] at h;replace h:=ay h;obtain⟨e,m1,l1,h1,h⟩:=h;obtain⟨he,rfl,rfl⟩:=lW h1;have hu:=XV he;replace h:=ay h;obtain⟨_,m2,l2,h2,h⟩:=h;obtain⟨hok,rfl,rfl⟩:=iK h2;obtain⟨d',hd'⟩:=JV hok;obtain⟨inf,Rq⟩:=F6 hd';have hsz:=Pz Rq;cases x<;>try exact aI h
 rename_i r ver;simp only at h;replace h:=ay h;obtain⟨c,m3,l3,h3,h⟩:=h;rw[Aj] at h3;cases h3;cases hc:get r m2 with
 |none=>rw[hc] at h;exact aI h
 |some c=>
 rw[hc] at h;cases c with
 |box _ _=>exact aI h
 |dead=>exact aI h
 |Dl _ _=>exact aI h
 |arr fz fl vC s rows=>
 cases fz with
 |true=>exact aI h
 |false=>
 simp only at h;replace h:=ay h;obtain⟨_,m3,l3,h3,h⟩:=h;obtain⟨hb,rfl,rfl⟩:=iK h3;have hb:=I5 hb;subst hb;replace h:=ay h;obtain⟨_,m4,l4,h4,h⟩:=h;obtain⟨hs,rfl,rfl⟩:=iK h4;have hs:=I5 hs;subst hs;replace h:=ay h;obtain⟨k,m5,l5,h5,h⟩:=h;obtain⟨rfl,hb⟩:=aan hhi h5;replace h:=ay h;obtain⟨_,m6,l6,h6,h⟩:=h;obtain⟨hk,rfl,rfl⟩:=iK h6;simp only[BK,decide_eq_true_eq] at hk;replace h:=ay h;obtain⟨_,m7,l7,h7,h⟩:=h;rw[Py] at h7;simp only[kX,pW] at h7;obtain⟨_,rfl,_⟩:=h7;simp only[run_pure,kX,pW] at h;obtain⟨rfl,rfl,_⟩:=h;simp only[aZ,hc] at hx;have hx:=hx.2.2 trivial;subst hx;have hcell:=hA.ok.cell r _ hc (by rw[hA.out];simp);simp only[vM] at hcell;have aGd:¬ver=ver+1:=ak;have hlen:(rows.take k.toNat).length=k.toNat:=by rw[zlt];omega
 have fin:∀(g:Value) (N:List Nat),N.Nodup->(∀b,b∈N->b∈G.F r)->(∀h':View,(Gh U w G).le h'->aef (eY w) h' fl (uf P e) (rows.take k.toNat) g N)->(Instr.sliceAt t (G.μ r) none ghi none).run P w=.ok g w->aeg g->
   NI base U M0 w0 w m6 G P (Instr.sliceAt t (G.μ r) none ghi none) (.own r (ver+1)) (put r (.arr false fl (ver+1) (uf P e) (rows.take k.toNat)) m6):=by
  intro g N hN hNs Xr hrun hone;refine⟨g,w,_,hrun,hA.ok.rewrite hA.out hA.fr (μ':=upM G.μ r g) (N:=N) hc (Keep.refl _ _) hN (λb hb=>⟨.inl (hNs b hb),(hA.ok.lt b (.inr ⟨r,hNs b hb⟩)).1⟩) (λj hj=>Rl g hj) ⟨ak,rfl,λe=>absurd e aGd⟩ (λh' hv hml _=> ?_), ?_⟩
  ·simp only[vM,TY];exact Xr h' hv
  ·simp[aZ,kH,hone]
 rcases hcell with⟨rfl,hμ,hF⟩|⟨b,cap,cs,T,N',k1,k2,k3,k4,k5,k6⟩
 ·have hrun:=VG (P:=P) (w:=w) (aeg:=true) (len:=0) (cap:=0) (lo:=none) (hi:=ghi) (a:=0) (b:=k) (.inl ⟨rfl,rfl⟩) hb ak hk.1 hk.2 (Nat.le_refl _);have hk0:k.toNat=0:=by have:=hk.2;simp at this;omega
  refine fin (.slice none 0 0) [] (by simp) (by simp) (λh' hv=> .inl ⟨by simp,rfl,rfl⟩) ?_ ⟨_,_,_,rfl⟩;rw[hμ];simp only[Instr.sliceAt,Sem.run_bind,run_underlying hu,Result.andThen_ok,Instr.slice,hrun,sizeOf,typeInfo];simp[Rq,hk0]
 ·have hrun:=VG (P:=P) (w:=w) (aeg:=true) (len:=rows.length) (cap:=cap) (lo:=none) (hi:=ghi) (a:=0) (b:=k) (.inl ⟨rfl,rfl⟩) hb ak hk.1 hk.2 k2;have k5':Jm (eY w) (Gh U w G) fl (uf P e) rows cs.toList N':=by
   cases fl with
   |true=>exact k5
   |false=>exact k5
  obtain⟨N1,N2,aJG,hq⟩:=YR k.toNat k5';have hnd:=hA.ok.nd r;rw[k6,aJG,<-zca] at hnd;refine fin (.slice (some ⟨b,0,none⟩) k.toNat cap) (b::N1) (List.nodup_append.1 hnd).1 (λj hj=> ?_) (λh' hv=> .inr ⟨b,cap,cs,T,N1,by rw[hlen],by rw[hlen];have:=hk.2;omega,k3,k4, ?_,rfl⟩) ?_ ⟨_,_,_,rfl⟩
  ·rw[k6,aJG,<-zca];exact List.mem_append_left _ hj
  ·have:=OB hv (λ_ _=>rfl) hq;cases fl with
   |true=>exact this
   |false=>exact this
  ·rw[k1];simp only[Instr.sliceAt,Sem.run_bind,run_underlying hu,Result.andThen_ok,Instr.slice,hrun,sizeOf,typeInfo];simp[Rq,Xo]
def ayG(hA:At base U M0 w0 w m G){t:TypeId}{x lo:V}{gx glo:Value}(hx:aZ G.μ m (Gh U w G) x gx)(hlo:aZ G.μ m (Gh U w G) lo glo)
  {v:V} {l l':Log} (h:(aE1 P t x lo).run m l=some (v,m',l')):NI base U M0 w0 w m G P (Instr.sliceAt t gx (some glo) none none) v m':=aI h
def gvD:D->Value
 | .int k n=> .int k n
 | .bool b=> .bool b
 | .str s=> .string ⟨⟨s⟩⟩
 |_=> .nilFunc
def aJH{h:View}{x:D}(hf:x.flat=true):ro h x (gvD x):=by
 cases x with
 |sl _ _ _=>simp[D.flat] at hf
 |_=>simp[gvD,ro]
def aB6{op:BinOp}{k:IntKind}{a b:Int}{v:V}{t:TypeId}(ho:shiftOp op=false)(hz:nz op b=true)(h:aF6 op k a b=some v):∃x,v=.d x/\x.flat=true/\(binOp op t (.int k a) (.int k b)).run P w=.ok (gvD x) w:=by
 cases op
 case add=>cases h;exact⟨_,rfl,rfl,by simp[binOp,Op.intArith,gvD]⟩
 case sub=>cases h;exact⟨_,rfl,rfl,by simp[binOp,Op.intArith,gvD]⟩
 case mul=>cases h;exact⟨_,rfl,rfl,by simp[binOp,Op.intArith,gvD]⟩
 case and=>cases h;exact⟨_,rfl,rfl,by simp[binOp,Op.intBits,gvD]⟩
 case or=>cases h;exact⟨_,rfl,rfl,by simp[binOp,Op.intBits,gvD]⟩
 case xor=>cases h;exact⟨_,rfl,rfl,by simp[binOp,Op.intBits,gvD]⟩
 case eql=>cases h;exact⟨_,rfl,rfl,by simp[binOp,Op.intCmp,gvD]⟩
 case neq=>cases h;exact⟨_,rfl,rfl,by simp[binOp,Op.intCmp,gvD]⟩
 case lss=>cases h;exact⟨_,rfl,rfl,by simp[binOp,Op.intCmp,gvD]⟩
 case leq=>cases h;exact⟨_,rfl,rfl,by simp[binOp,Op.intCmp,gvD]⟩
 case gtr=>cases h;exact⟨_,rfl,rfl,by simp[binOp,Op.intCmp,gvD]⟩
 case geq=>cases h;exact⟨_,rfl,rfl,by simp[binOp,Op.intCmp,gvD]⟩
 case quo=>
  have hb:¬b=0:=by simpa[nz] using hz
  ·cases h;exact⟨_,rfl,rfl,by simp[binOp,Op.intDiv,hb,gvD]⟩
 case rem=>
  have hb:¬b=0:=by simpa[nz] using hz
  ·cases h;exact⟨_,rfl,rfl,by simp[binOp,Op.intDiv,hb,gvD]⟩
 all_goals first|(cases ho;done)|(cases h;done)
def ap9{op:BinOp}{k k':IntKind}{a b:Int}{v:V}{t:TypeId}(h:afa op k a b=some v):∃x,v=.d x/\x.flat=true/\(binOp op t (.int k a) (.int k' b)).run P w=.ok (gvD x) w:=by
 unfold afa at h
 by_cases hb:b<0
 ·simp[hb] at h
 ·simp only[hb,decide_false,bC] at h;cases op<;>simp only at h<;>first|(cases h;done)|skip
  all_goals
   cases h;exact⟨_,rfl,rfl,by simp[binOp,Op.shift,hb,gvD]⟩
def toList_mk(s:List UInt8):(ByteArray.mk ⟨s⟩).toList=s:=by rw[ByteArray.toList_eq]
def awR(a b:List UInt8):ByteArray.mk ⟨a⟩++ByteArray.mk ⟨b⟩=⟨⟨a++b⟩⟩:=by
 have:(ByteArray.mk ⟨a⟩++ByteArray.mk ⟨b⟩).data=⟨a++b⟩:=by rw[ByteArray.data_append];simp
 exact congrArg ByteArray.mk this
def aB7{op:BinOp}{a b:List UInt8}{v:V}{t:TypeId}{l l':Log}(h:(aF7 op a b).run m l=some (v,m',l')):
  m'=m/\∃x,v=.d x/\x.flat=true/\(binOp op t (.string ⟨⟨a⟩⟩) (.string ⟨⟨b⟩⟩)).run P w=.ok (gvD x) w:=by
 cases op<;>simp only[aF7] at h<;>try exact aI h
 case add=>
  cases hc:Nat.ble (a.length+b.length) ath with
  |false=>rw[hc] at h;simp[Acc.run] at h
  |true=>
   rw[hc] at h;change some (_,_,_)=_ at h;simp only[kX,pW] at h;obtain⟨rfl,rfl,_⟩:=h;have hc:=Nat.le_of_ble_eq_true hc;have hm:IntKind.i64.max=(ath:Int):=by decide
   have hn:¬((((ByteArray.mk ⟨a⟩).size+(ByteArray.mk ⟨b⟩).size:Nat):Int)>IntKind.i64.max):=by rw[hm];have h1:(ByteArray.mk ⟨a⟩).size=a.length:=rfl;have h2:(ByteArray.mk ⟨b⟩).size=b.length:=rfl;rw[h1,h2];omega
   refine⟨rfl,_,rfl,rfl, ?_⟩;simp only[binOp,Op.stringOp,if_neg hn,Sem.run_pure,awR,gvD]
 all_goals
  change some (_,_,_)=_ at h;simp only[kX,pW] at h;obtain⟨rfl,rfl,_⟩:=h;refine⟨rfl,_,rfl,rfl, ?_⟩;simp[binOp,Op.stringOp,toList_mk,gvD]
def atI{t:TypeId}(h:boolT P t=true):P.underlying t=some .bool:=by
 unfold boolT at h;cases hd:P.underlying t with
 |none=>simp[hd] at h
 |some d=>rw[hd] at h;cases d<;>simp at h;rfl
def ahP{op:BinOp}{t:TypeId}{ox oy:Operand}{a b:Value}(h:∀c,a≠.agg c)(hn:a≠.nilIface):(eqGuard op t ox oy a b).run P w=.ok () w:=by
 unfold eqGuard;cases op<;>simp
 all_goals cases a<;>first|exact absurd rfl (h _)|exact absurd rfl hn|simp
def al2{t:TypeId}(h:P.underlying t=some .bool)(a b:Bool):(Op.equalIn Op.maxDepth t (.bool a) (.bool b)).run P w=.ok (a==b) w:=by
 have:∀d,(Op.equalIn (d+1) t (.bool a) (.bool b)).run P w=.ok (a==b) w:=by intro d;simp[Op.equalIn,run_underlying h]
 exact this 9999
def aGg(hA:At base U M0 w0 w m G){op:BinOp}{t:TypeId}{ox oy:Operand}{x y:V}{gx gy:Value}(hx:aZ G.μ m (Gh U w G) x gx)(hy:aZ G.μ m (Gh U w G) y gy){v:V}{l l':Log}(h:(bin (boolT P t) op x y).run m l=some (v,m',l')):
  NI base U M0 w0 w m G P (do eqGuard op t ox oy gx gy;binOp op t gx gy) v m':=by
 have close:∀{x:D},(∀c,gx≠.agg c)->gx≠.nilIface->x.flat=true->(binOp op t gx gy).run P w=.ok (gvD x) w->NI base U M0 w0 w m G P (do eqGuard op t ox oy gx gy;binOp op t gx gy) (.d x) m:=by intro x h1 h2 hq hr;refine NI.same hA (g:=gvD x) ?_ (by simp only[aZ];exact aJH hq);simp only[Sem.run_bind,ahP h1 h2,Result.andThen_ok,hr]
 unfold bin at h;split at h
 ·simp only[aZ,ro] at hx hy;subst hx hy;split at h
  ·rename_i ho;cases hb:afa op _ _ _ with
   |none=>rw[hb] at h;simp[Acc.run] at h
   |some r=>rw[hb] at h;change some (_,_,_)=_ at h;simp only[kX,pW] at h;obtain⟨rfl,rfl,_⟩:=h;obtain⟨x,rfl,hq,hr⟩:=ap9 (P:=P) (w:=w) (t:=t) hb;exact close (by simp) (by simp) hq hr
  ·rename_i ho;split at h
   ·rename_i hk;have hk:=of_decide_eq_true hk;subst hk;cases hz:nz op _ with
    |false=>rw[hz] at h;cases h
    |true=>
    rw[hz] at h;simp only[Acc.run] at h;cases hb:aF6 op _ _ _ with
    |none=>rw[hb] at h;simp[Acc.run] at h
    |some r=>rw[hb] at h;change some (_,_,_)=_ at h;simp only[kX,pW] at h;obtain⟨rfl,rfl,_⟩:=h;obtain⟨x,rfl,hq,hr⟩:=aB6 (P:=P) (w:=w) (t:=t) ho hz hb;exact close (by simp) (by simp) hq hr
   ·exact aI h
 ·simp only[aZ,ro] at hx hy;subst hx hy;obtain⟨rfl,x,rfl,hq,hr⟩:=aB7 (P:=P) (w:=w) (t:=t) h;exact close (by simp) (by simp) hq hr
 ·simp only[aZ,ro] at hx hy;subst hx hy;split at h
  ·rename_i hbt;have hbt:=atI hbt;cases op<;>simp only[aJt] at h<;>try(simp[Acc.run] at h;done)
   all_goals
    change some (_,_,_)=_ at h;simp only[kX,pW] at h;obtain⟨rfl,rfl,_⟩:=h;refine close (by simp) (by simp) rfl ?_;simp only[binOp,Op.equal,Sem.run_bind,al2 hbt,Result.andThen_ok,Sem.run_pure,gvD]
  ·exact aI h
 ·exact aI h
def aqa{t:TypeId}(h:sliceT P t=true):∃e,P.underlying t=some (.slice e):=by
 unfold sliceT at h;cases hd:P.underlying t with
 |none=>simp[hd] at h
 |some d=>rw[hd] at h;cases d<;>simp at h;exact⟨_,rfl⟩
def afr{t e:TypeId}(h:P.underlying t=some (.slice e))(a:Option Addr)(n c:Nat):(Op.equal t (.slice a n c) (.slice none 0 0)).run P w=.ok a.isNone w:=by
 have:∀d,(Op.equalIn (d+1) t (.slice a n c) (.slice none 0 0)).run P w=.ok a.isNone w:=by intro d;cases a<;>simp[Op.equalIn,run_underlying h]
 exact this 9999
def awS{t:TypeId}{x y:V}{r:Bool}(hp:agz P t x=true)(h:ati x y=some r){μ:Nat->Value}{mm:Mem}{hh:View}{gx gy:Value}(hx:aZ μ mm hh x gx)(hy:aZ μ mm hh y gy)(d:Nat):
  (Op.equalIn (d+1) t gx gy).run P w=.ok r w/\(∃d,P.underlying t=some d)/\QW P t=false:=by
 unfold ati at h;split at h
 ·rename_i k a k' b;simp only[aZ,ro] at hx hy;subst hx hy;unfold agz at hp;split at hp<;>try cases hp
  all_goals rename_i hu he
  all_goals try cases he
  cases hk:decide (k=k') with
  |false=>rw[hk] at h;cases h
  |true=>rw[hk] at h;cases h;have:=of_decide_eq_true hk;subst this;exact⟨run_equalIn_int w d t k _ a b hu,⟨_,hu⟩,by simp[QW,hu]⟩
 ·rename_i a b;simp only[aZ,ro] at hx hy;subst hx hy;unfold agz at hp;split at hp<;>try cases hp
  all_goals rename_i hu he
  all_goals try cases he
  cases h;refine⟨?_,⟨_,hu⟩,by simp[QW,hu]⟩;have:=run_equalIn_string w d t ⟨⟨a⟩⟩ ⟨⟨b⟩⟩ hu;rw[ByteArray.toList_eq,ByteArray.toList_eq] at this;exact this
 ·rename_i a b;simp only[aZ,ro] at hx hy;subst hx hy;unfold agz at hp;split at hp<;>try cases hp
  all_goals rename_i hu he
  all_goals try cases he
  cases h;exact⟨run_equalIn_bool' w d t a b hu,⟨_,hu⟩,by simp[QW,hu]⟩
 ·cases h
def ajS{μ:Nat->Value}{mm:Mem}{hh:View}{xs ys:List V}{gx gy:Array Value}(hx:dH μ mm hh xs gx.toList)(hy:dH μ mm hh ys gy.toList)(d:Nat):∀{fs:List Field} {r:Bool},aiS P fs xs ys=some r->
  (Op.eqFields (d+1) gx gy fs).run P w=.ok r w
 |[],r,h=>by cases h;simp[Op.eqFields]
 |f::fs,r,h=>by
  rw[aiS] at h;split at h
  ·rename_i x y hxo hyo
   cases hc : (agz P f.type x && (f.name != "_")) with
   |false=>rw[hc] at h;cases h
   |true=>
    rw[hc,aH] at h;rw[BK] at hc
    have hname : f.name ≠ "_" := by simpa using hc.2
    split at h
    ·rename_i a b ha hb;cases h;obtain⟨g1,e1,s1⟩:=abZ hx hxo;obtain⟨g2,e2,s2⟩:=abZ hy hyo;obtain⟨h1,⟨du,hu⟩,h2⟩:=awS (w:=w) hc.1 ha s1 s2 d;have p1:(Go.part f.type gx f.offset).run P w=.ok g1 w:=by
      have e1':gx[f.offset]? =some g1:=by simpa using e1
      simp[Go.part,XU hu,h2,e1']
     have p2:(Go.part f.type gy f.offset).run P w=.ok g2 w:=by
      have e2':gy[f.offset]? =some g2:=by simpa using e2
      simp[Go.part,XU hu,h2,e2']
     rw[Op.eqFields,if_pos hname];simp only[Sem.run_bind,p1,p2,h1,Result.andThen_ok];cases a with
     |false=>simp
     |true=>simpa using ajS hx hy d hb
    ·cases h
  ·cases h
def awT(hA:At base U M0 w0 w m G){x:V}{gx:Value}(hx:aZ G.μ m (Gh U w G) x gx){b:Bool}{l l':Log}(h:(atj x).run m l=some (b,m',l')):
  m'=m/\∃a n c,gx=.slice a n c/\b=a.isNone:=by
 have full:∀{o:Bool} {s:Nat} {rows:List Row} {g:Value} {h:View},ro h (.sl o s rows) g->1<=rows.length->∃a n c,g=.slice a n c/\false=a.isNone:=by intro o s rows g h hr hl;simp only[ro] at hr;obtain⟨a,cap,rfl,_,hs⟩:=hr;obtain⟨b,o,rfl,_⟩:=hs (by intro e;rw[e] at hl;simp at hl);exact⟨_,_,_,rfl,rfl⟩
 unfold atj at h;split at h
 ·simp only[run_pure,kX,pW] at h;obtain⟨rfl,rfl,_⟩:=h;simp only[aZ] at hx;exact⟨rfl,_,_,_,hx,rfl⟩
 ·replace h:=ay h;obtain⟨_,m2,l2,h2,h⟩:=h;obtain⟨hb,rfl,rfl⟩:=Hr h2;simp only[run_pure,kX,pW] at h;obtain⟨rfl,rfl,_⟩:=h;simp only[aZ] at hx;exact⟨rfl,full hx (Nat.le_of_ble_eq_true hb)⟩
 ·rename_i r ver;replace h:=ay h;obtain⟨c,m2,l2,h2,h⟩:=h;rw[Aj] at h2;cases h2;cases hc:get r m with
  |none=>rw[hc] at h;exact aI h
  |some c=>
   rw[hc] at h;cases c with
   |arr fz fl vC s rows=>simp only at h;replace h:=ay h;obtain⟨_,m2,l2,h2,h⟩:=h;obtain⟨hb,rfl,rfl⟩:=Hr h2;rw[BK] at hb;have hv:=I5 hb.1;subst hv;simp only[run_pure,kX,pW] at h;obtain⟨rfl,rfl,_⟩:=h;have hro:=hA.ok.look hc (by rw[hA.out];simp) false;simp only[aZ,hc] at hx;rw[<-hx.2.2 trivial] at hro;exact⟨rfl,full hro (Nat.le_of_ble_eq_true hb.2)⟩
   |_=>exact aI h
 ·exact aI h
def awU(hA:At base U M0 w0 w m G){op:BinOp}{t:TypeId}{ox oy:Operand}{x:V}{gx:Value}(hx:aZ G.μ m (Gh U w G) x gx){v:V}{l l':Log}(h:(atl P t op x).run m l=some (v,m',l')):
  NI base U M0 w0 w m G P (do eqGuard op t ox oy gx (.slice none 0 0);binOp op t gx (.slice none 0 0)) v m':=by
 unfold atl at h;obtain⟨hb,h⟩:=bck h;obtain⟨e,he⟩:=aqa hb;replace h:=ay h;obtain⟨b,m2,l2,h2,h⟩:=h;obtain⟨rfl,a,n,c,rfl,rfl⟩:=awT hA hx h2;have hg:(eqGuard op t ox oy (.slice a n c) (.slice none 0 0)).run P w=.ok () w:=ahP (by simp) (by simp);cases op<;>try exact aI h
 ·obtain⟨rfl,rfl,_⟩:=ZN h;refine NI.same hA (g:=.bool a.isNone) ?_ (by simp only[aZ,ro]);simp only[Sem.run_bind,hg,Result.andThen_ok,binOp,afr he,Sem.run_pure]
 ·obtain⟨rfl,rfl,_⟩:=ZN h;refine NI.same hA (g:=.bool !a.isNone) ?_ (by simp only[aZ,ro]);simp only[Sem.run_bind,hg,Result.andThen_ok,binOp,afr he,Sem.run_pure]
def aB8(hA:At base U M0 w0 w m G){op:BinOp}{t:TypeId}{ox oy:Operand}{x y:V}{gx gy:Value}(hx:aZ G.μ m (Gh U w G) x gx)(hy:aZ G.μ m (Gh U w G) y gy){v:V}{l l':Log}(h:(aF8 P t op x y).run m l=some (v,m',l')):
  NI base U M0 w0 w m G P (do eqGuard op t ox oy gx gy;binOp op t gx gy) v m':=by
 unfold aF8 at h;split at h
 ·rename_i cs;cases y with
  |agg ds=>
   simp only[aJu] at h;replace h:=ay h;obtain⟨_,m1,l1,h1,h⟩:=h;obtain⟨hg,rfl,rfl⟩:=iK h1;simp only[BK,Bool.not_eq_true'] at hg;replace h:=ay h;obtain⟨fs,m1,l1,h1,h⟩:=h;obtain⟨hf,rfl,rfl⟩:=lW h1;replace h:=ay h;obtain⟨r,m1,l1,h1,h⟩:=h;obtain⟨hr,rfl,rfl⟩:=lW h1;simp only[aZ] at hx hy;obtain⟨a,rfl,ha⟩:=hx;obtain⟨b,rfl,hb⟩:=hy;have hst:P.underlying t=some (.struct (P.fieldsOf t))/\fs=(P.fieldsOf t).toList:=by
    unfold Program.fieldsOf;split at hf
    ·rename_i fs' hu;cases hf;rw[hu];exact⟨rfl,rfl⟩
    ·cases hf
   obtain⟨hu,rfl⟩:=hst;have he:=(run_equalIn_agg w 9999 t a b hu hg.1).trans (ajS ha hb 9998 hr);have hgd:=run_eqGuard_agg w op t ox oy a b hg.2;have fin:∀r':Bool,(binOp op t (.agg a) (.agg b)).run P w=.ok (.bool r') w->v=.d (.bool r')->m1=m'->NI base U M0 w0 w m1 G P (do eqGuard op t ox oy (.agg a) (.agg b);binOp op t (.agg a) (.agg b)) v m':=by intro r' e1 e2 e3;subst e2 e3;refine NI.same hA (g:=.bool r') ?_ (by simp only[aZ,ro]);simp only[Sem.run_bind,hgd,Result.andThen_ok,e1]
   cases op<;>try exact aI h
   ·simp only[run_pure,kX,pW] at h;exact fin r (by rw[run_eql_struct,he];rfl) h.1.symm h.2.1
   ·simp only[run_pure,kX,pW] at h;exact fin (!r) (by rw[run_neq_struct,he];rfl) h.1.symm h.2.1
  |_=>exact aI h
 ·split at h
  ·simp only[aZ] at hy;subst hy;exact awU hA hx h
  ·exact aGg hA hx hy h
def aJI(hA:At base U M0 w0 w m G){op:UnOp}{x:V}{gx:Value}(hx:aZ G.μ m (Gh U w G) x gx){v:V}{l l':Log}(h:(un op x).run m l=some (v,m',l')):
  NI base U M0 w0 w m G P (Op.unary op gx) v m':=by
 unfold un at h;split at h
 ·change some (_,_,_)=_ at h;simp only[kX,pW] at h;obtain⟨rfl,rfl,_⟩:=h;simp only[aZ,ro] at hx;subst hx;refine NI.same hA (g:=.int _ _) (by simp only[Op.unary,Op.intArith,Sem.run_pure];rfl) (by simp[aZ,ro])
 ·change some (_,_,_)=_ at h;simp only[kX,pW] at h;obtain⟨rfl,rfl,_⟩:=h;simp only[aZ,ro] at hx;subst hx;refine NI.same hA (g:=.bool _) (by simp only[Op.unary,Sem.run_pure];rfl) (by simp[aZ,ro])
 ·exact aI h
def ayH(hA:At base U M0 w0 w m G){c x y:V}{gc gx gy:Value}(hc:aZ G.μ m (Gh U w G) c gc)(hx:aZ G.μ m (Gh U w G) x gx)(hy:aZ G.μ m (Gh U w G) y gy){v:V}{l l':Log}(h:(aym c x y).run m l=some (v,m',l')):
  NI base U M0 w0 w m G P (do pure (if<-Go.asBool gc then gx else gy)) v m':=by
 unfold aym at h;split at h
 ·rename_i c;simp only[aZ,ro] at hc;subst hc;split at h
  ·rename_i a b;change some (_,_,_)=_ at h;simp only[kX,pW] at h;obtain⟨rfl,rfl,_⟩:=h;simp only[aZ,ro] at hx hy;subst hx hy;refine NI.same hA (g:=.bool (bif c then a else b)) ?_ (by simp[aZ,ro]);cases c<;>simp[Go.asBool]
  ·split at h
   ·change some (_,_,_)=_ at h;simp only[kX,pW] at h;obtain⟨rfl,rfl,_⟩:=h;exact NI.same hA (g:=gx) (by simp[Go.asBool]) hx
   ·change some (_,_,_)=_ at h;simp only[kX,pW] at h;obtain⟨rfl,rfl,_⟩:=h;exact NI.same hA (g:=gy) (by simp[Go.asBool]) hy
 ·exact aI h
def ahQ{h:View}:∀{rows:List Row} {cs:List Value} {bs:List UInt8},bytesOf rows=some bs->jK h 1 rows cs->cs.length=rows.length->
  ∃ns:List Int,cs=ns.map (Value.int .u8)/\bs=ns.map (λn=>UInt8.ofNat n.toNat)
 |[],cs,bs,hb,_,hl=>by simp only[bytesOf,kX] at hb;subst hb;have:cs=[]:=List.length_eq_zero_iff.1 hl;subst this;exact⟨[],rfl,rfl⟩
 |r::rs,cs,bs,hb,hs,hl=>by
  simp only[bytesOf] at hb;cases ha:asByte r with
  |none=>simp[ha] at hb
  |some b=>
   cases hb2:bytesOf rs with
   |none=>simp[ha,hb2] at hb
   |some bs2=>
    simp only[ha,hb2,kX] at hb;subst hb;simp only[jK] at hs;obtain⟨_,h1,h2⟩:=hs;cases cs with
    |nil=>simp at hl
    |cons c cs=>
     obtain⟨ns,e1,e2⟩:=ahQ hb2 (by simpa using h2) (by simpa using hl);unfold asByte at ha;split at ha
     ·rename_i n _;simp only[kX] at ha;subst ha;simp only[jM] at h1;obtain⟨v,cs',e,hv,_⟩:=h1;simp only[ro] at hv;simp only[List.cons.injEq] at e;obtain⟨rfl,rfl⟩:=e;exact⟨n::ns,by rw[hv,zmc,e1],by rw[zmc,e2]⟩
     ·cases ha
def foldl_push:∀(ns:List Int) (acc:List UInt8),ns.foldl (λr n=>r.push (UInt8.ofNat n.toNat)) (ByteArray.mk ⟨acc⟩)=⟨⟨acc++ns.map (λn=>UInt8.ofNat n.toNat)⟩⟩
 |[],acc=>by simp
 |n::ns,acc=>by
  rw[List.foldl_cons];have:(ByteArray.mk ⟨acc⟩).push (UInt8.ofNat n.toNat)=⟨⟨acc++[UInt8.ofNat n.toNat]⟩⟩:=by simp[ByteArray.push]
  rw[this,foldl_push ns];simp
def aqb(hA:At base U M0 w0 w m G){src dst:TypeId}{x:V}{gx:Value}(hx:aZ G.μ m (Gh U w G) x gx){v:V}{l l':Log}(h:(ajl P src dst x).run m l=some (v,m',l')):
  NI base U M0 w0 w m G P (convert src dst gx) v m':=by
 unfold ajl at h;split at h
 next hs hd=>
  split at h
  ·change some (_,_,_)=_ at h;simp only[kX,pW] at h;obtain⟨rfl,rfl,_⟩:=h;simp only[aZ,ro] at hx;subst hx;refine NI.same hA (g:=.int _ _) ?_ (by simp only[aZ,ro];rfl);simp[convert,run_underlying hs,run_underlying hd,Conv.intToInt]
  ·exact aI h
 next hs hd=>
  split at h
  ·change some (_,_,_)=_ at h;simp only[kX,pW] at h;obtain⟨rfl,rfl,_⟩:=h;have hx0:=hx;simp only[aZ,ro] at hx;subst hx;refine NI.same hA (g:=.string _) ?_ hx0;simp[convert,run_underlying hs,run_underlying hd]
  ·exact aI h
 next e hs hd=>
  replace h:=ay h;obtain⟨_,m1,l1,h1,h⟩:=h;obtain⟨he,rfl,rfl⟩:=Hr h1;have he:P.underlying e=some (.int .u8):=by
   cases hu:P.underlying e with
   |none=>simp[hu] at he
   |some d=>rw[hu] at he;cases d<;>first|(simp at he;done)|(rename_i k;cases k<;>first|rfl|(simp at he;done))
  replace h:=ay h;obtain⟨⟨s,rows⟩,m1,l1,h1,h⟩:=h;obtain⟨rfl,hq⟩:=avi hA.ok hx hA.out h1;simp only at h;obtain⟨hs1,h⟩:=bck h;have hs1:=I5 hs1;subst hs1;obtain⟨bs,hb,h⟩:=bop h;obtain⟨rfl,rfl,_⟩:=ZN h;simp only[ro] at hq;obtain⟨a,cap,rfl,hcap,hne⟩:=hq;refine NI.same hA (g:=.string ⟨⟨bs⟩⟩) ?_ (by simp only[aZ,ro]);rw[run_convert_bytes_string w src dst e a rows.length cap hs he hd]
  by_cases hr:rows=[]
  ·subst hr;simp only[bytesOf,kX] at hb;subst hb;cases a with
   |none=>simp[Conv.bytesToString];rfl
   |some a=>have hl:=run_loadCells_list (P:=P) w a [] (by simp);have:=run_bytesToString (P:=P) w a 0 cap [] (by simpa using hl);exact this
  ·obtain⟨b,o,rfl,hrr⟩:=hne hr;obtain⟨cs,hl,hc,hss⟩:=YP rows o hrr;rw[Nat.mul_one] at hl;obtain⟨ns,rfl,rfl⟩:=ahQ hb hss hl;have hlc:=run_loadCells_list (P:=P) w ⟨b,o,none⟩ (ns.map (Value.int .u8)) (λj v hj=>by rw[Xo];exact hc j v hj);rw[hl] at hlc;rw[run_bytesToString w _ rows.length cap ns hlc];have:=foldl_push ns [];rw[List.nil_append] at this;rw[<-this];rfl
 next=>exact aI h
def ayI{μ:Nat->Value}{h:View}{vs:List V}{a:Array Value}{i:Nat}{v:V}(q:dH μ m h vs a.toList)(hi:vs[i]? =some v):∃x,a[i]? =some x/\aZ μ m h v x:=by obtain⟨x,h1,h2⟩:=abZ q hi;exact⟨x,by simpa using h1,h2⟩
end
end Go.Vm
