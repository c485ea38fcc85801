import Derived.Orders
import Derived.KernelRfl
import Derived.RowKit3
import Derived.Laws.Cells
import Derived.Laws.Rows
import Derived.Laws.OwnMore
import Derived.Below
import Derived.Laws.Append
import Derived.Laws.AppendOwn
import Derived.Laws.CopyRow
import Derived.Laws.Slices
import Derived.Laws.MakeOwn
import Derived.Laws.BytesString
import Derived.Great.BuildSlice
set_option linter.defProp false
set_option linter.unusedVariables false
set_option linter.unusedSimpArgs false
namespace Go.Vm
def ak{p:Prop}(h:p:=by omega):p:=h
def aK{α:Sort _}(a b:α):cond true a b=a:=cond_true ..
def bg{α:Sort _}(a b:α):cond false a b=b:=cond_false ..
def jF{α:Type _}(a b:α):(some a=some b)=(a=b):=Option.some.injEq ..
def nT{α:Type _}{β:Type _}(a:α)(b:β)(c:α)(d:β):((a,b)=(c,d))=(a=c/\b=d):=Prod.mk.injEq ..
def zdt{p:Prop}[Decidable p](h:p):decide p=true:=decide_eq_true h
def rH{p:Prop}[Decidable p](h:¬p):decide p=false:=decide_eq_false h
def yV{n m:Nat}(h:Nat.beq n m=true):n=m:=Nat.eq_of_beq_eq_true h
def rJ{α:Type _}{a b:List α}:(a++b).length=a.length+b.length:=List.length_append ..
def PN{α:Type _}{i:Nat}{a:α}{l:List α}:l[i]? =some a↔∃h:i<l.length,l[i]=a:=List.getElem?_eq_some_iff ..
def mQ{α:Type _}{a:α}{s:List α}:(a::s).length=s.length+1:=List.length_cons ..
def JR{α:Type _}(a b c:List α):a++b++c=a++(b++c):=List.append_assoc ..
def JU{α:Type _}{a:α}:[a].length=1:=List.length_singleton ..
def uH{α:Type _}:([]:List α).length=0:=List.length_nil ..
def AU{α:Type _}{l:List α}{i:Nat}{a:α}(h:l[i]? =some a):a∈l:=List.mem_of_getElem? h
def xw(a b:Bool):((a&&b)=true)=(a=true/\b=true):=Bool.and_eq_true ..
def Oa{α:Type _}{β:Type _}(a:α)(f:α->β):Option.map f (some a)=some (f a):=Option.map_some ..
def PO{α:Type _}{β:Type _}{f:α->β}{a:α}{l:List α}:List.map f (a::l)=f a::List.map f l:=List.map_cons ..
def VO(n:Nat):((n:Int)).toNat=n:=Int.toNat_natCast ..
def VE{α:Type _}{a:α}{s t:List α}:a::s++t=a::(s++t):=List.cons_append ..
def zmm{α:Type _}(y:α){a:α}{l:List α}(h:a∈l):a∈y::l:=List.mem_cons_of_mem _ h
def zmf{α:Type _}{a:α}{l:List α}:a∈a::l:=List.mem_cons_self ..
def zlo{α:Type _}{l:List α}:l.length=1↔∃a,l=[a]:=List.length_eq_one_iff ..
def II{α:Type _}[BEq α][LawfulBEq α]{a b:α}:(a==b)=false↔a≠b:=beq_eq_false_iff_ne ..
def VF{α:Type _}{i:Nat}{l:List α}:(l.take i).length=min i l.length:=List.length_take ..
inductive D where
 |int (k:IntKind) (n:Int)
 |bool (b:Bool)
 |str (s:List UInt8)
 |Zo
 |sl (own:Bool) (s:Nat) (rows:List (List D))
 deriving Inhabited
abbrev Row:=List D
abbrev aA:=List UInt8
abbrev au:=List Row
inductive V where
 |d (x:D)
 |nil (s:Nat)
 |own (r ver:Nat)
 |ptr (r off:Nat)
 |EL (r ver i off:Nat)
 |zx (row:Row) (off:Nat)
 |NR (v:V)
 |clo (f:Nat) (first caps:List V)
 |agg (cs:List V)
 |JV (vs:List V)
 |undef
 deriving Inhabited
inductive Cell where
 |box (t:TypeId) (cs:List V)
 |arr (fz fl:Bool) (ver s:Nat) (rows:List Row)
 |dead
 |VG (ver s:Nat) (rows:List Row)
 |AQ (t:TypeId) (v:V)
 |zy (ver s:Nat) (rows:List Row) (i off:Nat)
 deriving Inhabited
abbrev Mem:=List (Nat×Cell)
abbrev mD:=List (Nat×V)
structure St where
 tm:mD
 mem:Mem
def get{α:Type}(k:Nat):List (Nat×α)->Option α
 |[]=>none
 |(j,x)::l=>bif Nat.beq k j then some x else get k l
def put{α:Type}(k:Nat)(x:α):List (Nat×α)->List (Nat×α)
 |[]=>[(k,x)]
 |(j,y)::l=>bif Nat.beq k j then(k,x)::l else bif Nat.blt k j then(k,x)::(j,y)::l else(j,y)::put k x l
def del{α:Type}(k:Nat):List (Nat×α)->List (Nat×α)
 |[]=>[]
 |(j,y)::l=>bif Nat.beq k j then del k l else(j,y)::del k l
def aa7(t:Nat)(tm:mD):V:=match get t tm with|some v=>v|none=> .undef
def akT(dst:Option Nat)(v:V)(tm:mD):mD:=match dst with|some t=>put t v tm|none=>tm
def aB6(dst:Option Nat)(tm:mD):mD:=match dst with|some t=>del t tm|none=>tm
inductive Acc(α:Type):Type 1 where
 |ret (a:α)
 |fail
 |get (k:Nat) (c:Option Cell->Acc α)
 |set (k:Nat) (x:Cell) (c:Acc α)
 |opt {β:Type} (o:Option β) (c:β->Acc α)
 |guard (b:Bool) (c:Acc α)
structure Log where
 r:List Nat
 w:List Nat
def Log.rd(l:Log)(k:Nat):Log:={l with r:=k::l.r}
def Log.wr(l:Log)(k:Nat):Log:={l with w:=k::l.w}
def Log.none:Log:=⟨[],[]⟩
def Acc.bind{α β:Type}:Acc α->(α->Acc β)->Acc β
 | .ret a,f=>f a
 | .fail,_=> .fail
 | .get k c,f=> .get k λx=>(c x).bind f
 | .set k x c,f=> .set k x (c.bind f)
 | .opt o c,f=> .opt o λb=>(c b).bind f
 | .guard b c,f=> .guard b (c.bind f)
def Acc.run{α:Type}:Acc α->Mem->Log->Option (α×Mem×Log)
 | .ret a,m,l=>some (a,m,l)
 | .fail,_,_=>none
 | .get k c,m,l=>(c (Vm.get k m)).run m (l.rd k)
 | .set k x c,m,l=>c.run (put k x m) (l.wr k)
 | .opt o c,m,l=>match o with|some b=>(c b).run m l|none=>none
 | .guard b c,m,l=>match b with|true=>c.run m l|false=>none
inductive CT where
 |int (k:IntKind)|bool|str|sl (s:Nat)|other
 deriving Inhabited
def ase(f:TypeId->Option (List CT)):List TypeId->Option (List CT)
 |[]=>some []
 |t::ts=>match f t,ase f ts with|some a,some b=>some (a++b)|_,_=>none
def cts(P:Program):Nat->TypeId->Option (List CT)
 |0,_=>none
 |n+1,t=>match P.underlying t with
  |some (.int k)=>some [.int k]
  |some .bool=>some [.bool]
  |some .string=>some [.str]
  |some (.slice e)=>match P.info? e with|some i=>some [.sl i.size]|none=>none
  |some (.struct fs)=>ase (cts P n) (fs.toList.map (·.type))
  |some (.array k e)=>ase (cts P n) (List.replicate k e)
  |some (.pointer _)|some (.func ..)=>some [.other]
  |_=>none
def P8(P:Program)(t:TypeId):List CT:=match cts P 8 t with|some l=>l|none=>[.other]
def Sv(P:Program)(t:TypeId):Bool:=match P.underlying t with|some (.struct _)=>true|some (.array ..)=>true|_=>false
def oU(P:Program)(t:TypeId):Nat:=match P.info? t with|some i=>i.size|none=>0
def ahI(P:Program)(t:TypeId):Option TypeId:=match P.underlying t with|some (.pointer T)=>some T|_=>none
def elT(P:Program)(t:TypeId):Option TypeId:=match P.underlying t with|some (.slice e)=>some e|_=>none
def aef:CT->Value->V
 |_,.bool b=> .d (.bool b)
 |_,.int k n=> .d (.int k n)
 |_,.string s=> .d (.str s.data.toList)
 |_,.nilFunc=> .d .Zo
 | .sl s,.slice none 0 0=> .nil s
 |_,_=> .undef
def Jd:List CT->List Value->List V
 |c::cs,v::vs=>aef c v::Jd cs vs
 |[],_::vs=> .undef::Jd [] vs
 |_,[]=>[]
def cv(P:Program)(t:TypeId):Value->V
 | .agg cs=> .agg (Jd (P8 P t) cs.toList)
 |v=>match P8 P t with|c::_=>aef c v|[]=> .undef
def P9(P:Program)(t:TypeId):Option (List V):=
 match P.info? t with
 |some i=>match i.zero with
  |some z=>some (Jd (P8 P t) z.cells.toList)
  |none=>none
 |none=>none
def V.cells:V->List V
 | .agg cs=>cs
 |v=>[v]
def Ob(P:Program)(t:TypeId)(cs:List V):Option V:=
 bif Sv P t then some (.agg cs) else match cs with|[v]=>some v|_=>none
def asInt(k:IntKind):D->Option Int
 | .int k' n=>bif decide (k'=k) then some n else none
 |_=>none
def asBool:D->Option Bool
 | .bool b=>some b
 |_=>none
def aly:D->Option (List UInt8)
 | .str s=>some s
 |_=>none
def aw4(s:Nat):D->Option (List Row)
 | .sl _ s' rows=>bif Nat.beq s' s then some rows else none
 |_=>none
def aB7(s:Nat):D->Option (List Row)
 | .sl own s' rows=>bif Nat.beq s' s then(match own with|false=>some rows|true=>match rows with|[]=>some []|_::_=>none) else none
 |_=>none
def atZ(s:Nat):D->Option (List Row)
 | .sl own s' rows=>match own with|true=>bif Nat.beq s' s then some rows else none|false=>none
 |_=>none
def nth(row:Row)(j:Nat):D:=match row[j]? with|some x=>x|none=> .Zo
def bM(k:IntKind)(row:Row)(j:Nat):Option Int:=asInt k (nth row j)
def Sj(row:Row)(j:Nat):Option Bool:=asBool (nth row j)
def cStr(row:Row)(j:Nat):Option (List UInt8):=aly (nth row j)
def NP(s:Nat)(row:Row)(j:Nat):Option (List Row):=aw4 s (nth row j)
def cRo(s:Nat)(row:Row)(j:Nat):Option (List Row):=aB7 s (nth row j)
def aoY(s:Nat)(row:Row)(j:Nat):Option (List Row):=atZ s (nth row j)
mutual
def D.fz:D->D
 | .int k n=> .int k n
 | .bool b=> .bool b
 | .str s=> .str s
 | .Zo=> .Zo
 | .sl _ s rows=> .sl false s (aG rows)
def aG:List Row->List Row
 |[]=>[]
 |r::rs=>qo r::aG rs
def qo:Row->Row
 |[]=>[]
 |x::r=>x.fz::qo r
end
def roD:D->D
 | .sl _ s rows=> .sl false s rows
 |x=>x
def D.flat:D->Bool
 | .sl ..=>false
 |_=>true
def ay(rows:List Row):Bool:=rows.all λr=>r.all D.flat
def one:V->Bool
 | .d _=>true
 | .nil _=>true
 | .own _ _=>true
 | .ptr _ _=>true
 | .EL ..=>true
 | .zx _ _=>true
 | .NR _=>true
 | .clo ..=>true
 |_=>false
mutual
def D.pure:D->Bool
 | .sl own _ rows=>match own with|true=>NS rows|false=>rows.isEmpty
 |_=>true
def NS:List Row->Bool
 |[]=>true
 |r::rs=>bn r && NS rs
def bn:Row->Bool
 |[]=>true
 |x::r=>x.pure && bn r
end
def Qa(strict:Bool):List CT->Row->Nat->(List V->Acc V)->Acc V
 |[],_,_,c=>c []
 | .int k::ts,row,j,c=> .opt (bM k row j) λn=>Qa strict ts row (j+1) λvs=>c (.d (.int k n)::vs)
 | .bool::ts,row,j,c=> .opt (Sj row j) λn=>Qa strict ts row (j+1) λvs=>c (.d (.bool n)::vs)
 | .str::ts,row,j,c=> .opt (cStr row j) λn=>Qa strict ts row (j+1) λvs=>c (.d (.str n)::vs)
 | .sl s::ts,row,j,c=> .opt (bif strict then cRo s row j else NP s row j) λrs=>Qa strict ts row (j+1) λvs=>c (.d (.sl false s rs)::vs)
 | .other::_,_,_,_=> .fail
structure Adv where
 keep:Nat->Nat->List Nat
 move:Nat->List Nat
 att:Nat->Nat->List Nat
 aLv:Nat->List Nat
 trunc:Nat->Nat->Bool
 look:Nat->List Nat
 zy:Nat->Nat->Bool
structure Ctx where
 P:Program
 UO:Adv
 Zx:Nat->Option (List V->List Cell->Option (List Row×List Cell))
 glob:Nat->Option Row
 aLw:Nat->Bool
abbrev lN:=Nat->List V->List Cell->Option (List Row×List Cell)
def mem?(k:Nat):List Nat->Bool
 |[]=>false
 |j::l=>bif Nat.beq k j then true else mem? k l
def aG1:List CT->Bool
 |[]=>false
 | .sl _::_=>true
 |_::l=>aG1 l
def Gg(P:Program)(e:TypeId):Bool:= !(aG1 (P8 P e))
def vw(fl:Bool)(rows:List Row):List Row:=bif fl then rows else aG rows
instance:Monad Acc where
 pure:=.ret
 bind:=.bind
def rd(k:Nat):Acc (Option Cell):=.get k .ret
def wr(k:Nat)(x:Cell):Acc Unit:=.set k x (.ret ())
def ck(b:Bool):Acc Unit:=.guard b (.ret ())
def op'{β:Type}(o:Option β):Acc β:=.opt o .ret
def free(k:Nat):Acc Unit:=do
 match<-rd k with
 |none=>pure ()
 |some _=> .fail
def new(k:Nat)(c:Cell):Acc Unit:=do
 free k
 wr k c
def seen(v:V):Acc (Nat×List Row):=
 match v with
 | .d (.sl _ s rows)=>pure (s,rows)
 | .nil s=>pure (s,[])
 | .own r ver=>do
  match<-rd r with
  |some (.arr _ fl jM s rows)=>do ck (Nat.beq ver jM);pure (s,vw fl rows)
  |_=> .fail
 |_=> .fail
def afh(fl:Bool)(rows:List Row):Bool:=bif fl then ay rows else true
def toD(v:V):Acc D:=
 match v with
 | .d x=>pure (roD x)
 | .nil s=>pure (.sl true s [])
 | .own r ver=>do
  match<-rd r with
  |some (.arr fz fl jM s rows)=>do
   ck (Nat.beq ver jM)
   match fz with
   |true=>pure (.sl false s (vw fl rows))
   |false=>do
    ck (afh fl rows)
    wr r .dead
    pure (.sl true s rows)
  |_=> .fail
 |_=> .fail
def Qb:List V->Acc Row
 |[]=>pure []
 |v::vs=>do
  let x<-toD v
  let xs<-Qb vs
  pure (x::xs)
def splice{α:Type}(l:List α)(off:Nat)(xs:List α):List α:=l.take off++xs++l.drop (off+xs.length)
def part{α:Type}(l:List α)(off n:Nat):List α:=(l.drop off).take n
def idx{α:Type}(l:List α)(i:Int):Option α:=bif decide (0<=i) then l[i.toNat]? else none
def cut{α:Type}(l:List α)(a b:Int):Option (List α):=
 bif decide (0<=a) && decide (a<=b) && decide (b<=l.length) then some ((l.drop a.toNat).take (b.toNat - a.toNat)) else none
def byteRow(b:UInt8):Row:=[.int .u8 b.toNat]
def asByte:Row->Option UInt8
 |[.int .u8 n]=>some (UInt8.ofNat n.toNat)
 |_=>none
def bytesOf:List Row->Option (List UInt8)
 |[]=>some []
 |r::rs=>match asByte r,bytesOf rs with|some b,some bs=>some (b::bs)|_,_=>none
def ev(P:Program)(tm:mD)(t:TypeId):Operand->V
 | .tmp i=>aa7 i tm
 | .const v=>cv P t v
 | .func f=> .clo f [] []
 | .global _=> .undef
def evG(X:Ctx)(tm:mD)(t:TypeId)(x:Operand):V:=match x with
 | .global g=>match X.glob g with
  |some row=> .zx row 0
  |none=> .undef
 |x=>ev X.P tm t x
def nz(op:BinOp)(b:Int):Bool:=match op with
 | .quo=> !(decide (b=0))
 | .rem=> !(decide (b=0))
 |_=>true
def aIT(op:BinOp)(k:IntKind)(a b:Int):Option V:=
 match op with
 | .add=>some (.d (.int k (k.wrap (a+b))))
 | .sub=>some (.d (.int k (k.wrap (a - b))))
 | .mul=>some (.d (.int k (k.wrap (a * b))))
 | .quo=>some (.d (.int k (k.wrap (a.tdiv b))))
 | .rem=>some (.d (.int k (a.tmod b)))
 | .eql=>some (.d (.bool (a==b)))
 | .neq=>some (.d (.bool (a !=b)))
 | .lss=>some (.d (.bool (decide (a<b))))
 | .leq=>some (.d (.bool (decide (a<=b))))
 | .gtr=>some (.d (.bool (decide (a>b))))
 | .geq=>some (.d (.bool (decide (a>=b))))
 | .and=>some (.d (.int k (k.wrap (BitVec.ofInt k.bits a &&& BitVec.ofInt k.bits b).toNat)))
 | .or=>some (.d (.int k (k.wrap (BitVec.ofInt k.bits a|||BitVec.ofInt k.bits b).toNat)))
 | .xor=>some (.d (.int k (k.wrap (BitVec.ofInt k.bits a ^^^ BitVec.ofInt k.bits b).toNat)))
 |_=>none
def acX(op:BinOp)(k:IntKind)(a b:Int):Option V:=
 bif decide (b<0) then none else
 match op with
 | .shl=>some (.d (.int k (k.wrap (a * 2 ^(min b.toNat k.bits)))))
 | .shr=>some (.d (.int k (a.fdiv (2 ^(min b.toNat k.bits)))))
 |_=>none
def asf:Nat:=9223372036854775807
def aIU(op:BinOp)(a b:List UInt8):Acc V:=
 match op with
 | .add=> .guard (Nat.ble (a.length+b.length) asf) (.ret (.d (.str (a++b))))
 | .eql=> .ret (.d (.bool (a==b)))
 | .neq=> .ret (.d (.bool !(a==b)))
 | .lss=> .ret (.d (.bool (Op.bytesLess a b)))
 | .leq=> .ret (.d (.bool (Op.bytesLess a b||a==b)))
 | .gtr=> .ret (.d (.bool !(Op.bytesLess a b||a==b)))
 | .geq=> .ret (.d (.bool !(Op.bytesLess a b)))
 |_=> .fail
def aLx(op:BinOp)(a b:Bool):Option V:=
 match op with
 | .eql=>some (.d (.bool (a==b)))
 | .neq=>some (.d (.bool !(a==b)))
 |_=>none
def shiftOp:BinOp->Bool
 | .shl| .shr=>true
 |_=>false
def boolT(P:Program)(t:TypeId):Bool:=match P.underlying t with|some .bool=>true|_=>false
def bin(bt:Bool)(op:BinOp)(x y:V):Acc V:=
 match x,y with
 | .d (.int k a),.d (.int k' b)=>
  match shiftOp op with
  |true=> .opt (acX op k a b) .ret
  |false=>match decide (k=k') with
   |true=> .guard (nz op b) (.opt (aIT op k a b) .ret)
   |false=> .fail
 | .d (.str a),.d (.str b)=>aIU op a b
 | .d (.bool a),.d (.bool b)=>match bt with
  |true=> .opt (aLx op a b) .ret
  |false=> .fail
 |_,_=> .fail
def sliceT(P:Program)(t:TypeId):Bool:=match P.underlying t with|some (.slice _)=>true|_=>false
def aLy(P:Program)(t:TypeId)(op:BinOp)(x y:V):Acc V:=bin (boolT P t) op x y
def un(op:UnOp)(x:V):Acc V:=
 match op,x with
 | .neg,.d (.int k n)=> .ret (.d (.int k (k.wrap (0 - n))))
 | .not,.d (.bool b)=> .ret (.d (.bool !b))
 |_,_=> .fail
def aw5(c x y:V):Acc V:=
 match c with
 | .d (.bool c)=>match x,y with
  | .d (.bool a),.d (.bool b)=> .ret (.d (.bool (bif c then a else b)))
  |x,y=>match c with
   |true=> .ret x
   |false=> .ret y
 |_=> .fail
def BA(P:Program)(t:TypeId):Bool:=match P.underlying t with|some _=>true|none=>false
def aw6(P:Program)(t:TypeId)(a:V):Acc V:=do
 ck (BA P t && Nat.beq (P8 P t).length (oU P t))
 match a with
 | .ptr r off=>do
  match<-rd r with
  |some (.box _ cs)=>do
   ck (Nat.ble (off+oU P t) cs.length)
   op' (Ob P t (part cs off (oU P t)))
  |some (.AQ _ v)=>do
   ck (Nat.beq off 0 &&(Nat.beq (oU P t) 1 && !(Sv P t)))
   pure v
  |_=> .fail
 | .NR v=>do
  ck (Nat.beq (oU P t) 1 && !(Sv P t))
  pure v
 | .zx row off=>Qa false (P8 P t) row off λvs=>op' (Ob P t vs)
 | .EL r ver i off=>do
  match<-rd r with
  |some (.arr _ _ jM _ rows)=>do
   ck (Nat.beq ver jM)
   let row<-op' rows[i]?
   Qa true (P8 P t) row off λvs=>op' (Ob P t vs)
  |some (.VG jM _ rows)=>do
   ck (Nat.beq ver jM)
   let row<-op' rows[i]?
   Qa true (P8 P t) row off λvs=>op' (Ob P t vs)
  |_=> .fail
 |_=> .fail
def Qc:Nat:=1000000000000000000000000
def Je(r:Nat):Nat:=Qc+r
def aw7(k:Nat):Bool:=Nat.ble Qc k
def aw8(P:Program)(t:TypeId)(a:V):Acc V:=do
 ck (BA P t &&(Nat.beq (oU P t) 1 && !(Sv P t)))
 let e<-op' (elT P t)
 match a with
 | .EL r ver i off=>do
  match<-rd r with
  |some (.arr false false jM s rows)=>do
   ck (Nat.beq ver jM && Nat.ble (off+1) s)
   let row<-op' rows[i]?
   let rs<-op' (aoY (oU P e) row off)
   ck (ay rs)
   new (Je r) (.arr false true 0 (oU P e) rs)
   wr r (.zy ver s rows i off)
   pure (.own (Je r) 0)
  |_=> .fail
 |_=> .fail
def anx(k:Nat):Acc Unit:=match aw7 k with
 |false=>pure ()
 |true=>do
  match<-rd (k - Qc) with
  |some (.zy ver s rows i off)=>do
   match<-rd k with
   |some (.arr false true 0 e rs)=>do
    ck (ay rs)
    let row<-op' rows[i]?
    wr k .dead
    wr (k - Qc) (.arr false false ver s (rows.set i (splice row off [.sl true e rs])))
   |_=>pure ()
  |_=>pure ()
def ag6(a:V):Acc Unit:=match a with
 | .own k _=>anx k
 | .EL k _ _ _=>anx k
 |_=>pure ()
def kept(off:Nat)(cs:List V)(x:V):Bool:=match off,cs,x with
 |0,[.undef],.ptr _ _=>true
 |_,_,_=>false
def ash(P:Program)(t:TypeId)(a x:V):Acc Unit:=do
 ck (BA P t)
 ck (Nat.beq x.cells.length (oU P t))
 ck (x.cells.all one)
 match a with
 | .ptr r off=>do
  match<-rd r with
  |some (.box T cs)=>do
   ck (Nat.ble (off+oU P t) cs.length)
   match kept off cs x with
   |true=>wr r (.AQ T x)
   |false=>wr r (.box T (splice cs off x.cells))
  |_=> .fail
 | .EL r ver i off=>do
  let xs<-Qb x.cells
  match<-rd r with
  |some (.arr false fl jM s rows)=>do
   ck (Nat.beq ver jM)
   ck (Nat.ble (off+oU P t) s)
   let row<-op' rows[i]?
   wr r (.arr false fl ver s (rows.set i (splice row off xs)))
  |some (.zy jM s rows i' off')=>do
   ck (Nat.beq ver jM &&(Nat.beq i i' &&(Nat.beq off off' && Nat.beq xs.length 1)))
   let row<-op' rows[i']?
   wr r (.arr false false ver s (rows.set i' (splice row off' xs)))
  |_=> .fail
 |_=> .fail
def Yx(P:Program)(T:TypeId)(f:Nat):Option (Nat×Nat×TypeId):=
 match P.underlying T with
 |some (.struct fs)=>match fs[f]? with
  |some fd=>some (fd.offset,oU P fd.type,fd.type)
  |none=>none
 |_=>none
def abN(P:Program)(T:TypeId)(a:V)(f:Nat):Acc V:=do
 let(o,n,_)<-op' (Yx P T f)
 ck (Nat.ble 1 n)
 match a with
 | .ptr r off=>pure (.ptr r (off+o))
 | .zx row off=>pure (.zx row (off+o))
 | .EL r ver i off=>pure (.EL r ver i (off+o))
 |_=> .fail
def asi(P:Program)(T:TypeId)(x:V)(f:Nat):Acc V:=do
 let(o,n,t)<-op' (Yx P T f)
 match x with
 | .agg cs=>do
  ck (Nat.ble (o+n) cs.length)
  ck (BA P t)
  op' (Ob P t (part cs o n))
 |_=> .fail
def abO(P:Program)(t:TypeId)(x i:V):Acc V:=do
 let e<-op' (elT P t)
 match i with
 | .d (.int _ i)=>
  match x with
  | .d (.sl _ s rows)=>do
   ck (Nat.beq s (oU P e))
   ck (BA P e)
   let row<-op' (idx rows i)
   pure (.zx row 0)
  | .own r ver=>do
   match<-rd r with
   |some (.arr fz fl jM s rows)=>do
    ck (Nat.beq ver jM)
    ck (Nat.beq s (oU P e))
    ck (BA P e)
    match fz with
    |true=>do
     let row<-op' (idx (vw fl rows) i)
     pure (.zx row 0)
    |false=>do
     let _<-op' (idx rows i)
     pure (.EL r ver i.toNat 0)
   |some (.VG jM s rows)=>do
    ck (Nat.beq ver jM)
    ck (Nat.beq s (oU P e))
    ck (BA P e)
    let _<-op' (idx rows i)
    pure (.EL r ver i.toNat 0)
   |some (.zy jM s rows _ _)=>do
    ck (Nat.beq ver jM)
    ck (Nat.beq s (oU P e))
    ck (BA P e)
    let _<-op' (idx rows i)
    pure (.EL r ver i.toNat 0)
   |_=> .fail
  |_=> .fail
 |_=> .fail
def arT(P:Program)(t:TypeId):Option (Nat×TypeId):=match P.underlying t with|some (.array n e)=>some (n,e)|_=>none
def aoZ(P:Program)(n:Nat)(e:TypeId)(x i:V):Acc V:=
 match i with
 | .d (.int _ i)=>do
  ck (BA P e)
  ck (decide (0<=i) && decide (i<(n:Int)))
  match x with
  | .zx row off=>pure (.zx row (off+i.toNat * oU P e))
  | .ptr r off=>pure (.ptr r (off+i.toNat * oU P e))
  |_=> .fail
 |_=> .fail
def abP(P:Program)(t:TypeId)(x i:V):Acc V:=match arT P t with
 |some (n,e)=>aoZ P n e x i
 |none=>abO P t x i
def alz:List V->Option Row
 |[]=>some []
 | .d x::vs=>match alz vs with|some r=>some (x::r)|none=>none
 |_::_=>none
def ahJ(c:CT)(row:Row)(i:Nat):Acc V:=match c with
 | .int k=> .opt (bM k row i) λn=> .ret (.d (.int k n))
 | .bool=> .opt (Sj row i) λb=> .ret (.d (.bool b))
 | .str=> .opt (cStr row i) λs=> .ret (.d (.str s))
 |_=> .fail
def asj(P:Program)(t:TypeId)(x i:V):Acc V:=
 match P.underlying t,x,i with
 |some .string,.d (.str s),.d (.int _ i)=> .opt (idx s i) λb=> .ret (.d (.int .u8 b.toNat))
 |some (.array n e),.agg cs,.d (.int _ i)=>do
  ck (Nat.beq (oU P e) 1 &&(Nat.beq cs.length n &&(BA P e && !(Sv P e))))
  ck (decide (0<=i) && decide (i<(n:Int)))
  let row<-op' (alz cs)
  ahJ (match P8 P e with|[c]=>c|_=> .other) row i.toNat
 |_,_,_=> .fail
def lenV(x:V):Acc V:=
 match x with
 | .d (.str s)=> .ret (.d (.int .i64 s.length))
 | .own r ver=>do
  match<-rd r with
  |some (.arr _ _ jM _ rows)=>do ck (Nat.beq ver jM);pure (.d (.int .i64 rows.length))
  |some (.VG jM _ rows)=>do ck (Nat.beq ver jM);pure (.d (.int .i64 rows.length))
  |_=> .fail
 | .d (.sl _ _ rows)=> .ret (.d (.int .i64 rows.length))
 | .nil _=> .ret (.d (.int .i64 0))
 |_=> .fail
def XP:Nat:=140737488355328
def VP(P:Program)(e:TypeId):Nat:=match P.info? e with|some i=>i.bytes|none=>XP
def tail(P:Program)(e:TypeId)(y:V):Acc (List Row):=
 match y with
 | .d (.str s)=>do
  ck (Nat.beq (oU P e) 1)
  pure (s.map byteRow)
 | .d (.sl _ s rows)=>do
  ck (Nat.beq s (oU P e))
  pure (vw (Gg P e) rows)
 | .nil _=>pure []
 | .own r ver=>do
  match<-rd r with
  |some (.arr fz fl jM s rows)=>do
   ck (Nat.beq ver jM)
   ck (Nat.beq s (oU P e))
   match Gg P e with
   |true=>do
    ck (fl||fz)
    pure rows
   |false=>do
    ck (!fl)
    match fz with
    |true=>pure (aG rows)
    |false=>do
     wr r .dead
     pure rows
  |_=> .fail
 |_=> .fail
def anz(P:Program)(dst:Nat)(t ty:TypeId)(x y:V):Acc V:=do
 let e<-op' (elT P t)
 ck (Nat.ble 1 (oU P e))
 ck (match P.underlying ty with|some (.slice _)=>true|some .string=>true|_=>false)
 let z<-op' (P9 P e)
 ck (Nat.beq z.length (oU P e))
 let ys<-tail P e y
 match x with
 | .nil _=>do
  ck (Nat.ble (ys.length * VP P e) XP)
  ck (Nat.ble ys.length XP)
  new dst (.arr false (Gg P e) 0 (oU P e) ys)
  pure (.own dst 0)
 | .own r ver=>do
  match<-rd r with
  |some (.arr false fl jM s rows)=>do
   ck (Nat.beq ver jM)
   ck (Nat.beq s (oU P e))
   ck (match fl,Gg P e with|true,true=>true|false,false=>true|_,_=>false)
   ck (Nat.ble ((rows.length+ys.length) * VP P e) XP)
   ck (Nat.ble (rows.length+ys.length) XP)
   wr r (.arr false fl (ver+1) s (rows++ys))
   pure (.own r (ver+1))
  |some (.VG jM s rows)=>do
   ck (Nat.beq ver jM)
   ck (Nat.beq s (oU P e))
   ck (Gg P e)
   ck (Nat.ble ((rows.length+ys.length) * VP P e) XP)
   ck (Nat.ble (rows.length+ys.length) XP)
   wr r (.VG (ver+1) s (rows++ys))
   pure (.own r (ver+1))
  |_=> .fail
 |_=> .fail
def ag7:V->V->Bool
 | .own r v,.own r' v'=>Nat.beq r r' && Nat.beq v v'
 |_,_=>false
def asl(P:Program)(dst:Nat)(t ty:TypeId)(x:V):Acc V:=do
 let e<-op' (elT P t)
 ck (Nat.ble 1 (oU P e))
 ck (sliceT P ty)
 let z<-op' (P9 P e)
 ck (Nat.beq z.length (oU P e))
 match x with
 | .own r ver=>do
  match<-rd r with
  |some (.arr false false jM s rows)=>do
   ck (Nat.beq ver jM && Nat.beq s (oU P e))
   ck (Nat.ble ((rows.length+rows.length) * VP P e) XP && Nat.ble (rows.length+rows.length) XP)
   free dst
   wr r .dead
   wr dst .dead
   pure (.d (.sl false s (aG rows++aG rows)))
  |_=> .fail
 |_=> .fail
def ao0(P:Program)(e:TypeId):Acc Row:=do
 let z<-op' (P9 P e)
 Qb z
def abQ(P:Program)(dst:Nat)(t:TypeId)(l c:V):Acc V:=do
 let e<-op' (elT P t)
 ck (Nat.ble 1 (oU P e))
 let z<-ao0 P e
 ck (Nat.beq z.length (oU P e))
 match l,c with
 | .d (.int _ l),.d (.int _ c)=>do
  ck (decide (0<=l) && decide (l<=c) && decide (c * VP P e<=XP) && decide (c<=XP))
  new dst (.arr false (Gg P e) 0 (oU P e) (List.replicate l.toNat z))
  pure (.own dst 0)
 |_,_=> .fail
def bound(o:Option V)(d:Int):Acc Int:=match o with
 |none=> .ret d
 |some (.d (.int _ n))=> .ret n
 |some _=> .fail
def asn(P:Program)(t:TypeId)(x:V)(lo hi:Option V):Acc V:=
 match x with
 | .d (.str s)=>do
  ck (match P.underlying t with|some .string=>true|_=>false)
  let l<-bound lo 0
  let h<-bound hi s.length
  let s'<-op' (cut s l h)
  pure (.d (.str s'))
 |_=>do
  let e<-op' (elT P t)
  ck (BA P e)
  let(s,rows)<-seen x
  ck (Nat.beq s (oU P e))
  let l<-bound lo 0
  let h<-bound hi rows.length
  let rows'<-op' (cut rows l h)
  match x with
  | .own r ver=>do
   match<-rd r with
   |some (.arr _ fl jM s rows)=>do
    ck (Nat.beq ver jM)
    wr r (.arr true fl ver s rows)
    pure (.d (.sl false s rows'))
   |_=> .fail
  |_=>pure (.d (.sl false s rows'))
def anA(P:Program)(t:TypeId)(x:V)(lo hi:Option V):Acc V:=
 match x with
 | .zx row off=>do
  let(n,e)<-op' (arT P t)
  ck (BA P e)
  ck (Nat.beq (oU P e) 1 &&(Nat.beq off 0 && Nat.beq row.length n))
  match lo,hi with
  |none,none=>pure (.d (.sl false 1 (row.map λx=>[x])))
  |_,_=> .fail
 |x=>asn P t x lo hi
def aso(P:Program)(t:TypeId)(x:V)(hi:Option V):Acc V:=do
 let e<-op' (elT P t)
 ck (BA P e)
 match x with
 | .own r ver=>do
  match<-rd r with
  |some (.arr false fl jM s rows)=>do
   ck (Nat.beq ver jM)
   ck (Nat.beq s (oU P e))
   let h<-bound hi rows.length
   ck (decide (0<=h) && decide (h<=(rows.length:Int)))
   wr r (.arr false fl (ver+1) s (rows.take h.toNat))
   pure (.own r (ver+1))
  |_=> .fail
 |_=> .fail
def aG2(P:Program)(t:TypeId)(x lo:V):Acc V:=.fail
def xM(P:Program)(T:TypeId)(tm:mD):List (Nat×Operand)->List V->Acc (List V)
 |[],cs=>pure cs
 |(f,x)::ps,cs=>do
  let(o,n,t)<-op' (Yx P T f)
  let v:=ev P tm t x
  ck (Nat.beq v.cells.length n)
  ck (v.cells.all one)
  ck (Nat.ble (o+n) cs.length)
  xM P T tm ps (splice cs o v.cells)
def ao1(P:Program)(T:TypeId):Bool:=match P.underlying T with
 |some (.struct fs)=>fs.toList.all λf=>match P.info? f.type with|some _=>true|none=>false
 |_=>false
def uz(P:Program)(e:TypeId)(tm:mD):List (Nat×Operand)->List V->Acc (List V)
 |[],cs=>pure cs
 |(i,x)::ps,cs=>do
  let v:=ev P tm e x
  ck (Nat.beq v.cells.length (oU P e))
  ck (v.cells.all one)
  ck (Nat.ble (i * oU P e+oU P e) cs.length)
  uz P e tm ps (splice cs (i * oU P e) v.cells)
def anB(P:Program)(T:TypeId)(tm:mD)(ps:List (Nat×Operand)):Acc V:=do
 ck (ao1 P T)
 let z<-op' (P9 P T)
 let cs<-xM P T tm ps z
 pure (.agg cs)
def asq(P:Program)(T e:TypeId)(tm:mD)(ps:List (Nat×Operand)):Acc V:=do
 ck (BA P e)
 let z<-op' (P9 P T)
 let cs<-uz P e tm ps z
 pure (.agg cs)
def anC(P:Program)(T:TypeId)(tm:mD)(ps:List (Nat×Operand)):Acc V:=match arT P T with
 |some (_,e)=>asq P T e tm ps
 |none=>anB P T tm ps
def xO(P:Program)(e:TypeId)(tm:mD):Nat->List (Nat×Operand)->Acc (List Row)
 |_,[]=>pure []
 |k,(i,x)::ps=>do
  ck (Nat.beq i k)
  let v:=ev P tm e x
  ck (Nat.beq v.cells.length (oU P e))
  let row<-Qb v.cells
  let rows<-xO P e tm (k+1) ps
  pure (row::rows)
def WZ(P:Program)(dst:Nat)(t:TypeId)(n:Nat)(tm:mD)(ps:List (Nat×Operand)):Acc V:=do
 let e<-op' (elT P t)
 ck (Nat.ble 1 (oU P e))
 ck (Nat.beq ps.length n)
 ck (Nat.ble (n * oU P e) 16777216)
 let _<-op' (P9 P e)
 let rows<-xO P e tm 0 ps
 new dst (.arr false (Gg P e) 0 (oU P e) rows)
 pure (.own dst 0)
def ahK(P:Program)(src dst:TypeId)(x:V):Acc V:=
 match P.underlying src,P.underlying dst with
 |some (.int _),some (.int k)=>match x with
  | .d (.int _ n)=> .ret (.d (.int k (k.wrap n)))
  |_=> .fail
 |some .string,some .string=>match x with
  | .d (.str s)=> .ret (.d (.str s))
  |_=> .fail
 |some (.slice e),some .string=>do
  ck (match P.underlying e with|some (.int .u8)=>true|_=>false)
  let(s,rows)<-seen x
  ck (Nat.beq s 1)
  let b<-op' (bytesOf rows)
  pure (.d (.str b))
 |_,_=> .fail
def sG:Nat:=100000
def asr(r:Nat)(l:List Nat):List Nat:=bif mem? r l then l else l++[r]
mutual
def ao2(I:List Nat):V->List Nat
 | .ptr r _=>asr r I
 | .clo _ a b=>alA (alA I a) b
 | .agg cs=>alA I cs
 | .NR v=>ao2 I v
 |_=>I
def alA(I:List Nat):List V->List Nat
 |[]=>I
 |v::vs=>alA (ao2 I v) vs
end
def JW(A:Adv)(f i:Nat):Nat:=bif mem? i (A.move f) then 1 else bif mem? i (A.look f) then 4 else 0
def Vb(A:Adv)(f:Nat):Nat->List Nat->List V->List Nat
 |_,I,[]=>I
 |i,I,v::vs=>Vb A f (i+1) (match JW A f i,v with
  |4,_=>I
  |_,v=>ao2 I v) vs
def idxOf(r:Nat):Nat->List Nat->Option Nat
 |_,[]=>none
 |i,j::l=>bif Nat.beq r j then some i else idxOf r (i+1) l
def XQ(A:Adv)(f:Nat):Nat->List V->Acc (List V)
 |_,[]=>pure []
 |i,v::vs=>do
  let v<-(match JW A f i with
   |1=>do
    let x<-toD v
    pure (.d x)
   |_=>pure v:Acc V)
  let vs<-XQ A f (i+1) vs
  pure (v::vs)
mutual
def lend(imp:List Nat):V->Acc (V×List Nat)
 | .d x=>pure (.d (roD x),[])
 | .nil s=>pure (.d (.sl false s []),[])
 | .own r ver=>do
  match<-rd r with
  |some (.arr fz fl jM s rows)=>do
   ck (Nat.beq ver jM)
   ck (!(mem? r imp))
   pure (.d (.sl false s (vw fl rows)),bif fz then[] else[r])
  |_=> .fail
 | .ptr r off=>do
  let i<-op' (idxOf r 0 imp)
  pure (.ptr (sG+i) off,[])
 | .zx row off=>pure (.zx row off,[])
 | .NR v=>do
  let(v,l)<-lend imp v
  pure (.NR v,l)
 | .clo f a b=>do
  let(a,l)<-ahL imp a
  let(b,l')<-ahL imp b
  pure (.clo f a b,l++l')
 | .agg cs=>do
  let(a,l)<-ahL imp cs
  pure (.agg a,l)
 | .EL ..=> .fail
 | .JV _=> .fail
 | .undef=> .fail
def ahL(imp:List Nat):List V->Acc (List V×List Nat)
 |[]=>pure ([],[])
 |v::vs=>do
  let(v,l)<-lend imp v
  let(vs,l')<-ahL imp vs
  pure (v::vs,l++l')
end
def XR(imp:List Nat):List V->Acc (Row×List Nat)
 |[]=>pure ([],[])
 |v::vs=>do
  let(v,l)<-lend imp v
  match v with
  | .d x=>do
   let(r,l')<-XR imp vs
   pure (x::r,l++l')
  |_=> .fail
def ag8(imp:List Nat)(v:V):Acc (V×List Nat):=
 match v with
 | .ptr r off=>do
  match<-rd r with
  |some (.box _ cs)=>do
   ck (!(mem? r imp))
   let(row,l)<-XR imp cs
   pure (.zx row off,r::l)
  |_=> .fail
 | .zx row off=>pure (.zx row off,[])
 |_=> .fail
def XT(A:Adv)(imp:List Nat)(f:Nat):Nat->List V->Acc (List V×List Nat)
 |_,[]=>pure ([],[])
 |i,v::vs=>do
  let(v,l)<-(match JW A f i with
   |1=>pure (v,[])
   |4=>ag8 imp v
   |_=>lend imp v:Acc (V×List Nat))
  let(vs,l')<-XT A imp f (i+1) vs
  pure (v::vs,l++l')
def aw9(imp:List Nat)(own:Bool)(v:V):Acc V:=
 match v with
 | .d x=>pure (.d (roD x))
 | .nil s=>pure (.d (.sl own s []))
 | .own r ver=>do
  match<-rd r with
  |some (.arr fz fl jM s rows)=>do
   ck (Nat.beq ver jM)
   ck (!(mem? r imp))
   match own with
   |true=>do
    ck (!fz)
    ck (afh fl rows)
    wr r .dead
    pure (.d (.sl true s rows))
   |false=>do
    wr r (.arr true fl ver s rows)
    pure (.d (.sl false s (vw fl rows)))
  |_=> .fail
 |_=> .fail
def Zy(imp own:List Nat):Nat->List V->Acc (List V)
 |_,[]=>pure []
 |j,v::vs=>do
  let v<-aw9 imp (mem? j own) v
  let vs<-Zy imp own (j+1) vs
  pure (v::vs)
def at1(A:Adv)(imp:List Nat)(c:Option Cell):Acc Cell:=
 match c with
 |some (.box t cs)=>do
  let cs<-Zy imp (A.aLv t) 0 cs
  pure (.box t cs)
 |_=> .fail
def Zz(A:Adv)(imp:List Nat):List Nat->Acc (List Cell)
 |[]=>pure []
 |r::rs=>do
  let c<-rd r
  let c<-at1 A imp c
  let cs<-Zz A imp rs
  pure (c::cs)
def keyOf(r j dst:Nat):Nat:=1000000+(r * 100+j) * 10000+dst
def vD:V->D
 | .d x=>x
 |_=> .Zo
def axa(cs:List Cell)(i:Nat):Row:=match cs[i]? with|some (.box _ vs)=>vs.map vD|_=>[]
def axb(cs:List Cell)(i n:Nat):Bool:=match cs[i]? with|some (.box _ vs)=>Nat.beq vs.length n|_=>false
def axc(f:TypeId->List Bool):List TypeId->List Bool
 |[]=>[]
 |t::ts=>f t++axc f ts
def fls(P:Program):Nat->TypeId->List Bool
 |0,_=>[]
 |n+1,t=>match P.underlying t with
  |some (.slice e)=>[Gg P e]
  |some (.struct fs)=>axc (fls P n) (fs.toList.map (·.type))
  |_=>[false]
def Un(own fl:Bool)(key:Nat)(row:Row)(j:Nat):CT->Acc V
 | .int k=> .opt (bM k row j) λn=> .ret (.d (.int k n))
 | .bool=> .opt (Sj row j) λn=> .ret (.d (.bool n))
 | .str=> .opt (cStr row j) λn=> .ret (.d (.str n))
 | .sl s=>match own with
  |true=> .opt (aoY s row j) λrows=>do
   new key (.arr false fl 0 s rows)
   pure (.own key 0)
  |false=> .opt (NP s row j) λrows=> .ret (.d (.sl false s (vw fl rows)))
 | .other=> .fail
def acY(own:List Nat)(r dst:Nat)(row:Row):Nat->List CT->List Bool->Acc (List V)
 |_,[],_=>pure []
 |j,ct::l,fs=>do
  let v<-Un (mem? j own) (fs.headD false) (keyOf r j dst) row j ct
  let vs<-acY own r dst row (j+1) l fs.tail
  pure (v::vs)
def afi(X:Ctx)(dst:Nat)(out:List Cell):Nat->List Nat->Acc Unit
 |_,[]=>pure ()
 |i,r::rs=>do
  match<-rd r with
  |some (.box t _)=>do
   ck (axb out i (P8 X.P t).length)
   let vs<-acY (X.UO.aLv t) r dst (axa out i) 0 (P8 X.P t) (fls X.P 8 t)
   wr r (.box t vs)
  |_=> .fail
  afi X dst out (i+1) rs
def asu(dst c:Nat):Nat:=1000000000000000+dst * 1000+c
def XU(att:List Nat)(dst ri:Nat)(row:Row):Nat->List CT->List Bool->Acc (List V)
 |_,[],_=>pure []
 |j,ct::l,fs=>do
  let v<-Un (mem? (ri * 20+j) att) (fs.headD false) (asu dst (ri * 20+j)) row j ct
  let vs<-XU att dst ri row (j+1) l fs.tail
  pure (v::vs)
def asv(X:Ctx)(att:List Nat)(dst ri:Nat)(row:Row)(t:TypeId):Acc V:=match ahI X.P t with
 |some T=>do
  ck (Nat.beq row.length (P8 X.P T).length)
  let cs<-XU [] dst ri row 0 (P8 X.P T) (fls X.P 8 T)
  new (asu dst (ri * 20+19)) (.box T cs)
  pure (.ptr (asu dst (ri * 20+19)) 0)
 |none=>do
  ck (Nat.beq row.length (P8 X.P t).length)
  let cs<-XU att dst ri row 0 (P8 X.P t) (fls X.P 8 t)
  op' (Ob X.P t cs)
def ahM(res:List Row)(ri:Nat):Row:=match res[ri]? with|some r=>r|none=>[]
def abR(X:Ctx)(att:List Nat)(dst:Nat)(res:List Row):Nat->List TypeId->Acc (List V)
 |_,[]=>pure []
 |ri,t::ts=>do
  let v<-asv X att dst ri (ahM res ri) t
  let vs<-abR X att dst res (ri+1) ts
  pure (v::vs)
def asw(att:List Nat)(ri:Nat):Nat->List CT->Bool
 |_,[]=>true
 |j,.sl _::l=>mem? (ri * 20+j) att && asw att ri (j+1) l
 |j,_::l=>asw att ri (j+1) l
def aaT(P:Program)(att:List Nat):Nat->List TypeId->Bool
 |_,[]=>true
 |ri,t::ts=>asw att ri 0 (P8 P t) && aaT P att (ri+1) ts
def freeze:List Nat->Acc Unit
 |[]=>pure ()
 |r::rs=>do
  match<-rd r with
  |some (.arr _ fl ver s rows)=>wr r (.arr true fl ver s rows)
  |_=> .fail
  freeze rs
def acZ(X:Ctx)(K:lN)(fn dst f:Nat)(args:List V):Acc V:=do
 let g<-op' X.P.funcs[f]?
 ck (g.body.isSome && !(g.name == "runtime.NumGoroutine"))
 let imp:=Vb X.UO f 0 [] args
 let args<-XQ X.UO f 0 args
 let cells<-Zz X.UO imp imp
 let(args,Uo)<-XT X.UO imp f 0 args
 ck (Uo.all λr=> !(mem? r imp))
 let out<-op' (K f args cells)
 ck (Nat.beq out.1.length g.resultTypes.size)
 let need:= !(Uo.isEmpty) &&(aaT X.P (X.UO.att fn dst) 0 g.resultTypes.toList && imp.isEmpty)
 ck (bif need then out.1.all bn else true)
 freeze (bif need then[] else Uo)
 afi X dst out.2 0 imp
 let vs<-abR X (X.UO.att fn dst) dst out.1 0 g.resultTypes.toList
 match vs with
 |[v]=>pure v
 |vs=>pure (.JV vs)
def aLz(P:Program)(ts:List TypeId)(x:V):Bool:=match ts with
 |[t]=>(match x with
  | .d (.str _)=>(match P.underlying t with|some .string=>true|_=>false)
  |_=>(match P.underlying t with|some (.slice _)=>true|_=>false))
 |_=>false
def wF(P:Program)(tm:mD):List Operand->List TypeId->List V
 |[],_=>[]
 |x::xs,ts=>ev P tm (ts.headD 0) x::wF P tm xs ts.tail
def ao3:List V->Acc (List V)
 |[]=>pure []
 |v::vs=>do
  let v<-(match v with
   | .ptr r off=>do
    match<-rd r with
    |some (.AQ _ x)=>do
     ck (Nat.beq off 0)
     pure (.NR x)
    |_=>pure (.ptr r off)
   |v=>pure v:Acc V)
  let vs<-ao3 vs
  pure (v::vs)
def vop(X:Ctx)(K:lN)(fn:Nat)(tm:mD)(o:Oper):Acc V:=
 let P:=X.P
 let dst:=o.dst.getD 0
 match o.op with
 | .move x=>pure (ev P tm o.type x)
 | .assign x=>pure (ev P tm o.type x)
 | .pick c x y=>aw5 (ev P tm o.type c) (ev P tm o.type x) (ev P tm o.type y)
 | .alloc T=>do
  let z<-op' (P9 P T)
  new dst (.box T z)
  pure (.ptr dst 0)
 | .box T x=>do
  let v:=ev P tm T x
  ck (Nat.beq v.cells.length (oU P T))
  ck (v.cells.all one)
  new dst (.box T v.cells)
  pure (.ptr dst 0)
 | .build T ps=>anC P T tm ps.toList
 | .buildSlice t n ps=>WZ P dst t n tm ps.toList
 | .load t a=>match X.UO.zy fn dst with
  |true=>aw8 P t (evG X tm 0 a)
  |false=>aw6 P t (evG X tm 0 a)
 | .store t a x=>do ash P t (ev P tm 0 a) (ev P tm t x);ag6 (ev P tm 0 a);pure .undef
 | .nilCheck x=>match evG X tm o.type x with
  | .ptr r off=>pure (.ptr r off)
  | .zx row off=>pure (.zx row off)
  | .EL r ver i off=>pure (.EL r ver i off)
  |_=> .fail
 | .binOp op t x y t'=>aLy P t op (ev P tm t x) (ev P tm t' y)
 | .unOp op t x=>un op (ev P tm t x)
 | .convert s d x=>ahK P s d (ev P tm s x)
 | .makeFunc (.func f) first caps=>do
  let cs<-ao3 (wF P tm caps.toList [])
  pure (.clo f (wF P tm first.toList []) cs)
 | .makeSlice t l c=>abQ P dst t (ev P tm o.type l) (ev P tm o.type c)
 | .slice t x lo hi none=>match X.UO.trunc fn dst,lo,hi with
  |true,none,hi=>aso P t (ev P tm t x) (hi.map (ev P tm 3))
  |true,some lo,none=>aG2 P t (ev P tm t x) (ev P tm 3 lo)
  |_,lo,hi=>anA P t (evG X tm t x) (lo.map (ev P tm 3)) (hi.map (ev P tm 3))
 | .fieldAddr T x f=>abN P T (ev P tm 0 x) f
 | .field T x f=>asi P T (ev P tm T x) f
 | .indexAddr t x i=>abP P t (evG X tm t x) (ev P tm 3 i)
 | .index t x i=>asj P t (ev P tm t x) (ev P tm 3 i)
 | .extract x i=>match ev P tm 0 x with
  | .JV vs=>op' vs[i]?
  |_=> .fail
 | .call {callee:=.value f,args,argTypes}=>match ev P tm 0 f with
  | .clo g first caps=>acZ X K fn dst g (first++wF P tm args.toList argTypes.toList++caps)
  |_=> .fail
 | .call {callee:=.builtin .len,args,argTypes}=>match wF P tm args.toList argTypes.toList with
  |[x]=>do
   ck (aLz P argTypes.toList x)
   let v<-lenV x
   ag6 x
   pure v
  |_=> .fail
 | .call {callee:=.builtin .append,args,argTypes}=>match wF P tm args.toList argTypes.toList,argTypes.toList with
  |[x,y],[t,t']=>match ag7 x y with
   |true=>asl P dst t t' x
   |false=>anz P dst t t' x y
  |_,_=> .fail
 | .call {callee:=.builtin .max,args,argTypes}=>match wF P tm args.toList argTypes.toList with
  |[.d (.int k x),.d (.int _ y)]=>pure (.d (.int k (bif decide (x<y) then y else x)))
  |_=> .fail
 | .call {callee:=.builtin .min,args,argTypes}=>match wF P tm args.toList argTypes.toList with
  |[.d (.int k x),.d (.int _ y)]=>pure (.d (.int k (bif decide (y<x) then y else x)))
  |_=> .fail
 |_=> .fail
mutual
def refs:V->List Nat
 | .own r _=>[r]
 | .ptr r _=>[r]
 | .EL r _ _ _=>[r]
 | .clo _ a b=>Td a++Td b
 | .agg cs=>Td cs
 | .JV vs=>Td vs
 | .NR v=>refs v
 |_=>[]
def Td:List V->List Nat
 |[]=>[]
 |v::vs=>refs v++Td vs
end
def ahN(m:Mem)(r:Nat):List Nat:=match get r m with
 |some (.box _ cs)=>Td cs
 |some (.AQ _ v)=>refs v
 |_=>[]
def Qd(k:Nat):Bool:=Nat.ble sG k && Nat.blt k (2 * sG)
def ac0:List Nat->List Nat->List Nat
 |acc,[]=>acc
 |acc,k::ks=>ac0 (bif mem? k acc then acc else acc++[k]) ks
def aB8(tm:mD)(m:Mem):List Nat:=
 let l0:=ac0 [] (tm.flatMap λx=>refs x.2)
 let l1:=ac0 l0 (l0.flatMap (ahN m))
 let l2:=ac0 l1 (l1.flatMap (ahN m))
 (ac0 l2 (m.map (·.1))).filter λk=> !(Qd k)
def names:List Nat:=[nat_lit 300000,nat_lit 300001,nat_lit 300002,nat_lit 300003,nat_lit 300004,nat_lit 300005,nat_lit 300006,nat_lit 300007,nat_lit 300008,nat_lit 300009,nat_lit 300010,nat_lit 300011,nat_lit 300012,nat_lit 300013,nat_lit 300014,nat_lit 300015,nat_lit 300016,nat_lit 300017,nat_lit 300018,nat_lit 300019,nat_lit 300020,nat_lit 300021,nat_lit 300022,nat_lit 300023,nat_lit 300024,nat_lit 300025,nat_lit 300026,nat_lit 300027,nat_lit 300028,nat_lit 300029,nat_lit 300030,nat_lit 300031,nat_lit 300032,nat_lit 300033,nat_lit 300034,nat_lit 300035,nat_lit 300036,nat_lit 300037,nat_lit 300038,nat_lit 300039,nat_lit 300040,nat_lit 300041,nat_lit 300042,nat_lit 300043,nat_lit 300044,nat_lit 300045,nat_lit 300046,nat_lit 300047,nat_lit 300048,nat_lit 300049,nat_lit 300050,nat_lit 300051,nat_lit 300052,nat_lit 300053,nat_lit 300054,nat_lit 300055,nat_lit 300056,nat_lit 300057,nat_lit 300058,nat_lit 300059,nat_lit 300060,nat_lit 300061,nat_lit 300062,nat_lit 300063]
def aB9:List Nat->List Nat->List (Nat×Nat)
 |n::ns,k::l=>(k,n)::aB9 ns l
 |_,_=>[]
def ren(L:List (Nat×Nat))(k:Nat):Nat:=match get k L with
 |some j=>j
 |none=>k
mutual
def UQ(L:List (Nat×Nat)):V->V
 | .d x=> .d x
 | .nil s=> .nil s
 | .own r ver=> .own (ren L r) ver
 | .ptr r off=> .ptr (ren L r) off
 | .EL r ver i off=> .EL (ren L r) ver i off
 | .zx row off=> .zx row off
 | .NR v=> .NR (UQ L v)
 | .clo f a b=> .clo f (ZA L a) (ZA L b)
 | .agg cs=> .agg (ZA L cs)
 | .JV vs=> .JV (ZA L vs)
 | .undef=> .undef
def ZA(L:List (Nat×Nat)):List V->List V
 |[]=>[]
 |v::vs=>UQ L v::ZA L vs
end
def ahO(L:List (Nat×Nat)):Cell->Cell
 | .box t cs=> .box t (ZA L cs)
 | .arr fz fl ver s rows=> .arr fz fl ver s rows
 | .dead=> .dead
 | .VG ver s rows=> .VG ver s rows
 | .AQ t v=> .AQ t (UQ L v)
 | .zy ver s rows i off=> .zy ver s rows i off
def VQ(L:List (Nat×Nat)):Mem->Mem
 |[]=>[]
 |(k,c)::m=>put (ren L k) (ahO L c) (VQ L m)
def ahP(L:List (Nat×Nat)):mD->mD
 |[]=>[]
 |(t,v)::tm=>(t,UQ L v)::ahP L tm
def nodupB:List Nat->Bool
 |[]=>true
 |k::l=> !(mem? k l) && nodupB l
def axd(m:Mem):Bool:=m.all λx=>match x.2 with| .zy ..=>false|_=>true
def ac1(L:List (Nat×Nat))(m:Mem):Bool:=nodupB ((m.map (·.1)).map (ren L)) &&((m.map (·.1)).all λk=>bif Qd k then Nat.beq (ren L k) k else true) && axd m
def anD(L:List (Nat×Nat))(S:St):St:=match ac1 L S.mem with
 |true=>⟨ahP L S.tm,VQ L S.mem⟩
 |false=>S
def canon(S:St):St:=match aB8 S.tm S.mem with
 |[]=>S
 |k::o=>anD (aB9 names (k::o)) S
mutual
def Yy(m:Mem):V->V
 | .d x=> .d x
 | .nil s=> .nil s
 | .own r ver=>match get r m with
  |some (.arr _ _ jM _ _)=>bif Nat.beq ver jM then .own r 0 else .undef
  |some (.VG jM _ _)=>bif Nat.beq ver jM then .own r 0 else .undef
  |_=> .undef
 | .ptr r off=>match get r m with
  |some (.box _ _)=> .ptr r off
  |some (.AQ _ _)=> .ptr r off
  |_=> .undef
 | .EL r ver i off=>match get r m with
  |some (.arr _ _ jM _ _)=>bif Nat.beq ver jM then .EL r 0 i off else .undef
  |some (.VG jM _ _)=>bif Nat.beq ver jM then .EL r 0 i off else .undef
  |_=> .undef
 | .zx row off=> .zx row off
 | .NR v=> .NR (Yy m v)
 | .clo f a b=> .clo f (abk m a) (abk m b)
 | .agg cs=> .agg (abk m cs)
 | .JV vs=> .JV (abk m vs)
 | .undef=> .undef
def abk(m:Mem):List V->List V
 |[]=>[]
 |v::vs=>Yy m v::abk m vs
end
def GN(m:Mem):Cell->Cell
 | .box t cs=> .box t (abk m cs)
 | .arr fz fl _ s rows=> .arr fz fl 0 s rows
 | .dead=> .dead
 | .VG _ s rows=> .VG 0 s rows
 | .AQ t v=> .AQ t (Yy m v)
 | .zy ver s rows i off=> .zy ver s rows i off
def abS(m:Mem)(tm:mD):List Nat->mD
 |[]=>[]
 |t::ts=>match get t tm with
  |some v=>(t,Yy m v)::abS m tm ts
  |none=>abS m tm ts
def abT:List Nat->List Nat->List Nat
 |[],l=>l
 |a::as,l=>bif mem? a l then abT as l else abT as (a::l)
def reach(m:Mem):Nat->List Nat->List Nat
 |0,l=>l
 |n+1,l=>reach m n (abT (l.flatMap (ahN m)) l)
def roots(tm:mD)(m:Mem):List Nat:=
 abT (tm.flatMap λx=>refs x.2) ((m.map (·.1)).filter Qd)
def pV(all:Mem)(R:List Nat):Mem->Mem
 |[]=>[]
 |(k,c)::m=>match c with
  | .dead=>pV all R m
  | .zy ..=>pV all R m
  |c=>bif mem? k R then(k,GN all c)::pV all R m else pV all R m
def closed(R:List Nat)(m:Mem):Bool:=m.all λx=>match x.2 with
 | .box _ cs=>(Td cs).all λr=>mem? r R
 | .AQ _ v=>(refs v).all λr=>mem? r R
 |_=>true
def aLA(m:Mem):Bool:=m.all λx=>match x.2 with
 | .arr _ _ ver _ _=>bif Qd x.1 then Nat.beq ver 0 else true
 | .dead=> !(Qd x.1)
 | .VG ..=> !(Qd x.1)
 | .zy ..=> !(Qd x.1)
 |_=>true
def sortedK:Mem->Bool
 |[]=>true
 |(k,_)::m=>match m with
  |[]=>true
  |(j,_)::_=>Nat.blt k j && sortedK m
def abU(ts:List Nat)(S:St):Option St:=
 let tm:=abS S.mem S.tm ts
 let R:=reach S.mem 3 (roots tm S.mem)
 let m:=pV S.mem R S.mem
 bif closed R m &&(aLA S.mem && sortedK S.mem) then some ⟨tm,m⟩ else none
def prune(ts:List Nat)(S:St):Option St:=match abU ts S with
 |some S'=>some (canon S')
 |none=>none
def GR(ops:Array Oper)(tm:mD)(o:Oper):Option (Bool×mD):=
 match o.guard with
 |none=>some (true,tm)
 |some (j,want)=>match ops[j]? with
  |some oj=>match oj.dst with
   |some d=>match aa7 d tm with
    | .d (.bool b)=>match b with
     |true=>some (want,put d (.d (.bool true)) tm)
     |false=>some (!want,put d (.d (.bool false)) tm)
    | .JV vs=>match vs with
     |[]=>some (false,put d (.JV []) tm)
     |_::_=>none
    |_=>none
   |none=>none
  |none=>none
def ZB(nt:Nat):Option Nat->Bool
 |some d=>Nat.blt d nt
 |none=>true
def Zp(P:Program)(fn:Nat):Nat:=match P.funcs[fn]? with|some g=>g.ntmps|none=>0
def afj(nt:Nat)(dst:Option Nat)(tm:mD):mD:=bif ZB nt dst then akT dst (.JV []) tm else aB6 dst tm
def Eo(X:Ctx)(K:lN)(fn:Nat)(ops:Array Oper)(i:Nat)(S:St):Option (St×Log):=
 match ops[i]? with
 |none=>none
 |some o=>match GR ops S.tm o with
  |none=>none
  |some (false,tm)=>some (⟨afj (Zp X.P fn) o.dst tm,S.mem⟩,.none)
  |some (true,tm)=>match(vop X K fn tm o).run S.mem .none with
   |none=>none
   |some (v,m,l)=>bif ZB (Zp X.P fn) o.dst then some (⟨akT o.dst v tm,m⟩,l) else none
def Pn(X:Ctx)(K:lN)(fn:Nat)(ops:Array Oper):List Nat->St->List (Nat×Log)->Option (St×List (Nat×Log))
 |[],S,L=>some (S,L)
 |i::is,S,L=>match Eo X K fn ops i S with
  |none=>none
  |some (S',l)=>Pn X K fn ops is S' ((i,l)::L)
def aCa(a b:List Nat):Bool:=a.all λk=> !(mem? k b)
def Log.apart(a b:Log):Bool:=aCa a.w b.r && aCa a.w b.w && aCa a.r b.w
def ordered(bef:Array Nat)(i j:Nat):Bool:=(bef.getD i 0).testBit j
def ZC(ops:Array Oper)(bef:Array Nat):List (Nat×Log)->Bool
 |[]=>true
 |(i,l)::L=>(L.all fun(j,l')=>ordered bef i j||(l.apart l' &&(match ops[i]?,ops[j]? with
   |some a,some b=>a.apart ops b
   |_,_=>false))) && ZC ops bef L
def ZE:Nat->List Oper->Bool
 |_,[]=>true
 |i,o::l=>(o.after.toList.all λe=> !(Region.binds .any e)||Nat.blt e.on i) && ZE (i+1) l
def backOk(ops:Array Oper):Bool:=ZE 0 ops.toList
def KZ(X:Ctx)(K:lN)(fn id:Nat)(ops:Array Oper)(draw:Bool)(S:St):Option (St×List (Nat×Log)):=Pn X K fn ops (List.range ops.size) S []
def region(X:Ctx)(K:lN)(fn id:Nat)(ops:Array Oper)(draw:Bool)(S:St):Option St:=
 match KZ X K fn id ops draw S with
 |none=>none
 |some (S',L)=>bif(match draw with|false=>true|true=>X.P.follows .mixedOrders &&(backOk ops && ZC ops (Region.before ops) L)) then prune (X.UO.keep fn id) S' else none
inductive Ex where
 |normal
 |exit (id:Nat)
 |ret
noncomputable def lim{α:Type}(f:Nat->Option α):Option α:=
 open Classical in if h:∃a n,f n=some a then some (Classical.choose h) else none
def iter(b:St->Option (Ex×St)):Nat->St->Option (Ex×St)
 |0,_=>none
 |n+1,S=>match b S with
  |some (.normal,S')=>iter b n S'
  |r=>r
noncomputable def W9(b:St->Option (Ex×St))(S:St):Option (Ex×St):=lim λn=>iter b n S
def abl(P:Program)(tm:mD)(c:Operand):Option Bool:=match ev P tm 0 c with
 | .d (.bool b)=>some b
 |_=>none
noncomputable def den(X:Ctx)(K:lN)(fn:Nat):Code->St->Option (Ex×St)
 | .skip,S=>some (.normal,S)
 | .region id ops draw,S=>match region X K fn id ops draw S with
  |some S'=>some (.normal,S')
  |none=>none
 | .seq a b,S=>match den X K fn a S with
  |some (.normal,S')=>den X K fn b S'
  |r=>r
 | .cond c a b,S=>match abl X.P S.tm c with
  |some true=>den X K fn a S
  |some false=>den X K fn b S
  |none=>none
 | .block id c,S=>match den X K fn c S with
  |some (.exit j,S')=>bif Nat.beq j id then some (.normal,S') else some (.exit j,S')
  |r=>r
 | .loop c,S=>W9 (den X K fn c) S
 | .exit id,S=>some (.exit id,S)
 | .ret,S=>some (.ret,S)
 |_,_=>none
def asx(A:Adv)(f i:Nat)(fl:Bool)(v:V):Acc V:=
 match JW A f i with
 |1=>(match v with
  | .d (.sl true s rows)=>do
   new i (.arr false fl 0 s rows)
   pure (.own i 0)
  | .d x=>pure (.d (roD x))
  |_=> .fail)
 |_=>pure v
def ac2(X:Ctx)(f:Nat):Nat->List TypeId->List V->Acc mD
 |_,_,[]=>pure []
 |i,ts,v::vs=>do
  let v<-asx X.UO f i ((fls X.P 8 (ts.headD 0)).headD false) v
  let r<-ac2 X f (i+1) ts.tail vs
  pure ((i,v)::r)
def uF:Nat->List Cell->Mem
 |_,[]=>[]
 |i,c::cs=>(sG+i,c)::uF (i+1) cs
def xB(n:Nat):List Nat:=(List.range n).map (sG+ ·)
def entry(X:Ctx)(f:Nat)(g:Func)(args:List V)(cells:List Cell):Acc mD:=do
 afi X 9999 cells 0 (xB cells.length)
 ac2 X f 0 g.params.toList args
def ahQ(T:TypeId)(v:V):Acc Row:=match v with
 | .ptr r off=>do
  match<-rd r with
  |some (.box T' cs)=>do
   ck (Nat.beq T T' && Nat.beq off 0)
   wr r .dead
   Qb cs
  |_=> .fail
 |_=> .fail
def anE(P:Program)(tm:mD)(r:ResultVar)(t:TypeId):Acc Row:=
 match r with
 | .tmp x=>match ahI P t with
  |some T=>ahQ T (aa7 x tm)
  |none=>match Sv P t,aa7 x tm with
   |true,.agg cs=>Qb cs
   |false,.agg _=> .fail
   |false,v=>Qb [v]
   |true,_=> .fail
 | .cell a T=>match aa7 a tm with
  | .ptr r 0=>do
   match<-rd r with
   |some (.box _ cs)=>do
    ck (Nat.beq T t && Nat.beq cs.length (oU P T) &&(BA P T &&(Sv P T||Nat.beq cs.length 1)) &&(ahI P t).isNone)
    Qb cs
   |_=> .fail
  |_=> .fail
def aaU(P:Program)(tm:mD):List ResultVar->List TypeId->Acc (List Row)
 |[],[]=>pure []
 |r::rs,t::ts=>do
  let row<-anE P tm r t
  let rows<-aaU P tm rs ts
  pure (row::rows)
 |_,_=> .fail
def leave(X:Ctx)(g:Func)(n:Nat)(S:St):Option (List Row×List Cell):=
 match(do
  let rows<-aaU X.P S.tm g.results.toList g.resultTypes.toList
  let cells<-Zz X.UO (xB n) (xB n)
  pure (rows,cells):Acc (List Row×List Cell)).run S.mem .none with
 |some (r,_,_)=>some r
 |none=>none
noncomputable def body(X:Ctx)(K:lN)(f:Nat)(args:List V)(cells:List Cell):Option (List Row×List Cell):=
 match X.P.funcs[f]? with
 |some g=>match g.body with
  |some c=>bif !(Nat.ble cells.length sG && Nat.ble args.length g.ntmps) then none else match(entry X f g args cells).run (uF 0 cells) .none with
   |some (tm,m,_)=>(match den X K f c ⟨tm,m⟩ with
    |some (.normal,S)=>leave X g cells.length S
    |some (.ret,S)=>leave X g cells.length S
    |_=>none)
   |none=>none
  |none=>none
 |none=>none
noncomputable def ZF(X:Ctx):Nat->lN
 |0,_,_,_=>none
 |n+1,f,args,cells=>match X.Zx f with
  |some p=>p args cells
  |none=>body X (ZF X n) f args cells
noncomputable def call(X:Ctx):lN:=λf args cells=>lim λn=>ZF X n f args cells
abbrev View:=Nat->Nat->Option Value
abbrev Heap:=Nat->Option Obj
def dA(w:World):Heap:=λb=>w.heap[b]?
mutual
def ro(h:View):D->Value->Prop
 | .int k n,v=>v=.int k n
 | .bool b,v=>v=.bool b
 | .str s,v=>v=.string ⟨⟨s⟩⟩
 | .Zo,v=>v=.nilFunc
 | .sl _ s rows,v=>∃a cap,v=.slice a rows.length cap/\rows.length<=cap/\(rows≠[]->∃b o,a=some ⟨b,o,none⟩/\oW h s rows b o)
def oW(h:View)(s:Nat):List Row->Nat->Nat->Prop
 |[],_,_=>True
 |r::rs,b,o=>r.length=s/\yX h r b o/\oW h s rs b (o+s)
def yX(h:View):Row->Nat->Nat->Prop
 |[],_,_=>True
 |x::r,b,o=>(∃v,h b o=some v/\ro h x v)/\yX h r b (o+1)
end
mutual
def ow(H:Heap)(h:View):D->Value->List Nat->Prop
 | .int k n,v,N=>v=.int k n/\N=[]
 | .bool b,v,N=>v=.bool b/\N=[]
 | .str s,v,N=>v=.string ⟨⟨s⟩⟩/\N=[]
 | .Zo,v,N=>v=.nilFunc/\N=[]
 | .sl own s rows,v,N=>match own with
  |false=>N=[]/\ro h (.sl false s rows) v
  |true=>(rows=[]/\v=.slice none 0 0/\N=[])\/
   ∃b cap cs t N',v=.slice (some ⟨b,0,none⟩) rows.length cap/\rows.length<=cap/\H b=some (.cells cs t (0,0))/\cs.size=cap * s/\
    gJ H h s rows cs.toList N'/\N=b::N'
def gJ(H:Heap)(h:View)(s:Nat):List Row->List Value->List Nat->Prop
 |[],_,N=>N=[]
 |r::rs,cs,N=>r.length=s/\∃N1 N2,N=N1++N2/\iW H h r cs N1/\gJ H h s rs (cs.drop s) N2
def iW(H:Heap)(h:View):Row->List Value->List Nat->Prop
 |[],_,N=>N=[]
 |x::r,cs,N=>∃v cs' N1 N2,cs=v::cs'/\N=N1++N2/\ow H h x v N1/\iW H h r cs' N2
end
def jg(h:View):Row->List Value->Prop
 |[],_=>True
 |x::r,cs=>∃v cs',cs=v::cs'/\ro h x v/\jg h r cs'
def iI(h:View)(s:Nat):List Row->List Value->Prop
 |[],_=>True
 |r::rs,cs=>r.length=s/\jg h r cs/\iI h s rs (cs.drop s)
def aa8(H:Heap)(h:View)(fl:Bool)(s:Nat)(rows:List Row)(v:Value)(N:List Nat):Prop:=
 (rows=[]/\v=.slice none 0 0/\N=[])\/
 ∃b cap cs t N',v=.slice (some ⟨b,0,none⟩) rows.length cap/\rows.length<=cap/\H b=some (.cells cs t (0,0))/\cs.size=cap * s/\
  (match fl with
   |true=>iI h s rows cs.toList/\N'=[]
   |false=>gJ H h s rows cs.toList N')/\N=b::N'
def agi(H:Heap)(h:View)(s:Nat)(rows:List Row)(v:Value)(N:List Nat):Prop:=
 (rows=[]/\v=.slice none 0 0/\N=[])\/
 ∃b o cap cs t,v=.slice (some ⟨b,o,none⟩) rows.length cap/\rows.length<=cap/\H b=some (.cells cs t (0,0))/\o+cap * s<=cs.size/\
  iI h s rows (cs.toList.drop o)/\N=[b]
def ZG(g:Value):Prop:=∃a n c,g=.slice a n c
def axe(g:Value):Prop:=∃b o,g=.pointer (some ⟨b,o,none⟩)
mutual
def aO(μ:Nat->Value)(m:Mem)(h:View):V->Value->Prop
 | .d x,g=>ro h x g
 | .nil _,g=>g=.slice none 0 0
 | .own r v0,g=>ZG g/\match get r m with
  |some (.arr _ _ ver _ _)=>v0<=ver/\(v0=ver->g=μ r)
  |some .dead=>True
  |some (.VG ver _ _)=>v0<=ver/\(v0=ver->g=μ r)
  |some (.zy ver _ _ _ _)=>v0<=ver/\(v0=ver->g=μ r)
  |_=>False
 | .ptr r off,g=>axe g/\match get r m with
  |some (.box _ _)=>∃b,μ r=.pointer (some ⟨b,0,none⟩)/\g=.pointer (some ⟨b,off,none⟩)
  |some (.AQ _ _)=>∃b,μ r=.pointer (some ⟨b,0,none⟩)/\g=.pointer (some ⟨b,off,none⟩)
  |some .dead=>True
  |_=>False
 | .EL r v0 i off,g=>axe g/\match get r m with
  |some (.arr _ _ ver s _)=>v0<=ver/\(v0=ver->∃b n cap,μ r=.slice (some ⟨b,0,none⟩) n cap/\g=.pointer (some ⟨b,i * s+off,none⟩))
  |some .dead=>True
  |some (.VG ver s _)=>v0<=ver/\(v0=ver->∃b o n cap,μ r=.slice (some ⟨b,o,none⟩) n cap/\g=.pointer (some ⟨b,o+(i * s+off),none⟩))
  |some (.zy ver s _ _ _)=>v0<=ver/\(v0=ver->∃b n cap,μ r=.slice (some ⟨b,0,none⟩) n cap/\g=.pointer (some ⟨b,i * s+off,none⟩))
  |_=>False
 | .zx row off,g=>∃b o,g=.pointer (some ⟨b,o+off,none⟩)/\yX h row b o
 | .NR v,g=>∃b x,g=.pointer (some ⟨b,0,none⟩)/\h b 0=some x/\aO μ m h v x
 | .clo f first caps,g=>∃a c,g=.func (.func f) a c/\dn μ m h first a.toList/\dn μ m h caps c.toList
 | .agg cs,g=>∃a,g=.agg a/\dn μ m h cs a.toList
 | .JV vs,g=>∃a,g=.tuple a/\dn μ m h vs a.toList
 | .undef,_=>True
def dn(μ:Nat->Value)(m:Mem)(h:View):List V->List Value->Prop
 |[],gs=>gs=[]
 |v::vs,gs=>∃g gs',gs=g::gs'/\aO μ m h v g/\dn μ m h vs gs'
end
def hole(H:Heap)(h:View)(s:Nat)(rows:List Row)(row:Row)(i off:Nat)(cs:List Value)(Na Nb:List Nat):Prop:=∀(H':Heap) (h':View) (x:D) (g:Value) (N:List Nat),
 (∀b o v,h b o=some v->h' b o=some v)->(∀b,b∈Na++Nb->H' b=H b)->ow H' h' x g N->gJ H' h' s (rows.set i (splice row off [x])) (cs.set (i * s+off) g) (Na++N++Nb)
def alB(μ:Nat->Value)(m:Mem)(r:Nat)(g:Value):Prop:=match get (Je r) m with
 |some (.arr _ _ 0 _ _)=>μ (Je r)=g
 |some (.zy 0 _ _ _ _)=>μ (Je r)=g
 |some _=>True
 |none=>False
def nY(μ:Nat->Value)(m:Mem)(H:Heap)(h:View)(r:Nat):Cell->List Nat->Prop
 | .box t cs,N=>∃b a,μ r=.pointer (some ⟨b,0,none⟩)/\H b=some (.cells a t (0,0))/\dn μ m h cs a.toList/\N=[b]
 | .arr fz fl _ s rows,N=>match fz with
  |true=>ro h (.sl true s rows) (μ r)/\N=[]
  |false=>aa8 H h fl s rows (μ r) N
 | .dead,N=>N=[]
 | .VG _ s rows,N=>agi H h s rows (μ r) N
 | .AQ _ v,N=>N=[]/\∃b x,μ r=.pointer (some ⟨b,0,none⟩)/\h b 0=some x/\aO μ m h v x
 | .zy _ s rows i off,N=>∃b cap cs t g row Na Nb,μ r=.slice (some ⟨b,0,none⟩) rows.length cap/\rows.length<=cap/\H b=some (.cells cs t (0,0))/\cs.size=cap * s/\cs.toList[i * s+off]? =some g/\
   rows[i]? =some row/\off<s/\hole H h s rows row i off cs.toList Na Nb/\alB μ m r g/\N=b::(Na++Nb)
open Classical in
noncomputable def view(w:World)(U X:Nat->Prop):View:=λb o=>if U b/\¬X b then w.cell? ⟨b,o,none⟩ else none
def excl(F:Nat->List Nat)(E:List Nat):Nat->Prop:=λb=>b∈E\/∃r,b∈F r
structure Keep(M:List Nat)(w w':World):Prop where
 os:w'.os=w.os
 tape:w'.tape=w.tape
 output:w'.output=w.output
 size:w.heap.size<=w'.heap.size
 block:∀b,b<w.heap.size->b ∉ M->w'.heap[b]? =w.heap[b]?
def Keep.refl(M:List Nat)(w:World):Keep M w w:=⟨rfl,rfl,rfl,Nat.le_refl _,λ_ _ _=>rfl⟩
def Keep.trans{M M':List Nat}{a b c:World}(h:Keep M a b)(k:Keep M' b c)(hM:∀x,x∈M'->x∈M\/a.heap.size<=x):Keep M a c:=
 ⟨k.os.trans h.os,k.tape.trans h.tape,k.output.trans h.output,Nat.le_trans h.size k.size,λi hi hm=>(k.block i (Nat.lt_of_lt_of_le hi h.size) (λhx=>(hM i hx).elim hm (λhl=>absurd hi (Nat.not_lt.2 hl)))).trans (h.block i hi hm)⟩
structure MInv(base:Nat)(U:Nat->Prop)(m:Mem)(w:World)(μ:Nat->Value)(F:Nat->List Nat)(E:List Nat)(out:List Nat):Prop where
 cell:∀r c,get r m=some c->r ∉ out->nY μ m (dA w) (view w U (excl F E)) r c (F r)
 dj:∀r r',r≠r'->∀b,b∈F r->b ∉ F r'
 djE:∀r b,b∈F r->b ∉ E
 nd:∀r,(F r).Nodup
 ndE:E.Nodup
 lt:∀b,excl F E b->b<w.heap.size/\base<=b/\U b
 up:∀b,w.heap.size<=b->U b
 bs:base<=w.heap.size
 none_:∀r,get r m=none->F r=[]
 out_:∀r,r∈out->F r=[]
def View.le(h h':View):Prop:=∀b o v,h b o=some v->h' b o=some v
def View.le_refl(h:View):h.le h:=λ_ _ _ x=>x
def View.le.trans'{a b c:View}(h:a.le b)(k:b.le c):a.le c:=λx y v q=>k x y v (h x y v q)
mutual
def La{h h':View}(hl:h.le h'):∀(x:D) (v:Value),ro h x v->ro h' x v
 | .int _ _,_,q=>by simpa[ro] using q
 | .bool _,_,q=>by simpa[ro] using q
 | .str _,_,q=>by simpa[ro] using q
 | .Zo,_,q=>by simpa[ro] using q
 | .sl _ s rows,v,q=>by simp only[ro] at q|-;obtain⟨a,cap,h1,h2,h3⟩:=q;refine⟨a,cap,h1,h2,λhn=> ?_⟩;obtain⟨b,o,h4,h5⟩:=h3 hn;exact⟨b,o,h4,afk hl s rows b o h5⟩
def afk{h h':View}(hl:h.le h')(s:Nat):∀(rows:List Row) (b o:Nat),oW h s rows b o->oW h' s rows b o
 |[],_,_,_=>by simp[oW]
 |r::rs,b,o,q=>by simp only[oW] at q|-;exact⟨q.1,Sz hl r b o q.2.1,afk hl s rs b (o+s) q.2.2⟩
def Sz{h h':View}(hl:h.le h'):∀(r:Row) (b o:Nat),yX h r b o->yX h' r b o
 |[],_,_,_=>by simp[yX]
 |x::r,b,o,q=>by simp only[yX] at q|-;obtain⟨⟨v,h1,h2⟩,h3⟩:=q;exact⟨⟨v,hl _ _ _ h1,La hl x v h2⟩,Sz hl r b (o+1) h3⟩
end
mutual
def ag9{H H':Heap}{h h':View}(hl:h.le h'):∀(x:D) (v:Value) (N:List Nat),(∀b,b∈N->H' b=H b)->ow H h x v N->ow H' h' x v N
 | .int _ _,_,_,_,q=>by simpa[ow] using q
 | .bool _,_,_,_,q=>by simpa[ow] using q
 | .str _,_,_,_,q=>by simpa[ow] using q
 | .Zo,_,_,_,q=>by simpa[ow] using q
 | .sl false s rows,v,N,_,q=>by simp only[ow] at q|-;exact⟨q.1,La hl _ _ q.2⟩
 | .sl true s rows,v,N,hb,q=>by
  simp only[ow] at q|-;rcases q with q|⟨b,cap,cs,t,N',h1,h2,h3,h4,h5,rfl⟩
  ·exact .inl q
  ·exact .inr ⟨b,cap,cs,t,N',h1,h2,by rw[hb b (by simp)];exact h3,h4,BD hl s rows cs.toList N' (λb' hb'=>hb b' (by simp[hb'])) h5,rfl⟩
def BD{H H':Heap}{h h':View}(hl:h.le h')(s:Nat):∀(rows:List Row) (cs:List Value) (N:List Nat),(∀b,b∈N->H' b=H b)->gJ H h s rows cs N->gJ H' h' s rows cs N
 |[],_,_,_,q=>by simpa[gJ] using q
 |r::rs,cs,N,hb,q=>by simp only[gJ] at q|-;obtain⟨h1,N1,N2,rfl,h2,h3⟩:=q;exact⟨h1,N1,N2,rfl,JX hl r cs N1 (λb hx=>hb b (by simp[hx])) h2,BD hl s rs _ N2 (λb hx=>hb b (by simp[hx])) h3⟩
def JX{H H':Heap}{h h':View}(hl:h.le h'):∀(r:Row) (cs:List Value) (N:List Nat),(∀b,b∈N->H' b=H b)->iW H h r cs N->iW H' h' r cs N
 |[],_,_,_,q=>by simpa[iW] using q
 |x::r,cs,N,hb,q=>by simp only[iW] at q|-;obtain⟨v,cs',N1,N2,rfl,rfl,h2,h3⟩:=q;exact⟨v,cs',N1,N2,rfl,rfl,ag9 hl x v N1 (λb hx=>hb b (by simp[hx])) h2,JX hl r cs' N2 (λb hx=>hb b (by simp[hx])) h3⟩
end
def ac3{h h':View}(hl:h.le h'):∀(r:Row) (cs:List Value),jg h r cs->jg h' r cs
 |[],_,_=>trivial
 |x::r,cs,⟨v,cs',h1,h2,h3⟩=>⟨v,cs',h1,La hl x v h2,ac3 hl r cs' h3⟩
def qp{h h':View}(hl:h.le h')(s:Nat):∀(rows:List Row) (cs:List Value),iI h s rows cs->iI h' s rows cs
 |[],_,_=>trivial
 |r::rs,cs,⟨h1,h2,h3⟩=>⟨h1,ac3 hl r cs h2,qp hl s rs _ h3⟩
def VH{H H':Heap}{h h':View}(hl:h.le h'){fl:Bool}{s:Nat}{rows:List Row}{v:Value}{N:List Nat}(hb:∀b,b∈N->H' b=H b)(q:aa8 H h fl s rows v N):aa8 H' h' fl s rows v N:=by
 rcases q with q|⟨b,cap,cs,t,N',h1,h2,h3,h4,h5,rfl⟩
 ·exact .inl q
 ·refine .inr ⟨b,cap,cs,t,N',h1,h2,by rw[hb b (by simp)];exact h3,h4, ?_,rfl⟩;cases fl with
  |true=>exact⟨qp hl s rows _ h5.1,h5.2⟩
  |false=>exact BD hl s rows _ N' (λb' hb'=>hb b' (by simp[hb'])) h5
def aeg{H H':Heap}{h h':View}(hl:h.le h'){s:Nat}{rows:List Row}{v:Value}{N:List Nat}(hb:∀b,b∈N->H' b=H b)(q:agi H h s rows v N):agi H' h' s rows v N:=by
 rcases q with q|⟨b,o,cap,cs,t,h1,h2,h3,h4,h5,rfl⟩
 ·exact .inl q
 ·exact .inr ⟨b,o,cap,cs,t,h1,h2,by rw[hb b (by simp)];exact h3,h4,qp hl s rows _ h5,rfl⟩
def yF(μ μ':Nat->Value)(r:Nat):Cell->Cell->Prop
 | .box t _,.box t' _=>t'=t/\μ' r=μ r
 | .arr _ fl ver s _,.arr _ fl' jM s' _=>ver<=jM/\fl'=fl/\(ver=jM->μ' r=μ r/\s'=s)
 |_,.dead=>True
 | .arr _ _ ver _ _,.VG jM _ _=>ver<jM
 | .VG ver s _,.VG jM s' _=>ver<=jM/\(ver=jM->μ' r=μ r/\s'=s)
 | .box _ _,.AQ _ _=>μ' r=μ r
 | .AQ _ _,.AQ _ _=>μ' r=μ r
 | .arr _ fl ver s _,.zy jM s' _ _ _=>fl=false/\ver<=jM/\(ver=jM->μ' r=μ r/\s'=s)
 | .zy ver s _ _ _,.arr _ fl jM s' _=>fl=false/\ver<=jM/\(ver=jM->μ' r=μ r/\s'=s)
 | .zy ver s _ _ _,.zy jM s' _ _ _=>ver<=jM/\(ver=jM->μ' r=μ r/\s'=s)
 | .zy ver _ _ _ _,.VG jM _ _=>ver<jM
 |_,_=>False
def Ep(μ:Nat->Value)(m:Mem)(μ':Nat->Value)(m':Mem):Prop:=∀r c,get r m=some c->∃c',get r m'=some c'/\yF μ μ' r c c'
def afl(μ:Nat->Value)(r:Nat)(c:Cell):yF μ μ r c c:=by cases c<;>simp[yF]
def sH(μ:Nat->Value)(m:Mem):Ep μ m μ m:=λr c h=>⟨c,h,afl μ r c⟩
def anF{μ1 μ2 μ3:Nat->Value}{r:Nat}{c c' c'':Cell}(h:yF μ1 μ2 r c c')(k:yF μ2 μ3 r c' c''):yF μ1 μ3 r c c'':=by
 have key:∀{a b d s s' s'':Nat},a<=b->(a=b->μ2 r=μ1 r/\s'=s)->b<=d->(b=d->μ3 r=μ2 r/\s''=s')->a<=d/\(a=d->μ3 r=μ1 r/\s''=s):=by intro a b d s s' s'' h1 h2 h3 h4;refine⟨ak,λe=> ?_⟩;have e1:a=b:=ak;have e2:b=d:=ak;exact⟨(h4 e2).1.trans (h2 e1).1,(h4 e2).2.trans (h2 e1).2⟩
 cases c<;>cases c'<;>cases c''<;>simp only[yF] at h k|-
 all_goals first
  |trivial
  |exact⟨k.1.trans h.1,k.2.trans h.2⟩
  |exact k.trans h
  |exact k.trans h.2
  |omega
  |exact key h.1 h.2 k.1 k.2
  |exact⟨(key h.1 h.2.2 k.1 k.2.2).1,k.2.1.trans h.2.1,(key h.1 h.2.2 k.1 k.2.2).2⟩
  |exact⟨h.2.1.symm.trans k.1,key h.1 h.2.2 k.2.1 k.2.2⟩
  |exact⟨(key h.1 h.2.2 k.2.1 k.2.2).1,(key h.1 h.2.2 k.2.1 k.2.2).2⟩
  |exact⟨h.1,key h.2.1 h.2.2 k.1 k.2⟩
  |exact⟨k.1,key h.1 h.2 k.2.1 k.2.2⟩
  |exact⟨k.2.1.trans h.1,key h.2.1 h.2.2 k.1 k.2.2⟩
  |exact⟨(key h.2.1 h.2.2 k.2.1 k.2.2).1,k.1.trans h.1.symm,(key h.2.1 h.2.2 k.2.1 k.2.2).2⟩
  |exact key h.2.1 h.2.2 k.2.1 k.2.2
def wG{μ1 μ2 μ3:Nat->Value}{m1 m2 m3:Mem}(h:Ep μ1 m1 μ2 m2)(k:Ep μ2 m2 μ3 m3):Ep μ1 m1 μ3 m3:=by intro r c hc;obtain⟨c',h1,h2⟩:=h r c hc;obtain⟨c'',k1,k2⟩:=k r c' h1;exact⟨c'',k1,anF h2 k2⟩
mutual
def AZ{μ μ':Nat->Value}{m m':Mem}{h h':View}(hm:Ep μ m μ' m')(hl:h.le h'):∀(v:V) (g:Value),aO μ m h v g->aO μ' m' h' v g
 | .d x,g,q=>by simp only[aO] at q|-;exact La hl x g q
 | .nil _,_,q=>by simpa[aO] using q
 | .own r v0,g,q=>by
  simp only[aO] at q|-;refine⟨q.1, ?_⟩;replace q:=q.2;cases hc:get r m with
  |none=>simp[hc] at q
  |some c=>
   obtain⟨c',h1,h2⟩:=hm r c hc;rw[h1];rw[hc] at q;cases c<;>cases c'<;>simp only[yF] at h2<;>first
    |trivial
    |exact q.elim
    |exact⟨ak,λe=>by omega⟩
    |exact⟨ak,λe=>by rw[(h2.2 ak).1];exact q.2 ak⟩
    |exact⟨ak,λe=>by rw[(h2.2.2 ak).1];exact q.2 ak⟩
 | .ptr r off,g,q=>by
  simp only[aO] at q|-;refine⟨q.1, ?_⟩;replace q:=q.2;cases hc:get r m with
  |none=>simp[hc] at q
  |some c=>obtain⟨c',h1,h2⟩:=hm r c hc;rw[h1];cases c<;>cases c'<;>simp_all [yF]
 | .EL r v0 i off,g,q=>by
  simp only[aO] at q|-;refine⟨q.1, ?_⟩;replace q:=q.2;cases hc:get r m with
  |none=>simp[hc] at q
  |some c=>
   obtain⟨c',h1,h2⟩:=hm r c hc;rw[h1];rw[hc] at q;cases c<;>cases c'<;>simp only[yF] at h2<;>first
    |trivial
    |exact q.elim
    |exact⟨ak,λe=>by omega⟩
    |exact⟨ak,λe=>by rw[(h2.2 ak).1,(h2.2 ak).2];exact q.2 ak⟩
    |exact⟨ak,λe=>by rw[(h2.2.2 ak).1,(h2.2.2 ak).2];exact q.2 ak⟩
 | .zx row off,g,q=>by simp only[aO] at q|-;obtain⟨b,o,h1,h2⟩:=q;exact⟨b,o,h1,Sz hl row b o h2⟩
 | .NR v,g,q=>by simp only[aO] at q|-;obtain⟨b,x,h1,h2,h3⟩:=q;exact⟨b,x,h1,hl _ _ _ h2,AZ hm hl v x h3⟩
 | .clo f first caps,g,q=>by simp only[aO] at q|-;obtain⟨a,c,h1,h2,h3⟩:=q;exact⟨a,c,h1,sJ hm hl first _ h2,sJ hm hl caps _ h3⟩
 | .agg cs,g,q=>by simp only[aO] at q|-;obtain⟨a,h1,h2⟩:=q;exact⟨a,h1,sJ hm hl cs _ h2⟩
 | .JV vs,g,q=>by simp only[aO] at q|-;obtain⟨a,h1,h2⟩:=q;exact⟨a,h1,sJ hm hl vs _ h2⟩
 | .undef,_,_=>by simp[aO]
def sJ{μ μ':Nat->Value}{m m':Mem}{h h':View}(hm:Ep μ m μ' m')(hl:h.le h'):∀(vs:List V) (gs:List Value),dn μ m h vs gs->dn μ' m' h' vs gs
 |[],_,q=>by simpa[dn] using q
 |v::vs,gs,q=>by simp only[dn] at q|-;obtain⟨g,gs',h1,h2,h3⟩:=q;exact⟨g,gs',h1,AZ hm hl v g h2,sJ hm hl vs gs' h3⟩
end
def alC{H H':Heap}{h h':View}(hl:h.le h'){s:Nat}{rows:List Row}{row:Row}{i off:Nat}{cs:List Value}{Na Nb:List Nat}(hb:∀b,b∈Na++Nb->H' b=H b)(q:hole H h s rows row i off cs Na Nb):hole H' h' s rows row i off cs Na Nb:=
 λH'' h'' x g N h1 h2 h3=>q H'' h'' x g N (hl.trans' h1) (λb hb'=>(h2 b hb').trans (hb b hb')) h3
def asy{μ μ':Nat->Value}{m m':Mem}(hm:Ep μ m μ' m'){r:Nat}{g:Value}(q:alB μ m r g):alB μ' m' r g:=by
 unfold alB at q|-;cases hc:get (Je r) m with
 |none=>simp[hc] at q
 |some c=>
  obtain⟨c',h1,h2⟩:=hm _ c hc;rw[hc] at q;rw[h1];have key:∀jM,jM<=0->(match jM with|0=>μ (Je r)=g|_=>True)->μ (Je r)=g:=λjM e=>by have e:jM=0:=ak;subst e;exact id
  cases c' with
  |arr fz fl ver s rows=>
   cases ver with
   |succ n=>trivial
   |zero=>
    cases c<;>simp only[yF] at h2
    ·obtain rfl:=Nat.le_zero.1 h2.1;exact(h2.2.2 rfl).1.trans q
    ·obtain rfl:=Nat.le_zero.1 h2.2.1;exact(h2.2.2 rfl).1.trans q
  |zy ver s rows i off=>
   cases ver with
   |succ n=>trivial
   |zero=>
    cases c<;>simp only[yF] at h2
    ·obtain rfl:=Nat.le_zero.1 h2.2.1;exact(h2.2.2 rfl).1.trans q
    ·obtain rfl:=Nat.le_zero.1 h2.1;exact(h2.2 rfl).1.trans q
  |_=>trivial
def Lc{μ μ':Nat->Value}{m m':Mem}{H H':Heap}{h h':View}(hm:Ep μ m μ' m')(hl:h.le h'){r:Nat}(hr:μ' r=μ r){c:Cell}{N:List Nat}(hb:∀b,b∈N->H' b=H b)
  (q:nY μ m H h r c N):nY μ' m' H' h' r c N:=by
 cases c with
 |box t cs=>obtain⟨b,a,h1,h2,h3,rfl⟩:=q;exact⟨b,a,by rw[hr];exact h1,by rw[hb b (by simp)];exact h2,sJ hm hl cs _ h3,rfl⟩
 |arr fz fl ver s rows=>
  cases fz with
  |true=>exact⟨by rw[hr];exact La hl _ _ q.1,q.2⟩
  |false=>simp only[nY] at q|-;rw[hr];exact VH hl hb q
 |dead=>exact q
 |VG ver s rows=>simp only[nY] at q|-;rw[hr];exact aeg hl hb q
 |AQ t v=>obtain⟨h1,b,x,h2,h3,h4⟩:=q;exact⟨h1,b,x,by rw[hr];exact h2,hl _ _ _ h3,AZ hm hl v x h4⟩
 |zy ver s rows i off=>obtain⟨b,cap,cs,t,g,row,Na,Nb,h1,h2,h3,h4,h5,h6,h7,h8,h9,rfl⟩:=q;exact⟨b,cap,cs,t,g,row,Na,Nb,by rw[hr];exact h1,h2,by rw[hb b (by simp)];exact h3,h4,h5,h6,h7,alC hl (λb' hb'=>hb b' (by simp only[List.mem_cons];exact .inr hb')) h8,asy hm h9,rfl⟩
def uV{k j:Nat}(h:k≠j):Nat.beq k j=false:=by
 cases hb:Nat.beq k j with
 |false=>rfl
 |true=>exact absurd (yV hb) h
def gV{α:Type}(k:Nat)(x:α):∀l:List (Nat×α),get k (put k x l)=some x
 |[]=>by simp[put,get]
 |(j,y)::l=>by
  simp only[put]
  by_cases h:k=j
  ·subst h;simp[get]
  ·have hb:Nat.beq k j=false:=uV h;rw[hb];cases hl:Nat.blt k j with
   |true=>simp[get]
   |false=>simp[get,hb,gV k x l]
def jX{α:Type}{k k':Nat}(hk:k≠k')(x:α):∀l:List (Nat×α),get k (put k' x l)=get k l
 |[]=>by have hb:Nat.beq k k'=false:=uV hk;simp[put,get,hb]
 |(j,y)::l=>by
  have hb:Nat.beq k k'=false:=uV hk;simp only[put]
  by_cases h:k'=j
  ·subst h;simp[get,hb]
  ·have hb':Nat.beq k' j=false:=uV h;rw[hb'];cases hl:Nat.blt k' j with
   |true=>simp[get,hb]
   |false=>simp[get,jX hk x l]
def Qe{α:Type}(k:Nat):∀l:List (Nat×α),get k (del k l)=none
 |[]=>rfl
 |(j,y)::l=>by
  simp only[del];cases hb:Nat.beq k j with
  |true=>simpa using Qe k l
  |false=>simp[get,hb,Qe k l]
def Tf{α:Type}{k k':Nat}(hk:k≠k'):∀l:List (Nat×α),get k (del k' l)=get k l
 |[]=>rfl
 |(j,y)::l=>by
  simp only[del];cases hb:Nat.beq k' j with
  |true=>have:k'=j:=yV hb;subst this;have hb:Nat.beq k k'=false:=uV hk;simp[get,hb,Tf hk l]
  |false=>simp[get,Tf hk l]
def get_put{α:Type}(k k':Nat)(x:α)(l:List (Nat×α)):get k (put k' x l)=if k=k' then some x else get k l:=by
 by_cases h:k=k'
 ·subst h;rw[gV,if_pos rfl]
 ·rw[jX h,if_neg h]
def aCb{α:Type}(k k':Nat)(l:List (Nat×α)):get k (del k' l)=if k=k' then none else get k l:=by
 by_cases h:k=k'
 ·subst h;rw[Qe,if_pos rfl]
 ·rw[Tf h,if_neg h]
def Acc.run_bind{α β:Type}(a:Acc α)(f:α->Acc β):∀(m:Mem) (l:Log),(a.bind f).run m l=match a.run m l with|some (x,m',l')=>(f x).run m' l'|none=>none:=by
 induction a with
 |ret a=>intro m l;rfl
 |fail=>intro m l;rfl
 |get k c ih=>intro m l;simp only[Acc.bind,Acc.run];exact ih _ _ _
 |set k x c ih=>intro m l;simp only[Acc.bind,Acc.run];exact ih _ _
 |opt o c ih=>intro m l;simp only[Acc.bind,Acc.run];cases o with|none=>rfl|some b=>exact ih b _ _
 |guard b c ih=>intro m l;simp only[Acc.bind,Acc.run];cases b with|true=>exact ih _ _|false=>rfl
def run_bind{α β:Type}(a:Acc α)(f:α->Acc β)(m:Mem)(l:Log):(a>>=f).run m l=match a.run m l with|some (x,m',l')=>(f x).run m' l'|none=>none:=Acc.run_bind a f m l
def aj{α β:Type}{a:Acc α}{f:α->Acc β}{m:Mem}{l:Log}{y:β}{m':Mem}{l':Log}(h:(a>>=f).run m l=some (y,m',l')):
  ∃x m1 l1,a.run m l=some (x,m1,l1)/\(f x).run m1 l1=some (y,m',l'):=by
 rw[run_bind] at h;cases ha:a.run m l with
 |none=>simp[ha] at h
 |some x=>obtain⟨x,m1,l1⟩:=x;rw[ha] at h;exact⟨x,m1,l1,rfl,h⟩
def run_pure{α:Type}(a:α)(m:Mem)(l:Log):(Pure.pure a:Acc α).run m l=some (a,m,l):=rfl
def uG(k:Nat)(m:Mem)(l:Log):(rd k).run m l=some (get k m,m,l.rd k):=rfl
def DK(k:Nat)(c:Cell)(m:Mem)(l:Log):(wr k c).run m l=some ((),put k c m,l.wr k):=rfl
def fJ{b:Bool}{m:Mem}{l:Log}{x:Unit}{m':Mem}{l':Log}(h:(ck b).run m l=some (x,m',l')):b=true/\m'=m/\l'=l:=by cases b<;>simp[ck,Acc.run] at h;exact⟨rfl,h.1.symm,h.2.symm⟩
def jc{β:Type}{o:Option β}{m:Mem}{l:Log}{x:β}{m':Mem}{l':Log}(h:(op' o).run m l=some (x,m',l')):o=some x/\m'=m/\l'=l:=by cases o<;>simp[op',Acc.run] at h;obtain⟨rfl,rfl,rfl⟩:=h;exact⟨rfl,rfl,rfl⟩
def ahR{α:Type}{m:Mem}{l:Log}{r:α×Mem×Log}(h:(Acc.fail:Acc α).run m l=some r):False:=by simp[Acc.run] at h
def aF{α:Type}{m:Mem}{l:Log}{r:α×Mem×Log}{C:Prop}(h:(Acc.fail:Acc α).run m l=some r):C:=(ahR h).elim
def bck{β:Type}{b:Bool}{f:Unit->Acc β}{m:Mem}{l:Log}{r:β×Mem×Log}(h:(ck b>>=f).run m l=some r):b=true/\(f ()).run m l=some r:=by obtain⟨_,_,_,h1,h2⟩:=aj h;obtain⟨h0,rfl,rfl⟩:=fJ h1;exact⟨h0,h2⟩
def bop{α β:Type}{o:Option α}{f:α->Acc β}{m:Mem}{l:Log}{r:β×Mem×Log}(h:(op' o>>=f).run m l=some r):∃x,o=some x/\(f x).run m l=some r:=by obtain⟨x,_,_,h1,h2⟩:=aj h;obtain⟨h0,rfl,rfl⟩:=jc h1;exact⟨x,h0,h2⟩
def Zw{α:Type}{a b:α}{m m':Mem}{l l':Log}(h:(Pure.pure a:Acc α).run m l=some (b,m',l')):a=b/\m=m'/\l=l':=by rw[run_pure] at h;cases h;exact⟨rfl,rfl,rfl⟩
structure ahS(X:Ctx)(h:View):Prop where
 row:∀g row,X.glob g=some row->yX h row g 0
 int:∀g,X.aLw g=true->∃n,h g 0=some (.int .i64 n)
def SA{X:Ctx}{h h':View}(hl:h.le h')(q:ahS X h):ahS X h':=⟨λg row hg=>Sz hl row g 0 (q.row g row hg),λg hg=>by obtain⟨n,hn⟩:=q.int g hg;exact⟨n,hl _ _ _ hn⟩⟩
def ahT{h:View}:∀(row:Row) (b o:Nat),yX h row b o->oW h 1 (row.map λx=>[x]) b o
 |[],_,_,_=>trivial
 |x::r,b,o,⟨h1,h2⟩=>⟨rfl,⟨h1,trivial⟩,ahT r b (o+1) h2⟩
def RZ(F:Nat->List Nat)(r:Nat)(N:List Nat):Nat->List Nat:=λk=>if k=r then N else F k
def upM(μ:Nat->Value)(r:Nat)(g:Value):Nat->Value:=λk=>if k=r then g else μ k
@[simp] theorem uJ(F:Nat->List Nat)(r:Nat)(N:List Nat):RZ F r N r=N:=by simp[RZ]
def iJ{F:Nat->List Nat}{r k:Nat}(N:List Nat)(h:k≠r):RZ F r N k=F k:=by simp[RZ,h]
@[simp] theorem BF(μ:Nat->Value)(r:Nat)(g:Value):upM μ r g r=g:=by simp[upM]
def Ld{μ:Nat->Value}{r k:Nat}(g:Value)(h:k≠r):upM μ r g k=μ k:=by simp[upM,h]
def full(w:World):View:=λb o=>w.cell? ⟨b,o,none⟩
def vI(w:World)(U X:Nat->Prop):(view w U X).le (full w):=by
 intro b o v h;unfold view at h;split at h
 ·exact h
 ·cases h
def Vd{w:World}{U U' X X':Nat->Prop}(hU:∀b,U b->U' b)(h:∀b,X' b->X b):(view w U X).le (view w U' X'):=by
 intro b o v hv;unfold view at hv|-;split at hv
 ·rename_i hc;rw[if_pos ⟨hU b hc.1,λhx=>hc.2 (h b hx)⟩];exact hv
 ·cases hv
structure GS where
 μ:Nat->Value
 F:Nat->List Nat
 E:List Nat
 out:List Nat
section
variable (base:Nat) (U:Nat->Prop) (w:World)
def Gi(m:Mem)(G:GS):Prop:=MInv base U m w G.μ G.F G.E G.out
noncomputable def Gh(G:GS):View:=view w U (excl G.F G.E)
end
structure Zq(m:Mem)(G:GS)(m':Mem)(G':GS):Prop where
 mem:Ep G.μ m G'.μ m'
 ex:∀b,excl G'.F G'.E b->excl G.F G.E b
def Zq.refl(m:Mem)(G:GS):Zq m G m G:=⟨sH _ _,λ_ h=>h⟩
def Zq.trans{m1 m2 m3:Mem}{G1 G2 G3:GS}(h:Zq m1 G1 m2 G2)(k:Zq m2 G2 m3 G3):Zq m1 G1 m3 G3:=
 ⟨wG h.mem k.mem,λb hb=>h.ex b (k.ex b hb)⟩
def Zq.view{U:Nat->Prop}{w:World}{m m':Mem}{G G':GS}(h:Zq m G m' G'):(Gh U w G).le (Gh U w G'):=Vd (λ_ x=>x) h.ex
def Zq.aO{U:Nat->Prop}{w:World}{m m':Mem}{G G':GS}(h:Zq m G m' G'){v:V}{g:Value}(q:aO G.μ m (Gh U w G) v g):aO G'.μ m' (Gh U w G') v g:=
 AZ h.mem h.view v g q
def Zq.dn{U:Nat->Prop}{w:World}{m m':Mem}{G G':GS}(h:Zq m G m' G'){v:List V}{g:List Value}(q:dn G.μ m (Gh U w G) v g):dn G'.μ m' (Gh U w G') v g:=
 sJ h.mem h.view v g q
section
variable {base:Nat} {U:Nat->Prop} {w:World} {m:Mem} {G:GS}
def Gi.set(hg:Gi base U w m G)(r:Nat)(c':Cell)(μ':Nat->Value)(N E' out':List Nat)
  (hs:(N++E').Nodup) (hsub:∀b,b∈N++E'->b∈G.F r\/b∈G.E) (hle:Ep G.μ m μ' (put r c' m)) (hμ:∀k,k≠r->μ' k=G.μ k)
  (ho:∀k,k≠r->(k∈out'↔k∈G.out)) (hr:r∈out'->N=[])
  (hc:(view w U (excl G.F G.E)).le (view w U (excl (RZ G.F r N) E'))->r ∉ out'->nY μ' (put r c' m) (dA w) (view w U (excl (RZ G.F r N) E')) r c' N):
  Gi base U w (put r c' m) ⟨μ',RZ G.F r N,E',out'⟩/\Zq m G (put r c' m) ⟨μ',RZ G.F r N,E',out'⟩:=by
 have hex:∀b,excl (RZ G.F r N) E' b->excl G.F G.E b:=by
  rintro b (hb|⟨k,hb⟩)
  ·rcases hsub b (by simp[hb]) with h|h
   ·exact .inr ⟨r,h⟩
   ·exact .inl h
  ·by_cases hk:k=r
   ·subst hk;rw[uJ] at hb;rcases hsub b (by simp[hb]) with h|h
    ·exact .inr ⟨_,h⟩
    ·exact .inl h
   ·rw[iJ N hk] at hb;exact .inr ⟨k,hb⟩
 have hv:(view w U (excl G.F G.E)).le (view w U (excl (RZ G.F r N) E')):=Vd (λ_ x=>x) hex;have hN:=List.nodup_append.1 hs;refine⟨show MInv base U (put r c' m) w μ' (RZ G.F r N) E' out' from ?_,⟨hle,hex⟩⟩;refine⟨?_, ?_, ?_, ?_,hN.2.1,λb hb=>hg.lt b (hex b hb),hg.up,hg.bs, ?_, ?_⟩
 ·intro k c hk hko;rw[get_put] at hk
  by_cases e:k=r
  ·subst e;rw[if_pos rfl] at hk;cases hk;rw[uJ];exact hc hv hko
  ·rw[if_neg e] at hk;rw[iJ N e];exact Lc hle hv (hμ k e) (λb _=>rfl) (hg.cell k c hk (λh=>hko ((ho k e).2 h)))
 ·intro k k' hne b hb hb'
  by_cases e:k=r
  ·subst e;rw[uJ] at hb;rw[iJ N (Ne.symm hne)] at hb';rcases hsub b (by simp[hb]) with h|h
   ·exact hg.dj _ _ hne b h hb'
   ·exact hg.djE _ b hb' h
  ·rw[iJ N e] at hb
   by_cases e':k'=r
   ·subst e';rw[uJ] at hb';rcases hsub b (by simp[hb']) with h|h
    ·exact hg.dj _ _ hne b hb h
    ·exact hg.djE _ b hb h
   ·rw[iJ N e'] at hb';exact hg.dj _ _ hne b hb hb'
 ·intro k b hb hE
  by_cases e:k=r
  ·subst e;rw[uJ] at hb;exact hN.2.2 b hb b hE rfl
  ·rw[iJ N e] at hb;rcases hsub b (by simp[hE]) with h|h
   ·exact hg.dj _ _ e b hb h
   ·exact hg.djE _ b hb h
 ·intro k
  by_cases e:k=r
  ·subst e;rw[uJ];exact hN.1
  ·rw[iJ N e];exact hg.nd k
 ·intro k hk;rw[get_put] at hk
  by_cases e:k=r
  ·rw[if_pos e] at hk;cases hk
  ·rw[if_neg e] at hk;rw[iJ N e];exact hg.none_ k hk
 ·intro k hk
  by_cases e:k=r
  ·subst e;rw[uJ];exact hr hk
  ·rw[iJ N e];exact hg.out_ k ((ho k e).1 hk)
def Gi.less(hg:Gi base U w m G)(E':List Nat)(hn:E'.Nodup)(hs:∀b,b∈E'->b∈G.E):
  Gi base U w m {G with E:=E'}/\Zq m G m {G with E:=E'}:=by
 have hex:∀b,excl G.F E' b->excl G.F G.E b:=by
  rintro b (hb|hb)
  ·exact .inl (hs b hb)
  ·exact .inr hb
 have hv:(view w U (excl G.F G.E)).le (view w U (excl G.F E')):=Vd (λ_ x=>x) hex;refine⟨⟨?_,hg.dj,λr b hb hE=>hg.djE r b hb (hs b hE),hg.nd,hn,λb hb=>hg.lt b (hex b hb),hg.up,hg.bs,hg.none_,hg.out_⟩,⟨sH _ _,hex⟩⟩;intro r c hc ho;exact Lc (sH _ _) hv rfl (λ_ _=>rfl) (hg.cell r c hc ho)
def EM{μ μ':Nat->Value}{r:Nat}{c':Cell}(hμ:∀k,k≠r->μ' k=μ k)(h:∀c,get r m=some c->yF μ μ' r c c'):Ep μ m μ' (put r c' m):=by
 intro k c hk
 by_cases e:k=r
 ·subst e;exact⟨c',gV _ _ _,h c hk⟩
 ·refine⟨c,by rw[jX e];exact hk, ?_⟩;cases c<;>simp[yF,hμ k e]
def full_cell{b:Nat}{cs:Array Value}{t:TypeId}{fr:Nat×Nat}(h:dA w b=some (.cells cs t fr))(o:Nat):full w b o=cs.toList[o]? :=by simp only[full,World.cell?];unfold dA at h;simp[h]
end
def abV{h:View}{b:Nat}:∀(r:Row) (o:Nat) (cs:List Value),(∀j v,cs[j]? =some v->h b (o+j)=some v)->jg h r cs->yX h r b o
 |[],_,_,_,_=>by simp[yX]
 |x::r,o,cs,hc,⟨v,cs',e,h1,h2⟩=>by subst e;simp only[yX];refine⟨⟨v,hc 0 v rfl,h1⟩,abV r (o+1) cs' (λj u hj=> ?_) h2⟩;have:=hc (j+1) u (by simpa using hj);rw[show o+1+j=o+(j+1) from by omega];exact this
def Xa{h:View}{b s:Nat}:∀(rs:List Row) (o:Nat) (cs:List Value),(∀j v,cs[j]? =some v->h b (o+j)=some v)->iI h s rs cs->oW h s rs b o
 |[],_,_,_,_=>by simp[oW]
 |r::rs,o,cs,hc,⟨h1,h2,h3⟩=>by simp only[oW];refine⟨h1,abV r o cs hc h2,Xa rs (o+s) (cs.drop s) (λj u hj=> ?_) h3⟩;rw[List.getElem?_drop] at hj;rw[show o+s+j=o+(s+j) from by omega];exact hc _ _ hj
def abW(h:View)(H:Heap)(N:List Nat):Prop:=∀b,b∈N->∀cs t fr,H b=some (.cells cs t fr)->∀(o:Nat) v,cs.toList[o]? =some v->h b o=some v
def abW.sub{h:View}{H:Heap}{N N':List Nat}(q:abW h H N)(hs:∀b,b∈N'->b∈N):abW h H N':=λb hb=>q b (hs b hb)
mutual
def aG3{H:Heap}{h h':View}(hl:h.le h'):∀(x:D) (v:Value) (N:List Nat),abW h' H N->ow H h x v N->ro h' x v
 | .int _ _,_,_,_,q=>by simp only[ow] at q;simpa[ro] using q.1
 | .bool _,_,_,_,q=>by simp only[ow] at q;simpa[ro] using q.1
 | .str _,_,_,_,q=>by simp only[ow] at q;simpa[ro] using q.1
 | .Zo,_,_,_,q=>by simp only[ow] at q;simpa[ro] using q.1
 | .sl false s rows,v,N,_,q=>by simp only[ow] at q;have:=La hl _ _ q.2;simpa[ro] using this
 | .sl true s rows,v,N,hs,q=>by
  simp only[ow] at q;simp only[ro];rcases q with⟨rfl,rfl,rfl⟩|⟨b,cap,cs,t,N',h1,h2,h3,h4,h5,rfl⟩
  ·exact⟨none,0,by simp,by simp,λe=>absurd rfl e⟩
  ·refine⟨_,cap,h1,h2,λ_=>⟨b,0,rfl, ?_⟩⟩;refine Xa rows 0 cs.toList (λj v hj=>by rw[Nat.zero_add];exact hs b (by simp) cs t _ h3 j v hj) ?_;exact JY hl s rows cs.toList N' (hs.sub (by simp;exact λ_ hb=> .inr hb)) h5
def JY{H:Heap}{h h':View}(hl:h.le h')(s:Nat):∀(rows:List Row) (cs:List Value) (N:List Nat),abW h' H N->gJ H h s rows cs N->iI h' s rows cs
 |[],_,_,_,_=>by simp[iI]
 |r::rs,cs,N,hs,q=>by simp only[gJ] at q;obtain⟨h1,N1,N2,rfl,h2,h3⟩:=q;simp only[iI];exact⟨h1,abX hl r cs N1 (hs.sub (by simp;exact λ_ hb=> .inl hb)) h2,JY hl s rs _ N2 (hs.sub (by simp;exact λ_ hb=> .inr hb)) h3⟩
def abX{H:Heap}{h h':View}(hl:h.le h'):∀(r:Row) (cs:List Value) (N:List Nat),abW h' H N->iW H h r cs N->jg h' r cs
 |[],_,_,_,_=>by simp[jg]
 |x::r,cs,N,hs,q=>by simp only[iW] at q;obtain⟨v,cs',N1,N2,rfl,rfl,h1,h2⟩:=q;simp only[jg];exact⟨v,cs',rfl,aG3 hl x v N1 (hs.sub (by simp;exact λ_ hb=> .inl hb)) h1,abX hl r cs' N2 (hs.sub (by simp;exact λ_ hb=> .inr hb)) h2⟩
end
def anG{H:Heap}{h h':View}(hl:h.le h'){fl:Bool}{s:Nat}{rows:List Row}{v:Value}{N:List Nat}(hs:abW h' H N)(q:aa8 H h fl s rows v N)(o:Bool):ro h' (.sl o s rows) v:=by
 simp only[ro];rcases q with⟨rfl,rfl,rfl⟩|⟨b,cap,cs,t,N',h1,h2,h3,h4,h5,rfl⟩
 ·exact⟨none,0,by simp,by simp,λe=>absurd rfl e⟩
 ·refine⟨_,cap,h1,h2,λ_=>⟨b,0,rfl, ?_⟩⟩;refine Xa rows 0 cs.toList (λj v hj=>by rw[Nat.zero_add];exact hs b (by simp) cs t _ h3 j v hj) ?_;cases fl with
  |true=>exact qp hl s rows _ h5.1
  |false=>exact JY hl s rows cs.toList N' (hs.sub (by simp;exact λ_ hb=> .inr hb)) h5
def ZH{h:View}{o o':Bool}{s:Nat}{rows:List Row}{v:Value}(q:ro h (.sl o s rows) v):ro h (.sl o' s rows) v:=by simpa[ro] using q
def alD{w:World}{N:List Nat}:abW (full w) (dA w) N:=by intro b _ cs t fr hb o v hv;rw[full_cell hb,hv]
def Le{w:World}{U X:Nat->Prop}{N:List Nat}(hU:∀b,b∈N->U b/\¬X b):abW (view w U X) (dA w) N:=by intro b hm cs t fr hb o v hv;unfold view;rw[if_pos (hU b hm)];have:=full_cell hb o;rw[hv] at this;exact this
mutual
def axf{h:View}:∀(x:D) (v:Value),ro h x v->ro h x.fz v
 | .int _ _,_,q=>by simpa[D.fz] using q
 | .bool _,_,q=>by simpa[D.fz] using q
 | .str _,_,q=>by simpa[D.fz] using q
 | .Zo,_,q=>by simpa[D.fz] using q
 | .sl own s rows,v,q=>by
  simp only[D.fz,ro] at q|-;obtain⟨a,cap,h1,h2,h3⟩:=q;have hlen:(aG rows).length=rows.length:=Ti rows;refine⟨a,cap,by rw[hlen];exact h1,by rw[hlen];exact h2,λhn=> ?_⟩;have hn':rows≠[]:=by intro e;subst e;exact hn rfl
  obtain⟨b,o,h4,h5⟩:=h3 hn';exact⟨b,o,h4,alE s rows b o h5⟩
def Ti:∀rows:List Row,(aG rows).length=rows.length
 |[]=>rfl
 |r::rs=>by simp[aG,Ti rs]
def Yz:∀r:Row,(qo r).length=r.length
 |[]=>rfl
 |x::r=>by simp[qo,Yz r]
def alE{h:View}(s:Nat):∀(rows:List Row) (b o:Nat),oW h s rows b o->oW h s (aG rows) b o
 |[],_,_,_=>by simp[aG,oW]
 |r::rs,b,o,q=>by simp only[aG,oW] at q|-;exact⟨by rw[Yz];exact q.1,ao4 r b o q.2.1,alE s rs b (o+s) q.2.2⟩
def ao4{h:View}:∀(r:Row) (b o:Nat),yX h r b o->yX h (qo r) b o
 |[],_,_,_=>by simp[qo,yX]
 |x::r,b,o,q=>by simp only[qo,yX] at q|-;obtain⟨⟨v,h1,h2⟩,h3⟩:=q;exact⟨⟨v,h1,axf x v h2⟩,ao4 r b (o+1) h3⟩
end
def ahU{h:View}{fl:Bool}{o:Bool}{s:Nat}{rows:List Row}{v:Value}(q:ro h (.sl o s rows) v):ro h (.sl false s (vw fl rows)) v:=by
 unfold vw;cases fl with
 |true=>exact ZH q
 |false=>simpa[D.fz] using axf _ _ q
def axg{h:View}{x:D}{v:Value}(q:ro h x v):ro h (roD x) v:=by cases x<;>simpa[roD,ro] using q
def axh{H:Heap}{h:View}{x:D}{v:Value}(q:ro h x v):ow H h (roD x) v []:=by cases x<;>simp[roD,ow,ro] at q|-<;>exact q
def aCc{H:Heap}{h:View}{x:D}{v:Value}(hf:x.flat=true)(q:ro h x v):ow H h x v []:=by cases x<;>simp[D.flat,ow,ro] at hf q|-<;>exact q
def ahV{H:Heap}{h:View}:∀(r:Row) (cs:List Value),(r.all D.flat)=true->jg h r cs->iW H h r cs []
 |[],_,_,_=>by simp[iW]
 |x::r,cs,hf,⟨v,cs',e,h1,h2⟩=>by simp only[List.all_cons,xw] at hf;simp only[iW];exact⟨v,cs',[],[],e,rfl,aCc hf.1 h1,ahV r cs' hf.2 h2⟩
def ZI{H:Heap}{h:View}(s:Nat):∀(rs:List Row) (cs:List Value),ay rs=true->iI h s rs cs->gJ H h s rs cs []
 |[],_,_,_=>by simp[gJ]
 |r::rs,cs,hf,⟨h1,h2,h3⟩=>by simp only[ay,List.all_cons,xw] at hf;simp only[gJ];exact⟨h1,[],[],rfl,ahV r cs hf.1 h2,ZI s rs _ hf.2 h3⟩
def anH{H:Heap}{h:View}{fl:Bool}{s:Nat}{rows:List Row}{v:Value}{N:List Nat}(ho:afh fl rows=true)(q:aa8 H h fl s rows v N):ow H h (.sl true s rows) v N:=by
 simp only[ow];rcases q with q|⟨b,cap,cs,t,N',h1,h2,h3,h4,h5,rfl⟩
 ·exact .inl q
 ·refine .inr ⟨b,cap,cs,t,N',h1,h2,h3,h4, ?_,rfl⟩;cases fl with
  |true=>obtain⟨h5,rfl⟩:=h5;exact ZI s rows _ (by simpa[afh] using ho) h5
  |false=>exact h5
def at6{H:Heap}{h:View}{s:Nat}{rows:List Row}{v:Value}{N:List Nat}(q:ow H h (.sl true s rows) v N):aa8 H h false s rows v N:=by simpa[ow,aa8] using q
def asz{H:Heap}{h:View}{s:Nat}{rows:List Row}{v:Value}{N:List Nat}(q:ow H h (.sl true s rows) v N):
  ∃N1 N2,N=N1++N2/\∀h',h.le h'->abW h' H N2->aa8 H h' true s rows v N1:=by
 simp only[ow] at q;rcases q with⟨rfl,rfl,rfl⟩|⟨b,cap,cs,t,N',h1,h2,h3,h4,h5,rfl⟩
 ·exact⟨[],[],rfl,λ_ _ _=> .inl ⟨rfl,rfl,rfl⟩⟩
 ·exact⟨[b],N',rfl,λh' hl hs=> .inr ⟨b,cap,cs,t,[],h1,h2,h3,h4,⟨JY hl s rows _ N' hs h5,rfl⟩,rfl⟩⟩
section
variable {base:Nat} {U:Nat->Prop} {w:World} {m:Mem} {G:GS}
def Gi.kill(hg:Gi base U w m G){r:Nat}{fl:Bool}{ver s:Nat}{rows:List Row}(hc:get r m=some (.arr false fl ver s rows))(hro:r ∉ G.out):
  Gi base U w (put r .dead m) ⟨G.μ,RZ G.F r [],G.E++G.F r,G.out⟩/\Zq m G (put r .dead m) ⟨G.μ,RZ G.F r [],G.E++G.F r,G.out⟩/\
   aa8 (dA w) (Gh U w G) fl s rows (G.μ r) (G.F r):=by
 have h1:=hg.set r .dead G.μ [] (G.E++G.F r) G.out
  (by simpa using List.nodup_append.2 ⟨hg.ndE,hg.nd r,λa ha b hb e=>hg.djE r b hb (e ▸ ha)⟩)
  (by simp;exact λb hb=>hb.symm) (EM (λ_ _=>rfl) (λc h=>by rw[hc] at h;cases h;trivial)) (λ_ _=>rfl) (λ_ _=>Iff.rfl) (λ_=>rfl) (λ_ _=>rfl)
 exact⟨h1.1,h1.2,hg.cell r _ hc hro⟩
def Gi.freeze(hg:Gi base U w m G){r:Nat}{fz fl:Bool}{ver s:Nat}{rows:List Row}(hc:get r m=some (.arr fz fl ver s rows))(hro:r ∉ G.out):
  Gi base U w (put r (.arr true fl ver s rows) m) ⟨G.μ,RZ G.F r [],G.E,G.out⟩/\Zq m G (put r (.arr true fl ver s rows) m) ⟨G.μ,RZ G.F r [],G.E,G.out⟩/\
   ro (Gh U w ⟨G.μ,RZ G.F r [],G.E,G.out⟩) (.sl true s rows) (G.μ r):=by
 have hle:Ep G.μ m G.μ (put r (.arr true fl ver s rows) m):=EM (λ_ _=>rfl) (λc h=>by rw[hc] at h;cases h;exact⟨Nat.le_refl _,rfl,λ_=>⟨rfl,rfl⟩⟩);have aLB:(view w U (excl G.F G.E)).le (view w U (excl (RZ G.F r []) G.E))->ro (view w U (excl (RZ G.F r []) G.E)) (.sl true s rows) (G.μ r):=by
  intro hv;have hq:=hg.cell r _ hc hro;cases fz with
  |true=>exact La hv _ _ hq.1
  |false=>
   refine anG hv (Le λb hb=>⟨(hg.lt b (.inr ⟨r,hb⟩)).2.2, ?_⟩) hq true;rintro(hE|⟨k,hk⟩)
   ·exact hg.djE r b hb hE
   ·by_cases e:k=r
    ·subst e;simp at hk
    ·rw[iJ _ e] at hk;exact hg.dj r k (Ne.symm e) b hb hk
 have h1:=hg.set r (.arr true fl ver s rows) G.μ [] G.E G.out (by simpa using hg.ndE) (by simp;exact λb hb=> .inr hb) hle (λ_ _=>rfl) (λ_ _=>Iff.rfl) (λ_=>rfl)
  (λhv _=>⟨aLB hv,rfl⟩)
 exact⟨h1.1,h1.2,aLB h1.2.view⟩
def Gi.aIV(hg:Gi base U w m G){k:Nat}(fl:Bool){s:Nat}{rows:List Row}{g:Value}{N E:List Nat}(hn:get k m=none)(hk:k ∉ G.out)(hE:(N++E).Perm G.E)
  (hq:ow (dA w) (Gh U w G) (.sl true s rows) g N):
  ∃F',Gi base U w (put k (.arr false fl 0 s rows) m) ⟨upM G.μ k g,F',E,G.out⟩/\Zq m G (put k (.arr false fl 0 s rows) m) ⟨upM G.μ k g,F',E,G.out⟩:=by
 have hnd:=hE.nodup_iff.2 hg.ndE;have hmem:∀b,b∈N++E->b∈G.E:=λb hb=>hE.mem_iff.1 hb
 have hμ:∀j,j≠k->upM G.μ k g j=G.μ j:=λj e=>Ld g e
 have hle:∀c',Ep G.μ m (upM G.μ k g) (put k c' m):=λc'=>EM hμ (λc h=>by rw[hn] at h;cases h)
 cases fl with
 |false=>refine⟨_,hg.set k (.arr false false 0 s rows) (upM G.μ k g) N E G.out hnd (λb hb=> .inr (hmem b hb)) (hle _) hμ (λ_ _=>Iff.rfl) (λh=>absurd h hk) (λhv _=> ?_)⟩;simp only[nY,BF];exact VH hv (λ_ _=>rfl) (at6 hq)
 |true=>
  obtain⟨N1,N2,rfl,h2⟩:=asz hq;have hnd':(N1++E).Nodup:=by rw[JR] at hnd;have:=List.nodup_append.1 hnd;exact List.nodup_append.2 ⟨this.1,(List.nodup_append.1 this.2.1).2.1,λa ha b hb=>this.2.2 a ha b (by simp[hb])⟩
  refine⟨_,hg.set k (.arr false true 0 s rows) (upM G.μ k g) N1 E G.out hnd' (λb hb=> .inr (hmem b (by simp at hb|-;rcases hb with h|h<;>simp[h]))) (hle _) hμ (λ_ _=>Iff.rfl) (λh=>absurd h hk) (λhv _=> ?_)⟩;simp only[nY,BF];refine h2 _ hv (Le λb hb=>⟨(hg.lt b (.inl (hmem b (by simp[hb])))).2.2, ?_⟩);rw[JR] at hnd;have hd:=List.nodup_append.1 hnd;have hd2:=List.nodup_append.1 hd.2.1;rintro(hE'|⟨j,hj⟩)
  ·exact hd2.2.2 b hb b hE' rfl
  ·by_cases e:j=k
   ·subst e;rw[uJ] at hj;exact hd.2.2 b hj b (by simp[hb]) rfl
   ·rw[iJ _ e] at hj;exact hg.djE j b hj (hmem b (by simp[hb]))
structure P6(base:Nat)(U:Nat->Prop)(w:World)(m:Mem)(G:GS)(m':Mem)(G':GS)(N:List Nat):Prop where
 ok:Gi base U w m' G'
 le:Zq m G m' G'
 E:G'.E=G.E++N
 out:G'.out=G.out
 μ:G'.μ=G.μ
def P6.same(hg:Gi base U w m G):P6 base U w m G m G []:=⟨hg,Zq.refl _ _,by simp,rfl,rfl⟩
def P6.trans{m1 m2 m3:Mem}{G1 G2 G3:GS}{N N':List Nat}(a:P6 base U w m1 G1 m2 G2 N)(b:P6 base U w m2 G2 m3 G3 N'):P6 base U w m1 G1 m3 G3 (N++N'):=
 ⟨b.ok,a.le.trans b.le,by rw[b.E,a.E,JR],b.out.trans a.out,b.μ.trans a.μ⟩
def YA{H:Heap}{h h':View}(hl:h.le h'){x:D}{v:Value}{N:List Nat}(q:ow H h x v N):ow H h' x v N:=ag9 hl x v N (λ_ _=>rfl) q
def axi(hg:Gi base U w m G){v:V}{g:Value}(hv:aO G.μ m (Gh U w G) v g)(ho:G.out=[]){x:D}{m':Mem}{l l':Log}(h:(toD v).run m l=some (x,m',l')):
  ∃G' N,P6 base U w m G m' G' N/\ow (dA w) (Gh U w G') x g N:=by
 cases v with
 |d y=>simp only[toD,run_pure,jF,nT] at h;obtain⟨rfl,rfl,rfl⟩:=h;exact⟨G,[],P6.same hg,axh (by simpa[aO] using hv)⟩
 |nil s=>simp only[toD,run_pure,jF,nT] at h;obtain⟨rfl,rfl,rfl⟩:=h;refine⟨G,[],P6.same hg, ?_⟩;simp only[aO] at hv;simp[ow,hv]
 |own r ver=>
  simp only[toD] at h;replace h:=aj h;obtain⟨c,m1,l1,h1,h⟩:=h;rw[uG] at h1;cases h1;cases hc:get r m with
  |none=>rw[hc] at h;exact aF h
  |some c=>
   rw[hc] at h;cases c with
   |arr fz fl jM s rows=>
    simp only at h;replace h:=aj h;obtain⟨_,m2,l2,h1,h⟩:=h;obtain⟨hb,rfl,rfl⟩:=fJ h1;have hb:=yV hb;subst hb;simp only[aO,hc] at hv;have hv:=hv.2.2 trivial;subst hv;have hro:r ∉ G.out:=by simp[ho]
    cases fz with
    |true=>simp only[run_pure,jF,nT] at h;obtain⟨rfl,rfl,rfl⟩:=h;refine⟨G,[],P6.same hg, ?_⟩;have hq:=(hg.cell r _ hc hro).1;simp only[ow,true_and];exact ahU hq
    |false=>simp only at h;replace h:=aj h;obtain⟨_,m2,l2,h1,h⟩:=h;obtain⟨hok,rfl,rfl⟩:=fJ h1;replace h:=aj h;obtain⟨_,m3,l3,h1,h⟩:=h;rw[DK] at h1;cases h1;simp only[run_pure,jF,nT] at h;obtain⟨rfl,rfl,rfl⟩:=h;obtain⟨k1,k2,k3⟩:=hg.kill hc hro;exact⟨_,G.F r,⟨k1,k2,rfl,rfl,rfl⟩,YA k2.view (anH hok k3)⟩
   |_=>exact aF h
 |_=>exact aF h
def oJ{μ:Nat->Value}{h:View}{v:V}{vs:List V}{gs:List Value}(q:dn μ m h (v::vs) gs):∃g gs',gs=g::gs'/\aO μ m h v g/\dn μ m h vs gs':=by simpa[dn] using q
def jG{μ:Nat->Value}{h:View}:∀{vs:List V} {gs:List Value},dn μ m h vs gs->gs.length=vs.length
 |[],gs,q=>by simp[dn] at q;simp[q]
 |v::vs,gs,q=>by obtain⟨g,gs',rfl,_,h3⟩:=oJ q;simp[jG h3]
def abY{H:Heap}{h h':View}(hl:h.le h'){x:Row}{v:List Value}{N:List Nat}(q:iW H h x v N):iW H h' x v N:=JX hl x v N (λ_ _=>rfl) q
def ao5{H:Heap}{h h':View}(hl:h.le h'){s:Nat}{x:List Row}{v:List Value}{N:List Nat}(q:gJ H h s x v N):gJ H h' s x v N:=BD hl s x v N (λ_ _=>rfl) q
def VR:∀{vs:List V} {gs:List Value} {m:Mem} {G:GS} (_:Gi base U w m G) (_:dn G.μ m (Gh U w G) vs gs) (_:G.out=[]) {xs:Row} {m':Mem} {l l':Log} (_:(Qb vs).run m l=some (xs,m',l')),
  ∃G' N,P6 base U w m G m' G' N/\iW (dA w) (Gh U w G') xs gs N/\xs.length=vs.length
 |[],gs,m,G,hg,hv,ho,xs,m',l,l',h=>by simp only[Qb,run_pure,jF,nT] at h;obtain⟨rfl,rfl,rfl⟩:=h;exact⟨G,[],P6.same hg,by simp[iW],rfl⟩
 |v::vs,gs,m,G,hg,hv,ho,xs,m',l,l',h=>by obtain⟨g,gs',rfl,hv1,hv2⟩:=oJ hv;simp only[Qb] at h;replace h:=aj h;obtain⟨x,m1,l1,h1,h⟩:=h;replace h:=aj h;obtain⟨ys,m2,l2,h2,h⟩:=h;obtain⟨rfl,rfl,rfl⟩:=Zw h;obtain⟨G1,N1,t1,q1⟩:=axi hg hv1 ho h1;obtain⟨G2,N2,t2,q2,hlen⟩:=VR t1.ok (t1.le.dn hv2) (t1.out.trans ho) h2;refine⟨G2,N1++N2,t1.trans t2, ?_,by simp[hlen]⟩;simp only[iW];exact⟨g,gs',N1,N2,rfl,rfl,YA t2.le.view q1,q2⟩
def Gi.look(hg:Gi base U w m G){r:Nat}{fz fl:Bool}{ver s:Nat}{rows:List Row}(hc:get r m=some (.arr fz fl ver s rows))(hro:r ∉ G.out)(o:Bool):ro (full w) (.sl o s rows) (G.μ r):=by
 have hq:=hg.cell r _ hc hro;cases fz with
 |true=>exact ZH (La (vI _ _ _) _ _ hq.1)
 |false=>exact anG (vI _ _ _) alD hq o
def at7(hg:Gi base U w m G){v:V}{g:Value}(hv:aO G.μ m (Gh U w G) v g)(ho:G.out=[]){s:Nat}{rows:List Row}{m':Mem}{l l':Log}(h:(seen v).run m l=some ((s,rows),m',l')):
  m'=m/\ro (full w) (.sl false s rows) g:=by
 cases v with
 |d y=>
  cases y with
  |sl own s' rows'=>simp only[seen,run_pure,jF,nT] at h;obtain⟨⟨rfl,rfl⟩,rfl,rfl⟩:=h;simp only[aO] at hv;exact⟨rfl,ZH (La (vI _ _ _) _ _ hv)⟩
  |_=>exact aF h
 |nil s'=>simp only[seen,run_pure,jF,nT] at h;obtain⟨⟨rfl,rfl⟩,rfl,rfl⟩:=h;simp only[aO] at hv;exact⟨rfl,by simp[ro,hv]⟩
 |own r ver=>
  simp only[seen] at h;replace h:=aj h;obtain⟨c,m1,l1,h1,h⟩:=h;rw[uG] at h1;cases h1;cases hc:get r m with
  |none=>rw[hc] at h;exact aF h
  |some c=>
   rw[hc] at h;cases c with
   |arr fz fl jM s' rows'=>simp only at h;replace h:=aj h;obtain⟨_,m2,l2,h1,h⟩:=h;obtain⟨hb,rfl,rfl⟩:=fJ h1;have hb:=yV hb;subst hb;simp only[run_pure,jF,nT] at h;obtain⟨⟨rfl,rfl⟩,rfl,rfl⟩:=h;simp only[aO,hc] at hv;have hv:=hv.2.2 trivial;subst hv;exact⟨rfl,ahU (hg.look hc (by simp[ho]) true)⟩
   |_=>exact aF h
 |_=>exact aF h
def BG(k:Nat):∀l:List Nat,mem? k l=true↔k∈l
 |[]=>by simp[mem?]
 |j::l=>by
  simp only[mem?,List.mem_cons]
  by_cases e:k=j
  ·subst e;simp
  ·rw[uV e];simp[e,BG k l]
def VT{k:Nat}{l:List Nat}(h:(!(mem? k l))=true):k ∉ l:=by intro hk;rw[(BG k l).2 hk] at h;cases h
def aCd(hg:Gi base U w m G){v:V}{g:Value}(hv:aO G.μ m (Gh U w G) v g){imp:List Nat}(ho:∀r,r∈G.out->r∈imp){own:Bool}{v':V}{m':Mem}{l l':Log}(h:(aw9 imp own v).run m l=some (v',m',l')):
  ∃G' N x,v'=.d x/\P6 base U w m G m' G' N/\ow (dA w) (Gh U w G') x g N/\∀k,k∈imp->get k m'=get k m:=by
 cases v with
 |d y=>simp only[aw9,run_pure,jF,nT] at h;obtain⟨rfl,rfl,rfl⟩:=h;exact⟨G,[],_,rfl,P6.same hg,axh (by simpa[aO] using hv),λ_ _=>rfl⟩
 |nil s=>simp only[aw9,run_pure,jF,nT] at h;obtain⟨rfl,rfl,rfl⟩:=h;refine⟨G,[],_,rfl,P6.same hg, ?_,λ_ _=>rfl⟩;simp only[aO] at hv;cases own<;>simp[ow,ro,hv]
 |own r ver=>
  simp only[aw9] at h;replace h:=aj h;obtain⟨c,m1,l1,h1,h⟩:=h;rw[uG] at h1;cases h1;cases hc:get r m with
  |none=>rw[hc] at h;exact aF h
  |some c=>
   rw[hc] at h;cases c with
   |arr fz fl jM s rows=>
    simp only at h;replace h:=aj h;obtain⟨_,m2,l2,h1,h⟩:=h;obtain⟨hb,rfl,rfl⟩:=fJ h1;have hb:=yV hb;subst hb;replace h:=aj h;obtain⟨_,m2,l2,h1,h⟩:=h;obtain⟨hi,rfl,rfl⟩:=fJ h1;simp only[aO,hc] at hv;have hv:=hv.2.2 trivial;subst hv;have hro:r ∉ G.out:=λhr=>VT hi (ho r hr)
    have hni:∀k,k∈imp->k≠r:=λk hk e=>VT hi (e ▸ hk)
    cases own with
    |false=>simp only at h;replace h:=aj h;obtain⟨_,m3,l3,h1,h⟩:=h;rw[DK] at h1;cases h1;simp only[run_pure,jF,nT] at h;obtain⟨rfl,rfl,rfl⟩:=h;obtain⟨k1,k2,k3⟩:=hg.freeze hc hro;refine⟨_,[],_,rfl,⟨k1,k2,by simp,rfl,rfl⟩, ?_,λk hk=>jX (hni k hk) _ _⟩;simp only[ow,true_and];exact ahU k3
    |true=>
     simp only at h;replace h:=aj h;obtain⟨_,m2,l2,h1,h⟩:=h;obtain⟨hfz,rfl,rfl⟩:=fJ h1;replace h:=aj h;obtain⟨_,m2,l2,h1,h⟩:=h;obtain⟨hok,rfl,rfl⟩:=fJ h1;have hfz:fz=false:=by simpa using hfz
     subst hfz;replace h:=aj h;obtain⟨_,m3,l3,h1,h⟩:=h;rw[DK] at h1;cases h1;simp only[run_pure,jF,nT] at h;obtain⟨rfl,rfl,rfl⟩:=h;obtain⟨k1,k2,k3⟩:=hg.kill hc hro;exact⟨_,G.F r,_,rfl,⟨k1,k2,rfl,rfl,rfl⟩,YA k2.view (anH hok k3),λk hk=>jX (hni k hk) _ _⟩
   |_=>exact aF h
 |_=>exact aF h
def afm{imp own:List Nat}:∀{vs:List V} {gs:List Value} {m:Mem} {G:GS} {j:Nat} (_:Gi base U w m G) (_:dn G.μ m (Gh U w G) vs gs) (_:∀r,r∈G.out->r∈imp) {vs':List V} {m':Mem} {l l':Log}
  (_:(Zy imp own j vs).run m l=some (vs',m',l')),∃G' N xs,vs'=xs.map V.d/\xs.length=gs.length/\P6 base U w m G m' G' N/\iW (dA w) (Gh U w G') xs gs N/\∀k,k∈imp->get k m'=get k m
 |[],gs,m,G,j,hg,hv,ho,vs',m',l,l',h=>by simp only[Zy,run_pure,jF,nT] at h;obtain⟨rfl,rfl,rfl⟩:=h;simp only[dn] at hv;subst hv;exact⟨G,[],[],rfl,rfl,P6.same hg,by simp[iW],λ_ _=>rfl⟩
 |v::vs,gs,m,G,j,hg,hv,ho,vs',m',l,l',h=>by obtain⟨g,gs',rfl,hv1,hv2⟩:=oJ hv;simp only[Zy] at h;replace h:=aj h;obtain⟨x,m1,l1,h1,h⟩:=h;replace h:=aj h;obtain⟨ys,m2,l2,h2,h⟩:=h;obtain⟨rfl,rfl,rfl⟩:=Zw h;obtain⟨G1,N1,x1,rfl,t1,q1,i1⟩:=aCd hg hv1 ho h1;obtain⟨G2,N2,xs,rfl,hlen,t2,q2,i2⟩:=afm t1.ok (t1.le.dn hv2) (λr hr=>ho r (t1.out ▸ hr)) h2;refine⟨G2,N1++N2,x1::xs,rfl,by simp[hlen],t1.trans t2, ?_,λk hk=>(i2 k hk).trans (i1 k hk)⟩;simp only[iW];exact⟨g,gs',N1,N2,rfl,rfl,YA t2.le.view q1,q2⟩
def ao6(H:Heap)(h:View):Cell->Value->List Nat->Prop
 | .box t vs,g,N=>∃b a xs N',g=.pointer (some ⟨b,0,none⟩)/\H b=some (.cells a t (0,0))/\vs=xs.map V.d/\xs.length=a.toList.length/\iW H h xs a.toList N'/\N=b::N'
 | .arr fz fl ver s rows,g,N=>fz=false/\ver=0/\aa8 H h fl s rows g N
 | .dead,_,_=>False
 | .VG ..,_,_=>False
 | .AQ ..,_,_=>False
 | .zy ..,_,_=>False
def cellsB(H:Heap)(h:View):List Cell->List Value->List Nat->Prop
 |[],gs,N=>gs=[]/\N=[]
 |c::cs,gs,N=>∃g gs' N1 N2,gs=g::gs'/\N=N1++N2/\ao6 H h c g N1/\cellsB H h cs gs' N2
def ahW{H H':Heap}{h h':View}(hl:h.le h'){c:Cell}{g:Value}{N:List Nat}(hb:∀b,b∈N->H' b=H b)(q:ao6 H h c g N):ao6 H' h' c g N:=by
 cases c with
 |box t vs=>obtain⟨b,a,xs,N',h1,h2,h3,h4,h5,rfl⟩:=q;exact⟨b,a,xs,N',h1,by rw[hb b (by simp)];exact h2,h3,h4,JX hl _ _ _ (λb' hb'=>hb b' (by simp[hb'])) h5,rfl⟩
 |arr fz fl ver s rows=>exact⟨q.1,q.2.1,VH hl hb q.2.2⟩
 |dead=>exact q
 |VG _ _ _=>exact q
 |AQ _ _=>exact q
 |zy _ _ _ _ _=>exact q
def afn{H H':Heap}{h h':View}(hl:h.le h'):∀{cs:List Cell} {gs:List Value} {N:List Nat},(∀b,b∈N->H' b=H b)->cellsB H h cs gs N->cellsB H' h' cs gs N
 |[],_,_,_,q=>q
 |c::cs,_,_,hb,⟨g,gs',N1,N2,h1,h2,h3,h4⟩=>by subst h2;exact⟨g,gs',N1,N2,h1,rfl,ahW hl (λb hx=>hb b (by simp[hx])) h3,afn hl (λb hx=>hb b (by simp[hx])) h4⟩
def Gi.aG4(hg:Gi base U w m G){r:Nat}{c:Cell}(hc:get r m=some c)(hro:r ∉ G.out):
  Gi base U w m ⟨G.μ,RZ G.F r [],G.E++G.F r,r::G.out⟩/\Zq m G m ⟨G.μ,RZ G.F r [],G.E++G.F r,r::G.out⟩:=by
 have hex:∀b,excl (RZ G.F r []) (G.E++G.F r) b->excl G.F G.E b:=by
  rintro b (hb|⟨k,hb⟩)
  ·simp only[List.mem_append] at hb;rcases hb with h|h
   ·exact .inl h
   ·exact .inr ⟨r,h⟩
  ·by_cases e:k=r
   ·subst e;simp at hb
   ·rw[iJ _ e] at hb;exact .inr ⟨k,hb⟩
 have hv:(view w U (excl G.F G.E)).le (view w U (excl (RZ G.F r []) (G.E++G.F r))):=Vd (λ_ x=>x) hex;refine⟨show MInv base U m w G.μ (RZ G.F r []) (G.E++G.F r) (r::G.out) from ?_,⟨sH _ _,hex⟩⟩;refine⟨?_, ?_, ?_, ?_,List.nodup_append.2 ⟨hg.ndE,hg.nd r,λa ha b hb e=>hg.djE r b hb (e ▸ ha)⟩,λb hb=>hg.lt b (hex b hb),hg.up,hg.bs, ?_, ?_⟩
 ·intro k c hk hko;simp only[List.mem_cons,not_or] at hko;rw[iJ _ hko.1];exact Lc (sH _ _) hv rfl (λ_ _=>rfl) (hg.cell k c hk hko.2)
 ·intro k k' hne b hb hb'
  by_cases e:k=r
  ·subst e;simp at hb
  ·rw[iJ _ e] at hb
   by_cases e':k'=r
   ·subst e';simp at hb'
   ·rw[iJ _ e'] at hb';exact hg.dj _ _ hne b hb hb'
 ·intro k b hb hE
  by_cases e:k=r
  ·subst e;simp at hb
  ·rw[iJ _ e] at hb;simp only[List.mem_append] at hE;rcases hE with h|h
   ·exact hg.djE _ b hb h
   ·exact hg.dj _ _ e b hb h
 ·intro k
  by_cases e:k=r
  ·subst e;simp
  ·rw[iJ _ e];exact hg.nd k
 ·intro k hk
  by_cases e:k=r
  ·subst e;simp
  ·rw[iJ _ e];exact hg.none_ k hk
 ·intro k hk
  by_cases e:k=r
  ·subst e;simp
  ·rw[iJ _ e];exact hg.out_ k (by simpa[e] using hk)
structure Out(base:Nat)(U:Nat->Prop)(w:World)(m:Mem)(G:GS)(m':Mem)(G':GS)(imp rs:List Nat)(N:List Nat):Prop where
 ok:Gi base U w m' G'
 le:Zq m G m' G'
 E:G'.E=G.E++N
 out:∀r,r∈G'.out↔r∈G.out\/r∈rs
 μ:G'.μ=G.μ
 here:∀k,k∈imp->get k m'=get k m
def sameKind:Cell->Cell->Prop
 | .box t _,.box t' _=>t=t'
 | .arr _ fl ver s _,.arr _ fl' jM s' _=>ver=0/\jM=0/\fl=fl'/\s=s'
 |_,_=>False
def kinds(m:Mem):List Nat->List Cell->Prop
 |[],cs=>cs=[]
 |r::rs,cs=>∃c c' cs',cs=c'::cs'/\get r m=some c/\sameKind c c'/\kinds m rs cs'
def ac4{m m':Mem}:∀{rs:List Nat} {cs:List Cell},(∀r,r∈rs->get r m'=get r m)->kinds m rs cs->kinds m' rs cs
 |[],_,_,q=>q
 |r::rs,_,h,⟨c,c',cs',h1,h2,h3,h4⟩=>⟨c,c',cs',h1,(h r (by simp)).trans h2,h3,ac4 (λk hk=>h k (by simp[hk])) h4⟩
def aeh{A:Adv}{imp:List Nat}:∀{rs:List Nat} {m:Mem} {G:GS} (_:Gi base U w m G) (_:rs.Nodup) (_:∀r,r∈rs->r∈imp/\r ∉ G.out) (_:∀r,r∈G.out->r∈imp) {cs:List Cell} {m':Mem} {l l':Log}
  (_:(Zz A imp rs).run m l=some (cs,m',l')),∃G' N,Out base U w m G m' G' imp rs N/\cellsB (dA w) (Gh U w G') cs (rs.map G.μ) N/\kinds m rs cs
 |[],m,G,hg,hn,hr,ho,cs,m',l,l',h=>by simp only[Zz,run_pure,jF,nT] at h;obtain⟨rfl,rfl,rfl⟩:=h;exact⟨G,[],⟨hg,Zq.refl _ _,by simp,λr=>by simp,rfl,λ_ _=>rfl⟩,⟨rfl,rfl⟩,rfl⟩
 |r::rs,m,G,hg,hn,hr,ho,cs,m',l,l',h=>by
  simp only[Zz] at h;replace h:=aj h;obtain⟨c,m1,l1,h1,h⟩:=h;rw[uG] at h1;cases h1;replace h:=aj h;obtain⟨c1,m1,l1,h1,h⟩:=h;replace h:=aj h;obtain⟨cs1,m2,l2,h2,h⟩:=h;obtain⟨rfl,rfl,rfl⟩:=Zw h;have hri:=hr r (by simp);have hnr:=List.nodup_cons.1 hn;have step:∃G' N,Out base U w m G m1 G' imp [r] N/\ao6 (dA w) (Gh U w G') c1 (G.μ r) N/\∃c,get r m=some c/\sameKind c c1:=by
   cases hc:get r m with
   |none=>rw[hc] at h1;exact aF h1
   |some c=>
    rw[hc] at h1;have hq:=hg.cell r c hc hri.2;obtain⟨k1,k2⟩:=hg.aG4 hc hri.2;cases c with
    |box t vs=>
     simp only[at1] at h1;replace h1:=aj h1;obtain⟨vs',m3,l3,h3,h1⟩:=h1;obtain⟨rfl,rfl,rfl⟩:=Zw h1;obtain⟨b,a,e1,e2,e3,e4⟩:=hq;obtain⟨G2,N2,xs,rfl,hlen,t2,q2,i2⟩:=afm k1 (k2.dn e3) (λk hk=>by
      simp only[List.mem_cons] at hk;rcases hk with rfl|hk
      ·exact hri.1
      ·exact ho k hk) h3
     refine⟨G2,b::N2,⟨t2.ok,k2.trans t2.le,by rw[t2.E,e4];simp,λk=>by rw[t2.out];simp[or_comm],t2.μ,i2⟩,⟨b,a,xs,N2,e1,e2,rfl,hlen,q2,rfl⟩,_,rfl,rfl⟩
    |_=>exact aF h1
  obtain⟨G1,N1,o1,q1,c0,hc0,hk0⟩:=step;obtain⟨G2,N2,o2,q2,kd2⟩:=aeh o1.ok hnr.2 (λk hk=>⟨(hr k (by simp[hk])).1,λhko=>by
   rcases(o1.out k).1 hko with h|h
   ·exact(hr k (by simp[hk])).2 h
   ·simp at h;subst h;exact hnr.1 hk⟩) (λk hk=>by
   rcases(o1.out k).1 hk with h|h
   ·exact ho k h
   ·simp at h;subst h;exact hri.1) h2
  refine⟨G2,N1++N2,⟨o2.ok,o1.le.trans o2.le,by rw[o2.E,o1.E,JR],λk=> ?_,o2.μ.trans o1.μ,λk hk=>(o2.here k hk).trans (o1.here k hk)⟩,⟨G.μ r,rs.map G.μ,N1,N2,rfl,rfl,ahW o2.le.view (λ_ _=>rfl) q1,by rw[<-o1.μ];exact q2⟩,c0,c1,cs1,rfl,hc0,hk0,ac4 (λk hk=>(o1.here k (hr k (by simp[hk])).1).symm) kd2⟩;rw[o2.out,o1.out];simp[or_assoc]
def anI{r:Nat}{l:List Nat}(h:l.Nodup):(asr r l).Nodup:=by
 unfold asr;cases hm:mem? r l with
 |true=>exact h
 |false=>
  have:r ∉ l:=λhr=>by rw[(BG r l).2 hr] at hm;cases hm
  exact List.nodup_append.2 ⟨h,by simp,λa ha b hb e=>by simp at hb;subst hb;subst e;exact this ha⟩
mutual
def abZ:∀(v:V) (I:List Nat),I.Nodup->(ao2 I v).Nodup
 | .ptr r _,I,h=>by simp only[ao2];exact anI h
 | .clo _ a b,I,h=>by simp only[ao2];exact Xb b _ (Xb a _ h)
 | .agg cs,I,h=>by simp only[ao2];exact Xb cs _ h
 | .d _,I,h=>h
 | .nil _,I,h=>h
 | .own _ _,I,h=>h
 | .EL _ _ _ _,I,h=>h
 | .zx _ _,I,h=>h
 | .NR v,I,h=>by simp only[ao2];exact abZ v I h
 | .JV _,I,h=>h
 | .undef,I,h=>h
def Xb:∀(vs:List V) (I:List Nat),I.Nodup->(alA I vs).Nodup
 |[],I,h=>h
 |v::vs,I,h=>by simp only[alA];exact Xb vs _ (abZ v I h)
end
def abm(A:Adv)(f:Nat):∀(vs:List V) (i:Nat) (I:List Nat),I.Nodup->(Vb A f i I vs).Nodup
 |[],_,I,h=>h
 |v::vs,i,I,h=>by
  simp only[Vb];refine abm A f vs _ _ ?_;split
  ·exact h
  ·exact abZ _ _ h
def VU(A:Adv)(f:Nat)(μ:Nat->Value)(m:Mem)(H:Heap)(h:View):Nat->List V->List Value->List Nat->Prop
 |_,[],gs,N=>gs=[]/\N=[]
 |i,v::vs,gs,N=>∃g gs' N1 N2,gs=g::gs'/\N=N1++N2/\(match JW A f i with
   |1=>∃x,v=.d x/\ow H h x g N1
   |_=>N1=[]/\aO μ m h v g)/\VU A f μ m H h (i+1) vs gs' N2
def XV{A:Adv}{f:Nat}{μ μ':Nat->Value}{m m':Mem}{H H':Heap}{h h':View}(hm:Ep μ m μ' m')(hl:h.le h'):∀{vs:List V} {i:Nat} {gs:List Value} {N:List Nat},(∀b,b∈N->H' b=H b)->
  VU A f μ m H h i vs gs N->VU A f μ' m' H' h' i vs gs N
 |[],_,_,_,_,q=>q
 |v::vs,i,gs,N,hb,q=>by
  simp only[VU] at q|-;obtain⟨g,gs',N1,N2,rfl,rfl,h3,h4⟩:=q;refine⟨g,gs',N1,N2,rfl,rfl, ?_,XV hm hl (λb hx=>hb b (by simp[hx])) h4⟩;split at h3
  ·rename_i hmo;obtain⟨x,hx,hq⟩:=h3;exact⟨x,hx,ag9 hl x g N1 (λb hx=>hb b (by simp[hx])) hq⟩
  ·exact⟨h3.1,AZ hm hl v g h3.2⟩
def afo{A:Adv}{f:Nat}:∀{vs:List V} {gs:List Value} {m:Mem} {G:GS} {i:Nat} (_:Gi base U w m G) (_:dn G.μ m (Gh U w G) vs gs) (_:G.out=[]) {vs':List V} {m':Mem} {l l':Log}
  (_:(XQ A f i vs).run m l=some (vs',m',l')),∃G' N,P6 base U w m G m' G' N/\VU A f G'.μ m' (dA w) (Gh U w G') i vs' gs N
 |[],gs,m,G,i,hg,hv,ho,vs',m',l,l',h=>by simp only[XQ,run_pure,jF,nT] at h;obtain⟨rfl,rfl,rfl⟩:=h;simp only[dn] at hv;exact⟨G,[],P6.same hg,hv,rfl⟩
 |v::vs,gs,m,G,i,hg,hv,ho,vs',m',l,l',h=>by
  obtain⟨g,gs',rfl,hv1,hv2⟩:=oJ hv;simp only[XQ] at h;replace h:=aj h;obtain⟨x,m1,l1,h1,h⟩:=h;replace h:=aj h;obtain⟨ys,m2,l2,h2,h⟩:=h;obtain⟨rfl,rfl,rfl⟩:=Zw h;have step:∃G1 N1,P6 base U w m G m1 G1 N1/\(match JW A f i with
   |1=>∃y,x=.d y/\ow (dA w) (Gh U w G1) y g N1
   |_=>N1=[]/\aO G1.μ m1 (Gh U w G1) x g):=by
   split at h1
   ·rename_i hmo;replace h1:=aj h1;obtain⟨y,m3,l3,h3,h1⟩:=h1;obtain⟨rfl,rfl,rfl⟩:=Zw h1;obtain⟨G1,N1,t1,q1⟩:=axi hg hv1 ho h3;refine⟨G1,N1,t1, ?_⟩
    try rw[hmo]
    exact⟨y,rfl,q1⟩
   ·rename_i hmo;obtain⟨rfl,rfl,rfl⟩:=Zw h1;refine⟨G,[],P6.same hg, ?_⟩
    first
     |exact⟨rfl,hv1⟩
     |split
      ·rename_i e;exact absurd e hmo
      ·exact⟨rfl,hv1⟩
  obtain⟨G1,N1,t1,q1⟩:=step;obtain⟨G2,N2,t2,q2⟩:=afo t1.ok (t1.le.dn hv2) (t1.out.trans ho) h2;refine⟨G2,N1++N2,t1.trans t2, ?_⟩;simp only[VU];refine⟨g,gs',N1,N2,rfl,rfl, ?_,q2⟩;split at q1
  ·obtain⟨y,hy,hq⟩:=q1;exact⟨y,hy,YA t2.le.view hq⟩
  ·exact⟨q1.1,t2.le.aO q1.2⟩
def ahX:∀(cs:List Cell) (k i:Nat),get (sG+(k+i)) (uF k cs)=cs[i]?
 |[],_,_=>by simp[uF,get]
 |c::cs,k,0=>by simp[uF,get]
 |c::cs,k,i+1=>by simp only[uF,get];rw[uV ak];simp only[bg,List.getElem?_cons_succ];rw[<-ahX cs (k+1) i,show k+1+i=k+(i+1) from by omega]
def Xc(cs:List Cell)(i:Nat):get (sG+i) (uF 0 cs)=cs[i]? :=by
 have:=ahX cs 0 i
 rwa [Nat.zero_add] at this
def impμ(hs:List Value):Nat->Value:=λk=>hs.getD (k - sG) undef
def ahY{r:Nat}:∀{l:List Nat} {k i:Nat},idxOf r k l=some i->k<=i/\l[i - k]? =some r
 |[],_,_,h=>by simp[idxOf] at h
 |j::l,k,i,h=>by
  simp only[idxOf] at h
  by_cases e:r=j
  ·subst e;simp at h;subst h;simp
  ·rw[uV e] at h;simp only[bg] at h;obtain⟨h1,h2⟩:=ahY h;refine⟨ak, ?_⟩;rw[show i - k=(i - (k+1))+1 from by omega,List.getElem?_cons_succ];exact h2
def ahZ{m:Mem}:∀{rs:List Nat} {cs:List Cell} {i r:Nat},kinds m rs cs->rs[i]? =some r->∃c c',get r m=some c/\cs[i]? =some c'/\sameKind c c'
 |[],_,_,_,_,h=>by simp at h
 |r::rs,_,0,r',⟨c,c',cs',h1,h2,h3,_⟩,h=>by simp at h;subst h;subst h1;exact⟨c,c',h2,rfl,h3⟩
 |r::rs,_,i+1,r',⟨c,c',cs',h1,h2,h3,h4⟩,h=>by subst h1;simp only[List.getElem?_cons_succ] at h|-;exact ahZ h4 h
def ZJ(U:Nat->Prop)(G:GS)(L:List Nat):Nat->Prop:=λb=>U b/\∀r,b∈G.F r->r∈L
def Ve{L:List Nat}:(Gh U w G).le (view w (ZJ U G L) (· ∈G.E)):=by
 intro b o v hv;unfold Gh view at hv;split at hv
 ·rename_i hc;unfold view;rw[if_pos ⟨⟨hc.1,λr hr=>absurd (.inr ⟨r,hr⟩) hc.2⟩,λhE=>hc.2 (.inl hE)⟩];exact hv
 ·cases hv
structure alF(base:Nat)(U:Nat->Prop)(w:World)(m:Mem)(G:GS)(imp:List Nat)(cells:List Cell):Prop where
 ok:Gi base U w m G
 out:∀r,r∈G.out↔r∈imp
 kd:kinds m imp cells
def aCe(hg:Gi base U w m G){r:Nat}{fz fl:Bool}{ver s:Nat}{rows:List Row}(hc:get r m=some (.arr fz fl ver s rows))(hro:r ∉ G.out){L:List Nat}(hL:fz=false->r∈L)(o:Bool):
  ro (view w (ZJ U G L) (· ∈G.E)) (.sl o s rows) (G.μ r):=by
 have hq:=hg.cell r _ hc hro;cases fz with
 |true=>exact ZH (La Ve _ _ hq.1)
 |false=>
  refine anG Ve (Le λb hb=>⟨⟨(hg.lt b (.inr ⟨r,hb⟩)).2.2,λk hk=> ?_⟩,hg.djE r b hb⟩) hq o
  by_cases e:k=r
  ·rw[e];exact hL rfl
  ·exact absurd hk (hg.dj r k (Ne.symm e) b hb)
mutual
def aha{imp:List Nat}{cells:List Cell}(C:alF base U w m G imp cells):∀{v:V} {g:Value} (_:aO G.μ m (Gh U w G) v g) {v':V} {lt:List Nat} {m':Mem} {l l':Log}
  (_:(lend imp v).run m l=some ((v',lt),m',l')),m'=m/\∀L:List Nat,(∀r,r∈lt->r∈L)->aO (impμ (imp.map G.μ)) (uF 0 cells) (view w (ZJ U G L) (· ∈G.E)) v' g
 | .d x,g,hv,v',lt,m',l,l',h=>by simp only[lend,run_pure,jF,nT] at h;obtain⟨⟨rfl,rfl⟩,rfl,rfl⟩:=h;refine⟨rfl,λL hL=> ?_⟩;simp only[aO] at hv|-;exact La Ve _ _ (axg hv)
 | .nil s,g,hv,v',lt,m',l,l',h=>by simp only[lend,run_pure,jF,nT] at h;obtain⟨⟨rfl,rfl⟩,rfl,rfl⟩:=h;refine⟨rfl,λL hL=> ?_⟩;simp only[aO] at hv|-;simp[ro,hv]
 | .own r ver,g,hv,v',lt,m',l,l',h=>by
  simp only[lend] at h;replace h:=aj h;obtain⟨c,m1,l1,h1,h⟩:=h;rw[uG] at h1;cases h1;cases hc:get r m with
  |none=>rw[hc] at h;exact aF h
  |some c=>
   rw[hc] at h;cases c with
   |arr fz fl jM s rows=>
    simp only at h;replace h:=aj h;obtain⟨_,m2,l2,h1,h⟩:=h;obtain⟨hb,rfl,rfl⟩:=fJ h1;have hb:=yV hb;subst hb;replace h:=aj h;obtain⟨_,m2,l2,h1,h⟩:=h;obtain⟨hi,rfl,rfl⟩:=fJ h1;simp only[run_pure,jF,nT] at h;obtain⟨⟨rfl,rfl⟩,rfl,rfl⟩:=h;simp only[aO,hc] at hv;have hv:=hv.2.2 trivial;subst hv;refine⟨rfl,λL hL=> ?_⟩;have hro:r ∉ G.out:=λhr=>VT hi ((C.out r).1 hr)
    simp only[aO];exact ahU (aCe C.ok hc hro (λhf=>hL r (by subst hf;simp)) true)
   |_=>exact aF h
 | .ptr r off,g,hv,v',lt,m',l,l',h=>by simp only[lend] at h;replace h:=aj h;obtain⟨i,m1,l1,h1,h⟩:=h;obtain⟨hi,rfl,rfl⟩:=jc h1;simp only[run_pure,jF,nT] at h;obtain⟨⟨rfl,rfl⟩,rfl,rfl⟩:=h;refine⟨rfl,λL hL=> ?_⟩;obtain⟨_,h2⟩:=ahY hi;rw[Nat.sub_zero] at h2;obtain⟨c,c',k1,k2,k3⟩:=ahZ C.kd h2;simp only[aO,k1] at hv;simp only[aO,Xc,k2];refine⟨hv.1, ?_⟩;replace hv:=hv.2;cases c<;>cases c'<;>simp only[sameKind] at k3 hv|-;obtain⟨b,e1,e2⟩:=hv;refine⟨b, ?_,e2⟩;simp only[impμ,Nat.add_sub_cancel_left,List.getD_eq_getElem?_getD,List.getElem?_map,h2,Oa,Option.getD_some,e1]
 | .zx row off,g,hv,v',lt,m',l,l',h=>by simp only[lend,run_pure,jF,nT] at h;obtain⟨⟨rfl,rfl⟩,rfl,rfl⟩:=h;refine⟨rfl,λL hL=> ?_⟩;simp only[aO] at hv|-;obtain⟨b,o,e1,e2⟩:=hv;exact⟨b,o,e1,Sz Ve row b o e2⟩
 | .NR v,g,hv,v',lt,m',l,l',h=>by simp only[lend] at h;replace h:=aj h;obtain⟨⟨a',la⟩,m1,l1,h1,h⟩:=h;simp only[run_pure,jF,nT] at h;obtain⟨⟨rfl,rfl⟩,rfl,rfl⟩:=h;simp only[aO] at hv;obtain⟨b,x,rfl,e2,e3⟩:=hv;obtain⟨hm1,q1⟩:=aha C e3 h1;refine⟨hm1,λL hL=> ?_⟩;simp only[aO];exact⟨b,x,rfl,Ve _ _ _ e2,q1 L hL⟩
 | .clo f a b,g,hv,v',lt,m',l,l',h=>by simp only[lend] at h;replace h:=aj h;obtain⟨⟨a',la⟩,m1,l1,h1,h⟩:=h;simp only at h;replace h:=aj h;obtain⟨⟨b',lb⟩,m2,l2,h2,h⟩:=h;simp only[run_pure,jF,nT] at h;obtain⟨⟨rfl,rfl⟩,rfl,rfl⟩:=h;simp only[aO] at hv;obtain⟨x,y,rfl,e2,e3⟩:=hv;obtain⟨hm1,q1⟩:=ac5 C e2 h1;rw[hm1] at h2;obtain⟨hm2,q2⟩:=ac5 C e3 h2;refine⟨hm2,λL hL=> ?_⟩;simp only[aO];exact⟨x,y,rfl,q1 L (λr hr=>hL r (by simp[hr])),q2 L (λr hr=>hL r (by simp[hr]))⟩
 | .agg cs,g,hv,v',lt,m',l,l',h=>by simp only[lend] at h;replace h:=aj h;obtain⟨⟨a',la⟩,m1,l1,h1,h⟩:=h;simp only[run_pure,jF,nT] at h;obtain⟨⟨rfl,rfl⟩,rfl,rfl⟩:=h;simp only[aO] at hv;obtain⟨x,rfl,e2⟩:=hv;obtain⟨hm1,q1⟩:=ac5 C e2 h1;refine⟨hm1,λL hL=> ?_⟩;simp only[aO];exact⟨x,rfl,q1 L hL⟩
 | .EL _ _ _ _,g,hv,v',lt,m',l,l',h=>aF h
 | .JV _,g,hv,v',lt,m',l,l',h=>aF h
 | .undef,g,hv,v',lt,m',l,l',h=>aF h
def ac5{imp:List Nat}{cells:List Cell}(C:alF base U w m G imp cells):∀{vs:List V} {gs:List Value} (_:dn G.μ m (Gh U w G) vs gs) {vs':List V} {lt:List Nat} {m':Mem} {l l':Log}
  (_:(ahL imp vs).run m l=some ((vs',lt),m',l')),m'=m/\∀L:List Nat,(∀r,r∈lt->r∈L)->dn (impμ (imp.map G.μ)) (uF 0 cells) (view w (ZJ U G L) (· ∈G.E)) vs' gs
 |[],gs,hv,v',lt,m',l,l',h=>by simp only[ahL,run_pure,jF,nT] at h;obtain⟨⟨rfl,rfl⟩,rfl,rfl⟩:=h;simp only[dn] at hv;subst hv;exact⟨rfl,λ_ _=>by simp[dn]⟩
 |v::vs,gs,hv,v',lt,m',l,l',h=>by obtain⟨g,gs',rfl,hv1,hv2⟩:=oJ hv;simp only[ahL] at h;replace h:=aj h;obtain⟨⟨a',la⟩,m1,l1,h1,h⟩:=h;simp only at h;replace h:=aj h;obtain⟨⟨b',lb⟩,m2,l2,h2,h⟩:=h;simp only[run_pure,jF,nT] at h;obtain⟨⟨rfl,rfl⟩,rfl,rfl⟩:=h;obtain⟨hm1,q1⟩:=aha C hv1 h1;rw[hm1] at h2;obtain⟨hm2,q2⟩:=ac5 C hv2 h2;refine⟨hm2,λL hL=> ?_⟩;simp only[dn];exact⟨g,gs',rfl,q1 L (λr hr=>hL r (by simp[hr])),q2 L (λr hr=>hL r (by simp[hr]))⟩
end
def ac6{imp:List Nat}{cells:List Cell}(C:alF base U w m G imp cells):∀{vs:List V} {gs:List Value} (_:dn G.μ m (Gh U w G) vs gs) {row:Row} {lt:List Nat} {m':Mem} {l l':Log}
  (_:(XR imp vs).run m l=some ((row,lt),m',l')),m'=m/\∀L:List Nat,(∀r,r∈lt->r∈L)->jg (view w (ZJ U G L) (· ∈G.E)) row gs
 |[],gs,hv,row,lt,m',l,l',h=>by simp only[XR,run_pure,jF,nT] at h;obtain⟨⟨rfl,rfl⟩,rfl,rfl⟩:=h;exact⟨rfl,λ_ _=>by simp[jg]⟩
 |v::vs,gs,hv,row,lt,m',l,l',h=>by
  obtain⟨g,gs',rfl,hv1,hv2⟩:=oJ hv;simp only[XR] at h;replace h:=aj h;obtain⟨⟨a',la⟩,m1,l1,h1,h⟩:=h;obtain⟨hm1,q1⟩:=aha C hv1 h1;cases a' with
  |d x=>simp only at h;replace h:=aj h;obtain⟨⟨b',lb⟩,m2,l2,h2,h⟩:=h;simp only[run_pure,jF,nT] at h;obtain⟨⟨rfl,rfl⟩,rfl,rfl⟩:=h;rw[hm1] at h2;obtain⟨hm2,q2⟩:=ac6 C hv2 h2;refine⟨hm2,λL hL=> ?_⟩;have:=q1 L (λr hr=>hL r (by simp[hr]));simp only[aO] at this;exact⟨g,gs',rfl,this,q2 L (λr hr=>hL r (by simp[hr]))⟩
  |_=>exact aF h
def asA{imp:List Nat}{cells:List Cell}(C:alF base U w m G imp cells){v:V}{g:Value}(hv:aO G.μ m (Gh U w G) v g){v':V}{lt:List Nat}{m':Mem}{l l':Log}
  (h:(ag8 imp v).run m l=some ((v',lt),m',l')):m'=m/\∀L:List Nat,(∀r,r∈lt->r∈L)->aO (impμ (imp.map G.μ)) (uF 0 cells) (view w (ZJ U G L) (· ∈G.E)) v' g:=by
 cases v with
 |ptr r off=>
  simp only[ag8] at h;replace h:=aj h;obtain⟨c,m1,l1,h1,h⟩:=h;rw[uG] at h1;cases h1;cases hc:get r m with
  |none=>rw[hc] at h;exact aF h
  |some c=>
   rw[hc] at h;cases c with
   |box t cs=>
    simp only at h;replace h:=aj h;obtain⟨_,m2,l2,h1,h⟩:=h;obtain⟨hi,rfl,rfl⟩:=fJ h1;replace h:=aj h;obtain⟨⟨row,la⟩,m2,l2,h1,h⟩:=h;simp only[run_pure,jF,nT] at h;obtain⟨⟨rfl,rfl⟩,rfl,rfl⟩:=h;have hro:r ∉ G.out:=λhr=>VT hi ((C.out r).1 hr)
    obtain⟨b,a,e1,e2,e3,e4⟩:=C.ok.cell r _ hc hro;obtain⟨hm,q⟩:=ac6 C e3 h1;refine⟨hm,λL hL=> ?_⟩;simp only[aO,hc] at hv|-;obtain⟨b',e5,e6⟩:=hv.2;rw[e1] at e5;cases e5;refine⟨b,0,by rw[Nat.zero_add];exact e6,abV row 0 a.toList (λj u hj=> ?_) (q L (λk hk=>hL k (by simp[hk])))⟩;rw[Nat.zero_add];have hb:b∈G.F r:=by rw[e4];simp
    refine Le (N:=[b]) (λb' hb'=> ?_) b (by simp) a t _ e2 j u hj;simp only[List.mem_singleton] at hb';subst hb';refine⟨⟨(C.ok.lt _ (.inr ⟨r,hb⟩)).2.2,λk hk=> ?_⟩,C.ok.djE r _ hb⟩
    by_cases e:k=r
    ·rw[e];exact hL r (by simp)
    ·exact absurd hk (C.ok.dj r k (Ne.symm e) _ hb)
   |_=>exact aF h
 |zx row off=>simp only[ag8,run_pure,jF,nT] at h;obtain⟨⟨rfl,rfl⟩,rfl,rfl⟩:=h;refine⟨rfl,λL hL=> ?_⟩;simp only[aO] at hv|-;obtain⟨b,o,e1,e2⟩:=hv;exact⟨b,o,e1,Sz Ve row b o e2⟩
 |_=>exact aF h
def afp{A:Adv}{f:Nat}{imp:List Nat}{cells:List Cell}(C:alF base U w m G imp cells):
  ∀{vs:List V} {gs:List Value} {i:Nat} {N:List Nat} (_:VU A f G.μ m (dA w) (Gh U w G) i vs gs N) {vs':List V} {lt:List Nat} {m':Mem} {l l':Log}
  (_:(XT A imp f i vs).run m l=some ((vs',lt),m',l')),m'=m/\∀L:List Nat,(∀r,r∈lt->r∈L)->VU A f (impμ (imp.map G.μ)) (uF 0 cells) (dA w) (view w (ZJ U G L) (· ∈G.E)) i vs' gs N
 |[],gs,i,N,hv,v',lt,m',l,l',h=>by simp only[XT,run_pure,jF,nT] at h;obtain⟨⟨rfl,rfl⟩,rfl,rfl⟩:=h;exact⟨rfl,λ_ _=>hv⟩
 |v::vs,gs,i,N,hv,v',lt,m',l,l',h=>by
  simp only[VU] at hv;obtain⟨g,gs',N1,N2,rfl,rfl,hv1,hv2⟩:=hv;simp only[XT] at h;replace h:=aj h;obtain⟨⟨a',la⟩,m1,l1,h1,h⟩:=h;simp only at h;replace h:=aj h;obtain⟨⟨b',lb⟩,m2,l2,h2,h⟩:=h;simp only[run_pure,jF,nT] at h;obtain⟨⟨rfl,rfl⟩,rfl,rfl⟩:=h;have step:m1=m/\∀L:List Nat,(∀r,r∈la->r∈L)->(match JW A f i with
   |1=>∃x,a'=.d x/\ow (dA w) (view w (ZJ U G L) (· ∈G.E)) x g N1
   |_=>N1=[]/\aO (impμ (imp.map G.μ)) (uF 0 cells) (view w (ZJ U G L) (· ∈G.E)) a' g):=by
   split at h1
   ·rename_i hmo;rw[hmo] at hv1|-;simp only[run_pure,jF,nT] at h1;obtain⟨⟨rfl,rfl⟩,rfl,rfl⟩:=h1;refine⟨rfl,λL hL=> ?_⟩;obtain⟨x,hx,hq⟩:=hv1;exact⟨x,hx,YA Ve hq⟩
   ·rename_i hmo;rw[hmo] at hv1|-;obtain⟨hN,hv1⟩:=hv1;obtain⟨rfl,q⟩:=asA C hv1 h1;exact⟨rfl,λL hL=>⟨hN,q L hL⟩⟩
   ·rename_i aYX a8y;have hm1:∀(α:Prop) (β:Prop),(match JW A f i with|1=>α|_=>β)=β:=by
     intro α β;split
     ·rename_i e;exact absurd e aYX
     ·rfl
    rw[hm1] at hv1;obtain⟨hN,hv1⟩:=hv1;obtain⟨rfl,q⟩:=aha C hv1 h1;refine⟨rfl,λL hL=> ?_⟩;rw[hm1];exact⟨hN,q L hL⟩
  obtain⟨hm1,q1⟩:=step;rw[hm1] at h2;obtain⟨hm2,q2⟩:=afp C hv2 h2;refine⟨hm2,λL hL=> ?_⟩;simp only[VU];exact⟨g,gs',N1,N2,rfl,rfl,q1 L (λr hr=>hL r (by simp[hr])),q2 L (λr hr=>hL r (by simp[hr]))⟩
end
def VI{w:World}{U X:Nat->Prop}{b o:Nat}{v:Value}(h:view w U X b o=some v):U b/\¬X b/\w.cell? ⟨b,o,none⟩=some v:=by
 unfold view at h;split at h
 ·rename_i hc;exact⟨hc.1,hc.2,h⟩
 ·cases h
def ahb{w:World}{U X:Nat->Prop}{b o:Nat}{v:Value}(h1:U b)(h2:¬X b)(h3:w.cell? ⟨b,o,none⟩=some v):view w U X b o=some v:=by unfold view;rw[if_pos ⟨h1,h2⟩];exact h3
def cell_of_heap{w w':World}{b:Nat}(h:w'.heap[b]? =w.heap[b]?)(o:Nat):w'.cell? ⟨b,o,none⟩=w.cell? ⟨b,o,none⟩:=by simp[World.cell?,h]
def lt_of_cell{w:World}{b o:Nat}{v:Value}(h:w.cell? ⟨b,o,none⟩=some v):b<w.heap.size:=by have:=block_lt_of_cell h;simpa using this
section
variable {base:Nat} {U:Nat->Prop} {w w':World} {m:Mem} {G:GS}
def Gi.world(hg:Gi base U w m G)(hk:Keep G.E w w'){E':List Nat}(hn:E'.Nodup)(hE:∀b,b∈E'->(b∈G.E\/w.heap.size<=b)/\b<w'.heap.size):
  Gi base U w' m {G with E:=E'}/\(Gh U w G).le (Gh U w' {G with E:=E'}):=by
 have hnE:∀b,b<w.heap.size->b ∉ G.E->b ∉ E':=λb hb hx he=>by
  rcases(hE b he).1 with h|h
  ·exact hx h
  ·omega
 have hF:∀r b,b∈G.F r->w'.heap[b]? =w.heap[b]? :=λr b hb=>hk.block b (hg.lt b (.inr ⟨r,hb⟩)).1 (hg.djE r b hb)
 have hle:(Gh U w G).le (Gh U w' {G with E:=E'}):=by
  intro b o v hv;obtain⟨h1,h2,h3⟩:=VI hv;have hlt:=lt_of_cell h3;have hbE:b ∉ G.E:=λh=>h2 (.inl h)
  refine ahb h1 ?_ ((cell_of_heap (hk.block b hlt hbE) o).trans h3);rintro(h|h)
  ·exact hnE b hlt hbE h
  ·exact h2 (.inr h)
 refine⟨⟨?_,hg.dj,λr b hb=>hnE b (hg.lt b (.inr ⟨r,hb⟩)).1 (hg.djE r b hb),hg.nd,hn, ?_,λb hb=>hg.up b (Nat.le_trans hk.size hb),Nat.le_trans hg.bs hk.size,hg.none_,hg.out_⟩,hle⟩
 ·intro r c hc ho;exact Lc (sH _ _) hle rfl (λb hb=>hF r b hb) (hg.cell r c hc ho)
 ·rintro b (h|⟨r,h⟩)
  ·refine⟨(hE b h).2, ?_⟩;rcases(hE b h).1 with h'|h'
   ·exact(hg.lt b (.inl h')).2
   ·exact⟨Nat.le_trans hg.bs h',hg.up b h'⟩
  ·have:=hg.lt b (.inr ⟨r,h⟩);exact⟨Nat.lt_of_lt_of_le this.1 hk.size,this.2⟩
def alG:∀{L:List Nat} {m:Mem} {G:GS} (_:Gi base U w m G) (_:∀r,r∈L->r ∉ G.out) {x:Unit} {m':Mem} {l l':Log} (_:(freeze L).run m l=some (x,m',l')),
  ∃F',Gi base U w m' ⟨G.μ,F',G.E,G.out⟩/\Zq m G m' ⟨G.μ,F',G.E,G.out⟩/\(∀r,r∈L->F' r=[])/\(∀r,F' r=[]\/F' r=G.F r)/\(∀k,k ∉ L->get k m'=get k m)
 |[],m,G,hg,ho,x,m',l,l',h=>by simp only[Vm.freeze,run_pure,jF,nT] at h;obtain⟨_,rfl,rfl⟩:=h;exact⟨G.F,hg,Zq.refl _ _,by simp,λr=> .inr rfl,λ_ _=>rfl⟩
 |r::L,m,G,hg,ho,x,m',l,l',h=>by
  simp only[Vm.freeze] at h;replace h:=aj h;obtain⟨c,m1,l1,h1,h⟩:=h;rw[uG] at h1;cases h1;cases hc:get r m with
  |none=>rw[hc] at h;exact aF h
  |some c=>
   rw[hc] at h;cases c with
   |arr fz fl ver s rows=>
    replace h:=aj h;obtain⟨_,m1,l1,h1,h⟩:=h;simp only[DK,jF,nT] at h1;obtain⟨_,rfl,rfl⟩:=h1;obtain⟨k1,k2,_⟩:=hg.freeze hc (ho r (by simp));obtain⟨F',q1,q2,q3,q4,q5⟩:=alG k1 (λk hk=>ho k (by simp[hk])) h;refine⟨F',q1,k2.trans q2, ?_, ?_, ?_⟩
    ·intro k hk;simp only[List.mem_cons] at hk;rcases hk with rfl|hk
     ·rcases q4 k with e|e
      ·exact e
      ·rw[e];simp
     ·exact q3 k hk
    ·intro k;rcases q4 k with e|e
     ·exact .inl e
     ·by_cases ek:k=r
      ·subst ek;rw[e];left;simp
      ·have e':F' k=RZ G.F r [] k:=e;rw[e',iJ _ ek];exact .inr rfl
    ·intro k hk;simp only[List.mem_cons,not_or] at hk;rw[q5 k hk.2,jX hk.1]
   |_=>exact aF h
def ah0{k:IntKind}{x:D}{n:Int}(h:asInt k x=some n):x=.int k n:=by
 cases x<;>simp[asInt] at h;rename_i k' n'
 by_cases e:k'=k
 ·subst e;simp at h;subst h;rfl
 ·simp[e] at h
def afq{x:D}{b:Bool}(h:asBool x=some b):x=.bool b:=by cases x<;>simp[asBool] at h;subst h;rfl
def ah1{x:D}{b:List UInt8}(h:aly x=some b):x=.str b:=by cases x<;>simp[aly] at h;subst h;rfl
def alH{s:Nat}{x:D}{rows:List Row}(h:aw4 s x=some rows):∃o,x=.sl o s rows:=by
 cases x<;>simp[aw4] at h;rename_i o s' rows'
 by_cases e:s'=s
 ·subst e;simp at h;subst h;exact⟨o,rfl⟩
 ·rw[uV e] at h;simp at h
def ah2{s:Nat}{x:D}{rows:List Row}(h:atZ s x=some rows):x=.sl true s rows:=by
 cases x<;>simp[atZ] at h;rename_i o s' rows';cases o<;>simp at h
 by_cases e:s'=s
 ·subst e;simp at h;subst h;rfl
 ·rw[uV e] at h;simp at h
def ao7{row:Row}{j:Nat}{x:D}{r:Row}(h:row.drop j=x::r):nth row j=x/\row.drop (j+1)=r:=by
 have h1:row[j]? =some x:=by
  have:(row.drop j)[0]? =some x:=by rw[h];rfl
  rwa [List.getElem?_drop,Nat.add_zero] at this
 refine⟨by simp[nth,h1], ?_⟩;rw[<-List.drop_drop,h];rfl
def Gi.ah3(hg:Gi base U w m G){N E:List Nat}(hE:(N++E).Perm G.E):Gi base U w m {G with E:=E}/\Zq m G m {G with E:=E}/\∀{x:D} {g:Value},ow (dA w) (Gh U w G) x g N->ro (Gh U w {G with E:=E}) x g:=by
 have hnd:=hE.nodup_iff.2 hg.ndE;have hmem:∀b,b∈N++E->b∈G.E:=λb hb=>hE.mem_iff.1 hb
 obtain⟨h1,h2⟩:=hg.less E (List.nodup_append.1 hnd).2.1 (λb hb=>hmem b (by simp[hb]));refine⟨h1,h2,fun{x g} q=>aG3 h2.view x g N (Le λb hb=>⟨(hg.lt b (.inl (hmem b (by simp[hb])))).2.2, ?_⟩) q⟩;rintro(h|⟨r,h⟩)
 ·exact(List.nodup_append.1 hnd).2.2 b hb b h rfl
 ·exact hg.djE r b h (hmem b (by simp[hb]))
structure Grew(base:Nat)(U:Nat->Prop)(w:World)(m:Mem)(G:GS)(m':Mem)(G':GS)(E:List Nat):Prop where
 ok:Gi base U w m' G'
 le:Zq m G m' G'
 E:G'.E=E
 out:G'.out=G.out
 old:∀k c,get k m=some c->get k m'=some c
 μ:∀k c,get k m=some c->G'.μ k=G.μ k
def Grew.trans{m1 m2 m3:Mem}{G1 G2 G3:GS}{E E':List Nat}(a:Grew base U w m1 G1 m2 G2 E)(b:Grew base U w m2 G2 m3 G3 E'):Grew base U w m1 G1 m3 G3 E':=
 ⟨b.ok,a.le.trans b.le,b.E,b.out.trans a.out,λk c h=>b.old k c (a.old k c h),λk c h=>(b.μ k c (a.old k c h)).trans (a.μ k c h)⟩
def YB{k:Nat}{c:Cell}{x:Unit}{m':Mem}{l l':Log}(h:(new k c).run m l=some (x,m',l')):get k m=none/\m'=put k c m:=by
 simp only[new] at h;replace h:=aj h;obtain⟨_,m1,l1,h1,h⟩:=h;simp only[free] at h1;replace h1:=aj h1;obtain⟨c',m2,l2,h2,h1⟩:=h1;rw[uG] at h2;cases h2;cases hc:get k m with
 |some c=>rw[hc] at h1;exact aF h1
 |none=>rw[hc] at h1;simp only[run_pure,jF,nT] at h1;obtain⟨_,rfl,rfl⟩:=h1;simp only[DK,jF,nT] at h;exact⟨rfl,h.2.1.symm⟩
def alI(hg:Gi base U w m G)(ho:∀r,r∈G.out->∃c,get r m=some c){k:Nat}{fl:Bool}{s:Nat}{rows:List Row}{g:Value}{N E:List Nat}(hE:(N++E).Perm G.E)
  (hq:ow (dA w) (Gh U w G) (.sl true s rows) g N) {x:Unit} {m':Mem} {l l':Log} (h:(new k (.arr false fl 0 s rows)).run m l=some (x,m',l')):
  ∃G',Grew base U w m G m' G' E/\aO G'.μ m' (Gh U w G') (.own k 0) g:=by
 obtain⟨hn,rfl⟩:=YB h;have hk:k ∉ G.out:=λhx=>by obtain⟨c,hc⟩:=ho k hx;rw[hn] at hc;cases hc
 obtain⟨F',h1,h2⟩:=hg.aIV fl hn hk hE hq;refine⟨_,⟨h1,h2,rfl,rfl,λj c hj=> ?_,λj c hj=> ?_⟩, ?_⟩
 ·have hne:j≠k:=λe=>by subst e;rw[hn] at hj;cases hj
  rw[jX hne];exact hj
 ·exact Ld _ (λe=>by subst e;rw[hn] at hj;cases hj)
 ·have:ZG g:=by simp only[ow] at hq;rcases hq with⟨_,rfl,_⟩|⟨b,cap,cs,t,N',rfl,_⟩<;>exact⟨_,_,_,rfl⟩
  simp[aO,gV,this]
def asB(hg:Gi base U w m G)(ho:∀r,r∈G.out->∃c,get r m=some c){k b:Nat}{T:TypeId}{vs:List V}{a:Array Value}{E:List Nat}(hE:(b::E).Perm G.E)
  (hH:dA w b=some (.cells a T (0,0))) (hq:dn G.μ m (Gh U w G) vs a.toList) {x:Unit} {m':Mem} {l l':Log} (h:(new k (.box T vs)).run m l=some (x,m',l')):
  ∃G',Grew base U w m G m' G' E/\aO G'.μ m' (Gh U w G') (.ptr k 0) (.pointer (some ⟨b,0,none⟩)):=by
 obtain⟨hn,rfl⟩:=YB h;have hk:k ∉ G.out:=λhx=>by obtain⟨c,hc⟩:=ho k hx;rw[hn] at hc;cases hc
 have hnd:=hE.nodup_iff.2 hg.ndE;have hμ:∀j,j≠k->upM G.μ k (.pointer (some ⟨b,0,none⟩)) j=G.μ j:=λj e=>Ld _ e
 have hle:Ep G.μ m (upM G.μ k (.pointer (some ⟨b,0,none⟩))) (put k (.box T vs) m):=EM hμ (λc h=>by rw[hn] at h;cases h);obtain⟨h1,h2⟩:=hg.set k (.box T vs) (upM G.μ k (.pointer (some ⟨b,0,none⟩))) [b] E G.out (by simpa using hnd) (λx hx=> .inr (hE.mem_iff.1 (by simpa using hx))) hle hμ (λ_ _=>Iff.rfl) (λh=>absurd h hk)
  (λhv _=>⟨b,a,BF _ _ _,hH,sJ hle hv _ _ hq,rfl⟩)
 refine⟨_,⟨h1,h2,rfl,rfl,λj c hj=> ?_,λj c hj=> ?_⟩, ?_⟩
 ·rw[jX (λe=>by subst e;rw[hn] at hj;cases hj)];exact hj
 ·exact Ld _ (λe=>by subst e;rw[hn] at hj;cases hj)
 ·simp[aO,gV,axe]
def afr(hg:Gi base U w m G)(ho:∀r,r∈G.out->∃c,get r m=some c){row:Row}{j:Nat}{x:D}{g:Value}{N E:List Nat}(hE:(N++E).Perm G.E)(hx:nth row j=x)
  (hq:ow (dA w) (Gh U w G) x g N) {ct:CT} {own fl:Bool} {key:Nat} {v:V} {m':Mem} {l l':Log}
  (h:(Un own fl key row j ct).run m l=some (v,m',l')):
  ∃G',Grew base U w m G m' G' E/\aO G'.μ m' (Gh U w G') v g:=by
 obtain⟨d1,d2,d3⟩:=hg.ah3 hE;have plain:Grew base U w m G m {G with E:=E} E:=⟨d1,d2,rfl,rfl,λ_ _ h=>h,λ_ _ _=>rfl⟩
 have hro:=d3 hq;cases ct with
 |int k=>
  simp only[Un,bM,hx,Acc.run] at h;cases ha:asInt k x with
  |none=>simp[ha,Acc.run] at h
  |some n=>simp only[ha,Acc.run,jF,nT] at h;obtain⟨rfl,rfl,rfl⟩:=h;refine⟨_,plain, ?_⟩;rw[ah0 ha] at hro;simpa[aO] using hro
 |bool=>
  simp only[Un,Sj,hx,Acc.run] at h;cases ha:asBool x with
  |none=>simp[ha,Acc.run] at h
  |some n=>simp only[ha,Acc.run,jF,nT] at h;obtain⟨rfl,rfl,rfl⟩:=h;refine⟨_,plain, ?_⟩;rw[afq ha] at hro;simpa[aO] using hro
 |str=>
  simp only[Un,cStr,hx,Acc.run] at h;cases ha:aly x with
  |none=>simp[ha,Acc.run] at h
  |some n=>simp only[ha,Acc.run,jF,nT] at h;obtain⟨rfl,rfl,rfl⟩:=h;refine⟨_,plain, ?_⟩;rw[ah1 ha] at hro;simpa[aO] using hro
 |other=>exact aF h
 |sl s=>
  cases own with
  |false=>
   simp only[Un,NP,hx,Acc.run] at h;cases ha:aw4 s x with
   |none=>simp[ha,Acc.run] at h
   |some n=>simp only[ha,Acc.run,jF,nT] at h;obtain⟨rfl,rfl,rfl⟩:=h;refine⟨_,plain, ?_⟩;obtain⟨o,rfl⟩:=alH ha;simp only[aO];exact ahU hro
  |true=>
   simp only[Un,aoY,hx,Acc.run] at h;cases ha:atZ s x with
   |none=>simp[ha,Acc.run] at h
   |some n=>simp only[ha,Acc.run] at h;have:=ah2 ha;subst this;replace h:=aj h;obtain⟨_,m1,l1,h1,h⟩:=h;obtain⟨rfl,rfl,rfl⟩:=Zw h;exact alI hg ho hE hq h1
def GU{H:Heap}{h:View}{x:D}{r:Row}{cs:List Value}{N:List Nat}(q:iW H h (x::r) cs N):∃v cs' N1 N2,cs=v::cs'/\N=N1++N2/\ow H h x v N1/\iW H h r cs' N2:=by simpa[iW] using q
def aei{N1 N2 E E0:List Nat}(h:(N1++N2++E).Perm E0):(N1++(N2++E)).Perm E0:=by rwa [JR] at h
def ah4{own:List Nat}{r dst:Nat}{row:Row}:∀{cts:List CT} {fs:List Bool} {j:Nat} {m:Mem} {G:GS} {gs:List Value} {N E:List Nat} (_:Gi base U w m G) (_:∀r,r∈G.out->∃c,get r m=some c)
  (_:(N++E).Perm G.E) (_:iW (dA w) (Gh U w G) (row.drop j) gs N) (_:row.length=j+cts.length) (_:gs.length=cts.length) {vs:List V} {m':Mem} {l l':Log}
  (_:(acY own r dst row j cts fs).run m l=some (vs,m',l')),∃G',Grew base U w m G m' G' E/\dn G'.μ m' (Gh U w G') vs gs
 |[],fs,j,m,G,gs,N,E,hg,ho,hE,hq,hlen,hgl,vs,m',l,l',h=>by simp only[acY,run_pure,jF,nT] at h;obtain⟨rfl,rfl,rfl⟩:=h;rw[List.drop_eq_nil_of_le (by simp at hlen;omega)] at hq;simp only[iW] at hq;subst hq;simp at hgl;subst hgl;obtain⟨d1,d2,_⟩:=hg.ah3 hE;exact⟨_,⟨d1,d2,rfl,rfl,λ_ _ h=>h,λ_ _ _=>rfl⟩,by simp[dn]⟩
 |ct::cts,fs,j,m,G,gs,N,E,hg,ho,hE,hq,hlen,hgl,vs,m',l,l',h=>by
  cases hd:row.drop j with
  |nil=>have:=congrArg List.length hd;simp at this hlen;omega
  |cons x rest=>obtain⟨hx,hrest⟩:=ao7 hd;rw[hd] at hq;obtain⟨g,gs',N1,N2,rfl,rfl,q1,q2⟩:=GU hq;simp only[acY] at h;replace h:=aj h;obtain⟨v,m1,l1,h1,h⟩:=h;replace h:=aj h;obtain⟨vs',m2,l2,h2,h⟩:=h;obtain⟨rfl,rfl,rfl⟩:=Zw h;obtain⟨G1,t1,s1⟩:=afr hg ho (aei hE) hx q1 h1;obtain⟨G2,t2,s2⟩:=ah4 t1.ok (λk hk=>by rw[t1.out] at hk;obtain⟨c,hc⟩:=ho k hk;exact⟨c,t1.old k c hc⟩) (by rw[t1.E]) (by rw[hrest];exact abY t1.le.view q2) (by simp at hlen;omega) (by simpa using hgl) h2;refine⟨G2,t1.trans t2, ?_⟩;simp only[dn];exact⟨g,gs',rfl,t2.le.aO s1,s2⟩
def ZK{att:List Nat}{dst ri:Nat}{row:Row}:∀{cts:List CT} {fs:List Bool} {j:Nat} {m:Mem} {G:GS} {gs:List Value} {N E:List Nat} (_:Gi base U w m G) (_:∀r,r∈G.out->∃c,get r m=some c)
  (_:(N++E).Perm G.E) (_:iW (dA w) (Gh U w G) (row.drop j) gs N) (_:row.length=j+cts.length) (_:gs.length=cts.length) {vs:List V} {m':Mem} {l l':Log}
  (_:(XU att dst ri row j cts fs).run m l=some (vs,m',l')),∃G',Grew base U w m G m' G' E/\dn G'.μ m' (Gh U w G') vs gs
 |[],fs,j,m,G,gs,N,E,hg,ho,hE,hq,hlen,hgl,vs,m',l,l',h=>by simp only[XU,run_pure,jF,nT] at h;obtain⟨rfl,rfl,rfl⟩:=h;rw[List.drop_eq_nil_of_le (by simp at hlen;omega)] at hq;simp only[iW] at hq;subst hq;simp at hgl;subst hgl;obtain⟨d1,d2,_⟩:=hg.ah3 hE;exact⟨_,⟨d1,d2,rfl,rfl,λ_ _ h=>h,λ_ _ _=>rfl⟩,by simp[dn]⟩
 |ct::cts,fs,j,m,G,gs,N,E,hg,ho,hE,hq,hlen,hgl,vs,m',l,l',h=>by
  cases hd:row.drop j with
  |nil=>have:=congrArg List.length hd;simp at this hlen;omega
  |cons x rest=>obtain⟨hx,hrest⟩:=ao7 hd;rw[hd] at hq;obtain⟨g,gs',N1,N2,rfl,rfl,q1,q2⟩:=GU hq;simp only[XU] at h;replace h:=aj h;obtain⟨v,m1,l1,h1,h⟩:=h;replace h:=aj h;obtain⟨vs',m2,l2,h2,h⟩:=h;obtain⟨rfl,rfl,rfl⟩:=Zw h;obtain⟨G1,t1,s1⟩:=afr hg ho (aei hE) hx q1 h1;obtain⟨G2,t2,s2⟩:=ZK t1.ok (λk hk=>by rw[t1.out] at hk;obtain⟨c,hc⟩:=ho k hk;exact⟨c,t1.old k c hc⟩) (by rw[t1.E]) (by rw[hrest];exact abY t1.le.view q2) (by simp at hlen;omega) (by simpa using hgl) h2;refine⟨G2,t1.trans t2, ?_⟩;simp only[dn];exact⟨g,gs',rfl,t2.le.aO s1,s2⟩
def valOf(P:Program)(t:TypeId)(cs:List Value)(g:Value):Prop:=if Sv P t=true then g=.agg cs.toArray else cs=[g]
def ah5(P:Program)(H:Heap)(h:View)(t:TypeId)(row:Row)(g:Value)(N:List Nat):Prop:=match ahI P t with
 |some T=>∃b a N1,g=.pointer (some ⟨b,0,none⟩)/\H b=some (.cells a T (0,0))/\iW H h row a.toList N1/\row.length=a.size/\N=b::N1
 |none=>∃cs,valOf P t cs g/\iW H h row cs N/\row.length=cs.length
def alJ{P:Program}{H H':Heap}{h h':View}(hl:h.le h'){t:TypeId}{row:Row}{g:Value}{N:List Nat}(hb:∀b,b∈N->H' b=H b)(q:ah5 P H h t row g N):ah5 P H' h' t row g N:=by
 unfold ah5 at q|-;split at q
 ·obtain⟨b,a,N1,h1,h2,h3,h4,rfl⟩:=q;exact⟨b,a,N1,h1,(hb b (by simp)).trans h2,JX hl _ _ _ (λb hx=>hb b (by simp[hx])) h3,h4,rfl⟩
 ·obtain⟨cs,h1,h2,h3⟩:=q;exact⟨cs,h1,JX hl _ _ _ hb h2,h3⟩
def Qg{P:Program}{H:Heap}{h:View}{t:TypeId}{row:Row}{g:Value}{N:List Nat}(hp:ahI P t=none):ah5 P H h t row g N↔∃cs,valOf P t cs g/\iW H h row cs N/\row.length=cs.length:=by simp only[ah5,hp]
def Xd(P:Program)(H:Heap)(h:View):List TypeId->List Row->List Value->List Nat->Prop
 |[],rows,gs,N=>rows=[]/\gs=[]/\N=[]
 |t::ts,rows,gs,N=>∃row rows' g gs' N1 N2,rows=row::rows'/\gs=g::gs'/\N=N1++N2/\ah5 P H h t row g N1/\Xd P H h ts rows' gs' N2
def VW{P:Program}{H H':Heap}{h h':View}(hl:h.le h'):∀{ts:List TypeId} {rows:List Row} {gs:List Value} {N:List Nat},(∀b,b∈N->H' b=H b)->Xd P H h ts rows gs N->Xd P H' h' ts rows gs N
 |[],_,_,_,_,q=>q
 |t::ts,_,_,_,hb,⟨row,rows',g,gs',N1,N2,e1,e2,e3,h1,h4⟩=>by subst e3;exact⟨row,rows',g,gs',N1,N2,e1,e2,rfl,alJ hl (λb hx=>hb b (by simp[hx])) h1,VW hl (λb hx=>hb b (by simp[hx])) h4⟩
def Po{P:Program}{t:TypeId}{vs:List V}{v:V}(h:Ob P t vs=some v){μ:Nat->Value}{hh:View}{cs:List Value}{g:Value}(hq:dn μ m hh vs cs)(hg:valOf P t cs g):aO μ m hh v g:=by
 unfold Ob at h;unfold valOf at hg;cases ha:Sv P t with
 |true=>simp only[ha,aK,if_true,jF] at h hg;subst h;simp only[aO];exact⟨_,hg,by simpa using hq⟩
 |false=>
  simp only[ha,bg,Bool.false_eq_true,if_false] at h hg;split at h
  ·cases h;obtain⟨g',gs',e,q1,q2⟩:=oJ hq;rw[hg] at e;cases e;exact q1
  ·cases h
def akU{res:List Row}{ri:Nat}{row:Row}{rows:List Row}(h:res.drop ri=row::rows):ahM res ri=row/\res.drop (ri+1)=rows:=by
 have h1:res[ri]? =some row:=by
  have:(res.drop ri)[0]? =some row:=by rw[h];rfl
  rwa [List.getElem?_drop,Nat.add_zero] at this
 refine⟨by simp[ahM,h1], ?_⟩;rw[<-List.drop_drop,h];rfl
def avy{X:Ctx}{att:List Nat}{dst ri:Nat}{row:Row}{t:TypeId}{g:Value}{N E:List Nat}(hg:Gi base U w m G)(ho:∀r,r∈G.out->∃c,get r m=some c)
  (hE:(N++E).Perm G.E) (hq:ah5 X.P (dA w) (Gh U w G) t row g N) {v:V} {m':Mem} {l l':Log}
  (h:(asv X att dst ri row t).run m l=some (v,m',l')):∃G',Grew base U w m G m' G' E/\aO G'.μ m' (Gh U w G') v g:=by
 unfold ah5 at hq;unfold asv at h;split at hq
 ·rename_i T hT;simp only[hT] at h;obtain⟨b,a,N1,rfl,h1,h2,h3,rfl⟩:=hq;replace h:=aj h;obtain⟨_,m1,l1,k1,h⟩:=h;obtain⟨hlen,rfl,rfl⟩:=fJ k1;replace h:=aj h;obtain⟨vc,m2,l2,k2,h⟩:=h;replace h:=aj h;obtain⟨_,m3,l3,k3,h⟩:=h;simp only[run_pure,jF,nT] at h;obtain⟨rfl,rfl,rfl⟩:=h;have hlen:=yV hlen;obtain⟨G1,t1,s1⟩:=ZK (N:=N1) (E:=b::E) hg ho (by refine List.Perm.trans List.perm_middle ?_;exact hE) (by simpa using h2) (by simpa using hlen) (by rw[Array.length_toList,<-h3];exact hlen) k2;obtain⟨G2,t2,s2⟩:=asB t1.ok (λk hk=>by rw[t1.out] at hk;obtain⟨c,hc⟩:=ho k hk;exact⟨c,t1.old k c hc⟩) (by rw[t1.E]) h1 s1 k3;exact⟨G2,t1.trans t2,s2⟩
 ·rename_i hT;simp only[hT] at h;obtain⟨cs,h1,h2,h3⟩:=hq;replace h:=aj h;obtain⟨_,m1,l1,k1,h⟩:=h;obtain⟨hlen,rfl,rfl⟩:=fJ k1;replace h:=aj h;obtain⟨vc,m2,l2,k2,h⟩:=h;obtain⟨hv,rfl,rfl⟩:=jc h;have hlen:=yV hlen;obtain⟨G1,t1,s1⟩:=ZK hg ho hE (by simpa using h2) (by simpa using hlen) (by rw[<-h3];exact hlen) k2;exact⟨G1,t1,Po hv s1 h1⟩
def alK{X:Ctx}{att:List Nat}{dst:Nat}{res:List Row}:∀{ts:List TypeId} {ri:Nat} {m:Mem} {G:GS} {gs:List Value} {N E:List Nat} (_:Gi base U w m G) (_:∀r,r∈G.out->∃c,get r m=some c)
  (_:(N++E).Perm G.E) (_:Xd X.P (dA w) (Gh U w G) ts (res.drop ri) gs N) {vs:List V} {m':Mem} {l l':Log}
  (_:(abR X att dst res ri ts).run m l=some (vs,m',l')),∃G',Grew base U w m G m' G' E/\dn G'.μ m' (Gh U w G') vs gs
 |[],ri,m,G,gs,N,E,hg,ho,hE,hq,vs,m',l,l',h=>by simp only[abR,run_pure,jF,nT] at h;obtain⟨rfl,rfl,rfl⟩:=h;obtain⟨_,rfl,rfl⟩:=hq;obtain⟨d1,d2,_⟩:=hg.ah3 hE;exact⟨_,⟨d1,d2,rfl,rfl,λ_ _ h=>h,λ_ _ _=>rfl⟩,by simp[dn]⟩
 |t::ts,ri,m,G,gs,N,E,hg,ho,hE,hq,vs,m',l,l',h=>by obtain⟨row,rows',g,gs',N1,N2,e1,rfl,rfl,h1,h4⟩:=hq;obtain⟨hrow,hrest⟩:=akU e1;simp only[abR] at h;replace h:=aj h;obtain⟨v,m3,l3,k3,h⟩:=h;replace h:=aj h;obtain⟨vs',m4,l4,k4,h⟩:=h;obtain⟨rfl,rfl,rfl⟩:=Zw h;rw[hrow] at k3;obtain⟨G1,t1,s1⟩:=avy hg ho (aei hE) h1 k3;obtain⟨G2,t2,s2⟩:=alK t1.ok (λk hk=>by rw[t1.out] at hk;obtain⟨c,hc⟩:=ho k hk;exact⟨c,t1.old k c hc⟩) (by rw[t1.E]) (by rw[hrest];exact VW t1.le.view (λ_ _=>rfl) h4) k4;refine⟨G2,t1.trans t2, ?_⟩;simp only[dn];exact⟨g,gs',rfl,t2.le.aO s1,s2⟩
mutual
def aCf{H:Heap}{h h':View}:∀(x:D) (v:Value) (N:List Nat),x.pure=true->ow H h x v N->ow H h' x v N
 | .int _ _,_,_,_,q=>by simpa[ow] using q
 | .bool _,_,_,_,q=>by simpa[ow] using q
 | .str _,_,_,_,q=>by simpa[ow] using q
 | .Zo,_,_,_,q=>by simpa[ow] using q
 | .sl false s rows,v,N,hp,q=>by simp only[D.pure,List.isEmpty_iff] at hp;subst hp;simp only[ow,ro] at q|-;exact⟨q.1,by obtain⟨a,cap,h1,h2,_⟩:=q.2;exact⟨a,cap,h1,h2,λe=>absurd rfl e⟩⟩
 | .sl true s rows,v,N,hp,q=>by
  simp only[D.pure] at hp;simp only[ow] at q|-;rcases q with q|⟨b,cap,cs,t,N',h1,h2,h3,h4,h5,rfl⟩
  ·exact .inl q
  ·exact .inr ⟨b,cap,cs,t,N',h1,h2,h3,h4,afs s rows _ N' hp h5,rfl⟩
def afs{H:Heap}{h h':View}(s:Nat):∀(rows:List Row) (cs:List Value) (N:List Nat),NS rows=true->gJ H h s rows cs N->gJ H h' s rows cs N
 |[],_,_,_,q=>by simpa[gJ] using q
 |r::rs,cs,N,hp,q=>by simp only[NS,xw] at hp;simp only[gJ] at q|-;obtain⟨h1,N1,N2,rfl,h2,h3⟩:=q;exact⟨h1,N1,N2,rfl,YC r _ N1 hp.1 h2,afs s rs _ N2 hp.2 h3⟩
def YC{H:Heap}{h h':View}:∀(r:Row) (cs:List Value) (N:List Nat),bn r=true->iW H h r cs N->iW H h' r cs N
 |[],_,_,_,q=>by simpa[iW] using q
 |x::r,cs,N,hp,q=>by simp only[bn,xw] at hp;simp only[iW] at q|-;obtain⟨v,cs',N1,N2,rfl,rfl,h2,h3⟩:=q;exact⟨v,cs',N1,N2,rfl,rfl,aCf x v N1 hp.1 h2,YC r cs' N2 hp.2 h3⟩
end
def ah6{P:Program}{H:Heap}{h h':View}:∀{ts:List TypeId} {rows:List Row} {gs:List Value} {N:List Nat},rows.all bn=true->Xd P H h ts rows gs N->Xd P H h' ts rows gs N
 |[],_,_,_,_,q=>q
 |t::ts,_,_,_,hp,⟨row,rows',g,gs',N1,N2,e1,e2,e3,h1,h4⟩=>by
  subst e1;simp only[List.all_cons,xw] at hp;refine⟨row,rows',g,gs',N1,N2,rfl,e2,e3, ?_,ah6 hp.2 h4⟩;unfold ah5 at h1|-;split at h1
  ·obtain⟨b,a,M,k1,k2,k3,k4,k5⟩:=h1;exact⟨b,a,M,k1,k2,YC _ _ _ hp.1 k3,k4,k5⟩
  ·obtain⟨cs,k1,k2,k3⟩:=h1;exact⟨cs,k1,YC _ _ _ hp.1 k2,k3⟩
def drop_cons{α:Type}{l:List α}{i:Nat}{a:α}{r:List α}(h:l.drop i=a::r):l[i]? =some a/\l.drop (i+1)=r:=by
 refine⟨?_,by rw[<-List.drop_drop,h];rfl⟩;have:(l.drop i)[0]? =some a:=by rw[h];rfl
 rwa [List.getElem?_drop,Nat.add_zero] at this
def aIW(xs:List D):(xs.map V.d).map vD=xs:=by
 induction xs with
 |nil=>rfl
 |cons x xs ih=>simp[vD,ih]
def ah7{m m':Mem}(h:∀k c,get k m=some c->get k m'=some c):∀{rs:List Nat} {cs:List Cell},kinds m rs cs->kinds m' rs cs
 |[],_,q=>q
 |r::rs,_,⟨c,c',cs',h1,h2,h3,h4⟩=>⟨c,c',cs',h1,h r c h2,h3,ah7 h h4⟩
def alL{m:Mem}{r:Nat}{c0:Cell}:∀{rs:List Nat} {cs:List Cell},r ∉ rs->kinds m rs cs->kinds (put r c0 m) rs cs
 |[],_,_,q=>q
 |k::rs,_,hr,⟨c,c',cs',h1,h2,h3,h4⟩=>by simp only[List.mem_cons,not_or] at hr;exact⟨c,c',cs',h1,by rw[jX (Ne.symm hr.1)];exact h2,h3,alL hr.2 h4⟩
structure Came(base:Nat)(U:Nat->Prop)(w:World)(m:Mem)(G:GS)(m':Mem)(G':GS)(E:List Nat):Prop where
 ok:Gi base U w m' G'
 le:Zq m G m' G'
 E:G'.E=E
 out:G'.out=[]
def Ur{H:Heap}{h h':View}(hl:h.le h'){cs:List Cell}{gs:List Value}{N:List Nat}(q:cellsB H h cs gs N):cellsB H h' cs gs N:=afn hl (λ_ _=>rfl) q
def ah8{X:Ctx}{dst:Nat}{outs:List Cell}:∀{rs:List Nat} {i:Nat} {m:Mem} {G:GS} {N E:List Nat} (_:Gi base U w m G) (_:rs.Nodup) (_:G.out=rs) (_:kinds m rs (outs.drop i))
  (_:(N++E).Perm G.E) (_:cellsB (dA w) (Gh U w G) (outs.drop i) (rs.map G.μ) N) {x:Unit} {m':Mem} {l l':Log} (_:(afi X dst outs i rs).run m l=some (x,m',l')),
  ∃G',Came base U w m G m' G' E
 |[],i,m,G,N,E,hg,hn,ho,hk,hE,hq,x,m',l,l',h=>by simp only[afi,run_pure,jF,nT] at h;obtain⟨_,rfl,rfl⟩:=h;obtain⟨d1,d2,_⟩:=hg.ah3 hE;exact⟨_,d1,d2,rfl,ho⟩
 |r::rs,i,m,G,N,E,hg,hn,ho,hk,hE,hq,x,m',l,l',h=>by
  obtain⟨c,c',cs',e1,hc,hsk,hk'⟩:=hk;have hnr:=List.nodup_cons.1 hn;obtain⟨hi,hdrop⟩:=drop_cons e1;rw[e1] at hq;obtain⟨g,gs',N1,N2,eg,rfl,q1,q2⟩:=hq;simp only[PO,List.cons.injEq] at eg;obtain⟨rfl,rfl⟩:=eg;have hout:∀k,k∈G.out->∃c,get k m=some c:=by
   intro k hkm;rw[ho] at hkm;simp only[List.mem_cons] at hkm;rcases hkm with rfl|hkm
   ·exact⟨c,hc⟩
   ·obtain⟨j,hj⟩:=List.getElem?_of_mem hkm;obtain⟨c2,_,h2,_⟩:=ahZ hk' hj;exact⟨c2,h2⟩
  simp only[afi] at h;replace h:=aj h;obtain⟨c0,m1,l1,h1,h⟩:=h;rw[uG] at h1;cases h1;rw[hc] at h;cases c with
  |box t cs=>
   cases c' with
   |box t' vs=>
    obtain rfl:t=t':=hsk;obtain⟨b,a,xs,N',hμ,hH,hvs,hxl,hrow,rfl⟩:=q1;simp only at h;obtain⟨hbl,h⟩:=bck h;replace h:=aj h;obtain⟨vs',m3,l3,h3,h⟩:=h;replace h:=aj h;obtain⟨_,m4,l4,h4,h⟩:=h;rw[DK] at h4;cases h4;have hbx:axa outs i=xs:=by simp only[axa,hi,hvs];exact aIW xs
    have hbl:xs.length=(P8 X.P t).length:=by simp only[axb,hi] at hbl;have:=yV hbl;rw[hvs,List.length_map] at this;exact this
    rw[hbx] at h3;obtain⟨G1,t1,s1⟩:=ah4 hg hout (N:=N') (E:=b::(N2++E)) (List.Perm.trans (by have:(N'++b::(N2++E)).Perm (b::(N'++(N2++E))):=List.perm_middle;refine this.trans ?_;simp[JR]) hE) (by simpa using hrow) (by simpa using hbl) (by rw[<-hxl];exact hbl) h3;have hc1:=t1.old r _ hc;have aLC:=t1.ok.ndE;rw[t1.E] at aLC;have hset:=t1.ok.set r (.box t vs') G1.μ [b] (N2++E) rs (by simpa using aLC) (λk hk=> .inr (by rw[t1.E];simpa using hk))
     (EM (λ_ _=>rfl) (λc h=>by rw[hc1] at h;cases h;exact⟨rfl,rfl⟩)) (λ_ _=>rfl)
     (λk hne=>by rw[t1.out,ho];simp[hne]) (λhr=>absurd hr hnr.1)
     (λhv _=>⟨b,a,by rw[t1.μ r _ hc];exact hμ,hH,sJ (EM (λ_ _=>rfl) (λc h=>by rw[hc1] at h;cases h;exact⟨rfl,rfl⟩)) hv _ _ s1,rfl⟩)
    obtain⟨k1,k2⟩:=hset;obtain⟨G2,f1,f2,f3,f4⟩:=ah8 k1 hnr.2 rfl (alL hnr.1 (ah7 t1.old (by rw[hdrop];exact hk'))) (N:=N2) (E:=E) (List.Perm.refl _)
     (by
      rw[hdrop];have hmap:rs.map G1.μ=rs.map G.μ:=List.map_congr_left λk hk=>by obtain⟨c2,h2⟩:=hout k (by rw[ho];simp[hk]);exact t1.μ k c2 h2
      simp only[hmap];exact Ur (t1.le.view.trans' k2.view) q2) h
    exact⟨G2,f1,(t1.le.trans k2).trans f2,f3,f4⟩
   |_=>exact hsk.elim
  |arr fz fl ver s rows=>simp only at h;replace h:=aj h;obtain⟨_,m2,l2,h2,h⟩:=h;exact aF h2
  |_=>exact hsk.elim
def axj{h:View}(s:List UInt8):∀(cs:List Value),cs=s.map (λb=>Value.int .u8 b.toNat)->iI h 1 (s.map byteRow) cs:=by
 induction s with
 |nil=>intro cs _;simp[iI]
 |cons b s ih=>intro cs e;subst e;simp only[PO,iI,byteRow];exact⟨rfl,by simp[jg,ro],ih _ rfl⟩
end
open Go
def UR(b o j:Nat):(⟨b,o,none⟩:Addr).add j=⟨b,o+j,none⟩:=by
 unfold Addr.add;split
 ·rename_i h;subst h;rfl
 ·rfl
def EN{P:Program}{t:TypeId}(h:BA P t=true):∃d,P.underlying t=some d:=by
 unfold BA at h;cases hu:P.underlying t with
 |none=>simp[hu] at h
 |some d=>exact⟨d,rfl⟩
def zA{P:Program}{t:TypeId}{d:TypeDesc}(h:P.underlying t=some d):∃i,P.info? t=some i:=by
 unfold Program.underlying at h;cases hi:P.info? t with
 |none=>simp[hi] at h
 |some i=>exact⟨i,rfl⟩
def JZ{P:Program}{t:TypeId}{i:TypeInfo}(h:P.info? t=some i):oU P t=i.size:=by simp[oU,h]
section
variable {P:Program} {w:World}
def aej{t:TypeId}{d:TypeDesc}(h:P.underlying t=some d)(w:World):(isAgg t).run P w=.ok (Sv P t) w:=by unfold isAgg Sv;rw[Sem.run_bind,run_underlying h w,h];cases d<;>rfl
def Pq{t:TypeId}{b off:Nat}{cs:List Value}{g:Value}(hok:BA P t=true)(hlen:cs.length=oU P t)(hc:∀j v,cs[j]? =some v->w.cell? ⟨b,off+j,none⟩=some v)(hg:valOf P t cs g):
  (Instr.loadAt t (.pointer (some ⟨b,off,none⟩))).run P w=.ok g w:=by
 obtain⟨d,hd⟩:=EN hok;obtain⟨i,hi⟩:=zA hd;have hsz:i.size=cs.length:=by rw[hlen,JZ hi]
 unfold Instr.loadAt Instr.sureAddr;simp only[Sem.run_bind,Sem.run_pure,Result.andThen_ok,loadVar,aej hd];unfold valOf at hg;cases ha:Sv P t with
 |true=>simp only[ha,if_true] at hg;subst hg;have hl:=run_loadCells_list (P:=P) w ⟨b,off,none⟩ cs (λj v hv=>by rw[UR];exact hc j v hv);simp[sizeOf,typeInfo,hi,hsz,hl]
 |false=>simp only[ha,Bool.false_eq_true,if_false] at hg;subst hg;have:=hc 0 g rfl;simp only[Nat.add_zero] at this;simp[this]
def ZL{t T:TypeId}{b off:Nat}{cur:Array Value}{g:Value}(hok:BA P t=true)(hH:w.heap[b]? =some (.cells cur T (0,0)))(hlen:g.cells.size=oU P t)(hfit:off+g.cells.size<=cur.size)(h1:∀v∈g.cells.toList,v.oneCell'=true):
  (Instr.storeAt t (.pointer (some ⟨b,off,none⟩)) g).run P w=.ok () (w.setRow b (splice cur.toList off g.cells.toList).toArray):=by
 obtain⟨d,hd⟩:=EN hok;obtain⟨i,hi⟩:=zA hd;have hsz:g.cells.size=i.size:=by rw[hlen,JZ hi]
 have hst:=run_storeCells_at P b off T g.cells.toList 0 cur w hH (by simpa using hfit) h1;simp only[Nat.add_zero] at hst;unfold Instr.storeAt Instr.sureAddr;simp only[Sem.run_bind,Sem.run_pure,Result.andThen_ok,storeVar,sizeOf,typeInfo,run_program,hi];simp[hsz,hst,splice]
def ZM{T:TypeId}{f b off o n:Nat}{t:TypeId}(hf:Yx P T f=some (o,n,t))(hn:1<=n):
  (Instr.fieldAt T (.pointer (some ⟨b,off,none⟩)) f).run P w=.ok (.pointer (some ⟨b,off+o,none⟩)) w:=by
 unfold Yx at hf;cases hu:P.underlying T with
 |none=>simp[hu] at hf
 |some d=>
  rw[hu] at hf;cases d with
  |struct fs=>
   simp only at hf;cases hfd:fs[f]? with
   |none=>simp[hfd] at hf
   |some fd=>
    simp only[hfd,jF,nT] at hf;obtain⟨rfl,rfl,rfl⟩:=hf;cases hi:P.info? fd.type with
    |none=>simp[oU,hi] at hn
    |some i=>
     have hne:i.size≠0:=by rw[JZ hi] at hn;omega
     unfold Instr.fieldAt;simp[run_underlying hu,hfd,Instr.sureAddr,fieldPlace,sizeOf,typeInfo,hi,hne,UR]
  |_=>simp at hf
def VX{t e:TypeId}(h:elT P t=some e):P.underlying t=some (.slice e):=by
 unfold elT at h;cases hu:P.underlying t with
 |none=>simp[hu] at h
 |some d=>rw[hu] at h;cases d<;>simp at h;rw[h]
def run_indexAt{t e:TypeId}{k:IntKind}{i:Int}{b o n cap:Nat}(he:elT P t=some e){inf:TypeInfo}(hi:P.info? e=some inf)(h0:0<=i)(hn:i<n):
  (Instr.indexAt t (.slice (some ⟨b,o,none⟩) n cap) (.int k i)).run P w=.ok (.pointer (some ⟨b,o+i.toNat * inf.size,none⟩)) w:=by
 have hu:=VX he;have hc:0<=i/\i<(n:Int):=⟨h0,hn⟩
 unfold Instr.indexAt;simp[asIntOf,run_underlying hu,hc,sizeOf,typeInfo,hi,UR]
structure Src(P:Program)(size:Nat)(w:World)(y:Value)(m:Nat)(news:List Value):Prop where
 len:(Builtin.lenOf y).run P w=.ok m w
 get:(Builtin.firstCells size m y).run P w=.ok news.toArray w
 lend:(Builtin.lenOf y).run P w.drew=.ok m w.drew
 aIX:(Builtin.firstCells size m y).run P w.drew=.ok news.toArray w.drew
 n:news.length=m * size
 one:∀u∈news,u.oneCell'=true
def Src.slice{size:Nat}{a:Option Addr}{m c:Nat}{news:List Value}(hl:news.length=m * size)(h1:∀u∈news,u.oneCell'=true)
  (h:m≠0->∃b o,a=some ⟨b,o,none⟩/\∀j v,news[j]? =some v->w.cell? ⟨b,o+j,none⟩=some v):Src P size w (.slice a m c) m news:=by
 have key:∀w':World,(∀x,w'.cell? x=w.cell? x)->(Builtin.firstCells size m (.slice a m c)).run P w'=.ok news.toArray w':=by
  intro w' hw
  by_cases hm:m=0
  ·subst hm;have:news=[]:=List.eq_nil_of_length_eq_zero (by simpa using hl);subst this;cases a with
   |none=>simp[Builtin.firstCells]
   |some a=>simp[Builtin.firstCells,loadCells,loadCellsFrom]
  ·obtain⟨b,o,rfl,hc⟩:=h hm;exact run_firstCells_some (P:=P) w' size m ⟨b,o,none⟩ m c news hl (λj v hv=>by rw[UR,hw];exact hc j v hv)
 exact⟨by simp[Builtin.lenOf],key w (λ_=>rfl),by simp[Builtin.lenOf],key w.drew (λx=>rfl),hl,h1⟩
def Src.string{s:List UInt8}:Src P 1 w (.string ⟨⟨s⟩⟩) s.length (s.map λb=>Value.int .u8 b.toNat):=by
 have hsz:(⟨⟨s⟩⟩:ByteArray).size=s.length:=rfl;have hex:((⟨⟨s⟩⟩:ByteArray).extract 0 s.length)=⟨⟨s⟩⟩:=by rw[<-hsz];apply ByteArray.ext;simp[ByteArray.data_extract]
 have hm:(Array.map (λb:UInt8=>Value.int .u8 (b.toNat:Int)) ⟨s⟩)=(s.map λb=>Value.int .u8 (b.toNat:Int)).toArray:=by apply Array.ext';simp
 refine⟨by simp[Builtin.lenOf,hsz],by simp[Builtin.firstCells,hex,hm],by simp[Builtin.lenOf,hsz],by simp[Builtin.firstCells,hex,hm],by simp, ?_⟩;intro u hu;simp only[List.mem_map] at hu;obtain⟨b,_,rfl⟩:=hu;rfl
def UU{t ty y e:TypeId}{inf:TypeInfo}{z gy:Value}{m:Nat}{news:List Value}(he:P.underlying t=some (.slice e))(hty:(∃e',P.underlying y=some (.slice e'))\/P.underlying y=some .string)
  (hi:P.info? e=some inf) (hz:inf.zero=some z) (hs:Src P inf.size w gy m news) (hm:m≠0) (h63:m<=140737488355328) (hb:m * inf.bytes<=140737488355328):
  ∃cap,m<=cap/\(Builtin.append_ #[t,y] ty #[.slice none 0 0,gy]).run P w=.ok (.slice (some ⟨w.heap.size,0,none⟩) m cap) (w.drew.alloc (.cells (news.toArray++Builtin.zeroCells z.cells (cap - m)) e)):=by
 have h63':¬(9223372036854775807<(m:Int)):=ak;have h48':¬(281474976710656<Builtin.nextslicecap m 0 * inf.bytes):=by rw[nextslicecap_zero ak];omega
 refine⟨grownCap w m 0 e,grownCap_ge w m 0 e, ?_⟩;rcases hty with⟨e',hd⟩|hd<;>simp[Builtin.append_,run_underlying he,run_underlying hd,sizeOf,typeInfo,zeroValue,hi,hz,hs.len,hm,h63',h48',Question.forced,run_firstCells_none,hs.aIX,newRow,grownCap]
def UW{t ty y e:TypeId}{inf:TypeInfo}{gy:Value}{news:List Value}(he:P.underlying t=some (.slice e))(hty:(∃e',P.underlying y=some (.slice e'))\/P.underlying y=some .string)
  (hi:P.info? e=some inf) (hs:Src P inf.size w gy 0 news):
  (Builtin.append_ #[t,y] ty #[.slice none 0 0,gy]).run P w=.ok (.slice none 0 0) w:=by
 rcases hty with⟨e',hd⟩|hd<;>simp[Builtin.append_,run_underlying he,run_underlying hd,sizeOf,typeInfo,hi,hs.len,hs.get]
def run_append_fits{t ty y e T:TypeId}{inf:TypeInfo}{gy:Value}{b n m cap:Nat}{cur:Array Value}{news:List Value}(he:P.underlying t=some (.slice e))(hty:(∃e',P.underlying y=some (.slice e'))\/P.underlying y=some .string)
  (hi:P.info? e=some inf) (hs:Src P inf.size w gy m news) (hH:w.heap[b]? =some (.cells cur T (0,0))) (hroom:n+m<=cap) (hc:cur.size=cap * inf.size):
  (Builtin.append_ #[t,y] ty #[.slice (some ⟨b,0,none⟩) n cap,gy]).run P w=.ok (.slice (some ⟨b,0,none⟩) (n+m) cap) (w.setRow b (splice cur.toList (n * inf.size) news).toArray):=by
 have hfit:n * inf.size+0+news.length<=cur.size:=by rw[hs.n,hc,Nat.add_zero,<-Nat.add_mul];exact Nat.mul_le_mul_right _ hroom
 have hst:=run_storeCells_at P b (n * inf.size) T news 0 cur w hH hfit hs.one;simp only[Nat.add_zero] at hst;rcases hty with⟨e',hd⟩|hd<;>simp[Builtin.append_,run_underlying he,run_underlying hd,sizeOf,typeInfo,hi,hs.len,hroom,hs.get,UR,hst,splice]
def agj{t ty y e:TypeId}{inf:TypeInfo}{z gy:Value}{b n m cap:Nat}{olds news:List Value}(he:P.underlying t=some (.slice e))(hty:(∃e',P.underlying y=some (.slice e'))\/P.underlying y=some .string)
  (hi:P.info? e=some inf) (hz:inf.zero=some z) (hs:Src P inf.size w gy m news) (hl:olds.length=n * inf.size) (ho:∀j v,olds[j]? =some v->w.cell? ⟨b,0+j,none⟩=some v) (hroom:cap<n+m) (h63:n+m<=140737488355328) (hb:(n+m) * inf.bytes<=140737488355328):
  ∃cap',n+m<=cap'/\(Builtin.append_ #[t,y] ty #[.slice (some ⟨b,0,none⟩) n cap,gy]).run P w=.ok (.slice (some ⟨w.heap.size,0,none⟩) (n+m) cap') (w.drew.alloc (.cells ((olds++news).toArray++Builtin.zeroCells z.cells (cap' - (n+m))) e)):=by
 have hn:¬(n+m<=cap):=ak;have h63':¬(9223372036854775807<((n:Int)+(m:Int))):=ak;have h48':¬(281474976710656<Builtin.nextslicecap (n+m) cap * inf.bytes):=by have:=growslice_fits hroom hb;omega
 have hfo:=run_firstCells_some (P:=P) w.drew inf.size n ⟨b,0,none⟩ n cap olds hl (λj v hv=>by rw[UR];exact ho j v hv);refine⟨grownCap w (n+m) cap e,grownCap_ge w (n+m) cap e, ?_⟩;rcases hty with⟨e',hd⟩|hd<;>simp[Builtin.append_,run_underlying he,run_underlying hd,sizeOf,typeInfo,zeroValue,hi,hz,hs.len,hn,h63',h48',Question.forced,hfo,hs.aIX,newRow,grownCap]<;>
  (congr 2;apply Array.ext';simp[JR])
def ab1{t ty y e T:TypeId}{inf:TypeInfo}{gy:Value}{b o n m cap:Nat}{cur:Array Value}{news:List Value}(he:P.underlying t=some (.slice e))(hty:(∃e',P.underlying y=some (.slice e'))\/P.underlying y=some .string)
  (hi:P.info? e=some inf) (hs:Src P inf.size w gy m news) (hH:w.heap[b]? =some (.cells cur T (0,0))) (hroom:n+m<=cap) (hc:o+cap * inf.size<=cur.size):
  (Builtin.append_ #[t,y] ty #[.slice (some ⟨b,o,none⟩) n cap,gy]).run P w=.ok (.slice (some ⟨b,o,none⟩) (n+m) cap) (w.setRow b (splice cur.toList (o+n * inf.size) news).toArray):=by
 have hfit:(o+n * inf.size)+0+news.length<=cur.size:=by have:=Nat.mul_le_mul_right inf.size hroom;rw[Nat.add_mul] at this;rw[hs.n];omega
 have hst:=run_storeCells_at P b (o+n * inf.size) T news 0 cur w hH hfit hs.one;simp only[Nat.add_zero] at hst;rcases hty with⟨e',hd⟩|hd<;>simp[Builtin.append_,run_underlying he,run_underlying hd,sizeOf,typeInfo,hi,hs.len,hroom,hs.get,UR,hst,splice]
def ab2{t ty y e:TypeId}{inf:TypeInfo}{z gy:Value}{b o n m cap:Nat}{olds news:List Value}(he:P.underlying t=some (.slice e))(hty:(∃e',P.underlying y=some (.slice e'))\/P.underlying y=some .string)
  (hi:P.info? e=some inf) (hz:inf.zero=some z) (hs:Src P inf.size w gy m news) (hl:olds.length=n * inf.size) (ho:∀j v,olds[j]? =some v->w.cell? ⟨b,o+j,none⟩=some v) (hroom:cap<n+m) (h63:n+m<=140737488355328) (hb:(n+m) * inf.bytes<=140737488355328):
  ∃cap',n+m<=cap'/\(Builtin.append_ #[t,y] ty #[.slice (some ⟨b,o,none⟩) n cap,gy]).run P w=.ok (.slice (some ⟨w.heap.size,0,none⟩) (n+m) cap') (w.drew.alloc (.cells ((olds++news).toArray++Builtin.zeroCells z.cells (cap' - (n+m))) e)):=by
 have hn:¬(n+m<=cap):=ak;have h63':¬(9223372036854775807<((n:Int)+(m:Int))):=ak;have h48':¬(281474976710656<Builtin.nextslicecap (n+m) cap * inf.bytes):=by have:=growslice_fits hroom hb;omega
 have hfo:=run_firstCells_some (P:=P) w.drew inf.size n ⟨b,o,none⟩ n cap olds hl (λj v hv=>by rw[UR];exact ho j v hv);refine⟨grownCap w (n+m) cap e,grownCap_ge w (n+m) cap e, ?_⟩;rcases hty with⟨e',hd⟩|hd<;>simp[Builtin.append_,run_underlying he,run_underlying hd,sizeOf,typeInfo,zeroValue,hi,hz,hs.len,hn,h63',h48',Question.forced,hfo,hs.aIX,newRow,grownCap]<;>
  (congr 2;apply Array.ext';simp[JR])
end
structure Fr(M0:List Nat)(w0 w:World)(G:GS):Prop where
 keep:Keep M0 w0 w
 fr:∀b,excl G.F G.E b->b∈M0\/w0.heap.size<=b
structure Nx(base:Nat)(U:Nat->Prop)(M0:List Nat)(w0 w:World)(m:Mem)(G:GS)(w':World)(m':Mem)(G':GS):Prop where
 ok:Gi base U w' m' G'
 E:G'.E=[]
 out:G'.out=[]
 mem:Ep G.μ m G'.μ m'
 view:(Gh U w G).le (Gh U w' G')
 fr:Fr M0 w0 w' G'
structure At(base:Nat)(U:Nat->Prop)(M0:List Nat)(w0 w:World)(m:Mem)(G:GS):Prop where
 ok:Gi base U w m G
 E:G.E=[]
 out:G.out=[]
 fr:Fr M0 w0 w G
def Us{P:Program}{o:Oper}{a:Act}{w w':World}{K:Act->World->Prop}{Q:Exit->Act->World->Prop}{g:Value}(h:(execOp a.eval o).run P w=.ok (.value g) w')(hn:K (a.put o.dst g) w'):o.wp P a w K Q:=by unfold Oper.wp;rw[h];exact hn
def wp_skip{P:Program}{o:Oper}{a:Act}{w w':World}{K:Act->World->Prop}{Q:Exit->Act->World->Prop}(h:(execOp a.eval o).run P w=.ok .skip w')(hn:K (a.put o.dst undef) w'):o.wp P a w K Q:=by unfold Oper.wp;rw[h];exact hn
section
variable {base:Nat} {U:Nat->Prop} {M0:List Nat} {w0 w w':World} {m m':Mem} {G G':GS} {P:Program}
def At.nx(h:At base U M0 w0 w m G):Nx base U M0 w0 w m G w m G:=⟨h.ok,h.E,h.out,sH _ _,View.le_refl _,h.fr⟩
def Nx.at_(h:Nx base U M0 w0 w m G w' m' G'):At base U M0 w0 w' m' G':=⟨h.ok,h.E,h.out,h.fr⟩
def Nx.trans{w2:World}{m2:Mem}{G2:GS}(h:Nx base U M0 w0 w m G w' m' G')(k:Nx base U M0 w0 w' m' G' w2 m2 G2):Nx base U M0 w0 w m G w2 m2 G2:=
 ⟨k.ok,k.E,k.out,wG h.mem k.mem,h.view.trans' k.view,k.fr⟩
def Nx.aO(h:Nx base U M0 w0 w m G w' m' G'){v:V}{g:Value}(q:aO G.μ m (Gh U w G) v g):aO G'.μ m' (Gh U w' G') v g:=AZ h.mem h.view v g q
def Nx.dn(h:Nx base U M0 w0 w m G w' m' G'){v:List V}{g:List Value}(q:dn G.μ m (Gh U w G) v g):dn G'.μ m' (Gh U w' G') v g:=sJ h.mem h.view v g q
def Fr.less(h:Fr M0 w0 w G)(hx:∀b,excl G'.F G'.E b->excl G.F G.E b):Fr M0 w0 w G':=⟨h.keep,λb hb=>h.fr b (hx b hb)⟩
def At.still(h:At base U M0 w0 w m G)(hg:Gi base U w m' G')(hl:Zq m G m' G')(ho:G'.out=[]):
  Nx base U M0 w0 w m G w m' {G' with E:=[]}:=by
 obtain⟨k1,k2⟩:=hg.less [] (by simp) (by simp);have:=hl.trans k2;exact⟨k1,rfl,ho,this.mem,this.view,h.fr.less this.ex⟩
def Qh{μ:Nat->Value}{h:View}:∀{a b:List V} {g k:List Value},dn μ m h a g->dn μ m h b k->dn μ m h (a++b) (g++k)
 |[],b,g,k,ha,hb=>by simp only[dn] at ha;subst ha;simpa using hb
 |v::a,b,g,k,ha,hb=>by obtain⟨g0,g',rfl,h1,h2⟩:=oJ ha;simp only[VE,dn];exact⟨g0,g'++k,rfl,h1,Qh h2 hb⟩
def ab3{μ:Nat->Value}{h:View}:∀{a:List V} {g:List Value} (n:Nat),dn μ m h a g->dn μ m h (a.drop n) (g.drop n)
 |a,g,0,ha=>by simpa using ha
 |[],g,n+1,ha=>by simp only[dn] at ha;subst ha;simp[dn]
 |v::a,g,n+1,ha=>by obtain⟨g0,g',rfl,h1,h2⟩:=oJ ha;simpa using ab3 n h2
def ab4{μ:Nat->Value}{h:View}:∀{a:List V} {g:List Value} (n:Nat),dn μ m h a g->dn μ m h (a.take n) (g.take n)
 |a,g,0,ha=>by simp[dn]
 |[],g,n+1,ha=>by simp only[dn] at ha;subst ha;simp[dn]
 |v::a,g,n+1,ha=>by obtain⟨g0,g',rfl,h1,h2⟩:=oJ ha;simp only[List.take_succ_cons,dn];exact⟨g0,g'.take n,rfl,h1,ab4 n h2⟩
def ah9{μ:Nat->Value}{h:View}{a:List V}{g:List Value}(o n:Nat)(q:dn μ m h a g):dn μ m h (part a o n) ((g.drop o).take n):=ab4 n (ab3 o q)
def YD{μ:Nat->Value}{h:View}{a b:List V}{g k:List Value}(o:Nat)(q:dn μ m h a g)(q':dn μ m h b k):dn μ m h (splice a o b) (splice g o k):=by have hl:k.length=b.length:=jG q';unfold splice;rw[hl];exact Qh (Qh (ab4 o q) q') (ab3 _ q)
def alM{μ:Nat->Value}{h:View}:∀{a:List V} {g:List Value} {i:Nat} {v:V},dn μ m h a g->a[i]? =some v->∃x,g[i]? =some x/\aO μ m h v x
 |[],g,i,v,ha,hi=>by simp at hi
 |v0::a,g,i,v,ha,hi=>by
  obtain⟨g0,g',rfl,h1,h2⟩:=oJ ha;cases i with
  |zero=>simp at hi;subst hi;exact⟨g0,rfl,h1⟩
  |succ i=>simpa using alM h2 (by simpa using hi)
def alN{t:TypeId}{vs:List V}{v:V}(h:Ob P t vs=some v){μ:Nat->Value}{hh:View}{cs:List Value}(hq:dn μ m hh vs cs):∃g,valOf P t cs g:=by
 unfold Ob at h;unfold valOf;cases ha:Sv P t with
 |true=>exact⟨_,by simp;rfl⟩
 |false=>
  simp only[ha,bg] at h;split at h
  ·obtain⟨g',gs',e,q1,q2⟩:=oJ hq;simp only[dn] at q2;subst q2;exact⟨g',by simpa using e⟩
  ·cases h
def Xx{h:View}{x:D}{g:Value}(q:ro h x g):g.oneCell'=true:=by
 cases x with
 |sl o s rows=>simp only[ro] at q;obtain⟨a,cap,rfl,_⟩:=q;rfl
 |_=>simp only[ro] at q;subst q;rfl
def aua{row:Row}{j:Nat}{x:D}(h:nth row j=x)(hx:x≠.Zo):row[j]? =some x:=by
 unfold nth at h;cases hr:row[j]? with
 |none=>rw[hr] at h;exact absurd h.symm hx
 |some y=>rw[hr] at h;exact congrArg some h
def avz{s:Nat}{x:D}{rows:List Row}(h:aB7 s x=some rows):∃o,x=.sl o s rows/\(o=false\/rows=[]):=by
 cases x<;>simp[aB7] at h;rename_i o s' rows'
 by_cases e:s'=s
 ·subst e;simp at h;cases o with
  |false=>simp at h;subst h;exact⟨false,rfl,.inl rfl⟩
  |true=>
   cases rows' with
   |nil=>simp at h;subst h;exact⟨true,rfl,.inr rfl⟩
   |cons _ _=>simp at h
 ·rw[uV e] at h;simp at h
def aaV{strict:Bool}{row:Row}{μ:Nat->Value}{h:View}(cell:Nat->Option Value)(Rel:D->Value->Prop)(hrow:∀k x,row[k]? =some x->∃g,cell k=some g/\Rel x g)
  (hint:∀k n g,Rel (.int k n) g->g=.int k n) (aG5:∀b g,Rel (.bool b) g->g=.bool b) (hstr:∀s g,Rel (.str s) g->g=.string ⟨⟨s⟩⟩)
  (hsl:∀o s rs g,Rel (.sl o s rs) g->(strict=true->o=false\/rs=[])->ro h (.sl false s rs) g):
  ∀(cts:List CT) (j:Nat) (c:List V->Acc V) (m0:Mem) (l:Log) (r:V×Mem×Log),(Qa strict cts row j c).run m0 l=some r->
   ∃vs cs,(c vs).run m0 l=some r/\cs.length=cts.length/\dn μ m h vs cs/\∀i g,cs[i]? =some g->cell (j+i)=some g
 |[],j,c,m0,l,r,hr=>⟨[],[],hr,rfl,by simp[dn],by simp⟩
 |ct::cts,j,c,m0,l,r,hr=>by
  have go:∀(x:D) (y:V),nth row j=x->x≠.Zo->(∀g,Rel x g->aO μ m h y g)->(Qa strict cts row (j+1) λvs=>c (y::vs)).run m0 l=some r->
    ∃vs cs,(c vs).run m0 l=some r/\cs.length=(ct::cts).length/\dn μ m h vs cs/\∀i g,cs[i]? =some g->cell (j+i)=some g:=by
   intro x y hx hxn hs hr;obtain⟨g,hg,hrel⟩:=hrow j x (aua hx hxn);obtain⟨vs,cs,h1,h2,h3,h4⟩:=aaV cell Rel hrow hint aG5 hstr hsl cts (j+1) _ m0 l r hr;refine⟨y::vs,g::cs,h1,by simp[h2],by simp only[dn];exact⟨g,cs,rfl,hs g hrel,h3⟩, ?_⟩;intro i g' hi;cases i with
   |zero=>simp at hi;subst hi;exact hg
   |succ i=>have:=h4 i g' (by simpa using hi);rw[show j+(i+1)=j+1+i from by omega];exact this
  cases ct with
  |int k=>
   simp only[Qa,Acc.run,bM] at hr;cases ha:asInt k (nth row j) with
   |none=>simp[ha,Acc.run] at hr
   |some n=>simp only[ha,Acc.run] at hr;exact go _ _ (ah0 ha) (by simp) (λg hg=>by rw[hint _ _ g hg];simp[aO,ro]) hr
  |bool=>
   simp only[Qa,Acc.run,Sj] at hr;cases ha:asBool (nth row j) with
   |none=>simp[ha,Acc.run] at hr
   |some n=>simp only[ha,Acc.run] at hr;exact go _ _ (afq ha) (by simp) (λg hg=>by rw[aG5 _ g hg];simp[aO,ro]) hr
  |str=>
   simp only[Qa,Acc.run,cStr] at hr;cases ha:aly (nth row j) with
   |none=>simp[ha,Acc.run] at hr
   |some n=>simp only[ha,Acc.run] at hr;exact go _ _ (ah1 ha) (by simp) (λg hg=>by rw[hstr _ g hg];simp[aO,ro]) hr
  |other=>simp[Qa,Acc.run] at hr
  |sl s=>
   simp only[Qa,Acc.run,cRo,NP] at hr;cases strict with
   |true=>
    simp only[aK] at hr;cases ha:aB7 s (nth row j) with
    |none=>simp[ha,Acc.run] at hr
    |some n=>simp only[ha,Acc.run] at hr;obtain⟨o,hx,ho⟩:=avz ha;exact go _ _ hx (by simp) (λg hg=>by simp only[aO];exact hsl _ _ _ g hg (λ_=>ho)) hr
   |false=>
    simp only[bg] at hr;cases ha:aw4 s (nth row j) with
    |none=>simp[ha,Acc.run] at hr
    |some n=>simp only[ha,Acc.run] at hr;obtain⟨o,hx⟩:=alH ha;exact go _ _ hx (by simp) (λg hg=>by simp only[aO];exact hsl _ _ _ g hg (λh=>by cases h)) hr
def aek{h:View}{b:Nat}:∀{r:Row} {o k:Nat} {x:D},yX h r b o->r[k]? =some x->∃g,h b (o+k)=some g/\ro h x g
 |[],_,_,_,_,hk=>by simp at hk
 |y::r,o,0,x,q,hk=>by simp only[yX] at q;simp at hk;subst hk;simpa using q.1
 |y::r,o,k+1,x,q,hk=>by
  simp only[yX] at q;have:=aek q.2 (by simpa using hk)
  rwa [show o+(k+1)=o+1+k from by omega]
def ZN{h:View}:∀{r:Row} {cs:List Value} {k:Nat} {x:D},jg h r cs->r[k]? =some x->∃g,cs[k]? =some g/\ro h x g
 |[],_,_,_,_,hk=>by simp at hk
 |y::r,cs,0,x,⟨v,cs',e,h1,h2⟩,hk=>by simp at hk;subst hk;subst e;exact⟨v,rfl,h1⟩
 |y::r,cs,k+1,x,⟨v,cs',e,h1,h2⟩,hk=>by subst e;simpa using ZN h2 (by simpa using hk)
def alO{H:Heap}{h:View}:∀{r:Row} {cs:List Value} {N:List Nat} {k:Nat} {x:D},iW H h r cs N->r[k]? =some x->∃g N1,cs[k]? =some g/\ow H h x g N1
 |[],_,_,_,_,_,hk=>by simp at hk
 |y::r,cs,N,0,x,q,hk=>by obtain⟨v,cs',N1,N2,rfl,rfl,h1,h2⟩:=GU q;simp at hk;subst hk;exact⟨v,N1,rfl,h1⟩
 |y::r,cs,N,k+1,x,q,hk=>by obtain⟨v,cs',N1,N2,rfl,rfl,h1,h2⟩:=GU q;simpa using alO h2 (by simpa using hk)
def Pv{h:View}{s b:Nat}:∀{rs:List Row} {o k:Nat} {r:Row},oW h s rs b o->rs[k]? =some r->r.length=s/\yX h r b (o+k * s)
 |[],_,_,_,_,hk=>by simp at hk
 |y::rs,o,0,x,q,hk=>by simp only[oW] at q;simp at hk;subst hk;simpa using⟨q.1,q.2.1⟩
 |y::rs,o,k+1,x,q,hk=>by
  simp only[oW] at q;have:=Pv q.2.2 (by simpa using hk)
  rwa [show o+(k+1) * s=o+s+k * s from by rw[Nat.add_mul];omega]
def YE{h:View}{s:Nat}:∀{rs:List Row} {cs:List Value} {k:Nat} {r:Row},iI h s rs cs->rs[k]? =some r->r.length=s/\jg h r (cs.drop (k * s))
 |[],_,_,_,_,hk=>by simp at hk
 |y::rs,cs,0,x,q,hk=>by simp at hk;subst hk;simpa using⟨q.1,q.2.1⟩
 |y::rs,cs,k+1,x,q,hk=>by
  have:=YE q.2.2 (by simpa using hk);rw[List.drop_drop] at this
  rwa [show(k+1) * s=s+k * s from by rw[Nat.add_mul];omega]
def aia{H:Heap}{h:View}{s:Nat}:∀{rs:List Row} {cs:List Value} {N:List Nat} {k:Nat} {r:Row},gJ H h s rs cs N->rs[k]? =some r->r.length=s/\∃N1,iW H h r (cs.drop (k * s)) N1
 |[],_,_,_,_,_,hk=>by simp at hk
 |y::rs,cs,N,0,x,q,hk=>by simp only[gJ] at q;obtain⟨h1,N1,N2,rfl,h2,h3⟩:=q;simp at hk;subst hk;exact⟨h1,N1,by simpa using h2⟩
 |y::rs,cs,N,k+1,x,q,hk=>by
  simp only[gJ] at q;obtain⟨h1,N1,N2,rfl,h2,h3⟩:=q;have:=aia h3 (by simpa using hk);rw[List.drop_drop] at this
  rwa [show(k+1) * s=s+k * s from by rw[Nat.add_mul];omega]
def aub{h:View}{fz fl:Bool}{ver s:Nat}{rows:List Row}{r i:Nat}{row:Row}{N:List Nat}(hq:nY G.μ m (dA w) h r (.arr fz fl ver s rows) N)(hl:h.le (full w))(hi:rows[i]? =some row):
  ∃b o cap,G.μ r=.slice (some ⟨b,o,none⟩) rows.length cap/\(fz=false->o=0)/\row.length=s/\
   ∃Rel:D->Value->Prop,(∀k x,row[k]? =some x->∃g,full w b (o+i * s+k)=some g/\Rel x g)/\
   (∀k n g,Rel (.int k n) g->g=.int k n)/\(∀b g,Rel (.bool b) g->g=.bool b)/\(∀s g,Rel (.str s) g->g=.string ⟨⟨s⟩⟩)/\
   (∀o s rs g,Rel (.sl o s rs) g->(o=false\/rs=[])->ro h (.sl false s rs) g):=by
 have hne:rows≠[]:=by intro e;subst e;simp at hi
 cases fz with
 |true=>
  obtain⟨h1,_⟩:=hq;simp only[ro] at h1;obtain⟨a,cap,h2,h3,h4⟩:=h1;obtain⟨b,o,rfl,h5⟩:=h4 hne;obtain⟨h6,h7⟩:=Pv h5 hi;refine⟨b,o,cap,h2,by simp,h6,ro h,λk x hk=> ?_, ?_, ?_, ?_, ?_⟩
  ·obtain⟨g,hg1,hg2⟩:=aek h7 hk;exact⟨g,hl _ _ _ hg1,hg2⟩
  ·intro k n g hg;simpa[ro] using hg
  ·intro b g hg;simpa[ro] using hg
  ·intro s g hg;simpa[ro] using hg
  ·intro o s rs g hg _;exact ZH hg
 |false=>
  simp only[nY] at hq;rcases hq with⟨rfl,_,_⟩|⟨b,cap,cs,t,N',h1,h2,h3,h4,h5,_⟩
  ·exact absurd rfl hne
  ·have hfull:∀k g,(cs.toList.drop (i * s))[k]? =some g->full w b (0+i * s+k)=some g:=by intro k g hg;rw[List.getElem?_drop] at hg;rw[full_cell h3,Nat.zero_add];exact hg
   cases fl with
   |true=>
    obtain⟨h6,h7⟩:=YE h5.1 hi;refine⟨b,0,cap,h1,by simp,h6,ro h,λk x hk=> ?_, ?_, ?_, ?_, ?_⟩
    ·obtain⟨g,hg1,hg2⟩:=ZN h7 hk;exact⟨g,hfull k g hg1,hg2⟩
    ·intro k n g hg;simpa[ro] using hg
    ·intro b g hg;simpa[ro] using hg
    ·intro s g hg;simpa[ro] using hg
    ·intro o s rs g hg _;exact ZH hg
   |false=>
    obtain⟨h6,N1,h7⟩:=aia h5 hi;refine⟨b,0,cap,h1,by simp,h6,λx g=>∃N,ow (dA w) h x g N,λk x hk=> ?_, ?_, ?_, ?_, ?_⟩
    ·obtain⟨g,N2,hg1,hg2⟩:=alO h7 hk;exact⟨g,hfull k g hg1,N2,hg2⟩
    ·rintro k n g ⟨N,hg⟩;simp only[ow] at hg;exact hg.1
    ·rintro b g ⟨N,hg⟩;simp only[ow] at hg;exact hg.1
    ·rintro s g ⟨N,hg⟩;simp only[ow] at hg;exact hg.1
    ·rintro o s rs g ⟨N,hg⟩ ho;cases o with
     |false=>simp only[ow] at hg;exact hg.2
     |true=>
      rcases ho with ho|rfl
      ·cases ho
      ·simp only[ow] at hg;rcases hg with⟨_,rfl,_⟩|⟨b,cap,cs,t,N',e1,e2,_⟩
       ·simp[ro]
       ·simp only[ro];exact⟨_,cap,e1,by simp,λe=>absurd rfl e⟩
def auc{h:View}{s:Nat}{rows:List Row}{g:Value}{i:Nat}{row:Row}{N:List Nat}(hq:agi (dA w) h s rows g N)(hi:rows[i]? =some row):
  ∃b o cap,g=.slice (some ⟨b,o,none⟩) rows.length cap/\row.length=s/\∀k x,row[k]? =some x->∃v,full w b (o+i * s+k)=some v/\ro h x v:=by
 rcases hq with⟨rfl,_,_⟩|⟨b,o,cap,cs,t,h1,h2,h3,h4,h5,_⟩
 ·simp at hi
 ·obtain⟨h6,h7⟩:=YE h5 hi;refine⟨b,o,cap,h1,h6,λk x hk=> ?_⟩;obtain⟨v,hv1,hv2⟩:=ZN h7 hk;refine⟨v, ?_,hv2⟩;rw[full_cell (w:=w) h3];rw[List.getElem?_drop,List.getElem?_drop,<-Nat.add_assoc] at hv1;exact hv1
def ao8{t:TypeId}{b:Nat}{x:Value}{v:V}(hok:BA P t=true)(hc:(Nat.beq (oU P t) 1 && !(Sv P t))=true)(hx:full w b 0=some x)(hs:aO G.μ m (Gh U w G) v x):
  ∃g,(Instr.loadAt t (.pointer (some ⟨b,0,none⟩))).run P w=.ok g w/\aO G.μ m (Gh U w G) v g:=by
 simp only[xw,Bool.not_eq_true'] at hc;have hsz:=yV hc.1;have hv:Ob P t [v]=some v:=by simp[Ob,hc.2]
 have hp:dn G.μ m (Gh U w G) [v] [x]:=by simp only[dn];exact⟨x,[],rfl,hs,rfl⟩
 obtain⟨g,hg⟩:=alN hv hp;refine⟨g,Pq hok (by simp;omega) ?_ hg,Po hv hp hg⟩;intro j y hj;cases j with
 |zero=>simp at hj;subst hj;exact hx
 |succ j=>simp at hj
def axk(hA:At base U M0 w0 w m G){t:TypeId}{a:V}{ga:Value}(ha:aO G.μ m (Gh U w G) a ga){v:V}{l l':Log}(h:(aw6 P t a).run m l=some (v,m',l')):
  ∃g,(Instr.loadAt t ga).run P w=.ok g w/\m'=m/\aO G.μ m (Gh U w G) v g:=by
 simp only[aw6] at h;replace h:=aj h;obtain⟨_,m1,l1,h1,h⟩:=h;obtain⟨hok,rfl,rfl⟩:=fJ h1;simp only[xw] at hok;obtain⟨hok,hsz⟩:=hok;have hsz:=yV hsz;cases a with
 |ptr r off=>
  simp only at h;replace h:=aj h;obtain⟨c,m2,l2,h2,h⟩:=h;rw[uG] at h2;cases h2;cases hc:get r m1 with
  |none=>rw[hc] at h;exact aF h
  |some c=>
   rw[hc] at h;cases c with
   |AQ T x=>simp only at h;replace h:=aj h;obtain⟨_,m2,l2,h2,h⟩:=h;obtain⟨hfit,rfl,rfl⟩:=fJ h2;simp only[run_pure,jF,nT] at h;obtain⟨rfl,rfl,rfl⟩:=h;simp only[xw] at hfit;have h0:=yV hfit.1;subst h0;simp only[aO,hc] at ha;obtain⟨_,b,hμ,rfl⟩:=ha;obtain⟨_,b',y,e1,e2,e3⟩:=hA.ok.cell r _ hc (by rw[hA.out];simp);rw[hμ] at e1;cases e1;obtain⟨g,hg1,hg2⟩:=ao8 (P:=P) hok (by rw[xw];exact hfit.2) (vI _ _ _ _ _ _ e2) e3;exact⟨g,hg1,rfl,hg2⟩
   |box T cs=>
    simp only at h;replace h:=aj h;obtain⟨_,m2,l2,h2,h⟩:=h;obtain⟨hfit,rfl,rfl⟩:=fJ h2;obtain⟨hv,rfl,rfl⟩:=jc h;simp only[aO,hc] at ha;obtain⟨_,b,hμ,rfl⟩:=ha;obtain⟨b',arr,e1,e2,e3,e4⟩:=hA.ok.cell r _ hc (by rw[hA.out];simp);rw[hμ] at e1;cases e1;have hp:=ah9 off (oU P t) e3;have hlen:arr.size=cs.length:=by simpa using jG e3
    have hfit:=Nat.le_of_ble_eq_true hfit;obtain⟨g,hg⟩:=alN hv hp;refine⟨g,Pq hok (by simp;omega) ?_ hg,rfl,Po hv hp hg⟩;intro j x hj;have hj':j<oU P t:=by have:=(PN.1 hj).1;simp at this;omega
    rw[List.getElem?_take,if_pos hj',List.getElem?_drop] at hj;have:=full_cell (w:=w) e2 (off+j);rw[hj] at this;exact this
   |_=>exact aF h
 |NR x=>simp only at h;replace h:=aj h;obtain⟨_,m2,l2,h2,h⟩:=h;obtain⟨hfit,rfl,rfl⟩:=fJ h2;simp only[run_pure,jF,nT] at h;obtain⟨rfl,rfl,rfl⟩:=h;simp only[aO] at ha;obtain⟨b,y,rfl,e2,e3⟩:=ha;obtain⟨g,hg1,hg2⟩:=ao8 (P:=P) hok hfit (vI _ _ _ _ _ _ e2) e3;exact⟨g,hg1,rfl,hg2⟩
 |zx row off=>
  simp only at h;simp only[aO] at ha;obtain⟨b,o,rfl,hrow⟩:=ha;obtain⟨vs,cs,h2,h3,h4,h5⟩:=aaV (m:=m1) (μ:=G.μ) (h:=Gh U w G) (λk=>Gh U w G b (o+k)) (ro (Gh U w G)) (λk x hk=>aek hrow hk)
   (λk n g hg=>by simpa[ro] using hg) (λb g hg=>by simpa[ro] using hg) (λs g hg=>by simpa[ro] using hg) (λ_ s rs g hg _=>ZH hg) _ _ _ _ _ _ h
  obtain⟨hv,rfl,rfl⟩:=jc h2;obtain⟨g,hg⟩:=alN hv h4;refine⟨g,Pq hok (by rw[h3,hsz]) ?_ hg,rfl,Po hv h4 hg⟩;intro j x hj;have:=h5 j x hj;rw[Nat.add_assoc];exact vI _ _ _ _ _ _ this
 |EL r ver i off=>
  simp only at h;replace h:=aj h;obtain⟨c,m2,l2,h2,h⟩:=h;rw[uG] at h2;cases h2;cases hc:get r m1 with
  |none=>rw[hc] at h;exact aF h
  |some c=>
   rw[hc] at h;cases c with
   |VG jM s rows=>
    simp only at h;replace h:=aj h;obtain⟨_,m2,l2,h2,h⟩:=h;obtain⟨hb,rfl,rfl⟩:=fJ h2;have hb:=yV hb;subst hb;replace h:=aj h;obtain⟨row,m2,l2,h2,h⟩:=h;obtain⟨hrow,rfl,rfl⟩:=jc h2;simp only[aO,hc] at ha;obtain⟨b,o,n,cap,hμ,rfl⟩:=ha.2.2 trivial;have hcell:=hA.ok.cell r _ hc (by rw[hA.out];simp);obtain⟨b',o',cap',e1,e3,q1⟩:=auc hcell hrow;rw[hμ] at e1;simp only[Value.slice.injEq,jF,Addr.mk.injEq] at e1;obtain⟨⟨rfl,rfl,_⟩,_,_⟩:=e1;obtain⟨vs,cs,h2,h3,h4,h5⟩:=aaV (m:=_) (μ:=G.μ) (h:=Gh U w G) (λk=>full w b (o+i * s+k)) (ro (Gh U w G)) q1
     (λk n g hg=>by simpa[ro] using hg) (λb g hg=>by simpa[ro] using hg) (λs g hg=>by simpa[ro] using hg) (λ_ s rs g hg _=>ZH hg) _ _ _ _ _ _ h
    obtain⟨hv,rfl,rfl⟩:=jc h2;obtain⟨g,hg⟩:=alN hv h4;refine⟨g,Pq hok (by rw[h3,hsz]) ?_ hg,rfl,Po hv h4 hg⟩;intro j x hj;have:=h5 j x hj;rw[show o+(i * s+off)+j=o+i * s+(off+j) from by omega];exact this
   |arr fz fl jM s rows=>simp only at h;replace h:=aj h;obtain⟨_,m2,l2,h2,h⟩:=h;obtain⟨hb,rfl,rfl⟩:=fJ h2;have hb:=yV hb;subst hb;replace h:=aj h;obtain⟨row,m2,l2,h2,h⟩:=h;obtain⟨hrow,rfl,rfl⟩:=jc h2;simp only[aO,hc] at ha;obtain⟨b,n,cap,hμ,rfl⟩:=ha.2.2 trivial;have hcell:=hA.ok.cell r _ hc (by rw[hA.out];simp);obtain⟨b',o,cap',e1,e2,e3,Rel,q1,q2,q3,q4,q5⟩:=aub hcell (vI _ _ _) hrow;rw[hμ] at e1;simp only[Value.slice.injEq,jF,Addr.mk.injEq] at e1;obtain⟨⟨rfl,ho,_⟩,_,_⟩:=e1;subst ho;obtain⟨vs,cs,h2,h3,h4,h5⟩:=aaV (m:=_) (μ:=G.μ) (h:=Gh U w G) (λk=>full w b (0+i * s+k)) Rel q1 q2 q3 q4 (λo s rs g hg hs=>q5 o s rs g hg (hs rfl)) _ _ _ _ _ _ h;obtain⟨hv,rfl,rfl⟩:=jc h2;obtain⟨g,hg⟩:=alN hv h4;refine⟨g,Pq hok (by rw[h3,hsz]) ?_ hg,rfl,Po hv h4 hg⟩;intro j x hj;have:=h5 j x hj;rw[show i * s+off+j=0+i * s+(off+j) from by omega];exact this
   |_=>exact aF h
 |_=>exact aF h
def qw{μ:Nat->Value}{h:View}{v:V}{g:Value}(h1:one v=true)(q:aO μ m h v g):g.oneCell'=true:=by
 cases v with
 |d x=>simp only[aO] at q;exact Xx q
 |nil s=>simp only[aO] at q;subst q;rfl
 |own _ _=>simp only[aO] at q;obtain⟨⟨a,n,c,rfl⟩,_⟩:=q;rfl
 |ptr _ _=>simp only[aO] at q;obtain⟨⟨b,o,rfl⟩,_⟩:=q;rfl
 |EL _ _ _ _=>simp only[aO] at q;obtain⟨⟨b,o,rfl⟩,_⟩:=q;rfl
 |zx _ _=>simp only[aO] at q;obtain⟨b,o,rfl,_⟩:=q;rfl
 |NR _=>simp only[aO] at q;obtain⟨b,x,rfl,_⟩:=q;rfl
 |clo _ _ _=>simp only[aO] at q;obtain⟨a,c,rfl,_⟩:=q;rfl
 |agg _=>simp[one] at h1
 |JV _=>simp[one] at h1
 |undef=>simp[one] at h1
def cells_one{g:Value}(h:g.oneCell'=true):g.cells=#[g]:=by cases g<;>first|rfl|simp[Value.oneCell'] at h
def alP{μ:Nat->Value}{h:View}:∀{vs:List V} {gs:List Value},vs.all one=true->dn μ m h vs gs->∀x∈gs,x.oneCell'=true
 |[],gs,_,q=>by simp only[dn] at q;subst q;simp
 |v::vs,gs,h1,q=>by
  obtain⟨g,gs',rfl,q1,q2⟩:=oJ q;simp only[List.all_cons,xw] at h1;intro x hx;simp only[List.mem_cons] at hx;rcases hx with rfl|hx
  ·exact qw h1.1 q1
  ·exact alP h1.2 q2 x hx
def cells_ok{μ:Nat->Value}{h:View}{v:V}{g:Value}(h1:v.cells.all one=true)(q:aO μ m h v g):dn μ m h v.cells g.cells.toList/\∀x∈g.cells.toList,x.oneCell'=true:=by
 have single:one v=true->v.cells=[v]->dn μ m h v.cells g.cells.toList/\∀x∈g.cells.toList,x.oneCell'=true:=by intro ho hv;have:=qw ho q;rw[cells_one this,hv];exact⟨by simp only[dn];exact⟨g,[],rfl,q,rfl⟩,by simpa using this⟩
 cases v with
 |agg cs=>simp only[aO] at q;obtain⟨a,rfl,q⟩:=q;exact⟨q,alP h1 q⟩
 |JV _=>simp[V.cells,one] at h1
 |undef=>simp[V.cells,one] at h1
 |_=>exact single rfl rfl
def alQ{μ:Nat->Value}{h:View}(c:CT)(g:Value):aO μ m h (aef c g) g:=by unfold aef;split<;>simp[aO,ro]
def YF{μ:Nat->Value}{h:View}:∀(cs:List CT) (gs:List Value),dn μ m h (Jd cs gs) gs
 |[],[]=>by simp[Jd,dn]
 |_::_,[]=>by simp[Jd,dn]
 |[],g::gs=>by simp only[Jd,dn];exact⟨g,gs,rfl,by simp[aO],YF [] gs⟩
 |c::cs,g::gs=>by simp only[Jd,dn];exact⟨g,gs,rfl,alQ c g,YF cs gs⟩
def aLD{μ:Nat->Value}{h:View}(t:TypeId)(g:Value):aO μ m h (cv P t g) g:=by
 unfold cv;split
 ·simp only[aO];exact⟨_,rfl,YF _ _⟩
 ·split
  ·exact alQ _ _
  ·simp[aO]
def ac7(μ:Nat->Value)(m:Mem)(h:View)(tm:mD)(a:Act):Prop:=∀t v,get t tm=some v->t<a.tmps.size/\aO μ m h v (a.tmps.getD t undef)
def ZO{μ:Nat->Value}{h:View}{tm:mD}{a:Act}(hT:ac7 μ m h tm a)(t:TypeId)(x:Operand):aO μ m h (ev P tm t x) (a.eval x):=by
 cases x with
 |tmp i=>
  simp only[ev,aa7];cases hg:get i tm with
  |none=>simp[aO]
  |some v=>exact(hT i v hg).2
 |const v=>exact aLD t v
 |global g=>simp[ev,aO]
 |func f=>simp only[ev,aO];exact⟨#[],#[],rfl,by simp[dn],by simp[dn]⟩
def aaW{μ:Nat->Value}{h:View}{tm:mD}{a:Act}(hT:ac7 μ m h tm a):∀(xs:List Operand) (ts:List TypeId),dn μ m h (wF P tm xs ts) (xs.map a.eval)
 |[],_=>by simp[wF,dn]
 |x::xs,ts=>by simp only[wF,dn,PO];exact⟨_,_,rfl,ZO hT _ x,aaW hT xs _⟩
def SB{μ:Nat->Value}{h:View}{t:TypeId}{z:List V}(hz:P9 P t=some z):∃i zv,P.info? t=some i/\i.zero=some zv/\dn μ m h z zv.cells.toList:=by
 unfold P9 at hz;cases hi:P.info? t with
 |none=>simp[hi] at hz
 |some i=>
  simp only[hi] at hz;cases hzv:i.zero with
  |none=>simp[hzv] at hz
  |some zv=>simp only[hzv,jF] at hz;subst hz;exact⟨i,zv,rfl,hzv,YF _ _⟩
def Gi.rewrite(hg:Gi base U w m G)(ho:G.out=[])(hfr:Fr M0 w0 w G){r:Nat}{c c':Cell}{μ':Nat->Value}{N:List Nat}(hc:get r m=some c)(hk:Keep (G.F r) w w')(hN:N.Nodup)
  (hNs:∀b,b∈N->(b∈G.F r\/b∈G.E\/w.heap.size<=b)/\b<w'.heap.size) (hμ:∀k,k≠r->μ' k=G.μ k) (hle:yF G.μ μ' r c c')
  (hcell:∀h':View,(Gh U w G).le h'->Ep G.μ m μ' (put r c' m)->(∀k,k∈G.E->k ∉ N->abW h' (dA w) [k])->nY μ' (put r c' m) (dA w') h' r c' N):
  Nx base U M0 w0 w m G w' (put r c' m) ⟨μ',RZ G.F r N,[],[]⟩:=by
 have hro:r ∉ G.out:=by rw[ho];simp
 obtain⟨k1,k2⟩:=hg.aG4 hc hro;have hk':Keep (G.E++G.F r) w w':=⟨hk.os,hk.tape,hk.output,hk.size,λb hb hn=>hk.block b hb (λh=>hn (by simp[h]))⟩
 obtain⟨q1,q2⟩:=Gi.world k1 hk' (E':=N) hN (λb hb=>by
  have:=hNs b hb;refine⟨?_,this.2⟩;rcases this.1 with h|h|h
  ·left;simp[h]
  ·left;simp[h]
  ·exact .inr h)
 have hup:RZ (RZ G.F r []) r N=RZ G.F r N:=by
  funext k
  by_cases e:k=r
  ·subst e;simp
  ·simp[iJ _ e]
 have hml:Ep G.μ m μ' (put r c' m):=EM hμ (λc0 h0=>by rw[hc] at h0;cases h0;exact hle);have hset:=Gi.set (U:=U) (w:=w') q1 r c' μ' N [] [] (by simpa using hN) (by simp) hml hμ (λk hkr=>by simp[ho,hkr]) (by simp)
  (λhv _=>hcell _ (k2.view.trans' (q2.trans' hv)) hml (λk hkE hkN b hb cs t fr hH o v hv=>by
   simp only[List.mem_singleton] at hb;subst hb;have hbF:∀j,b ∉ G.F j:=λj hj=>hg.djE j b hj hkE
   have hlt:=hg.lt b (.inl hkE);have hsame:dA w' b=dA w b:=hk.block b hlt.1 (hbF r);refine Le (w:=w') (N:=[b]) (λx hx=> ?_) b (by simp) cs t fr (hsame.trans hH) o v hv;simp only[List.mem_singleton] at hx;subst hx;refine⟨hlt.2.2, ?_⟩;rintro(h|⟨j,h⟩)
   ·simp at h
   ·rw[hup] at h
    by_cases e:j=r
    ·subst e;rw[uJ] at h;exact hkN h
    ·rw[iJ _ e] at h;exact hbF j h))
 simp only[hup] at hset;obtain⟨s1,s2⟩:=hset;refine⟨s1,rfl,rfl,hml,k2.view.trans' (q2.trans' s2.view), ?_⟩;refine⟨hfr.keep.trans hk (λx hx=>hfr.fr x (.inr ⟨r,hx⟩)), ?_⟩;rintro b (hb|⟨k,hb⟩)
 ·simp at hb
 ·by_cases e:k=r
  ·subst e;simp only[uJ] at hb;rcases(hNs b hb).1 with h|h|h
   ·exact hfr.fr b (.inr ⟨_,h⟩)
   ·exact hfr.fr b (.inl h)
   ·exact .inr (Nat.le_trans hfr.keep.size h)
  ·simp only[iJ _ e] at hb;exact hfr.fr b (.inr ⟨k,hb⟩)
def At.rewrite(hA:At base U M0 w0 w m G){r:Nat}{c c':Cell}{μ':Nat->Value}{N:List Nat}(hc:get r m=some c)(hk:Keep (G.F r) w w')(hN:N.Nodup)
  (hNs:∀b,b∈N->(b∈G.F r\/w.heap.size<=b)/\b<w'.heap.size) (hμ:∀k,k≠r->μ' k=G.μ k) (hle:yF G.μ μ' r c c')
  (hcell:∀h':View,(Gh U w G).le h'->Ep G.μ m μ' (put r c' m)->nY μ' (put r c' m) (dA w') h' r c' N):
  Nx base U M0 w0 w m G w' (put r c' m) ⟨μ',RZ G.F r N,[],[]⟩:=
 hA.ok.rewrite hA.out hA.fr hc hk hN (λb hb=>⟨(hNs b hb).1.imp id .inr,(hNs b hb).2⟩) hμ hle (λh' h1 h2 _=>hcell h' h1 h2)
def Nx.after{G1:GS}{m1:Mem}(hl:Zq m G m1 G1)(h:Nx base U M0 w0 w m1 G1 w' m' G'):Nx base U M0 w0 w m G w' m' G':=
 ⟨h.ok,h.E,h.out,wG hl.mem h.mem,hl.view.trans' h.view,h.fr⟩
def Ut{b:Nat}{cs:Array Value}{M:List Nat}(hb:b∈M):Keep M w (w.setRow b cs):=
 ⟨rfl,rfl,rfl,by simp[World.setRow],λk _ hk=>setRow_other w b k cs (λe=>hk (e ▸ hb))⟩
def YG{o:Obj}{M:List Nat}:Keep M w (w.alloc o):=⟨rfl,rfl,rfl,by simp,λk hk _=>heap_alloc_old w o k hk⟩
def aaX{M:List Nat}:Keep M w w.drew:=⟨rfl,rfl,rfl,Nat.le_refl _,λ_ _ _=>rfl⟩
def Px{H:Heap}{h:View}:∀{r:Row} {cs cs':List Value} {N:List Nat},cs.take r.length=cs'.take r.length->iW H h r cs N->iW H h r cs' N
 |[],_,_,_,_,q=>by simpa[iW] using q
 |x::r,cs,cs',N,e,q=>by
  obtain⟨v,cs1,N1,N2,rfl,rfl,h1,h2⟩:=GU q;cases cs' with
  |nil=>simp at e
  |cons v' aIY=>simp only[mQ,List.take_succ_cons,List.cons.injEq] at e;obtain⟨rfl,e⟩:=e;simp only[iW];exact⟨v,aIY,N1,N2,rfl,rfl,h1,Px e h2⟩
def BH{H:Heap}{h:View}:∀{a b:Row} {cs:List Value} {N:List Nat},iW H h (a++b) cs N↔∃N1 N2,N=N1++N2/\iW H h a cs N1/\iW H h b (cs.drop a.length) N2
 |[],b,cs,N=>by
  simp only[List.nil_append,iW,uH,List.drop_zero];constructor
  ·intro q;exact⟨[],N,rfl,rfl,q⟩
  ·rintro⟨N1,N2,rfl,rfl,q⟩;simpa using q
 |x::a,b,cs,N=>by
  simp only[VE,iW];constructor
  ·rintro⟨v,cs',N1,N2,rfl,rfl,h1,h2⟩;obtain⟨N3,N4,rfl,h3,h4⟩:=BH.1 h2;exact⟨N1++N3,N4,by simp,⟨v,cs',N1,N3,rfl,rfl,h1,h3⟩,by simpa using h4⟩
  ·rintro⟨N1,N2,rfl,⟨v,cs',N3,N4,rfl,rfl,h1,h3⟩,h4⟩;exact⟨v,cs',N3,N4++N2,rfl,by simp,h1,BH.2 ⟨N4,N2,rfl,h3,by simpa using h4⟩⟩
def aib{H:Heap}{h:View}:∀{r:Row} {cs:List Value} {N:List Nat},iW H h r cs N->r.length<=cs.length
 |[],_,_,_=>by simp
 |x::r,cs,N,q=>by obtain⟨v,cs',N1,N2,rfl,rfl,_,h2⟩:=GU q;have:=aib h2;simp;omega
def IJ{α:Type}{l xs:List α}{o:Nat}(h:o+xs.length<=l.length):(splice l o xs).length=l.length:=by simp[splice];omega
def anJ{H:Heap}{h:View}{row xs:Row}{cs gs:List Value}{N N1:List Nat}{o:Nat}(q:iW H h row cs N)(q1:iW H h xs gs N1)(hl:xs.length=gs.length)(ho:o+xs.length<=row.length):
  ∃N' Dr,iW H h (splice row o xs) (splice cs o gs) N'/\(N'++Dr).Perm (N++N1):=by
 have hrow:row=row.take o++((row.drop o).take xs.length++row.drop (o+xs.length)):=by rw[<-List.drop_drop,List.take_append_drop,List.take_append_drop]
 have hcl:=aib q;rw[hrow] at q;obtain⟨Na,Nb,rfl,qa,qb⟩:=BH.1 q;obtain⟨Nc,Nd,rfl,qc,qd⟩:=BH.1 qb;have l1:(row.take o).length=o:=by simp;omega
 have l2:((row.drop o).take xs.length).length=xs.length:=by simp;omega
 rw[l1,List.drop_drop,l2] at qd;refine⟨Na++(N1++Nd),Nc, ?_, ?_⟩
 ·have e:splice row o xs=row.take o++(xs++row.drop (o+xs.length)):=by simp[splice]
  rw[e];refine BH.2 ⟨Na,N1++Nd,rfl, ?_, ?_⟩
  ·refine Px ?_ qa;rw[l1];simp only[splice,JR];rw[List.take_append_of_le_length (by simp;omega)];rw[List.take_take];congr 1;omega
  ·rw[l1];have hd:(splice cs o gs).drop o=gs++cs.drop (o+gs.length):=by
    simp only[splice,JR];rw[List.drop_append_of_le_length (by simp;omega)];have:(cs.take o).drop o=[]:=by simp
    rw[this];rfl
   rw[hd];refine BH.2 ⟨N1,Nd,rfl, ?_, ?_⟩
   ·refine Px ?_ q1;rw[hl];simp
   ·rw[hl];rw[hl] at qd;simpa using qd
 ·simp only[JR];refine List.Perm.append_left Na ?_;have h1:(N1++(Nd++Nc)).Perm ((Nd++Nc)++N1):=List.perm_append_comm;have h2:((Nd++Nc)++N1).Perm ((Nc++Nd)++N1):=List.Perm.append_right N1 List.perm_append_comm;simpa using h1.trans h2
def Uu{H:Heap}{h:View}{s:Nat}:∀{rs:List Row} {cs cs':List Value} {N:List Nat},cs.take (rs.length * s)=cs'.take (rs.length * s)->gJ H h s rs cs N->gJ H h s rs cs' N
 |[],_,_,_,_,q=>by simpa[gJ] using q
 |r::rs,cs,cs',N,e,q=>by
  simp only[gJ] at q|-;obtain⟨h1,N1,N2,rfl,h2,h3⟩:=q;have hs:(r::rs).length * s=s+rs.length * s:=by simp[Nat.add_mul];omega
  rw[hs] at e;refine⟨h1,N1,N2,rfl,Px ?_ h2,Uu ?_ h3⟩
  ·rw[h1];have:=congrArg (List.take s) e;simpa[List.take_take,Nat.min_eq_left] using this
  ·have:=congrArg (List.drop s) e;simpa[List.drop_take] using this
def DN{H:Heap}{h:View}{s:Nat}:∀{a b:List Row} {cs:List Value} {N:List Nat},gJ H h s (a++b) cs N↔∃N1 N2,N=N1++N2/\gJ H h s a cs N1/\gJ H h s b (cs.drop (a.length * s)) N2
 |[],b,cs,N=>by
  simp only[List.nil_append,gJ,uH,Nat.zero_mul,List.drop_zero];constructor
  ·intro q;exact⟨[],N,rfl,rfl,q⟩
  ·rintro⟨N1,N2,rfl,rfl,q⟩;simpa using q
 |x::a,b,cs,N=>by
  have hs:(x::a).length * s=s+a.length * s:=by simp[Nat.add_mul];omega
  simp only[VE,gJ,hs];constructor
  ·rintro⟨h0,N1,N2,rfl,h1,h2⟩;obtain⟨N3,N4,rfl,h3,h4⟩:=DN.1 h2;exact⟨N1++N3,N4,by simp,⟨h0,N1,N3,rfl,h1,h3⟩,by simpa using h4⟩
  ·rintro⟨N1,N2,rfl,⟨h0,N3,N4,rfl,h1,h3⟩,h4⟩;exact⟨h0,N3,N4++N2,by simp,h1,DN.2 ⟨N4,N2,rfl,h3,by simpa using h4⟩⟩
def Qi{h:View}:∀{r:Row} {cs cs':List Value},cs.take r.length=cs'.take r.length->jg h r cs->jg h r cs'
 |[],_,_,_,_=>trivial
 |x::r,cs,cs',e,⟨v,cs1,e1,h1,h2⟩=>by
  subst e1;cases cs' with
  |nil=>simp at e
  |cons v' aIY=>simp only[mQ,List.take_succ_cons,List.cons.injEq] at e;obtain⟨rfl,e⟩:=e;exact⟨v,aIY,rfl,h1,Qi e h2⟩
def EO{h:View}:∀{a b:Row} {cs:List Value},jg h (a++b) cs↔jg h a cs/\jg h b (cs.drop a.length)
 |[],b,cs=>by simp[jg]
 |x::a,b,cs=>by
  simp only[VE,jg];constructor
  ·rintro⟨v,cs',rfl,h1,h2⟩;obtain⟨h3,h4⟩:=EO.1 h2;exact⟨⟨v,cs',rfl,h1,h3⟩,by simpa using h4⟩
  ·rintro⟨⟨v,cs',rfl,h1,h3⟩,h4⟩;exact⟨v,cs',rfl,h1,EO.2 ⟨h3,by simpa using h4⟩⟩
def ab5{h:View}:∀{r:Row} {cs:List Value},jg h r cs->r.length<=cs.length
 |[],_,_=>by simp
 |x::r,cs,⟨v,cs',e,_,h2⟩=>by subst e;have:=ab5 h2;simp;omega
def aic{h:View}{row xs:Row}{cs gs:List Value}{o:Nat}(q:jg h row cs)(q1:jg h xs gs)(hl:xs.length=gs.length)(ho:o+xs.length<=row.length):jg h (splice row o xs) (splice cs o gs):=by
 have hrow:row=row.take o++((row.drop o).take xs.length++row.drop (o+xs.length)):=by rw[<-List.drop_drop,List.take_append_drop,List.take_append_drop]
 have hcl:=ab5 q;rw[hrow] at q;obtain⟨qa,qb⟩:=EO.1 q;obtain⟨qc,qd⟩:=EO.1 qb;have l1:(row.take o).length=o:=by simp;omega
 have l2:((row.drop o).take xs.length).length=xs.length:=by simp;omega
 rw[l1,List.drop_drop,l2] at qd;have e:splice row o xs=row.take o++(xs++row.drop (o+xs.length)):=by simp[splice]
 rw[e];refine EO.2 ⟨?_, ?_⟩
 ·refine Qi ?_ qa;rw[l1];simp only[splice,JR];rw[List.take_append_of_le_length (by simp;omega)];rw[List.take_take];congr 1;omega
 ·rw[l1];have hd:(splice cs o gs).drop o=gs++cs.drop (o+gs.length):=by
   simp only[splice,JR];rw[List.drop_append_of_le_length (by simp;omega)];have:(cs.take o).drop o=[]:=by simp
   rw[this];rfl
  rw[hd];refine EO.2 ⟨Qi (by rw[hl];simp) q1, ?_⟩;rw[hl];rw[hl] at qd;simpa using qd
def rQ{h:View}{s:Nat}:∀{rs:List Row} {cs cs':List Value},cs.take (rs.length * s)=cs'.take (rs.length * s)->iI h s rs cs->iI h s rs cs'
 |[],_,_,_,_=>trivial
 |r::rs,cs,cs',e,⟨h1,h2,h3⟩=>by
  have hs:(r::rs).length * s=s+rs.length * s:=by simp[Nat.add_mul];omega
  rw[hs] at e;refine⟨h1,Qi ?_ h2,rQ ?_ h3⟩
  ·rw[h1];have:=congrArg (List.take s) e;simpa[List.take_take,Nat.min_eq_left] using this
  ·have:=congrArg (List.drop s) e;simpa[List.drop_take] using this
def A8{h:View}{s:Nat}:∀{a b:List Row} {cs:List Value},iI h s (a++b) cs↔iI h s a cs/\iI h s b (cs.drop (a.length * s))
 |[],b,cs=>by simp[iI]
 |x::a,b,cs=>by
  have hs:(x::a).length * s=s+a.length * s:=by simp[Nat.add_mul];omega
  simp only[VE,iI,hs];rw[A8,List.drop_drop];constructor
  ·rintro⟨h0,h1,h2,h3⟩;exact⟨⟨h0,h1,h2⟩,h3⟩
  ·rintro⟨⟨h0,h1,h2⟩,h3⟩;exact⟨h0,h1,h2,h3⟩
def Uw{α:Type}{l:List α}{i:Nat}{a b:α}(h:l[i]? =some a):l.set i b=l.take i++(b::l.drop (i+1))/\l=l.take i++(a::l.drop (i+1)):=by
 have hi:=(PN.1 h).1;have ha:=(PN.1 h).2;refine⟨?_, ?_⟩
 ·rw[List.set_eq_take_append_cons_drop,if_pos hi]
 ·rw[<-ha,List.getElem_cons_drop,List.take_append_drop]
def asC{H:Heap}{h:View}{s i o:Nat}{rows:List Row}{row xs:Row}{cs gs:List Value}{N N1:List Nat}(q:gJ H h s rows cs N)(hi:rows[i]? =some row)(q1:iW H h xs gs N1)(hl:xs.length=gs.length)(ho:o+xs.length<=s):
  ∃N' Dr,gJ H h s (rows.set i (splice row o xs)) (splice cs (i * s+o) gs) N'/\(N'++Dr).Perm (N++N1):=by
 obtain⟨e1,e2⟩:=Uw (b:=splice row o xs) hi;have hil:=(PN.1 hi).1;rw[e2] at q;obtain⟨Na,Nb,rfl,qa,qb⟩:=DN.1 q;have l1:(rows.take i).length=i:=by simp;omega
 rw[l1] at qb;simp only[gJ] at qb;obtain⟨h0,Nc,Nd,rfl,qc,qd⟩:=qb;have hcl:=aib qc;simp only[List.length_drop] at hcl;obtain⟨N',Dr,qe,hp⟩:=anJ (o:=o) qc q1 hl ak;have asD:(splice row o xs).length=s:=by rw[IJ (l:=row) (xs:=xs) (o:=o) ak];exact h0
 have his:i * s<=cs.length:=by
  rcases Nat.eq_zero_or_pos s with e|e
  ·rw[e];simp
  ·omega
 refine⟨Na++(N'++Nd),Dr, ?_, ?_⟩
 ·rw[e1];refine DN.2 ⟨Na,N'++Nd,rfl, ?_, ?_⟩
  ·refine Uu ?_ qa;rw[l1];simp only[splice,JR];rw[List.take_append_of_le_length (by simp;omega),List.take_take];congr 1;omega
  ·rw[l1];have hd:(splice cs (i * s+o) gs).drop (i * s)=splice (cs.drop (i * s)) o gs:=by simp only[splice];rw[JR,List.drop_append_of_le_length (by simp;omega),List.drop_take,List.drop_drop];rw[show i * s+o - i * s=o from by omega,JR,Nat.add_assoc]
   simp only[gJ,hd];refine⟨asD,N',Nd,rfl,qe, ?_⟩;have hd2:(splice (cs.drop (i * s)) o gs).drop s=(cs.drop (i * s)).drop s:=by simp only[splice];rw[List.drop_append,List.drop_eq_nil_of_le (by simp;omega)];simp only[List.nil_append,List.drop_drop,rJ,VF,List.length_drop];congr 1;omega
   rw[hd2];exact qd
 ·simp only[JR];refine List.Perm.append_left Na ?_;have h1:(N'++(Nd++Dr)).Perm (N'++(Dr++Nd)):=List.Perm.append_left N' List.perm_append_comm;have h2:((N'++Dr)++Nd).Perm ((Nc++N1)++Nd):=List.Perm.append_right Nd hp;have h3:(Nc++(N1++Nd)).Perm (Nc++(Nd++N1)):=List.Perm.append_left Nc List.perm_append_comm;have h2':(N'++(Dr++Nd)).Perm (Nc++(N1++Nd)):=by simpa using h2
  exact h1.trans (h2'.trans h3)
def anK{h:View}{s i o:Nat}{rows:List Row}{row xs:Row}{cs gs:List Value}(q:iI h s rows cs)(hi:rows[i]? =some row)(q1:jg h xs gs)(hl:xs.length=gs.length)(ho:o+xs.length<=s):
  iI h s (rows.set i (splice row o xs)) (splice cs (i * s+o) gs):=by
 obtain⟨e1,e2⟩:=Uw (b:=splice row o xs) hi;have hil:=(PN.1 hi).1;rw[e2] at q;obtain⟨qa,qb⟩:=A8.1 q;have l1:(rows.take i).length=i:=by simp;omega
 rw[l1] at qb;obtain⟨h0,qc,qd⟩:=qb;have hcl:=ab5 qc;simp only[List.length_drop] at hcl;have qe:=aic (o:=o) qc q1 hl ak;have asD:(splice row o xs).length=s:=by rw[IJ (l:=row) (xs:=xs) (o:=o) ak];exact h0
 have his:i * s<=cs.length:=by
  rcases Nat.eq_zero_or_pos s with e|e
  ·rw[e];simp
  ·omega
 rw[e1];refine A8.2 ⟨?_, ?_⟩
 ·refine rQ ?_ qa;rw[l1];simp only[splice,JR];rw[List.take_append_of_le_length (by simp;omega),List.take_take];congr 1;omega
 ·rw[l1];have hd:(splice cs (i * s+o) gs).drop (i * s)=splice (cs.drop (i * s)) o gs:=by simp only[splice];rw[JR,List.drop_append_of_le_length (by simp;omega),List.drop_take,List.drop_drop];rw[show i * s+o - i * s=o from by omega,JR,Nat.add_assoc]
  rw[hd];refine⟨asD,qe, ?_⟩;have hd2:(splice (cs.drop (i * s)) o gs).drop s=(cs.drop (i * s)).drop s:=by simp only[splice];rw[List.drop_append,List.drop_eq_nil_of_le (by simp;omega)];simp only[List.nil_append,List.drop_drop,rJ,VF,List.length_drop];congr 1;omega
  rw[hd2];exact qd
def At.took(hA:At base U M0 w0 w m G){N:List Nat}(ht:P6 base U w m G m' G' N):G'.E=N/\G'.out=[]/\Fr M0 w0 w G':=
 ⟨by rw[ht.E,hA.E];rfl,ht.out.trans hA.out,hA.fr.less ht.le.ex⟩
def ahc(k:Nat)(c c':Cell):∀m:Mem,put k c (put k c' m)=put k c m
 |[]=>by simp[put]
 |(j,y)::m=>by
  have hk:Nat.beq k k=true:=Nat.beq_refl k
  by_cases h:k=j
  ·subst h;simp[put]
  ·have hb:Nat.beq k j=false:=uV h;cases hl:Nat.blt k j with
   |true=>simp[put,hb,hl]
   |false=>simp[put,hb,hl,ahc k c c' m]
def At.settle(hA:At base U M0 w0 w m G){r:Nat}{T:TypeId}{x:V}(hc:get r m=some (.box T [x])):∃G',Nx base U M0 w0 w m G w (put r (.AQ T x) m) G':=by
 have hro:r ∉ G.out:=by rw[hA.out];simp
 have hle:Ep G.μ m G.μ (put r (.AQ T x) m):=EM (λ_ _=>rfl) (λc h=>by rw[hc] at h;cases h;exact rfl);obtain⟨b,a,e1,e2,e3,e4⟩:=hA.ok.cell r _ hc hro;have hb:b∈G.F r:=by rw[e4];simp
 obtain⟨y,ys,ea,e5,e6⟩:=oJ e3;have h1:=hA.ok.set r (.AQ T x) G.μ [] G.E G.out (by simpa using hA.ok.ndE) (by simp;exact λb hb=> .inr hb) hle (λ_ _=>rfl) (λ_ _=>Iff.rfl) (λ_=>rfl)
  (λhv _=>by
   refine⟨rfl,b,y,e1, ?_,AZ hle hv _ _ e5⟩;refine Le (w:=w) (N:=[b]) (λb' hb'=> ?_) b (by simp) a T (0,0) e2 0 y (by rw[ea];rfl);simp only[List.mem_singleton] at hb';subst hb';refine⟨(hA.ok.lt _ (.inr ⟨r,hb⟩)).2.2, ?_⟩;rintro(hE|⟨k,hk⟩)
   ·exact hA.ok.djE r _ hb hE
   ·by_cases e:k=r
    ·subst e;simp at hk
    ·rw[iJ _ e] at hk;exact hA.ok.dj r k (Ne.symm e) _ hb hk)
 exact⟨_,hA.still h1.1 h1.2 hA.out⟩
def axl{off:Nat}{cs:List V}{x:V}(h:kept off cs x=true):off=0/\cs=[.undef]/\∃r o,x=.ptr r o:=by
 unfold kept at h;split at h
 ·exact⟨rfl,rfl,_,_,rfl⟩
 ·cases h
def avA(hA:At base U M0 w0 w m G){t:TypeId}{a x:V}{ga gx:Value}(ha:aO G.μ m (Gh U w G) a ga)(hx:aO G.μ m (Gh U w G) x gx){u:Unit}{l l':Log}(h:(ash P t a x).run m l=some (u,m',l')):
  ∃w' G',(Instr.storeAt t ga gx).run P w=.ok () w'/\Nx base U M0 w0 w m G w' m' G':=by
 simp only[ash] at h;replace h:=aj h;obtain⟨_,m1,l1,h1,h⟩:=h;obtain⟨hok,rfl,rfl⟩:=fJ h1;replace h:=aj h;obtain⟨_,m1,l1,h1,h⟩:=h;obtain⟨hlen,rfl,rfl⟩:=fJ h1;replace h:=aj h;obtain⟨_,m1,l1,h1,h⟩:=h;obtain⟨hone,rfl,rfl⟩:=fJ h1;have hlen:=yV hlen;obtain⟨hxs,hx1⟩:=cells_ok hone hx;have hgl:gx.cells.size=oU P t:=by rw[<-hlen,<-jG hxs,Array.length_toList]
 cases a with
 |ptr r off=>
  simp only at h;replace h:=aj h;obtain⟨c,m2,l2,h2,h⟩:=h;rw[uG] at h2;cases h2;cases hc:get r m1 with
  |none=>rw[hc] at h;exact aF h
  |some c=>
   rw[hc] at h;cases c with
   |box T cs=>
    simp only at h;replace h:=aj h;obtain⟨_,m2,l2,h2,h⟩:=h;obtain⟨hfit,rfl,rfl⟩:=fJ h2;simp only[aO,hc] at ha;obtain⟨_,b,hμ,rfl⟩:=ha;obtain⟨b',arr,e1,e2,e3,e4⟩:=hA.ok.cell r _ hc (by rw[hA.out];simp);rw[hμ] at e1;cases e1;have hal:arr.size=cs.length:=by simpa using jG e3
    have hfit:=Nat.le_of_ble_eq_true hfit;have hrun:=ZL (P:=P) hok e2 hgl (off:=off) ak hx1;have hb:b∈G.F r:=by rw[e4];simp
    have hnx:=hA.rewrite (c':=.box T (splice cs off x.cells)) (w':=w.setRow b (splice arr.toList off gx.cells.toList).toArray) (μ':=G.μ) (N:=[b]) hc (Ut hb) (by simp) (λk hk=>by
     simp at hk;subst hk;refine⟨.inl hb, ?_⟩;have:=(hA.ok.lt _ (.inr ⟨r,hb⟩)).1;simpa[World.setRow] using this) (λ_ _=>rfl) ⟨rfl,rfl⟩ (λh' hv hml=>by
     refine⟨b,_,hμ,setRow_heap w b arr _ T (0,0) e2, ?_,rfl⟩;have:=YD off e3 hxs;simpa using sJ hml hv _ _ this)
    cases hkp:kept off cs x with
    |false=>rw[hkp] at h;simp only[DK,jF,nT] at h;obtain⟨_,rfl,_⟩:=h;exact⟨_,_,hrun,hnx⟩
    |true=>rw[hkp] at h;simp only[DK,jF,nT] at h;obtain⟨_,rfl,_⟩:=h;obtain⟨rfl,rfl,r',o',rfl⟩:=axl hkp;have hsp:splice [V.undef] 0 (V.ptr r' o').cells=[V.ptr r' o']:=rfl;rw[hsp] at hnx;obtain⟨G',hnx2⟩:=hnx.at_.settle (r:=r) (T:=T) (x:=.ptr r' o') (gV _ _ _);rw[ahc] at hnx2;exact⟨_,_,hrun,hnx.trans hnx2⟩
   |_=>exact aF h
 |EL r ver i off=>
  simp only at h;replace h:=aj h;obtain⟨xs,m2,l2,h2,h⟩:=h;obtain⟨G1,N1,t1,hrow,hxl⟩:=VR hA.ok hxs hA.out h2;obtain⟨hE1,ho1,ac8⟩:=hA.took t1;replace h:=aj h;obtain⟨c,m3,l3,h3,h⟩:=h;rw[uG] at h3;cases h3;replace ha:=t1.le.aO ha;cases hc:get r m2 with
  |none=>rw[hc] at h;exact aF h
  |some c=>
   rw[hc] at h;cases c with
   |zy jM s rows i' off'=>
    simp only at h;replace h:=aj h;obtain⟨_,m4,l4,h4,h⟩:=h;obtain⟨hb,rfl,rfl⟩:=fJ h4;simp only[xw] at hb;obtain⟨hb1,hb2,hb3,hb4⟩:=hb;have hb1:=yV hb1;have hb2:=yV hb2;have hb3:=yV hb3;subst hb1 hb2 hb3;obtain⟨x1,rfl⟩:=zlo.1 (yV hb4);replace h:=aj h;obtain⟨row,m4,l4,h4,h⟩:=h;obtain⟨hrw,rfl,rfl⟩:=jc h4;simp only[DK,jF,nT] at h;obtain⟨_,rfl,_⟩:=h;simp only[aO,hc] at ha;obtain⟨b,n,cap,hμ,rfl⟩:=ha.2.2 trivial;obtain⟨b',cap',cs,T,g0,row',Na,Nb,k1,k2,k3,k4,k5,k6,k7,k8,k9,k10⟩:=t1.ok.cell r _ hc (by rw[ho1];simp);rw[hμ] at k1;simp only[Value.slice.injEq,jF,Addr.mk.injEq] at k1;obtain⟨⟨rfl,_⟩,rfl,rfl⟩:=k1;rw[hrw] at k6;cases k6;have hbF:b∈G1.F r:=by rw[k10];simp
    obtain⟨g1,gs,P1,P2,hgs,hN,hq1,hq2⟩:=GU hrow;simp only[iW] at hq2;subst hq2;have hg1:gx.cells.toList=[g1]:=by
     have hl0:gx.cells.toList.length=1:=by rw[jG hxs,<-hxl];rfl
     rw[hgs] at hl0|-;cases gs with
     |nil=>rfl
     |cons _ _=>simp at hl0
    rw[List.append_nil] at hN;subst hN;have hlt:i * s+off<cs.size:=by simpa using(PN.1 k5).1
    have hsz:i * s+off+gx.cells.size<=cs.size:=by
     have:gx.cells.size=1:=by rw[<-Array.length_toList,hg1];rfl
     omega
    have hrun:=ZL (P:=P) hok k3 hgl (off:=i * s+off) hsz hx1;have hh:=setRow_heap w b cs (splice cs.toList (i * s+off) gx.cells.toList).toArray T (0,0) k3;have hsp:splice cs.toList (i * s+off) gx.cells.toList=cs.toList.set (i * s+off) g1:=by rw[hg1,splice,List.set_eq_take_append_cons_drop,if_pos (by simpa using hlt)];simp
    have hoth:∀k,k≠b->dA (w.setRow b (splice cs.toList (i * s+off) gx.cells.toList).toArray) k=dA w k:=λk hk=>setRow_other w b k _ hk
    have hnd:=t1.ok.nd r;rw[k10] at hnd;have hE:∀k,k∈N1->k∈G1.E:=λk hk=>by rw[hE1];exact hk
    have hnP:N1.Nodup:=by have:=t1.ok.ndE;rwa [hE1] at this
    have hdis:∀k,k∈N1->k≠b/\k ∉ Na/\k ∉ Nb:=λk hk=>by
     have h1:=λhx=>t1.ok.djE r k hx (hE k hk)
     rw[k10] at h1;simp only[List.mem_cons,List.mem_append] at h1;exact⟨λe=>h1 (.inl e),λe=>h1 (.inr (.inl e)),λe=>h1 (.inr (.inr e))⟩
    refine⟨_,_,hrun,Nx.after t1.le (t1.ok.rewrite ho1 ac8 (μ':=G1.μ) (N:=b::(Na++N1++Nb)) hc (Ut hbF) ?_ ?_ (λ_ _=>rfl) ⟨rfl,Nat.le_refl _,λ_=>⟨rfl,rfl⟩⟩ ?_)⟩
    ·have h2:=List.nodup_cons.1 hnd;have h3:=List.nodup_append.1 h2.2;refine List.nodup_cons.2 ⟨?_,List.nodup_append.2 ⟨List.nodup_append.2 ⟨h3.1,hnP,λx hx y hy e=>(hdis y hy).2.1 (e ▸ hx)⟩,h3.2.1,λx hx y hy e=> ?_⟩⟩
     ·simp only[List.mem_append,not_or] at h2|-;exact⟨⟨h2.1.1,λhx=>(hdis b hx).1 rfl⟩,h2.1.2⟩
     ·rcases List.mem_append.1 hx with hx|hx
      ·exact h3.2.2 x hx y hy e
      ·exact(hdis x hx).2.2 (e ▸ hy)
    ·intro k hk;have hsz':(w.setRow b (splice cs.toList (i * s+off) gx.cells.toList).toArray).heap.size=w.heap.size:=by simp[World.setRow]
     rw[hsz']
     by_cases hkP:k∈N1
     ·exact⟨.inr (.inl (hE k hkP)),(t1.ok.lt _ (.inl (hE k hkP))).1⟩
     ·have:k∈G1.F r:=by
       rw[k10];simp only[List.mem_cons,List.mem_append] at hk|-;rcases hk with h|(h|h)|h
       ·exact .inl h
       ·exact .inr (.inl h)
       ·exact absurd h hkP
       ·exact .inr (.inr h)
      exact⟨.inl this,(t1.ok.lt _ (.inr ⟨r,this⟩)).1⟩
    ·intro h' hv hml _;have hbn:=(List.nodup_cons.1 hnd).1;have ho:=k8 (dA (w.setRow b (splice cs.toList (i * s+off) gx.cells.toList).toArray)) h' x1 g1 N1 hv (λk hk=>hoth k (λe=>hbn (e ▸ hk)))
      (ag9 hv _ _ _ (λk hk=>hoth k (hdis k hk).1) hq1)
     refine .inr ⟨b,cap,_,T,Na++N1++Nb, ?_, ?_,hh, ?_, ?_,rfl⟩
     ·rw[hμ];simp
     ·simpa using k2
     ·rw[hsp];simpa using k4
     ·rw[hsp] at ho|-;exact ho
   |arr fz fl jM s rows=>
    cases fz with
    |true=>exact aF h
    |false=>
    simp only at h;replace h:=aj h;obtain⟨_,m4,l4,h4,h⟩:=h;obtain⟨hb,rfl,rfl⟩:=fJ h4;have hb:=yV hb;subst hb;replace h:=aj h;obtain⟨_,m4,l4,h4,h⟩:=h;obtain⟨hfit,rfl,rfl⟩:=fJ h4;have hfit:=Nat.le_of_ble_eq_true hfit;replace h:=aj h;obtain⟨row,m4,l4,h4,h⟩:=h;obtain⟨hrw,rfl,rfl⟩:=jc h4;simp only[DK,jF,nT] at h;obtain⟨_,rfl,_⟩:=h;simp only[aO,hc] at ha;obtain⟨b,n,cap,hμ,rfl⟩:=ha.2.2 trivial;have hcell:=t1.ok.cell r _ hc (by rw[ho1];simp);have hne:rows≠[]:=by intro e;subst e;simp at hrw
    have hil:=(PN.1 hrw).1;simp only[nY] at hcell;rcases hcell with⟨e,_,_⟩|⟨b',cap',cs,T,N',k1,k2,k3,k4,k5,k6⟩
    ·exact absurd e hne
    rw[hμ] at k1;simp only[Value.slice.injEq,jF,Addr.mk.injEq] at k1;obtain⟨⟨rfl,_⟩,rfl,rfl⟩:=k1;have hbF:b∈G1.F r:=by rw[k6];simp
    have axn:xs.length=gx.cells.toList.length:=by rw[hxl,jG hxs]
    have hsz:i * s+off+gx.cells.size<=cs.size:=by rw[k4,hgl];have:(i+1) * s<=cap * s:=Nat.mul_le_mul_right s ak;rw[Nat.add_mul] at this;omega
    have hrun:=ZL (P:=P) hok k3 hgl (off:=i * s+off) hsz hx1;have hh:=setRow_heap w b cs (splice cs.toList (i * s+off) gx.cells.toList).toArray T (0,0) k3;have aLE:off+xs.length<=s:=by rw[axn,Array.length_toList,hgl];exact hfit
    have aLF:(splice cs.toList (i * s+off) gx.cells.toList).length=cs.size:=by rw[IJ (by simpa using hsz)];simp
    have key:∃N2,N2.Nodup/\(fl=true->N2=[])/\(∀k,k∈N2->k∈G1.F r\/k∈G1.E)/\∀h':View,(Gh U w G1).le h'->(fl=true->abW h' (dA w) N1)->aa8 (dA (w.setRow b (splice cs.toList (i * s+off) gx.cells.toList).toArray)) h' fl s (rows.set i (splice row off xs)) (G1.μ r) (b::N2)/\b ∉ N2:=by
     have hoth:∀k,k≠b->dA (w.setRow b (splice cs.toList (i * s+off) gx.cells.toList).toArray) k=dA w k:=λk hk=>setRow_other w b k _ hk
     cases fl with
     |true=>
      refine⟨[],by simp,λ_=>rfl,by simp,λh' hv hs=>⟨.inr ⟨b,cap,_,T,[], ?_, ?_,hh, ?_,⟨?_,rfl⟩,rfl⟩,by simp⟩⟩
      ·rw[hμ];simp
      ·simpa using k2
      ·simpa[aLF] using k4
      ·have q1:jg h' xs gx.cells.toList:=abX hv xs _ N1 (hs rfl) hrow;simpa using anK (qp hv s rows _ k5.1) hrw q1 axn aLE
     |false=>
      obtain⟨N2,Dr,q1,hp⟩:=asC k5 hrw hrow axn aLE;have aIZ:(N'++N1).Nodup:=by have h1:=t1.ok.nd r;rw[k6] at h1;have h2:=t1.ok.ndE;rw[hE1] at h2;exact List.nodup_append.2 ⟨(List.nodup_cons.1 h1).2,h2,λx hx y hy e=>t1.ok.djE r x (by rw[k6];simp[hx]) (by rw[hE1,e];exact hy)⟩
      have hnd:=List.nodup_append.1 (hp.nodup_iff.2 aIZ);have hmem:∀k,k∈N2->k∈N'\/k∈N1:=λk hk=>by simpa using hp.mem_iff.1 (List.mem_append_left Dr hk)
      have hbn:b ∉ N2:=by
       intro hb2;rcases hmem b hb2 with h|h
       ·have:=t1.ok.nd r;rw[k6] at this;exact(List.nodup_cons.1 this).1 h
       ·exact t1.ok.djE r b hbF (by rw[hE1];exact h)
      refine⟨N2,hnd.1,(λe=>by cases e),λk hk=> ?_,λh' hv _=>⟨.inr ⟨b,cap,_,T,N2, ?_, ?_,hh, ?_, ?_,rfl⟩,hbn⟩⟩
      ·rcases hmem k hk with h|h
       ·left;rw[k6];simp[h]
       ·right;rw[hE1];exact h
      ·rw[hμ];simp
      ·simpa using k2
      ·simpa[aLF] using k4
      ·have:=BD hv s _ _ N2 (λk hk=>hoth k (λe=>hbn (e ▸ hk))) q1;simpa using this
    obtain⟨N2,hN2,aYY,aYZ,VY⟩:=key;refine⟨_,_,hrun,Nx.after t1.le (t1.ok.rewrite ho1 ac8 (μ':=G1.μ) (N:=b::N2) hc (Ut hbF) ?_ ?_ (λ_ _=>rfl) ⟨Nat.le_refl _,rfl,λ_=>⟨rfl,rfl⟩⟩ ?_)⟩
    ·exact List.nodup_cons.2 ⟨(VY (full w) (vI _ _ _) (λ_=>alD)).2,hN2⟩
    ·intro k hk;have hsz':(w.setRow b (splice cs.toList (i * s+off) gx.cells.toList).toArray).heap.size=w.heap.size:=by simp[World.setRow]
     rw[hsz'];simp only[List.mem_cons] at hk;rcases hk with rfl|hk
     ·exact⟨.inl hbF,(t1.ok.lt _ (.inr ⟨r,hbF⟩)).1⟩
     ·rcases aYZ k hk with h|h
      ·exact⟨.inl h,(t1.ok.lt _ (.inr ⟨r,h⟩)).1⟩
      ·exact⟨.inr (.inl h),(t1.ok.lt _ (.inl h)).1⟩
    ·intro h' hv hml aCg;refine(VY h' hv (λhfl=> ?_)).1;intro k hk;have hkE:k∈G1.E:=by rw[hE1];exact hk
     refine aCg k hkE ?_ k (by simp);rw[aYY hfl];simp only[List.mem_singleton];intro e;subst e;exact t1.ok.djE r _ hbF hkE
   |_=>exact aF h
 |_=>exact aF h
def Gi.fresh(hg:Gi base U w m G)(ho:G.out=[])(hfr:Fr M0 w0 w G){k:Nat}{c':Cell}{gv:Value}{N:List Nat}(hn:get k m=none)(hk:Keep [] w w')(hN:N.Nodup)
  (hNs:∀b,b∈N->(b∈G.E\/w.heap.size<=b)/\b<w'.heap.size)
  (hcell:∀h':View,(Gh U w G).le h'->Ep G.μ m (upM G.μ k gv) (put k c' m)->(∀j,j∈G.E->j ∉ N->abW h' (dA w) [j])->nY (upM G.μ k gv) (put k c' m) (dA w') h' k c' N):
  Nx base U M0 w0 w m G w' (put k c' m) ⟨upM G.μ k gv,RZ G.F k N,[],[]⟩:=by
 have hk':Keep G.E w w':=⟨hk.os,hk.tape,hk.output,hk.size,λb hb _=>hk.block b hb (by simp)⟩
 obtain⟨q1,q2⟩:=Gi.world hg hk' (E':=N) hN hNs;have hμ:∀j,j≠k->upM G.μ k gv j=G.μ j:=λj e=>Ld gv e
 have hml:Ep G.μ m (upM G.μ k gv) (put k c' m):=EM hμ (λc0 h0=>by rw[hn] at h0;cases h0);have hFk:G.F k=[]:=hg.none_ k hn;have hset:=Gi.set (U:=U) (w:=w') q1 k c' (upM G.μ k gv) N [] [] (by simpa using hN) (by simp;exact λb hb=> .inr hb) hml hμ (λj hj=>by simp[ho]) (by simp)
  (λhv _=>hcell _ (q2.trans' hv) hml (λj hjE hjN b hb cs t fr hH o v hv=>by
   have hb:=List.mem_singleton.1 hb;rw[<-hb] at hjE hjN;have hlt:=hg.lt b (.inl hjE);have hsame:dA w' b=dA w b:=hk.block b hlt.1 (by simp);refine Le (w:=w') (N:=[b]) (λx hx=> ?_) b (by simp) cs t fr (hsame.trans hH) o v hv;rw[List.mem_singleton.1 hx];refine⟨hlt.2.2, ?_⟩;rintro(h|⟨i,h⟩)
   ·simp at h
   ·by_cases e:i=k
    ·subst e;rw[uJ] at h;exact hjN h
    ·rw[iJ _ e] at h;exact hg.djE i b h hjE))
 obtain⟨s1,s2⟩:=hset;refine⟨s1,rfl,rfl,hml,q2.trans' s2.view, ?_⟩;refine⟨hfr.keep.trans hk (by simp), ?_⟩;rintro b (hb|⟨i,hb⟩)
 ·simp at hb
 ·by_cases e:i=k
  ·subst e;simp only[uJ] at hb;rcases(hNs b hb).1 with h|h
   ·exact hfr.fr b (.inl h)
   ·exact .inr (Nat.le_trans hfr.keep.size h)
  ·simp only[iJ _ e] at hb;exact hfr.fr b (.inr ⟨i,hb⟩)
def VZ{w1:World}{o:Obj}(h:w1.heap=w.heap):dA (w1.alloc o) w.heap.size=some o:=by have:=heap_alloc_new w1 o;rw[h] at this;exact this
def alR(hA:At base U M0 w0 w m G){k:Nat}{T:TypeId}{cs:List V}{arr:Array Value}(hs:dn G.μ m (Gh U w G) cs arr.toList){u:Unit}{l l':Log}(h:(new k (.box T cs)).run m l=some (u,m',l')):
  ∃G',Nx base U M0 w0 w m G (w.alloc (.cells arr T)) m' G'/\aO G'.μ m' (Gh U (w.alloc (.cells arr T)) G') (.ptr k 0) (.pointer (some ⟨w.heap.size,0,none⟩)):=by
 obtain⟨hn,rfl⟩:=YB h;refine⟨_,hA.ok.fresh hA.out hA.fr (gv:=.pointer (some ⟨w.heap.size,0,none⟩)) (N:=[w.heap.size]) hn YG (by simp) (λb hb=>by simp at hb;subst hb;simp) (λh' hv hml _=> ?_), ?_⟩
 ·exact⟨w.heap.size,arr,by simp,VZ rfl,sJ hml hv _ _ hs,rfl⟩
 ·simp[aO,gV,ZG,axe]
def aie(hg:Gi base U w m G)(ho:G.out=[])(hfr:Fr M0 w0 w G){w1:World}(hw1:w1.heap=w.heap)(hk1:Keep [] w w1){k:Nat}{fl:Bool}{s cap:Nat}{rows:List Row}{arr:Array Value}{T:TypeId}(hq:gJ (dA w) (Gh U w G) s rows arr.toList G.E)
  (hcap:rows.length<=cap) (hsz:arr.size=cap * s) {u:Unit} {l l':Log} (h:(new k (.arr false fl 0 s rows)).run m l=some (u,m',l')):
  ∃G',Nx base U M0 w0 w m G (w1.alloc (.cells arr T)) m' G'/\aO G'.μ m' (Gh U (w1.alloc (.cells arr T)) G') (.own k 0) (.slice (some ⟨w.heap.size,0,none⟩) rows.length cap):=by
 obtain⟨hn,rfl⟩:=YB h;have hsize:(w1.alloc (.cells arr T)).heap.size=w.heap.size+1:=by rw[World.size_alloc,hw1]
 have hkeep:Keep [] w (w1.alloc (.cells arr T)):=hk1.trans (YG (M:=[])) (by simp);have hnE:w.heap.size ∉ G.E:=λhE=>by have:=(hg.lt _ (.inl hE)).1;omega
 have hnew:dA (w1.alloc (.cells arr T)) w.heap.size=some (.cells arr T (0,0)):=VZ hw1;refine⟨_,hg.fresh ho hfr (gv:=.slice (some ⟨w.heap.size,0,none⟩) rows.length cap) (N:=w.heap.size::(match fl with|true=>[]|false=>G.E)) hn hkeep ?_ ?_ ?_, ?_⟩
 ·cases fl with
  |true=>simp
  |false=>exact List.nodup_cons.2 ⟨hnE,hg.ndE⟩
 ·intro b hb;simp only[List.mem_cons] at hb;rcases hb with rfl|hb
  ·exact⟨.inr (Nat.le_refl _),by rw[hsize];omega⟩
  ·cases fl with
   |true=>simp at hb
   |false=>exact⟨.inl hb,by rw[hsize];have:=(hg.lt b (.inl hb)).1;omega⟩
 ·intro h' hv hml aCg;simp only[nY,BF];refine .inr ⟨w.heap.size,cap,arr,T,_,rfl,hcap,hnew,hsz, ?_,rfl⟩;cases fl with
  |true=>refine⟨JY hv s rows _ _ (λb hb=> ?_) hq,rfl⟩;refine aCg b hb ?_ b (by simp);simp only[List.mem_singleton];intro e;exact hnE (e ▸ hb)
  |false=>exact BD hv s rows _ _ (λb hb=>hkeep.block b (hg.lt b (.inl hb)).1 (by simp)) hq
 ·simp[aO,gV,ZG,axe]
def YH(off:Nat):∀(xs:List Value) (k:Nat) (cells:Array Value),off+k+xs.length<=cells.size->
  ((xs.zipIdx k).foldl (λcs (c,j)=>cs.setIfInBounds (off+j) c) cells).toList=splice cells.toList (off+k) xs
 |[],k,cells,h=>by simp[splice]
 |x::xs,k,cells,h=>by simp only[mQ] at h;simp only[List.zipIdx_cons,List.foldl_cons];rw[YH off xs (k+1) _ (by simp;omega)];have e:=list_seg_step cells.toList (off+k) x xs (by simp;omega);simpa[splice,Array.toList_setIfInBounds,Nat.add_assoc] using e
def NQ(base:Nat)(U:Nat->Prop)(M0:List Nat)(w0 w:World)(m:Mem)(G:GS)(P:Program)(s:Sem Value)(v:V)(m':Mem):Prop:=
 ∃g w' G',s.run P w=.ok g w'/\Nx base U M0 w0 w m G w' m' G'/\aO G'.μ m' (Gh U w' G') v g
def NQ.same(hA:At base U M0 w0 w m G){s:Sem Value}{g:Value}{v:V}(h:s.run P w=.ok g w)(hv:aO G.μ m (Gh U w G) v g):NQ base U M0 w0 w m G P s v m:=⟨g,w,G,h,hA.nx,hv⟩
def axo(hA:At base U M0 w0 w m G){T k:Nat}{z:List V}(hz:P9 P T=some z){u:Unit}{l l':Log}(h:(new k (.box T z)).run m l=some (u,m',l')):
  NQ base U M0 w0 w m G P (Instr.alloc T true (.tuple #[])) (.ptr k 0) m':=by
 obtain⟨i,zv,hi,hzv,hs⟩:=SB (m:=m) (μ:=G.μ) (h:=Gh U w G) hz;obtain⟨G',hnx,VY⟩:=alR hA hs h;refine⟨_,_,G', ?_,hnx,VY⟩;simp[Instr.alloc,zeroValue,typeInfo,hi,hzv,newVar,newRow]
def aI0(hA:At base U M0 w0 w m G){T k:Nat}{v:V}{g:Value}(hv:aO G.μ m (Gh U w G) v g)(h1:v.cells.all one=true){u:Unit}{l l':Log}(h:(new k (.box T v.cells)).run m l=some (u,m',l')):
  NQ base U M0 w0 w m G P (Instr.box T g) (.ptr k 0) m':=by
 obtain⟨hs,_⟩:=cells_ok h1 hv;obtain⟨G',hnx,VY⟩:=alR hA hs h;refine⟨_,_,G', ?_,hnx,VY⟩;simp[Instr.box,newVar,newRow]
def aft:∀(fs:List Field),(fs.all λf=>match P.info? f.type with|some _=>true|none=>false)=true->
  ∃places,fs.mapM (λf=>(P.info? f.type).map λi=>(f.offset,i.size))=some places/\∀(j:Nat) f,fs[j]? =some f->places[j]? =some (f.offset,oU P f.type)
 |[],_=>⟨[],by simp,by simp⟩
 |f::fs,h=>by
  simp only[List.all_cons,xw] at h;obtain⟨places,h1,h2⟩:=aft fs h.2;cases hi:P.info? f.type with
  |none=>simp[hi] at h
  |some i=>
   refine⟨(f.offset,i.size)::places,by simp[List.mapM_cons,hi,h1], ?_⟩;intro j g hj;cases j with
   |zero=>simp at hj;subst hj;simp[oU,hi]
   |succ j=>simpa using h2 j g (by simpa using hj)
def abn{T:TypeId}{fs:Array Field}(hu:P.underlying T=some (.struct fs)){place:Nat->Option (Nat×Nat)}(hp:∀(j:Nat) f,fs[j]? =some f->place j=some (f.offset,oU P f.type)){tm:mD}{a:Act}
  {μ:Nat->Value} {h:View}:∀(ps:List (Nat×Operand)) {m:Mem} (_:ac7 μ m h tm a) {cs:List V} {cells:Array Value} (_:dn μ m h cs cells.toList) {out:List V} {m':Mem} {l l':Log}
  (_:(xM P T tm ps cs).run m l=some (out,m',l')),m'=m/\∃r,Instr.fill place cells (ps.map λx=>(x.1,a.eval x.2))=some r/\dn μ m h out r.toList
 |[],m,hT,cs,cells,hs,out,m',l,l',hr=>by simp only[xM,run_pure,jF,nT] at hr;obtain⟨rfl,rfl,_⟩:=hr;exact⟨rfl,cells,rfl,hs⟩
 |(f,x)::ps,m,hT,cs,cells,hs,out,m',l,l',hr=>by
  simp only[xM] at hr;replace hr:=aj hr;obtain⟨⟨o,n,t⟩,m1,l1,h1,hr⟩:=hr;obtain⟨hf,rfl,rfl⟩:=jc h1;simp only at hr;obtain⟨hlen,hr⟩:=bck hr;obtain⟨hone,hr⟩:=bck hr;obtain⟨hfit,hr⟩:=bck hr;have hlen:=yV hlen;have hfit:=Nat.le_of_ble_eq_true hfit;obtain⟨hv,hv1⟩:=cells_ok hone (ZO hT t x);have hgl:(a.eval x).cells.size=n:=by rw[<-hlen,<-jG hv,Array.length_toList]
  have hcl:cells.size=cs.length:=by rw[<-jG hs,Array.length_toList]
  have hpl:place f=some (o,n):=by
   unfold Yx at hf;rw[hu] at hf;simp only at hf;cases hfd:fs[f]? with
   |none=>simp[hfd] at hf
   |some fd=>simp only[hfd,jF,nT] at hf;obtain⟨rfl,rfl,rfl⟩:=hf;exact hp f fd hfd
  have hsp:=YH o (a.eval x).cells.toList 0 cells (by simp;omega);have hz:(a.eval x).cells.zipIdx.foldl (λcs (c,j)=>cs.setIfInBounds (o+j) c) cells=(splice cells.toList o (a.eval x).cells.toList).toArray:=by apply Array.ext';rw[<-Array.foldl_toList];simpa using hsp
  obtain⟨hm,r,hr1,hr2⟩:=abn hu hp ps hT (cells:=(splice cells.toList o (a.eval x).cells.toList).toArray) (by simpa using YD o hs hv) hr;refine⟨hm,r, ?_,hr2⟩;simp only[PO,Instr.fill,hpl];rw[if_neg (by simp[hgl];omega),hz];exact hr1
def avC(hA:At base U M0 w0 w m G){tm:mD}{a:Act}(hT:ac7 G.μ m (Gh U w G) tm a){T:TypeId}{ps:Array (Nat×Operand)}{v:V}{l l':Log}(h:(anB P T tm ps.toList).run m l=some (v,m',l')):
  NQ base U M0 w0 w m G P (Instr.build T (ps.map λx=>(x.1,a.eval x.2))) v m':=by
 simp only[anB] at h;replace h:=aj h;obtain⟨_,m1,l1,h1,h⟩:=h;obtain⟨hok,rfl,rfl⟩:=fJ h1;replace h:=aj h;obtain⟨z,m1,l1,h1,h⟩:=h;obtain⟨hz,rfl,rfl⟩:=jc h1;replace h:=aj h;obtain⟨cs,m2,l2,h2,h⟩:=h;simp only[run_pure,jF,nT] at h;obtain⟨rfl,rfl,_⟩:=h;obtain⟨i,zv,hi,hzv,hs⟩:=SB (m:=m1) (μ:=G.μ) (h:=Gh U w G) hz;unfold ao1 at hok;cases hu:P.underlying T with
 |none=>simp[hu] at hok
 |some d=>
  rw[hu] at hok;cases d with
  |struct fs=>simp only at hok;obtain⟨places,hpl,hpg⟩:=aft fs.toList hok;obtain⟨hm,r,hr1,hr2⟩:=abn (place:=(places.toArray[·]?)) hu (λj f hj=>by simpa using hpg j f (by simpa using hj)) ps.toList hT hs h2;subst hm;refine NQ.same hA (g:=.agg r) ?_ (by simp only[aO];exact⟨r,rfl,hr2⟩);refine run_build w T _ r ?_;unfold Program.built;simp only[hi,hu,hzv,hpl];simpa[Array.toList_map] using hr1
  |_=>simp at hok
def ZP{e:TypeId}{size:Nat}(hsz:oU P e=size){tm:mD}{a:Act}
  {μ:Nat->Value} {h:View}:∀(ps:List (Nat×Operand)) {m:Mem} (_:ac7 μ m h tm a) {cs:List V} {cells:Array Value} (_:dn μ m h cs cells.toList) {out:List V} {m':Mem} {l l':Log}
  (_:(uz P e tm ps cs).run m l=some (out,m',l')),m'=m/\∃r,Instr.fill (λi=>some (i * size,size)) cells (ps.map λx=>(x.1,a.eval x.2))=some r/\dn μ m h out r.toList
 |[],m,hT,cs,cells,hs,out,m',l,l',hr=>by simp only[uz,run_pure,jF,nT] at hr;obtain⟨rfl,rfl,_⟩:=hr;exact⟨rfl,cells,rfl,hs⟩
 |(i,x)::ps,m,hT,cs,cells,hs,out,m',l,l',hr=>by
  simp only[uz] at hr;obtain⟨hlen,hr⟩:=bck hr;obtain⟨hone,hr⟩:=bck hr;obtain⟨hfit,hr⟩:=bck hr;have hlen:=yV hlen;have hfit:=Nat.le_of_ble_eq_true hfit;rw[hsz] at hlen hfit hr;obtain⟨hv,hv1⟩:=cells_ok hone (ZO hT e x);have hgl:(a.eval x).cells.size=size:=by rw[<-hlen,<-jG hv,Array.length_toList]
  have hcl:cells.size=cs.length:=by rw[<-jG hs,Array.length_toList]
  have hsp:=YH (i * size) (a.eval x).cells.toList 0 cells (by simp;omega);have hz:(a.eval x).cells.zipIdx.foldl (λcs (c,j)=>cs.setIfInBounds (i * size+j) c) cells=(splice cells.toList (i * size) (a.eval x).cells.toList).toArray:=by apply Array.ext';rw[<-Array.foldl_toList];simpa using hsp
  obtain⟨hm,r,hr1,hr2⟩:=ZP hsz ps hT (cells:=(splice cells.toList (i * size) (a.eval x).cells.toList).toArray) (by simpa using YD (i * size) hs hv) hr;refine⟨hm,r, ?_,hr2⟩;simp only[PO,Instr.fill];rw[if_neg (by simp[hgl];omega),hz];exact hr1
def avD(hA:At base U M0 w0 w m G){tm:mD}{a:Act}(hT:ac7 G.μ m (Gh U w G) tm a){T:TypeId}{ps:Array (Nat×Operand)}{v:V}{l l':Log}(h:(anC P T tm ps.toList).run m l=some (v,m',l')):
  NQ base U M0 w0 w m G P (Instr.build T (ps.map λx=>(x.1,a.eval x.2))) v m':=by
 unfold anC at h;split at h
 ·rename_i n e har;unfold arT at har;cases hu:P.underlying T with
  |none=>simp[hu] at har
  |some d=>rw[hu] at har;cases d<;>simp at har;obtain⟨rfl,rfl⟩:=har;simp only[asq] at h;replace h:=aj h;obtain⟨_,m1,l1,h1,h⟩:=h;obtain⟨hok,rfl,rfl⟩:=fJ h1;replace h:=aj h;obtain⟨z,m1,l1,h1,h⟩:=h;obtain⟨hz,rfl,rfl⟩:=jc h1;replace h:=aj h;obtain⟨cs,m2,l2,h2,h⟩:=h;simp only[run_pure,jF,nT] at h;obtain⟨rfl,rfl,_⟩:=h;obtain⟨i,zv,hi,hzv,hs⟩:=SB (m:=m1) (μ:=G.μ) (h:=Gh U w G) hz;obtain⟨d',hd'⟩:=EN hok;obtain⟨inf,Nu⟩:=zA hd';obtain⟨hm,r,hr1,hr2⟩:=ZP (JZ Nu) ps.toList hT hs h2;subst hm;refine NQ.same hA (g:=.agg r) ?_ (by simp only[aO];exact⟨r,rfl,hr2⟩);refine run_build w T _ r ?_;unfold Program.built;simp only[hi,hu,hzv,Nu];simpa[Array.toList_map] using hr1
 ·exact avC hA hT h
def abo{e:TypeId}{tm:mD}{a:Act}:∀(ps:List (Nat×Operand)) {m:Mem} {G:GS} {k:Nat} (_:Gi base U w m G) (_:G.out=[]) (_:ac7 G.μ m (Gh U w G) tm a) {rows:List Row} {m':Mem} {l l':Log}
  (_:(xO P e tm k ps).run m l=some (rows,m',l')),∃G' N,P6 base U w m G m' G' N/\gJ (dA w) (Gh U w G') (oU P e) rows ((ps.map λx=>a.eval x.2).flatMap λv=>v.cells.toList) N/\rows.length=ps.length/\
   (∀v∈ps.map (λx=>a.eval x.2),v.cells.size=oU P e)/\ps.map (λx=>(x.1,a.eval x.2))=((ps.map λx=>a.eval x.2).zipIdx k).map λx=>(x.2,x.1)
 |[],m,G,k,hg,ho,hT,rows,m',l,l',h=>by simp only[xO,run_pure,jF,nT] at h;obtain⟨rfl,rfl,_⟩:=h;exact⟨G,[],P6.same hg,by simp[gJ],rfl,by simp,by simp⟩
 |(i,x)::ps,m,G,k,hg,ho,hT,rows,m',l,l',h=>by
  simp only[xO] at h;replace h:=aj h;obtain⟨_,m1,l1,h1,h⟩:=h;obtain⟨hik,rfl,rfl⟩:=fJ h1;have hik:=yV hik;subst hik;replace h:=aj h;obtain⟨_,m1,l1,h1,h⟩:=h;obtain⟨hlen,rfl,rfl⟩:=fJ h1;have hlen:=yV hlen;replace h:=aj h;obtain⟨row,m2,l2,h2,h⟩:=h;replace h:=aj h;obtain⟨rows',m3,l3,h3,h⟩:=h;simp only[run_pure,jF,nT] at h;obtain⟨rfl,rfl,_⟩:=h;have hev:=ZO (P:=P) hT e x;have hcells:∃gs,dn G.μ m1 (Gh U w G) (ev P tm e x).cells gs/\(a.eval x).cells.toList=gs:=by
   generalize ev P tm e x=v at hev h2 hlen;cases v with
   |agg cs=>simp only[aO] at hev;obtain⟨arr,he,hq⟩:=hev;exact⟨arr.toList,hq,by rw[he];rfl⟩
   |d y=>have h1:(a.eval x).oneCell'=true:=qw (v:=.d y) rfl hev;exact⟨[a.eval x],by simp only[V.cells,dn];exact⟨_,[],rfl,hev,rfl⟩,by rw[cells_one h1]⟩
   |nil s=>have h1:(a.eval x).oneCell'=true:=qw (v:=.nil s) rfl hev;exact⟨[a.eval x],by simp only[V.cells,dn];exact⟨_,[],rfl,hev,rfl⟩,by rw[cells_one h1]⟩
   |own r ver=>have h1:(a.eval x).oneCell'=true:=qw (v:=.own r ver) rfl hev;exact⟨[a.eval x],by simp only[V.cells,dn];exact⟨_,[],rfl,hev,rfl⟩,by rw[cells_one h1]⟩
   |ptr r o=>have h1:(a.eval x).oneCell'=true:=qw (v:=.ptr r o) rfl hev;exact⟨[a.eval x],by simp only[V.cells,dn];exact⟨_,[],rfl,hev,rfl⟩,by rw[cells_one h1]⟩
   |EL r v i o=>have h1:(a.eval x).oneCell'=true:=qw (v:=.EL r v i o) rfl hev;exact⟨[a.eval x],by simp only[V.cells,dn];exact⟨_,[],rfl,hev,rfl⟩,by rw[cells_one h1]⟩
   |zx r o=>have h1:(a.eval x).oneCell'=true:=qw (v:=.zx r o) rfl hev;exact⟨[a.eval x],by simp only[V.cells,dn];exact⟨_,[],rfl,hev,rfl⟩,by rw[cells_one h1]⟩
   |NR q=>have h1:(a.eval x).oneCell'=true:=qw (v:=.NR q) rfl hev;exact⟨[a.eval x],by simp only[V.cells,dn];exact⟨_,[],rfl,hev,rfl⟩,by rw[cells_one h1]⟩
   |clo f p q=>have h1:(a.eval x).oneCell'=true:=qw (v:=.clo f p q) rfl hev;exact⟨[a.eval x],by simp only[V.cells,dn];exact⟨_,[],rfl,hev,rfl⟩,by rw[cells_one h1]⟩
   |JV vs=>simp only[V.cells,Qb,toD] at h2;replace h2:=aj h2;obtain⟨_,_,_,h4,_⟩:=h2;exact aF h4
   |undef=>simp only[V.cells,Qb,toD] at h2;replace h2:=aj h2;obtain⟨_,_,_,h4,_⟩:=h2;exact aF h4
  obtain⟨gs,hgs,hge⟩:=hcells;obtain⟨G1,N1,t1,q1,hrl⟩:=VR hg hgs ho h2;have hT1:ac7 G1.μ m2 (Gh U w G1) tm a:=λt v hv=>⟨(hT t v hv).1,t1.le.aO (hT t v hv).2⟩
  obtain⟨G2,N2,t2,q2,hl2,hs2,hz2⟩:=abo ps t1.ok (t1.out.trans ho) hT1 h3;have hgl:gs.length=oU P e:=by rw[jG hgs,hlen]
  refine⟨G2,N1++N2,t1.trans t2, ?_,by simp[hl2], ?_, ?_⟩
  ·simp only[gJ,PO,List.flatMap_cons,hge];refine⟨by rw[hrl,hlen],N1,N2,rfl,Px (by rw[hrl,<-jG hgs];simp) (abY t2.le.view q1), ?_⟩;rw[List.drop_append_of_le_length ak,List.drop_eq_nil_of_le ak];exact q2
  ·intro v hv;simp only[PO,List.mem_cons] at hv;rcases hv with rfl|hv
   ·rw[<-Array.length_toList,hge,hgl]
   ·exact hs2 v hv
  ·simp only[PO,List.zipIdx_cons,hz2]
def aif(hA:At base U M0 w0 w m G){tm:mD}{a:Act}(hT:ac7 G.μ m (Gh U w G) tm a){t:TypeId}{n k:Nat}{ps:Array (Nat×Operand)}{v:V}{l l':Log}(h:(WZ P k t n tm ps.toList).run m l=some (v,m',l')):
  NQ base U M0 w0 w m G P (Instr.buildSlice t n (ps.map λx=>(x.1,a.eval x.2))) v m':=by
 simp only[WZ] at h;replace h:=aj h;obtain⟨e,m1,l1,h1,h⟩:=h;obtain⟨he,rfl,rfl⟩:=jc h1;replace h:=aj h;obtain⟨_,m1,l1,h1,h⟩:=h;obtain⟨hs1,rfl,rfl⟩:=fJ h1;replace h:=aj h;obtain⟨_,m1,l1,h1,h⟩:=h;obtain⟨hn,rfl,rfl⟩:=fJ h1;replace h:=aj h;obtain⟨_,m1,l1,h1,h⟩:=h;obtain⟨hb,rfl,rfl⟩:=fJ h1;replace h:=aj h;obtain⟨z,m1,l1,h1,h⟩:=h;obtain⟨hz,rfl,rfl⟩:=jc h1;obtain⟨inf,zv,hi,hzv,_⟩:=SB (m:=m1) (μ:=G.μ) (h:=Gh U w G) hz;replace h:=aj h;obtain⟨rows,m2,l2,h2,h⟩:=h;replace h:=aj h;obtain⟨_,m3,l3,h3,h⟩:=h;simp only[run_pure,jF,nT] at h;obtain⟨rfl,rfl,_⟩:=h;have hs1:=Nat.le_of_ble_eq_true hs1;have hn:=yV hn;have hb:=Nat.le_of_ble_eq_true hb;have hu:=VX he;obtain⟨G1,N1,t1,q1,hrl,hsz,aY0⟩:=abo (e:=e) ps.toList hA.ok hA.out hT h2;obtain⟨hE1,ho1,ac8⟩:=hA.took t1;have hsz':oU P e=inf.size:=JZ hi;have hrn:rows.length=n:=by rw[hrl,hn]
 by_cases hn0:n=0
 ·subst hn0;have hps:ps.toList=[]:=List.eq_nil_of_length_eq_zero hn;have hrows:rows=[]:=List.eq_nil_of_length_eq_zero hrn;subst hrows;have hpa:ps=#[]:=by cases ps;simp_all
  subst hpa;simp only[gJ] at q1;obtain⟨G2,hnx,VY⟩:=aie (w1:=w) (cap:=0) (arr:=#[]) (T:=e) t1.ok ho1 ac8 rfl (Keep.refl _ _) (k:=k) (fl:=Gg P e) (s:=oU P e) (rows:=[]) (by rw[hE1,q1];simp[gJ]) (by simp) (by simp) h3;refine⟨_,_,G2, ?_,Nx.after t1.le hnx,VY⟩;simp[Instr.buildSlice,run_underlying hu,sizeOf,typeInfo,hi,Instr.fill,newRow,Array.range_zero']
 ·have hpos:¬n * inf.size=0:=by rw[<-hsz'];intro e0;rcases Nat.mul_eq_zero.1 e0 with e1|e1<;>omega
  have hsmall:¬n * inf.size>2 ^ 24:=by rw[<-hsz'];omega
  have axp:=Go.Great.fill_whole (s:=oU P e) ak (ps.toList.map λx=>a.eval x.2) ((Array.range (n * inf.size)).map (zv.cells[· % zv.cells.size]!)) hsz (by simp[<-hsz'];rw[<-hn];simp);rw[<-aY0] at axp;have hrun:=run_buildSlice w t e n (ps.map λx=>(x.1,a.eval x.2)) _ inf zv hu hi hzv hsmall hpos (by rw[<-hsz'];rw[<-hsz'] at axp;simpa[Array.toList_map] using axp);have hcl:((ps.toList.map λx=>a.eval x.2).flatMap λv=>v.cells.toList).length=n * oU P e:=by
   have:∀(l:List Value),(∀v∈l,v.cells.size=oU P e)->(l.flatMap λv=>v.cells.toList).length=l.length * oU P e:=by
    intro l;induction l with
    |nil=>simp
    |cons v l ih=>intro hv;simp only[List.flatMap_cons,rJ,mQ,Nat.add_mul,Array.length_toList];rw[ih (λu hu=>hv u (by simp[hu])),hv v (by simp)];omega
   rw[this _ hsz];simp[<-hn]
  obtain⟨G2,hnx,VY⟩:=aie (w1:=w) (cap:=n) (arr:=((ps.toList.map λx=>a.eval x.2).flatMap λv=>v.cells.toList).toArray) (T:=e) t1.ok ho1 ac8 rfl (Keep.refl _ _) (k:=k) (fl:=Gg P e) (s:=oU P e) (rows:=rows) (by rw[hE1];simpa using q1) ak (by simp[hcl]) h3;rw[hrn] at VY;exact⟨_,_,G2,hrun,Nx.after t1.le hnx,VY⟩
def afu{h:View}{b:Nat}:∀(r:Row) (o:Nat),yX h r b o->∃cs:List Value,cs.length=r.length/\(∀j v,cs[j]? =some v->h b (o+j)=some v)/\jg h r cs
 |[],_,_=>⟨[],rfl,by simp,trivial⟩
 |x::r,o,q=>by
  simp only[yX] at q;obtain⟨⟨v,h1,h2⟩,h3⟩:=q;obtain⟨cs,e1,e2,e3⟩:=afu r (o+1) h3;refine⟨v::cs,by simp[e1], ?_,⟨v,cs,rfl,h2,e3⟩⟩;intro j u hj;cases j with
  |zero=>simp at hj;subst hj;exact h1
  |succ j=>
   have:=e2 j u (by simpa using hj)
   rwa [show o+(j+1)=o+1+j from by omega]
def YI{h:View}{s b:Nat}:∀(rs:List Row) (o:Nat),oW h s rs b o->∃cs:List Value,cs.length=rs.length * s/\(∀j v,cs[j]? =some v->h b (o+j)=some v)/\iI h s rs cs
 |[],_,_=>⟨[],by simp,by simp,trivial⟩
 |r::rs,o,q=>by
  simp only[oW] at q;obtain⟨h1,h2,h3⟩:=q;obtain⟨cs1,a1,a2,a3⟩:=afu r o h2;obtain⟨cs2,b1,b2,b3⟩:=YI rs (o+s) h3;have hl:cs1.length=s:=by rw[a1,h1]
  refine⟨cs1++cs2,by simp[hl,b1,Nat.add_mul];omega, ?_,h1, ?_, ?_⟩
  ·intro j u hj
   by_cases hlt:j<s
   ·rw[List.getElem?_append_left ak] at hj;exact a2 j u hj
   ·rw[List.getElem?_append_right ak,hl] at hj;have:=b2 (j - s) u hj
    rwa [show o+j=o+s+(j - s) from by omega]
  ·refine Qi ?_ a3;rw[List.take_append_of_le_length ak]
  ·rw[List.drop_append_of_le_length ak,List.drop_eq_nil_of_le ak];exact b3
def afv{h:View}:∀{r:Row} {cs:List Value},jg h r cs->∀u∈cs.take r.length,u.oneCell'=true
 |[],_,_=>by simp
 |x::r,cs,⟨v,cs',e,h1,h2⟩=>by
  subst e;intro u hu;simp only[mQ,List.take_succ_cons,List.mem_cons] at hu;rcases hu with rfl|hu
  ·exact Xx h1
  ·exact afv h2 u hu
def Vf{h:View}{s:Nat}:∀{rs:List Row} {cs:List Value},iI h s rs cs->∀u∈cs.take (rs.length * s),u.oneCell'=true
 |[],_,_=>by simp
 |r::rs,cs,⟨h1,h2,h3⟩=>by
  intro u hu;have hs:(r::rs).length * s=s+rs.length * s:=by simp[Nat.add_mul];omega
  rw[hs,List.take_add] at hu;simp only[List.mem_append] at hu;rcases hu with hu|hu
  ·exact afv h2 u (by rw[h1];exact hu)
  ·exact Vf h3 u hu
def akV{H:Heap}{h:View}{x:D}{g:Value}{N:List Nat}(q:ow H h x g N):g.oneCell'=true:=by
 cases x with
 |sl o s rows=>
  cases o with
  |false=>simp only[ow] at q;exact Xx q.2
  |true=>simp only[ow] at q;rcases q with⟨_,rfl,_⟩|⟨b,cap,cs,t,N',rfl,_⟩<;>rfl
 |_=>simp only[ow] at q;rw[q.1];rfl
def alS{H:Heap}{h:View}:∀{r:Row} {cs:List Value} {N:List Nat},iW H h r cs N->∀u∈cs.take r.length,u.oneCell'=true
 |[],_,_,_=>by simp
 |x::r,cs,N,q=>by
  obtain⟨v,cs',N1,N2,rfl,rfl,h1,h2⟩:=GU q;intro u hu;simp only[mQ,List.take_succ_cons,List.mem_cons] at hu;rcases hu with rfl|hu
  ·exact akV h1
  ·exact alS h2 u hu
def aii{H:Heap}{h:View}{s:Nat}:∀{rs:List Row} {cs:List Value} {N:List Nat},gJ H h s rs cs N->∀u∈cs.take (rs.length * s),u.oneCell'=true
 |[],_,_,_=>by simp
 |r::rs,cs,N,q=>by
  simp only[gJ] at q;obtain⟨h1,N1,N2,rfl,h2,h3⟩:=q;intro u hu;have hs:(r::rs).length * s=s+rs.length * s:=by simp[Nat.add_mul];omega
  rw[hs,List.take_add] at hu;simp only[List.mem_append] at hu;rcases hu with hu|hu
  ·exact alS h2 u (by rw[h1];exact hu)
  ·exact aii h3 u hu
def Ih(H:Heap)(h:View)(fl:Bool)(s:Nat)(rows:List Row)(cs:List Value)(N:List Nat):Prop:=match fl with
 |true=>iI h s rows cs/\N=[]
 |false=>gJ H h s rows cs N
def SC{H:Heap}{h:View}{fl:Bool}{s:Nat}{rows:List Row}{cs cs':List Value}{N:List Nat}(e:cs.take (rows.length * s)=cs'.take (rows.length * s))(q:Ih H h fl s rows cs N):Ih H h fl s rows cs' N:=by
 cases fl with
 |true=>exact⟨rQ e q.1,q.2⟩
 |false=>exact Uu e q
def ac9{H:Heap}{h:View}{fl:Bool}{s:Nat}{a b:List Row}{cs:List Value}{N N':List Nat}(q:Ih H h fl s a cs N)(q':Ih H h fl s b (cs.drop (a.length * s)) N'):Ih H h fl s (a++b) cs (N++N'):=by
 cases fl with
 |true=>exact⟨A8.2 ⟨q.1,q'.1⟩,by rw[q.2,q'.2];rfl⟩
 |false=>exact DN.2 ⟨N,N',rfl,q,q'⟩
def Py{H H':Heap}{h h':View}(hl:h.le h'){fl:Bool}{s:Nat}{rows:List Row}{cs:List Value}{N:List Nat}(hb:∀b,b∈N->H' b=H b)(q:Ih H h fl s rows cs N):Ih H' h' fl s rows cs N:=by
 cases fl with
 |true=>exact⟨qp hl s rows _ q.1,q.2⟩
 |false=>exact BD hl s rows _ N hb q
mutual
def axq{H:Heap}{h:View}:∀(x:D) (v:Value),ro h x.fz v->ow H h x.fz v []
 | .int _ _,_,q=>by simpa[D.fz,ow,ro] using q
 | .bool _,_,q=>by simpa[D.fz,ow,ro] using q
 | .str _,_,q=>by simpa[D.fz,ow,ro] using q
 | .Zo,_,q=>by simpa[D.fz,ow,ro] using q
 | .sl _ s rows,v,q=>by simp only[D.fz,ow,true_and] at q|-;exact q
end
def afw{H:Heap}{h:View}:∀(r:Row) (cs:List Value),jg h (qo r) cs->iW H h (qo r) cs []
 |[],_,_=>by simp[qo,iW]
 |x::r,cs,q=>by simp only[qo,jg] at q;obtain⟨v,cs',e,h1,h2⟩:=q;simp only[qo,iW];exact⟨v,cs',[],[],e,rfl,axq x v h1,afw r cs' h2⟩
def ada{H:Heap}{h:View}{s:Nat}:∀(rs:List Row) (cs:List Value),iI h s (aG rs) cs->gJ H h s (aG rs) cs []
 |[],_,_=>by simp[aG,gJ]
 |r::rs,cs,q=>by simp only[aG,iI] at q;obtain⟨h1,h2,h3⟩:=q;simp only[aG,gJ];exact⟨h1,[],[],rfl,afw r cs h2,ada rs _ h3⟩
def aij{h:View}:∀{r:Row} {cs:List Value},jg h r cs->jg h (qo r) cs
 |[],_,_=>by simp[qo,jg]
 |x::r,cs,⟨v,cs',e,h1,h2⟩=>by simp only[qo,jg];exact⟨v,cs',e,axf x v h1,aij h2⟩
def ZQ{h:View}{s:Nat}:∀{rs:List Row} {cs:List Value},iI h s rs cs->iI h s (aG rs) cs
 |[],_,_=>by simp[aG,iI]
 |r::rs,cs,⟨h1,h2,h3⟩=>by simp only[aG,iI];exact⟨by rw[Yz];exact h1,aij h2,ZQ h3⟩
structure Tail(P:Program)(base:Nat)(U:Nat->Prop)(w:World)(m:Mem)(G:GS)(size:Nat)(fl:Bool)(gy:Value)(ys:List Row)(m':Mem):Prop where
 ex:∃G' news,Gi base U w m' G'/\Zq m G m' G'/\G'.out=G.out/\G'.μ=G.μ/\Src P size w gy ys.length news/\Ih (dA w) (Gh U w G') fl size ys news G'.E/\∀r c,get r m=some c->get r m'=some c\/get r m'=some .dead
def aCh(hA:At base U M0 w0 w m G){e:TypeId}{y:V}{gy:Value}(hy:aO G.μ m (Gh U w G) y gy)(hsz:1<=oU P e){ys:List Row}{l l':Log}(h:(tail P e y).run m l=some (ys,m',l')):
  Tail P base U w m G (oU P e) (Gg P e) gy ys m':=by
 have plain:∀(ys:List Row) (news:List Value),Src P (oU P e) w gy ys.length news->(Gg P e=true->iI (Gh U w G) (oU P e) ys news)->(Gg P e=false->gJ (dA w) (Gh U w G) (oU P e) ys news [])->
   Tail P base U w m G (oU P e) (Gg P e) gy ys m:=by
  intro ys news h1 h2 h3;refine⟨G,news,hA.ok,Zq.refl _ _,rfl,rfl,h1, ?_,λr c h=> .inl h⟩;rw[hA.E];cases hf:Gg P e with
  |true=>exact⟨h2 hf,rfl⟩
  |false=>exact h3 hf
 have seen:∀(rows:List Row) (o:Bool),ro (Gh U w G) (.sl o (oU P e) rows) gy->Tail P base U w m G (oU P e) (Gg P e) gy (vw (Gg P e) rows) m:=by
  intro rows o hq;simp only[ro] at hq;obtain⟨a,cap,rfl,hcap,hne⟩:=hq;have hvl:(vw (Gg P e) rows).length=rows.length:=by unfold vw;cases Gg P e<;>simp[Ti]
  by_cases hr:rows=[]
  ·subst hr;have hv:vw (Gg P e) []=[]:=by unfold vw;cases Gg P e<;>simp[aG]
   rw[hv];exact plain [] [] (Src.slice (by simp) (by simp) (by simp)) (λ_=>trivial) (λ_=>by simp[gJ])
  ·obtain⟨b,o',rfl,hrows⟩:=hne hr;obtain⟨cs,c1,c2,c3⟩:=YI rows o' hrows;refine plain _ cs ?_ (λhf=> ?_) (λhf=> ?_)
   ·rw[hvl];refine Src.slice c1 (λu hu=> ?_) (λ_=>⟨b,o',rfl,λj v hj=>vI _ _ _ _ _ _ (c2 j v hj)⟩);exact Vf c3 u (by rw[<-c1,List.take_length];exact hu)
   ·rw[hf];exact c3
   ·rw[hf];simp only[vw,bg];exact ada rows cs (ZQ c3)
 cases y with
 |d x=>
  cases x with
  |str s=>simp only[Vm.tail] at h;replace h:=aj h;obtain⟨_,m1,l1,h1,h⟩:=h;obtain⟨hs,rfl,rfl⟩:=fJ h1;simp only[run_pure,jF,nT] at h;obtain⟨rfl,rfl,_⟩:=h;have hs:=yV hs;simp only[aO,ro] at hy;subst hy;have aG6:=axj (h:=Gh U w G) s _ rfl;refine plain _ _ (by rw[hs];simpa using Src.string) (λ_=>by rw[hs];exact aG6) (λ_=> ?_);rw[hs];refine ZI 1 _ _ ?_ aG6;simp[ay,byteRow,D.flat]
  |sl o s rows=>simp only[Vm.tail] at h;replace h:=aj h;obtain⟨_,m1,l1,h1,h⟩:=h;obtain⟨hs,rfl,rfl⟩:=fJ h1;simp only[run_pure,jF,nT] at h;obtain⟨rfl,rfl,_⟩:=h;have hs:=yV hs;subst hs;simp only[aO] at hy;exact seen rows o hy
  |_=>exact aF h
 |nil s=>simp only[Vm.tail,run_pure,jF,nT] at h;obtain⟨rfl,rfl,_⟩:=h;simp only[aO] at hy;subst hy;exact plain [] [] (Src.slice (by simp) (by simp) (by simp)) (λ_=>trivial) (λ_=>by simp[gJ])
 |own r ver=>
  simp only[Vm.tail] at h;replace h:=aj h;obtain⟨c,m1,l1,h1,h⟩:=h;rw[uG] at h1;cases h1;cases hc:get r m with
  |none=>rw[hc] at h;exact aF h
  |some c=>
   rw[hc] at h;cases c with
   |arr fz fl jM s rows=>
    simp only at h;replace h:=aj h;obtain⟨_,m1,l1,h1,h⟩:=h;obtain⟨hb,rfl,rfl⟩:=fJ h1;have hb:=yV hb;subst hb;replace h:=aj h;obtain⟨_,m1,l1,h1,h⟩:=h;obtain⟨hs,rfl,rfl⟩:=fJ h1;have hs:=yV hs;subst hs;simp only[aO,hc] at hy;have hy:=hy.2.2 trivial;subst hy;have hro:r ∉ G.out:=by rw[hA.out];simp
    have hcell:=hA.ok.cell r _ hc hro;cases hf:Gg P e with
    |true=>
     rw[hf] at h;simp only at h;replace h:=aj h;obtain⟨_,m1,l1,h1,h⟩:=h;obtain⟨hff,rfl,rfl⟩:=fJ h1;simp only[run_pure,jF,nT] at h;obtain⟨rfl,rfl,_⟩:=h;cases fz with
     |true=>have:=seen rows true hcell.1;rw[hf] at this;simpa[vw] using this
     |false=>
      have hfl:fl=true:=by simpa using hff
      subst hfl;rw[hf] at plain;simp only[nY] at hcell;rcases hcell with⟨rfl,hμ,_⟩|⟨b,cap,cs,T,N',h1,h2,h3,h4,h5,_⟩
      ·rw[hμ] at plain|-;exact plain [] [] (Src.slice (by simp) (by simp) (by simp)) (λ_=>trivial) (λe=>by cases e)
      ·rw[h1] at plain|-;have hle:rows.length * oU P e<=cs.toList.length:=by
        have hcl:cs.toList.length=cap * oU P e:=by simpa using h4
        rw[hcl];exact Nat.mul_le_mul_right _ h2
       refine plain rows (cs.toList.take (rows.length * oU P e)) (Src.slice (by rw[VF];omega) (λu hu=>Vf h5.1 u hu) (λ_=>⟨b,0,rfl,λj v hj=> ?_⟩)) (λ_=>rQ (by rw[List.take_take,Nat.min_self]) h5.1) (λe=>by cases e);rw[List.getElem?_take] at hj;split at hj
       ·have:=full_cell (w:=w) h3 (0+j);rw[Nat.zero_add] at this|-;rw[hj] at this;exact this
       ·cases hj
    |false=>
     rw[hf] at h;simp only at h;replace h:=aj h;obtain⟨_,m1,l1,h1,h⟩:=h;obtain⟨hff,rfl,rfl⟩:=fJ h1;have hfl:fl=false:=by simpa using hff
     subst hfl;cases fz with
     |true=>simp only[run_pure,jF,nT] at h;obtain⟨rfl,rfl,_⟩:=h;have:=seen rows true hcell.1;rw[hf] at this;simpa[vw] using this
     |false=>
      simp only at h;replace h:=aj h;obtain⟨_,m1,l1,h1,h⟩:=h;rw[DK] at h1;cases h1;simp only[run_pure,jF,nT] at h;obtain⟨rfl,rfl,_⟩:=h;obtain⟨k1,k2,k3⟩:=hA.ok.kill hc hro;have hold:∀j c,get j m1=some c->get j (put r .dead m1)=some c\/get j (put r .dead m1)=some .dead:=by
       intro j c hj
       by_cases e:j=r
       ·subst e;right;exact gV _ _ _
       ·left;rw[jX e];exact hj
      rcases k3 with⟨rfl,hμ,hF⟩|⟨b,cap,cs,T,N',h1,h2,h3,h4,h5,hF⟩
      ·refine⟨_,[],k1,k2,rfl,rfl, ?_, ?_,hold⟩
       ·rw[hμ];exact Src.slice (by simp) (by simp) (by simp)
       ·rw[hA.E,hF];simp[Ih,gJ]
      ·have hnd:(b::N').Nodup:=by rw[<-hF];exact hA.ok.nd r
       obtain⟨q1,q2⟩:=k1.less N' (List.nodup_cons.1 hnd).2 (λx hx=>by rw[hA.E,hF];simp[hx]);have hle:rows.length * oU P e<=cs.toList.length:=by
        have hcl:cs.toList.length=cap * oU P e:=by simpa using h4
        rw[hcl];exact Nat.mul_le_mul_right _ h2
       refine⟨_,cs.toList.take (rows.length * oU P e),q1,k2.trans q2,rfl,rfl, ?_, ?_,hold⟩
       ·rw[h1];refine Src.slice (by rw[VF];omega) (λu hu=>aii h5 u hu) (λ_=>⟨b,0,rfl,λj v hj=> ?_⟩);rw[List.getElem?_take] at hj;split at hj
        ·have:=full_cell (w:=w) h3 (0+j);rw[Nat.zero_add] at this|-;rw[hj] at this;exact this
        ·cases hj
       ·exact Uu (by rw[List.take_take,Nat.min_self]) (ao5 (k2.view.trans' q2.view) h5)
   |_=>exact aF h
 |_=>exact aF h
end
section
variable {base:Nat} {U:Nat->Prop} {M0:List Nat} {w0 w w':World} {m m':Mem} {G G' G1:GS} {P:Program}
def pW{b:Bool}{l:Log}{x:Unit}{l':Log}(h:(ck b).run m l=some (x,m',l')):b=true/\m=m'/\l=l':=by obtain⟨h1,h2,h3⟩:=fJ h;exact⟨h1,h2.symm,h3.symm⟩
def Ux{a:Nat}(h:Nat.ble a XP=true):a<=140737488355328:=Nat.le_of_ble_eq_true h
def ael{M M':List Nat}(h:Keep M w w')(hs:∀b,b∈M->b∈M'):Keep M' w w':=⟨h.os,h.tape,h.output,h.size,λb hb hn=>h.block b hb (λhx=>hn (hs b hx))⟩
def YJ{w1:World}{o:Obj}(h:Keep [] w w1):Keep [] w (w1.alloc o):=h.trans (YG (M:=[])) (by simp)
def afx(hg:Gi base U w m G)(ho:G.out=[])(hfr:Fr M0 w0 w G){w1:World}(hw1:w1.heap=w.heap)(hk1:Keep [] w w1){k:Nat}{fl:Bool}{s cap:Nat}{rows:List Row}{arr:Array Value}{T:TypeId}(hq:Ih (dA w) (Gh U w G) fl s rows arr.toList G.E)
  (hcap:rows.length<=cap) (hsz:arr.size=cap * s) {u:Unit} {l l':Log} (h:(new k (.arr false fl 0 s rows)).run m l=some (u,m',l')):
  ∃G',Nx base U M0 w0 w m G (w1.alloc (.cells arr T)) m' G'/\aO G'.μ m' (Gh U (w1.alloc (.cells arr T)) G') (.own k 0) (.slice (some ⟨w.heap.size,0,none⟩) rows.length cap):=by
 obtain⟨hn,rfl⟩:=YB h;have hsize:(w1.alloc (.cells arr T)).heap.size=w.heap.size+1:=by rw[World.size_alloc,hw1]
 have hkeep:Keep [] w (w1.alloc (.cells arr T)):=YJ hk1;have hnE:w.heap.size ∉ G.E:=λhE=>by have:=(hg.lt _ (.inl hE)).1;omega
 refine⟨_,hg.fresh ho hfr (gv:=.slice (some ⟨w.heap.size,0,none⟩) rows.length cap) (N:=w.heap.size::G.E) hn hkeep (List.nodup_cons.2 ⟨hnE,hg.ndE⟩) ?_ ?_, ?_⟩
 ·intro b hb;simp only[List.mem_cons] at hb;rcases hb with rfl|hb
  ·exact⟨.inr (Nat.le_refl _),by rw[hsize];omega⟩
  ·exact⟨.inl hb,by rw[hsize];have:=(hg.lt b (.inl hb)).1;omega⟩
 ·intro h' hv hml aCg;simp only[nY,BF];refine .inr ⟨w.heap.size,cap,arr,T,G.E,rfl,hcap,VZ hw1,hsz, ?_,rfl⟩;have:=Py (H':=dA (w1.alloc (.cells arr T))) hv (λb hb=>hkeep.block b (hg.lt b (.inl hb)).1 (by simp)) hq;cases fl with
  |true=>exact this
  |false=>exact this
 ·simp[aO,gV,ZG]
def YK{z:Value}{n s:Nat}(h:z.cells.size=s):(Builtin.zeroCells z.cells n).size=n * s:=by simp[Builtin.zeroCells,h]
def aud(t1:Gi base U w m G1){m0:Mem}(t2:Zq m0 G m G1)(ho1:G1.out=[])(ac8:Fr M0 w0 w G1){r ver s:Nat}{rows ys:List Row}(hc:get r m=some (.VG ver s rows)){t ty ry e:TypeId}{inf:TypeInfo}{zv gy:Value}{news:List Value}
  (hu:P.underlying t=some (.slice e)) (hty':(∃e',P.underlying ty=some (.slice e'))\/P.underlying ty=some .string) (hi:P.info? e=some inf) (hzv:inf.zero=some zv) (hsz:s=inf.size) (hzs:zv.cells.size=s) (hsrc:Src P inf.size w gy ys.length news)
  (hrows:Ih (dA w) (Gh U w G1) true s ys news G1.E) (hb1:(rows.length+ys.length) * inf.bytes<=140737488355328) (hb2:rows.length+ys.length<=140737488355328) (hcell:agi (dA w) (Gh U w G1) s rows (G1.μ r) (G1.F r)):
  NQ base U M0 w0 w m0 G P (Builtin.append_ #[t,ty] ry #[G1.μ r,gy]) (.own r (ver+1)) (put r (.VG (ver+1) s (rows++ys)) m):=by
 have hnl:news.length=ys.length * s:=by rw[hsz];exact hsrc.n
 have asE:¬ver=ver+1:=ak;have hE:G1.E=[]:=hrows.2;have hsn:iI (Gh U w G1) s ys news:=hrows.1;have fin:∀(w':World) (g:Value) (N:List Nat),Keep (G1.F r) w w'->N.Nodup->(∀b,b∈N->(b∈G1.F r\/b∈G1.E\/w.heap.size<=b)/\b<w'.heap.size)->
   (∀h':View,(Gh U w G1).le h'->agi (dA w') h' s (rows++ys) g N)->(Builtin.append_ #[t,ty] ry #[G1.μ r,gy]).run P w=.ok g w'->ZG g->
   NQ base U M0 w0 w m0 G P (Builtin.append_ #[t,ty] ry #[G1.μ r,gy]) (.own r (ver+1)) (put r (.VG (ver+1) s (rows++ys)) m):=by
  intro w' g N hk hN hNs VY hrun hone;refine⟨g,w',_,hrun,Nx.after t2 (t1.rewrite ho1 ac8 (μ':=upM G1.μ r g) (N:=N) hc hk hN hNs (λk hk=>Ld g hk) ⟨ak,λe=>absurd e asE⟩ (λh' hv hml _=> ?_)), ?_⟩
  ·simp only[nY,BF];exact VY h' hv
  ·simp[aO,gV,hone]
 have fresh:∀(olds:List Value) (cap:Nat),olds.length=rows.length * s->(∀h':View,(Gh U w G1).le h'->iI h' s rows olds)->rows.length+ys.length<=cap->
   (Builtin.append_ #[t,ty] ry #[G1.μ r,gy]).run P w=.ok (.slice (some ⟨w.heap.size,0,none⟩) (rows.length+ys.length) cap) (w.drew.alloc (.cells ((olds++news).toArray++Builtin.zeroCells zv.cells (cap - (rows.length+ys.length))) e))->
   NQ base U M0 w0 w m0 G P (Builtin.append_ #[t,ty] ry #[G1.μ r,gy]) (.own r (ver+1)) (put r (.VG (ver+1) s (rows++ys)) m):=by
  intro olds cap hol hos hcap hrun;have hkeep:Keep [] w (w.drew.alloc (.cells ((olds++news).toArray++Builtin.zeroCells zv.cells (cap - (rows.length+ys.length))) e)):=YJ aaX;have hsize:(w.drew.alloc (.cells ((olds++news).toArray++Builtin.zeroCells zv.cells (cap - (rows.length+ys.length))) e)).heap.size=w.heap.size+1:=by rw[World.size_alloc];rfl
  refine fin _ _ [w.heap.size] (ael hkeep (by simp)) (by simp) ?_ ?_ hrun ⟨_,_,_,rfl⟩
  ·intro k hk;simp only[List.mem_singleton] at hk;subst hk;exact⟨.inr (.inr (Nat.le_refl _)),by rw[hsize];omega⟩
  ·intro h' hv;refine .inr ⟨w.heap.size,0,cap,_,e,by simp,by simpa using hcap,VZ rfl, ?_, ?_,rfl⟩
   ·rw[Array.size_append,YK hzs];simp only[List.size_toArray,rJ,hol,hnl];rw[<-Nat.add_mul,<-Nat.add_mul,Nat.zero_add];exact Nat.mul_le_mul_right _ ak
   ·rw[List.drop_zero,Array.toList_append];refine A8.2 ⟨rQ (cs:=olds) ?_ (hos h' hv),rQ (cs:=news) ?_ (qp hv _ _ _ hsn)⟩
    ·simp only[JR];rw[List.take_append_of_le_length ak]
    ·simp only[JR];rw[<-hol,List.drop_left,List.take_append_of_le_length ak]
 rcases hcell with⟨rfl,hμ,hF⟩|⟨b,o,cap,cs,T,k1,k2,k3,k4,k5,k6⟩
 ·by_cases hy0:ys=[]
  ·subst hy0;refine fin w (.slice none 0 0) [] (Keep.refl _ _) (by simp) (by simp) (λh' hv=> .inl ⟨rfl,rfl,rfl⟩) ?_ ⟨_,_,_,rfl⟩;rw[hμ];exact UW hu hty' hi hsrc
  ·have hm:ys.length≠0:=by simpa using hy0
   obtain⟨cap,hcap,hrun⟩:=UU (w:=w) (ty:=ry) hu hty' hi hzv hsrc hm (by simpa using hb2) (by simpa using hb1);refine fresh [] cap (by simp) (λ_ _=>trivial) (by simpa using hcap) ?_;rw[hμ];simpa using hrun
 ·have hbF:b∈G1.F r:=by rw[k6];simp
  have hcl:o+cap * s<=cs.toList.length:=by simpa using k4
  have hrl:rows.length * s<=cap * s:=Nat.mul_le_mul_right _ k2
  by_cases hroom:rows.length+ys.length<=cap
  ·have hrun:=ab1 (ty:=ry) (o:=o) hu hty' hi hsrc k3 hroom (by rw[<-hsz];exact k4);rw[<-hsz] at hrun;have hh:=setRow_heap w b cs (splice cs.toList (o+rows.length * s) news).toArray T (0,0) k3;have hfit:o+rows.length * s+news.length<=cs.toList.length:=by have:=Nat.mul_le_mul_right s hroom;rw[Nat.add_mul] at this;rw[hnl];omega
   have hsz2:(w.setRow b (splice cs.toList (o+rows.length * s) news).toArray).heap.size=w.heap.size:=by simp[World.setRow]
   refine fin _ (.slice (some ⟨b,o,none⟩) (rows.length+ys.length) cap) [b] (Ut hbF) (by simp) ?_ ?_ (by rw[k1];exact hrun) ⟨_,_,_,rfl⟩
   ·intro k hk;simp only[List.mem_singleton] at hk;subst hk;rw[hsz2];exact⟨.inl hbF,(t1.lt _ (.inr ⟨r,hbF⟩)).1⟩
   ·intro h' hv;refine .inr ⟨b,o,cap,_,T,by simp,by simpa using hroom,hh, ?_, ?_,rfl⟩
    ·have:=IJ (l:=cs.toList) (xs:=news) (o:=o+rows.length * s) hfit;simp only[List.size_toArray];rw[this];exact hcl
    ·have e1:(splice cs.toList (o+rows.length * s) news).drop o=(cs.toList.drop o).take (rows.length * s)++(news++cs.toList.drop (o+rows.length * s+news.length)):=by simp only[splice,JR];rw[List.drop_append_of_le_length (by rw[VF];omega),List.drop_take];congr 2;omega
     have l1:((cs.toList.drop o).take (rows.length * s)).length=rows.length * s:=by rw[VF,List.length_drop];omega
     rw[e1];refine A8.2 ⟨rQ (cs:=cs.toList.drop o) ?_ (qp hv _ _ _ k5),rQ (cs:=news) ?_ (qp hv _ _ _ hsn)⟩
     ·rw[List.take_append_of_le_length ak,List.take_take,Nat.min_self]
     ·rw[List.drop_append_of_le_length ak,List.drop_eq_nil_of_le ak,List.nil_append,List.take_append_of_le_length ak]
  ·have hlt:cap<rows.length+ys.length:=ak;obtain⟨cap',hcap',hrun⟩:=ab2 (ty:=ry) (o:=o) (olds:=(cs.toList.drop o).take (rows.length * s)) hu hty' hi hzv hsrc (by rw[VF,List.length_drop,<-hsz];omega) (λj u hj=>by
    rw[List.getElem?_take] at hj;split at hj
    ·rw[List.getElem?_drop] at hj;have:=full_cell (w:=w) k3 (o+j);rw[hj] at this;exact this
    ·cases hj) hlt hb2 hb1
   refine fresh ((cs.toList.drop o).take (rows.length * s)) cap' (by rw[VF,List.length_drop];omega) (λh' hv=>rQ (cs:=cs.toList.drop o) (by rw[List.take_take,Nat.min_self]) (qp hv _ _ _ k5)) hcap' ?_;rw[k1];exact hrun
def asF(hA:At base U M0 w0 w m G){dst:Nat}{t ty ry:TypeId}{x y:V}{gx gy:Value}(hx:aO G.μ m (Gh U w G) x gx)(hy:aO G.μ m (Gh U w G) y gy){v:V}{l l':Log}(h:(anz P dst t ty x y).run m l=some (v,m',l')):
  NQ base U M0 w0 w m G P (Builtin.append_ #[t,ty] ry #[gx,gy]) v m':=by
 simp only[anz] at h;replace h:=aj h;obtain⟨e,m1,l1,h1,h⟩:=h;obtain⟨he,rfl,rfl⟩:=jc h1;replace h:=aj h;obtain⟨_,m1,l1,h1,h⟩:=h;obtain⟨hs1,rfl,rfl⟩:=fJ h1;replace h:=aj h;obtain⟨_,m1,l1,h1,h⟩:=h;obtain⟨hty,rfl,rfl⟩:=fJ h1;replace h:=aj h;obtain⟨z,m1,l1,h1,h⟩:=h;obtain⟨hz,rfl,rfl⟩:=jc h1;replace h:=aj h;obtain⟨_,m1,l1,h1,h⟩:=h;obtain⟨hzs,rfl,rfl⟩:=fJ h1;replace h:=aj h;obtain⟨ys,m2,l2,h2,h⟩:=h;have hs1:=Nat.le_of_ble_eq_true hs1;have hu:=VX he;have hty':(∃e',P.underlying ty=some (.slice e'))\/P.underlying ty=some .string:=by
  cases hq:P.underlying ty with
  |none=>simp[hq] at hty
  |some d=>rw[hq] at hty;cases d<;>simp at hty<;>simp
 obtain⟨G1,news,t1,t2,t3,t4,hsrc,hrows,hold⟩:=(aCh hA hy hs1 h2).ex;have ac8:Fr M0 w0 w G1:=hA.fr.less t2.ex;have ho1:G1.out=[]:=t3.trans hA.out;obtain⟨inf,zv,hi,hzv,axr⟩:=SB (m:=m1) (μ:=G.μ) (h:=Gh U w G) hz;have hzs:zv.cells.size=oU P e:=by rw[<-yV hzs,<-jG axr,Array.length_toList]
 have hsz:oU P e=inf.size:=JZ hi;have hby:VP P e=inf.bytes:=by simp[VP,hi]
 rw[hsz] at hsrc;cases x with
 |nil s0=>
  simp only at h;replace h:=aj h;obtain⟨_,m3,l3,h3,h⟩:=h;obtain⟨hb1,rfl,rfl⟩:=fJ h3;replace h:=aj h;obtain⟨_,m3,l3,h3,h⟩:=h;obtain⟨hb2,rfl,rfl⟩:=fJ h3;replace h:=aj h;obtain⟨_,m3,l3,h3,h⟩:=h;simp only[run_pure,jF,nT] at h;obtain⟨rfl,rfl,_⟩:=h;simp only[aO] at hx;subst hx;have hb1:=Ux hb1;have hb2:=Ux hb2;rw[hby] at hb1
  by_cases hy0:ys=[]
  ·subst hy0;obtain⟨hn,rfl⟩:=YB h3;refine⟨_,w,_,UW hu hty' hi hsrc,Nx.after t2 (t1.fresh ho1 ac8 (gv:=.slice none 0 0) (N:=[]) hn (Keep.refl _ _) (by simp) (by simp) (λh' hv hml _=> ?_)), ?_⟩
   ·simp only[nY,BF];exact .inl ⟨rfl,rfl,rfl⟩
   ·simp[aO,gV,ZG]
  ·have hm:ys.length≠0:=by simpa using hy0
   obtain⟨cap,hcap,hrun⟩:=UU (w:=w) (ty:=ry) hu hty' hi hzv hsrc hm hb2 hb1;obtain⟨G2,hnx,VY⟩:=afx (w1:=w.drew) (cap:=cap) (arr:=news.toArray++Builtin.zeroCells zv.cells (cap - ys.length)) (T:=e) t1 ho1 ac8 rfl aaX (k:=dst) (fl:=Gg P e) (s:=oU P e) (rows:=ys)
    (SC (by
     have hnl:news.length=ys.length * oU P e:=by rw[hsz];exact hsrc.n
     simp only[Array.toList_append];rw[List.take_append_of_le_length ak]) hrows) hcap (by
     rw[Array.size_append,YK hzs,hsz];have hnl:news.toArray.size=ys.length * inf.size:=by simpa using hsrc.n
     rw[hnl,<-Nat.add_mul];congr 1;omega) h3
   exact⟨_,_,G2,hrun,Nx.after t2 hnx,VY⟩
 |own r ver=>
  simp only at h;replace h:=aj h;obtain⟨c,m3,l3,h3,h⟩:=h;rw[uG] at h3;cases h3;replace hx:=t2.aO hx;cases hc:get r m2 with
  |none=>rw[hc] at h;exact aF h
  |some c=>
  rw[hc] at h;cases c with
  |box _ _=>exact aF h
  |dead=>exact aF h
  |AQ _ _=>exact aF h
  |zy _ _ _ _ _=>exact aF h
  |VG jM s rows=>simp only at h;replace h:=aj h;obtain⟨_,m4,l4,h4,h⟩:=h;obtain⟨hb,rfl,rfl⟩:=pW h4;have hb:=yV hb;subst hb;replace h:=aj h;obtain⟨_,m4,l4,h4,h⟩:=h;obtain⟨hs,rfl,rfl⟩:=pW h4;have hs:=yV hs;subst hs;replace h:=aj h;obtain⟨_,m4,l4,h4,h⟩:=h;obtain⟨hfl,rfl,rfl⟩:=pW h4;rw[hfl] at hrows;replace h:=aj h;obtain⟨_,m4,l4,h4,h⟩:=h;obtain⟨hb1,rfl,rfl⟩:=pW h4;have hb1:=Ux hb1;rw[hby] at hb1;replace h:=aj h;obtain⟨_,m4,l4,h4,h⟩:=h;obtain⟨hb2,rfl,rfl⟩:=pW h4;have hb2:=Ux hb2;replace h:=aj h;obtain⟨_,m4,l4,h4,h⟩:=h;rw[DK] at h4;cases h4;simp only[run_pure,jF,nT] at h;obtain⟨rfl,rfl,_⟩:=h;simp only[aO,hc] at hx;have hx:=hx.2.2 trivial;subst hx;have hcell:=t1.cell r _ hc (by rw[ho1];simp);exact aud t1 t2 ho1 ac8 hc hu hty' hi hzv hsz hzs hsrc hrows hb1 hb2 hcell
  |arr fz fl jM s rows=>
  cases fz with
  |true=>exact aF h
  |false=>
  simp only at h;replace h:=aj h;obtain⟨_,m4,l4,h4,h⟩:=h;obtain⟨hb,rfl,rfl⟩:=pW h4;have hb:=yV hb;subst hb;replace h:=aj h;obtain⟨_,m4,l4,h4,h⟩:=h;obtain⟨hs,rfl,rfl⟩:=pW h4;have hs:=yV hs;subst hs;replace h:=aj h;obtain⟨_,m4,l4,h4,h⟩:=h;obtain⟨hfl,rfl,rfl⟩:=pW h4;have hfl:fl=Gg P e:=by cases fl<;>cases hq:Gg P e<;>simp_all
  rw[<-hfl] at hrows;replace h:=aj h;obtain⟨_,m4,l4,h4,h⟩:=h;obtain⟨hb1,rfl,rfl⟩:=pW h4;have hb1:=Ux hb1;rw[hby] at hb1;replace h:=aj h;obtain⟨_,m4,l4,h4,h⟩:=h;obtain⟨hb2,rfl,rfl⟩:=pW h4;have hb2:=Ux hb2;replace h:=aj h;obtain⟨_,m4,l4,h4,h⟩:=h;rw[DK] at h4;cases h4;simp only[run_pure,jF,nT] at h;obtain⟨rfl,rfl,_⟩:=h;simp only[aO,hc] at hx;have hx:=hx.2.2 trivial;subst hx;have hcell:=t1.cell r _ hc (by rw[ho1];simp);have hnl:news.length=ys.length * oU P e:=by rw[hsz];exact hsrc.n
  have asE:¬ver=ver+1:=ak;have hEd:∀b,b∈G1.F r->b ∉ G1.E:=λb=>t1.djE r b
  have fin:∀(w':World) (g:Value) (N:List Nat),Keep (G1.F r) w w'->N.Nodup->(∀b,b∈N->(b∈G1.F r\/b∈G1.E\/w.heap.size<=b)/\b<w'.heap.size)->
    (∀h':View,(Gh U w G1).le h'->aa8 (dA w') h' fl (oU P e) (rows++ys) g N)->(Builtin.append_ #[t,ty] ry #[G1.μ r,gy]).run P w=.ok g w'->ZG g->
    NQ base U M0 w0 w m1 G P (Builtin.append_ #[t,ty] ry #[G1.μ r,gy]) (.own r (ver+1)) (put r (.arr false fl (ver+1) (oU P e) (rows++ys)) m2):=by
   intro w' g N hk hN hNs VY hrun hone;refine⟨g,w',_,hrun,Nx.after t2 (t1.rewrite ho1 ac8 (μ':=upM G1.μ r g) (N:=N) hc hk hN hNs (λk hk=>Ld g hk) ⟨ak,rfl,λe=>absurd e asE⟩ (λh' hv hml _=> ?_)), ?_⟩
   ·simp only[nY,BF];exact VY h' hv
   ·simp[aO,gV,hone]
  simp only[nY] at hcell;rcases hcell with⟨rfl,hμ,hF⟩|⟨b,cap,cs,T,N',k1,k2,k3,k4,k5,k6⟩
  ·
   by_cases hy0:ys=[]
   ·subst hy0;refine fin w (.slice none 0 0) [] (Keep.refl _ _) (by simp) (by simp) (λh' hv=> .inl ⟨rfl,rfl,rfl⟩) ?_ ⟨_,_,_,rfl⟩;rw[hμ];exact UW hu hty' hi hsrc
   ·have hm:ys.length≠0:=by simpa using hy0
    obtain⟨cap,hcap,hrun⟩:=UU (w:=w) (ty:=ry) hu hty' hi hzv hsrc hm (by simpa using hb2) (by simpa using hb1);have hkeep:Keep [] w (w.drew.alloc (.cells (news.toArray++Builtin.zeroCells zv.cells (cap - ys.length)) e)):=YJ aaX;have hsize:(w.drew.alloc (.cells (news.toArray++Builtin.zeroCells zv.cells (cap - ys.length)) e)).heap.size=w.heap.size+1:=by rw[World.size_alloc];rfl
    have hnE:w.heap.size ∉ G1.E:=λhE=>by have:=(t1.lt _ (.inl hE)).1;omega
    refine fin _ _ (w.heap.size::G1.E) (ael hkeep (by simp)) (List.nodup_cons.2 ⟨hnE,t1.ndE⟩) ?_ ?_ (by rw[hμ];exact hrun) ⟨_,_,_,rfl⟩
    ·intro k hk;simp only[List.mem_cons] at hk;rcases hk with rfl|hk
     ·exact⟨.inr (.inr (Nat.le_refl _)),by rw[hsize];omega⟩
     ·exact⟨.inr (.inl hk),by rw[hsize];have:=(t1.lt k (.inl hk)).1;omega⟩
    ·intro h' hv;refine .inr ⟨w.heap.size,cap,_,e,G1.E,rfl,by simpa using hcap,VZ rfl, ?_, ?_,rfl⟩
     ·rw[Array.size_append,YK hzs,hsz];have hnl:news.toArray.size=ys.length * inf.size:=by simpa using hsrc.n
      rw[hnl,<-Nat.add_mul];congr 1;omega
     ·have h1:=Py hv (λb hb=>hkeep.block b (t1.lt b (.inl hb)).1 (by simp)) hrows;have h2:=SC (cs':=(news.toArray++Builtin.zeroCells zv.cells (cap - ys.length)).toList) (by simp only[Array.toList_append];rw[List.take_append_of_le_length ak]) h1;rw[List.nil_append];cases fl with
      |true=>exact h2
      |false=>exact h2
  ·have hbF:b∈G1.F r:=by rw[k6];simp
   have aI1:=t1.nd r;rw[k6] at aI1;have asG:∀k,k∈N'->k∈G1.F r:=λk hk=>by rw[k6];simp[hk]
   have aG7:(N'++G1.E).Nodup:=List.nodup_append.2 ⟨(List.nodup_cons.1 aI1).2,t1.ndE,λa ha c hc e=>hEd a (asG a ha) (e ▸ hc)⟩;have hcl:cs.toList.length=cap * oU P e:=by simpa using k4
   have hrl:rows.length * oU P e<=cs.toList.length:=by rw[hcl];exact Nat.mul_le_mul_right _ k2
   have k5':Ih (dA w) (Gh U w G1) fl (oU P e) rows cs.toList N':=by
    cases fl with
    |true=>exact k5
    |false=>exact k5
   by_cases hroom:rows.length+ys.length<=cap
   ·
    have hrun:=run_append_fits (ty:=ry) hu hty' hi hsrc k3 hroom (by rw[k4,hsz]);rw[<-hsz] at hrun;have hh:=setRow_heap w b cs (splice cs.toList (rows.length * oU P e) news).toArray T (0,0) k3;have hfit:rows.length * oU P e+news.length<=cs.toList.length:=by rw[hnl,hcl,<-Nat.add_mul];exact Nat.mul_le_mul_right _ hroom
    have hoth:∀k,k≠b->dA (w.setRow b (splice cs.toList (rows.length * oU P e) news).toArray) k=dA w k:=λk hk=>setRow_other w b k _ hk
    have hsz2:(w.setRow b (splice cs.toList (rows.length * oU P e) news).toArray).heap.size=w.heap.size:=by simp[World.setRow]
    have hbN:b ∉ N'++G1.E:=by
     intro hx;simp only[List.mem_append] at hx;rcases hx with hx|hx
     ·exact(List.nodup_cons.1 aI1).1 hx
     ·exact hEd b hbF hx
    refine fin _ (.slice (some ⟨b,0,none⟩) (rows.length+ys.length) cap) (b::(N'++G1.E)) (Ut hbF) (List.nodup_cons.2 ⟨hbN,aG7⟩) ?_ ?_ (by rw[k1];exact hrun) ⟨_,_,_,rfl⟩
    ·intro k hk;rw[hsz2];simp only[List.mem_cons,List.mem_append] at hk;rcases hk with rfl|hk|hk
     ·exact⟨.inl hbF,(t1.lt _ (.inr ⟨r,hbF⟩)).1⟩
     ·exact⟨.inl (asG k hk),(t1.lt _ (.inr ⟨r,asG k hk⟩)).1⟩
     ·exact⟨.inr (.inl hk),(t1.lt _ (.inl hk)).1⟩
    ·intro h' hv;refine .inr ⟨b,cap,_,T,N'++G1.E,by simp,by simpa using hroom,hh, ?_, ?_,rfl⟩
     ·have:=IJ (l:=cs.toList) (xs:=news) (o:=rows.length * oU P e) hfit;simp only[List.size_toArray];rw[this,hcl]
     ·have h1:=Py (H':=dA (w.setRow b (splice cs.toList (rows.length * oU P e) news).toArray)) hv (λk hk=>hoth k (λe=>hbN (by rw[<-e];simp[hk]))) k5';have h2:=Py (H':=dA (w.setRow b (splice cs.toList (rows.length * oU P e) news).toArray)) hv (λk hk=>hoth k (λe=>hbN (by rw[<-e];simp[hk]))) hrows;have h3:=ac9 (SC (cs':=splice cs.toList (rows.length * oU P e) news) (by
       simp only[splice,JR];rw[List.take_append_of_le_length (by simp;omega),List.take_take,Nat.min_self]) h1) (SC (cs':=(splice cs.toList (rows.length * oU P e) news).drop (rows.length * oU P e)) (by
       simp only[splice,JR];rw[List.drop_append_of_le_length (by simp;omega)];have:(cs.toList.take (rows.length * oU P e)).drop (rows.length * oU P e)=[]:=by simp
       rw[this,List.nil_append,List.take_append_of_le_length ak]) h2)
      cases fl with
      |true=>simpa[Ih] using h3
      |false=>simpa[Ih] using h3
   ·
    have hlt:cap<rows.length+ys.length:=ak;obtain⟨cap',hcap',hrun⟩:=agj (ty:=ry) (olds:=cs.toList.take (rows.length * oU P e)) hu hty' hi hzv hsrc (by rw[VF,<-hsz];omega) (λj u hj=>by
     rw[List.getElem?_take] at hj;split at hj
     ·have:=full_cell (w:=w) k3 (0+j);rw[Nat.zero_add] at this|-;rw[hj] at this;exact this
     ·cases hj) hlt hb2 hb1
    have hkeep:Keep [] w (w.drew.alloc (.cells ((cs.toList.take (rows.length * oU P e)++news).toArray++Builtin.zeroCells zv.cells (cap' - (rows.length+ys.length))) e)):=YJ aaX;have hsize:(w.drew.alloc (.cells ((cs.toList.take (rows.length * oU P e)++news).toArray++Builtin.zeroCells zv.cells (cap' - (rows.length+ys.length))) e)).heap.size=w.heap.size+1:=by rw[World.size_alloc];rfl
    have aY1:w.heap.size ∉ N'++G1.E:=λhE=>by
     simp only[List.mem_append] at hE;rcases hE with hE|hE
     ·have:=(t1.lt _ (.inr ⟨r,asG _ hE⟩)).1;omega
     ·have:=(t1.lt _ (.inl hE)).1;omega
    refine fin _ (.slice (some ⟨w.heap.size,0,none⟩) (rows.length+ys.length) cap') (w.heap.size::(N'++G1.E)) (ael hkeep (by simp)) (List.nodup_cons.2 ⟨aY1,aG7⟩) ?_ ?_ (by rw[k1];exact hrun) ⟨_,_,_,rfl⟩
    ·intro k hk;rw[hsize];simp only[List.mem_cons,List.mem_append] at hk;rcases hk with rfl|hk|hk
     ·exact⟨.inr (.inr (Nat.le_refl _)),ak⟩
     ·exact⟨.inl (asG k hk),by have:=(t1.lt _ (.inr ⟨r,asG k hk⟩)).1;omega⟩
     ·exact⟨.inr (.inl hk),by have:=(t1.lt _ (.inl hk)).1;omega⟩
    ·intro h' hv;refine .inr ⟨w.heap.size,cap',_,e,N'++G1.E,by simp,by simpa using hcap',VZ rfl, ?_, ?_,rfl⟩
     ·rw[Array.size_append,YK hzs];simp only[List.size_toArray,rJ,VF,hnl];rw[Nat.min_eq_left hrl,<-Nat.add_mul,<-Nat.add_mul];congr 1;omega
     ·have h1:=Py hv (λb hb=>hkeep.block b (t1.lt b (.inr ⟨r,asG b hb⟩)).1 (by simp)) k5';have h2:=Py hv (λb hb=>hkeep.block b (t1.lt b (.inl hb)).1 (by simp)) hrows;have l1:(cs.toList.take (rows.length * oU P e)).length=rows.length * oU P e:=by rw[VF];omega
      have h3:=ac9 (SC (cs':=((cs.toList.take (rows.length * oU P e)++news).toArray++Builtin.zeroCells zv.cells (cap' - (rows.length+ys.length))).toList) (by
       simp only[Array.toList_append,JR];rw[List.take_append_of_le_length ak,List.take_take,Nat.min_self]) h1) (SC (cs':=(((cs.toList.take (rows.length * oU P e)++news).toArray++Builtin.zeroCells zv.cells (cap' - (rows.length+ys.length))).toList).drop (rows.length * oU P e)) (by
       simp only[Array.toList_append,JR];rw[List.drop_append_of_le_length ak,List.drop_eq_nil_of_le ak,List.nil_append,List.take_append_of_le_length ak]) h2)
      cases fl with
      |true=>exact h3
      |false=>exact h3
 |d _=>exact aF h
 |ptr _ _=>exact aF h
 |EL _ _ _ _=>exact aF h
 |zx _ _=>exact aF h
 |NR _=>exact aF h
 |clo _ _ _=>exact aF h
 |agg _=>exact aF h
 |JV _=>exact aF h
 |undef=>exact aF h
end
section
variable {base:Nat} {U:Nat->Prop} {M0:List Nat} {w0 w w':World} {m m':Mem} {G G':GS} {P:Program}
def akW(hA:At base U M0 w0 w m G){T f:Nat}{a:V}{ga:Value}(ha:aO G.μ m (Gh U w G) a ga){v:V}{l l':Log}(h:(abN P T a f).run m l=some (v,m',l')):
  NQ base U M0 w0 w m G P (Instr.fieldAt T ga f) v m':=by
 simp only[abN] at h;replace h:=aj h;obtain⟨⟨o,n,t⟩,m1,l1,h1,h⟩:=h;obtain⟨hf,rfl,rfl⟩:=jc h1;simp only at h;obtain⟨hn,h⟩:=bck h;have hn:=Nat.le_of_ble_eq_true hn;cases a with
 |ptr r off=>
  obtain⟨rfl,rfl,_⟩:=Zw h;simp only[aO] at ha;obtain⟨⟨b,o',rfl⟩,ha⟩:=ha;refine NQ.same hA (ZM hf hn) ?_;simp only[aO];refine⟨⟨_,_,rfl⟩, ?_⟩;split at ha
  ·obtain⟨b1,hμ,e⟩:=ha;simp only[Value.pointer.injEq,jF,Addr.mk.injEq] at e;obtain⟨rfl,rfl,_⟩:=e;exact⟨_,hμ,rfl⟩
  ·obtain⟨b1,hμ,e⟩:=ha;simp only[Value.pointer.injEq,jF,Addr.mk.injEq] at e;obtain⟨rfl,rfl,_⟩:=e;exact⟨_,hμ,rfl⟩
  ·trivial
  ·exact ha
 |zx row off=>obtain⟨rfl,rfl,_⟩:=Zw h;simp only[aO] at ha;obtain⟨b,o',rfl,hrow⟩:=ha;refine NQ.same hA (ZM hf hn) ?_;simp only[aO];exact⟨b,o',by rw[Nat.add_assoc],hrow⟩
 |EL r ver i off=>
  obtain⟨rfl,rfl,_⟩:=Zw h;simp only[aO] at ha;obtain⟨⟨b,o',rfl⟩,ha⟩:=ha;refine NQ.same hA (ZM hf hn) ?_;simp only[aO];refine⟨⟨_,_,rfl⟩, ?_⟩;split at ha
  ·refine⟨ha.1,λe=> ?_⟩;obtain⟨b1,n1,cap,hμ,e1⟩:=ha.2 e;simp only[Value.pointer.injEq,jF,Addr.mk.injEq] at e1;obtain⟨rfl,rfl,_⟩:=e1;exact⟨_,n1,cap,hμ,by rw[Nat.add_assoc]⟩
  ·trivial
  ·refine⟨ha.1,λe=> ?_⟩;obtain⟨b1,o1,n1,cap,hμ,e1⟩:=ha.2 e;simp only[Value.pointer.injEq,jF,Addr.mk.injEq] at e1;obtain⟨rfl,rfl,_⟩:=e1;exact⟨_,o1,n1,cap,hμ,by simp only[Nat.add_assoc]⟩
  ·refine⟨ha.1,λe=> ?_⟩;obtain⟨b1,n1,cap,hμ,e1⟩:=ha.2 e;simp only[Value.pointer.injEq,jF,Addr.mk.injEq] at e1;obtain⟨rfl,rfl,_⟩:=e1;exact⟨_,n1,cap,hμ,by rw[Nat.add_assoc]⟩
  ·exact ha
 |_=>exact aF h
def avE(hA:At base U M0 w0 w m G){T f:Nat}{a:V}{ga:Value}(ha:aO G.μ m (Gh U w G) a ga){v:V}{l l':Log}(h:(asi P T a f).run m l=some (v,m',l')):
  NQ base U M0 w0 w m G P (Instr.field T ga f) v m':=by
 simp only[asi] at h;replace h:=aj h;obtain⟨⟨o,n,t⟩,m1,l1,h1,h⟩:=h;obtain⟨hf,rfl,rfl⟩:=jc h1;simp only at h;cases a with
 |agg cs=>
  simp only at h;obtain⟨hfit,h⟩:=bck h;obtain⟨hok,h⟩:=bck h;obtain⟨hv,rfl,rfl⟩:=jc h;simp only[aO] at ha;obtain⟨arr,rfl,hs⟩:=ha;have hfit:=Nat.le_of_ble_eq_true hfit;have hp:=ah9 o n hs;have hal:arr.size=cs.length:=by simpa using jG hs
  obtain⟨g,hg⟩:=alN hv hp;refine NQ.same hA (g:=g) ?_ (Po hv hp hg);unfold Yx at hf;cases hu:P.underlying T with
  |none=>simp[hu] at hf
  |some d=>
   rw[hu] at hf;cases d with
   |struct fs=>
    simp only at hf;cases hfd:fs[f]? with
    |none=>simp[hfd] at hf
    |some fd=>
     simp only[hfd,jF,nT] at hf;obtain⟨rfl,rfl,rfl⟩:=hf;obtain⟨d',hd'⟩:=EN hok;obtain⟨i,hi⟩:=zA hd';unfold Instr.field;simp only[Sem.run_bind,run_underlying hu,Result.andThen_ok,hfd];unfold Go.part;simp only[Sem.run_bind,asAgg,Sem.run_pure,Result.andThen_ok,aej hd'];unfold valOf at hg;cases hag:Sv P fd.type with
     |true=>
      simp only[hag,if_true] at hg;subst hg;rw[JZ hi];have hex:arr.extract fd.offset (fd.offset+i.size)=(List.take i.size (List.drop fd.offset arr.toList)).toArray:=by apply Array.ext';simp[Array.toList_extract,List.extract_eq_take_drop]
      simp[sizeOf,typeInfo,hi,hex]
     |false=>
      simp only[hag,Bool.false_eq_true,if_false] at hg;have h0:arr[fd.offset]? =some g:=by
       have:(List.take (oU P fd.type) (List.drop fd.offset arr.toList))[0]? =some g:=by rw[hg];rfl
       rw[List.getElem?_take] at this;split at this
       ·rw[List.getElem?_drop,Nat.add_zero] at this;simpa using this
       ·cases this
      simp[h0]
   |_=>simp at hf
 |_=>exact aF h
def ZR{α:Type}{l:List α}{i:Int}{x:α}(h:idx l i=some x):0<=i/\i.toNat<l.length/\l[i.toNat]? =some x:=by
 unfold idx at h
 by_cases h0:0<=i
 ·simp only[h0,decide_true,aK] at h;exact⟨h0,(PN.1 h).1,h⟩
 ·simp[h0] at h
def akX(hA:At base U M0 w0 w m G){t:TypeId}{x i:V}{gx gi:Value}(hx:aO G.μ m (Gh U w G) x gx)(hi:aO G.μ m (Gh U w G) i gi){v:V}{l l':Log}(h:(abO P t x i).run m l=some (v,m',l')):
  NQ base U M0 w0 w m G P (Instr.indexAt t gx gi) v m':=by
 simp only[abO] at h;replace h:=aj h;obtain⟨e,m1,l1,h1,h⟩:=h;obtain⟨he,rfl,rfl⟩:=jc h1;cases i with
 |d xi=>
  cases xi with
  |int k n=>
   simp only at h;simp only[aO,ro] at hi;subst hi;have seen:∀(rows:List Row) (o:Bool),ro (Gh U w G) (.sl o (oU P e) rows) gx->∀row,idx rows n=some row->1<=oU P e\/True->(∃inf,P.info? e=some inf)->NQ base U M0 w0 w m1 G P (Instr.indexAt t gx (.int k n)) (.zx row 0) m1:=by intro rows o hq row hrow _ Nu;obtain⟨inf,Nu⟩:=Nu;obtain⟨h0,hlt,hget⟩:=ZR hrow;simp only[ro] at hq;obtain⟨a,cap,rfl,hcap,hne⟩:=hq;obtain⟨b,o',rfl,hrows⟩:=hne (by intro e;subst e;simp at hlt);obtain⟨hl,hr⟩:=Pv hrows hget;refine NQ.same hA (run_indexAt he Nu h0 ak) ?_;simp only[aO];rw[<-JZ Nu];exact⟨b,o'+n.toNat * oU P e,rfl,hr⟩
   cases x with
   |d y=>
    cases y with
    |sl o s rows=>simp only at h;replace h:=aj h;obtain⟨_,m2,l2,h2,h⟩:=h;obtain⟨hs,rfl,rfl⟩:=fJ h2;replace h:=aj h;obtain⟨_,m2,l2,h2,h⟩:=h;obtain⟨hok,rfl,rfl⟩:=fJ h2;replace h:=aj h;obtain⟨row,m2,l2,h2,h⟩:=h;obtain⟨hrow,rfl,rfl⟩:=jc h2;simp only[run_pure,jF,nT] at h;obtain⟨rfl,rfl,_⟩:=h;have hs:=yV hs;subst hs;simp only[aO] at hx;obtain⟨d',hd'⟩:=EN hok;exact seen rows o hx row hrow (.inr trivial) (zA hd')
    |_=>exact aF h
   |own r ver=>
    simp only at h;replace h:=aj h;obtain⟨c,m2,l2,h2,h⟩:=h;rw[uG] at h2;cases h2;cases hc:get r m1 with
    |none=>rw[hc] at h;exact aF h
    |some c=>
     rw[hc] at h;cases c with
     |zy jM s rows i0 o0=>simp only at h;replace h:=aj h;obtain⟨_,m2,l2,h2,h⟩:=h;obtain⟨hb,rfl,rfl⟩:=pW h2;have hb:=yV hb;subst hb;replace h:=aj h;obtain⟨_,m2,l2,h2,h⟩:=h;obtain⟨hs,rfl,rfl⟩:=pW h2;have hs:=yV hs;subst hs;replace h:=aj h;obtain⟨_,m2,l2,h2,h⟩:=h;obtain⟨hok,rfl,rfl⟩:=pW h2;obtain⟨d',hd'⟩:=EN hok;obtain⟨inf,Nu⟩:=zA hd';simp only[aO,hc] at hx;have hx:=hx.2.2 trivial;subst hx;obtain⟨b,cap,_,_,_,_,_,_,hμ,hl,_⟩:=hA.ok.cell r _ hc (by rw[hA.out];simp);replace h:=aj h;obtain⟨row,m2,l2,h2,h⟩:=h;obtain⟨hrow,rfl,rfl⟩:=jc h2;simp only[run_pure,jF,nT] at h;obtain⟨rfl,rfl,_⟩:=h;obtain⟨h0,hlt,hget⟩:=ZR hrow;rw[hμ];refine NQ.same hA (run_indexAt he Nu h0 ak) ?_;simp only[aO,hc,hμ];exact⟨⟨_,_,rfl⟩,Nat.le_refl _,λ_=>⟨b,_,_,rfl,by rw[JZ Nu];simp⟩⟩
     |VG jM s rows=>simp only at h;replace h:=aj h;obtain⟨_,m2,l2,h2,h⟩:=h;obtain⟨hb,rfl,rfl⟩:=pW h2;have hb:=yV hb;subst hb;replace h:=aj h;obtain⟨_,m2,l2,h2,h⟩:=h;obtain⟨hs,rfl,rfl⟩:=pW h2;have hs:=yV hs;subst hs;replace h:=aj h;obtain⟨_,m2,l2,h2,h⟩:=h;obtain⟨hok,rfl,rfl⟩:=pW h2;obtain⟨d',hd'⟩:=EN hok;obtain⟨inf,Nu⟩:=zA hd';simp only[aO,hc] at hx;have hx:=hx.2.2 trivial;subst hx;have hcell:=hA.ok.cell r _ hc (by rw[hA.out];simp);replace h:=aj h;obtain⟨row,m2,l2,h2,h⟩:=h;obtain⟨hrow,rfl,rfl⟩:=jc h2;simp only[run_pure,jF,nT] at h;obtain⟨rfl,rfl,_⟩:=h;obtain⟨h0,hlt,hget⟩:=ZR hrow;obtain⟨b,o,cap,hμ,hl,_⟩:=auc hcell hget;rw[hμ];refine NQ.same hA (run_indexAt he Nu h0 ak) ?_;simp only[aO,hc,hμ];exact⟨⟨_,_,rfl⟩,Nat.le_refl _,λ_=>⟨b,o,_,_,rfl,by rw[JZ Nu];simp⟩⟩
     |arr fz fl jM s rows=>
      simp only at h;replace h:=aj h;obtain⟨_,m2,l2,h2,h⟩:=h;obtain⟨hb,rfl,rfl⟩:=pW h2;have hb:=yV hb;subst hb;replace h:=aj h;obtain⟨_,m2,l2,h2,h⟩:=h;obtain⟨hs,rfl,rfl⟩:=pW h2;have hs:=yV hs;subst hs;replace h:=aj h;obtain⟨_,m2,l2,h2,h⟩:=h;obtain⟨hok,rfl,rfl⟩:=pW h2;obtain⟨d',hd'⟩:=EN hok;obtain⟨inf,Nu⟩:=zA hd';simp only[aO,hc] at hx;have hx:=hx.2.2 trivial;subst hx;have hcell:=hA.ok.cell r _ hc (by rw[hA.out];simp);cases fz with
      |true=>simp only at h;replace h:=aj h;obtain⟨row,m2,l2,h2,h⟩:=h;obtain⟨hrow,rfl,rfl⟩:=jc h2;simp only[run_pure,jF,nT] at h;obtain⟨rfl,rfl,_⟩:=h;exact seen (vw fl rows) false (ahU hcell.1) row hrow (.inr trivial) ⟨inf,Nu⟩
      |false=>simp only at h;replace h:=aj h;obtain⟨row,m2,l2,h2,h⟩:=h;obtain⟨hrow,rfl,rfl⟩:=jc h2;simp only[run_pure,jF,nT] at h;obtain⟨rfl,rfl,_⟩:=h;obtain⟨h0,hlt,hget⟩:=ZR hrow;obtain⟨b,o,cap,hμ,ho,hl,_⟩:=aub hcell (vI _ _ _) hget;have ho:=ho rfl;subst ho;rw[hμ];refine NQ.same hA (run_indexAt he Nu h0 ak) ?_;simp only[aO,hc,hμ];exact⟨⟨_,_,rfl⟩,Nat.le_refl _,λ_=>⟨b,_,_,rfl,by rw[JZ Nu];simp⟩⟩
     |_=>exact aF h
   |_=>exact aF h
  |_=>exact aF h
 |_=>exact aF h
def ao9{t e:TypeId}{n:Nat}(h:arT P t=some (n,e)):P.underlying t=some (.array n e):=by
 unfold arT at h;cases hu:P.underlying t with
 |none=>simp[hu] at h
 |some d=>rw[hu] at h;cases d<;>simp at h;obtain⟨rfl,rfl⟩:=h;rfl
def adb{t e:TypeId}{k:IntKind}{i:Int}{b o n:Nat}(hu:P.underlying t=some (.array n e)){inf:TypeInfo}(hi:P.info? e=some inf)(h0:0<=i)(hn:i<n):
  (Instr.indexAt t (.pointer (some ⟨b,o,none⟩)) (.int k i)).run P w=.ok (.pointer (some ⟨b,o+i.toNat * inf.size,none⟩)) w:=by
 have hc:0<=i/\i<(n:Int):=⟨h0,hn⟩
 unfold Instr.indexAt;simp[asIntOf,run_underlying hu,hc,sizeOf,typeInfo,hi,UR,Instr.sureAddr]
def akY(hA:At base U M0 w0 w m G){t:TypeId}{x i:V}{gx gi:Value}(hx:aO G.μ m (Gh U w G) x gx)(hi:aO G.μ m (Gh U w G) i gi){v:V}{l l':Log}(h:(abP P t x i).run m l=some (v,m',l')):
  NQ base U M0 w0 w m G P (Instr.indexAt t gx gi) v m':=by
 unfold abP at h;cases ha:arT P t with
 |none=>rw[ha] at h;exact akX hA hx hi h
 |some q=>
  obtain⟨n,e⟩:=q;rw[ha] at h;have hu:=ao9 ha;cases i<;>try exact aF h
  rename_i y;cases y<;>try exact aF h
  rename_i k j;simp only[aO,ro] at hi;subst hi;simp only[aoZ] at h;replace h:=aj h;obtain⟨_,m1,l1,h1,h⟩:=h;obtain⟨hok,rfl,rfl⟩:=fJ h1;replace h:=aj h;obtain⟨_,m1,l1,h1,h⟩:=h;obtain⟨hj,rfl,rfl⟩:=fJ h1;simp only[xw,decide_eq_true_eq] at hj;obtain⟨d',hd'⟩:=EN hok;obtain⟨inf,Nu⟩:=zA hd';have hsz:=JZ Nu;cases x<;>try exact aF h
  ·rename_i r off;simp only[run_pure,jF,nT] at h;obtain⟨rfl,rfl,_⟩:=h;simp only[aO] at hx;obtain⟨⟨b,o,rfl⟩,hx⟩:=hx;refine NQ.same hA (adb hu Nu hj.1 hj.2) ?_;simp only[aO];refine⟨⟨b,_,rfl⟩, ?_⟩;cases hc:get r m1 with
   |none=>rw[hc] at hx;exact hx.elim
   |some c=>
    rw[hc] at hx;cases c with
    |box T cs=>obtain⟨b',h1,h2⟩:=hx;simp only[Value.pointer.injEq,jF,Addr.mk.injEq] at h2;obtain⟨rfl,rfl,_⟩:=h2;exact⟨b,h1,by rw[hsz]⟩
    |AQ T cs=>obtain⟨b',h1,h2⟩:=hx;simp only[Value.pointer.injEq,jF,Addr.mk.injEq] at h2;obtain⟨rfl,rfl,_⟩:=h2;exact⟨b,h1,by rw[hsz]⟩
    |dead=>trivial
    |_=>exact hx.elim
  ·rename_i row off;simp only[run_pure,jF,nT] at h;obtain⟨rfl,rfl,_⟩:=h;simp only[aO] at hx;obtain⟨b,o,rfl,hr⟩:=hx;refine NQ.same hA (adb hu Nu hj.1 hj.2) ?_;simp only[aO];exact⟨b,o,by rw[hsz,Nat.add_assoc],hr⟩
def alT{μ:Nat->Value}{mm:Mem}{hh:View}:∀{cs:List V} {row:Row} {gs:List Value},alz cs=some row->dn μ mm hh cs gs->∀i:Nat,i<cs.length->∃g,gs[i]? =some g/\ro hh (nth row i) g
 |[],row,gs,h,q,i,hi=>by simp at hi
 |v::cs,row,gs,h,q,i,hi=>by
  simp only[dn] at q;obtain⟨g,gs',rfl,q1,q2⟩:=q;cases v<;>simp only[alz] at h<;>try cases h
  rename_i x;cases hr:alz cs with
  |none=>rw[hr] at h;cases h
  |some r=>
   rw[hr] at h;cases h;cases i with
   |zero=>exact⟨g,rfl,by simpa[nth,aO] using q1⟩
   |succ i=>obtain⟨g',h1,h2⟩:=alT hr q2 i (by simpa using hi);exact⟨g',by simpa using h1,by simpa[nth] using h2⟩
def anL(hA:At base U M0 w0 w m G){t e:TypeId}{n:Nat}{k:IntKind}{j:Int}{cs:List V}{gx:Value}(hu:P.underlying t=some (.array n e))(hx:aO G.μ m (Gh U w G) (.agg cs) gx){v:V}{l l':Log} (h:(do
  ck (Nat.beq (oU P e) 1 &&(Nat.beq cs.length n &&(BA P e && !(Sv P e))))
  ck (decide (0<=j) && decide (j<(n:Int)))
  let row<-op' (alz cs)
  ahJ (match P8 P e with|[c]=>c|_=> .other) row j.toNat:Acc V).run m l=some (v,m',l')):
  NQ base U M0 w0 w m G P (Instr.index t gx (.int k j)) v m':=by
 replace h:=aj h;obtain⟨_,m1,l1,h1,h⟩:=h;obtain⟨hk,rfl,rfl⟩:=fJ h1;simp only[xw,Bool.not_eq_true',Nat.beq_eq] at hk;obtain⟨hsz,hlen,hok,hagg⟩:=hk;replace h:=aj h;obtain⟨_,m1,l1,h1,h⟩:=h;obtain⟨hj,rfl,rfl⟩:=fJ h1;simp only[xw,decide_eq_true_eq] at hj;replace h:=aj h;obtain⟨row,m1,l1,h1,h⟩:=h;obtain⟨hrow,rfl,rfl⟩:=jc h1;simp only[aO] at hx;obtain⟨arr,rfl,hs⟩:=hx;obtain⟨g,hg,hr⟩:=alT hrow hs j.toNat ak;obtain⟨d',hd'⟩:=EN hok;obtain⟨inf,Nu⟩:=zA hd';have hone:=JZ Nu;have hrun:(Instr.index t (.agg arr) (.int k j)).run P w=.ok g w:=by
  unfold Instr.index;have hg':arr[j.toNat * inf.size]? =some g:=by rw[<-hone,hsz,Nat.mul_one];simpa using hg
  simp[asIntOf,run_underlying hu,hj.1,hj.2,sizeOf,typeInfo,Nu];unfold Go.part;simp[aej hd',hagg,hg']
 have fin:v=.d (nth row j.toNat)/\m'=m1:=by
  generalize (match P8 P e with|[c]=>c|_=>CT.other)=c at h;cases hx:nth row j.toNat<;>cases c<;>simp[ahJ,bM,Sj,cStr,hx,asInt,asBool,aly,Acc.run] at h
  ·rename_i k1 n1 k2
   by_cases e:k1=k2
   ·subst e;simp[Acc.run] at h;exact⟨h.1.symm,h.2.1.symm⟩
   ·simp[e,Acc.run] at h
  ·exact⟨h.1.symm,h.2.1.symm⟩
  ·exact⟨h.1.symm,h.2.1.symm⟩
 obtain⟨rfl,rfl⟩:=fin;exact NQ.same hA hrun (by simpa[aO] using hr)
def avF(hA:At base U M0 w0 w m G){t:TypeId}{x i:V}{gx gi:Value}(hx:aO G.μ m (Gh U w G) x gx)(hi:aO G.μ m (Gh U w G) i gi){v:V}{l l':Log}(h:(asj P t x i).run m l=some (v,m',l')):
  NQ base U M0 w0 w m G P (Instr.index t gx gi) v m':=by
 unfold asj at h;cases hu:P.underlying t with
 |none=>rw[hu] at h;exact aF h
 |some d=>
  rw[hu] at h
  by_cases harr:∃n e,d=.array n e
  ·obtain⟨n,e,rfl⟩:=harr;cases x<;>try exact aF h
   cases i<;>try exact aF h
   rename_i y;cases y<;>try exact aF h
   simp only[aO,ro] at hi;subst hi;exact anL hA hu hx h
  cases d<;>first|exact aF h|exact(harr ⟨_,_,rfl⟩).elim|skip
  cases x<;>try exact aF h
  rename_i y;cases y<;>try exact aF h
  rename_i s;cases i<;>try exact aF h
  rename_i y;cases y<;>try exact aF h
  rename_i k n;simp only[aO,ro] at hx hi;subst hx hi;dsimp only at h;cases hb:idx s n with
  |none=>rw[hb] at h;simp[Acc.run] at h
  |some b=>
   rw[hb] at h;change some (_,_,_)=_ at h;simp only[jF,nT] at h;obtain⟨rfl,rfl,_⟩:=h;obtain⟨h0,hlt,hget⟩:=ZR hb;refine NQ.same hA (g:=.int .u8 b.toNat) ?_ (by simp[aO,ro]);have hg:(ByteArray.mk ⟨s⟩)[n.toNat]? =some b:=by
    have hsz:n.toNat<(ByteArray.mk ⟨s⟩).size:=hlt;rw[getElem?_pos (ByteArray.mk ⟨s⟩) n.toNat hsz];have:s[n.toNat]=b:=by have:=List.getElem?_eq_getElem hlt;rw[this] at hget;exact Option.some.inj hget
    exact congrArg some this
   simp[Instr.index,asIntOf,run_underlying hu,h0,hg]
def aCi(hA:At base U M0 w0 w m G){t ty:TypeId}{x:V}{gx:Value}(hx:aO G.μ m (Gh U w G) x gx)
  (hk:∀s,x=.d (.str s)->P.underlying t=some .string) (hk':(∀s,x≠.d (.str s))->∃e,P.underlying t=some (.slice e)) {v:V} {l l':Log} (h:(lenV x).run m l=some (v,m',l')):
  NQ base U M0 w0 w m G P (Builtin.len_ #[t] ty #[gx]) v m':=by
 have slice:∀(a:Option Addr) (n c:Nat),(∃e,P.underlying t=some (.slice e))->NQ base U M0 w0 w m G P (Builtin.len_ #[t] ty #[.slice a n c]) (.d (.int .i64 n)) m:=by intro a n c ⟨e,he⟩;refine NQ.same hA (g:=.int .i64 n) ?_ (by simp[aO,ro]);simp[Builtin.len_,run_underlying he,goInt]
 cases x with
 |d y=>
  cases y with
  |str s=>change some (_,_,_)=_ at h;simp only[jF,nT] at h;obtain⟨rfl,rfl,_⟩:=h;simp only[aO,ro] at hx;subst hx;refine NQ.same hA (g:=.int .i64 s.length) ?_ (by simp[aO,ro]);have hsz:(ByteArray.mk ⟨s⟩).size=s.length:=rfl;simp[Builtin.len_,run_underlying (hk s rfl),goInt,hsz]
  |sl o s rows=>change some (_,_,_)=_ at h;simp only[jF,nT] at h;obtain⟨rfl,rfl,_⟩:=h;simp only[aO,ro] at hx;obtain⟨a,cap,rfl,_⟩:=hx;exact slice a rows.length cap (hk' (by simp))
  |_=>exact aF h
 |nil s=>change some (_,_,_)=_ at h;simp only[jF,nT] at h;obtain⟨rfl,rfl,_⟩:=h;simp only[aO] at hx;subst hx;exact slice none 0 0 (hk' (by simp))
 |own r ver=>
  simp only[lenV] at h;replace h:=aj h;obtain⟨c,m2,l2,h2,h⟩:=h;rw[uG] at h2;cases h2;cases hc:get r m with
  |none=>rw[hc] at h;exact aF h
  |some c=>
   rw[hc] at h;cases c with
   |VG jM s rows=>
    simp only at h;replace h:=aj h;obtain⟨_,m2,l2,h2,h⟩:=h;obtain⟨hb,rfl,rfl⟩:=pW h2;have hb:=yV hb;subst hb;simp only[run_pure,jF,nT] at h;obtain⟨rfl,rfl,_⟩:=h;have hcell:=hA.ok.cell r _ hc (by rw[hA.out];simp);simp only[aO,hc] at hx;have hx:=hx.2.2 trivial;subst hx;rcases hcell with⟨rfl,hμ,_⟩|⟨b,o,cap,cs,T,hμ,_⟩
    ·rw[hμ];exact slice none 0 0 (hk' (by simp))
    ·rw[hμ];exact slice _ rows.length cap (hk' (by simp))
   |arr fz fl jM s rows=>simp only at h;replace h:=aj h;obtain⟨_,m2,l2,h2,h⟩:=h;obtain⟨hb,rfl,rfl⟩:=pW h2;have hb:=yV hb;subst hb;simp only[run_pure,jF,nT] at h;obtain⟨rfl,rfl,_⟩:=h;have hro:=hA.ok.look hc (by rw[hA.out];simp) false;simp only[aO,hc] at hx;rw[<-hx.2.2 trivial] at hro;simp only[ro] at hro;obtain⟨a,cap,rfl,_⟩:=hro;exact slice a rows.length cap (hk' (by simp))
   |_=>exact aF h
 |_=>exact aF h
def aI2{H:Heap}{h:View}{c:CT}{g:Value}{x:D}{l l':Log}(hr:(toD (aef c g)).run m l=some (x,m',l')):m'=m/\ow H h x g []:=by
 unfold aef at hr;split at hr
 all_goals first
  |exact(ahR hr).elim
  |(simp only[toD,roD,run_pure,jF,nT] at hr
    obtain⟨rfl,rfl,_⟩:=hr;exact⟨rfl,by simp[ow]⟩)
def apa{H:Heap}{h:View}:∀{cs:List CT} {gs:List Value} {xs:Row} {m m':Mem} {l l':Log},(Qb (Jd cs gs)).run m l=some (xs,m',l')->m'=m/\iW H h xs gs []/\xs.length=gs.length
 |c::cs,g::gs,xs,m,m',l,l',hr=>by simp only[Jd,Qb] at hr;replace hr:=aj hr;obtain⟨x,m1,l1,h1,hr⟩:=hr;replace hr:=aj hr;obtain⟨ys,m2,l2,h2,hr⟩:=hr;simp only[run_pure,jF,nT] at hr;obtain⟨rfl,rfl,_⟩:=hr;obtain⟨rfl,q1⟩:=aI2 (H:=H) (h:=h) h1;obtain⟨rfl,q2,q3⟩:=apa (H:=H) (h:=h) h2;exact⟨rfl,by simp only[iW];exact⟨g,gs,[],[],rfl,rfl,q1,q2⟩,by simp[q3]⟩
 |[],g::gs,xs,m,m',l,l',hr=>by simp only[Jd,Qb] at hr;replace hr:=aj hr;obtain⟨x,m1,l1,h1,hr⟩:=hr;exact aF h1
 |c::cs,[],xs,m,m',l,l',hr=>by simp only[Jd,Qb,run_pure,jF,nT] at hr;obtain⟨rfl,rfl,_⟩:=hr;exact⟨rfl,by simp[iW],rfl⟩
 |[],[],xs,m,m',l,l',hr=>by simp only[Jd,Qb,run_pure,jF,nT] at hr;obtain⟨rfl,rfl,_⟩:=hr;exact⟨rfl,by simp[iW],rfl⟩
def alU{H:Heap}{h:View}{row:Row}{z L:List Value}{cap:Nat}(hz:z.length=row.length)(hL:L.length=cap * row.length)(hj:∀i j,i<cap->j<row.length->L[i * row.length+j]? =z[j]?)(hq:iW H h row z []):
  ∀(n i:Nat),i+n<=cap->gJ H h row.length (List.replicate n row) (L.drop (i * row.length)) []
 |0,i,_=>by simp[gJ]
 |n+1,i,hi=>by
  rw[List.replicate_succ];simp only[gJ];refine⟨trivial,[],[],rfl, ?_, ?_⟩
  ·refine Px ?_ hq;apply List.ext_getElem?;intro j
   by_cases hjl:j<row.length
   ·rw[List.getElem?_take_of_lt hjl,List.getElem?_take_of_lt hjl,List.getElem?_drop,hj i j ak hjl]
   ·rw[List.getElem?_eq_none (by rw[VF];omega),List.getElem?_eq_none (by rw[VF];omega)]
  ·rw[List.drop_drop];have:=alU hz hL hj hq n (i+1) ak
   rwa [Nat.add_mul,Nat.one_mul] at this
def akZ(hA:At base U M0 w0 w m G){dst:Nat}{t:TypeId}{x y:V}{gx gy:Value}(hx:aO G.μ m (Gh U w G) x gx)(hy:aO G.μ m (Gh U w G) y gy){v:V}{l l':Log}(h:(abQ P dst t x y).run m l=some (v,m',l')):
  NQ base U M0 w0 w m G P (Instr.makeSlice t gx gy) v m':=by
 simp only[abQ,ao0] at h;replace h:=aj h;obtain⟨e,m1,l1,h1,h⟩:=h;obtain⟨he,rfl,rfl⟩:=jc h1;have he:=VX he;replace h:=aj h;obtain⟨_,m1,l1,h1,h⟩:=h;obtain⟨hs,rfl,rfl⟩:=pW h1;have hs:=Nat.le_of_ble_eq_true hs;replace h:=aj h;obtain⟨row,m1,l1,h1,h⟩:=h;replace h1:=aj h1;obtain⟨z,m2,l2,h2,h1⟩:=h1;obtain⟨hz,rfl,rfl⟩:=jc h2;unfold P9 at hz;cases hi:P.info? e with
 |none=>simp[hi] at hz
 |some i=>
  simp only[hi] at hz;cases hzz:i.zero with
  |none=>simp[hzz] at hz
  |some zv=>
   simp only[hzz,jF] at hz;subst hz;obtain⟨rfl,hrow,hlen⟩:=apa (H:=dA w) (h:=Gh U w G) h1;replace h:=aj h;obtain⟨_,m2,l2,h2,h⟩:=h;obtain⟨hlr,rfl,rfl⟩:=pW h2;have hlr:=yV hlr;have hsz:=JZ hi;have hzs:zv.cells.size=i.size:=by
    have:zv.cells.toList.length=zv.cells.size:=by simp
    omega
   split at h
   next k1 n1 k2 n2=>
    replace h:=aj h;obtain⟨_,m3,l3,h3,h⟩:=h;obtain⟨hck,rfl,rfl⟩:=pW h3;simp only[xw,decide_eq_true_eq] at hck;obtain⟨⟨⟨h0,hle⟩,hby⟩,hc⟩:=hck;replace h:=aj h;obtain⟨u,m4,l4,h4,h⟩:=h;simp only[run_pure,jF,nT] at h;obtain⟨rfl,rfl,_⟩:=h;simp only[aO,ro] at hx hy;subst hx hy;have hbt:VP P e=i.bytes:=by simp[VP,hi]
    rw[hbt] at hby;have hroom:(XP:Int)=140737488355328:=rfl;rw[hroom] at hby hc;have hrun:=run_make (P:=P) w t e i zv he hi hzz k1 k2 n1 n2 h0 hle (by rw[Int.mul_comm];omega) ak;have hE:=hA.E;have hrl:row.length=i.size:=ak;have hq:gJ (dA w) (Gh U w G) (oU P e) (List.replicate n1.toNat row) (madeCells zv.cells (n2.toNat * i.size)).toList []:=by
     rw[hsz,<-hrl];have:=alU (H:=dA w) (h:=Gh U w G) (row:=row) (z:=zv.cells.toList) (L:=(madeCells zv.cells (n2.toNat * i.size)).toList) (cap:=n2.toNat) hlen.symm (by simp[size_madeCells,hrl]) ?_ hrow n1.toNat 0 ak
     ·simpa[hrl] using this
     ·intro a b ha hb;have hlt:a * row.length+b<n2.toNat * i.size:=by
       rw[hrl] at hb|-
       calc a * i.size+b<a * i.size+i.size:=ak
        _=(a+1) * i.size:=by rw[Nat.add_mul,Nat.one_mul]
        _<=n2.toNat * i.size:=Nat.mul_le_mul_right _ ha
      have hbz:b<zv.cells.size:=ak;have hmod:(a * row.length+b) % zv.cells.size=b:=by rw[hzs,<-hrl,Nat.mul_comm,Nat.mul_add_mod];exact Nat.mod_eq_of_lt hb
      simp only[madeCells,Array.toList_map,Array.toList_range,List.getElem?_map];rw[List.getElem?_range hlt];simp[hmod,hbz]
    have hqS:Ih (dA w) (Gh U w G) (Gg P e) (oU P e) (List.replicate n1.toNat row) (madeCells zv.cells (n2.toNat * i.size)).toList G.E:=by
     unfold Ih;rw[hE];split
     ·exact⟨JY (View.le_refl _) _ _ _ [] (by intro b hb;simp at hb) hq,rfl⟩
     ·exact hq
    obtain⟨G',hnx,VY⟩:=afx hA.ok hA.out hA.fr (w1:=w) rfl (Keep.refl _ _) (cap:=n2.toNat) (T:=e) hqS (by simp;omega) (by simp[size_madeCells,hsz]) h4;refine⟨_,_,G',hrun,hnx, ?_⟩;simpa using VY
   next=>exact aF h
end
end Go.Vm
