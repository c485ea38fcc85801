import Derived.Test.YtoaeipkhadpbiaaGreatDoorXRi4
import Derived.Test.YtoaeipkhadpbiaaGreatDoorZOk
import Derived.Test.YtoaeipkhadpbiaaGreatDoorXLev
import Derived.Shelf.Small.Strs
import Derived.Shelf.Strings.Search1
import Derived.Shelf.Strings.Search2
import Derived.Shelf.Strings.Search3
import Derived.Shelf.LaysM
import Derived.Shelf.Strings.Shaped
import Derived.Test.YtoaeipkhadpbiaaGreatDoorProg
import Derived.Test.YtoaeipkhadpbiaaGreatDoorPPrim
import Derived.Test.YtoaeipkhadpbiaaGreatDoorVm4
import Derived.Test.YtoaeipkhadpbiaaGreatDoorPForms5
import Derived.Test.YtoaeipkhadpbiaaGreatDoorZVal
import Derived.Test.YtoaeipkhadpbiaaGreatDoorRows
set_option linter.defProp false
namespace Go.Proofs.YtoaeipkhadpbiaaGreatDoor
set_option linter.unusedVariables false
set_option linter.unusedSimpArgs false
open Go Go.Vm
open Go.IntKind (i64)
def awK(w:Bool)(u:Tn):kP .i64 (u.row w) 0=some u.kind/\kP .i64 (u.row w) 1=some u.op/\cStr (u.row w) 2=some u.text/\cStr (u.row w) 3=some u.other/\cSl 5 (u.row w) 4=some (dN w u.kids):=by cases u;exact⟨rfl,rfl,rfl,rfl,rfl⟩
def awL(w:Bool){ks:List Tn}{j:Nat}{u:Tn}(hj:ks[j]? =some u):idx (dN w ks) (j:Int)=some (u.row w):=by rw[dG,RZ];simp[hj]
mutual
def noc:Tn->Tn
 | .mk k op x y ks=> .mk k op x y (Uz ks)
def Uz:List Tn->List Tn
 |[]=>[]
 |t::ts=>(bif t.kind==34 then[] else[noc t])++Uz ts
end
def ak1:∀a b:List Tn,Uz (a++b)=Uz a++Uz b
 |[],b=>rfl
 |t::a,b=>by rw[zca,Uz,Uz,ak1 a b,XG]
def aro(t:Tn):Uz [t]=bif t.kind==34 then[] else[noc t]:=by rw[Uz,Uz,List.append_nil]
def ak2:∀ks:List Tn,(Uz ks).length<=ks.length
 |[]=>zaU _
 |t::ts=>by have:=ak2 ts;rw[Uz,DJ,Zr];cases t.kind==34<;>simp only[aJ,aX,Zr,zln]<;>omega
def aA0(t:Tn):(noc t).kind=t.kind/\(noc t).op=t.op/\(noc t).text=t.text/\(noc t).other=t.other/\(noc t).kids=Uz t.kids:=by cases t;exact⟨rfl,rfl,rfl,rfl,rfl⟩
mutual
def arp:∀t:Tn,(noc t).size<=t.size
 | .mk k op x y ks=>by have:=agZ ks;rw[noc,Tn.size,Tn.size];omega
def agZ:∀ks:List Tn,sizes (Uz ks)<=sizes ks
 |[]=>zaU _
 |t::ts=>by have h1:=arp t;have h2:=agZ ts;rw[Uz,jT,sizes];cases t.kind==34<;>simp only[aJ,aX,sizes]<;>omega
end
def aDE(t:Tn):(noc t).row false=[.int .i64 t.kind,.int .i64 t.op,.str t.text,.str t.other,.sl false 5 (dN false (Uz t.kids))]:=by cases t;rfl
def awM(w:Bool)(a b:List Tn):dN w (a++b)=dN w a++dN w b:=by simp[RZ]
def aDF(t:Tn):∀(f:Nat),t.size<=f->t.size<=1048576->M.kG f t.kind t.op t.text t.other (dN false t.kids)=some (t.kind,t.op,t.text,t.other,dN false (Uz t.kids)):=by
 refine Tn.ind (P:=λt=>∀(f:Nat),t.size<=f->t.size<=1048576->M.kG f t.kind t.op t.text t.other (dN false t.kids)=some (t.kind,t.op,t.text,t.other,dN false (Uz t.kids))) ?_ t;intro k op x y ks ih f hf hz;cases f with
 |zero=>rw[Tn.size] at hf;omega
 |succ f=>
  rw[Tn.size] at hf hz;have hkl:=yP ks;simp only[Tn.kids,Tn.kind,Tn.op,Tn.text,Tn.other,M.kG,M.Gg];have hloop:M.Ju (M.kG f) (dN false ks) (((dN false ks).length:Nat):Int) k op x y (dN false ks) 0 0 [] [] (0,[])=some ((ks.length:Int),dN false (Uz ks)):=by
   rw[dR];exact wC (b:=M.Gf (M.kG f) (dN false ks) (ks.length:Int) k op x y (dN false ks) 0 0 [] []) (t:=((ks.length:Int),dN false (Uz ks))) (λj=>((j:Int),dN false (Uz (ks.take j)))) ks.length
    (by
     intro j hj;obtain⟨u,hu⟩:∃u,ks[j]? =some u:=⟨ks[j],by simp[hj]⟩
     have hus:=agj (zmg hu);obtain⟨c0,c1,c2,c3,c4⟩:=awK false u;have hix:=awL false hu;have hr:=ih u (zmg hu) f aC aC;have hw:i64.wrap ((j:Int)+1)=((j+1:Nat):Int):=by rw[bF aC aC];omega
     have hln:=ak2 (ks.take j);rw[zlt] at hln;simp only[EY,M.Gf,M.Ba,hix,c0,c1,c2,c3,c4,aj,hw,bne];rw[zdt aC,aJ,qL hu,ak1,aro];cases h34:u.kind==34 with
     |true=>simp only[zaT,aX,aJ,List.append_nil]
     |false=>simp only[Bool.not_false,aJ,aX,hr,aj,jf,dR,Zr,zln];rw[bC aC,aJ,bC aC,aJ,awM,<-aDE];rfl)
    (by simp only[EY,M.Gf,M.Ba];rw[Ac aC,aX,List.take_length]) 0 (Nat.zero_le _)
  simp only[hloop,aj,M.DL,M.Nz,jf]
def aDG{l:List Nd}{o:Bool}(hl:l.length<=1048576)(t:Tn):∀(f b:Nat),Lies l b t->t.size<=f->t.size<=400->
  M.o7 f (aU o l) ((b+sizes t.kids:Nat):Int)=some (aU true ((noc t).flat 0)):=by
 refine Tn.ind (P:=λt=>∀(f b:Nat),Lies l b t->t.size<=f->t.size<=400->M.o7 f (aU o l) ((b+sizes t.kids:Nat):Int)=some (aU true ((noc t).flat 0))) ?_ t;intro k op x y ks ih f b h hf hz;cases f with
 |zero=>rw[Tn.size] at hf;omega
 |succ f=>
  have hroot:l[b+sizes ks]? =some ⟨k,op,x,y,ends ks b⟩:=h.root;have hlt:=h.lt;rw[Tn.size] at hf hlt hz;have hkl:=yP ks;have hloop:=wC (b:=M.KO (M.o7 f) (aU o l) ((b+sizes ks:Nat):Int))
   (t:=((ks.length:Int),(Uz ks).map λt=>[D.sl true 5 (aU true (t.flat 0))])) (λj=>((j:Int),(Uz (ks.take j)).map λt=>[D.sl true 5 (aU true (t.flat 0))])) ks.length
   (by
    intro j hj;obtain⟨u,hu⟩:∃u,ks[j]? =some u:=⟨ks[j],by simp[hj]⟩
    have hus:=Pm hu;have hlu:=Lies.asD h hu;have hr:=ih u (zmg hu) f _ hlu aC aC;have he:=an7 (b:=b) hu;have hru:=Lies.root' hlu;have hw:i64.wrap ((j:Int)+1)=((j+1:Nat):Int):=by rw[bF aC aC];omega
    have hln:=ak2 (ks.take j);rw[zlt] at hln;simp only[EY,M.KO,M.F9,dG,oO,hroot,hru,Ir,aj,cN4,cN0,jK,Iw,BP,he,cI0,hr,zaV,Zr,zln,hw,bne];rw[zdt aC,aJ,qL hu,ak1,aro];cases h34:u.kind==34 with
    |true=>simp only[zaT,aX,aJ,List.append_nil]
    |false=>simp only[Bool.not_false,aJ,aX];rw[bC aC,aJ,bC aC,aJ,List.map_append];rfl)
   (by simp only[EY,M.KO,M.F9,dG,oO,hroot,Ir,aj,cN4,jK,Iw];rw[Ac aC,aX,List.take_length]) 0 (Nat.zero_le _)
  have hh:M.OQ (M.o7 f) (aU o l) ((b+sizes ks:Nat):Int) (0,[])=some ((ks.length:Int),(Uz ks).map λt=>[D.sl true 5 (aU true (t.flat 0))]):=hloop;have hmk:∀kr,M.bU k op x y kr (au ((Uz ks).map λt=>[D.sl true 5 (aU true (t.flat 0))]))=some (aU true ((Tn.mk k op x y (Uz ks)).flat 0)):=by intro kr;rw[az4];refine EI _ _ _ _ _ _ ?_;have h1:=agZ ks;omega
  simp only[EY,M.o7,M.LY,Tn.kids,hh,dG,oO,hroot,Ir,aj,cN0,cN1,cN2,cN3,cN4,hmk,Ym,aJ];rw[noc]
def afW{l:List Nd}(hl:l.length<=1048576)(hk:∀n,n∈l->n.kids.length<=1048576)(hs:∀n,n∈l->Small n):∃r,r.length<=400/\(∀n:Nd,n∈r->n.kids.length<=1048576)/\M.uY (aU false l)=some (aU true r)/\M.uZ (aU false l)=some (aU true r):=by
 have a1:=akC l false aC hk hs;have a2:=akD l false aC hk hs;simp only[M.uY,M.KP,M.uZ,M.KQ,a1,a2,aj];cases pa:aeM l with
 |false=>exact⟨[],Nat.zero_le _,λn hn=>(List.not_mem_nil hn).elim,rfl,rfl⟩
 |true=>
  obtain⟨T,rfl,hTs⟩:=arZ (aoB pa);have hks:=T.X3;have hns:=arp T;have hla:i64.wrap (((aU false (T.flat 0)).length:Int) - 1)=((0+sizes T.kids:Nat):Int):=by rw[gV,T.flat_length,bF aC aC];omega
  have h1:=M.ah9 (aDG (o:=false) (l:=T.flat 0) (by rw[T.flat_length];omega) T T.size 0 (Lies.whole T) (zaU _) hTs);have h2:=awJ (t:=T) (o:=false) aC;have h3:=M.aeJ (aDF T T.size (zaU _) aC);have h4:=aud (t:=noc T) (w:=false) aC;obtain⟨e1,e2,e3,e4,e5⟩:=aA0 T;rw[e1,e2,e3,e4,e5] at h4;refine⟨(noc T).flat 0,by rw[Tn.flat_length];omega,λn hn=>by have:=(SI (noc T) 0 n hn).1;omega, ?_, ?_⟩
  ·simp only[zaT,aX,hla,h1,aj,Ym,aJ]
  ·simp only[zaT,aX,h2,jf,h3,h4,aj,Ym,aJ]
def ag0(a b:List Int):Bool:=bif(a.length:Int) !=(b.length:Int) then false else ZF (λi x=>match b[i]? with|some y=>x==y|none=>false) a 0
def ag1(n m:Nd):Bool:=n.kind==m.kind &&(n.op==m.op &&(n.text==m.text &&(n.other==m.other && ag0 n.kids m.kids)))
def aA1(a b:List Nd):Bool:=bif(a.length:Int) !=(b.length:Int) then false else ZF (λi x=>match b[i]? with|some y=>ag1 x y|none=>false) a 0
def auE(a b:List Int)(h:a.length<=1048576):M.IE (encI a) (encI b)=some (ag0 a b)/\M.slices_Equal (encI a) (encI b)=some (ag0 a b):=by
 simp only[M.IE,M.TU,M.slices_Equal,M.Q9,jK,ag0];cases hl:((a.length:Int) !=(b.length:Int)) with
 |true=>exact⟨rfl,rfl⟩
 |false=>
  have hl':a.length=b.length:=by
   have:((a.length:Int)==(b.length:Int))=true:=by simpa[bne] using hl
   rw[beq_iff_eq] at this;omega
  have h1:=Uw a (λi x=>match b[i]? with|some y=>x==y|none=>false) (b:=M.Nw (encI a) (encI b)) (λi x hx=>by
   have hi:=(UN.1 hx).1;obtain⟨y,hy⟩:∃y,b[i]? =some y:=⟨b[i]'aC,by simp⟩
   simp only[M.Nw,M.Ij,jK,dG,BP,hx,hy,Ir,aj,cI0,bne];rw[zdt aC,aJ,bF aC aC];cases x==y<;>rfl) (by
   simp only[M.Nw,M.Ij,jK];rw[Ac aC,aX])
  have h2:=Uw a (λi x=>match b[i]? with|some y=>x==y|none=>false) (b:=M.KR (encI a) (encI b) (a.length:Int)) (λi x hx=>by
   have hi:=(UN.1 hx).1;obtain⟨y,hy⟩:∃y,b[i]? =some y:=⟨b[i]'aC,by simp⟩
   simp only[M.KR,M.Gi,dG,BP,hx,hy,Ir,aj,cI0,bne];rw[zdt aC,aJ,bF aC aC];cases x==y<;>rfl) (by
   simp only[M.KR,M.Gi];rw[Ac aC,aX])
  rw[M.Q5,M.OV,h1,h2];cases ZF (λi x=>match b[i]? with|some y=>x==y|none=>false) a 0<;>exact⟨rfl,rfl⟩
def arq(a b:List Nd)(h:a.length<=1048576)(hk:∀n,n∈a->n.kids.length<=1048576):M.Dh (aU false a) (aU false b)=some (aA1 a b)/\M.Di (aU false a) (aU false b)=some (aA1 a b):=by
 simp only[M.Dh,M.OT,M.Di,M.OW,M.zf,M.Jw,gV,aA1];cases hl:((a.length:Int) !=(b.length:Int)) with
 |true=>exact⟨rfl,rfl⟩
 |false=>
  have hl':a.length=b.length:=by
   have:((a.length:Int)==(b.length:Int))=true:=by simpa[bne] using hl
   rw[beq_iff_eq] at this;omega
  have h1:=Uw a (λi x=>match b[i]? with|some y=>ag1 x y|none=>false) (b:=M.Js (aU false a) (aU false b)) (λi x hx=>by
   have hi:=(UN.1 hx).1;obtain⟨y,hy⟩:∃y,b[i]? =some y:=⟨b[i]'aC,by simp⟩
   have he:=(auE x.kids y.kids (hk x (zmg hx))).1;simp only[M.Js,M.Eu,gV,dG,oO,hx,hy,Ir,aj,cN0,cN1,cN2,cN3,cN4,he,bne,ag1];rw[zdt aC,aJ,bF aC aC];cases x.kind==y.kind<;>cases x.op==y.op<;>cases x.text==y.text<;>cases x.other==y.other<;>cases ag0 x.kids y.kids<;>rfl) (by
   simp only[M.Js,M.Eu,gV];rw[Ac aC,aX])
  have h2:=Uw a (λi x=>match b[i]? with|some y=>ag1 x y|none=>false) (b:=M.EH (aU false b) (aU false a) (a.length:Int)) (λi x hx=>by
   have hi:=(UN.1 hx).1;obtain⟨y,hy⟩:∃y,b[i]? =some y:=⟨b[i]'aC,by simp⟩
   have he:=(auE x.kids y.kids (hk x (zmg hx))).2;simp only[EY,M.EH,M.yX,M.y9,M.Jv,dG,oO,hx,hy,Ir,aj,cN0,cN1,cN2,cN3,cN4,he,ag1];rw[zdt aC,aJ,bF aC aC];cases x.kind==y.kind<;>cases x.op==y.op<;>cases x.text==y.text<;>cases x.other==y.other<;>cases ag0 x.kids y.kids<;>rfl) (by
   simp only[EY,M.EH,M.yX];rw[Ac aC,aX])
  rw[M.Ny,M.G8,h1,h2];cases ZF (λi x=>match b[i]? with|some y=>ag1 x y|none=>false) a 0<;>exact⟨rfl,rfl⟩
def aA2(k p:Int)(h:k=0->p=0):(bif k==0 then bif p==0 then true else false else false)=(k==0):=by
 cases hk:k==0 with
 |false=>rfl
 |true=>rw[h (by rwa [beq_iff_eq] at hk)];rfl
def ak3(a b:aK):∃r,M.wE a b=some r/\M.wG a b=some r:=by
 obtain⟨_,q,k,p,h1,h2,h3,h4,h5,h6⟩:=Parse_ok a;obtain⟨_,q',k',p',g1,g2,g3,g4,g5,g6⟩:=Parse_ok b;simp only[M.wE,M.Jt,M.wG,M.Jy,h1,h2,g1,g2,aj,aA2 _ _ h6,aA2 _ _ g6,aV];cases k==0 with
 |false=>exact⟨false,rfl,rfl⟩
 |true=>
 cases k'==0 with
 |false=>exact⟨false,rfl,rfl⟩
 |true=>obtain⟨r,l1,l2,c1,c2⟩:=afW aC (λn hn=>by have:=h4 n hn;omega) h5;obtain⟨r',m1,m2,d1,d2⟩:=afW aC (λn hn=>by have:=g4 n hn;omega) g5;have e:=arq r r' aC l2;simp only[c1,c2,d1,d2,aj,aJ,aV,Ym,e.1,e.2];exact⟨_,rfl,rfl⟩
def aiq(a b:aK)(ha:a.length<=maxLen)(hb:b.length<=maxLen):M.oP a b=some true:=by obtain⟨r,h1,h2⟩:=ak3 a b;simp only[M.oP,M.yO,h1,h2,aj];cases decide ((a.length:Int)>1048576)<;>cases decide ((b.length:Int)>1048576)<;>cases r<;>rfl
end Go.Proofs.YtoaeipkhadpbiaaGreatDoor
namespace Go.Proofs
open Go.Shelf
open Go.IntKind (i64)
def Tryz.lays137_ren:Go.Shelf.Ren:=⟨fun|137=>177|217=>218|266=>232|n=>n,fun|9=>9|5=>5|3=>3|n=>n,fun|n=>n⟩
def Tryz.lays137:Go.Proofs.Lays.n137 Tryz.prog Tryz.lays137_ren:={
 mixed:=by kernel_rfl
 f137:=Tryz.func177.trans (congrArg some (by kernel_rfl))
 f217:=Tryz.func218.trans (congrArg some (by kernel_rfl))
 f266:=Tryz.func232.trans (congrArg some (by kernel_rfl))
 t3:=Tryz.underlying3
 a3:=Tryz.isAgg3
 z3:=Tryz.sizeOf3
 v3:=Tryz.zeroValue3
 t5:=Tryz.underlying5
 a5:=Tryz.isAgg5
 z5:=Tryz.sizeOf5
 v5:=Tryz.zeroValue5
 t9:=Tryz.underlying9
 a9:=Tryz.isAgg9
 z9:=Tryz.sizeOf9
 v9:=Tryz.zeroValue9}
def Tryz.lays144_ren:Go.Shelf.Ren:=⟨fun|144=>162|143=>206|219=>226|217=>218|225=>235|224=>236|267=>237|266=>232|314=>252|n=>n,fun|9=>9|4=>4|3=>3|5=>5|46=>156|146=>160|51=>159|n=>n,fun|1=>3|n=>n⟩
def Tryz.lays144:Go.Proofs.Lays.n144 Tryz.prog Tryz.lays144_ren:={
 mixed:=by kernel_rfl
 f143:=Tryz.func206.trans (congrArg some (by kernel_rfl))
 f144:=Tryz.func162.trans (congrArg some (by kernel_rfl))
 f217:=Tryz.func218.trans (congrArg some (by kernel_rfl))
 f219:=Tryz.func226.trans (congrArg some (by kernel_rfl))
 f224:=Tryz.func236.trans (congrArg some (by kernel_rfl))
 f225:=Tryz.func235.trans (congrArg some (by kernel_rfl))
 f266:=Tryz.func232.trans (congrArg some (by kernel_rfl))
 f267:=Tryz.func237.trans (congrArg some (by kernel_rfl))
 f314:=Tryz.func252.trans (congrArg some (by kernel_rfl))
 t3:=Tryz.underlying3
 a3:=Tryz.isAgg3
 z3:=Tryz.sizeOf3
 v3:=Tryz.zeroValue3
 t4:=Tryz.underlying4
 a4:=Tryz.isAgg4
 z4:=Tryz.sizeOf4
 v4:=Tryz.zeroValue4
 t5:=Tryz.underlying5
 a5:=Tryz.isAgg5
 z5:=Tryz.sizeOf5
 v5:=Tryz.zeroValue5
 t9:=Tryz.underlying9
 a9:=Tryz.isAgg9
 z9:=Tryz.sizeOf9
 v9:=Tryz.zeroValue9
 t46:=Tryz.underlying156
 a46:=Tryz.isAgg156
 z46:=Tryz.sizeOf156
 v46:=Tryz.zeroValue156
 t51:=Tryz.underlying159
 a51:=Tryz.isAgg159
 z51:=Tryz.sizeOf159
 v51:=Tryz.zeroValue159
 t146:=Tryz.underlying160
 a146:=Tryz.isAgg160
 z146:=Tryz.sizeOf160
 v146:=Tryz.zeroValue160
 g1:=by kernel_rfl}
open Go.RowKit in
open Go.IntKind (i64)
def Tryz.strings_IndexByte(s:ByteArray)(c:Int)(w:World):
  Calls Tryz.prog 177 #[.string s,.int .u8 c] w λe w'=>e=.returned (.int .i64 (Lib.indexByte s.data.toList c.toNat.toUInt8))/\w'=w:=Any.strings_IndexByte Tryz.lays137 s c w
open Go.RowKit Go.Lib in
open Go.IntKind (i64)
def Tryz.strings_Contains_one(s:ByteArray)(c:UInt8)(w:World):
  Calls Tryz.prog 162 #[.string s,.string ⟨#[c]⟩] w λe w'=>e=.returned (.bool (decide (0<=Lib.indexByte s.data.toList c)))/\w'=w:=Any.strings_Contains_one Tryz.lays144 s c w
end Go.Proofs
namespace Go.Proofs.YtoaeipkhadpbiaaGreatDoor
set_option linter.unusedVariables false
set_option linter.unusedSimpArgs false
open Go Go.Vm
open Go.IntKind (i64)
def air{X:Ctx}(hP:X.P=Tryz.prog)(hm:∀i,i<2->PS X.U8 162 i=0)(fn:Func)(args:List V)(cells:List Cell)(rows:ak)(outs:List Cell)(hf:X.P.funcs[162]? =some fn)(h:Prim.strings_Contains args cells=some (rows,outs))
  (base:Nat) (U:Nat->Prop) (w:World) (gargs mV:List Value) (N1 N2:List Nat) (hG:Given X base U w 162 args cells gargs mV N1 N2):
  Calls X.P 162 gargs.toArray w λe w'=>∃gs M1 M2,e=.returned (af7 gs)/\Did X.P U w w' (N1++N2) fn.resultTypes.toList cells outs mV rows gs M1 M2:=by
 unfold Prim.strings_Contains at h;split at h
 ·rename_i s t;unfold M.strings_Contains at h;split at h
  ·rename_i c;cases h;obtain⟨rfl,rfl,rfl,hs⟩:=ao1 hG hm;rw[arY hs];rw[hP] at hf|-;have hfn:fn.resultTypes.toList=[4]:=by rw[Tryz.func162] at hf;cases hf;rfl
   refine(Tryz.strings_Contains_one ⟨⟨s⟩⟩ c w).mono ?_;rintro e w' ⟨rfl,rfl⟩;rw[hfn];exact⟨[_],[],[],rfl,ajA (by kernel_rfl) (λ_ _=>⟨rfl,rfl⟩) (Keep.refl _ _)⟩
  ·cases h
 ·cases h
def ag2{X:Ctx}(hP:X.P=Tryz.prog)(hm:∀i,i<2->PS X.U8 177 i=0)(fn:Func)(args:List V)(cells:List Cell)(rows:ak)(outs:List Cell)(hf:X.P.funcs[177]? =some fn)(h:Prim.strings_IndexByte args cells=some (rows,outs))
  (base:Nat) (U:Nat->Prop) (w:World) (gargs mV:List Value) (N1 N2:List Nat) (hG:Given X base U w 177 args cells gargs mV N1 N2):
  Calls X.P 177 gargs.toArray w λe w'=>∃gs M1 M2,e=.returned (af7 gs)/\Did X.P U w w' (N1++N2) fn.resultTypes.toList cells outs mV rows gs M1 M2:=by
 unfold Prim.strings_IndexByte at h;split at h
 ·rename_i s b;unfold M.strings_IndexByte at h;cases h;obtain⟨rfl,rfl,rfl,hs⟩:=ao1 hG hm;have hg:gargs=[.string ⟨⟨s⟩⟩,.int .u8 b]:=by simp only[dX,bQ,ro] at hs;obtain⟨g,gs,rfl,rfl,g',gs',rfl,rfl,rfl⟩:=hs;rfl
  rw[hg];rw[hP] at hf|-;have hfn:fn.resultTypes.toList=[3]:=by rw[Tryz.func177] at hf;cases hf;rfl
  refine(Tryz.strings_IndexByte ⟨⟨s⟩⟩ b w).mono ?_;rintro e w' ⟨rfl,rfl⟩;rw[hfn];exact⟨[_],[],[],rfl,ajA (by kernel_rfl) (λ_ _=>⟨rfl,rfl⟩) (Keep.refl _ _)⟩
 ·cases h
end Go.Proofs.YtoaeipkhadpbiaaGreatDoor
namespace Go.Proofs.YtoaeipkhadpbiaaGreatDoor
set_option linter.unusedVariables false
set_option linter.unusedSimpArgs false
open Go Go.Vm Go.RowKit
open Go.IntKind (i64)
def open_str'{n:Nat}{row:Row}(h:tyD Tryz.prog (n+1) 9 row):∃s,row=[.str s]/\s.length<=maxLen:=aBy Tryz.underlying9 h
def aHo:anz X0:=by
 intro f p fn args cells rows outs hx hf hb h base U w gargs mV N1 N2 hG;have hx':(bif Nat.beq f 190 then some Prim.mg else bif Nat.beq f 177 then some Prim.strings_IndexByte else bif Nat.beq f 162 then some Prim.strings_Contains else none)=some p:=hx;cases hq:Nat.beq f 190 with
 |true=>rw[hq] at hx';cases hx';have e:=MB hq;subst e;exact alg rfl (by decide) fn args cells rows outs hf h base U w gargs mV N1 N2 hG
 |false=>
 rw[hq,aX] at hx';cases hq:Nat.beq f 177 with
 |true=>rw[hq] at hx';cases hx';have e:=MB hq;subst e;exact ag2 rfl (by decide) fn args cells rows outs hf h base U w gargs mV N1 N2 hG
 |false=>
 rw[hq,aX] at hx';cases hq:Nat.beq f 162 with
 |true=>rw[hq] at hx';cases hx';have e:=MB hq;subst e;exact air rfl (by decide) fn args cells rows outs hf h base U w gargs mV N1 N2 hG
 |false=>rw[hq] at hx';cases hx'
def own:ownKnob Tryz.prog.godebug=none:=by kernel_rfl
def laidOut:laidOutB Tryz.prog=true:=by kernel_rfl
def gK : Tryz.prog.globalNamed "loop.example/g01543/impl.keywords" = some 1 := by kernel_rfl
def gS : Tryz.prog.globalNamed "loop.example/g01543/impl.signs" = some 2 := by kernel_rfl
def gB : Tryz.prog.globalNamed "loop.example/g01543/impl.builtins" = some 0 := by kernel_rfl
def tK:(Tryz.prog.globals[1]?).map (·.type)=some 143:=by kernel_rfl
def tS:(Tryz.prog.globals[2]?).map (·.type)=some 144:=by kernel_rfl
def tB:(Tryz.prog.globals[0]?).map (·.type)=some 142:=by kernel_rfl
def c9:Tryz.prog.cellsOf 9=1:=by kernel_rfl
def dK:(Rows.laid_loop_example_g01543_impl_keywords:DataW Unit)=.agg (ZC.map λs=> .lit (.string s)):=by kernel_rfl
def dS:(Rows.laid_loop_example_g01543_impl_signs:DataW Unit)=.agg (ZE.map λs=> .lit (.string s)):=by kernel_rfl
def dB:(Rows.laid_loop_example_g01543_impl_builtins:DataW Unit)=.agg (aqC.map λs=> .lit (.string s)):=by kernel_rfl
def rK:Iz=ZC.map D.str:=by kernel_rfl
def rS:VN=ZE.map D.str:=by kernel_rfl
def rB:Pv=aqC.map D.str:=by kernel_rfl
def aA3{W:World}(hL:laidMetH Tryz.prog Rows.fnExactSameProgramRow.laid W)(hS:W.ShapedOpen Tryz.prog):aiT X0 (full W):=by
 rw[MakeChecks.laidMetH_plain _ _ _ (by kernel_rfl)] at hL;obtain⟨ps,⟨g0,t0,cs0,f0,p0,q0,hg0,ht0,hv0,hd0,⟨g1,t1,cs1,f1,p1,q1,hg1,ht1,hv1,hd1,⟨g2,t2,cs2,f2,p2,q2,hg2,ht2,hv2,hd2,_,_⟩,_⟩,_⟩,_,_⟩:=hL;obtain rfl:=Option.some.inj (gK.symm.trans hg0);obtain rfl:=Option.some.inj (gS.symm.trans hg1);obtain rfl:=Option.some.inj (gB.symm.trans hg2);obtain rfl:=Option.some.inj (tK.symm.trans ht0);obtain rfl:=Option.some.inj (tS.symm.trans ht1);obtain rfl:=Option.some.inj (tB.symm.trans ht2);rw[dK] at hd0;rw[dS] at hd1;rw[dB] at hd2;refine⟨λg row h=> ?_,λg h=> ?_⟩
 ·have h':(bif Nat.beq g 2 then some VN else bif Nat.beq g 1 then some Iz else bif Nat.beq g 0 then some Pv else none)=some row:=h;cases hq:Nat.beq g 2 with
  |true=>rw[hq] at h';cases h';have e:=MB hq;subst e;rw[rS];exact agl Tryz.underlying144 Tryz.underlying9 c9 hg1 hv1 hd1
  |false=>
  rw[hq,aX] at h';cases hq:Nat.beq g 1 with
  |true=>rw[hq] at h';cases h';have e:=MB hq;subst e;rw[rK];exact agl Tryz.underlying143 Tryz.underlying9 c9 hg0 hv0 hd0
  |false=>
  rw[hq,aX] at h';cases hq:Nat.beq g 0 with
  |true=>rw[hq] at h';cases h';have e:=MB hq;subst e;rw[rB];exact agl Tryz.underlying142 Tryz.underlying9 c9 hg2 hv2 hd2
  |false=>rw[hq] at h';cases h'
 ·have h':(bif Nat.beq g 3 then true else false)=true:=h;cases hq:Nat.beq g 3 with
  |false=>rw[hq] at h';cases h'
  |true=>have e:=MB hq;subst e;exact Go.Proofs.cell_of_shapedOpen_int (zero:=#[.int .i64 0]) hS (of_decide_eq_true (by kernel_rfl)) (by kernel_rfl) rfl (by kernel_rfl) (by kernel_rfl) Tryz.underlying3
end Go.Proofs.YtoaeipkhadpbiaaGreatDoor
