import Derived.Test.YtbpldgeajbfgnaaGreatDoorXLay
import Derived.Test.YtbpldgeajbfgnaaGreatDoorXDocS
import Derived.Test.YtbpldgeajbfgnaaGreatDoorXTok2
import Derived.Shelf.Strings.Builder1
import Derived.Shelf.Strings.Builder2
import Derived.Shelf.Strings.OnBuilder
import Derived.Shelf.Strings.BuilderF
import Derived.Shelf.Utf8.RuneCount
import Derived.Shelf.Strings.Search1
import Derived.Shelf.Strings.Search2
import Derived.Shelf.Strings.Search3
import Derived.Shelf.Strings.Count
import Derived.Shelf.LaysM
import Derived.Shelf.Strings.Shaped
import Derived.Shelf.Strings.Prefix
import Derived.Shelf.Strings.Split
import Derived.Shelf.Strings.SplitShaped
import Derived.Shelf.Unicode.Decode
import Derived.Shelf.Strings.RuneCount
import Derived.Shelf.Strings.Explode
import Derived.Shelf.Bits.Mul64
import Derived.Shelf.Strings.Repeat
import Derived.Shelf.Unicode.DecodeSlow
import Derived.Shelf.Unicode.DecodeAny
import Derived.Test.YtbpldgeajbfgnaaGreatDoorProg
import Derived.Test.YtbpldgeajbfgnaaGreatDoorPForms
import Derived.Test.YtbpldgeajbfgnaaGreatDoorVm4
import Derived.Test.YtbpldgeajbfgnaaGreatDoorZFields
import Derived.Test.YtbpldgeajbfgnaaGreatDoorRows
set_option linter.defProp false
namespace Go.Proofs.YtbpldgeajbfgnaaGreatDoor
set_option linter.unusedVariables false
set_option linter.unusedSimpArgs false
open Go Go.Vm
open Go.IntKind (i64)
def al6{l:List Nd}{o:Bool}(hl:l.length<=1048576)(t:Tn):∀(f b:Nat),Lies l b t->t.size<=f->
  M.jd f (fU o l) ((b+sizes t.kids:Nat):Int)=some (t.kind,t.op,t.text,t.other,mD true t.kids):=by
 refine Tn.ind (P:=λt=>∀(f b:Nat),Lies l b t->t.size<=f->M.jd f (fU o l) ((b+sizes t.kids:Nat):Int)=some (t.kind,t.op,t.text,t.other,mD true t.kids)) ?_ t;intro k op x y ks ih f b h hf;cases f with
 |zero=>rw[Tn.size] at hf;omega
 |succ f=>
  have hroot:l[b+sizes ks]? =some ⟨k,op,x,y,ends ks b⟩:=h.root;have hlt:=h.lt;rw[Tn.size] at hf hlt;have hkl:=jT ks;simp only[lJ,M.jd,M.Bo,dF,mJ,Tn.kids,Tn.kind,Tn.op,Tn.text,Tn.other,hroot,Jf,ah,NP,Oo,Oq,Ot,MN,dn,iQ];have hrec:∀j t,ks[j]? =some t->M.jd f (fU o l) ((b+sizes (ks.take j)+sizes t.kids:Nat):Int)=some (t.kind,t.op,t.text,t.other,mD true t.kids):=λj t hj=>ih t (Lu hj) f _ (Lies.P9 h hj) (by have:=Gn hj;omega)
  have hloop:=kX (b:=M.jZ (M.jd f))
   (t:=if ks=[] then .inl (fU o l,encI (ends ks b),(ks.length:Int),0,0,0,[],[],k,op,x,y) else .inr (fU o l,encI (ends ks b),(ks.length:Int),(ks.length:Int),0,0,[],[],k,op,x,y,mD true ks))
   (λj=>if j=0 then .inl (fU o l,encI (ends ks b),(ks.length:Int),0,0,0,[],[],k,op,x,y) else .inr (fU o l,encI (ends ks b),(ks.length:Int),(j:Int),0,0,[],[],k,op,x,y,mD true (ks.take j))) ks.length
   (by
    intro j hj;obtain⟨t,ht⟩:∃t,ks[j]? =some t:=⟨ks[j],by simp⟩
    have hr:=hrec j t ht;have he:=Qa (b:=b) ht;rw[if_neg (show¬j+1=0 by omega),ajv ht,au2]
    by_cases h0:j=0
    ·subst h0;rw[if_pos rfl];have hi:idx (encI (ends ks b)) 0=some [D.int .i64 ((b+sizes (ks.take 0)+sizes t.kids:Nat):Int)]:=by have:=dF (encI (ends ks b)) 0;rw[rE] at this;rw[this,jS,he];rfl
     simp only[lJ,M.jZ,M.jY,hi,ah,LQ,hr];rw[zdt (by omega),bW];rfl
    ·rw[if_neg h0];simp only[lJ,M.jZ,M.jY,dF,jS,he,Jf,ah,LQ,hr,ny,U2,GX];rw[zdt (by omega),bW,dN (by omega),bW,dN (by omega),bW,aG (by omega) (by omega)];rfl)
   (by
    by_cases h0:ks.length=0
    ·have he:ks=[]:=List.length_eq_zero_iff.1 h0;rw[if_pos h0,if_pos he];simp only[lJ,M.jZ,M.jY];rw[uh (by omega),dP]
    ·have he:¬ks=[]:=λe=>h0 (by rw[e];rfl)
     rw[if_neg h0,if_neg he,List.take_length];simp only[lJ,M.jZ,M.jY];rw[uh (by omega),dP]) 0 (Nat.zero_le _)
  rw[if_pos rfl] at hloop;rw[M.Dh,hloop,ah]
  by_cases he:ks=[]
  ·rw[if_pos he,he];rfl
  ·rw[if_neg he];rfl
def aiK{l:List Nd}{o:Bool}(hl:l.length<=1048576){t:Tn}{b:Nat}(h:Lies l b t):M.nM (fU o l) ((b+sizes t.kids:Nat):Int)=some (t.kind,t.op,t.text,t.other,mD true t.kids):=
 M.QX (al6 hl t t.size b h (Nat.le_refl _))
def al7{t:Tn}{o:Bool}(hl:t.size<=1048576):M.rU (fU o (t.flat 0))=some (t.kind,t.op,t.text,t.other,mD true t.kids):=by have hs:=t.Ju;simp only[M.rU,M.EU,iL,t.flat_length];have h:=aiK (o:=o) (by rw[t.flat_length];omega) (Lies.whole t);rw[Nat.zero_add] at h;rw[aG (by omega) (by omega),show(t.size:Int) - 1=((sizes t.kids:Nat):Int) by omega,h,ah]
def apH(t:Tn)(h:t.size<=90000000):M.uI t.kind t.op t.text (pF false t.kids) 0=some (dW true (t.flat 0)):=by have h1:=aIC t t.size false [] (Nat.le_refl _) (by simp only[EN];omega);have e0:dW true []=[]:=rfl;rw[e0,List.nil_append,EN] at h1;simp only[M.uI,M.FU,M.Zc h1,ah]
def last_at{T:Tn}(hT:T.size<=1048576):i64.wrap (((T.flat 0).length:Int) - 1)=((0+sizes T.kids:Nat):Int):=by have:=T.Ju;rw[T.flat_length,aG (by omega) (by omega)];omega
def aII(r:List Nd):Prop:=r=[]∨∃d:Tn,r=d.flat 0∧d.size<=90000000∧WC d
def ars{r:List Nd}(hr:aII r)(w:Int):∃q:aC×Bool,q.1.length<=3000∧M.uw (dW false r) w=some q∧M.oZ (dW false r) w=some q:=by
 have key:∀p:aC×Bool,M.rX (dW false r) w=some p->M.su (dW false r) w=some p->∃q:aC×Bool,q.1.length<=3000∧M.uw (dW false r) w=some q∧M.oZ (dW false r) w=some q:=by
  intro p h1 h2;simp only[M.uw,M.IV,M.oZ,M.Et,h1,h2,ah];cases hp:p.2 with
  |false=>exact⟨([],false),by simp,rfl,rfl⟩
  |true=>
   by_cases hl:(p.1.length:Int)>3000
   ·rw[zdt hl];exact⟨([],false),by simp,rfl,rfl⟩
   ·rw[uh hl];exact⟨(p.1,true),by simp only;omega,rfl,rfl⟩
 rcases hr with rfl|⟨d,rfl,h1,h2⟩
 ·exact key _ (Zi w) (Zh w)
 ·exact key _ (abV w h1 (ab1 d 0 h2)) (abQ w h1 (ab1 d 0 h2))
def ajN{l:List Nd}(h:Ok l):∃r,aII r∧M.xP (fU false l) 1 false false false false=some (dW true r)∧M.xR (fU false l) 1 false false false false=some (dW true r):=by
 have a1:=abz l false (by have:=h.len;omega) h.k h.sm;have a2:=abA l false (by have:=h.len;omega) h.k h.sm;have e0:dW true []=[]:=rfl;have p1:M.qE 1 false false false false=some true:=rfl;have p2:M.qG 1 false false false false=some true:=rfl;simp only[M.xP,M.II,M.xR,M.IW,M.Dp,M.Kz,M.Dq,M.KC,a1,a2,ah];cases pa:P8 l with
 |false=>exact⟨[],.inl rfl,rfl,rfl⟩
 |true=>
  obtain⟨T,rfl,hTs⟩:=ajk (ae0 pa);have hT:T.size<=1048576:=by have:=h.len;rwa [T.flat_length] at this
  have hok:=ajx pa h.sm;have hsm:=(akS T 0).2 h.sm;have hr:=apF (o:=false) (Lies.whole T);have hen:((fU false (T.flat 0)).length:Int)=((T.flat 0).length:Int):=by rw[iL]
  have hb:=al7 (t:=T) (o:=false) hT;simp only[bW,hen,last_at hT,hr,ah,NP,aZ];cases hs:kT T.kind with
  |false=>exact⟨[],.inl rfl,rfl,rfl⟩
  |true=>
   have hE:TM T:=by unfold kT at hs;rw[AL,decide_eq_true_eq,decide_eq_true_eq] at hs;exact hs
   have hX:Ex' T:=⟨hok,hE,hsm,hT⟩
   have hfl:(T.flat 0).length<=1048576:=by rw[T.flat_length];exact hT
   have h1:M.l9 (fU false (T.flat 0)) false ((0+sizes T.kids:Nat):Int) 1 false false false false=some (dE (Ez T .top)):=aQ6 (o:=false) hfl hX (Lies.whole T) (p:=.top) rfl;have h2:M.kM T.kind T.op T.text T.other (mD false T.kids) 1 false false false false=some (Nv (Ez T .top)):=awj hX false (p:=.top) rfl;have hz:=UY T .top;have h3:=apH (Ez T .top) (by omega);refine⟨(Ez T .top).flat 0,.inr ⟨_,rfl,by omega,al3 hsm _⟩, ?_, ?_⟩
   ·simp only[Bool.not_true,dP,p1,h1,ah];rfl
   ·simp only[Bool.not_true,dP,p2,hb,aaS,h2,ah,XH,XI,XJ,XK,XL,XM,h3]
def aff{l:List Nd}(h:Ok l)(w:Int):∃q:aC×Bool,M.rY (fU false l) w=some q∧M.sD (fU false l) w=some q:=by
 obtain⟨r,hr,h1,h2⟩:=ajN h;obtain⟨q,_,h3,h4⟩:=ars hr w;refine⟨q, ?_, ?_⟩
 ·simp only[M.rY,M.En,M.jL,M.PW,ah,h1,aii,h3]
 ·simp only[M.sD,M.Eu,M.oM,M.PX,ah,h2,aii,h4]
def acN(l:List Nd)(w:Int)(hl:l.length<=maxLen)(hf:∀n,n∈l->Fit n):M.lu (fU false l) w=some true:=by
 simp only[M.lu,M.sJ];rw[ajs l false 1048576 (by omega) (by omega) hl hf,ah]
 by_cases hs:(l.length+wNs l:Int)<=1048576
 ·rw[if_pos hs,uh (by omega),dP];have hkk:∀n,n∈l->n.kids.length<=1048576:=by intro n hn;have h1:=akC hn;have h2:wN n=n.text.length+n.other.length+n.kids.length:=rfl;omega
  have ol:Ok l:=aIu hs hf (by omega) hkk;obtain⟨q,h1,h2⟩:=aff ol w;have a1:=ajt l false ol.len ol.k;have a4:=aeV l false false hl (λn hn=>(hf n hn).kids);have e1:(q.1==q.1)=true:=by simp
  have e2:(q.2==q.2)=true:=by simp
  simp only[a1,am5,h1,h2,a4,e1,e2,ah,bW,dP,Bool.not_true]
 ·rw[if_neg hs];rfl
end Go.Proofs.YtbpldgeajbfgnaaGreatDoor
namespace Go.Proofs
open Go.Shelf
open Go.IntKind (i64)
def Tryz.lays156_ren:Go.Shelf.Ren:=⟨fun|156=>142|165=>178|166=>179|169=>180|240=>216|241=>217|276=>243|277=>244|n=>n,fun|31=>71|9=>9|3=>3|4=>4|0=>0|20=>20|72=>158|76=>161|70=>156|37=>91|75=>160|127=>184|164=>199|5=>5|80=>163|n=>n,fun|n=>n⟩
def Tryz.lays156:Go.Proofs.Lays.n156 Tryz.prog Tryz.lays156_ren:={
 mixed:=by kernel_rfl
 f156:=Tryz.func142.trans (congrArg some (by kernel_rfl))
 f165:=Tryz.func178.trans (congrArg some (by kernel_rfl))
 f166:=Tryz.func179.trans (congrArg some (by kernel_rfl))
 f169:=Tryz.func180.trans (congrArg some (by kernel_rfl))
 f240:=Tryz.func216.trans (congrArg some (by kernel_rfl))
 f241:=Tryz.func217.trans (congrArg some (by kernel_rfl))
 f276:=Tryz.func243.trans (congrArg some (by kernel_rfl))
 f277:=Tryz.func244.trans (congrArg some (by kernel_rfl))
 t0:=Tryz.underlying0
 a0:=Tryz.isAgg0
 z0:=Tryz.sizeOf0
 v0:=Tryz.zeroValue0
 t3:=Tryz.underlying3
 a3:=Tryz.isAgg3
 z3:=Tryz.sizeOf3
 v3:=Tryz.zeroValue3
 t4:=Tryz.underlying4
 a4:=Tryz.isAgg4
 z4:=Tryz.sizeOf4
 v4:=Tryz.zeroValue4
 t9:=Tryz.underlying9
 a9:=Tryz.isAgg9
 z9:=Tryz.sizeOf9
 v9:=Tryz.zeroValue9
 t20:=Tryz.underlying20
 a20:=Tryz.isAgg20
 z20:=Tryz.sizeOf20
 v20:=Tryz.zeroValue20
 t31:=Tryz.underlying71
 a31:=Tryz.isAgg71
 z31:=Tryz.sizeOf71
 v31:=Tryz.zeroValue71
 t37:=Tryz.underlying91
 a37:=Tryz.isAgg91
 z37:=Tryz.sizeOf91
 v37:=Tryz.zeroValue91
 t70:=Tryz.underlying156
 a70:=Tryz.isAgg156
 z70:=Tryz.sizeOf156
 v70:=Tryz.zeroValue156
 t72:=Tryz.underlying158
 a72:=Tryz.isAgg158
 z72:=Tryz.sizeOf158
 v72:=Tryz.zeroValue158
 t75:=Tryz.underlying160
 a75:=Tryz.isAgg160
 z75:=Tryz.sizeOf160
 v75:=Tryz.zeroValue160
 t76:=Tryz.underlying161
 a76:=Tryz.isAgg161
 z76:=Tryz.sizeOf161
 v76:=Tryz.zeroValue161
 t127:=Tryz.underlying184
 a127:=Tryz.isAgg184
 z127:=Tryz.sizeOf184
 v127:=Tryz.zeroValue184
 t164:=Tryz.underlying199
 a164:=Tryz.isAgg199
 z164:=Tryz.sizeOf199
 v164:=Tryz.zeroValue199}
def Tryz.lays144_ren:Go.Shelf.Ren:=⟨fun|144=>202|143=>183|219=>221|217=>246|225=>247|224=>248|267=>249|266=>258|314=>259|n=>n,fun|9=>9|4=>4|3=>3|5=>5|46=>193|146=>203|51=>202|n=>n,fun|1=>3|n=>n⟩
def Tryz.lays144:Go.Proofs.Lays.n144 Tryz.prog Tryz.lays144_ren:={
 mixed:=by kernel_rfl
 f143:=Tryz.func183.trans (congrArg some (by kernel_rfl))
 f144:=Tryz.func202.trans (congrArg some (by kernel_rfl))
 f217:=Tryz.func246.trans (congrArg some (by kernel_rfl))
 f219:=Tryz.func221.trans (congrArg some (by kernel_rfl))
 f224:=Tryz.func248.trans (congrArg some (by kernel_rfl))
 f225:=Tryz.func247.trans (congrArg some (by kernel_rfl))
 f266:=Tryz.func258.trans (congrArg some (by kernel_rfl))
 f267:=Tryz.func249.trans (congrArg some (by kernel_rfl))
 f314:=Tryz.func259.trans (congrArg some (by kernel_rfl))
 t3:=Tryz.underlying3
 a3:=Tryz.isAgg3
 z3:=Tryz.sizeOf3
 v3:=Tryz.zeroValue3
 t4:=Tryz.underlying4
 a4:=Tryz.isAgg4
 z4:=Tryz.sizeOf4
 v4:=Tryz.zeroValue4
 t5:=Tryz.underlying5
 a5:=Tryz.isAgg5
 z5:=Tryz.sizeOf5
 v5:=Tryz.zeroValue5
 t9:=Tryz.underlying9
 a9:=Tryz.isAgg9
 z9:=Tryz.sizeOf9
 v9:=Tryz.zeroValue9
 t46:=Tryz.underlying193
 a46:=Tryz.isAgg193
 z46:=Tryz.sizeOf193
 v46:=Tryz.zeroValue193
 t51:=Tryz.underlying202
 a51:=Tryz.isAgg202
 z51:=Tryz.sizeOf202
 v51:=Tryz.zeroValue202
 t146:=Tryz.underlying203
 a146:=Tryz.isAgg203
 z146:=Tryz.sizeOf203
 v146:=Tryz.zeroValue203
 g1:=by kernel_rfl}
def Tryz.lays146_ren:Go.Shelf.Ren:=⟨fun|146=>103|221=>143|268=>181|138=>182|143=>183|195=>218|197=>219|218=>220|219=>221|260=>245|217=>246|225=>247|224=>248|267=>249|266=>258|314=>259|n=>n,fun|9=>9|31=>71|3=>3|4=>4|0=>0|105=>185|21=>21|5=>5|46=>193|119=>213|139=>216|138=>215|146=>203|51=>202|n=>n,fun|1=>3|3=>4|4=>5|n=>n⟩
def Tryz.lays146:Go.Proofs.Lays.n146 Tryz.prog Tryz.lays146_ren:={
 mixed:=by kernel_rfl
 f138:=Tryz.func182.trans (congrArg some (by kernel_rfl))
 f143:=Tryz.func183.trans (congrArg some (by kernel_rfl))
 f146:=Tryz.func103.trans (congrArg some (by kernel_rfl))
 f195:=Tryz.func218.trans (congrArg some (by kernel_rfl))
 f197:=Tryz.func219.trans (congrArg some (by kernel_rfl))
 f217:=Tryz.func246.trans (congrArg some (by kernel_rfl))
 f218:=Tryz.func220.trans (congrArg some (by kernel_rfl))
 f219:=Tryz.func221.trans (congrArg some (by kernel_rfl))
 f221:=Tryz.func143.trans (congrArg some (by kernel_rfl))
 f224:=Tryz.func248.trans (congrArg some (by kernel_rfl))
 f225:=Tryz.func247.trans (congrArg some (by kernel_rfl))
 f260:=Tryz.func245.trans (congrArg some (by kernel_rfl))
 f266:=Tryz.func258.trans (congrArg some (by kernel_rfl))
 f267:=Tryz.func249.trans (congrArg some (by kernel_rfl))
 f268:=Tryz.func181.trans (congrArg some (by kernel_rfl))
 f314:=Tryz.func259.trans (congrArg some (by kernel_rfl))
 t0:=Tryz.underlying0
 a0:=Tryz.isAgg0
 z0:=Tryz.sizeOf0
 v0:=Tryz.zeroValue0
 t3:=Tryz.underlying3
 a3:=Tryz.isAgg3
 z3:=Tryz.sizeOf3
 v3:=Tryz.zeroValue3
 t4:=Tryz.underlying4
 a4:=Tryz.isAgg4
 z4:=Tryz.sizeOf4
 v4:=Tryz.zeroValue4
 t5:=Tryz.underlying5
 a5:=Tryz.isAgg5
 z5:=Tryz.sizeOf5
 v5:=Tryz.zeroValue5
 t9:=Tryz.underlying9
 a9:=Tryz.isAgg9
 z9:=Tryz.sizeOf9
 v9:=Tryz.zeroValue9
 t21:=Tryz.underlying21
 a21:=Tryz.isAgg21
 z21:=Tryz.sizeOf21
 v21:=Tryz.zeroValue21
 t31:=Tryz.underlying71
 a31:=Tryz.isAgg71
 z31:=Tryz.sizeOf71
 v31:=Tryz.zeroValue71
 t46:=Tryz.underlying193
 a46:=Tryz.isAgg193
 z46:=Tryz.sizeOf193
 v46:=Tryz.zeroValue193
 t51:=Tryz.underlying202
 a51:=Tryz.isAgg202
 z51:=Tryz.sizeOf202
 v51:=Tryz.zeroValue202
 t105:=Tryz.underlying185
 a105:=Tryz.isAgg185
 z105:=Tryz.sizeOf185
 v105:=Tryz.zeroValue185
 t119:=Tryz.underlying213
 a119:=Tryz.isAgg213
 z119:=Tryz.sizeOf213
 t138:=Tryz.underlying215
 a138:=Tryz.isAgg215
 z138:=Tryz.sizeOf215
 v138:=Tryz.zeroValue215
 t139:=Tryz.underlying216
 a139:=Tryz.isAgg216
 z139:=Tryz.sizeOf216
 v139:=Tryz.zeroValue216
 t146:=Tryz.underlying203
 a146:=Tryz.isAgg203
 z146:=Tryz.sizeOf203
 v146:=Tryz.zeroValue203
 g1:=by kernel_rfl
 g3:=by kernel_rfl
 g4:=by kernel_rfl}
def Tryz.lays105_ren:Go.Shelf.Ren:=⟨fun|105=>207|212=>236|99=>237|165=>178|166=>179|170=>238|169=>180|263=>251|264=>252|206=>253|240=>216|241=>217|276=>243|277=>244|n=>n,fun|9=>9|3=>3|4=>4|20=>20|0=>0|46=>193|109=>194|5=>5|72=>158|76=>161|51=>202|146=>203|53=>205|148=>206|70=>156|37=>91|75=>160|127=>184|164=>199|80=>163|n=>n,fun|n=>n⟩
def Tryz.lays105:Go.Proofs.Lays.n105 Tryz.prog Tryz.lays105_ren:={
 mixed:=by kernel_rfl
 f99:=Tryz.func237.trans (congrArg some (by kernel_rfl))
 f105:=Tryz.func207.trans (congrArg some (by kernel_rfl))
 f165:=Tryz.func178.trans (congrArg some (by kernel_rfl))
 f166:=Tryz.func179.trans (congrArg some (by kernel_rfl))
 f169:=Tryz.func180.trans (congrArg some (by kernel_rfl))
 f170:=Tryz.func238.trans (congrArg some (by kernel_rfl))
 f206:=Tryz.func253.trans (congrArg some (by kernel_rfl))
 f212:=Tryz.func236.trans (congrArg some (by kernel_rfl))
 f240:=Tryz.func216.trans (congrArg some (by kernel_rfl))
 f241:=Tryz.func217.trans (congrArg some (by kernel_rfl))
 f263:=Tryz.func251.trans (congrArg some (by kernel_rfl))
 f264:=Tryz.func252.trans (congrArg some (by kernel_rfl))
 f276:=Tryz.func243.trans (congrArg some (by kernel_rfl))
 f277:=Tryz.func244.trans (congrArg some (by kernel_rfl))
 t0:=Tryz.underlying0
 a0:=Tryz.isAgg0
 z0:=Tryz.sizeOf0
 v0:=Tryz.zeroValue0
 t3:=Tryz.underlying3
 a3:=Tryz.isAgg3
 z3:=Tryz.sizeOf3
 v3:=Tryz.zeroValue3
 t4:=Tryz.underlying4
 a4:=Tryz.isAgg4
 z4:=Tryz.sizeOf4
 v4:=Tryz.zeroValue4
 t5:=Tryz.underlying5
 a5:=Tryz.isAgg5
 z5:=Tryz.sizeOf5
 v5:=Tryz.zeroValue5
 t9:=Tryz.underlying9
 a9:=Tryz.isAgg9
 z9:=Tryz.sizeOf9
 v9:=Tryz.zeroValue9
 t20:=Tryz.underlying20
 a20:=Tryz.isAgg20
 z20:=Tryz.sizeOf20
 v20:=Tryz.zeroValue20
 t37:=Tryz.underlying91
 a37:=Tryz.isAgg91
 z37:=Tryz.sizeOf91
 v37:=Tryz.zeroValue91
 t46:=Tryz.underlying193
 a46:=Tryz.isAgg193
 z46:=Tryz.sizeOf193
 v46:=Tryz.zeroValue193
 t51:=Tryz.underlying202
 a51:=Tryz.isAgg202
 z51:=Tryz.sizeOf202
 v51:=Tryz.zeroValue202
 t53:=Tryz.underlying205
 a53:=Tryz.isAgg205
 z53:=Tryz.sizeOf205
 v53:=Tryz.zeroValue205
 t70:=Tryz.underlying156
 a70:=Tryz.isAgg156
 z70:=Tryz.sizeOf156
 v70:=Tryz.zeroValue156
 t72:=Tryz.underlying158
 a72:=Tryz.isAgg158
 z72:=Tryz.sizeOf158
 v72:=Tryz.zeroValue158
 t75:=Tryz.underlying160
 a75:=Tryz.isAgg160
 z75:=Tryz.sizeOf160
 v75:=Tryz.zeroValue160
 t76:=Tryz.underlying161
 a76:=Tryz.isAgg161
 z76:=Tryz.sizeOf161
 v76:=Tryz.zeroValue161
 t109:=Tryz.underlying194
 a109:=Tryz.isAgg194
 z109:=Tryz.sizeOf194
 v109:=Tryz.zeroValue194
 t127:=Tryz.underlying184
 a127:=Tryz.isAgg184
 z127:=Tryz.sizeOf184
 v127:=Tryz.zeroValue184
 t146:=Tryz.underlying203
 a146:=Tryz.isAgg203
 z146:=Tryz.sizeOf203
 v146:=Tryz.zeroValue203
 t148:=Tryz.underlying206
 a148:=Tryz.isAgg206
 z148:=Tryz.sizeOf206
 v148:=Tryz.zeroValue206
 t164:=Tryz.underlying199
 a164:=Tryz.isAgg199
 z164:=Tryz.sizeOf199
 v164:=Tryz.zeroValue199}
def Tryz.Builder_Extra_156:Builder.Extra Tryz.prog Tryz.lays156_ren:={
 sizeBuilder:=by kernel_rfl
 liesBuilder:=by kernel_rfl
 t5:=Tryz.underlying5
 a5:=Tryz.isAgg5
 z5:=Tryz.sizeOf5
 v5:=Tryz.zeroValue5
 infoByte:=by kernel_rfl
 cellsByte:=by kernel_rfl
 sizeByte:=by kernel_rfl
 neB5:=by decide}
open Go.RowKit in
open Go.IntKind (i64)
def Tryz.strings_Join_none(a:Option Addr)(c:Nat)(sep:ByteArray)(w:World):
  Calls Tryz.prog 142 #[.slice a 0 c,.string sep] w λe w'=>e=.returned (.string ⟨#[]⟩)∧w'=w:=Any.strings_Join_none Tryz.lays156 Tryz.Builder_Extra_156 a c sep w
open Go.RowKit in
open Go.IntKind (i64)
def Tryz.strings_Join(bk o c:Nat)(xs:List ByteArray)(sep:ByteArray)(w:World)(hcells:∀(j:Nat) x,xs[j]? =some x->w.cell? ⟨bk,o+j,none⟩=some (.string x))(hbk:bk<w.heap.size)(hN:xs.length<=140737488355328)(hcap:xs.length<=c)(hlen:(Lib.join (xs.map (·.data.toList)) sep.data.toList).length<=140737488355328):
  Calls Tryz.prog 142 #[.slice (some ⟨bk,o,none⟩) xs.length c,.string sep] w λe w'=>e=.returned (.string ⟨(Lib.join (xs.map (·.data.toList)) sep.data.toList).toArray⟩)∧Go.RowKit.Below w.heap.size w w':=Any.strings_Join Tryz.lays156 Tryz.Builder_Extra_156 bk o c xs sep w hcells hbk hN hcap hlen
open Go.RowKit Go.Lib in
open Go.IntKind (i64)
def Tryz.strings_Contains_one(s:ByteArray)(c:UInt8)(w:World):
  Calls Tryz.prog 202 #[.string s,.string ⟨#[c]⟩] w λe w'=>e=.returned (.bool (decide (0<=Lib.indexByte s.data.toList c)))∧w'=w:=Any.strings_Contains_one Tryz.lays144 s c w
open Go.RowKit Go.Lib in
open Go.IntKind (i64)
def Tryz.strings_Split(s sep:ByteArray)(m:Int)(w:World)(hs:s.size<4294967281)(hm:w.cell? ⟨3,0,none⟩=some (.int .i64 m))(h1:1<=sep.size):
  Calls Tryz.prog 103 #[.string s,.string sep] w λe w'=>e=.returned (.slice (some ⟨w.heap.size,0,none⟩) (Lib.countB s sep+1) (Lib.countB s sep+1))∧w'=w.alloc (.cells ((Lib.splitB sep 0 (Lib.countB s sep) s).map Value.string).toArray 9):=Any.strings_Split Tryz.lays146 (by kernel_rfl) s sep m w hs hm h1
def Tryz.Builder_Extra_105:Builder.Extra Tryz.prog Tryz.lays105_ren:={
 sizeBuilder:=by kernel_rfl
 liesBuilder:=by kernel_rfl
 t5:=Tryz.underlying5
 a5:=Tryz.isAgg5
 z5:=Tryz.sizeOf5
 v5:=Tryz.zeroValue5
 infoByte:=by kernel_rfl
 cellsByte:=by kernel_rfl
 sizeByte:=by kernel_rfl
 neB5:=by decide}
open Go.RowKit Go.Lib in
open Go.IntKind (i64)
def Tryz.strings_Repeat(s:ByteArray)(c:Nat)(w:World)(hc:c<=9223372036854775807)(hlen:s.size * c<=140737488355328):
  Calls Tryz.prog 207 #[.string s,.int .i64 c] w λe w'=>e=.returned (.string ⟨(Lib.repeatL s.data.toList c).toArray⟩)∧Go.RowKit.Below w.heap.size w w':=Any.strings_Repeat Tryz.lays105 Tryz.Builder_Extra_105 s c w hc hlen
end Go.Proofs
namespace Go.Proofs.YtbpldgeajbfgnaaGreatDoor
set_option linter.unusedVariables false
set_option linter.unusedSimpArgs false
open Go Go.Vm
open Go.IntKind (i64)
def Zj{X:Ctx}(hP:X.P=Tryz.prog)(hm:∀i,i<2->zY X.GR 202 i=0)(fn:Func)(args:List V)(cells:List Cell)(rows:au)(outs:List Cell)(hf:X.P.funcs[202]? =some fn)(h:Prim.strings_Contains args cells=some (rows,outs))
  (base:Nat) (U:Nat->Prop) (w:World) (gargs iP:List Value) (N1 N2:List Nat) (hG:Given X base U w 202 args cells gargs iP N1 N2):
  Calls X.P 202 gargs.toArray w λe w'=>∃gs M1 M2,e=.returned (Un gs)∧Did X.P U w w' (N1++N2) fn.resultTypes.toList cells outs iP rows gs M1 M2:=by
 unfold Prim.strings_Contains at h;split at h
 ·rename_i s t;unfold M.strings_Contains at h;split at h
  ·rename_i c;cases h;obtain⟨rfl,rfl,rfl,hs⟩:=VD hG hm;rw[aaN hs];rw[hP] at hf⊢;have hfn:fn.resultTypes.toList=[4]:=by rw[Tryz.func202] at hf;cases hf;rfl
   refine(Tryz.strings_Contains_one ⟨⟨s⟩⟩ c w).mono ?_;rintro e w' ⟨rfl,rfl⟩;rw[hfn];exact⟨[_],[],[],rfl,PO (by kernel_rfl) (λ_ _=>⟨rfl,rfl⟩) (Keep.refl _ _)⟩
  ·cases h
 ·cases h
def afg{X:Ctx}(hP:X.P=Tryz.prog)(hm:∀i,i<2->zY X.GR 103 i=0)(hI:X.awu 3=true)(fn:Func)(args:List V)(cells:List Cell)(rows:au)(outs:List Cell)(hf:X.P.funcs[103]? =some fn)(h:Prim.strings_Split args cells=some (rows,outs))
  (base:Nat) (U:Nat->Prop) (w:World) (gargs iP:List Value) (N1 N2:List Nat) (hG:Given X base U w 103 args cells gargs iP N1 N2):
  Calls X.P 103 gargs.toArray w λe w'=>∃gs M1 M2,e=.returned (Un gs)∧Did X.P U w w' (N1++N2) fn.resultTypes.toList cells outs iP rows gs M1 M2:=by
 unfold Prim.strings_Split at h;split at h
 ·rename_i s t;unfold M.strings_Split at h;cases hc:(Nat.blt s.length 4294967281 && Nat.ble 1 t.length) with
  |false=>rw[hc] at h;cases h
  |true=>
   rw[hc] at h;cases h;rw[AL] at hc;obtain⟨rfl,rfl,rfl,hs⟩:=VD hG hm;rw[aaN hs];obtain⟨m,hmx⟩:=hG.gl.int 3 hI;have hmx:=(L8 hmx).2.2;have hU:=hG.up;rw[hP] at hf⊢;obtain⟨T,hfn,hT⟩:∃T,fn.resultTypes.toList=[T]∧EC Tryz.prog T=false:=by rw[Tryz.func103] at hf;cases hf;exact⟨_,rfl,by kernel_rfl⟩
   have h1:1<=t.length:=Nat.le_of_ble_eq_true hc.2;have h2:s.length<4294967281:=by have:=hc.1;rw[Nat.blt_eq] at this;exact this
   have hlen:=Lib.splitB_all ⟨⟨t⟩⟩ h1 0 _ ⟨⟨s⟩⟩ rfl;have e1:(aaY s t).length=Lib.countB ⟨⟨s⟩⟩ ⟨⟨t⟩⟩+1:=by rw[aaY,List.length_map,hlen]
   have e2:(Lib.splitB ⟨⟨t⟩⟩ 0 (Lib.countB ⟨⟨s⟩⟩ ⟨⟨t⟩⟩) ⟨⟨s⟩⟩).map Value.string=(aaY s t).map λx=>Value.string ⟨⟨x⟩⟩:=by rw[aaY,List.map_map];rfl
   refine(Tryz.strings_Split ⟨⟨s⟩⟩ ⟨⟨t⟩⟩ m w h2 hmx h1).mono ?_;rintro e w' ⟨rfl,rfl⟩;rw[hfn,<-e1,e2];exact⟨[_],[],[_],rfl,am7 (by intro e;rw[e] at e1;simp at e1) hT hU⟩
 ·cases h
def cell_lt{w:World}{a:Addr}{v:Value}(h:w.cell? a=some v):a.block<w.heap.size:=by
 unfold World.cell? at h;cases hq:w.heap[a.block]? with
 |none=>rw[hq] at h;simp at h
 |some x=>exact(Array.getElem?_eq_some_iff.1 hq).1
def acd{w w':World}(h:Go.RowKit.Below w.heap.size w w'):Keep [] w w':=⟨h.os,h.tape,h.output,h.size,λb hb _=>h.block b hb⟩
def ace(s:aC):∀n,Lib.repeatL s n=(List.replicate n s).flatten
 |0=>rfl
 |n+1=>by rw[Lib.repeatL,ace s n,List.replicate_succ,List.flatten_cons]
def acO{X:Ctx}(hP:X.P=Tryz.prog)(hm:∀i,i<2->zY X.GR 207 i=0)(fn:Func)(args:List V)(cells:List Cell)(rows:au)(outs:List Cell)(hf:X.P.funcs[207]? =some fn)(h:Prim.strings_Repeat args cells=some (rows,outs))
  (base:Nat) (U:Nat->Prop) (w:World) (gargs iP:List Value) (N1 N2:List Nat) (hG:Given X base U w 207 args cells gargs iP N1 N2):
  Calls X.P 207 gargs.toArray w λe w'=>∃gs M1 M2,e=.returned (Un gs)∧Did X.P U w w' (N1++N2) fn.resultTypes.toList cells outs iP rows gs M1 M2:=by
 unfold Prim.strings_Repeat at h;split at h
 ·rename_i s n;unfold M.strings_Repeat at h;cases hc:((decide (0<=n) && decide (n<=1000000)) && Nat.ble s.length 1000000) with
  |false=>rw[hc] at h;cases h
  |true=>
   rw[hc] at h;cases h;simp only[AL,decide_eq_true_eq,Nat.ble_eq] at hc;obtain⟨⟨h0,h1⟩,h2⟩:=hc;obtain⟨c,rfl⟩:=Int.eq_ofNat_of_zero_le h0;obtain⟨rfl,rfl,rfl,hs⟩:=VD hG hm;have hg:gargs=[.string ⟨⟨s⟩⟩,.int .i64 (c:Int)]:=by simp only[dJ,aV,ro] at hs;obtain⟨g,gs,rfl,rfl,g',gs',rfl,rfl,rfl⟩:=hs;rfl
   rw[hg];rw[hP] at hf⊢;have hfn:fn.resultTypes.toList=[9]:=by rw[Tryz.func207] at hf;cases hf;rfl
   have hlen:(⟨⟨s⟩⟩:ByteArray).size * c<=140737488355328:=by show s.length * c<=_;have:s.length * c<=1000000 * 1000000:=Nat.mul_le_mul h2 (by omega);omega
   refine(Tryz.strings_Repeat ⟨⟨s⟩⟩ c w (by omega) hlen).mono ?_;rintro e w' ⟨rfl,hb⟩;rw[hfn];refine⟨[_],[],[],rfl,PO (by kernel_rfl) (λ_ _=>⟨?_,rfl⟩) (acd hb)⟩;show Value.string ⟨(Lib.repeatL s c).toArray⟩=.string ⟨⟨_⟩⟩;rw[ace];rfl
 ·cases h
def YO{h:View}:∀{rows:au} {l:List (aC)} {b o:Nat},anj rows=some l->lQ h 1 rows b o->rows.length=l.length∧∀j x,l[j]? =some x->h b (o+j)=some (.string ⟨⟨x⟩⟩)
 |[],_,b,o,e,_=>by cases e;exact⟨rfl,λj x h=>by simp at h⟩
 |r::rs,l,b,o,e,q=>by
  simp only[anj] at e;split at e
  ·rename_i y;cases hd:anj rs with
   |none=>rw[hd] at e;cases e
   |some l'=>
    rw[hd] at e;cases e;simp only[lQ,uz] at q;obtain⟨_,⟨⟨v,hv,hvv⟩,_⟩,q⟩:=q;simp only[ro] at hvv;subst hvv;obtain⟨e1,e2⟩:=YO hd q;refine⟨by simp[e1],λj x hj=> ?_⟩;cases j with
    |zero=>simp at hj;subst hj;exact hv
    |succ j=>have:=e2 j x (by simpa using hj);rw[show o+(j+1)=o+1+j by omega];exact this
  ·cases e
def acf(sep:aC):∀l,joinL sep l=Lib.join l sep
 |[]=>rfl
 |[x]=>by rw[Lib.join_one];rfl
 |x::y::l=>by rw[joinL,acf sep (y::l)];simp[Lib.join,List.intercalate,List.intersperse]
def ad8(sep:aC):∀l,(joinL sep l).length<=alJ l+l.length * sep.length
 |[]=>by simp[joinL]
 |[x]=>by simp only[joinL,alJ];omega
 |x::y::l=>by have:=ad8 sep (y::l);simp only[joinL,alJ,vS,vX] at *;rw[Nat.add_mul (l.length+1) 1];omega
def aiL{X:Ctx}(hP:X.P=Tryz.prog)(hm:∀i,i<2->zY X.GR 142 i=0)(fn:Func)(args:List V)(cells:List Cell)(rows:au)(outs:List Cell)(hf:X.P.funcs[142]? =some fn)(h:Prim.strings_Join args cells=some (rows,outs))
  (base:Nat) (U:Nat->Prop) (w:World) (gargs iP:List Value) (N1 N2:List Nat) (hG:Given X base U w 142 args cells gargs iP N1 N2):
  Calls X.P 142 gargs.toArray w λe w'=>∃gs M1 M2,e=.returned (Un gs)∧Did X.P U w w' (N1++N2) fn.resultTypes.toList cells outs iP rows gs M1 M2:=by
 unfold Prim.strings_Join at h;split at h
 ·rename_i rws s;unfold M.strings_Join at h;split at h
  ·rename_i l hl;cases hc:Nat.ble (alJ l+l.length * (s.length+1)) 4294967296 with
   |false=>rw[hc] at h;cases h
   |true=>
    rw[hc] at h;cases h;rw[Nat.ble_eq] at hc;obtain⟨rfl,rfl,rfl,hs⟩:=VD hG hm;simp only[dJ,aV,ro] at hs;obtain⟨g,gs,rfl,⟨a,cap,rfl,hcap,hrow⟩,g',gs',rfl,rfl,rfl⟩:=hs;rw[hP] at hf⊢;have hfn:fn.resultTypes.toList=[9]:=by rw[Tryz.func142] at hf;cases hf;rfl
    rw[hfn];cases rws with
    |nil=>cases hl;refine(Tryz.strings_Join_none a cap ⟨⟨s⟩⟩ w).mono ?_;rintro e w' ⟨rfl,rfl⟩;exact⟨[_],[],[],rfl,PO (by kernel_rfl) (λ_ _=>⟨rfl,rfl⟩) (Keep.refl _ _)⟩
    |cons r rs=>
     obtain⟨b,o,rfl,hr⟩:=hrow (by simp);obtain⟨e1,e2⟩:=YO hl hr;have hbs:b<w.heap.size:=by
      have h0:∃x,l[0]? =some x:=by
       cases l with
       |nil=>simp at e1
       |cons x l=>exact⟨x,rfl⟩
      obtain⟨x,hx⟩:=h0;have:=(L8 (e2 0 x hx)).2.2;exact cell_lt this
     have hlen:=ad8 s l;have hmap:(l.map λx=>(⟨⟨x⟩⟩:ByteArray)).map (·.data.toList)=l:=by rw[List.map_map];exact List.map_id' l
     have ll:l.length<=140737488355328:=by rw[Nat.mul_add,Nat.mul_one] at hc;omega
     have C:=Tryz.strings_Join b o cap (l.map λx=>(⟨⟨x⟩⟩:ByteArray)) ⟨⟨s⟩⟩ w
      (λj x hj=>by
       rw[List.getElem?_map] at hj;cases hq:l[j]? with
       |none=>rw[hq] at hj;cases hj
       |some y=>rw[hq] at hj;cases hj;exact(L8 (e2 j y hq)).2.2)
      hbs (by rw[List.length_map];exact ll) (by rw[List.length_map,<-e1];exact hcap)
      (by rw[hmap,<-acf];show(joinL s l).length<=_;rw[Nat.mul_add,Nat.mul_one] at hc;omega)
     rw[List.length_map,<-e1,hmap] at C;refine C.mono ?_;rintro e w' ⟨rfl,hb⟩;refine⟨[_],[],[],rfl,PO (by kernel_rfl) (λ_ _=>⟨?_,rfl⟩) (acd hb)⟩;show Value.string ⟨(Lib.join l s).toArray⟩=.string ⟨⟨_⟩⟩;rw[<-acf]
  ·cases h
 ·cases h
end Go.Proofs.YtbpldgeajbfgnaaGreatDoor
namespace Go.Proofs.YtbpldgeajbfgnaaGreatDoor
set_option linter.unusedVariables false
set_option linter.unusedSimpArgs false
open Go Go.Vm Go.RowKit
open Go.IntKind (i64)
def afh{x:Int}(h:(Lit.int .i64 x).wf=true):I64 x:=bounds_i64 h
set_option maxRecDepth 100000 in
def open_ints'{n:Nat}{row:Row}(h:Xg Tryz.prog (n+2) 37 row):∃k:List Int,row=[.sl false 1 (Go.Vm.encI k)]∧k.length<=maxLen∧∀x,x∈k->I64 x:=by obtain⟨rows,rfl,hl,hr⟩:=am9 Tryz.underlying37 h;obtain⟨k,rfl,hk⟩:=aaW (f:=λx:Int=>[D.int .i64 x]) (p:=I64) (λr hr'=>by obtain⟨x,rfl,hx⟩:=Zw Tryz.underlying3 (hr r hr');exact⟨x,rfl,afh hx⟩);exact⟨k,rfl,by simpa using hl,hk⟩
set_option maxRecDepth 100000 in
def ajO{n:Nat}{row:Row}(h:Xg Tryz.prog (n+3) 39 row):∃x:Nd,row=Oc false x∧Fit x:=by have h:=ajl Tryz.underlying39 h;obtain⟨_,_,rfl,h1,h⟩:=OU h;obtain⟨_,_,rfl,h2,h⟩:=OU h;obtain⟨_,_,rfl,h3,h⟩:=OU h;obtain⟨_,_,rfl,h4,h⟩:=OU h;obtain⟨_,_,rfl,h5,h⟩:=OU h;obtain rfl:=ana h;obtain⟨a,rfl,wa⟩:=Zw Tryz.underlying3 h1;obtain⟨b,rfl,wb⟩:=Zw Tryz.underlying3 h2;obtain⟨c,rfl,wc⟩:=aki Tryz.underlying9 h3;obtain⟨d,rfl,wd⟩:=aki Tryz.underlying9 h4;obtain⟨k,rfl,wk,wk2⟩:=open_ints' h5;exact⟨⟨a,b,c,d,k⟩,rfl,⟨afh wa,afh wb,wc,wd,wk,wk2⟩⟩
set_option maxRecDepth 100000 in
def aiM{n:Nat}{row:Row}(h:Xg Tryz.prog (n+4) 22 row):∃l:List Nd,row=[.sl false 5 (fU false l)]∧l.length<=maxLen∧∀x,x∈l->Fit x:=by obtain⟨rows,rfl,hl,hr⟩:=am9 Tryz.underlying22 h;obtain⟨l,rfl,hk⟩:=aaW (f:=Oc false) (p:=Fit) (λr hr'=>ajO (hr r hr'));exact⟨l,rfl,by simpa using hl,hk⟩
def open_int'{n:Nat}{row:Row}(h:Xg Tryz.prog (n+1) 3 row):∃x:Int,row=[.int .i64 x]∧I64 x:=by obtain⟨x,rfl,wx⟩:=Zw Tryz.underlying3 h;exact⟨x,rfl,afh wx⟩
def awl:aes X0:=by
 intro f p fn args cells rows outs hx hf hb h base U w gargs iP N1 N2 hG;have hx':(bif Nat.beq f 116 then some Prim.jB else bif Nat.beq f 103 then some Prim.strings_Split else bif Nat.beq f 207 then some Prim.strings_Repeat else bif Nat.beq f 142 then some Prim.strings_Join else bif Nat.beq f 202 then some Prim.strings_Contains else none)=some p:=hx;cases hq:Nat.beq f 116 with
 |true=>rw[hq] at hx';cases hx';have e:=vU hq;subst e;exact acv rfl rfl fn args cells rows outs hf h base U w gargs iP N1 N2 hG
 |false=>
 rw[hq,dP] at hx';cases hq:Nat.beq f 103 with
 |true=>rw[hq] at hx';cases hx';have e:=vU hq;subst e;exact afg rfl (by decide) rfl fn args cells rows outs hf h base U w gargs iP N1 N2 hG
 |false=>
 rw[hq,dP] at hx';cases hq:Nat.beq f 207 with
 |true=>rw[hq] at hx';cases hx';have e:=vU hq;subst e;exact acO rfl (by decide) fn args cells rows outs hf h base U w gargs iP N1 N2 hG
 |false=>
 rw[hq,dP] at hx';cases hq:Nat.beq f 142 with
 |true=>rw[hq] at hx';cases hx';have e:=vU hq;subst e;exact aiL rfl (by decide) fn args cells rows outs hf h base U w gargs iP N1 N2 hG
 |false=>
 rw[hq,dP] at hx';cases hq:Nat.beq f 202 with
 |true=>rw[hq] at hx';cases hx';have e:=vU hq;subst e;exact Zj rfl (by decide) fn args cells rows outs hf h base U w gargs iP N1 N2 hG
 |false=>rw[hq] at hx';cases hx'
def own:ownKnob Tryz.prog.godebug=none:=by kernel_rfl
def laidOut:laidOutB Tryz.prog=true:=by kernel_rfl
def gK : Tryz.prog.globalNamed "loop.example/g01543/impl.keywords" = some 1 := by kernel_rfl
def gS : Tryz.prog.globalNamed "loop.example/g01543/impl.signs" = some 2 := by kernel_rfl
def gB : Tryz.prog.globalNamed "loop.example/g01543/impl.builtins" = some 0 := by kernel_rfl
def tK:(Tryz.prog.globals[1]?).map (·.type)=some 177:=by kernel_rfl
def tS:(Tryz.prog.globals[2]?).map (·.type)=some 178:=by kernel_rfl
def tB:(Tryz.prog.globals[0]?).map (·.type)=some 174:=by kernel_rfl
def c9:Tryz.prog.cellsOf 9=1:=by kernel_rfl
def dK:(Rows.laid_loop_example_g01543_impl_keywords:DataW Unit)=.agg (Ro.map λs=> .lit (.string s)):=by kernel_rfl
def dS:(Rows.laid_loop_example_g01543_impl_signs:DataW Unit)=.agg (O1.map λs=> .lit (.string s)):=by kernel_rfl
def dB:(Rows.laid_loop_example_g01543_impl_builtins:DataW Unit)=.agg (ahW.map λs=> .lit (.string s)):=by kernel_rfl
def rK:zD=Ro.map D.str:=by kernel_rfl
def rS:MQ=O1.map D.str:=by kernel_rfl
def rB:GI=ahW.map D.str:=by kernel_rfl
def apI{W:World}(hL:laidMetH Tryz.prog Rows.fnExactStmtDocRow.laid W)(hS:W.ShapedOpen Tryz.prog):Z4 X0 (full W):=by
 rw[MakeChecks.laidMetH_plain _ _ _ (by kernel_rfl)] at hL;obtain⟨ps,⟨g0,t0,cs0,f0,p0,q0,hg0,ht0,hv0,hd0,⟨g1,t1,cs1,f1,p1,q1,hg1,ht1,hv1,hd1,⟨g2,t2,cs2,f2,p2,q2,hg2,ht2,hv2,hd2,_,_⟩,_⟩,_⟩,_,_⟩:=hL;obtain rfl:=Option.some.inj (gK.symm.trans hg0);obtain rfl:=Option.some.inj (gS.symm.trans hg1);obtain rfl:=Option.some.inj (gB.symm.trans hg2);obtain rfl:=Option.some.inj (tK.symm.trans ht0);obtain rfl:=Option.some.inj (tS.symm.trans ht1);obtain rfl:=Option.some.inj (tB.symm.trans ht2);rw[dK] at hd0;rw[dS] at hd1;rw[dB] at hd2;refine⟨λg row h=> ?_,λg h=> ?_⟩
 ·have h':(bif Nat.beq g 2 then some MQ else bif Nat.beq g 1 then some zD else bif Nat.beq g 0 then some GI else none)=some row:=h;cases hq:Nat.beq g 2 with
  |true=>rw[hq] at h';cases h';have e:=vU hq;subst e;rw[rS];exact Xi Tryz.underlying178 Tryz.underlying9 c9 hg1 hv1 hd1
  |false=>
  rw[hq,dP] at h';cases hq:Nat.beq g 1 with
  |true=>rw[hq] at h';cases h';have e:=vU hq;subst e;rw[rK];exact Xi Tryz.underlying177 Tryz.underlying9 c9 hg0 hv0 hd0
  |false=>
  rw[hq,dP] at h';cases hq:Nat.beq g 0 with
  |true=>rw[hq] at h';cases h';have e:=vU hq;subst e;rw[rB];exact Xi Tryz.underlying174 Tryz.underlying9 c9 hg2 hv2 hd2
  |false=>rw[hq] at h';cases h'
 ·have h':(bif Nat.beq g 3 then true else false)=true:=h;cases hq:Nat.beq g 3 with
  |false=>rw[hq] at h';cases h'
  |true=>have e:=vU hq;subst e;exact Go.Proofs.cell_of_shapedOpen_int (zero:=#[.int .i64 0]) hS (of_decide_eq_true (by kernel_rfl)) (by kernel_rfl) rfl (by kernel_rfl) (by kernel_rfl) Tryz.underlying3
end Go.Proofs.YtbpldgeajbfgnaaGreatDoor
