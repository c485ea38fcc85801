import Derived.Test.YtajjpadmdmehmaaGreatDoorP46Tok
import Derived.Test.YtajjpadmdmehmaaGreatDoorVm4
set_option linter.defProp false
namespace Go.Proofs.YtajjpadmdmehmaaGreatDoor
set_option linter.unusedVariables false
set_option linter.unusedSimpArgs false
open Go Go.Vm
open Go.IntKind (i64)
open Int (reduceLE reduceLT reduceSub reduceAdd)
structure Ps where
 level:Int
 nN:Bool
 tZ:Bool
 uf:Bool
 lY:Bool
 deriving DecidableEq,Inhabited
def Ps.top:Ps:=⟨1,false,false,false,false⟩
def Ps.zero:Ps:=⟨0,false,false,false,false⟩
def AL(op:Int):Int:=bif op==44 then 3 else bif op==45 then 4 else bif op==67||op==46 then 6 else
 bif op==63||(op==48||(op==47||(op==50||(op==62||op==49)))) then 7 else bif op==99 then 8 else bif op==55||op==56 then 9 else
 bif op==57||(op==58||op==59) then 10 else bif op==60 then 12 else 0
def lvl(k op:Int):Int:=bif k==15 then 1 else bif k==14 then 2 else bif k==13 then 5 else bif k==12 then AL op else bif k==11 then 11 else
 bif k==9||k==10 then 13 else bif k==6 then 14 else bif k==1||(k==2||(k==3||(k==4||(k==5||(k==7||k==8))))) then 15 else 0
def nV(p:Ps):Bool:=(decide (1<=p.level) && decide (p.level<=15)) &&(!p.nN||p.level==14)
def fits(k op:Int)(p:Ps):Bool:=bif !(nV p)||lvl k op==0 then false else bif p.tZ && k==13 then false else bif p.uf &&(k==12 && op==62) then false else
 bif p.lY &&(k==11||(k==9||k==4)) then false else(p.nN && k==9)||decide (p.level<=lvl k op)
def sides(op:Int):Int×Int:=bif AL op==3 then(3,4) else bif AL op==4 then(4,5) else bif AL op==6 then(7,7) else bif AL op==7 then(8,8) else
 bif AL op==8 then(8,9) else bif AL op==9 then(9,10) else bif AL op==10 then(10,11) else(13,11)
def Y1(k op:Int)(j:Nat):Int:=bif k==15 then(bif Nat.beq j 0 then 14 else 1) else bif k==14 then(bif Nat.beq j 0 then 3 else 2) else bif k==13 then 5 else bif k==11 then 11 else
 bif k==12 then(bif Nat.beq j 0 then(sides op).1 else(sides op).2) else 14
def dQ(k op:Int)(n j:Nat)(p:Ps):Ps:=bif !(nV p)||(!(Nat.blt j n)||lvl k op==0) then .zero else bif lvl k op==15||(k==13 && Nat.blt 1 n) then .top else
 ⟨Y1 k op j,k==6,p.tZ,p.uf,bif k==11||(k==9||(k==10||k==6)) then false else(Nat.beq j 0 && p.lY)||(Nat.beq j 1 &&(k==12 && op==99))⟩
def qL(k:Int)(j:Nat):Bool:=Nat.beq j 0 &&(k==9||(k==10||k==15))
def tok(k:Int):Tk:=⟨k,spell k,0⟩
def IZ:Bool->List (List Tk)->List Tk
 |_,[]=>[]
 |b,x::l=>(bif b then x else tok 36::x)++IZ false l
def Dl{α:Type}(L:List (List α))(j:Nat):List α:=(L[j]?).getD []
def JL(k op:Int)(n:Nat)(x:aC)(L:List (List Tk)):List Tk:=
 bif k==1 then[⟨6,x,0⟩] else bif k==2 then[⟨3,x,0⟩] else bif k==3 then[⟨4,x,0⟩] else bif k==4 then[⟨5,x,0⟩] else
 bif k==5 then⟨6,x,0⟩::tok 34::(IZ true L++[tok 35]) else bif k==7 then⟨7,x,0⟩::tok 32::(IZ true L++[tok 33]) else bif k==8 then⟨8,x,0⟩::tok 32::(IZ true L++[tok 33]) else
 bif k==9||k==11 then tok op::Dl L 0 else bif k==6 then tok 68::Dl L 0 else bif k==10 then Dl L 0++[tok op] else
 bif k==13 then(bif Nat.blt 1 n then tok 32::(IZ true L++[tok 33]) else Dl L 0)++[tok 24,⟨6,x,0⟩] else
 bif k==14 then Dl L 0++(tok 65::(Dl L 1++(tok 66::Dl L 2))) else Dl L 0++((bif op==99 then[] else[tok op])++Dl L 1)
mutual
def xP:Tn->Ps->List Tk
 | .mk k op x _ ks,p=>JL k op ks.length x (jM k op ks.length p ks 0)
def jM(k op:Int)(n:Nat)(p:Ps):List Tn->Nat->List (List Tk)
 |[],_=>[]
 |t::ts,j=>(bif qL k j||fits t.kind t.op (dQ k op n j p) then xP t (dQ k op n j p) else tok 32::(xP t .top++[tok 33]))::jM k op n p ts (j+1)
end
def aby(t:Tn)(p:Ps):List Tk:=bif fits t.kind t.op p then xP t p else tok 32::(xP t .top++[tok 33])
def mZ(s:aC):Tn:=.mk 1 0 s [] []
def Xh:Tn:=.mk 2 0 [] [] []
def UG:Tn:=.mk 3 0 [] [] []
def Zm(d:Tn):Tn:=.mk 4 4 [] [] [d]
def arB(d:Tn):Tn:=.mk 5 0 [] [] [d]
def o9(l:List Tn):Tn:=.mk 6 0 [] [] l
def UZ:Bool->List Tn->List Tn
 |_,[]=>[]
 |b,x::l=>(bif b then[x] else[mZ [44],Xh,x])++UZ false l
def adP(L:List Tn):Tn:=arB (Zm (o9 (UZ true L)))
def zB(L:List Tn)(j:Nat):Tn:=(L[j]?).getD (mZ [])
def ajF(s:aC):List (aC)->Nat->Nat
 |[],m=>m
 |g::l,m=>ajF s l (bif Nat.blt m g.length && g.isPrefixOf s then g.length else m)
def lastB(s:aC):Int:=match s.getLast? with|some c=>(c.toNat:Int)|none=> -1
def atm(s:aC):Int:=match s with|c::_=>(c.toNat:Int)|[]=> -1
def KC(a b:Tk):Bool:=
 bif a.text==[]||(b.text==[]||(a.kind==2||(a.kind==1||b.kind==1))) then false else
 bif isW (lastB a.text) && isW (atm b.text) then true else
 bif a.kind==3 &&(isW (atm b.text)||atm b.text==46) then true else
 bif a.kind==6 && b.kind==32 then true else
 bif !(decide (30<=a.kind) && decide (a.kind<=68)) then false else Nat.blt a.text.length (ajF (a.text++b.text) Yd 0)
def aao(k op:Int)(n:Nat)(x:aC)(gap:Bool)(L:List Tn):Tn:=
 bif k==1||(k==2||(k==3||k==4)) then mZ x else bif k==5 then o9 [mZ (x++[91]),adP L,mZ [93]] else
 bif k==7||k==8 then o9 [mZ (x++[40]),adP L,mZ [41]] else bif k==9 then o9 [mZ (spell op),zB L 0] else bif k==10 then o9 [zB L 0,mZ (spell op)] else
 bif k==6 then o9 [mZ [36],zB L 0] else bif k==11 then o9 [mZ (bif gap then spell op++[32] else spell op),zB L 0] else
 bif k==14 then o9 [zB L 0,mZ [32,63,32],zB L 1,mZ [32,58,32],zB L 2] else
 bif k==13 then(bif Nat.blt 1 n then o9 [mZ [40],adP L,mZ ([41,32,105,110,32]++x)] else o9 [zB L 0,mZ ([32,105,110,32]++x)]) else
 bif k==12 && op==99 then o9 [zB L 0,mZ [32],zB L 1] else
 bif k==12 &&(op==45||op==44) then arB (Zm (o9 [zB L 0,mZ (32::spell op),Xh,zB L 1])) else
 o9 [zB L 0,mZ ((32::spell op)++[32]),zB L 1]
def amd(op:Int)(L:List (List Tk)):Bool:=match L with
 |(b::_)::_=>KC (tok op) b
 |_=>false
mutual
def qM:Tn->Ps->Tn
 | .mk k op x _ ks,p=>aao k op ks.length x (amd op (jM k op ks.length p ks 0)) (ug k op ks.length p ks 0)
def ug(k op:Int)(n:Nat)(p:Ps):List Tn->Nat->List Tn
 |[],_=>[]
 |t::ts,j=>(bif qL k j||fits t.kind t.op (dQ k op n j p) then qM t (dQ k op n j p) else o9 [mZ [40],qM t .top,mZ [41]])::ug k op n p ts (j+1)
end
def Dn(t:Tn)(p:Ps):Tn:=bif fits t.kind t.op p then qM t p else o9 [mZ [40],qM t .top,mZ [41]]
def MQ(t:Tn):Tn:=Dn t .top
def WA(t:Tn):Tn:=bif t.kind==16 then mZ [] else o9 [mZ [32],MQ t]
def Ht:List Tn->List Tn
 |[]=>[]
 |d::l=>UG::d::Ht l
def anQ(L:List Tn):Tn:=o9 [mZ [123],Zm (o9 (Ht L)),UG,mZ [125]]
def Aq(L:List Tn)(j:Nat):Tn:=(L[j]?).getD (.mk 0 0 [] [] [])
def RX(p:Ps)(L:List Tn):Tn:=adP (L.map λt=>Dn t p)
def anR(op:Int)(y:aC)(ks:List Tn):Tn:=
 let args:=bif y==[] then ks else ks.take (ks.length - 1)
 o9 ([mZ (bif op==0 then[112,114,105,110,116] else[112,114,105,110,116,102])]++
  ((bif Nat.blt 0 args.length then[mZ [32],RX ⟨1,false,false,true,false⟩ args] else[])++
   (bif y==[] then[] else[mZ (([32]++y)++[32]),(Dn (Aq ks (ks.length - 1))) ⟨9,false,false,false,false⟩])))
def abz(w:aC)(ks:List Tn):Tn:=match ks with
 |[]=>mZ w
 |t::_=>o9 [mZ w,WA t]
def agO(k op:Int)(x y:aC)(ks L:List Tn):Tn:=
 bif k==20 then MQ (Aq ks 0) else bif k==21 then anR op y ks else bif k==22 then mZ [110,101,120,116] else bif k==25 then mZ [98,114,101,97,107] else bif k==26 then mZ [99,111,110,116,105,110,117,101] else
 bif k==23 then abz [101,120,105,116] ks else bif k==24 then abz [114,101,116,117,114,110] ks else
 bif k==27 then(match ks with
  |[]=>mZ ([100,101,108,101,116,101,32]++x)
  |_::_=>o9 [mZ (([100,101,108,101,116,101,32]++x)++[91]),RX .top ks,mZ [93]]) else
 bif k==28 then(let d:=o9 [mZ [105,102,32,40],MQ (Aq ks 0),mZ [41,32],zB L 1];bif Nat.blt 2 ks.length then o9 [d,mZ [32,101,108,115,101,32],zB L 2] else d) else
 bif k==29 then o9 [mZ [119,104,105,108,101,32,40],MQ (Aq ks 0),mZ [41,32],zB L 1] else
 bif k==30 then o9 [mZ [100,111,32],zB L 0,mZ [32,119,104,105,108,101,32,40],MQ (Aq ks 1),mZ [41]] else
 bif k==31 then o9 [mZ [102,111,114,32,40],(bif(Aq ks 0).kind==16 then mZ [] else(Dn (Aq ks 0)) ⟨1,false,true,false,false⟩),mZ [59],WA (Aq ks 1),mZ [59],WA (Aq ks 2),mZ [41,32],zB L 3] else
 bif k==32 then o9 [mZ (((([102,111,114,32,40]++x)++[32,105,110,32])++y)++[41,32]),zB L 0] else
 bif k==33 then anQ L else mZ x
mutual
def iR:Tn->Tn
 | .mk k op x y ks=>agO k op x y ks (oU ks)
def oU:List Tn->List Tn
 |[]=>[]
 |t::ts=>(iR t)::oU ts
end
def Ir:List Tn->Bool->List Tn
 |[],_=>[]
 |t::ts,b=>(bif t.kind==33 then(bif b then[(iR t)] else[mZ [32],(iR t)]) else(bif b then[MQ t] else[mZ [44,32],MQ t]))++Ir ts false
def KD:List (aC)->Bool->aC
 |[],_=>[]
 |x::l,b=>(bif b then x else[44,32]++x)++KD l false
def Zn(x:aC)(ks:List Tn):aC:=(([102,117,110,99,116,105,111,110,32]++x)++[40])++(KD ((ks.take (ks.length - 1)).map Tn.text) true++[41])
def itemD(t:Tn):Tn:=
 bif t.kind==40 then o9 [mZ [66,69,71,73,78,32],(iR (Aq t.kids 0))] else bif t.kind==41 then o9 [mZ [69,78,68,32],(iR (Aq t.kids 0))] else
 bif t.kind==42||t.kind==43 then o9 (Ir t.kids true) else bif t.kind==44 then o9 [mZ (Zn t.text t.kids++[32]),(iR (Aq t.kids (t.kids.length - 1)))] else(iR t)
def I4:List Tn->List Tn
 |[]=>[]
 |t::ts=>(itemD t)::UG::I4 ts
def Ym(t:Tn):Tn:=o9 (I4 t.kids)
structure Cnt(k op:Int)(y:aC)(n:Nat):Prop where
 one:k=6\/k=9\/k=10\/k=11\/k=20\/k=32\/k=40\/k=41->n=1
 two:k=12\/k=15\/k=29\/k=30->n=2
 some_:k=5\/k=13\/k=44->1<=n
 three:k=14->n=3
 four:k=31->n=4
 cnd:k=28->n=2\/n=3
 prn:k=21->(op=0\/op=1)/\(y≠[]->1<=n)
 wrd:k=23\/k=24->n<=1
 non:k=1\/k=2\/k=3\/k=4\/k=16\/k=22\/k=25\/k=26\/k=34->n=0
 rule:k=42->(op=1/\n=1)\/(op=2/\n=1)\/(op=3/\n=2)
 range:k=43->(op=1/\n=2)\/(op=3/\n=3)
 few:k≠33->k≠45->n<=7
 bin:k=12->AL op≠0/\op≠61
 asg:k=15->op=54\/(38<=op/\op<=43)
 stp:k=9\/k=10->op=51\/op=52
 una:k=11->op=55\/op=56\/op=61
def cls(k op:Int)(n j:Nat):Nat:=
 if k=9\/k=10\/(k=15/\j=0) then 6 else if k=28\/k=29 then(if j=0 then 0 else 1) else if k=30 then(if j=0 then 1 else 0) else
 if k=31 then(if j<3 then 3 else 1) else if k=32\/k=40\/k=41 then 1 else if k=33 then 2 else if k=42 then(if op=2\/(op=3/\j+1=n) then 1 else 0) else
 if k=43 then(if j=2 then 1 else 0) else if k=44 then(if j+1=n then 1 else 4) else if k=45 then 5 else 0
def Eh(c:Nat)(d:Int):Prop:=match c with
 |0=>1<=d/\d<=15
 |1=>d=33
 |2=>20<=d/\d<=34
 |3=>d=16\/(1<=d/\d<=15)
 |4=>d=1
 |5=>(40<=d/\d<=44)\/d=34
 |_=>d=1\/d=5\/d=6
def aeR(k:Int):Prop:=(1<=k/\k<=16)\/(20<=k/\k<=34)\/(40<=k/\k<=45)
mutual
def I8:Tn->Prop
 | .mk k op x y ks=>aeR k/\Cnt k op y ks.length/\oks k op ks.length ks 0
def oks(k op:Int)(n:Nat):List Tn->Nat->Prop
 |[],_=>True
 |t::ts,j=>Eh (cls k op n j) t.kind/\(I8 t)/\oks k op n ts (j+1)
end
def auL{k op:Int}{n:Nat}:∀{ks:List Tn} {j i:Nat} {t:Tn},oks k op n ks j->ks[i]? =some t->Eh (cls k op n (j+i)) t.kind/\(I8 t)
 |[],_,i,_,_,h=>by simp at h
 |u::ts,j,0,t,h,e=>by rw[oks] at h;cases e;exact⟨h.1,h.2.1⟩
 |u::ts,j,i+1,t,h,e=>by rw[oks] at h;rw[List.getElem?_cons_succ] at e;have:=auL h.2.2 e;rw[show j+1+i=j+(i+1) by omega] at this;exact this
def Pq{k op:Int}{x y:aC}{ks:List Tn}(h:(I8 (Tn.mk k op x y ks))){i:Nat}{t:Tn}(e:ks[i]? =some t):Eh (cls k op ks.length i) t.kind/\(I8 t):=by
 rw[I8] at h;have:=auL h.2.2 e
 rwa [Nat.zero_add] at this
def SX{k op:Int}{x y:aC}{ks:List Tn}(h:(I8 (Tn.mk k op x y ks))):Cnt k op y ks.length:=by rw[I8] at h;exact h.2.1
def Zv(t:Tn):Prop:=1<=t.kind/\t.kind<=15
def adQ{k op:Int}{x y:aC}{ks:List Tn}(h:(I8 (Tn.mk k op x y ks)))(he:1<=k/\k<=15){i:Nat}{t:Tn}(e:ks[i]? =some t):(Zv t)/\(I8 t):=by
 obtain⟨h1,h2⟩:=Pq h e;refine⟨?_,h2⟩;unfold Zv;have:cls k op ks.length i=6\/cls k op ks.length i=0:=by
  unfold cls;split
  ·exact .inl rfl
  ·repeat(rw[if_neg ak])
   exact .inr rfl
 rcases this with h|h<;>rw[h] at h1<;>simp only[Eh] at h1<;>omega
def ND{a b lo hi:Int}(c:Bool)(ha:lo<=a/\a<=hi)(hb:lo<=b/\b<=hi):lo<=(bif c then a else b)/\(bif c then a else b)<=hi:=by cases c<;>assumption
def ajG(op:Int):0<=AL op/\AL op<=12:=by unfold AL;exact ND _ ⟨by decide,by decide⟩ (ND _ ⟨by decide,by decide⟩ (ND _ ⟨by decide,by decide⟩ (ND _ ⟨by decide,by decide⟩ (ND _ ⟨by decide,by decide⟩ (ND _ ⟨by decide,by decide⟩ (ND _ ⟨by decide,by decide⟩ (ND _ ⟨by decide,by decide⟩ ⟨by decide,by decide⟩)))))))
def Xi{k op:Int}{y:aC}{n:Nat}(he:1<=k/\k<=15)(hc:Cnt k op y n):1<=lvl k op/\lvl k op<=15:=by
 obtain⟨h1,h2⟩:=he;have hk:k=1\/k=2\/k=3\/k=4\/k=5\/k=6\/k=7\/k=8\/k=9\/k=10\/k=11\/k=13\/k=14\/k=15\/k=12:=ak;rcases hk with rfl|rfl|rfl|rfl|rfl|rfl|rfl|rfl|rfl|rfl|rfl|rfl|rfl|rfl|rfl
 case inr.inr.inr.inr.inr.inr.inr.inr.inr.inr.inr.inr.inr.inr=>have hb:=(hc.bin rfl).1;have:=ajG op;change 1<=AL op/\AL op<=15;omega
 all_goals simp[lvl]
def iw(s:aC):(mZ s).size=1:=by simp[mZ,Tn.size,sizes]
def aap:Xh.size=1:=by simp[Xh,Tn.size,sizes]
def adR:UG.size=1:=by simp[UG,Tn.size,sizes]
def Yn(d:Tn):(Zm d).size=d.size+1:=by simp[Zm,Tn.size,sizes]
def auM(d:Tn):(arB d).size=d.size+1:=by simp[arB,Tn.size,sizes]
def qj(l:List Tn):(o9 l).size=sizes l+1:=by simp[o9,Tn.size]
def aeS:∀(L:List Tn) (b:Bool),sizes (UZ b L)<=sizes L+2 * L.length
 |[],b=>by rw[UZ];simp[sizes]
 |x::l,b=>by have:=aeS l false;cases b<;>simp only[UZ,aK,bn,kU,sizes,iw,aap,nS]<;>omega
def ajH(L:List Tn):(adP L).size<=sizes L+2 * L.length+3:=by have:=aeS L true;rw[adP,auM,Yn,qj];omega
def ame:∀(L:List Tn) (j:Nat),(zB L j).size<=sizes L+1
 |[],j=>by simp[zB,sizes,iw]
 |x::l,0=>by simp only[zB,List.getElem?_cons_zero,Option.getD_some,sizes];omega
 |x::l,j+1=>by have:=ame l j;simp only[zB,List.getElem?_cons_succ,sizes] at this|-;omega
def atn:∀(L:List Tn),(zB L 0).size+((zB L 1).size+(zB L 2).size)<=sizes L+3
 |[]=>by simp[zB,sizes,iw]
 |[x]=>by simp[zB,sizes,iw]
 |[x,y]=>by simp[zB,sizes,iw];omega
 |x::y::z::l=>by simp[zB,sizes];omega
def Dp{a b:Tn}{N:Nat}(c:Bool)(ha:a.size<=N)(hb:b.size<=N):(bif c then a else b).size<=N:=by cases c<;>assumption
def awl(k op:Int)(n:Nat)(x:aC)(g:Bool)(L:List Tn):(aao k op n x g L).size<=sizes L+2 * L.length+9:=by
 have h1:=ajH L;have h2:=ame L 0;have h3:=atn L;unfold aao;refine Dp _ ?_ (Dp _ ?_ (Dp _ ?_ (Dp _ ?_ (Dp _ ?_ (Dp _ ?_ (Dp _ ?_ (Dp _ ?_ (Dp _ (Dp _ ?_ ?_) (Dp _ ?_ (Dp _ ?_ ?_))))))))))
 all_goals(simp only[iw,qj,auM,Yn,aap,sizes]<;>omega)
def adS(k op:Int)(n:Nat)(p:Ps):∀(ts:List Tn) (j:Nat),(ug k op n p ts j).length=ts.length
 |[],j=>by simp[ug]
 |t::ts,j=>by rw[ug,nS,adS k op n p ts (j+1),nS]
def RD(k op:Int)(n:Nat)(p:Ps)(j:Nat)(u:Tn):Tn:=bif qL k j||fits u.kind u.op (dQ k op n j p) then qM u (dQ k op n j p) else o9 [mZ [40],qM u .top,mZ [41]]
def ajI(a:Tn):(o9 [mZ [40],a,mZ [41]]).size=a.size+3:=by simp only[qj,iw,sizes];omega
def amf{k op:Int}{n:Nat}{p:Ps}{j:Nat}{u:Tn}(h:∀q,(qM u q).size+6<=16 * u.size):(RD k op n p j u).size+3<=16 * u.size:=by
 unfold RD;cases(qL k j||fits u.kind u.op (dQ k op n j p)) with
 |true=>have:=h (dQ k op n j p);rw[aK];omega
 |false=>have:=h .top;rw[bn,ajI];omega
def ajJ{k op:Int}{n:Nat}{p:Ps}:∀{ts:List Tn} {j:Nat},(∀u,u∈ts->∀q,(qM u q).size+6<=16 * u.size)->sizes (ug k op n p ts j)+3 * ts.length<=16 * sizes ts
 |[],j,_=>by rw[ug];simp[sizes]
 |t::ts,j,h=>by
  have h1:=amf (k:=k) (op:=op) (n:=n) (p:=p) (j:=j) (h t zmf);have h2:=ajJ (k:=k) (op:=op) (n:=n) (p:=p) (ts:=ts) (j:=j+1) λu hu=>h u (zmm _ hu)
  unfold RD at h1;rw[ug,sizes,sizes,nS];omega
def Pv(t:Tn):∀q,(qM t q).size+6<=16 * t.size:=by refine Tn.ind (P:=λt=>∀q,(qM t q).size+6<=16 * t.size) ?_ t;intro k op x y ks ih q;have h1:=awl k op ks.length x (amd op (jM k op ks.length q ks 0)) (ug k op ks.length q ks 0);have h2:=ajJ (k:=k) (op:=op) (n:=ks.length) (p:=q) (ts:=ks) (j:=0) ih;rw[adS] at h1;rw[qM,Tn.size];omega
def nZ(t:Tn)(q:Ps):(Dn t q).size+3<=16 * t.size:=by
 have h1:=Pv t q;have h2:=Pv t .top;unfold Dn;cases fits t.kind t.op q with
 |true=>rw[aK];omega
 |false=>rw[bn,ajI];omega
def aeT:∀(L:List Tn) (j:Nat),(Aq L j).size<=sizes L+1
 |[],j=>by simp[Aq,sizes,Tn.size]
 |x::l,0=>by simp[Aq,sizes];omega
 |x::l,j+1=>by have:=aeT l j;simp only[Aq,List.getElem?_cons_succ,sizes] at this|-;omega
def VF(t:Tn):(WA t).size<=16 * t.size:=by
 have h:=nZ t .top;have hp:=t.size_pos;unfold WA MQ;refine Dp _ ?_ ?_
 ·rw[iw];omega
 ·rw[qj];simp only[sizes,iw];omega
def Px(p:Ps)(L:List Tn):(RX p L).size<=16 * sizes L+3:=by
 have h:∀L:List Tn,sizes (L.map λt=>Dn t p)+3 * L.length<=16 * sizes L:=by
  intro L;induction L with
  |nil=>simp[sizes]
  |cons t l ih=>have:=nZ t p;simp only[RQ,sizes,nS];omega
 have h1:=ajH (L.map λt=>Dn t p);have h2:=h L;rw[zaQ] at h1;unfold RX;omega
def aaq:∀L:List Tn,sizes (Ht L)=sizes L+L.length
 |[]=>rfl
 |d::l=>by have:=aaq l;simp only[Ht,sizes,adR,nS];omega
def awm(L:List Tn):(anQ L).size=sizes L+L.length+6:=by have:=aaq L;simp only[anQ,qj,Yn,sizes,iw,adR];omega
def take_size:∀(ks:List Tn) (n:Nat),sizes (ks.take n)<=sizes ks
 |[],n=>by simp[sizes]
 |t::ts,0=>by simp[sizes]
 |t::ts,n+1=>by have:=take_size ts n;simp only[List.take_succ_cons,sizes];omega
def isS(t:Tn):Prop:=20<=t.kind/\t.kind<=34
def acB:∀{ks:List Tn},(∀u,u∈ks->(iR u).size+2<=40 * u.size)->sizes (oU ks)+2 * ks.length<=40 * sizes ks
 |[],_=>by simp[oU,sizes]
 |t::ts,h=>by
  have h1:=h t zmf;have h2:=acB (ks:=ts) λu hu=>h u (zmm _ hu)
  rw[oU,sizes,sizes,nS];omega
def RF:∀ks:List Tn,(oU ks).length=ks.length
 |[]=>rfl
 |t::ts=>by rw[oU,nS,RF ts,nS]
def awn(op:Int)(y:aC)(ks:List Tn):(anR op y ks).size<=32 * sizes ks+27:=by
 have h1:=Px ⟨1,false,false,true,false⟩ (bif y==[] then ks else ks.take (ks.length - 1));have h2:sizes (bif y==[] then ks else ks.take (ks.length - 1))<=sizes ks:=by
  cases(y==[]) with
  |true=>exact zaP _
  |false=>exact take_size _ _
 have h3:=nZ (Aq ks (ks.length - 1)) ⟨9,false,false,false,false⟩;have h4:=aeT ks (ks.length - 1);unfold anR;generalize (bif y==[] then ks else ks.take (ks.length - 1))=args at *;simp only[qj,kU,sizes,iw];cases Nat.blt 0 args.length<;>cases(y==[])<;>simp only[aK,bn,sizes,iw]<;>omega
def ajK(w:aC)(ks:List Tn):(abz w ks).size<=16 * sizes ks+2:=by
 cases ks with
 |nil=>simp[abz,iw]
 |cons t l=>have:=VF t;simp only[abz,qj,sizes,iw];omega
def anS{α:Type}{l:List α}(h:l.length=4):∃a b c d,l=[a,b,c,d]:=by
 match l,h with
 |[a,b,c,d],_=>exact⟨a,b,c,d,rfl⟩
def anT{α:Type}{l:List α}(h:l.length=2):∃a b,l=[a,b]:=by
 match l,h with
 |[a,b],_=>exact⟨a,b,rfl⟩
def awo{α:Type}{l:List α}(h:l.length=3):∃a b c,l=[a,b,c]:=by
 match l,h with
 |[a,b,c],_=>exact⟨a,b,c,rfl⟩
def auN{k op:Int}{x y:aC}{ks:List Tn}(h:I8 (Tn.mk k op x y ks)){i:Nat}{t:Tn}(e:ks[i]? =some t)(hc:cls k op ks.length i=1\/cls k op ks.length i=2):isS t/\I8 t:=by obtain⟨h1,h2⟩:=Pq h e;refine⟨?_,h2⟩;unfold isS;rcases hc with hc|hc<;>rw[hc] at h1<;>simp only[Eh] at h1<;>omega
def Y2(t:Tn):I8 t->isS t->(iR t).size+2<=40 * t.size:=by
 refine Tn.ind (P:=λt=>I8 t->isS t->(iR t).size+2<=40 * t.size) ?_ t;intro k op x y ks ih hok hs;have hc:=SX hok;simp only[isS,Tn.kind] at hs;have ihk:∀{i:Nat} {u:Tn},ks[i]? =some u->(cls k op ks.length i=1\/cls k op ks.length i=2)->(iR u).size+2<=40 * u.size:=by intro i u e hcl;obtain⟨h1,h2⟩:=auN hok e hcl;exact ih u (En e) h2 h1
 rw[iR,Tn.size];have hk:k=20\/k=21\/k=22\/k=23\/k=24\/k=25\/k=26\/k=27\/k=28\/k=29\/k=30\/k=31\/k=32\/k=33\/k=34:=ak;rcases hk with rfl|rfl|rfl|rfl|rfl|rfl|rfl|rfl|rfl|rfl|rfl|rfl|rfl|rfl|rfl<;>simp only[agO,Int.reduceBEq,aK,bn]
 ·have h1:=nZ (Aq ks 0) .top;have h2:=aeT ks 0;unfold MQ;omega
 ·have:=awn op y ks;omega
 ·rw[iw];omega
 ·have:=ajK [101,120,105,116] ks;omega
 ·have:=ajK [114,101,116,117,114,110] ks;omega
 ·rw[iw];omega
 ·rw[iw];omega
 ·cases ks with
  |nil=>rw[iw];omega
  |cons u l=>have:=Px .top (u::l);simp only[qj,iw,sizes] at this|-;omega
 ·rcases hc.cnd rfl with h2|h3
  ·obtain⟨u,v,rfl⟩:=anT h2;have a0:=nZ u .top;have a1:=ihk (i:=1) (u:=v) rfl (by simp[cls]);simp[zB,Aq,oU,MQ,qj,iw,sizes,show Nat.blt 2 2=false from rfl] at *;omega
  ·obtain⟨u,v,z,rfl⟩:=awo h3;have a0:=nZ u .top;have a1:=ihk (i:=1) (u:=v) rfl (by simp[cls]);have a2:=ihk (i:=2) (u:=z) rfl (by simp[cls]);simp[zB,Aq,oU,MQ,qj,iw,sizes,show Nat.blt 2 3=true from rfl] at *;omega
 ·obtain⟨u,v,rfl⟩:=anT (hc.two ak);have a0:=nZ u .top;have a1:=ihk (i:=1) (u:=v) rfl (by simp[cls]);simp[zB,Aq,oU,MQ,qj,iw,sizes] at *;omega
 ·obtain⟨u,v,rfl⟩:=anT (hc.two ak);have a0:=nZ v .top;have a1:=ihk (i:=0) (u:=u) rfl (by simp[cls]);simp[zB,Aq,oU,MQ,qj,iw,sizes] at *;omega
 ·obtain⟨u,v,z,q,rfl⟩:=anS (hc.four rfl);have a0:=nZ u ⟨1,false,true,false,false⟩;have a1:=VF v;have a2:=VF z;have a3:=ihk (i:=3) (u:=q) rfl (by simp[cls]);have a4:(bif u.kind==16 then mZ [] else(Dn u) ⟨1,false,true,false,false⟩).size<=16 * u.size:=by
   refine Dp _ ?_ ?_
   ·have:=u.size_pos;rw[iw];omega
   ·omega
  simp[zB,Aq,oU,qj,iw,sizes] at *;omega
 ·obtain⟨u,rfl⟩:=zlo.1 (hc.one ak);have a1:=ihk (i:=0) (u:=u) rfl (by simp[cls]);simp[zB,Aq,oU,qj,iw,sizes] at *;omega
 ·have h1:=awm (oU ks);have h2:=acB (ks:=ks) λu hu=>by obtain⟨i,hi⟩:=List.mem_iff_getElem?.1 hu;exact ihk hi (by simp[cls])
  rw[RF] at h1;omega
 ·rw[iw];omega
def zC{op:Int}(h:ajn op=true):AL op≠0/\op≠61:=by
 have hc:op=60\/op=57\/op=58\/op=59\/op=55\/op=56\/op=99\/op=63\/op=48\/op=47\/op=50\/op=62\/op=49\/op=67\/op=46\/op=45\/op=44:=by simp only[ajn,Bool.or_eq_true,beq_iff_eq] at h;omega
 rcases hc with rfl|rfl|rfl|rfl|rfl|rfl|rfl|rfl|rfl|rfl|rfl|rfl|rfl|rfl|rfl|rfl|rfl<;>decide
def FN{op:Int}(h:ajo op=true):op=54\/(38<=op/\op<=43):=by simp only[ajo,Bool.or_eq_true,MS,beq_iff_eq,decide_eq_true_eq] at h;omega
def aeU(k:Int)(op:Int)(t o:aC)(kids:au)(h:M.aI k op t o kids=some true)(hk:k=1\/k=5\/k=7\/k=13\/k=27\/k=44):Cnt k op o kids.length:=by
 rcases hk with rfl|rfl|rfl|rfl|rfl|rfl
 all_goals
  simp only[M.aI,M.bf,M.dI,M.bZ,M.fE,M.dW,M.dJ,M.dh,gV,dL,Dk,qh,Int.reduceBEq,reduceLE,reduceLT,reduceSub,reduceAdd,dH,ah] at h;revert h;cases hn0:M.jW t with
  |none=>cases op==0<;>simp
  |some b0=>_
  all_goals try simp only[Int.reduceBEq,reduceLE,reduceLT,reduceSub,reduceAdd,dH,ah]
  all_goals(cases ho0:(op==0)<;>cases ht:(t==[])<;>cases hy:(o==[])<;>cases b0<;>simp_all<;>intros<;>constructor<;>intros<;>first|omega|exact zC ‹_›|exact FN ‹_›|(rw[aB (n:=op+1) ak ak] at *;omega)|(simp_all<;>omega))
def aX0(op:Int)(t o:aC)(kids:au)(h:M.aI 2 op t o kids=some true):Cnt 2 op o kids.length:=by
 simp only[M.aI,M.bf,M.dI,M.bZ,M.fE,M.dW,M.dJ,M.dh,gV,dL,Dk,qh,Int.reduceBEq,reduceLE,reduceLT,reduceSub,reduceAdd,dH,ah] at h;revert h;cases hn0:M.nI 3 t 0 with
 |none=>cases op==0<;>simp
 |some b0=>_
 all_goals try simp only[Int.reduceBEq,reduceLE,reduceLT,reduceSub,reduceAdd,dH,ah]
 all_goals(cases ho0:(op==0)<;>cases ht:(t==[])<;>cases hy:(o==[])<;>cases b0<;>simp_all<;>intros<;>constructor<;>intros<;>first|omega|exact zC ‹_›|exact FN ‹_›|(rw[aB (n:=op+1) ak ak] at *;omega)|(simp_all<;>omega))
def aX1(op:Int)(t o:aC)(kids:au)(h:M.aI 3 op t o kids=some true):Cnt 3 op o kids.length:=by
 simp only[M.aI,M.bf,M.dI,M.bZ,M.fE,M.dW,M.dJ,M.dh,gV,dL,Dk,qh,Int.reduceBEq,reduceLE,reduceLT,reduceSub,reduceAdd,dH,ah] at h;revert h;cases hn0:M.nI 4 t 0 with
 |none=>cases op==0<;>simp
 |some b0=>_
 all_goals try simp only[Int.reduceBEq,reduceLE,reduceLT,reduceSub,reduceAdd,dH,ah]
 all_goals(cases ho0:(op==0)<;>cases ht:(t==[])<;>cases hy:(o==[])<;>cases b0<;>simp_all<;>intros<;>constructor<;>intros<;>first|omega|exact zC ‹_›|exact FN ‹_›|(rw[aB (n:=op+1) ak ak] at *;omega)|(simp_all<;>omega))
def aX2(op:Int)(t o:aC)(kids:au)(h:M.aI 4 op t o kids=some true):Cnt 4 op o kids.length:=by
 simp only[M.aI,M.bf,M.dI,M.bZ,M.fE,M.dW,M.dJ,M.dh,gV,dL,Dk,qh,Int.reduceBEq,reduceLE,reduceLT,reduceSub,reduceAdd,dH,ah] at h;revert h;cases hn0:M.nI 5 t 0 with
 |none=>cases op==0<;>simp
 |some b0=>_
 all_goals try simp only[Int.reduceBEq,reduceLE,reduceLT,reduceSub,reduceAdd,dH,ah]
 all_goals(cases ho0:(op==0)<;>cases ht:(t==[])<;>cases hy:(o==[])<;>cases b0<;>simp_all<;>intros<;>constructor<;>intros<;>first|omega|exact zC ‹_›|exact FN ‹_›|(rw[aB (n:=op+1) ak ak] at *;omega)|(simp_all<;>omega))
def KE(k:Int)(op:Int)(t o:aC)(kids:au)(h:M.aI k op t o kids=some true)(hk:k=6\/k=14\/k=16\/k=20\/k=22\/k=23\/k=24\/k=25\/k=26\/k=28\/k=29\/k=30\/k=31\/k=33\/k=40\/k=41\/k=45):Cnt k op o kids.length:=by
 rcases hk with rfl|rfl|rfl|rfl|rfl|rfl|rfl|rfl|rfl|rfl|rfl|rfl|rfl|rfl|rfl|rfl|rfl
 all_goals
  simp only[M.aI,M.bf,M.dI,M.bZ,M.fE,M.dW,M.dJ,M.dh,gV,dL,Dk,qh,Int.reduceBEq,reduceLE,reduceLT,reduceSub,reduceAdd,dH,ah] at h;revert h
  all_goals try simp only[Int.reduceBEq,reduceLE,reduceLT,reduceSub,reduceAdd,dH,ah]
  all_goals(cases ho0:(op==0)<;>cases ht:(t==[])<;>cases hy:(o==[])<;>simp_all<;>intros<;>constructor<;>intros<;>first|omega|exact zC ‹_›|exact FN ‹_›|(rw[aB (n:=op+1) ak ak] at *;omega)|(simp_all<;>omega))
def aX3(op:Int)(t o:aC)(kids:au)(h:M.aI 8 op t o kids=some true):Cnt 8 op o kids.length:=by
 simp only[M.aI,M.bf,M.dI,M.bZ,M.fE,M.dW,M.dJ,M.dh,gV,dL,Dk,qh,Int.reduceBEq,reduceLE,reduceLT,reduceSub,reduceAdd,dH,ah] at h;revert h;cases hn0:M.mP t with
 |none=>cases op==0<;>simp
 |some b0=>_
 all_goals try simp only[Int.reduceBEq,reduceLE,reduceLT,reduceSub,reduceAdd,dH,ah]
 all_goals(cases ho0:(op==0)<;>cases ht:(t==[])<;>cases hy:(o==[])<;>cases b0<;>simp_all<;>intros<;>constructor<;>intros<;>first|omega|exact zC ‹_›|exact FN ‹_›|(rw[aB (n:=op+1) ak ak] at *;omega)|(simp_all<;>omega))
def az4(k:Int)(op:Int)(t o:aC)(kids:au)(h:M.aI k op t o kids=some true)(hk:k=9\/k=10):Cnt k op o kids.length:=by
 rcases hk with rfl|rfl
 all_goals
  simp only[M.aI,M.bf,M.dI,M.bZ,M.fE,M.dW,M.dJ,M.dh,gV,dL,Dk,qh,Int.reduceBEq,reduceLE,reduceLT,reduceSub,reduceAdd,dH,ah] at h;revert h
  all_goals try simp only[Int.reduceBEq,reduceLE,reduceLT,reduceSub,reduceAdd,dH,ah]
  all_goals(cases ho0:(op==51)<;>cases ho1:(op==52)<;>cases ht:(t==[])<;>cases hy:(o==[])<;>simp_all<;>intros<;>constructor<;>intros<;>first|omega|exact zC ‹_›|exact FN ‹_›|(rw[aB (n:=op+1) ak ak] at *;omega)|(simp_all<;>omega))
def aIv(op:Int)(t o:aC)(kids:au)(h:M.aI 11 op t o kids=some true):Cnt 11 op o kids.length:=by
 simp only[M.aI,M.bf,M.dI,M.bZ,M.fE,M.dW,M.dJ,M.dh,gV,dL,Dk,qh,Int.reduceBEq,reduceLE,reduceLT,reduceSub,reduceAdd,dH,ah] at h;revert h
 all_goals try simp only[Int.reduceBEq,reduceLE,reduceLT,reduceSub,reduceAdd,dH,ah]
 all_goals(cases ho0:(op==55)<;>cases ho1:(op==56)<;>cases ho2:(op==61)<;>cases ht:(t==[])<;>cases hy:(o==[])<;>simp_all<;>intros<;>constructor<;>intros<;>first|omega|exact zC ‹_›|exact FN ‹_›|(rw[aB (n:=op+1) ak ak] at *;omega)|(simp_all<;>omega))
def aIw(op:Int)(t o:aC)(kids:au)(h:M.aI 12 op t o kids=some true):Cnt 12 op o kids.length:=by
 simp only[M.aI,M.bf,M.dI,M.bZ,M.fE,M.dW,M.dJ,M.dh,gV,dL,Dk,qh,Int.reduceBEq,reduceLE,reduceLT,reduceSub,reduceAdd,dH,ah] at h;revert h
 all_goals try simp only[Int.reduceBEq,reduceLE,reduceLT,reduceSub,reduceAdd,dH,ah]
 all_goals(cases ho0:(ajn op)<;>cases ht:(t==[])<;>cases hy:(o==[])<;>simp_all<;>intros<;>constructor<;>intros<;>first|omega|exact zC ‹_›|exact FN ‹_›|(rw[aB (n:=op+1) ak ak] at *;omega)|(simp_all<;>omega))
def aIx(op:Int)(t o:aC)(kids:au)(h:M.aI 15 op t o kids=some true):Cnt 15 op o kids.length:=by
 simp only[M.aI,M.bf,M.dI,M.bZ,M.fE,M.dW,M.dJ,M.dh,gV,dL,Dk,qh,Int.reduceBEq,reduceLE,reduceLT,reduceSub,reduceAdd,dH,ah] at h;revert h
 all_goals try simp only[Int.reduceBEq,reduceLE,reduceLT,reduceSub,reduceAdd,dH,ah]
 all_goals(cases ho0:(ajo op)<;>cases ht:(t==[])<;>cases hy:(o==[])<;>simp_all<;>intros<;>constructor<;>intros<;>first|omega|exact zC ‹_›|exact FN ‹_›|(rw[aB (n:=op+1) ak ak] at *;omega)|(simp_all<;>omega))
def aIy(op:Int)(t o:aC)(kids:au)(h:M.aI 21 op t o kids=some true):Cnt 21 op o kids.length:=by
 simp only[M.aI,M.bf,M.dI,M.bZ,M.fE,M.dW,M.dJ,M.dh,gV,dL,Dk,qh,Int.reduceBEq,reduceLE,reduceLT,reduceSub,reduceAdd,dH,ah] at h;revert h
 all_goals try simp only[Int.reduceBEq,reduceLE,reduceLT,reduceSub,reduceAdd,dH,ah]
 all_goals(cases ho0:(decide (0<=op))<;>cases ho1:(decide (op<=1))<;>cases ht:(t==[])<;>cases hy:(o==[])<;>cases h1:(o==[62])<;>cases h2:(o==[62,62])<;>cases h3:(o==[124])<;>simp_all<;>intros<;>constructor<;>intros<;>first|omega|exact zC ‹_›|exact FN ‹_›|(rw[aB (n:=op+1) ak ak] at *;omega)|(simp_all<;>omega))
def aIz(op:Int)(t o:aC)(kids:au)(h:M.aI 32 op t o kids=some true):Cnt 32 op o kids.length:=by
 simp only[M.aI,M.bf,M.dI,M.bZ,M.fE,M.dW,M.dJ,M.dh,gV,dL,Dk,qh,Int.reduceBEq,reduceLE,reduceLT,reduceSub,reduceAdd,dH,ah] at h;revert h;cases hn0:M.jW t with
 |none=>cases op==0<;>simp
 |some b0=>_
 cases hn1:M.jW o with
 |none=>cases b0<;>cases op==0<;>simp
 |some b1=>_
 all_goals try simp only[Int.reduceBEq,reduceLE,reduceLT,reduceSub,reduceAdd,dH,ah]
 all_goals(cases ho0:(op==0)<;>cases ht:(t==[])<;>cases hy:(o==[])<;>cases b0<;>cases b1<;>simp_all<;>intros<;>constructor<;>intros<;>first|omega|exact zC ‹_›|exact FN ‹_›|(rw[aB (n:=op+1) ak ak] at *;omega)|(simp_all<;>omega))
def aIA(op:Int)(t o:aC)(kids:au)(h:M.aI 34 op t o kids=some true):Cnt 34 op o kids.length:=by
 simp only[M.aI,M.bf,M.dI,M.bZ,M.fE,M.dW,M.dJ,M.dh,gV,dL,Dk,qh,Int.reduceBEq,reduceLE,reduceLT,reduceSub,reduceAdd,dH,ah] at h;revert h;cases hn0:M.nI 2 t 0 with
 |none=>cases op==0<;>simp
 |some b0=>_
 all_goals try simp only[Int.reduceBEq,reduceLE,reduceLT,reduceSub,reduceAdd,dH,ah]
 all_goals(cases ho0:(op==0)<;>cases ht:(t==[])<;>cases hy:(o==[])<;>cases b0<;>simp_all<;>intros<;>constructor<;>intros<;>first|omega|exact zC ‹_›|exact FN ‹_›|(rw[aB (n:=op+1) ak ak] at *;omega)|(simp_all<;>omega))
def aIB(op:Int)(t o:aC)(kids:au)(h:M.aI 42 op t o kids=some true):Cnt 42 op o kids.length:=by have hc:=anE h;have hr:=hc.rule rfl;constructor<;>intros<;>omega
def aIC(op:Int)(t o:aC)(kids:au)(h:M.aI 43 op t o kids=some true):Cnt 43 op o kids.length:=by have hc:=anE h;have hr:=hc.range rfl;constructor<;>intros<;>omega
def Y3(k:Int)(op:Int)(t o:aC)(kids:au)(j:Nat)(d:Int)(hj:j<kids.length)(hl:kids.length<=400)(hc:Cnt k op o kids.length)(h:M.aQ k op t o kids (j:Int) d=some true)(hk:k=1\/k=2\/k=3\/k=4\/k=16\/k=22\/k=25\/k=26\/k=34):Eh (cls k op kids.length j) d:=by
 rcases hk with rfl|rfl|rfl|rfl|rfl|rfl|rfl|rfl|rfl
 all_goals
  have hw:i64.wrap ((kids.length:Int) - 1)=(kids.length:Int) - 1:=aB ak ak;simp only[M.aQ,M.aP,M.aJ,bU,bV,bW,aX,gV,dL,Int.reduceBEq,reduceLE,reduceLT,reduceSub,reduceAdd,dH,ah] at h
  try rw[hw] at h
  have:=hc.non ak;omega
def I5(k:Int)(op:Int)(t o:aC)(kids:au)(j:Nat)(d:Int)(hj:j<kids.length)(hl:kids.length<=400)(hc:Cnt k op o kids.length)(h:M.aQ k op t o kids (j:Int) d=some true)(hk:k=5\/k=6\/k=7\/k=8\/k=11\/k=12\/k=13\/k=14\/k=20\/k=21\/k=23\/k=24\/k=27\/k=32\/k=33\/k=40\/k=41\/k=45):Eh (cls k op kids.length j) d:=by
 rcases hk with rfl|rfl|rfl|rfl|rfl|rfl|rfl|rfl|rfl|rfl|rfl|rfl|rfl|rfl|rfl|rfl|rfl|rfl
 all_goals
  have hw:i64.wrap ((kids.length:Int) - 1)=(kids.length:Int) - 1:=aB ak ak;simp only[M.aQ,M.aP,M.aJ,bU,bV,bW,aX,gV,dL,Int.reduceBEq,reduceLE,reduceLT,reduceSub,reduceAdd,dH,ah] at h
  try rw[hw] at h
  simp[cls,Eh,uX,Yf,adI,isIt,Bool.cond_eq_ite] at h|-
  all_goals first|omega|((repeat' split at h)<;>simp_all<;>omega)
def az5(k:Int)(op:Int)(t o:aC)(kids:au)(j:Nat)(d:Int)(hj:j<kids.length)(hl:kids.length<=400)(hc:Cnt k op o kids.length)(h:M.aQ k op t o kids (j:Int) d=some true)(hk:k=9\/k=10):Eh (cls k op kids.length j) d:=by
 rcases hk with rfl|rfl
 all_goals
  have hw:i64.wrap ((kids.length:Int) - 1)=(kids.length:Int) - 1:=aB ak ak;simp only[M.aQ,M.aP,M.aJ,bU,bV,bW,aX,gV,dL,Int.reduceBEq,reduceLE,reduceLT,reduceSub,reduceAdd,dH,ah] at h
  try rw[hw] at h
  have hn:=hc.one ak;obtain rfl:j=0:=ak
  all_goals(simp[cls,Eh,uX,Yf,adI,isIt,Bool.cond_eq_ite] at h|-<;>first|omega|(repeat' split at h)<;>simp_all<;>omega)
def ato(k:Int)(op:Int)(t o:aC)(kids:au)(j:Nat)(d:Int)(hj:j<kids.length)(hl:kids.length<=400)(hc:Cnt k op o kids.length)(h:M.aQ k op t o kids (j:Int) d=some true)(hk:k=15\/k=29\/k=30):Eh (cls k op kids.length j) d:=by
 rcases hk with rfl|rfl|rfl
 all_goals
  have hw:i64.wrap ((kids.length:Int) - 1)=(kids.length:Int) - 1:=aB ak ak;simp only[M.aQ,M.aP,M.aJ,bU,bV,bW,aX,gV,dL,Int.reduceBEq,reduceLE,reduceLT,reduceSub,reduceAdd,dH,ah] at h
  try rw[hw] at h
  have hn:=hc.two ak;obtain rfl|rfl:j=0\/j=1:=ak
  all_goals(simp[cls,Eh,uX,Yf,adI,isIt,Bool.cond_eq_ite] at h|-<;>first|omega|(repeat' split at h)<;>simp_all<;>omega)
def aID(op:Int)(t o:aC)(kids:au)(j:Nat)(d:Int)(hj:j<kids.length)(hl:kids.length<=400)(hc:Cnt 28 op o kids.length)(h:M.aQ 28 op t o kids (j:Int) d=some true):Eh (cls 28 op kids.length j) d:=by
 have hw:i64.wrap ((kids.length:Int) - 1)=(kids.length:Int) - 1:=aB ak ak;simp only[M.aQ,M.aP,M.aJ,bU,bV,bW,aX,gV,dL,Int.reduceBEq,reduceLE,reduceLT,reduceSub,reduceAdd,dH,ah] at h
 try rw[hw] at h
 have hn:=hc.cnd ak;obtain rfl|rfl|rfl:j=0\/j=1\/j=2:=ak
 all_goals(simp[cls,Eh,uX,Yf,adI,isIt,Bool.cond_eq_ite] at h|-<;>first|omega|(repeat' split at h)<;>simp_all<;>omega)
def aIE(op:Int)(t o:aC)(kids:au)(j:Nat)(d:Int)(hj:j<kids.length)(hl:kids.length<=400)(hc:Cnt 31 op o kids.length)(h:M.aQ 31 op t o kids (j:Int) d=some true):Eh (cls 31 op kids.length j) d:=by
 have hw:i64.wrap ((kids.length:Int) - 1)=(kids.length:Int) - 1:=aB ak ak;simp only[M.aQ,M.aP,M.aJ,bU,bV,bW,aX,gV,dL,Int.reduceBEq,reduceLE,reduceLT,reduceSub,reduceAdd,dH,ah] at h
 try rw[hw] at h
 have hn:=hc.four ak;obtain rfl|rfl|rfl|rfl:j=0\/j=1\/j=2\/j=3:=ak
 all_goals(simp[cls,Eh,uX,Yf,adI,isIt,Bool.cond_eq_ite] at h|-<;>first|omega|(repeat' split at h)<;>simp_all<;>omega)
def aIF(op:Int)(t o:aC)(kids:au)(j:Nat)(d:Int)(hj:j<kids.length)(hl:kids.length<=400)(hc:Cnt 42 op o kids.length)(h:M.aQ 42 op t o kids (j:Int) d=some true):Eh (cls 42 op kids.length j) d:=by
 have hw:i64.wrap ((kids.length:Int) - 1)=(kids.length:Int) - 1:=aB ak ak;simp only[M.aQ,M.aP,M.aJ,bU,bV,bW,aX,gV,dL,Int.reduceBEq,reduceLE,reduceLT,reduceSub,reduceAdd,dH,ah] at h
 try rw[hw] at h
 rcases hc.rule rfl with⟨rfl,h1⟩|⟨rfl,h1⟩|⟨rfl,h1⟩
 ·obtain rfl:j=0:=ak
  all_goals(simp[cls,Eh,uX,Yf,adI,isIt,Bool.cond_eq_ite,h1] at h|-<;>first|omega|(repeat' split at h)<;>simp_all<;>omega)
 ·obtain rfl:j=0:=ak
  all_goals(simp[cls,Eh,uX,Yf,adI,isIt,Bool.cond_eq_ite,h1] at h|-<;>first|omega|(repeat' split at h)<;>simp_all<;>omega)
 ·obtain rfl|rfl:j=0\/j=1:=ak
  all_goals(simp[cls,Eh,uX,Yf,adI,isIt,Bool.cond_eq_ite,h1] at h|-<;>first|omega|(repeat' split at h)<;>simp_all<;>omega)
def aIG(op:Int)(t o:aC)(kids:au)(j:Nat)(d:Int)(hj:j<kids.length)(hl:kids.length<=400)(hc:Cnt 43 op o kids.length)(h:M.aQ 43 op t o kids (j:Int) d=some true):Eh (cls 43 op kids.length j) d:=by
 have hw:i64.wrap ((kids.length:Int) - 1)=(kids.length:Int) - 1:=aB ak ak;simp only[M.aQ,M.aP,M.aJ,bU,bV,bW,aX,gV,dL,Int.reduceBEq,reduceLE,reduceLT,reduceSub,reduceAdd,dH,ah] at h
 try rw[hw] at h
 rcases hc.range rfl with⟨rfl,h1⟩|⟨rfl,h1⟩
 ·obtain rfl|rfl:j=0\/j=1:=ak
  all_goals(simp[cls,Eh,uX,Yf,adI,isIt,Bool.cond_eq_ite,h1] at h|-<;>first|omega|(repeat' split at h)<;>simp_all<;>omega)
 ·obtain rfl|rfl|rfl:j=0\/j=1\/j=2:=ak
  all_goals(simp[cls,Eh,uX,Yf,adI,isIt,Bool.cond_eq_ite,h1] at h|-<;>first|omega|(repeat' split at h)<;>simp_all<;>omega)
def aIH(op:Int)(t o:aC)(kids:au)(j:Nat)(d:Int)(hj:j<kids.length)(hl:kids.length<=400)(hc:Cnt 44 op o kids.length)(h:M.aQ 44 op t o kids (j:Int) d=some true):Eh (cls 44 op kids.length j) d:=by
 have hw:i64.wrap ((kids.length:Int) - 1)=(kids.length:Int) - 1:=aB ak ak;simp only[M.aQ,M.aP,M.aJ,bU,bV,bW,aX,gV,dL,Int.reduceBEq,reduceLE,reduceLT,reduceSub,reduceAdd,dH,ah] at h
 try rw[hw] at h
 by_cases h1:j+1=kids.length
 ·have e:((j:Int)==(kids.length:Int) - 1)=true:=by rw[beq_iff_eq];omega
  rw[e] at h;simp[cls,Eh,h1,Bool.cond_eq_ite] at h|-
  first|omega|skip
 ·have e:((j:Int)==(kids.length:Int) - 1)=false:=by rw[KL];omega
  rw[e] at h;simp[cls,Eh,h1,Bool.cond_eq_ite] at h|-
  first|omega|skip
def arC{k op:Int}{t o:aC}{kids:au}(h:M.aI k op t o kids=some true):aeR k:=by
 by_cases hk:aeR k
 ·exact hk
 ·exfalso;have e1:(decide (k>=1) && decide (k<=16))=false:=by
   cases hq:(decide (k>=1) && decide (k<=16)) with
   |false=>rfl
   |true=>rw[MS,decide_eq_true_eq,decide_eq_true_eq] at hq;exact absurd (Or.inl hq) hk
  have e2:(decide (k>=20) && decide (k<=34))=false:=by
   cases hq:(decide (k>=20) && decide (k<=34)) with
   |false=>rfl
   |true=>rw[MS,decide_eq_true_eq,decide_eq_true_eq] at hq;exact absurd (Or.inr (Or.inl hq)) hk
  have e3:(decide (k>=40) && decide (k<=45))=false:=by
   cases hq:(decide (k>=40) && decide (k<=45)) with
   |false=>rfl
   |true=>rw[MS,decide_eq_true_eq,decide_eq_true_eq] at hq;exact absurd (Or.inr (Or.inr hq)) hk
  simp only[M.aI,M.bf,gV,e1,e2,e3,ah,bn] at h;cases hm:M.dI k op t o kids with
  |none=>rw[hm] at h;cases h
  |some r=>rw[hm,ah] at h;cases h
def aII{k op:Int}{t o:aC}{kids:au}(h:M.aI k op t o kids=some true):Cnt k op o kids.length:=by
 have hk:k=1\/k=2\/k=3\/k=4\/k=5\/k=6\/k=7\/k=8\/k=9\/k=10\/k=11\/k=12\/k=13\/k=14\/k=15\/k=16\/k=20\/k=21\/k=22\/k=23\/k=24\/k=25\/k=26\/k=27\/k=28\/k=29\/k=30\/k=31\/k=32\/k=33\/k=34\/k=40\/k=41\/k=42\/k=43\/k=44\/k=45:=by have:=arC h;unfold aeR at this;omega
 rcases hk with rfl|rfl|rfl|rfl|rfl|rfl|rfl|rfl|rfl|rfl|rfl|rfl|rfl|rfl|rfl|rfl|rfl|rfl|rfl|rfl|rfl|rfl|rfl|rfl|rfl|rfl|rfl|rfl|rfl|rfl|rfl|rfl|rfl|rfl|rfl|rfl|rfl
 ·exact aeU _ _ _ _ _ h ak
 ·exact aX0 _ _ _ _ h
 ·exact aX1 _ _ _ _ h
 ·exact aX2 _ _ _ _ h
 ·exact aeU _ _ _ _ _ h ak
 ·exact KE _ _ _ _ _ h ak
 ·exact aeU _ _ _ _ _ h ak
 ·exact aX3 _ _ _ _ h
 ·exact az4 _ _ _ _ _ h ak
 ·exact az4 _ _ _ _ _ h ak
 ·exact aIv _ _ _ _ h
 ·exact aIw _ _ _ _ h
 ·exact aeU _ _ _ _ _ h ak
 ·exact KE _ _ _ _ _ h ak
 ·exact aIx _ _ _ _ h
 ·exact KE _ _ _ _ _ h ak
 ·exact KE _ _ _ _ _ h ak
 ·exact aIy _ _ _ _ h
 ·exact KE _ _ _ _ _ h ak
 ·exact KE _ _ _ _ _ h ak
 ·exact KE _ _ _ _ _ h ak
 ·exact KE _ _ _ _ _ h ak
 ·exact KE _ _ _ _ _ h ak
 ·exact aeU _ _ _ _ _ h ak
 ·exact KE _ _ _ _ _ h ak
 ·exact KE _ _ _ _ _ h ak
 ·exact KE _ _ _ _ _ h ak
 ·exact KE _ _ _ _ _ h ak
 ·exact aIz _ _ _ _ h
 ·exact KE _ _ _ _ _ h ak
 ·exact aIA _ _ _ _ h
 ·exact KE _ _ _ _ _ h ak
 ·exact KE _ _ _ _ _ h ak
 ·exact aIB _ _ _ _ h
 ·exact aIC _ _ _ _ h
 ·exact aeU _ _ _ _ _ h ak
 ·exact KE _ _ _ _ _ h ak
def aIJ{k op:Int}{t o:aC}{kids:au}{j:Nat}{d:Int}(hk:aeR k)(hj:j<kids.length)(hl:kids.length<=400)(hc:Cnt k op o kids.length)(h:M.aQ k op t o kids (j:Int) d=some true):Eh (cls k op kids.length j) d:=by
 have hk:k=1\/k=2\/k=3\/k=4\/k=5\/k=6\/k=7\/k=8\/k=9\/k=10\/k=11\/k=12\/k=13\/k=14\/k=15\/k=16\/k=20\/k=21\/k=22\/k=23\/k=24\/k=25\/k=26\/k=27\/k=28\/k=29\/k=30\/k=31\/k=32\/k=33\/k=34\/k=40\/k=41\/k=42\/k=43\/k=44\/k=45:=by unfold aeR at hk;omega
 rcases hk with rfl|rfl|rfl|rfl|rfl|rfl|rfl|rfl|rfl|rfl|rfl|rfl|rfl|rfl|rfl|rfl|rfl|rfl|rfl|rfl|rfl|rfl|rfl|rfl|rfl|rfl|rfl|rfl|rfl|rfl|rfl|rfl|rfl|rfl|rfl|rfl|rfl
 ·exact Y3 _ _ _ _ _ _ _ hj hl hc h ak
 ·exact Y3 _ _ _ _ _ _ _ hj hl hc h ak
 ·exact Y3 _ _ _ _ _ _ _ hj hl hc h ak
 ·exact Y3 _ _ _ _ _ _ _ hj hl hc h ak
 ·exact I5 _ _ _ _ _ _ _ hj hl hc h ak
 ·exact I5 _ _ _ _ _ _ _ hj hl hc h ak
 ·exact I5 _ _ _ _ _ _ _ hj hl hc h ak
 ·exact I5 _ _ _ _ _ _ _ hj hl hc h ak
 ·exact az5 _ _ _ _ _ _ _ hj hl hc h ak
 ·exact az5 _ _ _ _ _ _ _ hj hl hc h ak
 ·exact I5 _ _ _ _ _ _ _ hj hl hc h ak
 ·exact I5 _ _ _ _ _ _ _ hj hl hc h ak
 ·exact I5 _ _ _ _ _ _ _ hj hl hc h ak
 ·exact I5 _ _ _ _ _ _ _ hj hl hc h ak
 ·exact ato _ _ _ _ _ _ _ hj hl hc h ak
 ·exact Y3 _ _ _ _ _ _ _ hj hl hc h ak
 ·exact I5 _ _ _ _ _ _ _ hj hl hc h ak
 ·exact I5 _ _ _ _ _ _ _ hj hl hc h ak
 ·exact Y3 _ _ _ _ _ _ _ hj hl hc h ak
 ·exact I5 _ _ _ _ _ _ _ hj hl hc h ak
 ·exact I5 _ _ _ _ _ _ _ hj hl hc h ak
 ·exact Y3 _ _ _ _ _ _ _ hj hl hc h ak
 ·exact Y3 _ _ _ _ _ _ _ hj hl hc h ak
 ·exact I5 _ _ _ _ _ _ _ hj hl hc h ak
 ·exact aID _ _ _ _ _ _ hj hl hc h
 ·exact ato _ _ _ _ _ _ _ hj hl hc h ak
 ·exact ato _ _ _ _ _ _ _ hj hl hc h ak
 ·exact aIE _ _ _ _ _ _ hj hl hc h
 ·exact I5 _ _ _ _ _ _ _ hj hl hc h ak
 ·exact I5 _ _ _ _ _ _ _ hj hl hc h ak
 ·exact Y3 _ _ _ _ _ _ _ hj hl hc h ak
 ·exact I5 _ _ _ _ _ _ _ hj hl hc h ak
 ·exact I5 _ _ _ _ _ _ _ hj hl hc h ak
 ·exact aIF _ _ _ _ _ _ hj hl hc h
 ·exact aIG _ _ _ _ _ _ hj hl hc h
 ·exact aIH _ _ _ _ _ _ hj hl hc h
 ·exact I5 _ _ _ _ _ _ _ hj hl hc h ak
def ajL{α:Type}{p:Nat->α->Bool}:∀{l:List α} {i j:Nat} {x:α},Yg p l i=true->l[j]? =some x->p (i+j) x=true
 |[],_,j,_,_,h=>by simp at h
 |y::l,i,0,x,h,e=>by rw[Yg,MS] at h;cases e;exact h.1
 |y::l,i,j+1,x,h,e=>by
  rw[Yg,MS] at h;rw[List.getElem?_cons_succ] at e;have:=ajL h.2 e
  rwa [show i+1+j=i+(j+1) by omega] at this
def az6{k op:Int}{n:Nat}:∀{ks:List Tn} {j:Nat},(∀i t,ks[i]? =some t->Eh (cls k op n (j+i)) t.kind/\I8 t)->oks k op n ks j
 |[],_,_=>by rw[oks];trivial
 |t::ts,j,h=>by
  rw[oks];have h0:=h 0 t rfl;refine⟨h0.1,h0.2,az6 λi u hu=> ?_⟩;have:=h (i+1) u (by rw[List.getElem?_cons_succ];exact hu)
  rwa [show j+(i+1)=j+1+i by omega] at this
def aD8{l:List Nd}(hall:Yg (np l) l 0=true)(hsm:∀n,n∈l->Small n)(hkl:∀n,n∈l->n.kids.length<=400)(t:Tn):∀b,Lies l b t->I8 t:=by
 refine Tn.ind (P:=λt=>∀b,Lies l b t->I8 t) ?_ t;intro k op x y ks ih b h;have hr:=h.root;have hm:=En hr;have hn:=ajL hall hr;unfold np at hn;rw[MS] at hn;have hf:=(anH (hsm _ hm) (hkl _ hm)).1;rw[hn.1] at hf;have hc:=aII hf;rw[aV,eX] at hc;have hkn:=arC hf;rw[I8];refine⟨hkn,hc,az6 λi u hu=>⟨?_,ih u (En hu) _ (Lies.SQ h hu)⟩⟩;have he:=YV (b:=b) hu;have hlt:=(PU.1 hu).1;have hk:=ajL hn.2 he;have hroot:=Lies.root' (Lies.SQ h hu);unfold kp at hk;rw[Xm] at hk;have hnd:(aa6 l (b+sizes (ks.take i)+sizes u.kids)).kind=u.kind:=by rw[aa6,hroot]
 rw[hnd] at hk;have hko:=(atb (hsm _ hm) (hkl _ hm) hn.1 (0+i) (by rw[eX];omega) u.kind).1;rw[hk] at hko;have:=aIJ (j:=0+i) hkn (by rw[aV,eX];omega) (by rw[aV];exact hkl _ hm) (by rw[aV,eX];exact hc) hko;rw[aV,eX] at this;exact this
def atp{t:Tn}(h:YT (t.flat 0)=true)(hsm:∀n,n∈t.flat 0->Small n):I8 t:=by unfold YT at h;rw[MS,MS] at h;obtain⟨r,hv⟩:=anF h.1;exact aD8 h.2.2 hsm hv.ajt t 0 (Lies.whole t)
structure Ok(l:List Nd):Prop where
 len:l.length<=1048576
 kids:∀n,n∈l->n.kids.length<=1048576/\∀e,e∈n.kids->I64 e
 sm:∀n,n∈l->Small n
 w:wK l<=10000000
def Ok.k{l:List Nd}(h:Ok l):∀n,n∈l->n.kids.length<=1048576:=λn hn=>by have:=(h.kids n hn).1;omega
def anU{l:List Nd}(h:YT l=true):JV l=true:=by unfold YT at h;rw[MS] at h;exact h.1
def aeV(o:Bool)(n:Nd):Row:=[.int .i64 n.kind,.int .i64 n.op,.str n.text,.sl o 1 (encI n.kids)]
def dD(o:Bool)(l:List Nd):au:=l.map (aeV o)
section
variable (o:Bool) (n:Nd) (l:List Nd) (i:Int)
@[simp] theorem jv:(dD o l).length=l.length:=by simp[dD]
@[simp] theorem aJg:idx (dD o l) i=(idx l i).map (aeV o):=ag4 _ _ _
@[simp] theorem vN(j:Nat):(dD o l)[j]? =(l[j]?).map (aeV o):=by simp[dD]
@[simp] theorem cD0:bK .i64 (aeV o n) 0=some n.kind:=rfl
@[simp] theorem cD1:bK .i64 (aeV o n) 1=some n.op:=rfl
@[simp] theorem cD2:cStr (aeV o n) 2=some n.text:=rfl
@[simp] theorem cD3:NK 1 (aeV o n) 3=some (encI n.kids):=rfl
@[simp] theorem arD:aG (dD o l)=dD false l:=by
 induction l with
 |nil=>rfl
 |cons x l ih=>simp only[dD,RQ,aG] at ih|-;rw[ih];simp[aeV,qm,D.fz,atY]
end
def RG(o:Bool)(a b:List Nd):dD o (a++b)=dD o a++dD o b:=by simp[dD]
def ajM:∀l:List Nd,NM (dD true l)=true
 |[]=>rfl
 |n::l=>by have:dD true (n::l)=aeV true n::dD true l:=rfl;rw[this,NM,ajM l];simp[aeV,bg,D.pure]
def awp(l:List Nd):[[D.sl true 4 (dD true l)]].all bg=true:=by simp[bg,D.pure,ajM]
def aD9(l:List Nd)(o:Bool)(d:Int)(hl:l.length<=90000000)(hk:∀n,n∈l->n.kids.length<=90000000/\∀e,e∈n.kids-> -4000000000<=e+d/\e+d<=4000000000):
  M.rW (dD o l) d=some (dD true (l.map (Nd.up d))):=by
 simp only[M.rW,M.Ot];have hloop:=iY (b:=M.Gz (dD o l) d) (t:=((l.length:Int),dD true (l.map (Nd.up d)))) (λi=>((i:Int),dD true ((l.take i).map (Nd.up d)))) l.length
  (by
   intro i hi;obtain⟨n,hn⟩:∃n,l[i]? =some n:=⟨l[i],by simp[hi]⟩
   obtain⟨hkl,hke⟩:=hk n (En hn);have hin:=iY (b:=M.Gy (dD o l) d (i:Int) (dD true ((l.take i).map (Nd.up d))) n.kind n.op n.text) (t:=((n.kids.length:Int),encI (n.kids.map (· +d)))) (λj=>((j:Int),encI ((n.kids.take j).map (· +d)))) n.kids.length
    (by
     intro j hj;obtain⟨e,he⟩:∃e,n.kids[j]? =some e:=⟨n.kids[j],by simp[hj]⟩
     have:=hke e (En he);simp only[jI,M.Gy,M.zQ,bC,vN,hn,O9,ah,cD3,aV,lC,he,KT,zaQ,XE,IU];rw[zdt ak,aK,aN ak,aK,aN ak,aK,aB ak ak,aB ak ak,gu he];simp[encI])
    (by simp only[jI,M.Gy,M.zQ,bC,vN,hn,O9,ah,cD3,aV];rw[pq ak,bn,List.take_length]) 0 (Nat.zero_le _)
   simp only[oQ,List.take_zero,List.map_nil] at hin;have hin':M.Lp (dD o l) d (i:Int) (dD true ((l.take i).map (Nd.up d))) n.kind n.op n.text (0,[])=some ((n.kids.length:Int),encI (n.kids.map (· +d))):=hin;simp only[jI,M.Gz,M.zS,jv,bC,vN,hn,O9,ah,cD0,cD1,cD2,cD3,hin',Iy,aK,zaQ,XE,IU];rw[zdt ak,aK,aN ak,aK,aN ak,aK,aB ak ak,gu hn,List.map_append,RG];rfl)
  (by simp only[jI,M.Gz,M.zS,jv];rw[pq ak,bn,List.take_length]) 0 (Nat.zero_le _)
 simp only[oQ,List.take_zero,List.map_nil] at hloop;have yg:M.Lr (dD o l) d (0,[])=some ((l.length:Int),dD true (l.map (Nd.up d))):=hloop;rw[yg,ah]
def uh(ts:List Tn):au:=ts.map λt=>[.sl false 4 (dD false (t.flat 0))]
def anV(t:Tn)(n:Nd)(hn:n∈t.flat 0):n.kids.length<=t.size/\∀e,e∈n.kids->0<=e/\e<t.size:=by obtain⟨h1,h2⟩:=Yi t 0 n hn;refine⟨ak,λe he=> ?_⟩;have:=h2 e he;omega
def atq(k op:Int)(ts:List Tn)(hs:sizes ts<=90000000):M.aO k op (uh ts)=some (dD true ((Tn.mk k op [] [] ts).flat 0)):=by
 have htl:=jC ts;simp only[jI,M.aO,M.QA];have hpl:(uh ts).length=ts.length:=by simp[uh]
 have hloop:=iY (b:=M.BZ)
  (t:=if ts=[] then .inl (uh ts,0,[],k,op,[]) else .inr (uh ts,(ts.length:Int),dD true (jF ts 0),k,op,[],encI (ends ts 0)))
  (λj=>if j=0 then .inl (uh ts,0,[],k,op,[]) else .inr (uh ts,(j:Int),dD true (jF (ts.take j) 0),k,op,[],encI (ends (ts.take j) 0))) ts.length
  (by
   intro j hj;obtain⟨t,ht⟩:∃t,ts[j]? =some t:=⟨ts[j],by simp[hj]⟩
   have hst:=KA ht;have hp:=t.size_pos;have hr:(uh ts)[j]? =some [.sl false 4 (dD false (t.flat 0))]:=by simp[uh,ht]
   have c0:NK 4 [D.sl false 4 (dD false (t.flat 0))] 0=some (dD false (t.flat 0)):=rfl;have hfl:(dD true (jF (ts.take j) 0)).length=sizes (ts.take j):=by rw[jv,oh]
   have hsh:M.rW (dD false (t.flat 0)) ((sizes (ts.take j):Nat):Int)=some (dD true (t.flat (sizes (ts.take j)))):=by
    rw[aD9 (t.flat 0) false _ (by rw[t.flat_length];omega) (λn hn=> ?_)]
    ·rw[t.ani 0 (sizes (ts.take j))];congr 4<;>omega
    ·obtain⟨h1,h2⟩:=anV t n hn;refine⟨ak,λe he=> ?_⟩;have:=h2 e he;omega
   have hrl:(dD true (t.flat (sizes (ts.take j)))).length=t.size:=by rw[jv,t.flat_length]
   have hel:(encI (ends (ts.take j) 0)).length=j:=by rw[aV,eX,XE];omega
   rw[if_neg (show¬j+1=0 by omega),aeP ht,acz ht]
   by_cases h0:j=0
   ·subst h0;have hi:idx (uh ts) 0=some [.sl false 4 (dD false (t.flat 0))]:=by have:=bC (uh ts) 0;rw[oQ] at this;rw[this,hr]
    rw[if_pos rfl];have z:sizes (ts.take 0)=0:=rfl;rw[z] at hsh hrl;have z2:(([]:au).length:Int)=((0:Nat):Int):=rfl;simp only[jI,M.BZ,M.xH,hpl,hi,ah,c0,z2,hsh,hrl,List.nil_append,uM,Nat.zero_add];rw[zdt ak,aK,aN ak,aK,aN ak,aK,aB ak ak,aB ak ak];simp[encI,dD,jF,ends,sizes]
   ·rw[if_neg h0];simp only[jI,M.BZ,M.xH,hpl,bC,hr,ah,c0,hfl,hsh,hrl,hel,qK,IU];rw[zdt ak,aK,aN ak,aK,aN ak,aK,aN ak,aK,aN ak,aK,aB ak ak,aB ak ak,RG,Nat.zero_add];simp[encI])
  (by
   by_cases h0:ts=[]
   ·rw[if_pos (by rw[h0];rfl),if_pos h0];subst h0;rfl
   ·have h1:¬ts.length=0:=λe=>h0 (List.length_eq_zero_iff.1 e)
    rw[if_neg h1,if_neg h0,List.take_length];simp only[jI,M.BZ,M.xH,hpl];rw[pq ak,bn]) 0 (Nat.zero_le _)
 rw[if_pos rfl] at hloop;rw[M.Ou,hloop,ah]
 by_cases h0:ts=[]
 ·rw[if_pos h0];subst h0;rfl
 ·rw[if_neg h0];simp only[pz,letE,Iy,aK,jv,oh,IU];rw[aN ak,aK,aN ak,aK,Tn.flat,RG];rfl
mutual
def Dq(w:Bool):Tn->Row
 | .mk k n x _ ks=>[.int .i64 k,.int .i64 n,.str x,.sl w 5 (oG w ks),.int .i64 0]
def oG(w:Bool):List Tn->au
 |[]=>[]
 |t::ts=>Dq w t::oG w ts
end
def aaR(w:Bool):∀ts:List Tn,oG w ts=ts.map (Dq w)
 |[]=>rfl
 |t::ts=>by rw[oG,aaR w ts];rfl
def yS(w:Bool)(a:List Tn):(oG w a).length=a.length:=by simp[aaR]
mutual
def aEa(w:Bool):∀t:Tn,qm (Dq w t)=Dq false t
 | .mk k n x y ks=>by have:=ajN w ks;simp only[Dq,qm,D.fz,this]
def ajN(w:Bool):∀ts:List Tn,aG (oG w ts)=oG false ts
 |[]=>rfl
 |t::ts=>by rw[oG,aG,aEa w t,ajN w ts,oG]
end
def aX4(t:Tn):∀(f:Nat) (w:Bool) (p:List Nd),t.size<=f->p.length+t.size<=90000000->
  M.lV f t.kind t.op t.text (oG w t.kids) 0 (dD true p)=some (dD true (p++t.flat p.length)):=by
 refine Tn.ind (P:=λt=>∀(f:Nat) (w:Bool) (p:List Nd),t.size<=f->p.length+t.size<=90000000->M.lV f t.kind t.op t.text (oG w t.kids) 0 (dD true p)=some (dD true (p++t.flat p.length))) ?_ t;intro k op x y ks ih f w p hf hp;cases f with
 |zero=>rw[Tn.size] at hf;omega
 |succ f=>
  rw[Tn.size] at hf hp;have hkl:=jC ks;simp only[jI,M.lV,M.Kz,Tn.kids,Tn.kind,Tn.op,Tn.text,yS];have hrec:∀j t,ks[j]? =some t->M.lV f t.kind t.op t.text (oG w t.kids) 0 (dD true (p++jF (ks.take j) p.length))=some (dD true (p++jF (ks.take (j+1)) p.length)):=by
   intro j t hj;have hst:=KA hj;have hfl:(p++jF (ks.take j) p.length).length=p.length+sizes (ks.take j):=by rw[qK,oh]
   have:=ih t (En hj) f w (p++jF (ks.take j) p.length) ak (by rw[hfl];omega);rw[this,hfl,acz hj,NI]
  have hloop:=iY (b:=M.xK (M.lV f))
   (t:=if ks=[] then .inl (oG w ks,(ks.length:Int),0,dD true p,k,op,x) else .inr (oG w ks,(ks.length:Int),(ks.length:Int),dD true (p++jF ks p.length),k,op,x,encI (ends ks p.length)))
   (λj=>if j=0 then .inl (oG w ks,(ks.length:Int),0,dD true p,k,op,x) else .inr (oG w ks,(ks.length:Int),(j:Int),dD true (p++jF (ks.take j) p.length),k,op,x,encI (ends (ks.take j) p.length))) ks.length
   (by
    intro j hj;obtain⟨t,ht⟩:∃t,ks[j]? =some t:=⟨ks[j],by simp⟩
    have hr:=hrec j t ht;have hst:=KA ht;have hp1:=t.size_pos;have hg:(oG w ks)[j]? =some (Dq w t):=by rw[aaR];simp[ht]
    have hc0:bK .i64 (Dq w t) 0=some t.kind:=by cases t;rfl
    have hc1:bK .i64 (Dq w t) 1=some t.op:=by cases t;rfl
    have hc2:cStr (Dq w t) 2=some t.text:=by cases t;rfl
    have hc3:NK 5 (Dq w t) 3=some (oG w t.kids):=by cases t;rfl
    have hc4:bK .i64 (Dq w t) 4=some 0:=by cases t;rfl
    have hfl:(dD true (p++jF (ks.take (j+1)) p.length)).length=p.length+sizes (ks.take j)+t.size:=by rw[jv,qK,oh,gu ht,kU,sizes,sizes];omega
    rw[if_neg (show¬j+1=0 by omega),aeP ht]
    by_cases h0:j=0
    ·subst h0;rw[if_pos rfl];have hi:idx (oG w ks) 0=some (Dq w t):=by have:=bC (oG w ks) 0;rw[oQ] at this;rw[this,hg]
     have hr0:M.lV f t.kind t.op t.text (oG w t.kids) 0 (dD true p)=some (dD true (p++jF (ks.take (0+1)) p.length)):=by rw[<-hr];simp[jF]
     simp only[jI,M.xK,M.tN,hi,ah,hc0,hc1,hc2,hc3,hc4,hr0,hfl];rw[zdt ak,aK,aB ak ak,aB ak ak];rfl
    ·rw[if_neg h0];simp only[jI,M.xK,M.tN,bC,hg,ah,hc0,hc1,hc2,hc3,hc4,hr,hfl,aV,eX,XE,IU];rw[zdt ak,aK,aN ak,aK,aN ak,aK,aB ak ak,aB ak ak];simp[encI])
   (by
    by_cases h0:ks.length=0
    ·have he:ks=[]:=List.length_eq_zero_iff.1 h0;rw[if_pos h0,if_pos he];simp only[jI,M.xK,M.tN];rw[pq ak,bn]
    ·have he:¬ks=[]:=λe=>h0 (by rw[e];rfl)
     rw[if_neg h0,if_neg he,List.take_length];simp only[jI,M.xK,M.tN];rw[pq ak,bn]) 0 (Nat.zero_le _)
  rw[if_pos rfl] at hloop;rw[M.OZ,hloop,ah]
  by_cases he:ks=[]
  ·rw[if_pos he];subst he;simp only[pz,jv,IU];rw[aN ak,aK,aN ak,aK,RG];rfl
  ·rw[if_neg he];simp only[pz,letE,jv,qK,oh,IU,Iy,aK];rw[aN ak,aK,aN ak,aK,Tn.flat,<-NI];simp only[RG];rfl
def acC{a b:Int×Int}(c:Bool)(ha:(1<=a.1/\a.1<=14)/\1<=a.2/\a.2<=14)(hb:(1<=b.1/\b.1<=14)/\1<=b.2/\b.2<=14):(1<=(bif c then a else b).1/\(bif c then a else b).1<=14)/\1<=(bif c then a else b).2/\(bif c then a else b).2<=14:=by cases c<;>assumption
def arE(op:Int):(1<=(sides op).1/\(sides op).1<=14)/\1<=(sides op).2/\(sides op).2<=14:=by unfold sides;exact acC _ (by decide) (acC _ (by decide) (acC _ (by decide) (acC _ (by decide) (acC _ (by decide) (acC _ (by decide) (acC _ (by decide) (by decide)))))))
def anW(k op:Int)(j:Nat):1<=Y1 k op j/\Y1 k op j<=14:=by have h:=arE op;unfold Y1;exact ND _ (ND _ (by decide) (by decide)) (ND _ (ND _ (by decide) (by decide)) (ND _ (by decide) (ND _ (by decide) (ND _ (ND _ h.1 h.2) (by decide)))))
def xQ{k op:Int}{n j:Nat}{p:Ps}(hp:nV p=true)(hj:j<n)(hl:lvl k op≠0):nV (dQ k op n j p)=true:=by
 have h1:Nat.blt j n=true:=by rw[Nat.blt_eq];exact hj
 have h2:(lvl k op==0)=false:=by simpa using hl
 unfold dQ;rw[hp,h1,h2];simp only[zaO,Bool.or_false,bn];cases(lvl k op==15||(k==13 && Nat.blt 1 n)) with
 |true=>rfl
 |false=>
  have hr:=anW k op j;simp only[bn,nV];rw[zdt hr.1,zdt (show Y1 k op j<=15 by omega)]
  by_cases h6:k=6
  ·subst h6;rfl
  ·have:(k==6)=false:=by simpa using h6
   rw[this];rfl
def aar{k op:Int}{n:Nat}{p q:Ps}(h:∀j,j<n->dQ k op n j p=dQ k op n j q):∀(ts:List Tn) (j:Nat),j+ts.length=n->jM k op n p ts j=jM k op n q ts j
 |[],_,_=>by rw[jM,jM]
 |t::ts,j,hj=>by rw[nS] at hj;rw[jM,jM,h j ak,aar h ts (j+1) ak]
def afU{k op:Int}{n:Nat}{p q:Ps}(h:∀j,j<n->dQ k op n j p=dQ k op n j q):∀(ts:List Tn) (j:Nat),j+ts.length=n->ug k op n p ts j=ug k op n q ts j
 |[],_,_=>by rw[ug,ug]
 |t::ts,j,hj=>by rw[nS] at hj;rw[ug,ug,h j ak,afU h ts (j+1) ak]
def KF{k op:Int}{n j:Nat}{p:Ps}(hp:nV p=true)(hj:j<n)(hl:lvl k op=15):dQ k op n j p=.top:=by
 have h1:Nat.blt j n=true:=by rw[Nat.blt_eq];exact hj
 unfold dQ;rw[hp,h1,hl];rfl
def Y4{k op:Int}(h:13<=lvl k op)(he:1<=k/\k<=15):lvl k op=15\/k=6\/k=9\/k=10:=by
 have hk:k=1\/k=2\/k=3\/k=4\/k=5\/k=6\/k=7\/k=8\/k=9\/k=10\/k=11\/k=12\/k=13\/k=14\/k=15:=ak;rcases hk with rfl|rfl|rfl|rfl|rfl|rfl|rfl|rfl|rfl|rfl|rfl|rfl|rfl|rfl|rfl
 all_goals first
  |(left;rfl)
  |(right;simp;done)
  |(exfalso;have h2:=(ajG op).2;have h3:lvl 12 op=AL op:=rfl;omega)
  |(exfalso;revert h;simp[lvl];done)
def anX{k op:Int}(h:k=1\/k=5\/k=6):13<=lvl k op/\(1<=k/\k<=15):=by rcases h with rfl|rfl|rfl<;>simp[lvl]
def afV{k op:Int}{a b c:Bool}{i j:Bool}(hl:lvl k op≠0):fits k op ⟨14,true,a,b,false⟩=fits k op ⟨14,true,i,j,false⟩:=by
 have e:∀a b,fits k op ⟨14,true,a,b,false⟩=(k==9||decide (14<=lvl k op)):=by
  intro a b;have h2:(lvl k op==0)=false:=by simpa using hl
  unfold fits;rw[h2,show nV ⟨14,true,a,b,false⟩=true from rfl];simp only[zaO,Bool.or_false,bn,Bool.false_and,Bool.true_and]
  by_cases h13:k=13
  ·subst h13;have:lvl 13 op=5:=rfl;rw[this];cases a<;>cases b<;>rfl
  ·have e13:(k==13)=false:=by simpa using h13
   rw[e13,Bool.and_false,bn]
   by_cases h12:k=12/\op=62
   ·obtain⟨rfl,rfl⟩:=h12;cases b<;>rfl
   ·have e12:(k==12 && op==62)=false:=by rw[Bool.and_eq_false_iff,KL,KL];omega
    rw[e12,Bool.and_false,bn]
 rw[e,e]
def atr(t:Tn):(I8 t)->13<=lvl t.kind t.op->(Zv t)->∀p q,nV p=true->nV q=true->xP t p=xP t q:=by
 refine Tn.ind (P:=λt=>(I8 t)->13<=lvl t.kind t.op->(Zv t)->∀p q,nV p=true->nV q=true->xP t p=xP t q) ?_ t;intro k op x y ks ih hok hl he p q hp hq;simp only[Tn.kind,Tn.op] at hl;simp only[Zv,Tn.kind] at he;rw[xP,xP];congr 1;rcases Y4 hl he with h|h
 ·exact aar (λj hj=>by rw[KF hp hj h,KF hq hj h]) ks 0 ak
 ·have hn:ks.length=1:=(SX hok).one ak;obtain⟨u,rfl⟩:=zlo.1 hn;obtain⟨hue,huo⟩:=adQ hok he (i:=0) (t:=u) rfl;obtain⟨huc,_⟩:=Pq hok (i:=0) (t:=u) rfl;have hlu:1<=lvl u.kind u.op/\lvl u.kind u.op<=15:=by cases u;exact Xi hue (SX huo)
  have hlk:lvl k op≠0:=ak;have kp:=xQ (n:=[u].length) (j:=0) hp (by simp) hlk;have kq:=xQ (n:=[u].length) (j:=0) hq (by simp) hlk;rw[jM,jM,jM,jM];congr 1;rcases h with rfl|h
  ·have e1:∀r:Ps,nV r=true->dQ 6 op [u].length 0 r=⟨14,true,r.tZ,r.uf,false⟩:=by intro r hr;unfold dQ;rw[hr];rfl
   rw[e1 p hp] at kp|-;rw[e1 q hq] at kq|-;have ht:qL 6 0=false:=rfl;rw[ht,Bool.false_or,Bool.false_or,afV (c:=false) (i:=q.tZ) (j:=q.uf) ak];cases hf:fits u.kind u.op ⟨14,true,q.tZ,q.uf,false⟩ with
   |false=>rfl
   |true=>
    have aIK:13<=lvl u.kind u.op:=by
     unfold fits at hf;revert hf;cases(!(nV ⟨14,true,q.tZ,q.uf,false⟩)||lvl u.kind u.op==0)<;>cases(q.tZ && u.kind==13)<;>cases(q.uf &&(u.kind==12 && u.op==62))<;>simp;intro hf;rcases hf with h9|h14
     ·rw[h9];exact(show(13:Int)<=13 by omega)
     ·omega
    rw[aK,aK];exact ih u (by simp) huo aIK hue _ _ kp kq
  ·have ht:qL k 0=true:=by rcases h with rfl|rfl<;>rfl
   rw[ht,Bool.true_or,aK,Bool.true_or,aK];have hc6:cls k op [u].length 0=6:=by unfold cls;rw[if_pos ak]
   rw[hc6] at huc;exact ih u (by simp) huo (anX huc).1 hue _ _ kp kq
def atu(t:Tn):(I8 t)->13<=lvl t.kind t.op->(Zv t)->∀p q,nV p=true->nV q=true->qM t p=qM t q:=by
 refine Tn.ind (P:=λt=>(I8 t)->13<=lvl t.kind t.op->(Zv t)->∀p q,nV p=true->nV q=true->qM t p=qM t q) ?_ t;intro k op x y ks ih hok hl he p q hp hq;simp only[Tn.kind,Tn.op] at hl;simp only[Zv,Tn.kind] at he;have hT:jM k op ks.length p ks 0=jM k op ks.length q ks 0\/k=6\/k=9\/k=10:=by
  rcases Y4 hl he with h|h
  ·exact .inl (aar (λj hj=>by rw[KF hp hj h,KF hq hj h]) ks 0 ak)
  ·exact .inr h
 rw[qM,qM];have hg:∀g g' L,k≠11->aao k op ks.length x g L=aao k op ks.length x g' L:=by
  intro g g' L h11;have:(k==11)=false:=by simpa using h11
  unfold aao;rw[this];rfl
 have h11:k≠11:=by
  rcases Y4 hl he with h|h
  ·rintro rfl;exact absurd h (by change¬(11:Int)=15;decide)
  ·omega
 rw[hg _ (amd op (jM k op ks.length q ks 0)) _ h11];congr 1;rcases Y4 hl he with h|h
 ·exact afU (λj hj=>by rw[KF hp hj h,KF hq hj h]) ks 0 ak
 ·have hn:ks.length=1:=(SX hok).one ak;obtain⟨u,rfl⟩:=zlo.1 hn;obtain⟨hue,huo⟩:=adQ hok he (i:=0) (t:=u) rfl;obtain⟨huc,_⟩:=Pq hok (i:=0) (t:=u) rfl;have hlu:1<=lvl u.kind u.op/\lvl u.kind u.op<=15:=by cases u;exact Xi hue (SX huo)
  have hlk:lvl k op≠0:=ak;have kp:=xQ (n:=[u].length) (j:=0) hp (by simp) hlk;have kq:=xQ (n:=[u].length) (j:=0) hq (by simp) hlk;rw[ug,ug,ug,ug];congr 1;rcases h with rfl|h
  ·have e1:∀r:Ps,nV r=true->dQ 6 op [u].length 0 r=⟨14,true,r.tZ,r.uf,false⟩:=by intro r hr;unfold dQ;rw[hr];rfl
   rw[e1 p hp] at kp|-;rw[e1 q hq] at kq|-;have ht:qL 6 0=false:=rfl;rw[ht,Bool.false_or,Bool.false_or,afV (c:=false) (i:=q.tZ) (j:=q.uf) ak];cases hf:fits u.kind u.op ⟨14,true,q.tZ,q.uf,false⟩ with
   |false=>rfl
   |true=>
    have aIK:13<=lvl u.kind u.op:=by
     unfold fits at hf;revert hf;cases(!(nV ⟨14,true,q.tZ,q.uf,false⟩)||lvl u.kind u.op==0)<;>cases(q.tZ && u.kind==13)<;>cases(q.uf &&(u.kind==12 && u.op==62))<;>simp;intro hf;rcases hf with h9|h14
     ·rw[h9];exact(show(13:Int)<=13 by omega)
     ·omega
    rw[aK,aK];exact ih u (by simp) huo aIK hue _ _ kp kq
  ·have ht:qL k 0=true:=by rcases h with rfl|rfl<;>rfl
   rw[ht,Bool.true_or,aK,Bool.true_or,aK];have hc6:cls k op [u].length 0=6:=by unfold cls;rw[if_pos ak]
   rw[hc6] at huc;exact ih u (by simp) huo (anX huc).1 hue _ _ kp kq
def acD{α:Type}(a b:Bool)(x y:α):(bif a||b then x else y)=bif a then x else bif b then x else y:=by cases a<;>rfl
def anY{α:Type}(a b:Bool)(x y:α):(bif a && b then x else y)=bif a then(bif b then x else y) else y:=by cases a<;>rfl
def Yo{α:Type}(a:Bool)(x y:α):some (bif a then x else y)=bif a then some x else some y:=by cases a<;>rfl
def Y5(op:Int):M.ou op=some (AL op)/\M.vX op=some (AL op):=by simp only[M.ou,M.Kt,M.vX,M.QB,AL,acD,Yo];constructor<;>first|trivial|rfl
def Y6(k op:Int)(x y:aC)(r:au):M.oW k op x y r=some (lvl k op)/\M.mF k op x y r=some (lvl k op):=by simp only[M.oW,M.QZ,M.mF,M.QC,lvl,acD,Yo,(Y5 op).1,(Y5 op).2,ah];constructor<;>first|trivial|rfl
def adT(p:Ps):M.DZ p.level p.nN p.tZ p.uf p.lY=some (nV p)/\M.DK p.level p.nN p.tZ p.uf p.lY=some (nV p):=by simp only[M.DZ,M.Vt,M.DK,M.Vp,gV,dL,ah,nV,ge_iff_le];cases(decide (1<=p.level) && decide (p.level<=15))<;>cases p.nN<;>exact⟨rfl,rfl⟩
def Ed:M.yh=some (1,false,false,false,false)/\M.jT=some (1,false,false,false,false):=⟨rfl,rfl⟩
def aEb(k op:Int)(p:Ps):fits k op p=bif !(nV p) then false else bif lvl k op==0 then false else bif p.tZ && k==13 then false else bif p.uf &&(k==12 && op==62) then false else
  bif p.lY &&(k==11||(k==9||k==4)) then false else bif p.nN && k==9 then true else decide (p.level<=lvl k op):=by
 unfold fits;rw[acD];cases(p.nN && k==9)<;>rfl
def ahh(k op:Int)(x y:aC)(r:au)(p:Ps):M.IC k op x y r p.level p.nN p.tZ p.uf p.lY=some (fits k op p)/\M.IB k op x y r p.level p.nN p.tZ p.uf p.lY=some (fits k op p):=by rw[aEb];simp only[M.IC,M.Xc,M.CV,M.IB,M.Xa,M.Cb,(Y6 k op x y r).1,(Y6 k op x y r).2,(adT p).1,(adT p).2,ah,acD,anY,Yo];constructor<;>first|trivial|rfl
def nb0(j:Nat):((j:Int)==0)=Nat.beq j 0:=by cases j<;>rfl
def nb1(j:Nat):((j:Int)==1)=Nat.beq j 1:=by
 rcases j with _|_|j
 ·rfl
 ·rfl
 ·rw[KL.2 ak];rfl
def gt0(j:Nat):decide ((j:Int)>0)= !(Nat.beq j 0):=by
 cases j with
 |zero=>rfl
 |succ j=>rw[zdt ak];rfl
def arF(op:Int)(j:Nat):M.y9 op (j:Int)=some (bif Nat.beq j 0 then(sides op).1 else(sides op).2):=by simp only[M.y9,M.OT,(Y5 op).1,ah,nb0,sides];cases AL op==3<;>cases AL op==4<;>cases AL op==6<;>cases AL op==7<;>cases AL op==8<;>cases AL op==9<;>cases AL op==10<;>cases Nat.beq j 0<;>rfl
def atv(op:Int):M.yM op=some (sides op):=by simp only[M.yM,M.QE,(Y5 op).2,ah,sides,Yo]
def arG(k op:Int)(x y:aC)(r:au)(j:Nat):M.zf k op x y r (j:Int)=some (Y1 k op j):=by simp only[M.zf,M.OU,arF,ah,Y1,gt0];cases k==15<;>cases k==14<;>cases k==13<;>cases k==11<;>cases k==12<;>cases Nat.beq j 0<;>rfl
def Ps.FQ(p:Ps):Int×Bool×Bool×Bool×Bool:=(p.level,p.nN,p.tZ,p.uf,p.lY)
def auO(j n:Nat)(h:n<=1048576):(decide ((j:Int)>=0) && decide ((j:Int)<=i64.wrap ((n:Int) - 1)))=Nat.blt j n:=by
 rw[aB ak ak];cases hb:Nat.blt j n with
 |true=>rw[Nat.blt_eq] at hb;rw[zdt ak,zdt ak];rfl
 |false=>
  have:¬j<n:=by rw[<-Nat.blt_eq,hb];simp
  rw[pq (show¬(j:Int)<=(n:Int) - 1 by omega),Bool.and_false]
def many(n:Nat):decide ((n:Int)>1)=Nat.blt 1 n:=by
 cases hb:Nat.blt 1 n with
 |true=>rw[Nat.blt_eq] at hb;exact zdt ak
 |false=>
  have:¬1<n:=by rw[<-Nat.blt_eq,hb];simp
  exact pq ak
def aas(k op:Int)(x y:aC)(r:au)(j:Nat)(p:Ps)(hr:r.length<=1048576):M.zh k op x y r (j:Int) p.level p.nN p.tZ p.uf p.lY=some (dQ k op r.length j p).FQ:=by
 simp only[M.zh,M.Ug,M.Q7,(adT p).1,dL,(Y6 k op x y r).1,arG,Ed.1,ah,auO j r.length hr,many,nb0,nb1,dQ];cases nV p with
 |false=>rfl
 |true=>
  cases Nat.blt j r.length with
  |false=>rfl
  |true=>
   cases hz:(lvl k op==0) with
   |true=>rfl
   |false=>
    cases h15:(lvl k op==15) with
    |true=>rfl
    |false=>
     simp only[zaO,bn,Bool.false_or];have fin:∀z:Int,(bif k==11 then some (z,k==6,p.tZ,p.uf,false) else bif k==9 then some (z,k==6,p.tZ,p.uf,false) else bif k==10 then some (z,k==6,p.tZ,p.uf,false) else bif k==6 then some (z,k==6,p.tZ,p.uf,false) else
       bif Nat.beq j 0 then(bif p.lY then some (z,k==6,p.tZ,p.uf,true) else bif Nat.beq j 1 then(bif k==12 then some (z,k==6,p.tZ,p.uf,op==99) else some (z,k==6,p.tZ,p.uf,false)) else some (z,k==6,p.tZ,p.uf,false)) else
       bif Nat.beq j 1 then(bif k==12 then some (z,k==6,p.tZ,p.uf,op==99) else some (z,k==6,p.tZ,p.uf,false)) else some (z,k==6,p.tZ,p.uf,false))=
       some (z,k==6,p.tZ,p.uf,bif k==11||(k==9||(k==10||k==6)) then false else(Nat.beq j 0 && p.lY)||(Nat.beq j 1 &&(k==12 && op==99))):=by
      intro z;cases h11:(k==11) with
      |true=>rfl
      |false=>cases h9:(k==9) with
       |true=>rfl
       |false=>cases h10:(k==10) with
        |true=>rfl
        |false=>cases h6:(k==6) with
         |true=>rfl
         |false=>simp only[bn,Bool.or_false];cases Nat.beq j 0<;>cases p.lY<;>cases Nat.beq j 1<;>cases(k==12)<;>simp
     cases h13:(k==13) with
     |true=>
      cases Nat.blt 1 r.length with
      |true=>rfl
      |false=>exact fin _
     |false=>exact fin _
def afW(k op:Int)(x y:aC)(r:au)(j:Nat):M.rZ k op x y r (j:Int)=some (qL k j):=by simp only[M.rZ,M.OV,nb0,qL];cases Nat.beq j 0<;>cases k==9<;>cases k==10<;>rfl
def nD(k:Int)(hk:I64 k):M.lH k=some (k,spell k,0)/\M.gq k=some (k,spell k,0):=by simp only[M.lH,M.Xd,M.gq,M.TT,(nM k hk).1,(nM k hk).2,ah];constructor<;>first|trivial|rfl
def opF(s:aC):List (aC)->Nat->Int->Nat->Int×Nat
 |[],_,k,m=>(k,m)
 |g::l,i,k,m=>bif Nat.blt m g.length && g.isPrefixOf s then opF s l (i+1) (30+(i:Int)) g.length else opF s l (i+1) k m
def ahi(s:aC):∀(l:List (aC)) (i:Nat) (k:Int) (m:Nat),(opF s l i k m).2=ajF s l m
 |[],_,_,_=>rfl
 |g::l,i,k,m=>by
  rw[opF,ajF];cases(Nat.blt m g.length && g.isPrefixOf s) with
  |true=>rw[aK,aK,ahi s l]
  |false=>rw[bn,bn,ahi s l]
def auP(s:aC)(L:List (aC)){b:Int×Int×Int->Option (Int×Int×Int⊕Int×Int×Int)}
  (hb:∀(i:Nat) g k (m:Nat),L[i]? =some g->m<=2->b (k,(m:Int),(i:Int))=some (.inl (bif Nat.blt m g.length && g.isPrefixOf s then(30+(i:Int),(g.length:Int),(i:Int)+1) else(k,(m:Int),(i:Int)+1))))
  (he:∀k m,b (k,m,(L.length:Int))=some (.inr (k,m,(L.length:Int)))) (h2:∀g,g∈L->g.length<=2):
  dM b (0,0,0)=some ((opF s L 0 0 0).1,((opF s L 0 0 0).2:Int),(L.length:Int)):=by
 have key:∀(t:List (aC)) (i:Nat) (k:Int) (m:Nat),L.drop i=t->i<=L.length->m<=2->dM b (k,(m:Int),(i:Int))=some ((opF s t i k m).1,((opF s t i k m).2:Int),(L.length:Int)):=by
  intro t;induction t with
  |nil=>
   intro i k m hd hi hm;have:i=L.length:=by have:=congrArg List.length hd;simp at this;omega
   subst this;exact aY (he _ _)
  |cons g t ih=>
   intro i k m hd hi hm;have hx:L[i]? =some g:=by
    have:(L.drop i)[0]? =some g:=by rw[hd];rfl
    simpa using this
   have hlt:i<L.length:=(PU.1 hx).1;have hd':L.drop (i+1)=t:=by rw[<-List.drop_drop,hd];rfl
   have hs:=hb i g k m hx hm;have hg:=h2 g (En hx);rw[opF];cases hc:(Nat.blt m g.length && g.isPrefixOf s) with
   |true=>rw[hc,aK] at hs;rw[cu hs,aK,show(i:Int)+1=((i+1:Nat):Int) by omega,ih (i+1) _ _ hd' hlt hg]
   |false=>rw[hc,bn] at hs;rw[cu hs,bn,show(i:Int)+1=((i+1:Nat):Int) by omega,ih (i+1) _ _ hd' hlt hm]
 have:=key L 0 0 0 rfl (Nat.zero_le _) ak;rw[oQ] at this;exact this
def awq{α:Type}(s:List α)(n:Nat)(h:n<=s.length):cut s 0 (n:Int)=some (s.take n):=by unfold cut;rw[zdt ak,zdt ak,zdt ak];simp
def pre_eq:∀(g s:aC),g.length<=s.length->(s.take g.length==g)=g.isPrefixOf s
 |[],s,_=>by simp
 |x::g,[],h=>by simp at h
 |x::g,y::s,h=>by
  have hr:=pre_eq g s (by simpa using h);have hxy:(y==x)=(x==y):=by rw[Bool.eq_iff_iff,beq_iff_eq,beq_iff_eq];exact⟨Eq.symm,Eq.symm⟩
  rw[List.isPrefixOf,nS,List.take_succ_cons,<-hr,<-hxy];rfl
def amg(g s:aC)(h:s.length<g.length):g.isPrefixOf s=false:=by
 cases hp:g.isPrefixOf s with
 |false=>rfl
 |true=>have:=(List.isPrefixOf_iff_prefix.1 hp).length_le;omega
def anZ(s g:aC):M.strings_HasPrefix s g=some (g.isPrefixOf s):=by
 simp only[M.strings_HasPrefix,M.Ey,M.jg,M.oC]
 by_cases h:g.length<=s.length
 ·rw[zdt ak,aK,awq s g.length h,ah,ah,pre_eq g s h]
 ·rw[pq ak,bn,ah,amg g s ak]
def az7:∀g,g∈Yd->g.length<=2:=by decide+kernel
def aaS(m n:Nat):decide ((n:Int)>(m:Int))=Nat.blt m n:=by
 cases hb:Nat.blt m n with
 |true=>rw[Nat.blt_eq] at hb;exact zdt ak
 |false=>
  have:¬m<n:=by rw[<-Nat.blt_eq,hb];simp
  exact pq ak
def an0(s:aC)(h0:s≠[])(hs:s.length<=4000000):M.KW s 0=some ((opF s Yd 0 0 0).1,((ajF s Yd 0:Nat):Int)):=by
 have hl:Yd.length=39:=rfl;have hn:1<=s.length:=by cases s with|nil=>exact absurd rfl h0|cons=>simp
 simp only[M.KW,M.Xe,M.Vw,dL,ah];rw[aB ak ak,zdt ak,zdt ak,Bool.and_self,zaO,bn];have hc:=awq s s.length (zaP _);rw[List.take_length] at hc;rw[auP s Yd (λi g k m hg hm=> ?_) (λk m=> ?_) az7,ah,ahi]
 ·have hi:=(PU.1 hg).1;rw[hl] at hi;have hsc:=auA i hi;simp only[VX,hg] at hsc;simp only[M.aag,M.Q8,Xm,hsc,ah,hc,anZ,aaS];rw[zdt ak,zdt ak,aB ak ak,aB ak ak];cases Nat.blt m g.length<;>cases g.isPrefixOf s<;>rfl
 ·rw[hl];rfl
def arH{s:aC}(h:s≠[])(hl:s.length<=2000000):∃c,idx s (i64.wrap ((s.length:Int) - 1))=some c/\lastB s=(c.toNat:Int):=by
 have hn:1<=s.length:=by cases s with|nil=>exact absurd rfl h|cons=>simp
 obtain⟨c,hc⟩:∃c,s[s.length - 1]? =some c:=⟨s[s.length - 1],by simp⟩
 refine⟨c, ?_, ?_⟩
 ·rw[aB ak ak,show((s.length:Int) - 1)=((s.length - 1:Nat):Int) by omega,bC,hc]
 ·rw[lastB,List.getLast?_eq_getElem?,hc]
def auQ{s:aC}(h:s≠[]):∃c,idx s 0=some c/\atm s=(c.toNat:Int):=by
 cases s with
 |nil=>exact absurd rfl h
 |cons c s=>exact⟨c,rfl,rfl⟩
def auR(c:UInt8):i64.wrap (c.toNat:Int)=(c.toNat:Int):=by have:=aq5 c;exact aB ak ak
def afX(a b:Tk):KC a b=bif a.text==[] then false else bif b.text==[] then false else bif a.kind==2 then false else bif a.kind==1 then false else bif b.kind==1 then false else
 bif isW (lastB a.text) && isW (atm b.text) then true else
 bif a.kind==3 &&(isW (atm b.text)||atm b.text==46) then true else
 bif a.kind==6 && b.kind==32 then true else
 bif !(decide (30<=a.kind) && decide (a.kind<=68)) then false else Nat.blt a.text.length (ajF (a.text++b.text) Yd 0):=by
 unfold KC;simp only[acD]
def aeW(a b:Tk)(ha:a.text.length<=2000000)(hb:b.text.length<=2000000):M.wB a.kind a.text a.at_ b.kind b.text b.at_=some (KC a b):=by
 rw[afX];simp only[M.wB,M.OW,M.zA]
 by_cases h1:a.text=[]
 ·rw[show(a.text==[])=true by simpa using h1,aK,aK]
 ·rw[show(a.text==[])=false by simpa using h1,bn,bn]
  by_cases h2:b.text=[]
  ·rw[show(b.text==[])=true by simpa using h2,aK,aK]
  ·obtain⟨c,hc,hc'⟩:=arH h1 ha;obtain⟨d,hd,hd'⟩:=auQ h2;have hop:=an0 (a.text++b.text) (by simp[h1]) (by simp only[qK];omega);rw[show(b.text==[])=false by simpa using h2,bn,bn,hc',hd'];simp only[hc,hd,ah,auR,Um,M.nU,M.CQ,dL,hop,aaS,ge_iff_le,acD,anY,Yo,aN (show a.text.length+b.text.length<=9223372036854775807 by omega),aK]
def XC{α:Type}:List (List α)->Nat
 |[]=>0
 |x::l=>x.length+XC l
def auS{α:Type}:∀(L:List (List α)) (j:Nat),(Dl L j).length<=XC L
 |[],j=>by simp[Dl,XC]
 |x::l,0=>by simp[Dl,XC]
 |x::l,j+1=>by have:=auS l j;simp only[Dl,List.getElem?_cons_succ,XC] at this|-;omega
def aat:∀(L:List (List Tk)) (b:Bool),(IZ b L).length<=XC L+L.length
 |[],b=>by simp[IZ,XC]
 |x::l,b=>by have:=aat l false;cases b<;>simp only[IZ,XC,aK,bn,qK,nS]<;>omega
def aEc{α:Type}:∀(L:List (List α)),(Dl L 0).length+((Dl L 1).length+(Dl L 2).length)<=XC L
 |[]=>by simp[Dl,XC]
 |[x]=>by simp[Dl,XC]
 |[x,y]=>by simp[Dl,XC]
 |x::y::z::l=>by simp[Dl,XC]
def JK{α:Type}{a b:List α}{N:Nat}(c:Bool)(ha:a.length<=N)(hb:b.length<=N):(bif c then a else b).length<=N:=by cases c<;>assumption
def az8(k op:Int)(n:Nat)(x:aC)(L:List (List Tk)):(JL k op n x L).length<=XC L+L.length+4:=by
 have h1:=aat L true;have h2:=auS L 0;have h3:=aEc L;have h4:(bif Nat.blt 1 n then tok 32::(IZ true L++[tok 33]) else Dl L 0:List Tk).length<=XC L+L.length+2:=JK _ (by simp only[nS,qK,uM];omega) ak;have h5:(bif op==99 then[] else[tok op]:List Tk).length<=1:=JK _ (by simp) (by simp);unfold JL;refine JK _ ?_ (JK _ ?_ (JK _ ?_ (JK _ ?_ (JK _ ?_ (JK _ ?_ (JK _ ?_ (JK _ ?_ (JK _ ?_ (JK _ ?_ (JK _ ?_ (JK _ ?_ ?_)))))))))))
 all_goals(simp only[nS,qK,uM];omega)
def MR(k op:Int)(n:Nat)(p:Ps):∀(ts:List Tn) (j:Nat),(jM k op n p ts j).length=ts.length
 |[],j=>by rw[jM];rfl
 |t::ts,j=>by rw[jM,nS,MR k op n p ts (j+1),nS]
def wI(k op:Int)(n:Nat)(p:Ps)(j:Nat)(u:Tn):List Tk:=bif qL k j||fits u.kind u.op (dQ k op n j p) then xP u (dQ k op n j p) else tok 32::(xP u .top++[tok 33])
def amh(k op:Int)(n:Nat)(p:Ps):∀{ts:List Tn} {i j:Nat} {u:Tn},ts[j]? =some u->(jM k op n p ts i)[j]? =some (wI k op n p (i+j) u)
 |[],_,_,_,h=>by simp at h
 |t::ts,i,0,u,h=>by cases h;rw[jM,List.getElem?_cons_zero];rfl
 |t::ts,i,j+1,u,h=>by rw[List.getElem?_cons_succ] at h;rw[jM,List.getElem?_cons_succ,amh k op n p h,show i+1+j=i+(j+1) by omega]
def RH{k op:Int}{n:Nat}{p:Ps}{j:Nat}{u:Tn}(h:∀q,(xP u q).length+4<=8 * u.size):(wI k op n p j u).length+2<=8 * u.size:=by
 unfold wI;cases(qL k j||fits u.kind u.op (dQ k op n j p)) with
 |true=>have:=h (dQ k op n j p);rw[aK];omega
 |false=>have:=h .top;simp only[bn,nS,qK,uM];omega
def aaT{k op:Int}{n:Nat}{p:Ps}:∀{ts:List Tn} {j:Nat},(∀u,u∈ts->∀q,(xP u q).length+4<=8 * u.size)->XC (jM k op n p ts j)+2 * ts.length<=8 * sizes ts
 |[],j,_=>by rw[jM,XC,sizes];simp
 |t::ts,j,h=>by
  have h1:=RH (k:=k) (op:=op) (n:=n) (p:=p) (j:=j) (h t zmf);have h2:=aaT (k:=k) (op:=op) (n:=n) (p:=p) (ts:=ts) (j:=j+1) λu hu=>h u (zmm _ hu)
  unfold wI at h1;rw[jM,XC,sizes,nS];omega
def rH(t:Tn):∀q,(xP t q).length+4<=8 * t.size:=by refine Tn.ind (P:=λt=>∀q,(xP t q).length+4<=8 * t.size) ?_ t;intro k op x y ks ih q;have h1:=az8 k op ks.length x (jM k op ks.length q ks 0);have h2:=aaT (k:=k) (op:=op) (n:=ks.length) (p:=q) (ts:=ks) (j:=0) ih;rw[MR] at h1;rw[xP,Tn.size];omega
def ami(t:Tn)(q:Ps):(aby t q).length+2<=8 * t.size:=by
 have h1:=rH t q;have h2:=rH t .top;unfold aby;cases fits t.kind t.op q with
 |true=>rw[aK];omega
 |false=>simp only[bn,nS,qK,uM];omega
@[simp] theorem dF(l:List Tk):aA (iP l)=true:=by simp only[aA,iP,List.all_map,List.all_eq_true];intro x _;rfl
def nO(a b:List Tk):iP (a++b)=iP a++iP b:=by simp[iP]
def NG(a toks:List Tk)(sp:au)(f:Bool)(hs:aA sp=true)(hl:toks.length+a.length<=1000000000):M.bT (iP a) (iP toks) sp f=some (iP (toks++a),sp,f):=by simp only[M.bT,M.GY,eU,<-nO,dF,hs,aK];rw[aN ak,aK,aN ak,aK]
def iota(n:Nat):List Int:=(List.range n).map fun(i:Nat)=>((i:Nat):Int)
def UH(n:Nat):(iota n).length=n:=by simp[iota]
def awr(n:Nat):iota (n+1)=iota n++[(n:Int)]:=by simp[iota,List.range_succ]
def ahj(k op:Int)(x y:aC)(rows:au)(h:rows.length<=1048576):M.kP k op x y rows=some (k,op,x,y,encI (iota rows.length)):=by
 obtain⟨n,hn⟩:∃n,n=rows.length:=⟨_,rfl⟩
 simp only[M.kP,M.L8];rw[<-hn] at h|-;have hloop:=iY (b:=M.um)
  (t:=if n=0 then .inl ((n:Int),0,0,0,[],[],k,op,x,y) else .inr ((n:Int),(n:Int),0,0,[],[],k,op,x,y,encI (iota n)))
  (λj=>if j=0 then .inl ((n:Int),0,0,0,[],[],k,op,x,y) else .inr ((n:Int),(j:Int),0,0,[],[],k,op,x,y,encI (iota j))) n
  (by
   intro j hj;rw[if_neg (show¬j+1=0 by omega),awr]
   by_cases h0:j=0
   ·subst h0;rw[if_pos rfl];simp only[jI,M.um,M.pJ];rw[zdt ak,aK];rfl
   ·rw[if_neg h0];simp only[jI,M.um,M.pJ,aV,UH,IU];rw[zdt ak,aK,aN ak,aK,aN ak,aK,aB ak ak];simp[encI])
  (by
   by_cases h0:n=0
   ·simp only[if_pos h0];simp only[jI,M.um,M.pJ];rw[pq ak,bn]
   ·simp only[if_neg h0];simp only[jI,M.um,M.pJ];rw[pq ak,bn]) 0 (Nat.zero_le _)
 rw[if_pos rfl] at hloop;rw[M.JA,hloop,ah]
 by_cases h0:n=0
 ·rw[if_pos h0,h0];rfl
 ·rw[if_neg h0];simp only[pz,letE,Iy,aK]
def Wr(toks:List Tk)(sp:au)(N:Nat)(out:List Tk)(r:Option zaI):Prop:=
 ∃sp',r=some (iP (toks++out),sp',false)/\aA sp'=true/\sp'.length<=sp.length+N
def PT(u:Tn):Prop:=∀(w:Bool) (f:Nat) (p:Ps) (toks:List Tk) (sp:au),5 * u.size<=f->nV p=true->aA sp=true->toks.length+16 * u.size<=900000000->sp.length+u.size<=900000000->u.size<=1048576->
 Wr toks sp u.size (xP u p) (M.uy f u.kind u.op u.text u.other (fG w u.kids) p.level p.nN p.tZ p.uf p.lY (iP toks) sp false)
def auT{u:Tn}(h:u.size<=1048576)(w:Bool):(fG w u.kids).length<=1048576:=by have h1:=u.vk;have h2:=jC u.kids;rw[gW];omega
def yT(k:Int):([[D.int .i64 k,D.str (spell k),D.int .i64 0]]:au)=iP [tok k]:=rfl
def aIL{u:Tn}(hP:PT u){w:Bool}{f:Nat}{p:Ps}{toks:List Tk}{sp:au}(hf:5 * u.size+1<=f)(hp:nV p=true)(hs:aA sp=true)(ht:toks.length+16 * u.size+1<=900000000)(hl:sp.length+u.size<=900000000)(hu:u.size<=1048576):
  Wr toks sp u.size (aby u p) (M.yE f u.kind u.op u.text u.other (fG w u.kids) p.level p.nN p.tZ p.uf p.lY (iP toks) sp false):=by
 obtain⟨g,rfl⟩:∃g,f=g+1:=⟨f - 1,ak⟩
 have hz:=u.size_pos;have hb:=rH u .top;rw[M.aa4];simp only[M.uq,M.xB,ahj u.kind u.op u.text u.other _ (auT hu w),ah,(ahh u.kind u.op u.text u.other _ p).1,bn,Bool.not_not,aby];cases fits u.kind u.op p with
 |true=>obtain⟨sp',h1,h2,h3⟩:=hP w g p toks sp ak hp hs ak hl hu;simp only[aK,dF,hs,h1,ah,h2];exact⟨sp',rfl,h2,h3⟩
 |false=>obtain⟨sp',h1,h2,h3⟩:=hP w g .top (toks++[tok 32]) sp ak rfl hs (by rw[qK,IU];omega) hl hu;have e1:=(nD 32 (by constructor<;>decide)).1;have e2:=(nD 33 (by constructor<;>decide)).1;have p1:=NG [tok 32] toks sp false hs (by simp;omega);have p2:=NG [tok 33] (toks++[tok 32]++xP u .top) sp' false h2 (by simp only[qK,IU];omega);simp only[Ps.top] at h1 p2;simp only[bn,e1,e2,Ed.1,ah,yT,dF,hs,aK,p1,h1,h2,p2];refine⟨sp', ?_,h2,h3⟩;simp[Ps.top]
def kG(w:Bool)(u:Tn):bK .i64 (u.row w) 0=some u.kind/\bK .i64 (u.row w) 1=some u.op/\cStr (u.row w) 2=some u.text/\cStr (u.row w) 3=some u.other/\NK 5 (u.row w) 4=some (fG w u.kids):=by cases u;exact⟨rfl,rfl,rfl,rfl,rfl⟩
def FP(w:Bool){ks:List Tn}{j:Nat}{u:Tn}(hj:ks[j]? =some u):idx (fG w ks) (j:Int)=some (u.row w):=by rw[bC,XZ];simp[hj]
section
variable {k op:Int} {x y:aC} {ks:List Tn} (ih:∀u,u∈ks->PT u)
include ih
theorem UJ{w:Bool}{f:Nat}{p:Ps}{toks:List Tk}{sp:au}{j:Nat}{u:Tn}(hj:ks[j]? =some u)(hf:5 * u.size+2<=f)(hp:nV p=true)(hlv:lvl k op≠0)(hs:aA sp=true)(ht:toks.length+16 * u.size+1<=900000000)(hl:sp.length+u.size<=900000000)(hu:sizes ks<=1048575):
  Wr toks sp u.size (wI k op ks.length p j u) (M.lW f k op x y (fG w ks) (j:Int) p.level p.nN p.tZ p.uf p.lY (iP toks) sp false):=by
 obtain⟨g,rfl⟩:∃g,f=g+1:=⟨f - 1,ak⟩
 have hkl:=jC ks;have hju:=(PU.1 hj).1;have hus:=iO (En hj);have hg:=FP w hj;obtain⟨c0,c1,c2,c3,c4⟩:=kG w u;have hn:=ahj k op x y (fG w ks) (by rw[gW];omega);rw[gW] at hn;have hkp:=aas k op x y (encI (iota ks.length)) j p (by rw[aV,UH];omega);rw[aV,UH] at hkp;have hq:=xQ (n:=ks.length) (j:=j) hp hju hlv;have e1:=ih u (En hj);rw[M.acw];simp only[jI,M.vJ,hn,ah,hg,c0,c1,c2,c3,c4,hkp,Ps.FQ,afW,dF,hs,aK,wI];cases htg:qL k j with
 |true=>obtain⟨sp',h1,h2,h3⟩:=e1 w g (dQ k op ks.length j p) toks sp ak hq hs ak hl ak;simp only[aK,Bool.true_or,h1,ah,dF,h2];exact⟨sp',rfl,h2,h3⟩
 |false=>obtain⟨sp',h1,h2,h3⟩:=aIL e1 (w:=w) (f:=g) (p:=dQ k op ks.length j p) (toks:=toks) (sp:=sp) ak hq hs ht hl ak;unfold aby at h1;simp only[bn,Bool.false_or,h1,ah,dF,h2,aK];exact⟨sp',rfl,h2,h3⟩
theorem aeX{w:Bool}{f:Nat}{p:Ps}{shut:Int}(hf:5 * sizes ks+2<=f)(hp:nV p=true)(hlv:lvl k op≠0)(hu:sizes ks<=1048575):∀(d j:Nat) (toks:List Tk) (sp:au),j+d=ks.length->aA sp=true->toks.length+16 * sizes (ks.drop j)+2<=900000000->sp.length+sizes (ks.drop j)<=900000000->
  ∃sp',M.lT (M.lW f) shut (ks.length:Int) k op x y (fG w ks) p.level p.nN p.tZ p.uf p.lY ((j:Int),false,iP toks,sp)=some ((ks.length:Int),false,iP (toks++IZ (Nat.beq j 0) ((jM k op ks.length p ks 0).drop j)),sp')/\aA sp'=true/\sp'.length<=sp.length+sizes (ks.drop j)
 |0,j,toks,sp,hj,hs,ht,hl=>by have hjn:j=ks.length:=ak;refine⟨sp, ?_,hs,ak⟩;have hd:(jM k op ks.length p ks 0).drop j=[]:=List.drop_eq_nil_iff.2 (by rw[MR];omega);rw[hd,IZ,List.append_nil,M.lT];apply aY;simp only[M.o7,M.oZ];rw[pq ak,bn,hjn]
 |d+1,j,toks,sp,hj,hs,ht,hl=>by
  have hlt:j<ks.length:=ak;have hkl:=jC ks;obtain⟨u,hu'⟩:∃u,ks[j]? =some u:=⟨ks[j],by simp[hlt]⟩
  have hd1:ks.drop j=u::ks.drop (j+1):=by rw[List.drop_eq_getElem_cons hlt];rw[List.getElem?_eq_getElem hlt] at hu';rw[Option.some.inj hu']
  have hus:=iO (En hu');have hz:=u.size_pos;have hb:=RH (k:=k) (op:=op) (n:=ks.length) (p:=p) (j:=j) (rH u);have hdl:j<(jM k op ks.length p ks 0).length:=by rw[MR];exact hlt
  have hkd:(jM k op ks.length p ks 0).drop j=wI k op ks.length p j u::(jM k op ks.length p ks 0).drop (j+1):=by have hg:=amh k op ks.length p (i:=0) hu';rw[Nat.zero_add,List.getElem?_eq_getElem hdl] at hg;rw[List.drop_eq_getElem_cons hdl,Option.some.inj hg]
  rw[hd1,sizes] at ht hl|-;rw[hkd];have hw:i64.wrap ((j:Int)+1)=((j+1:Nat):Int):=by rw[aB ak ak];omega
  by_cases h0:j=0
  ·subst h0;obtain⟨sp1,a1,a2,a3⟩:=UJ ih (w:=w) (f:=f) (p:=p) (toks:=toks) (sp:=sp) (x:=x) (y:=y) (op:=op) (k:=k) hu' ak hp hlv hs ak ak hu;obtain⟨sp2,b1,b2,b3⟩:=aeX hf hp hlv hu d (0+1) (toks++wI k op ks.length p 0 u) sp1 ak a2 (by rw[qK];omega) ak;have hstep:M.o7 (M.lW f) shut (ks.length:Int) k op x y (fG w ks) p.level p.nN p.tZ p.uf p.lY (((0:Nat):Int),false,iP toks,sp)=some (.inl (((0+1:Nat):Int),false,iP (toks++wI k op ks.length p 0 u),sp1)):=by simp only[M.o7,M.oZ,dF,hs,aK];rw[zdt ak,aK,pq ak,bn,a1,ah,hw]
   refine⟨sp2, ?_,b2,ak⟩;rw[M.lT,cu hstep];rw[M.lT] at b1;have z0:Nat.beq 0 0=true:=rfl;have z1:Nat.beq (0+1) 0=false:=rfl;rw[b1,z0,z1,IZ,aK];simp
  ·have e1:=(nD 36 (by constructor<;>decide)).1;have p1:=NG [tok 36] toks sp false hs (by simp;omega);obtain⟨sp1,a1,a2,a3⟩:=UJ ih (w:=w) (f:=f) (p:=p) (toks:=toks++[tok 36]) (sp:=sp) (x:=x) (y:=y) (op:=op) (k:=k) hu' ak hp hlv hs (by rw[qK,IU];omega) ak hu;obtain⟨sp2,b1,b2,b3⟩:=aeX hf hp hlv hu d (j+1) (toks++[tok 36]++wI k op ks.length p j u) sp1 ak a2 (by rw[qK,qK,IU];omega) ak;have hstep:M.o7 (M.lW f) shut (ks.length:Int) k op x y (fG w ks) p.level p.nN p.tZ p.uf p.lY ((j:Int),false,iP toks,sp)=some (.inl (((j+1:Nat):Int),false,iP (toks++[tok 36]++wI k op ks.length p j u),sp1)):=by simp only[M.o7,M.oZ,e1,ah,yT,dF,hs,aK,p1];rw[zdt ak,aK,zdt ak,aK,a1,ah,hw]
   refine⟨sp2, ?_,b2,ak⟩;rw[M.lT,cu hstep];rw[M.lT] at b1;rw[b1];have hb0:Nat.beq j 0=false:=by cases j with
    |zero=>exact absurd rfl h0
    |succ j=>rfl
   have hb1:Nat.beq (j+1) 0=false:=rfl;rw[hb0,hb1,IZ,bn];simp
theorem an1{w:Bool}{f:Nat}{p:Ps}{toks:List Tk}{sp:au}{open' shut:Int}(ho:I64 open')(hsh:I64 shut)(hf:5 * sizes ks+3<=f)(hp:nV p=true)(hlv:lvl k op≠0)(hs:aA sp=true)(ht:toks.length+16 * sizes ks+3<=900000000)(hl:sp.length+sizes ks<=900000000)(hu:sizes ks<=1048575):
  Wr toks sp (sizes ks) (tok open'::(IZ true (jM k op ks.length p ks 0)++[tok shut])) (M.uw f k op x y (fG w ks) open' shut p.level p.nN p.tZ p.uf p.lY (iP toks) sp false):=by
 obtain⟨g,rfl⟩:∃g,f=g+1:=⟨f - 1,ak⟩
 have hkl:=jC ks;have e1:=(nD open' ho).1;have e2:=(nD shut hsh).1;have p1:=NG [tok open'] toks sp false hs (by simp;omega);obtain⟨sp1,a1,a2,a3⟩:=aeX ih (x:=x) (y:=y) (op:=op) (k:=k) (w:=w) (f:=g) (p:=p) (shut:=shut) ak hp hlv hu ks.length 0 (toks++[tok open']) sp ak hs (by rw[qK,IU,List.drop_zero];omega) (by rw[List.drop_zero];omega);rw[List.drop_zero] at a3;rw[List.drop_zero,oQ] at a1;have hlen:(IZ true (jM k op ks.length p ks 0)).length<=9 * sizes ks:=by
  have h1:=aat (jM k op ks.length p ks 0) true;have h2:=aaT (k:=k) (op:=op) (n:=ks.length) (p:=p) (ts:=ks) (j:=0) λu _=>rH u
  rw[MR] at h1;omega
 have p2:=NG [tok shut] (toks++[tok open']++IZ (Nat.beq 0 0) (jM k op ks.length p ks 0)) sp1 false a2 (by simp only[qK,IU];have:Nat.beq 0 0=true:=rfl;rw[this];omega);rw[M.aa2];simp only[M.uo,e1,e2,ah,yT,dF,hs,aK,p1,gW,a1,a2,p2];refine⟨sp1, ?_,a2,a3⟩;simp
end
end Go.Proofs.YtajjpadmdmehmaaGreatDoor
