import Derived.Test.YtbgadfelmhoheaaGreatDoorXOut
import Derived.Test.YtbgadfelmhoheaaGreatDoorXHigh
import Derived.Test.YtbgadfelmhoheaaGreatDoorXTok3
import Derived.Shelf.Strings.Builder1
import Derived.Shelf.Strings.Builder2
import Derived.Shelf.Strings.OnBuilder
import Derived.Shelf.Small.Strs
import Derived.Shelf.Strings.BuilderF
import Derived.Shelf.Strconv.Itoa0
import Derived.Shelf.Strconv.Itoa1
import Derived.Shelf.LaysM
import Derived.Shelf.Strconv.Itoa2
import Derived.Shelf.Strconv.Itoa3
import Derived.Shelf.Strings.Search1
import Derived.Shelf.Strings.Search2
import Derived.Shelf.Strings.Search3
import Derived.Shelf.Strings.Shaped
import Derived.Shelf.Bits.Mul64
import Derived.Test.YtbgadfelmhoheaaGreatDoorProg
import Derived.Test.YtbgadfelmhoheaaGreatDoorPPrim
import Derived.Test.YtbgadfelmhoheaaGreatDoorVm4
import Derived.Test.YtbgadfelmhoheaaGreatDoorZCommon
import Derived.Test.YtbgadfelmhoheaaGreatDoorRows
set_option linter.defProp false
namespace Go.Proofs.YtbgadfelmhoheaaGreatDoor
set_option linter.unusedVariables false
set_option linter.unusedSimpArgs false
open Go Go.Vm
open Go.IntKind (i64)
structure Iy(t:Tn):Prop where
 i:It t
 p:pln t
 z:t.size<=400
structure Ry(ks:List Tn):Prop where
 n:ks.length<=7
 k:∀u,u∈ks->u.kind=33∨Ey u
 f:∀u,ks[0]? =some u->2<=ks.length->u.kind≠33
def Iy.rule{t:Tn}(h:Iy t)(hk:t.kind=42∨t.kind=43):Ry t.kids:=by
 have hc:=Vu h.i.ok h.i.i h.i.sm h.i.sz;have hp:=h.p;have hz:=h.z;have hks:=t.vK;have hok:=h.i.ok;have hall:t.kids.length<=7∧∀u,u∈t.kids->Bk u∨Ex' u:=by
  rcases hc with⟨u,h1,_⟩|⟨_,h1,h2⟩|⟨h1,_⟩|h1
  ·omega
  ·exact⟨h1,h2⟩
  ·omega
  ·omega
 obtain⟨k,op,x,y,ks⟩:=t;simp only[Tn.kids,Tn.kind] at *;rw[pln] at hp;refine⟨hall.1,λu hu=> ?_,λu hu h2=> ?_⟩
 ·have hs:=kP hu;rcases hall.2 u hu with h3|h3
  ·exact .inl h3.k
  ·exact .inr ⟨h3,Sr.1 hp.2 u hu,by omega⟩
 ·have hkd:=(OQ hok hu).1;have hcn:=I4 hok;have hcls:cls k op ks.length 0=0:=by
   rcases hk with rfl|rfl
   ·have:=hcn.rule rfl;have e:cls 42 op ks.length 0=if op=2∨(op=3∧0+1=ks.length) then 1 else 0:=by simp[cls]
    rw[e,if_neg (by omega)]
   ·simp[cls]
  rw[hcls] at hkd;have h3:1<=u.kind∧u.kind<=15:=hkd;omega
def Ry.empty{ks:List Tn}(h:Ry ks){j:Nat}{u:Tn}(hu:ks[j]? =some u)(hk:u.kind≠33):(lI (ks.take j)).isEmpty=decide (j=0):=by
 cases j with
 |zero=>rfl
 |succ j=>
  have hl:=(G9.1 hu).1;cases ks with
  |nil=>simp at hu
  |cons v l=>have:=h.f v rfl (by omega);rw[List.take_succ_cons,lI,OV.2 this];rfl
section
variable {l:List Nd} {o:Bool} {b:Nat} (hl:l.length<=1048576)
include hl
omit hl in
theorem ama{t:Tn}(h:Lies l b t)(h1:1<=t.kids.length)(hn:t.kids.length<=7):M.qW (aQ o l) ((b+sizes t.kids:Nat):Int)=some (encS ((t.kids.take (t.kids.length - 1)).map Tn.text)):=by
 have hr:=SI (o:=o) h;have hat:At l b t.kids:=by obtain⟨k,op,x,y,ks⟩:=t;exact λj u hj=>Lies.OO h hj
 obtain⟨ks,hk⟩:∃ks,t.kids=ks:=⟨_,rfl⟩
 rw[hk] at h1 hn hr hat⊢;have hel:(encI (ends ks b)).length=ks.length:=by rw[aU,gU]
 have hloop:=fF (b:=M.yx (aQ o l) ((b+sizes ks:Nat):Int)) (t:=(((ks.length - 1:Nat):Int),encS ((ks.take (ks.length - 1)).map Tn.text))) (λj=>((j:Int),encS ((ks.take j).map Tn.text))) (ks.length - 1)
  (by
   intro j hj;obtain⟨u,hu⟩:∃u,ks[j]? =some u:=⟨ks[j],by simp[show j<ks.length by omega]⟩
   have hi:=Df (b:=b) hu;have hru:=SI (o:=o) (hat j u hu);have hle:(encS ((ks.take j).map Tn.text)).length=j:=by simp[encS];omega
   have hw:i64.wrap ((j:Int)+1)=((j+1:Nat):Int):=by rw[aC (by omega) (by omega)];omega
   simp only[lK,M.yx,M.sF,hr,Jo,ah,hel,hw,hi,MI,hru,NQ,hle,ng,zo];rw[zdt (by omega),aT,bn (by omega),aT,bn (by omega),aT,fP hu,List.map_append,encS,encS,List.map_append];rfl)
  (by
   have hw:i64.wrap (((ks.length - 1:Nat):Int)+1)=((ks.length:Nat):Int):=by rw[aC (by omega) (by omega)];omega
   simp only[lK,M.yx,M.sF,hr,Jo,ah,hel,hw];rw[qN (by omega),cu]) 0 (Nat.zero_le _)
 have hh:M.Cc (aQ o l) ((b+sizes ks:Nat):Int) (0,[])=some (((ks.length - 1:Nat):Int),encS ((ks.take (ks.length - 1)).map Tn.text)):=hloop;simp only[M.qW,M.Ej,hh,ah,Vw,aT]
omit hl in
theorem ajM(A:List (aA))(s0:aA)(hs:s0.length<=2000000)(hA:∀x,x∈A->x.length<=1048576)(hn:A.length<=7):M.Et (encS A) (s0,0)=some (s0++uX A true,(A.length:Int)):=by
 have hjl:∀m:Nat,(uX (A.take m) true).length<=8000000:=by intro m;have h2:=PU (A.take m) true (λx hx=>hA x (List.mem_of_mem_take hx));rw[PW] at h2;have h3:(1048576+2) * min m A.length<=(1048576+2) * 7:=Nat.mul_le_mul_left _ (by omega);omega
 have hloop:=fF (b:=M.Ah (encS A)) (t:=(s0++uX A true,(A.length:Int))) (λj=>(s0++uX (A.take j) true,(j:Int))) A.length
  (by
   intro j hj;obtain⟨x,hx⟩:∃x,A[j]? =some x:=⟨A[j],by simp[hj]⟩
   have hxl:=hA x (Gy hx);have hq:=hjl j;have hw:i64.wrap ((j:Int)+1)=((j+1:Nat):Int):=by rw[aC (by omega) (by omega)];omega
   have he:(A.take j).isEmpty=decide (j=0):=by
    cases j with
    |zero=>rfl
    |succ j=>cases A with
     |nil=>simp at hj
     |cons a l=>rfl
   simp only[M.Ah,M.uO,kR,bU,IZ,QS,hx,He,ah,cS0,hw];rw[zdt (by omega),aT,fP hx,Vt,he,Bool.and_true]
   by_cases h0:j=0
   ·subst h0;rw[qN (by omega),cu,bn (by simp only[qO];omega),aT,zdt rfl,aT,Bf]
   ·rw[zdt (by omega),aT,bn (by simp only[qO];omega),aT,bn (by simp only[qO,ng,zo];omega),aT,qN h0,cu];simp only[Bf])
  (by simp only[M.Ah,M.uO,kR];rw[qN (by omega),cu,List.take_length]) 0 (Nat.zero_le _)
 have e:s0++uX (A.take 0) true=s0:=by rw[List.take_zero,uX,List.append_nil]
 rw[e] at hloop;exact hloop
theorem ajN{ks:List Tn}(h:Ry ks)(hat:At l b ks)(k op:Int)(x y:aA):M.yZ (aQ o l) k op x y (encI (ends ks b)) (aQ o l) false ([],0)=some (uX (lI ks) true,(ks.length:Int)):=by
 have hel:(encI (ends ks b)).length=ks.length:=by rw[aU,gU]
 have hn:=h.n;have hjl:∀m:Nat,(uX (lI (ks.take m)) true).length<=36000000000000:=λm=>adV (λu hu=>h.k u (List.mem_of_mem_take hu)) (by rw[PW];omega)
 exact fF (b:=M.Ai (aQ o l) k op x y (encI (ends ks b)) (aQ o l) false) (t:=(uX (lI ks) true,(ks.length:Int))) (λj=>(uX (lI (ks.take j)) true,(j:Int))) ks.length
  (by
   intro j hj;obtain⟨u,hu⟩:∃u,ks[j]? =some u:=⟨ks[j],by simp[hj]⟩
   have hi:=Df (b:=b) hu;have hlu:=hat j u hu;have hr:=SI (o:=o) hlu;have hq:=hjl j;have hw:i64.wrap ((j:Int)+1)=((j+1:Nat):Int):=by rw[aC (by omega) (by omega)];omega
   simp only[M.Ai,M.uP,hel,hi,MI,hr,Lp,ah,hw];rw[zdt (by omega),aT,fP hu,Vp,lI,lI,List.append_nil]
   by_cases h33:u.kind=33
   ·rw[show(u.kind==33)=true by rw[h33];rfl,aT,aT,List.append_nil]
   ·have hy:Ey u:=(h.k u (Gy hu)).resolve_left h33;have aQu:M.lY (aQ o l) false ((b+sizes (ks.take j)+sizes u.kids:Nat):Int) 1 false false false false=some (dE (Gu u)):=aQr hl hy.x hlu (p:=.top) rfl;have hwl:=adU hy;have hft:=al9 hy false;rw[OV.2 h33,cu,cu,Vt,h.empty hu h33,Bool.and_true];simp only[JA.2,ah,aQu,dE,apc,hft];have aRb:(flR (KR (Gu u))).fst.length<=5000000000000:=hwl
    by_cases h0:j=0
    ·subst h0;rw[qN (by omega),cu,bn (by omega),aT,zdt rfl,aT];rfl
    ·rw[zdt (by omega),aT,bn (by omega),aT,bn (by simp only[qO,ng,zo];omega),aT,qN h0,cu,Bf];rfl)
  (by simp only[M.Ai,M.uP,hel];rw[qN (by omega),cu,List.take_length]) 0 (Nat.zero_le _)
theorem apx{t:Tn}(hi:Iy t)(hh:Lies l b t):M.wC (aQ o l) ((b+sizes t.kids:Nat):Int)=some (abV t)∧(abV t).length<=40000000000000:=by
 have hr:=SI (o:=o) hh;have hat:At l b t.kids:=by obtain⟨k,op,x,y,ks⟩:=t;exact λj u hj=>Lies.OO hh hj
 have hss:=Xa hi.i.sm;have htx:=Xg hi.i.sm;simp only[lK,M.wC,M.Ir,hr,Lp,NR,NQ,NS,Jo,ah];unfold abV;rcases Vu hi.i.ok hi.i.i hi.i.sm hi.i.sz with⟨u,hk,_⟩|⟨hk,hn,_⟩|⟨hk,h1,h7,u,hu,_⟩|hk
 ·rcases hk with hk|hk
  ·rw[hk];exact⟨rfl,(by omega:(5:Nat)<=40000000000000)⟩
  ·rw[hk];exact⟨rfl,(by omega:(3:Nat)<=40000000000000)⟩
 ·have hR:=hi.rule hk;have hlp:=ajN (o:=o) hl hR hat t.kind t.op t.text t.other;have hjl:=adV hR.k hR.n;rw[hlp];rcases hk with hk|hk
  ·rw[hk];exact⟨rfl,Nat.le_trans hjl (by omega)⟩
  ·rw[hk];exact⟨rfl,Nat.le_trans hjl (by omega)⟩
 ·have hp:=ama (o:=o) hh h1 h7;have hA:∀x,x∈(t.kids.take (t.kids.length - 1)).map Tn.text->x.length<=1048576:=by intro x hx;obtain⟨v,hv,rfl⟩:=List.mem_map.1 hx;exact Xg (KF hss (List.mem_of_mem_take hv))
  have hAn:((t.kids.take (t.kids.length - 1)).map Tn.text).length<=7:=by rw[List.length_map,PW];omega
  have hlp:=ajM _ ([102,117,110,99,116,105,111,110,32]++t.text++[40]) (by simp only[qO,ng,zo];omega) hA hAn;have hjl:=PU ((t.kids.take (t.kids.length - 1)).map Tn.text) true hA;have h3:(1048576+2) * ((t.kids.take (t.kids.length - 1)).map Tn.text).length<=(1048576+2) * 7:=Nat.mul_le_mul_left _ hAn;rw[hp,ah,hlp,hk];simp only[ah];rw[bn (by omega),bn (by simp only[qO,ng,zo];omega),bn (by simp only[qO,ng,zo];omega)];refine⟨?_, ?_⟩
  ·show some _=some _;rw[show(bif(44:Int)==40 then([66,69,71,73,78]:aA) else bif(44:Int)==41 then[69,78,68] else bif(44:Int)==44 then Si t.text t.kids else bif(44:Int)==42||(44:Int)==43 then uX (lI t.kids) true else[])=Si t.text t.kids from rfl,Si,Bf]
  ·rw[show(bif(44:Int)==40 then([66,69,71,73,78]:aA) else bif(44:Int)==41 then[69,78,68] else bif(44:Int)==44 then Si t.text t.kids else bif(44:Int)==42||(44:Int)==43 then uX (lI t.kids) true else[])=Si t.text t.kids from rfl,Si];simp only[qO,ng,zo];omega
 ·rw[hk];exact⟨rfl,(by omega:(0:Nat)<=40000000000000)⟩
end
def awq(t:Tn):∀(f:Nat) (w:Bool) (p:List Nd),t.size<=f->p.length+t.size<=1048576->
  M.iU f t.kind t.op t.text t.other (gZ w t.kids) (aQ true p)=some (aQ true (p++t.flat p.length)):=by
 refine Tn.ind (P:=λt=>∀(f:Nat) (w:Bool) (p:List Nd),t.size<=f->p.length+t.size<=1048576->M.iU f t.kind t.op t.text t.other (gZ w t.kids) (aQ true p)=some (aQ true (p++t.flat p.length))) ?_ t;intro k op x y ks ih f w p hf hp;cases f with
 |zero=>rw[Tn.size] at hf;omega
 |succ f=>
  rw[Tn.size] at hf hp;have hkl:=lW ks;simp only[lK,M.iU,M.AZ,Tn.kids,Tn.kind,Tn.op,Tn.text,Tn.other,iY];have hrec:∀j t,ks[j]? =some t->M.iU f t.kind t.op t.text t.other (gZ w t.kids) (aQ true (p++jA (ks.take j) p.length))=some (aQ true (p++jA (ks.take (j+1)) p.length)):=by
   intro j t hj;have hst:=NJ hj;have hfl:(p++jA (ks.take j) p.length).length=p.length+sizes (ks.take j):=by rw[qO,mX]
   have:=ih t (Gy hj) f w (p++jA (ks.take j) p.length) (by omega) (by rw[hfl];omega);rw[this,hfl,abG hj,Bf]
  have hloop:=fF (b:=M.ql (M.iU f))
   (t:=if ks=[] then .inl (gZ w ks,(ks.length:Int),0,aQ true p,k,op,x,y) else .inr (gZ w ks,(ks.length:Int),(ks.length:Int),aQ true (p++jA ks p.length),k,op,x,y,encI (ends ks p.length)))
   (λj=>if j=0 then .inl (gZ w ks,(ks.length:Int),0,aQ true p,k,op,x,y) else .inr (gZ w ks,(ks.length:Int),(j:Int),aQ true (p++jA (ks.take j) p.length),k,op,x,y,encI (ends (ks.take j) p.length))) ks.length
   (by
    intro j hj;obtain⟨t,ht⟩:∃t,ks[j]? =some t:=⟨ks[j],by simp⟩
    have hr:=hrec j t ht;have hst:=NJ ht;have hp1:=t.size_pos;have hg:(gZ w ks)[j]? =some (t.row w):=by rw[MJ];simp[ht]
    have hc0:fQ .i64 (t.row w) 0=some t.kind:=by cases t;rfl
    have hc1:fQ .i64 (t.row w) 1=some t.op:=by cases t;rfl
    have hc2:cStr (t.row w) 2=some t.text:=by cases t;rfl
    have hc3:cStr (t.row w) 3=some t.other:=by cases t;rfl
    have hc4:SK 5 (t.row w) 4=some (gZ w t.kids):=by cases t;rfl
    have hfl:(aQ true (p++jA (ks.take (j+1)) p.length)).length=p.length+sizes (ks.take j)+t.size:=by rw[dn,qO,mX,fP ht,mW,sizes,sizes];omega
    rw[if_neg (show¬j+1=0 by omega),adA ht]
    by_cases h0:j=0
    ·subst h0;rw[if_pos rfl];have hi:idx (gZ w ks) 0=some (t.row w):=by have:=bU (gZ w ks) 0;rw[rG] at this;rw[this,hg]
     have hr0:M.iU f t.kind t.op t.text t.other (gZ w t.kids) (aQ true p)=some (aQ true (p++jA (ks.take (0+1)) p.length)):=by rw[<-hr];simp[jA]
     simp only[lK,M.ql,M.nH,hi,ah,hc0,hc1,hc2,hc3,hc4,hr0,hfl];rw[zdt (by omega),aT,aC (by omega) (by omega),aC (by omega) (by omega)];rfl
    ·rw[if_neg h0];simp only[lK,M.ql,M.nH,bU,hg,ah,hc0,hc1,hc2,hc3,hc4,hr,hfl,aU,gU,PW,LJ];rw[zdt (by omega),aT,bn (by omega),aT,bn (by omega),aT,aC (by omega) (by omega),aC (by omega) (by omega)];simp[encI])
   (by
    by_cases h0:ks.length=0
    ·have he:ks=[]:=List.length_eq_zero_iff.1 h0;rw[if_pos h0,if_pos he];simp only[lK,M.ql,M.nH];rw[qN (by omega),cu]
    ·have he:¬ks=[]:=λe=>h0 (by rw[e];rfl)
     rw[if_neg h0,if_neg he,List.take_length];simp only[lK,M.ql,M.nH];rw[qN (by omega),cu]) 0 (Nat.zero_le _)
  rw[if_pos rfl] at hloop;rw[M.EH,hloop,ah]
  by_cases he:ks=[]
  ·rw[if_pos he];subst he;simp only[qR,dn,LJ];rw[bn (by omega),aT,bn (by omega),aT,MC];rfl
  ·rw[if_neg he];simp only[qR,letE,dn,qO,mX,LJ,Bh,aT];rw[bn (by omega),aT,bn (by omega),aT,Tn.flat,<-Bf];simp only[MC];rfl
def aru{t:Tn}{w:Bool}(h:t.size<=1048576):M.ru t.kind t.op t.text t.other (gZ w t.kids)=some (aQ true (t.flat 0)):=by have:=M.XM (awq t t.size w [] (Nat.le_refl _) (by simpa using h));simp only[M.ru,M.EI];have e:aQ true ([]:List Nd)=[]:=rfl;rw[e] at this;rw[this,ah];simp
def ajO{T:Tn}{o:Bool}(hT:T.size<=1048576):QJ (aQ o (T.flat 0))=some ((T.flat 0).map nk):=XT o _ λn hn=>by have:=(ML T 0 n hn).1;omega
def ab8{T:Tn}{o:Bool}(hT:T.size<=400):M.fM (aQ o (T.flat 0))=some (encI (T.Zg 0),true):=by have hp:=T.size_pos;simp only[M.fM,ajO (T:=T) (o:=o) (by omega),ah,ash,List.length_map];rw[if_pos (by rw[T.flat_length];omega),mM,if_pos (by rw[GR,T.flat_length];omega),Oh];obtain⟨u,hu,hl⟩:=T.Wu 0;simp only[T.flat_length];rw[hu,<-hl];simp[Oi,encI]
def afe{T t:Tn}{o:Bool}{b:Nat}(hT:T.size<=400)(h:Lies (T.flat 0) b t):M.GV (aQ o (T.flat 0)) ((b+sizes t.kids:Nat):Int)=some (aQ true (t.flat 0)):=by
 have hlt:=h.lt;rw[T.flat_length] at hlt;have hs:=t.vK;have hst:=h.Zg rfl;rw[show b+t.size - 1=b+sizes t.kids by omega] at hst;have hg2:(encI (T.Zg 0))[(((b+sizes t.kids:Nat):Int)).toNat]? =some [D.int .i64 (b:Int)]:=by rw[QS,kU,hst];rfl
 have hso:M.wG (aQ o (T.flat 0)) ((b+sizes t.kids:Nat):Int)=some (b:Int):=by simp only[M.wG,M.II,ab8 hT,ah,Bool.not_true,cu,bQ,dn,T.flat_length];rw[aC (by omega) (by omega),zdt (by omega),zdt (by omega)];simp only[Bool.and_self,Bool.not_true,cu,bU,kU,hst,hg2,He,ah,MI]
 have ht:=Za (o:=o) (l:=T.flat 0) (by rw[T.flat_length];omega) h;have hl:=aru (t:=t) (w:=false) (by omega);simp only[M.GV,M.Om,hso,ah,ht,Wx,hl,alZ,aT];rw[qN (by omega),cu]
structure Py(T:Tn):Prop where
 ok:Az T
 k:T.kind=45
 sm:VE T
 p:pln T
 z:T.size<=400
def Py.its{T:Tn}(h:Py T):∀u,u∈T.kids->Iy u:=by intro u hu;have hz:=h.z;have hks:=T.vK;have hs:=kP hu;have hp:=h.p;have hi:=aQt h.ok h.k h.sm (by omega) u hu;obtain⟨k,op,x,y,ks⟩:=T;rw[pln] at hp;simp only[Tn.kids] at *;exact⟨hi,Sr.1 hp.2 u hu,by omega⟩
def aiw{t:Tn}(hz:t.size<=400)(h:(abV t).length<=40000000000000):(ape t).length<=50000000000000∧(Lib.decDigits (VD (t.flat 0))).length<=1000:=by have h1:=X6 (t.flat 0);rw[t.flat_length] at h1;have h2:=akG _ _ (Nat.le_refl (VD (t.flat 0)));refine⟨?_,by omega⟩;rw[ape];simp only[qO,ng,zo];omega
def amb{T:Tn}(h:Py T)(o:Bool):M.FU (aQ o (T.flat 0)) (encI (ends T.kids 0)) (0,[])=some ((T.kids.length:Int),encS (yc T.kids)):=by
 have hT:=h.z;have hTk:=T.vK;have hl:(T.flat 0).length<=1048576:=by rw[T.flat_length];omega
 have its:=h.its;have hat:At (T.flat 0) 0 T.kids:=by have hw:=Lies.whole T;obtain⟨k,op,x,y,ks⟩:=T;exact λj u hj=>Lies.OO hw hj
 obtain⟨ks,hk⟩:∃ks,T.kids=ks:=⟨_,rfl⟩
 rw[hk] at its hat hTk⊢;have hkl:=lW ks;have hel:(encI (ends ks 0)).length=ks.length:=by rw[aU,gU]
 exact fF (b:=M.Cj (aQ o (T.flat 0)) (encI (ends ks 0))) (t:=((ks.length:Int),encS (yc ks))) (λj=>((j:Int),encS (yc (ks.take j)))) ks.length
  (by
   intro j hj;obtain⟨u,hu⟩:∃u,ks[j]? =some u:=⟨ks[j],by simp[hj]⟩
   have hi:=Df (b:=0) hu;have hlu:=hat j u hu;have hr:=SI (o:=o) hlu;have hy:=its u (Gy hu);have hw:i64.wrap ((j:Int)+1)=((j+1:Nat):Int):=by rw[aC (by omega) (by omega)];omega
   simp only[lK,M.Cj,M.xg,hel,hi,MI,hr,Lp,ah,hw];rw[zdt (by omega),aT,fP hu,Vq,yc,yc,List.append_nil];cases h34:u.kind==34 with
   |true=>rw[aT,aT,List.append_nil]
   |false=>
    have hpt:=arq (o:=o) (T:=T) (by omega) hlu;have hst:=Vx (u.flat 0) false (by rw[u.flat_length];have:=hy.z;omega);have h1:=X6 (u.flat 0);rw[u.flat_length] at h1;have hd:=ait (VD (u.flat 0)) (by have:=hy.z;omega);have hh:=apx (o:=o) hl hy hlu;have hll:=aiw hy.z hh.2;have hsl:(encS (yc (ks.take j))).length<=1000000:=by have:=QD (ks.take j);rw[PW] at this;rw[kR];omega
    simp only[cu,hpt,aaX,hst,hd,hh.1,ah,ng,zo];have hh2:=hh.2;rw[bn (by omega),aT,bn (by simp only[qO,ng,zo];omega),aT,bn (by omega),aT,bn (by omega),aT];simp only[encS,List.map_append];rfl)
  (by simp only[lK,M.Cj,M.xg,hel];rw[qN (by omega),cu,List.take_length]) 0 (Nat.zero_le _)
abbrev Str:=aA
variable {α:Type}
def apy(l:List Str)(j:Nat)(s:Str):(encS l).set j [D.str s]=encS (l.set j s):=by simp[encS,List.map_set]
def mkd(g:Nat->α)(l:List α)(i:Nat):List α:=(List.range i).map g++l.drop i
def apz(g:Nat->α)(l:List α):mkd g l 0=l:=by simp[mkd]
def arv(g:Nat->α)(l:List α):mkd g l l.length=(List.range l.length).map g:=by simp[mkd]
def ab9(g:Nat->α)(l:List α){i:Nat}(h:i<=l.length):(mkd g l i).length=l.length:=by simp[mkd];omega
def arw(g:Nat->α){l:List α}{i:Nat}{x:α}(h:l[i]? =some x):(mkd g l i)[i]? =some x:=by rw[mkd,List.getElem?_append_right (by simp)];simpa using h
def arx(g:Nat->α){l:List α}{i:Nat}(h:i<l.length):(mkd g l i).set i (g i)=mkd g l (i+1):=by unfold mkd;have hd:l.drop i=l[i]::l.drop (i+1):=List.drop_eq_getElem_cons h;rw[hd,List.set_append_right _ _ (by simp),List.length_map,List.length_range,Nat.sub_self,List.set_cons_zero,List.range_succ,List.map_append,Bf];rfl
def acd(l:List Str)(hl:l.length<=1000000000):M.mQ (encS l) (encS l)=some true:=by
 simp only[M.mQ,M.EL,bne_self_eq_false,cu];have hloop:=fF (b:=M.yF (encS l) (encS l)) (t:=.inr ((l.length:Int))) (λi=>(i:Int)) l.length
  (by
   intro i hi;obtain⟨x,hx⟩:∃x,l[i]? =some x:=⟨l[i],by simp[hi]⟩
   simp only[M.yF,M.sO,kR,bU,IZ,hx,He,ah,cS0,beq_self_eq_true,Bool.not_true,cu];rw[zdt (by omega),aT,aC (by omega) (by omega)];simp)
  (by simp only[M.yF,M.sO,kR];rw[qN (by omega),cu]) 0 (Nat.zero_le _)
 rw[rG] at hloop;rw[M.CV,hloop,ah];rfl
noncomputable def mks(k:Int)(n:Nat):List Str:=(List.range n).map fun(j:Nat)=>mk (k+j)
def ace(k:Int)(n:Nat):(mks k n).length=n:=by simp[mks]
def arz(k:Int){n i:Nat}(h:i<n):(mks k n)[i]? =some (mk (k+i)):=by simp[mks,h]
def acf(k:Int)(l:List Str)(h0:0<=k)(h1:k<=1000000000)(hl:l.length<=1000000000):M.nI k (encS l)=some (k+l.length,encS (mks k l.length)):=by
 simp only[M.nI,M.Ar];have hloop:=fF (b:=M.vg) (t:=(k+l.length,(l.length:Int),encS (mks k l.length))) (λi=>(k+i,(i:Int),encS (mkd (λj=>mk (k+j)) l i))) l.length
  (by
   intro i hi;obtain⟨x,hx⟩:∃x,l[i]? =some x:=⟨l[i],by simp[hi]⟩
   simp only[M.vg,M.pG,kR,ab9 _ l (Nat.le_of_lt hi),bU,IZ,arw _ hx,Ou (k+i) (by omega),He,ah,QS];rw[zdt (by omega),aT,aC (by omega) (by omega),aC (by omega) (by omega)];have hs:splice [D.str x] 0 [D.str (mk (k+i))]=[D.str (mk (k+i))]:=rfl;rw[hs,apy,arx (λj=>mk (k+j)) hi];congr 3;omega)
  (by simp only[M.vg,M.pG,kR,ab9 _ l (Nat.le_refl _)];rw[qN (by omega),cu,arv];rfl) 0 (Nat.zero_le _)
 simp only[rG,Int.add_zero,apz] at hloop;rw[M.yH,hloop,ah]
def acg(k:Int)(n:Nat)(h0:0<=k)(h1:k<=1000000000)(hl:n<=1000000000):M.lT (encS (mks k n)) k=some (k+n):=by
 simp only[M.lT,M.Au];have hloop:=fF (b:=M.vk (encS (mks k n))) (t:=.inr (k+n,(n:Int))) (λi=>(k+i,(i:Int))) n
  (by intro i hi;simp only[M.vk,M.pJ,kR,ace,bU,IZ,arz k hi,Ou (k+i) (by omega),He,ah,cS0,beq_self_eq_true,Bool.not_true,cu];rw[zdt (by omega),aT,aC (by omega) (by omega),aC (by omega) (by omega)];congr 3;omega)
  (by simp only[M.vk,M.pJ,kR,ace];rw[qN (by omega),cu]) 0 (Nat.zero_le _)
 simp only[rG,Int.add_zero] at hloop;rw[M.yI,hloop,ah];rfl
mutual
def apA:∀t:Tn,dcR t (NV false t)
 | .mk k n x y ks=>⟨vH false ks,0,rfl,Vz ks⟩
def Vz:∀ts:List Tn,aeX ts (vH false ts)
 |[]=>rfl
 |t::ts=>⟨NV false t,vH false ts,rfl,apA t,Vz ts⟩
end
def awr{u:Tn}(h:Ey u):M.kQ (Gu u).kind (Gu u).op (Gu u).text (vH false (Gu u).kids) 0=some (flR (KR (Gu u))):=by have h2:=ajz 1000000000 (Gu u) 0 (Xe _ 0 h.Tv);have h3:=h.size;exact M.XQ (ard (Gu u) (Gu u).size _ 0 (Nat.le_refl _) (Vz _) (by omega))
def arA{ks:List Tn}(h:Ry ks):M.Bd (gZ false ks) (ks.length:Int) (0,[])=some ((ks.length:Int),encS (lI ks)):=by
 have hn:=h.n;exact fF (b:=M.CS (gZ false ks) (ks.length:Int)) (t:=((ks.length:Int),encS (lI ks))) (λj=>((j:Int),encS (lI (ks.take j)))) ks.length
  (by
   intro j hj;obtain⟨u,hu⟩:∃u,ks[j]? =some u:=⟨ks[j],by simp[hj]⟩
   obtain⟨c0,c1,c2,c3,c4⟩:=PN false u;have hix:=PO false hu;have hix2:(gZ false ks)[((j:Nat):Int).toNat]? =some (u.row false):=by rw[QS,<-bU];exact hix
   have hw:i64.wrap ((j:Int)+1)=((j+1:Nat):Int):=by rw[aC (by omega) (by omega)];omega
   have hsl:(encS (lI (ks.take j))).length<=1000000:=by have:=QH (ks.take j);rw[PW] at this;rw[kR];omega
   simp only[lK,M.CS,M.xH,hix,hix2,c0,c1,c2,c3,c4,ah,hw,bne];rw[zdt (by omega),aT,fP hu,Vp,lI,lI,List.append_nil];cases h33:u.kind==33 with
   |true=>simp only[Bool.not_true,cu,aT,List.append_nil]
   |false=>have hy:Ey u:=(h.k u (Gy hu)).resolve_left (OV.1 h33);have ht:=aFI hy.x false;have hf:=awr hy;simp only[Bool.not_false,aT,cu,ht,ah,MG,WW,hf,ng,zo];rw[bn (by omega),aT,bn (by omega),aT];simp only[encS,List.map_append];rfl)
  (by simp only[lK,M.CS,M.xH];rw[qN (by omega),cu,List.take_length]) 0 (Nat.zero_le _)
def awt{ks:List Tn}(h:Ry ks):M.strings_Join (encS (lI ks)) [44,32]=some (uX (lI ks) true):=by have hn:=h.n;have h1:=afc (lI ks) (λx hx=>Yj h.k hx);have h2:=QH ks;have h3:5000000000000 * (lI ks).length<=5000000000000 * 7:=Nat.mul_le_mul_left _ (by omega);simp only[M.strings_Join,Yi];rw[bn (by simp only[ng,zo];omega),aT,(Ox _).1]
def apB{T t:Tn}{o:Bool}{b:Nat}(hOk:Jy (T.flat 0)=true)(ol:Ok (T.flat 0))(hT:T.size<=400)(hi:Iy t)(h:Lies (T.flat 0) b t):M.zS (aQ o (T.flat 0)) ((b+sizes t.kids:Nat):Int)=some (abV t):=by
 have hlt:=h.lt;rw[T.flat_length] at hlt;have hs:=t.vK;have a2:=RZ (T.flat 0) o (by have:=ol.len;omega) ol.k ol.sm;have ht:=Za (o:=o) (l:=T.flat 0) (by rw[T.flat_length];omega) h;have hss:=Xa hi.i.sm;have htx:=Xg hi.i.sm;simp only[M.zS,M.Kw,a2,hOk,ah,Bool.not_true,cu,bQ,dn,T.flat_length];rw[aC (by omega) (by omega),zdt (by omega),zdt (by omega)];simp only[Bool.and_self,Bool.not_true,cu,ah,ht,Wx,iY];unfold abV;rcases Vu hi.i.ok hi.i.i hi.i.sm hi.i.sz with⟨u,hk,_⟩|⟨hk,hn,_⟩|⟨hk,h1,h7,u,hu,_⟩|hk
 ·rcases hk with hk|hk
  ·rw[hk];rfl
  ·rw[hk];rfl
 ·have hR:=hi.rule hk;have hlp:=arA hR;have hj:=awt hR;rw[hlp];simp only[ah,hj];rcases hk with hk|hk
  ·rw[hk];rfl
  ·rw[hk];rfl
 ·have hd:=(awo (ks:=t.kids) (λu hu=>Xg (KF hss hu)) h1 (by omega) t.kind t.op t.text t.other htx false).1;rw[hd];simp only[ah];rw[hk];rfl
 ·rw[hk];rfl
def amc{T:Tn}(hOk:Jy (T.flat 0)=true)(ol:Ok (T.flat 0))(h:Py T)(o:Bool):M.F9 (aQ o (T.flat 0)) (encI (ends T.kids 0)) (T.kids.length:Int) (0,[])=some ((T.kids.length:Int),encS (yc T.kids)):=by
 have hT:=h.z;have hTk:=T.vK;have hl:(T.flat 0).length<=1048576:=by rw[T.flat_length];omega
 have its:=h.its;have hat:At (T.flat 0) 0 T.kids:=by have hw:=Lies.whole T;obtain⟨k,op,x,y,ks⟩:=T;exact λj u hj=>Lies.OO hw hj
 obtain⟨ks,hk⟩:∃ks,T.kids=ks:=⟨_,rfl⟩
 rw[hk] at its hat hTk⊢;have hkl:=lW ks;exact fF (b:=M.CU (aQ o (T.flat 0)) (encI (ends ks 0)) (ks.length:Int)) (t:=((ks.length:Int),encS (yc ks))) (λj=>((j:Int),encS (yc (ks.take j)))) ks.length
  (by
   intro j hj;obtain⟨u,hu⟩:∃u,ks[j]? =some u:=⟨ks[j],by simp[hj]⟩
   have hi:=Df (b:=0) hu;have hlu:=hat j u hu;have hr:=SI (o:=o) hlu;have hy:=its u (Gy hu);have hw:i64.wrap ((j:Int)+1)=((j+1:Nat):Int):=by rw[aC (by omega) (by omega)];omega
   simp only[lK,M.CU,M.xI,hi,MI,hr,Lp,ah,hw,bne];rw[zdt (by omega),aT,fP hu,Vq,yc,yc,List.append_nil];cases h34:u.kind==34 with
   |true=>simp only[Bool.not_true,cu,aT,List.append_nil]
   |false=>
    have hpt:=afe (o:=o) hT hlu;have hst:=Vy (u.flat 0) false (by rw[u.flat_length];have:=hy.z;omega);have h1:=X6 (u.flat 0);rw[u.flat_length] at h1;have hd:=aiu (VD (u.flat 0)) (by have:=hy.z;omega);have hh:=apx (o:=o) hl hy hlu;have hh2:=hh.2;have hi2:=apB (o:=o) hOk ol hT hy hlu;have hll:=aiw hy.z hh.2;have hsl:(encS (yc (ks.take j))).length<=1000000:=by have:=QD (ks.take j);rw[PW] at this;rw[kR];omega
    simp only[Bool.not_false,aT,cu,hpt,aaX,hst,hd,hi2,ah,ng,zo];rw[bn (by omega),aT,bn (by simp only[qO,ng,zo];omega),aT,bn (by omega),aT,bn (by omega),aT];simp only[encS,List.map_append];rfl)
  (by simp only[lK,M.CU,M.xI];rw[qN (by omega),cu,List.take_length]) 0 (Nat.zero_le _)
def ajP{l:List Nd}(h:Ok l):∃L:List (aA),L.length<=400∧M.wE (aQ false l)=some (encS L)∧M.tq (aQ false l)=some (encS L):=by
 have a1:=abE l false (by have:=h.len;omega) h.k h.sm;have a2:=RZ l false (by have:=h.len;omega) h.k h.sm;have bad:∃L:List (aA),L.length<=400∧(some ([]:au))=some (encS L)∧(some ([]:au))=some (encS L):=⟨[],Nat.zero_le _,rfl,rfl⟩
 simp only[M.wE,M.Iu,M.tq,M.IU,M.uD,M.Ei,M.uH,M.EF,a1,a2,ah];cases pa:Jy l with
 |false=>exact bad
 |true=>
  obtain⟨T,rfl,hTs⟩:=ajd (aeW pa);have hT:T.size<=1048576:=by omega
  have hok:=ajv pa h.sm;have hp:=ahZ pa h.sm;have hsm:=(akO T 0).2 h.sm;have hr:=SI (o:=false) (Lies.whole T);have hks:=T.vK;have hla:i64.wrap (((aQ false (T.flat 0)).length:Int) - 1)=((0+sizes T.kids:Nat):Int):=by rw[dn,T.flat_length,aC (by omega) (by omega)];omega
  simp only[aT,hla,hr,ah,Lp,Jo]
  by_cases hk:T.kind=45
  ·have hP:Py T:=⟨hok,hk,hsm,hp,hTs⟩
   have e1:(T.kind==45)=true:=by rw[hk];rfl
   have h1:=amb hP false;have h2:=amc pa h hP false;have hel:((encI (ends T.kids 0)).length:Int)=(T.kids.length:Int):=by rw[aU,gU]
   refine⟨yc T.kids, ?_, ?_, ?_⟩
   ·have:=QD T.kids;have:=lW T.kids;omega
   ·simp only[e1,Bool.not_true,cu,h1,ah,Vw,aT]
   ·simp only[e1,Bool.not_true,cu,hel,h2,ah,Vw,aT]
  ·have e1:(T.kind==45)=false:=by rw[OV];exact hk
   simp only[e1];exact bad
def ajQ(l:List (aA)):[[D.sl true 1 (encS l)]].all eY=true:=by
 have:uy (encS l)=true:=by
  induction l with
  |nil=>rfl
  |cons x l ih=>have e:encS (x::l)=[D.str x]::encS l:=rfl;rw[e];simp only[uy,eY,D.pure,ih];rfl
 simp[eY,D.pure,this]
def aix(l:List Nd)(hl:l.length<=maxLen)(hf:∀n,n∈l->Fit n):M.lZ (aQ false l)=some true:=by
 simp only[M.lZ,M.vC];rw[ajo l false 1048576 (by omega) (by omega) hl hf,ah]
 by_cases hs:(l.length+wNs l:Int)<=1048576
 ·rw[if_pos hs,qN (by omega),cu];have hkk:∀n,n∈l->n.kids.length<=1048576:=by intro n hn;have h1:=akx hn;have h2:wN n=n.text.length+n.other.length+n.kids.length:=rfl;omega
  have ol:Ok l:=aFA hs hf (by omega) hkk;obtain⟨L,hL,h1,h2⟩:=ajP ol;have a1:=ajp l false ol.len ol.k;have a3:=acd L (by omega);have a4:=aeM l false false hl (λn hn=>(hf n hn).kids);have a6:=aeV 1 l (by omega) (by have:=ol.w;omega);have a7:=acf 1 L (by omega) (by omega) (by omega);have a8:=acg 1 L.length (by omega) (by omega) (by omega);have d1:decide ((1:Int)+(wK l:Int)<0)=false:=qN (by omega);have d2:decide ((1:Int)+(L.length:Int)<0)=false:=qN (by omega);simp only[a1,aaX,h1,h2,a3,a4,a6,a7,a8,d1,d2,ah,ajQ,aT,cu,Bool.not_true,bne_self_eq_false]
 ·rw[if_neg hs];rfl
end Go.Proofs.YtbgadfelmhoheaaGreatDoor
namespace Go.Proofs
open Go.Shelf
open Go.IntKind (i64)
def Tryz.lays156_ren:Go.Shelf.Ren:=⟨fun|156=>58|165=>98|166=>99|169=>100|240=>155|241=>156|276=>211|277=>212|n=>n,fun|31=>24|9=>9|3=>3|4=>4|0=>0|20=>20|72=>118|76=>122|70=>116|37=>60|75=>121|127=>156|164=>181|5=>5|80=>124|n=>n,fun|n=>n⟩
def Tryz.lays156:Go.Proofs.Lays.n156 Tryz.prog Tryz.lays156_ren:={
 mixed:=by kernel_rfl
 f156:=Tryz.func58.trans (congrArg some (by kernel_rfl))
 f165:=Tryz.func98.trans (congrArg some (by kernel_rfl))
 f166:=Tryz.func99.trans (congrArg some (by kernel_rfl))
 f169:=Tryz.func100.trans (congrArg some (by kernel_rfl))
 f240:=Tryz.func155.trans (congrArg some (by kernel_rfl))
 f241:=Tryz.func156.trans (congrArg some (by kernel_rfl))
 f276:=Tryz.func211.trans (congrArg some (by kernel_rfl))
 f277:=Tryz.func212.trans (congrArg some (by kernel_rfl))
 t0:=Tryz.underlying0
 a0:=Tryz.isAgg0
 z0:=Tryz.sizeOf0
 v0:=Tryz.zeroValue0
 t3:=Tryz.underlying3
 a3:=Tryz.isAgg3
 z3:=Tryz.sizeOf3
 v3:=Tryz.zeroValue3
 t4:=Tryz.underlying4
 a4:=Tryz.isAgg4
 z4:=Tryz.sizeOf4
 v4:=Tryz.zeroValue4
 t9:=Tryz.underlying9
 a9:=Tryz.isAgg9
 z9:=Tryz.sizeOf9
 v9:=Tryz.zeroValue9
 t20:=Tryz.underlying20
 a20:=Tryz.isAgg20
 z20:=Tryz.sizeOf20
 v20:=Tryz.zeroValue20
 t31:=Tryz.underlying24
 a31:=Tryz.isAgg24
 z31:=Tryz.sizeOf24
 v31:=Tryz.zeroValue24
 t37:=Tryz.underlying60
 a37:=Tryz.isAgg60
 z37:=Tryz.sizeOf60
 v37:=Tryz.zeroValue60
 t70:=Tryz.underlying116
 a70:=Tryz.isAgg116
 z70:=Tryz.sizeOf116
 v70:=Tryz.zeroValue116
 t72:=Tryz.underlying118
 a72:=Tryz.isAgg118
 z72:=Tryz.sizeOf118
 v72:=Tryz.zeroValue118
 t75:=Tryz.underlying121
 a75:=Tryz.isAgg121
 z75:=Tryz.sizeOf121
 v75:=Tryz.zeroValue121
 t76:=Tryz.underlying122
 a76:=Tryz.isAgg122
 z76:=Tryz.sizeOf122
 v76:=Tryz.zeroValue122
 t127:=Tryz.underlying156
 a127:=Tryz.isAgg156
 z127:=Tryz.sizeOf156
 v127:=Tryz.zeroValue156
 t164:=Tryz.underlying181
 a164:=Tryz.isAgg181
 z164:=Tryz.sizeOf181
 v164:=Tryz.zeroValue181}
def Tryz.laysM171_ren:Go.Shelf.Ren:=⟨fun|171=>49|243=>93|246=>148|283=>197|284=>198|285=>199|286=>200|129=>245|317=>244|318=>246|319=>247|320=>248|337=>266|338=>267|n=>n,fun|3=>3|9=>9|2=>2|4=>4|171=>170|0=>0|53=>171|37=>60|5=>5|173=>174|212=>203|51=>204|20=>20|213=>205|46=>206|232=>226|233=>227|n=>n,fun|17=>3|18=>5|19=>6|n=>n⟩
def Tryz.laysM171:Go.Proofs.LaysM.n171 Tryz.prog Tryz.laysM171_ren:={
 mixed:=by kernel_rfl
 f129:=Tryz.func245.trans (congrArg some (by kernel_rfl))
 f171:=Tryz.func49.trans (congrArg some (by kernel_rfl))
 f243:=Tryz.func93.trans (congrArg some (by kernel_rfl))
 f246:=Tryz.func148.trans (congrArg some (by kernel_rfl))
 f283:=Tryz.func197.trans (congrArg some (by kernel_rfl))
 f284:=Tryz.func198.trans (congrArg some (by kernel_rfl))
 f285:=Tryz.func199.trans (congrArg some (by kernel_rfl))
 f286:=Tryz.func200.trans (congrArg some (by kernel_rfl))
 f317:=Tryz.func244.trans (congrArg some (by kernel_rfl))
 f318:=Tryz.func246.trans (congrArg some (by kernel_rfl))
 f319:=Tryz.func247.trans (congrArg some (by kernel_rfl))
 f320:=Tryz.func248.trans (congrArg some (by kernel_rfl))
 f337:=Tryz.func266.trans (congrArg some (by kernel_rfl))
 f338:=Tryz.func267.trans (congrArg some (by kernel_rfl))
 t0:=Tryz.underlying0
 a0:=Tryz.isAgg0
 z0:=Tryz.sizeOf0
 v0:=Tryz.zeroValue0
 t2:=Tryz.underlying2
 a2:=Tryz.isAgg2
 z2:=Tryz.sizeOf2
 v2:=Tryz.zeroValue2
 t3:=Tryz.underlying3
 a3:=Tryz.isAgg3
 z3:=Tryz.sizeOf3
 v3:=Tryz.zeroValue3
 t4:=Tryz.underlying4
 a4:=Tryz.isAgg4
 z4:=Tryz.sizeOf4
 v4:=Tryz.zeroValue4
 t5:=Tryz.underlying5
 a5:=Tryz.isAgg5
 z5:=Tryz.sizeOf5
 v5:=Tryz.zeroValue5
 t9:=Tryz.underlying9
 a9:=Tryz.isAgg9
 z9:=Tryz.sizeOf9
 v9:=Tryz.zeroValue9
 t20:=Tryz.underlying20
 a20:=Tryz.isAgg20
 z20:=Tryz.sizeOf20
 v20:=Tryz.zeroValue20
 t37:=Tryz.underlying60
 a37:=Tryz.isAgg60
 z37:=Tryz.sizeOf60
 v37:=Tryz.zeroValue60
 t46:=Tryz.underlying206
 a46:=Tryz.isAgg206
 z46:=Tryz.sizeOf206
 v46:=Tryz.zeroValue206
 t51:=Tryz.underlying204
 a51:=Tryz.isAgg204
 z51:=Tryz.sizeOf204
 v51:=Tryz.zeroValue204
 t53:=Tryz.underlying171
 a53:=Tryz.isAgg171
 z53:=Tryz.sizeOf171
 v53:=Tryz.zeroValue171
 t171:=Tryz.underlying170
 a171:=Tryz.isAgg170
 z171:=Tryz.sizeOf170
 v171:=Tryz.zeroValue170
 t173:=Tryz.underlying174
 a173:=Tryz.isAgg174
 z173:=Tryz.sizeOf174
 v173:=Tryz.zeroValue174
 t212:=Tryz.underlying203
 a212:=Tryz.isAgg203
 z212:=Tryz.sizeOf203
 v212:=Tryz.zeroValue203
 t213:=Tryz.underlying205
 a213:=Tryz.isAgg205
 z213:=Tryz.sizeOf205
 t232:=Tryz.underlying226
 a232:=Tryz.isAgg226
 z232:=Tryz.sizeOf226
 v232:=Tryz.zeroValue226
 t233:=Tryz.underlying227
 a233:=Tryz.isAgg227
 z233:=Tryz.sizeOf227
 v233:=Tryz.zeroValue227
 g17:=by kernel_rfl
 g18:=by kernel_rfl
 g19:=by kernel_rfl
 i0:=by kernel_rfl
 i2:=by kernel_rfl
 i3:=by kernel_rfl
 i4:=by kernel_rfl
 i5:=by kernel_rfl
 i9:=by kernel_rfl
 i20:=by kernel_rfl
 i37:=by kernel_rfl
 i46:=by kernel_rfl
 i51:=by kernel_rfl
 i53:=by kernel_rfl
 i171:=by kernel_rfl
 i173:=by kernel_rfl
 i212:=by kernel_rfl
 i232:=by kernel_rfl
 i233:=by kernel_rfl
 m17:=by kernel_rfl
 m18:=by kernel_rfl
 m19:=by kernel_rfl}
def Tryz.lays144_ren:Go.Shelf.Ren:=⟨fun|144=>242|143=>265|219=>276|217=>261|225=>283|224=>284|267=>285|266=>275|314=>288|n=>n,fun|9=>9|4=>4|3=>3|5=>5|46=>206|146=>235|51=>204|n=>n,fun|1=>4|n=>n⟩
def Tryz.lays144:Go.Proofs.Lays.n144 Tryz.prog Tryz.lays144_ren:={
 mixed:=by kernel_rfl
 f143:=Tryz.func265.trans (congrArg some (by kernel_rfl))
 f144:=Tryz.func242.trans (congrArg some (by kernel_rfl))
 f217:=Tryz.func261.trans (congrArg some (by kernel_rfl))
 f219:=Tryz.func276.trans (congrArg some (by kernel_rfl))
 f224:=Tryz.func284.trans (congrArg some (by kernel_rfl))
 f225:=Tryz.func283.trans (congrArg some (by kernel_rfl))
 f266:=Tryz.func275.trans (congrArg some (by kernel_rfl))
 f267:=Tryz.func285.trans (congrArg some (by kernel_rfl))
 f314:=Tryz.func288.trans (congrArg some (by kernel_rfl))
 t3:=Tryz.underlying3
 a3:=Tryz.isAgg3
 z3:=Tryz.sizeOf3
 v3:=Tryz.zeroValue3
 t4:=Tryz.underlying4
 a4:=Tryz.isAgg4
 z4:=Tryz.sizeOf4
 v4:=Tryz.zeroValue4
 t5:=Tryz.underlying5
 a5:=Tryz.isAgg5
 z5:=Tryz.sizeOf5
 v5:=Tryz.zeroValue5
 t9:=Tryz.underlying9
 a9:=Tryz.isAgg9
 z9:=Tryz.sizeOf9
 v9:=Tryz.zeroValue9
 t46:=Tryz.underlying206
 a46:=Tryz.isAgg206
 z46:=Tryz.sizeOf206
 v46:=Tryz.zeroValue206
 t51:=Tryz.underlying204
 a51:=Tryz.isAgg204
 z51:=Tryz.sizeOf204
 v51:=Tryz.zeroValue204
 t146:=Tryz.underlying235
 a146:=Tryz.isAgg235
 z146:=Tryz.sizeOf235
 v146:=Tryz.zeroValue235
 g1:=by kernel_rfl}
def Tryz.Builder_Extra_156:Builder.Extra Tryz.prog Tryz.lays156_ren:={
 sizeBuilder:=by kernel_rfl
 liesBuilder:=by kernel_rfl
 t5:=Tryz.underlying5
 a5:=Tryz.isAgg5
 z5:=Tryz.sizeOf5
 v5:=Tryz.zeroValue5
 infoByte:=by kernel_rfl
 cellsByte:=by kernel_rfl
 sizeByte:=by kernel_rfl
 neB5:=by decide}
open Go.RowKit in
open Go.IntKind (i64)
def Tryz.strings_Join_none(a:Option Addr)(c:Nat)(sep:ByteArray)(w:World):
  Calls Tryz.prog 58 #[.slice a 0 c,.string sep] w λe w'=>e=.returned (.string ⟨#[]⟩)∧w'=w:=Any.strings_Join_none Tryz.lays156 Tryz.Builder_Extra_156 a c sep w
open Go.RowKit in
open Go.IntKind (i64)
def Tryz.strings_Join(bk o c:Nat)(xs:List ByteArray)(sep:ByteArray)(w:World)(hcells:∀(j:Nat) x,xs[j]? =some x->w.cell? ⟨bk,o+j,none⟩=some (.string x))(hbk:bk<w.heap.size)(hN:xs.length<=140737488355328)(hcap:xs.length<=c)(hlen:(Lib.join (xs.map (·.data.toList)) sep.data.toList).length<=140737488355328):
  Calls Tryz.prog 58 #[.slice (some ⟨bk,o,none⟩) xs.length c,.string sep] w λe w'=>e=.returned (.string ⟨(Lib.join (xs.map (·.data.toList)) sep.data.toList).toArray⟩)∧Go.RowKit.Below w.heap.size w w':=Any.strings_Join Tryz.lays156 Tryz.Builder_Extra_156 bk o c xs sep w hcells hbk hN hcap hlen
open Go.RowKit Go.Sort Go.Lib in
open Go.IntKind (i64)
def Tryz.strconv_Itoa (n : Int) (h0 : -9223372036854775808 <= n) (h1 : n <= 9223372036854775807) (w : World) (htab : Lib.TabIs Tryz.prog w "internal/strconv.uint64pow10" .u64 Lib.pow10Tab) :
  Calls Tryz.prog 49 #[.int .i64 n] w λe w'=>e=.returned (.string ⟨(Lib.itoa n).toArray⟩)∧∃k os,w' = Go.Sort.grow (w.drewN k) os:=Any.strconv_Itoa Tryz.laysM171 n h0 h1 w htab
open Go.RowKit Go.Lib in
open Go.IntKind (i64)
def Tryz.strings_Contains_one(s:ByteArray)(c:UInt8)(w:World):
  Calls Tryz.prog 242 #[.string s,.string ⟨#[c]⟩] w λe w'=>e=.returned (.bool (decide (0<=Lib.indexByte s.data.toList c)))∧w'=w:=Any.strings_Contains_one Tryz.lays144 s c w
end Go.Proofs
namespace Go.Proofs.YtbgadfelmhoheaaGreatDoor
set_option linter.unusedVariables false
set_option linter.unusedSimpArgs false
open Go Go.Vm
open Go.IntKind (i64)
def ZE{X:Ctx}(hP:X.P=Tryz.prog)(hm:∀i,i<2->BD X.G8 242 i=0)(fn:Func)(args:List V)(cells:List Cell)(rows:au)(outs:List Cell)(hf:X.P.funcs[242]? =some fn)(h:Prim.strings_Contains args cells=some (rows,outs))
  (base:Nat) (U:Nat->Prop) (w:World) (gargs iy:List Value) (N1 N2:List Nat) (hG:Given X base U w 242 args cells gargs iy N1 N2):
  Calls X.P 242 gargs.toArray w λe w'=>∃gs M1 M2,e=.returned (V9 gs)∧Did X.P U w w' (N1++N2) fn.resultTypes.toList cells outs iy rows gs M1 M2:=by
 unfold Prim.strings_Contains at h;split at h
 ·rename_i s t;unfold M.strings_Contains at h;split at h
  ·rename_i c;cases h;obtain⟨rfl,rfl,rfl,hs⟩:=aaZ hG hm;rw[ajc hs];rw[hP] at hf⊢;have hfn:fn.resultTypes.toList=[4]:=by rw[Tryz.func242] at hf;cases hf;rfl
   refine(Tryz.strings_Contains_one ⟨⟨s⟩⟩ c w).mono ?_;rintro e w' ⟨rfl,rfl⟩;rw[hfn];exact⟨[_],[],[],rfl,Qk (by kernel_rfl) (λ_ _=>⟨rfl,rfl⟩) (Keep.refl _ _)⟩
  ·cases h
 ·cases h
def cell_lt{w:World}{a:Addr}{v:Value}(h:w.cell? a=some v):a.block<w.heap.size:=by
 unfold World.cell? at h;cases hq:w.heap[a.block]? with
 |none=>rw[hq] at h;simp at h
 |some x=>exact(Array.getElem?_eq_some_iff.1 hq).1
def ajR{w w':World}(h:Go.RowKit.Below w.heap.size w w'):Keep [] w w':=⟨h.os,h.tape,h.output,h.size,λb hb _=>h.block b hb⟩
def Zb{h:View}:∀{rows:au} {l:List (aA)} {b o:Nat},ajj rows=some l->lM h 1 rows b o->rows.length=l.length∧∀j x,l[j]? =some x->h b (o+j)=some (.string ⟨⟨x⟩⟩)
 |[],_,b,o,e,_=>by cases e;exact⟨rfl,λj x h=>by simp at h⟩
 |r::rs,l,b,o,e,q=>by
  simp only[ajj] at e;split at e
  ·rename_i y;cases hd:ajj rs with
   |none=>rw[hd] at e;cases e
   |some l'=>
    rw[hd] at e;cases e;simp only[lM,su] at q;obtain⟨_,⟨⟨v,hv,hvv⟩,_⟩,q⟩:=q;simp only[ro] at hvv;subst hvv;obtain⟨e1,e2⟩:=Zb hd q;refine⟨by simp[e1],λj x hj=> ?_⟩;cases j with
    |zero=>simp at hj;subst hj;exact hv
    |succ j=>have:=e2 j x (by simpa using hj);rw[show o+(j+1)=o+1+j by omega];exact this
  ·cases e
def ach(sep:aA):∀l,joinL sep l=Lib.join l sep
 |[]=>rfl
 |[x]=>by rw[Lib.join_one];rfl
 |x::y::l=>by rw[joinL,ach sep (y::l)];simp[Lib.join,List.intercalate,List.intersperse]
def adW(sep:aA):∀l,(joinL sep l).length<=afM l+l.length * sep.length
 |[]=>by simp[joinL]
 |[x]=>by simp only[joinL,afM];omega
 |x::y::l=>by have:=adW sep (y::l);simp only[joinL,afM,qO,ng] at *;rw[Nat.add_mul (l.length+1) 1];omega
def aiy{X:Ctx}(hP:X.P=Tryz.prog)(hm:∀i,i<2->BD X.G8 58 i=0)(fn:Func)(args:List V)(cells:List Cell)(rows:au)(outs:List Cell)(hf:X.P.funcs[58]? =some fn)(h:Prim.strings_Join args cells=some (rows,outs))
  (base:Nat) (U:Nat->Prop) (w:World) (gargs iy:List Value) (N1 N2:List Nat) (hG:Given X base U w 58 args cells gargs iy N1 N2):
  Calls X.P 58 gargs.toArray w λe w'=>∃gs M1 M2,e=.returned (V9 gs)∧Did X.P U w w' (N1++N2) fn.resultTypes.toList cells outs iy rows gs M1 M2:=by
 unfold Prim.strings_Join at h;split at h
 ·rename_i rws s;unfold M.strings_Join at h;split at h
  ·rename_i l hl;cases hc:Nat.ble (afM l+l.length * (s.length+1)) 100000000000000 with
   |false=>rw[hc] at h;cases h
   |true=>
    rw[hc] at h;cases h;rw[Nat.ble_eq] at hc;obtain⟨rfl,rfl,rfl,hs⟩:=aaZ hG hm;simp only[bF,aF,ro] at hs;obtain⟨g,gs,rfl,⟨a,cap,rfl,hcap,hrow⟩,g',gs',rfl,rfl,rfl⟩:=hs;rw[hP] at hf⊢;have hfn:fn.resultTypes.toList=[9]:=by rw[Tryz.func58] at hf;cases hf;rfl
    rw[hfn];cases rws with
    |nil=>cases hl;refine(Tryz.strings_Join_none a cap ⟨⟨s⟩⟩ w).mono ?_;rintro e w' ⟨rfl,rfl⟩;exact⟨[_],[],[],rfl,Qk (by kernel_rfl) (λ_ _=>⟨rfl,rfl⟩) (Keep.refl _ _)⟩
    |cons r rs=>
     obtain⟨b,o,rfl,hr⟩:=hrow (by simp);obtain⟨e1,e2⟩:=Zb hl hr;have hbs:b<w.heap.size:=by
      have h0:∃x,l[0]? =some x:=by
       cases l with
       |nil=>simp at e1
       |cons x l=>exact⟨x,rfl⟩
      obtain⟨x,hx⟩:=h0;have:=(Ji (e2 0 x hx)).2.2;exact cell_lt this
     have hlen:=adW s l;have hmap:(l.map λx=>(⟨⟨x⟩⟩:ByteArray)).map (·.data.toList)=l:=by rw[List.map_map];exact List.map_id' l
     have ll:l.length<=140737488355328:=by rw[Nat.mul_add,Nat.mul_one] at hc;omega
     have C:=Tryz.strings_Join b o cap (l.map λx=>(⟨⟨x⟩⟩:ByteArray)) ⟨⟨s⟩⟩ w
      (λj x hj=>by
       rw[List.getElem?_map] at hj;cases hq:l[j]? with
       |none=>rw[hq] at hj;cases hj
       |some y=>rw[hq] at hj;cases hj;exact(Ji (e2 j y hq)).2.2)
      hbs (by rw[List.length_map];exact ll) (by rw[List.length_map,<-e1];exact hcap)
      (by rw[hmap,<-ach];show(joinL s l).length<=_;rw[Nat.mul_add,Nat.mul_one] at hc;omega)
     rw[List.length_map,<-e1,hmap] at C;refine C.mono ?_;rintro e w' ⟨rfl,hb⟩;refine⟨[_],[],[],rfl,Qk (by kernel_rfl) (λ_ _=>⟨?_,rfl⟩) (ajR hb)⟩;show Value.string ⟨(Lib.join l s).toArray⟩=.string ⟨⟨_⟩⟩;rw[<-ach]
  ·cases h
 ·cases h
def awu{X:Ctx}{U:Nat->Prop}{M:List Nat}{w:World}(hP:X.P=Tryz.prog)(hT:X.asu 3=true)(hR:X.glob 3=some Np)(hg:VQ X (view w U (· ∈M)))(ht:aiR X w):
  Lib.TabIs Tryz.prog w "internal/strconv.uint64pow10" .u64 Lib.pow10Tab := by
 obtain⟨x,row,cs,T,fr,h1,h2,h3⟩:=ht 3 hT;have hr:=hg.row 3 _ hR;have hl:row.length+1=20:=by rw[hR] at h1;have:=congrArg List.length (Option.some.inj h1);rw[ng] at this;rw[<-this,Np,List.length_map,Lib.pow10Tab_length]
 have hgn : Tryz.prog.globalNamed "internal/strconv.uint64pow10" = some 3 := by kernel_rfl
 unfold Lib.TabIs World.var?;rw[hgn];simp only[Option.bind_some,h2,eX];apply Array.ext
 ·rw[h3,hl,List.size_toArray,List.length_map,Lib.pow10Tab_length]
 ·intro i hi hi';rw[h3,hl] at hi;have hz:i<Lib.pow10Tab.length:=by rw[Lib.pow10Tab_length];exact hi
  have hrow:Np[i]? =some (D.int .u64 Lib.pow10Tab[i]):=by rw[Np,List.getElem?_map,List.getElem?_eq_getElem hz];rfl
  obtain⟨v,hv,hro⟩:=SX hr hrow;simp only[ro] at hro;subst hro;have hc:=(Ji hv).2.2;unfold World.cell? at hc;rw[h2] at hc;simp only[Option.isSome_none,Bool.false_eq_true,if_false,Nat.zero_add] at hc;rw[Array.getElem?_eq_getElem (by omega)] at hc;rw[Option.some.inj hc];simp
def amd{w:World}{k:Nat}{os:Array Obj}:Keep [] w (Sort.grow (w.drewN k) os):=by
 refine⟨rfl,rfl,rfl, ?_,λb hb _=> ?_⟩
 ·show w.heap.size<=(w.heap++os).size;rw[Array.size_append];omega
 ·show(w.heap++os)[b]? =w.heap[b]?;rw[Array.getElem?_append_left hb]
def aiz{X:Ctx}(hP:X.P=Tryz.prog)(hm:∀i,i<1->BD X.G8 49 i=0)(hT:X.asu 3=true)(hR:X.glob 3=some Np)(fn:Func)(args:List V)(cells:List Cell)(rows:au)(outs:List Cell)(hf:X.P.funcs[49]? =some fn)(h:Prim.strconv_Itoa args cells=some (rows,outs))
  (base:Nat) (U:Nat->Prop) (w:World) (gargs iy:List Value) (N1 N2:List Nat) (hG:Given X base U w 49 args cells gargs iy N1 N2):
  Calls X.P 49 gargs.toArray w λe w'=>∃gs M1 M2,e=.returned (V9 gs)∧Did X.P U w w' (N1++N2) fn.resultTypes.toList cells outs iy rows gs M1 M2:=by
 unfold Prim.strconv_Itoa at h;split at h
 ·rename_i n;unfold M.strconv_Itoa at h;cases hc:(decide (-9223372036854775808<=n) && decide (n<=9223372036854775807)) with
  |false=>rw[hc] at h;cases h
  |true=>
   rw[hc] at h;cases h;simp only[zq,decide_eq_true_eq] at hc;obtain⟨rfl,rfl,rfl,hs⟩:=aaZ hG hm;have hg:gargs=[.int .i64 n]:=by simp only[bF,aF,ro] at hs;obtain⟨g,gs,rfl,rfl,rfl⟩:=hs;rfl
   rw[hg];have htab:=awu hP hT hR hG.gl hG.tab;rw[hP] at hf⊢;have hfn:fn.resultTypes.toList=[9]:=by rw[Tryz.func49] at hf;cases hf;rfl
   refine(Tryz.strconv_Itoa n hc.1 hc.2 w htab).mono ?_;rintro e w' ⟨rfl,k,os,rfl⟩;rw[hfn];exact⟨[_],[],[],rfl,Qk (by kernel_rfl) (λ_ _=>⟨rfl,rfl⟩) amd⟩
 ·cases h
end Go.Proofs.YtbgadfelmhoheaaGreatDoor
namespace Go.Proofs.YtbgadfelmhoheaaGreatDoor
set_option linter.unusedVariables false
set_option linter.unusedSimpArgs false
open Go Go.Vm Go.RowKit
open Go.IntKind (i64)
def ajS{x:Int}(h:(Lit.int .i64 x).wf=true):I64 x:=bounds_i64 h
set_option maxRecDepth 100000 in
def open_ints'{n:Nat}{row:Row}(h:YR Tryz.prog (n+2) 35 row):∃k:List Int,row=[.sl false 1 (Go.Vm.encI k)]∧k.length<=maxLen∧∀x,x∈k->I64 x:=by obtain⟨rows,rfl,hl,hr⟩:=ane Tryz.underlying35 h;obtain⟨k,rfl,hk⟩:=aa6 (f:=λx:Int=>[D.int .i64 x]) (p:=I64) (λr hr'=>by obtain⟨x,rfl,hx⟩:=aez Tryz.underlying3 (hr r hr');exact⟨x,rfl,ajS hx⟩);exact⟨k,rfl,by simpa using hl,hk⟩
set_option maxRecDepth 100000 in
def ajT{n:Nat}{row:Row}(h:YR Tryz.prog (n+3) 37 row):∃x:Nd,row=KN false x∧Fit x:=by have h:=aje Tryz.underlying37 h;obtain⟨_,_,rfl,h1,h⟩:=Px h;obtain⟨_,_,rfl,h2,h⟩:=Px h;obtain⟨_,_,rfl,h3,h⟩:=Px h;obtain⟨_,_,rfl,h4,h⟩:=Px h;obtain⟨_,_,rfl,h5,h⟩:=Px h;obtain rfl:=anf h;obtain⟨a,rfl,wa⟩:=aez Tryz.underlying3 h1;obtain⟨b,rfl,wb⟩:=aez Tryz.underlying3 h2;obtain⟨c,rfl,wc⟩:=akl Tryz.underlying9 h3;obtain⟨d,rfl,wd⟩:=akl Tryz.underlying9 h4;obtain⟨k,rfl,wk,wk2⟩:=open_ints' h5;exact⟨⟨a,b,c,d,k⟩,rfl,⟨ajS wa,ajS wb,wc,wd,wk,wk2⟩⟩
set_option maxRecDepth 100000 in
def aiA{n:Nat}{row:Row}(h:YR Tryz.prog (n+4) 22 row):∃l:List Nd,row=[.sl false 5 (aQ false l)]∧l.length<=maxLen∧∀x,x∈l->Fit x:=by obtain⟨rows,rfl,hl,hr⟩:=ane Tryz.underlying22 h;obtain⟨l,rfl,hk⟩:=aa6 (f:=KN false) (p:=Fit) (λr hr'=>ajT (hr r hr'));exact⟨l,rfl,by simpa using hl,hk⟩
def awv:aeg X0:=by
 intro f p fn args cells rows outs hx hf hb h base U w gargs iy N1 N2 hG;have hx':(bif Nat.beq f 94 then some Prim.fM else bif Nat.beq f 49 then some Prim.strconv_Itoa else bif Nat.beq f 58 then some Prim.strings_Join else bif Nat.beq f 242 then some Prim.strings_Contains else none)=some p:=hx;cases hq:Nat.beq f 94 with
 |true=>rw[hq] at hx';cases hx';have e:=uY hq;subst e;exact acz rfl rfl fn args cells rows outs hf h base U w gargs iy N1 N2 hG
 |false=>
 rw[hq,cu] at hx';cases hq:Nat.beq f 49 with
 |true=>rw[hq] at hx';cases hx';have e:=uY hq;subst e;exact aiz rfl (by decide) rfl rfl fn args cells rows outs hf h base U w gargs iy N1 N2 hG
 |false=>
 rw[hq,cu] at hx';cases hq:Nat.beq f 58 with
 |true=>rw[hq] at hx';cases hx';have e:=uY hq;subst e;exact aiy rfl (by decide) fn args cells rows outs hf h base U w gargs iy N1 N2 hG
 |false=>
 rw[hq,cu] at hx';cases hq:Nat.beq f 242 with
 |true=>rw[hq] at hx';cases hx';have e:=uY hq;subst e;exact ZE rfl (by decide) fn args cells rows outs hf h base U w gargs iy N1 N2 hG
 |false=>rw[hq] at hx';cases hx'
def own:ownKnob Tryz.prog.godebug=none:=by kernel_rfl
def laidOut:laidOutB Tryz.prog=true:=by kernel_rfl
def gK : Tryz.prog.globalNamed "loop.example/g01543/impl.keywords" = some 1 := by kernel_rfl
def gS : Tryz.prog.globalNamed "loop.example/g01543/impl.signs" = some 0 := by kernel_rfl
def gB : Tryz.prog.globalNamed "loop.example/g01543/impl.builtins" = some 2 := by kernel_rfl
def tK:(Tryz.prog.globals[1]?).map (·.type)=some 196:=by kernel_rfl
def tS:(Tryz.prog.globals[0]?).map (·.type)=some 194:=by kernel_rfl
def tB:(Tryz.prog.globals[2]?).map (·.type)=some 201:=by kernel_rfl
def c9:Tryz.prog.cellsOf 9=1:=by kernel_rfl
def dK:(Rows.laid_loop_example_g01543_impl_keywords:DataW Unit)=.agg (QO.map λs=> .lit (.string s)):=by kernel_rfl
def dS:(Rows.laid_loop_example_g01543_impl_signs:DataW Unit)=.agg (OI.map λs=> .lit (.string s)):=by kernel_rfl
def dB:(Rows.laid_loop_example_g01543_impl_builtins:DataW Unit)=.agg (aeI.map λs=> .lit (.string s)):=by kernel_rfl
def rK:zx=QO.map D.str:=by kernel_rfl
def rS:Nl=OI.map D.str:=by kernel_rfl
def rB:GU=aeI.map D.str:=by kernel_rfl
def ame{P:Program}{w:World}{nm:String}{g t e n fuel:Nat}{k:IntKind}{cs:Array Value}{zs:List Int}{p:List MemPlace}(hu:P.underlying t=some (.array n e))(he:P.underlying e=some (.int k))(hc:P.cellsOf e=1)(hn:P.cellsOf t=n)
  (hg:P.globalNamed nm=some g) (hv:w.var? P nm=some cs) (h:DataW.trod (λ_=>()) P w 0 (λ_=>true) false fuel t cs.toList=some (.agg (zs.map λz=> .lit (.int k z)),p)):su (full w) (zs.map λz=>D.int k z) g 0∧∃T fr,w.heap[g]? =some (.cells cs T fr)∧cs.size=zs.length:=by
 obtain⟨xs,m,rfl,hx,hcl,hxl,hel⟩:=DataW.trod_array hu h;simp only[iL,DataW.agg.injEq] at hx;have hlen:zs.length=xs.length:=by have:=congrArg List.length hx.1;simpa using this
 constructor
 ·refine aa8 _ 0 λj x hj=> ?_
  rw[List.getElem?_map] at hj;cases hs:zs[j]? with
  |none=>rw[hs] at hj;cases hj
  |some s=>
   rw[hs] at hj;cases hj;have hjl:j<zs.length:=(G9.1 hs).1;obtain⟨y,hy⟩:∃y,xs[j]? =some y:=⟨xs[j]'(by omega),by simp⟩
   have hh:=hel j (by omega);rw[hy] at hh;obtain⟨b,hb1,hb2,_⟩:=DataW.trod_int he hh;have hyx:y.1=.lit (.int k s):=by have:=congrArg (λl=>l[j]?) hx.1;simp only[List.getElem?_map,hs,hy,He,eX] at this;exact this.symm
   rw[hb2] at hyx;simp only[DataW.lit.injEq,Lit.int.injEq,true_and] at hyx;rw[hc,Nat.mul_one] at hb1;have hcell:cs[j]? =some (.int k b):=by have:=congrArg (λl=>l[0]?) hb1;simpa using this
   refine⟨.int k b, ?_, ?_⟩
   ·have:=World.var?_cell hg hv j;rw[Nat.zero_add];show w.cell? ⟨g,j,none⟩=_;rw[this];exact hcell
   ·simp only[ro];rw[<-hyx]
 ·unfold World.var? at hv;rw[hg,Option.bind_some] at hv;split at hv
  ·rename_i cs' T fr hh;cases hv;refine⟨T,fr,hh, ?_⟩;rw[hn,Array.length_toList] at hcl;omega
  ·cases hv
def gT : Tryz.prog.globalNamed "internal/strconv.uint64pow10" = some 3 := by kernel_rfl
def tT:(Tryz.prog.globals[3]?).map (·.type)=some 203:=by kernel_rfl
def c8:Tryz.prog.cellsOf 171=1:=by kernel_rfl
def dT:(Rows.laid_internal_strconv_uint64pow10:DataW Unit)=.agg (Lib.pow10Tab.map λz=> .lit (.int .u64 z)):=by kernel_rfl
def asr{W:World}(hL:laidMetH Tryz.prog Rows.fnExactOutlineRow.laid W)(hS:W.ShapedOpen Tryz.prog):VQ X0 (full W)∧aiR X0 W:=by
 rw[MakeChecks.laidMetH_plain _ _ _ (by kernel_rfl)] at hL;obtain⟨ps,⟨gA,tA,csA,fA,pA,qA,hgA,htA,hvA,hdA,⟨gC,tC,csC,fC,pC,qC,hgC,htC,hvC,hdC,⟨g3,t3,cs3,f3,p3,q3,hg3,ht3,hv3,hd3,⟨g0,t0,cs0,f0,p0,q0,hg0,ht0,hv0,hd0,⟨g1,t1,cs1,f1,p1,q1,hg1,ht1,hv1,hd1,⟨g2,t2,cs2,f2,p2,q2,hg2,ht2,hv2,hd2,_,_⟩,_⟩,_⟩,_⟩,_⟩,_⟩,_,_⟩:=hL;obtain rfl:=Option.some.inj (gK.symm.trans hg0);obtain rfl:=Option.some.inj (gS.symm.trans hg1);obtain rfl:=Option.some.inj (gB.symm.trans hg2);obtain rfl:=Option.some.inj (gT.symm.trans hg3);obtain rfl:=Option.some.inj (tK.symm.trans ht0);obtain rfl:=Option.some.inj (tS.symm.trans ht1);obtain rfl:=Option.some.inj (tB.symm.trans ht2);obtain rfl:=Option.some.inj (tT.symm.trans ht3);rw[dK] at hd0;rw[dS] at hd1;rw[dB] at hd2;rw[dT] at hd3;have hT3:=ame Tryz.underlying203 Tryz.underlying171 c8 (by kernel_rfl) hg3 hv3 hd3;refine⟨⟨λg row h=> ?_,λg h=> ?_⟩,λg h=> ?_⟩
 ·have h':(bif Nat.beq g 3 then some Np else bif Nat.beq g 2 then some GU else bif Nat.beq g 1 then some zx else bif Nat.beq g 0 then some Nl else none)=some row:=h;cases hq:Nat.beq g 3 with
  |true=>rw[hq] at h';cases h';have e:=uY hq;subst e;exact hT3.1
  |false=>
  rw[hq,cu] at h';cases hq:Nat.beq g 2 with
  |true=>rw[hq] at h';cases h';have e:=uY hq;subst e;rw[rB];exact Xz Tryz.underlying201 Tryz.underlying9 c9 hg2 hv2 hd2
  |false=>
  rw[hq,cu] at h';cases hq:Nat.beq g 1 with
  |true=>rw[hq] at h';cases h';have e:=uY hq;subst e;rw[rK];exact Xz Tryz.underlying196 Tryz.underlying9 c9 hg0 hv0 hd0
  |false=>
  rw[hq,cu] at h';cases hq:Nat.beq g 0 with
  |true=>rw[hq] at h';cases h';have e:=uY hq;subst e;rw[rS];exact Xz Tryz.underlying194 Tryz.underlying9 c9 hg1 hv1 hd1
  |false=>rw[hq] at h';cases h'
 ·have h':(bif Nat.beq g 4 then true else false)=true:=h;cases hq:Nat.beq g 4 with
  |false=>rw[hq] at h';cases h'
  |true=>have e:=uY hq;subst e;exact Go.Proofs.cell_of_shapedOpen_int (zero:=#[.int .i64 0]) hS (of_decide_eq_true (by kernel_rfl)) (by kernel_rfl) rfl (by kernel_rfl) (by kernel_rfl) Tryz.underlying3
 ·have h':(bif Nat.beq g 3 then true else false)=true:=h;cases hq:Nat.beq g 3 with
  |false=>rw[hq] at h';cases h'
  |true=>have e:=uY hq;subst e;obtain⟨T,fr,hh,hsz⟩:=hT3.2;exact⟨_,_,cs3,T,fr,rfl,hh,hsz.trans Lib.pow10Tab_length⟩
end Go.Proofs.YtbgadfelmhoheaaGreatDoor
