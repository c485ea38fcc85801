import Derived.Test.YtoaeipkhadpbiaaGreatDoorXAdv
set_option linter.defProp false
namespace Go.Proofs.YtoaeipkhadpbiaaGreatDoor
set_option linter.unusedVariables false
set_option linter.unusedSimpArgs false
open Go Go.Vm
open Go.IntKind (i64)
variable {l:List Tk}
def cZ{i:Nat}{k:Int}(e:(bD l i==k)=true)(hk:k≠0):i<l.length:=dV (by rw[beq_iff_eq] at e;rw[e];exact hk)
def Z5{k:Int}(h:xY k=true):k≠0:=by rintro rfl;exact absurd h (by decide)
def aiX{n i:Nat}{nt:gY}(hn:40 * (l.length - i)+34<=n):(Ve l n i nt).tot λ_ j _=>i<j:=by simp only[Ve,fK,ED];intro h;exact cO ((acp l n).ex 1 false false (i+1) nt aB aB aB) λx j m hj=>λ_=>(show i<j+1 by omega)
def afg{n i:Nat}{nt:gY}{e:Int}{a:Bool}(hn:40 * (l.length - i)+34<=n):(JV l n e a i nt).tot λ_ j _=>i<=j:=by rw[JV,fD];refine⟨λ_=>zaO i,λ_=> ?_⟩;rw[fK];exact cO ((acp l n).ex 1 a false i nt aB aB aB) λx j m hj=>(show i<=j by omega)
def aoX{n i:Nat}{k:Int}{nt:gY}(hn:40 * (l.length - i)+34<=n):(aco l n k i nt).tot λ_ j _=>i<j:=by rw[aco,fD];refine⟨λ_=>Nat.lt_succ_self i,λ_=> ?_⟩;rw[fK];exact cO ((acp l n).ex 1 false false (i+1) nt aB aB aB) λx j m hj=>(show i<j by omega)
def aAt{n i:Nat}{nt:gY}(hn:40 * (l.length - i)+40<=n):(ame l n i nt).tot λ_ j _=>i<j:=by rw[ame,fK,ZY];intro h;rw[fD];refine⟨λhc=> ?_,λ_=>(show i<i+1+1 by omega)⟩;simp only[fK,ED];exact cO ((acp l n).it false false [] (i+1+1+1) nt aB) λx j m hj=>λ_=>(show i<j+1 by omega)
def aAu{n i:Nat}{nt:gY}(hn:40 * (l.length - i)+40<=n):(agF l n i nt).tot λ_ j _=>i<j:=by
 rw[agF,fK];have h1:(bif bD l i==26|| !(Gj (bD l (i+1))||xY (bD l (i+1))) then PU l n false true [] (i+1) nt else .ok [] (i+1) nt:PR (List Tn)).tot λ_ j _=>i<j:=by rw[fD];exact⟨λ_=>cO ((acp l n).it false true [] (i+1) nt aB) λx j m hj=>(show i<j by omega),λ_=>Nat.lt_succ_self i⟩
 refine cO h1 λL j m hj=> ?_
 rw[fD];refine⟨λhc=> ?_,λ_=>hj⟩;rw[fK];exact cO ((acp l n).ex 9 false false (j+1) m aB aB aB) λx j' m hj'=>(show i<j' by omega)
def aAv{n i:Nat}{nt:gY}(hn:40 * (l.length - i)+40<=n):(ajN l n i nt).tot λ_ j _=>i<j:=by rw[ajN,fD];refine⟨λ_=>aAu hn,λ_=> ?_⟩;rw[fD];refine⟨λ_=>Nat.lt_succ_self i,λ_=> ?_⟩;rw[fD];refine⟨λ_=>Nat.lt_succ_self i,λ_=> ?_⟩;rw[fD];refine⟨λ_=>Nat.lt_succ_self i,λ_=> ?_⟩;rw[fD];refine⟨λ_=>aoX aB,λ_=> ?_⟩;rw[fD];refine⟨λ_=>aoX aB,λ_=> ?_⟩;rw[fD];refine⟨λ_=>aAt aB,λ_=> ?_⟩;rw[fK];exact cO ((acp l n).ex 1 false false i nt aB aB aB) λx j m hj=>hj
def ami{α:Type}{x:α}{i j:Nat}{nt:gY}(h:i<j):(endP l x j nt).tot λ_ j _=>i<j:=by rw[endP,fD];exact⟨λ_=>h,λ_=>trivial⟩
structure aBR(l:List Tk)(n:Nat):Prop where
 st:∀i nt,60 * (l.length - i)+50<=n->(stP l n i nt).tot λ_ j _=>i<j
 blk:∀i nt,60 * (l.length - i)+42<=n->(Lu l n i nt).tot λ_ j _=>i<j
 lines:∀L i nt,60 * (l.length - i)+52<=n->(X6 l n L i nt).tot λ_ j _=>i<j
 body:∀i nt,60 * (l.length - i)+52<=n->(Dh l n i nt).tot λ_ j _=>i<j
section
variable {n:Nat} (h:aBR l n)
include h
theorem aAw(i:Nat)(nt:gY)(hn:60 * (l.length - i)+50<=n+1):(stP l (n+1) i nt).tot λ_ j _=>i<j:=by
 rw[stP,fD];refine⟨λ_=>h.blk i nt aB,λ_=> ?_⟩;rw[fD];refine⟨λhc=> ?_,λ_=> ?_⟩
 ·have:=cZ hc (by decide);simp only[fK];refine cO (aiX aB) λx j m hj=> ?_
  refine cO (h.body j m aB) λy j2 m2 hj2=> ?_
  rw[fD];refine⟨λhc=> ?_,λ_=>(show i<j2 by omega)⟩;have hs:=amh (l:=l) j2 m2;rw[fK];exact cO (h.body _ _ aB) λz j3 m3 hj3=>(show i<j3 by omega)
 rw[fD];refine⟨λhc=> ?_,λ_=> ?_⟩
 ·have:=cZ hc (by decide);simp only[fK];refine cO (aiX aB) λx j m hj=> ?_
  exact cO (h.body j m aB) λy j2 m2 hj2=>(show i<j2 by omega)
 rw[fD];refine⟨λhc=> ?_,λ_=> ?_⟩
 ·have:=cZ hc (by decide);simp only[fK,ED];refine cO (h.body (i+1) nt aB) λx j m hj=>λhk=> ?_
  have hs:=amh (l:=l) j m;refine cO (aiX aB) λy j2 m2 hj2=> ?_
  exact ami aB
 rw[fD];refine⟨λhc=> ?_,λ_=> ?_⟩
 ·have:=cZ hc (by decide);simp only[fK,ED];intro h32;rw[fD];refine⟨λhd=> ?_,λ_=> ?_⟩
  ·simp only[fK,ED,ZY];intro h6 h33;exact cO (h.body _ nt aB) λy j2 m2 hj2=>(show i<j2 by omega)
  ·simp only[fK,ED];refine cO (afg aB) λx j m hj=>λhk=> ?_
   have g1:=agf (l:=l) (j+1) m;refine cO (afg aB) λy j2 m2 hj2=>λhk2=> ?_
   have g2:=agf (l:=l) (j2+1) m2;refine cO (afg aB) λz j3 m3 hj3=>λhk3=> ?_
   exact cO (h.body _ _ aB) λw j4 m4 hj4=>(show i<j4 by omega)
 rw[fK];exact cO (aAv aB) λx j m hj=>ami hj
theorem axY(i:Nat)(nt:gY)(hn:60 * (l.length - i)+42<=n+1):(Lu l (n+1) i nt).tot λ_ j _=>i<j:=by simp only[Lu,fK,ED];intro hk;have:=dV (l:=l) (i:=i) (by rw[hk];decide);exact cO (h.lines [] (i+1) nt aB) λL j m hj=>(show i<j by omega)
theorem aqL(L:List Tn)(i:Nat)(nt:gY)(hn:60 * (l.length - i)+52<=n+1):(X6 l (n+1) L i nt).tot λ_ j _=>i<j:=by
 have hs:=amh (l:=l) i nt;rw[X6,fD];refine⟨λhc=>(show i<(sep l i nt).1+1 by omega),λ_=> ?_⟩;rw[fD];refine⟨λ_=>trivial,λhc=> ?_⟩;have hlt:(sep l i nt).1<l.length:=dV (by simpa using hc);rw[fK];refine cO (h.st _ _ aB) λs j m hj=> ?_
 exact cO (h.lines _ j m aB) λL j2 m2 hj2=>(show i<j2 by omega)
theorem auu(i:Nat)(nt:gY)(hn:60 * (l.length - i)+52<=n+1):(Dh l (n+1) i nt).tot λ_ j _=>i<j:=by have hs:=agf (l:=l) i nt;rw[Dh,fD];refine⟨λhc=>cO (h.blk _ _ aB) λs j m hj=>(show i<j by omega),λ_=> ?_⟩;rw[fD];refine⟨λ_=>(show i<(nl l i nt).1+1 by omega),λ_=> ?_⟩;rw[fK];exact cO (h.st _ _ aB) λs j m hj=>(show i<j by omega)
end
def asc(l:List Tk):∀n,aBR l n
 |0=>⟨λi nt hn=>by omega,λi nt hn=>by omega,λL i nt hn=>by omega,λi nt hn=>by omega⟩
 |n+1=>have h:=asc l n
  ⟨aAw h,axY h,aqL h,auu h⟩
def aoY:∀(n:Nat) (L:List Tn) (i:Nat) (nt:gY),l.length - i+1<=n->(Gw l n L i nt).tot λ_ j _=>i<j
 |0,_,_,_,hn=>by omega
 |n+1,L,i,nt,hn=>by rw[Gw,fK,ZY];intro h6;have:=dV (l:=l) (i:=i) (by rw[h6];decide);rw[fD];refine⟨λhc=> ?_,λ_=>Nat.lt_succ_self i⟩;rw[fD];refine⟨λ_=>trivial,λ_=> ?_⟩;have hs:=agf (l:=l) (i+1+1) nt;exact cO (aoY n _ _ _ aB) λs j m hj=>(show i<j by omega)
def aAx{n i:Nat}{nt:gY}(hn:60 * (l.length - i)+50<=n):(amf l n i nt).tot λ_ j _=>i<j:=by
 rw[amf,fD];refine⟨λhc=> ?_,λ_=>trivial⟩;simp only[fK,ED];intro h32;have h1:(bif bD l (i+1+1)==33 then .ok [] (i+1+1) nt else Gw l n [] (i+1+1) nt:PR (List Tn)).tot λ_ j _=>i<j:=by rw[fD];exact⟨λ_=>(show i<i+1+1 by omega),λ_=>cO (aoY n [] _ nt aB) λx j m hj=>(show i<j by omega)⟩
 refine cO h1 λL j m hj=>λh33=> ?_
 have hs:=agf (l:=l) (j+1) m;exact cO ((asc l n).blk _ _ aB) λx j m hj=>(show i<j by omega)
def axZ{n i:Nat}{nt:gY}(hn:60 * (l.length - i)+50<=n):(WC l n i nt).tot λ_ j _=>i<j:=by
 have hb:∀(i:Nat) (nt:gY) (k o:Int),60 * (l.length - i)+50<=n->((Lu l n i nt).bind λb i nt=>PR.ok (Tn.mk k o [] [] [b]) i nt).tot λ_ j _=>i<j:=by intro i nt k o hn;rw[fK];exact cO ((asc l n).blk i nt aB) λx j m hj=>hj
 rw[WC,fD];refine⟨λhc=>cO (hb (i+1) nt 40 0 aB) λx j m hj=>(show i<j by omega),λ_=> ?_⟩;rw[fD];refine⟨λhc=>cO (hb (i+1) nt 41 0 aB) λx j m hj=>(show i<j by omega),λ_=> ?_⟩;rw[fD];refine⟨λhc=>cO (aAx aB) λx j m hj=>(show i<j by omega),λ_=> ?_⟩;rw[fD];refine⟨λhc=>hb i nt 42 2 aB,λ_=> ?_⟩;rw[fK];refine cO ((acp l n).ex 1 false false i nt aB aB aB) λx j m hj=> ?_
 rw[fK];have h1:(bif bD l j==36 then(ex l n 1 false false (nl l (j+1) m).1 (nl l (j+1) m).2).bind λy i nt=> .ok (43,[x.1,y.1]) i nt else .ok (42,[x.1]) j m:PR (Int×List Tn)).tot λ_ j _=>i<j:=by rw[fD];refine⟨λhc=> ?_,λ_=>hj⟩;have hs:=agf (l:=l) (j+1) m;rw[fK];exact cO ((acp l n).ex 1 false false _ _ aB aB aB) λy j2 m2 hj2=>(show i<j2 by omega)
 refine cO h1 λq j2 m2 hj2=> ?_
 rw[fD];refine⟨λhc=> ?_,λ_=>ami hj2⟩;rw[fK];exact cO ((asc l n).blk j2 m2 aB) λy j3 m3 hj3=>(show i<j3 by omega)
def aoZ:∀(n:Nat) (L:List Tn) (i:Nat) (nt:gY),60 * (l.length - i)+52<=n->(Vf l n L i nt).tot λ_ j _=>i<=j
 |0,_,_,_,hn=>by omega
 |n+1,L,i,nt,hn=>by
  have hs:=amh (l:=l) i nt;rw[Vf,fD];refine⟨λ_=>hs,λhc=> ?_⟩;have hlt:(sep l i nt).1<l.length:=dV (by simpa using hc);rw[fD];refine⟨λ_=>trivial,λ_=> ?_⟩;rw[fK];refine cO (axZ aB) λs j m hj=> ?_
  exact cO (aoZ n _ j m aB) λL j2 m2 hj2=>(show i<=j2 by omega)
section
variable {α β:Type} {P Q:α->Nat->gY->Prop} {R:β->Nat->gY->Prop} {x y:PR α} {f:α->Nat->gY->PR β} {c:Bool}
def dW:(x.bind f).sat R↔x.sat λa i nt=>(f a i nt).sat R:=by cases x<;>exact Iff.rfl
def bJ(h:x.sat P)(k:∀a i nt,P a i nt->Q a i nt):x.sat Q:=by
 cases x with
 |ok a i nt=>exact k a i nt h
 |bad _=>trivial
 |out=>trivial
def eP:(bif c then x else y).sat P↔(c=true->x.sat P)/\(c=false->y.sat P):=by cases c<;>simp
def gU{a:α}{i:Nat}{nt:gY}(h:x.sat P)(e:x=.ok a i nt):P a i nt:=by rw[e] at h;exact h
end
variable {l:List Tk}
def wS{P:Unit->Nat->gY->Prop}{k:Int}{i:Nat}{nt:gY}:(iZ l k i nt).sat P↔(bD l i=k->P () (i+1) nt):=by unfold iZ;rw[eP];simp[PR.sat]
def WE{P:aJ->Nat->gY->Prop}{i:Nat}{nt:gY}:(nameP l i nt).sat P↔(bD l i=6->P (Bo l i) (i+1) nt):=by unfold nameP;rw[eP];simp[PR.sat]
abbrev FN(l:List Tk)(i n0 j n:Nat):Prop:=i<=j/\j<=l.length/\n+i<=n0+j
abbrev FE(l:List Tk)(i n0 s j n:Nat):Prop:=i<j/\j<=l.length/\n+i<=n0+j/\s+2 * i+1<=2 * j
def amj:∀(r:List Tk) (i:Nat) (nt:gY),i<=(nlR r i nt).1/\(nlR r i nt).1<=i+r.length/\(nlR r i nt).2.length+i<=nt.length+(nlR r i nt).1
 |[],i,nt=>by rw[nlR];exact⟨zaO _,zaO _,zaO _⟩
 |t::r,i,nt=>by
  rw[nlR,X8];cases t.kind==1<;>cases t.kind==2<;>simp only[aI,aX]
  ·omega
  ·have:=amj r (i+1) (nt++[t.text]);rw[Au,zf] at this;omega
  ·have:=amj r (i+1) nt;omega
  ·have:=amj r (i+1) nt;omega
def Di{i:Nat}{nt:gY}(h:i<=l.length):FN l i nt.length (nl l i nt).1 (nl l i nt).2.length:=by have:=amj (l.drop i) i nt;rw[List.length_drop] at this;unfold nl;omega
def ag1:∀(r:List Tk) (i:Nat) (nt:gY),i<=(aaN r i nt).1/\(aaN r i nt).1<=i+r.length/\(aaN r i nt).2.length+i<=nt.length+(aaN r i nt).1
 |[],i,nt=>by rw[aaN];exact⟨zaO _,zaO _,zaO _⟩
 |t::r,i,nt=>by
  rw[aaN,X8];cases(t.kind==1||t.kind==37)<;>cases t.kind==2<;>simp only[aI,aX]
  ·omega
  ·have:=ag1 r (i+1) (nt++[t.text]);rw[Au,zf] at this;omega
  ·have:=ag1 r (i+1) nt;omega
  ·have:=ag1 r (i+1) nt;omega
def Qs{i:Nat}{nt:gY}(h:i<=l.length):FN l i nt.length (sep l i nt).1 (sep l i nt).2.length:=by have:=ag1 (l.drop i) i nt;rw[List.length_drop] at this;unfold sep;omega
structure aLN(l:List Tk)(n:Nat):Prop where
 ex:∀lv a b i nt,1<=lv->lv<=15->i<=l.length->(ex l n lv a b i nt).sat λx j m=>FE l i nt.length x.1.size j m.length
 ch:∀lv a b x i nt,3<=lv->lv<=10->i<=l.length->(chP l n lv a b x i nt).sat λy j m=>FN l i nt.length j m.length/\y.1.size+2 * i<=x.1.size+2 * j
 inp:∀a x i nt,i<=l.length->(inP l n a x i nt).sat λy j m=>FN l i nt.length j m.length/\y.1.size+2 * i<=x.1.size+2 * j
 pre:∀i nt,i<l.length->(ZX l n i nt).sat λx j m=>FE l i nt.length x.1.size j m.length
 lst:∀e i nt,e≠0->i<=l.length->(Rz l n e i nt).sat λL j m=>FE l i nt.length (sizes L) j m.length
 it:∀a b L i nt,i<=l.length->(PU l n a b L i nt).sat λL' j m=>i<j/\FN l i nt.length j m.length/\sizes L'+2 * i+1<=sizes L+2 * j
def Uy(k o:Int)(x y:aJ)(t:Tn):(Tn.mk k o x y [t]).size=t.size+1:=by simp only[Tn.size,sizes,Nat.add_zero]
def size2(k o:Int)(x y:aJ)(t u:Tn):(Tn.mk k o x y [t,u]).size=t.size+u.size+1:=by simp only[Tn.size,sizes,Nat.add_zero]
def size3(k o:Int)(x y:aJ)(t u v:Tn):(Tn.mk k o x y [t,u,v]).size=t.size+u.size+v.size+1:=by simp only[Tn.size,sizes,Nat.add_zero];omega
def aLO(k o:Int)(x y:aJ)(t u v w:Tn):(Tn.mk k o x y [t,u,v,w]).size=t.size+u.size+v.size+w.size+1:=by simp only[Tn.size,sizes];omega
def RD(k o:Int)(x y:aJ)(L:List Tn):(Tn.mk k o x y L).size=sizes L+1:=by rw[Tn.size]
def Vg(k o:Int)(x y:aJ):(Tn.mk k o x y []).size=1:=by rw[Tn.size,sizes]
def sizes1(L:List Tn)(t:Tn):sizes (L++[t])=sizes L+t.size:=by rw[nI,sizes,sizes];omega
section
variable {n:Nat} (h:aLN l n)
include h
theorem aAy(lv:Nat)(a b:Bool)(i:Nat)(nt:gY)(h1:1<=lv)(h2:lv<=15)(hi:i<=l.length):(ex l (n+1) lv a b i nt).sat λx j m=>FE l i nt.length x.1.size j m.length:=by
 have hlt:∀{j:Nat} {k:Int},(bD l j==k)=true->k≠0->j<l.length:=λe hk=>dV (by rw[beq_iff_eq] at e;rw[e];exact hk)
 have hc:lv=1\/lv=2\/lv=3\/lv=4\/lv=5\/lv=6\/lv=7\/lv=8\/lv=9\/lv=10\/lv=11\/lv=12\/lv=13\/lv=14\/lv=15:=aB;rcases hc with rfl|rfl|rfl|rfl|rfl|rfl|rfl|rfl|rfl|rfl|rfl|rfl|rfl|rfl|rfl<;>simp only[ex,dW]
 ·refine bJ (h.ex 2 a b i nt aB aB hi) λx j m hj=> ?_
  rw[eP];refine⟨λhc=> ?_,λ_=>hj⟩;rw[Ji] at hc;have:=dV (aiW hc.2);rw[dW];exact bJ (h.ex 1 a b (j+1) m aB aB aB) λy j' m' hj'=>by show FE l i nt.length (Tn.size _) j' m'.length;rw[size2];omega
 ·refine bJ (h.ex 3 a b i nt aB aB hi) λx j m hj=> ?_
  rw[eP];refine⟨λhc=> ?_,λ_=>hj⟩;have:=hlt hc (by decide);simp only[dW,wS];refine bJ (h.ex 2 a b (j+1) m aB aB aB) λy j2 m2 hj2=>λhk=> ?_
  have:=dV (l:=l) (i:=j2) (by rw[hk];decide);exact bJ (h.ex 2 a b (j2+1) m2 aB aB aB) λz j3 m3 hj3=>by show FE l i nt.length (Tn.size _) j3 m3.length;rw[size3];omega
 ·refine bJ (h.ex 4 a b i nt aB aB hi) λx j m hj=> ?_
  exact bJ (h.ch 3 a b x j m aB aB aB) λy j' m' hj'=>by omega
 ·refine bJ (h.ex 5 a b i nt aB aB hi) λx j m hj=> ?_
  exact bJ (h.ch 4 a b x j m aB aB aB) λy j' m' hj'=>by omega
 ·rw[eP];refine⟨λhc=> ?_,λ_=> ?_⟩
  ·rw[Ji,Ji] at hc;have:=hlt hc.1.1 (by decide);simp only[dW,wS,WE];refine bJ (h.lst 33 (i+1) nt (by decide) aB) λL j m hj=>λh24 h6=> ?_
   have:=dV (l:=l) (i:=j) (by rw[h24];decide);have:=dV (l:=l) (i:=j+1) (by rw[h6];decide);exact bJ (h.inp a _ (j+1+1) m aB) λy j' m' hj'=>by rw[RD] at hj';omega
  ·rw[dW];refine bJ (h.ex 6 a b i nt aB aB hi) λx j m hj=> ?_
   exact bJ (h.inp a x j m aB) λy j' m' hj'=>by omega
 ·refine bJ (h.ex 7 a b i nt aB aB hi) λx j m hj=> ?_
  rw[eP];refine⟨λhc=> ?_,λ_=>hj⟩;have:j<l.length:=by rw[Bool.or_eq_true] at hc;rcases hc with hc|hc<;>exact hlt hc (by decide)
  rw[dW];exact bJ (h.ex 7 a b (j+1) m aB aB aB) λy j' m' hj'=>by show FE l i nt.length (Tn.size _) j' m'.length;rw[size2];omega
 ·refine bJ (h.ex 8 a b i nt aB aB hi) λx j m hj=> ?_
  rw[eP];refine⟨λhc=> ?_,λ_=>hj⟩;have:=dV (KW aB hc);rw[dW];exact bJ (h.ex 8 a b (j+1) m aB aB aB) λy j' m' hj'=>by show FE l i nt.length (Tn.size _) j' m'.length;rw[size2];omega
 ·refine bJ (h.ex 9 a b i nt aB aB hi) λx j m hj=> ?_
  exact bJ (h.ch 8 a b x j m aB aB aB) λy j' m' hj'=>by omega
 ·refine bJ (h.ex 10 a b i nt aB aB hi) λx j m hj=> ?_
  exact bJ (h.ch 9 a b x j m aB aB aB) λy j' m' hj'=>by omega
 ·refine bJ (h.ex 11 a b i nt aB aB hi) λx j m hj=> ?_
  exact bJ (h.ch 10 a b x j m aB aB aB) λy j' m' hj'=>by omega
 ·rw[eP];refine⟨λhc=> ?_,λ_=>h.ex 12 a b i nt aB aB hi⟩;have:i<l.length:=by simp only[Bool.or_eq_true] at hc;rcases hc with hc|hc|hc<;>exact hlt hc (by decide)
  rw[dW];exact bJ (h.ex 11 a b (i+1) nt aB aB aB) λy j' m' hj'=>by show FE l i nt.length (Tn.size _) j' m'.length;rw[Uy];omega
 ·refine bJ (h.ex 13 a b i nt aB aB hi) λx j m hj=> ?_
  rw[eP];refine⟨λhc=> ?_,λ_=>hj⟩;have:=hlt hc (by decide);rw[dW];exact bJ (h.ex 11 a b (j+1) m aB aB aB) λy j' m' hj'=>by show FE l i nt.length (Tn.size _) j' m'.length;rw[size2];omega
 ·rw[eP];refine⟨λhc=> ?_,λ_=> ?_⟩
  ·have:=dV (KU hc);exact h.pre i nt this
  ·rw[dW];refine bJ (h.ex 14 a b i nt aB aB hi) λx j m hj=> ?_
   rw[eP];refine⟨λhs=> ?_,λ_=>hj⟩;rw[Ji] at hs;have:=dV (KU hs.2);show FE l i nt.length (Tn.size _) (j+1) m.length;rw[Uy];omega
 ·rw[eP];refine⟨λhc=> ?_,λ_=>h.ex 15 a b i nt aB aB hi⟩;have:=hlt hc (by decide);rw[dW,eP];refine⟨λhs=> ?_,λ_=> ?_⟩
  ·have:=dV (KU hs);exact bJ (h.pre (i+1) nt this) λx j m hj=>by show FE l i nt.length (Tn.size _) j m.length;rw[Uy];omega
  ·exact bJ (h.ex 14 a b (i+1) nt aB aB aB) λx j m hj=>by show FE l i nt.length (Tn.size _) j m.length;rw[Uy];omega
 ·have Z4:∀k,i<l.length->(agd k l i nt).sat λx j m=>FE l i nt.length x.1.size j m.length:=λk hl=>by show FE l i nt.length (Tn.size _) (i+1) nt.length;rw[Vg];omega
  rw[eP];refine⟨λhc=>Z4 2 (hlt hc (by decide)),λ_=> ?_⟩;rw[eP];refine⟨λhc=>Z4 3 (hlt hc (by decide)),λ_=> ?_⟩;rw[eP];refine⟨λhc=>Z4 4 (hlt hc (by decide)),λ_=> ?_⟩;rw[eP];refine⟨λhc=> ?_,λ_=> ?_⟩
  ·have h0:=hlt hc (by decide);rw[eP];refine⟨λhd=> ?_,λ_=>Z4 1 h0⟩;have:=hlt hd (by decide);simp only[dW,wS];exact bJ (h.it false false [] (i+2) nt aB) λL j m hj=>λhk=>by have:=dV (l:=l) (i:=j) (by rw[hk];decide);show FE l i nt.length (Tn.size _) (j+1) m.length;rw[RD];have e:sizes ([]:List Tn)=0:=rfl;omega
  rw[eP];refine⟨λhc=> ?_,λ_=> ?_⟩
  ·have:i<l.length:=by rw[Bool.or_eq_true] at hc;rcases hc with hc|hc<;>exact hlt hc (by decide)
   rw[eP];refine⟨λ_=>Z4 8 this,λ_=> ?_⟩;simp only[dW,wS];intro h32;have:=dV (l:=l) (i:=i+1) (by rw[h32];decide);exact bJ (h.lst 33 (i+1+1) nt (by decide) aB) λL j m hj=>by show FE l i nt.length (Tn.size _) j m.length;rw[RD];omega
  rw[eP];refine⟨λhc=> ?_,λ_=>trivial⟩;have:=hlt hc (by decide);simp only[dW,wS];exact bJ (h.ex 1 false false (i+1) nt aB aB aB) λx j m hj=>λhk=>by have:=dV (l:=l) (i:=j) (by rw[hk];decide);show FE l i nt.length x.1.size (j+1) m.length;omega
theorem aAz(lv:Nat)(a b:Bool)(x:Xp)(i:Nat)(nt:gY)(h3:3<=lv)(h10:lv<=10)(hi:i<=l.length):(chP l (n+1) lv a b x i nt).sat λy j m=>FN l i nt.length j m.length/\y.1.size+2 * i<=x.1.size+2 * j:=by
 rw[chP,eP];refine⟨λhc=> ?_,λ_=>(show FN l i nt.length i nt.length/\x.1.size+2 * i<=x.1.size+2 * i by omega)⟩;have hlt:=dV (KW h3 hc);simp only;cases h8:Nat.beq lv 8 with
 |true=>
  have:=Dl h8;subst this;simp only[aI,dW];refine bJ (h.ex 9 a b i nt aB aB aB) λy j m hj=> ?_
  exact bJ (h.ch 8 a b _ j m aB aB aB) λy j' m' hj'=>by rw[size2] at hj';omega
 |false=>
  simp only[aX];cases h4:Nat.ble lv 4 with
  |true=>
   simp only[aI,dW];have hg:=Di (l:=l) (i:=i+1) (nt:=nt) aB;refine bJ (h.ex (lv+1) a b _ _ aB aB aB) λy j m hj=> ?_
   exact bJ (h.ch lv a b _ j m aB aB aB) λy j' m' hj'=>by rw[size2] at hj';omega
  |false=>
   simp only[aX,dW];refine bJ (h.ex (lv+1) a b (i+1) nt aB aB aB) λy j m hj=> ?_
   exact bJ (h.ch lv a b _ j m aB aB aB) λy j' m' hj'=>by rw[size2] at hj';omega
theorem ax0(a:Bool)(x:Xp)(i:Nat)(nt:gY)(hi:i<=l.length):(inP l (n+1) a x i nt).sat λy j m=>FN l i nt.length j m.length/\y.1.size+2 * i<=x.1.size+2 * j:=by rw[inP,eP];refine⟨λhc=> ?_,λ_=>(show FN l i nt.length i nt.length/\x.1.size+2 * i<=x.1.size+2 * i by omega)⟩;rw[dW,WE];intro h6;have:=dV (l:=l) (i:=i+1) (by rw[h6];decide);exact bJ (h.inp a _ (i+1+1) nt aB) λy j' m' hj'=>by rw[Uy] at hj';omega
theorem ax1(i:Nat)(nt:gY)(hi:i<l.length):(ZX l (n+1) i nt).sat λx j m=>FE l i nt.length x.1.size j m.length:=by rw[ZX,eP];refine⟨λhc=> ?_,λ_=>trivial⟩;rw[dW];exact bJ (h.ex 14 false false (i+1) nt aB aB aB) λy j' m' hj'=>by show FE l i nt.length (Tn.size _) j' m'.length;rw[Uy];omega
theorem ax2(e:Int)(i:Nat)(nt:gY)(he:e≠0)(hi:i<=l.length):(Rz l (n+1) e i nt).sat λL j m=>FE l i nt.length (sizes L) j m.length:=by
 have e0:sizes ([]:List Tn)=0:=rfl;rw[Rz,eP];refine⟨λhc=> ?_,λ_=> ?_⟩
 ·have:=dV (l:=l) (i:=i) (by rw[beq_iff_eq] at hc;rw[hc];exact he);show FE l i nt.length (sizes []) (i+1) nt.length;omega
 simp only[dW,wS];exact bJ (h.it false false [] i nt hi) λL j m hj=>λhk=>by have:=dV (l:=l) (i:=j) (by rw[hk];exact he);show FE l i nt.length (sizes L) (j+1) m.length;omega
theorem aAA(a b:Bool)(L:List Tn)(i:Nat)(nt:gY)(hi:i<=l.length):(PU l (n+1) a b L i nt).sat λL' j m=>i<j/\FN l i nt.length j m.length/\sizes L'+2 * i+1<=sizes L+2 * j:=by
 rw[PU,dW];refine bJ (h.ex 1 a b i nt aB aB hi) λx j m hj=> ?_
 rw[eP];refine⟨λhc=> ?_,λ_=> ?_⟩
 ·have:j<l.length:=dV (by rw[beq_iff_eq] at hc;rw[hc];decide);rw[eP];refine⟨λ_=>trivial,λ_=> ?_⟩;have hg:=Di (l:=l) (i:=j+1) (nt:=m) aB;exact bJ (h.it a b _ _ _ aB) λy j' m' hj'=>by rw[sizes1] at hj';omega
 ·show i<j/\FN l i nt.length j m.length/\sizes (L++[x.1])+2 * i+1<=sizes L+2 * j;rw[sizes1];omega
end
def sats(l:List Tk):∀n,aLN l n
 |0=>⟨λ_ _ _ _ _ _ _ _=>by rw[ex];trivial,λ_ _ _ _ _ _ _ _ _=>by rw[chP];trivial,λ_ _ _ _ _=>by rw[inP];trivial,λ_ _ _=>by rw[ZX];trivial,λ_ _ _ _ _=>by rw[Rz];trivial,λ_ _ _ _ _ _=>by rw[PU];trivial⟩
 |n+1=>have h:=sats l n
  ⟨aAy h,aAz h,ax0 h,ax1 h,ax2 h,aAA h⟩
variable {l:List Tk}
abbrev FB(l:List Tk)(i n0 s j n:Nat):Prop:=i<j/\j<=l.length/\n+i<=n0+j/\s+n+6 * i+5<=n0+6 * j
abbrev FS(l:List Tk)(i n0 s j n:Nat):Prop:=i<j/\j<=l.length/\n+i<=n0+j/\s+n+6 * i+3<=n0+6 * j
def sizes0:sizes ([]:List Tn)=0:=rfl
def Dj(nt:gY):(ES nt).length=nt.length:=by rw[ES,zaP]
def aas:∀nt:gY,sizes (ES nt)=nt.length
 |[]=>rfl
 |s::r=>by rw[show ES (s::r)=Tn.mk 34 0 s [] []::ES r from rfl,sizes,Vg,aas r,X8];omega
def Gx{n lv i:Nat}{a b:Bool}{nt:gY}(h1:1<=lv)(h2:lv<=15)(hi:i<=l.length):(ex l n lv a b i nt).sat λx j m=>FE l i nt.length x.1.size j m.length:=(sats l n).ex lv a b i nt h1 h2 hi
def acr{n i:Nat}{a b:Bool}{nt:gY}(hi:i<=l.length):(PU l n a b [] i nt).sat λL j m=>FE l i nt.length (sizes L) j m.length:=
 bJ ((sats l n).it a b [] i nt hi) λL j m hj=>by rw[sizes0] at hj;omega
def QZ{n i:Nat}{nt:gY}(hi:i<=l.length):(Ve l n i nt).sat λx j m=>FE l i nt.length x.size j m.length:=by simp only[Ve,dW,wS];intro hk;have:=dV (l:=l) (i:=i) (by rw[hk];decide);exact bJ (Gx aB aB aB) λx j m hj=>λhk=>by have:=dV (l:=l) (i:=j) (by rw[hk];decide);show FE l i nt.length x.1.size (j+1) m.length;omega
def PN{n i:Nat}{nt:gY}{e:Int}{a:Bool}(hi:i<=l.length):(JV l n e a i nt).sat λx j m=>FN l i nt.length j m.length/\x.size+2 * i<=2 * j+1:=by
 rw[JV,eP];refine⟨λ_=> ?_,λ_=> ?_⟩
 ·show FN l i nt.length i nt.length/\(Tn.size _)+2 * i<=2 * i+1;rw[Vg];omega
 rw[dW];exact bJ (Gx aB aB hi) λx j m hj=>by show FN l i nt.length j m.length/\x.1.size+2 * i<=2 * j+1;omega
def ase{n i:Nat}{k:Int}{nt:gY}(hi:i<l.length):(aco l n k i nt).sat λx j m=>FS l i nt.length x.size j m.length:=by
 rw[aco,eP];refine⟨λ_=> ?_,λ_=> ?_⟩
 ·show FS l i nt.length (Tn.size _) (i+1) nt.length;rw[Vg];omega
 rw[dW];exact bJ (Gx aB aB aB) λx j m hj=>by show FS l i nt.length (Tn.size _) j m.length;rw[Uy];omega
def aDG{n i:Nat}{nt:gY}:(ame l n i nt).sat λx j m=>FS l i nt.length x.size j m.length:=by
 rw[ame,dW,WE];intro h;have:=dV (l:=l) (i:=i+1) (by rw[h];decide);rw[eP];refine⟨λhc=> ?_,λ_=> ?_⟩
 ·have:=cZ hc (by decide);simp only[dW,wS];exact bJ (acr aB) λx j m hj=>λhk=>by have:=dV (l:=l) (i:=j) (by rw[hk];decide);show FS l i nt.length (Tn.size _) (j+1) m.length;rw[RD];omega
 ·show FS l i nt.length (Tn.size _) (i+1+1) nt.length;rw[Vg];omega
def aDH{n i:Nat}{nt:gY}(hi:i<l.length):(agF l n i nt).sat λx j m=>FS l i nt.length x.size j m.length:=by
 rw[agF,dW];have h1:(bif bD l i==26|| !(Gj (bD l (i+1))||xY (bD l (i+1))) then PU l n false true [] (i+1) nt else .ok [] (i+1) nt:PR (List Tn)).sat λL j m=>FN l (i+1) nt.length j m.length/\sizes L+2 * (i+1)<=2 * j:=by rw[eP];refine⟨λ_=>bJ (acr aB) λx j m hj=>by omega,λ_=> ?_⟩;show FN l (i+1) nt.length (i+1) nt.length/\sizes []+2 * (i+1)<=2 * (i+1);rw[sizes0];omega
 refine bJ h1 λL j m hj=> ?_
 rw[eP];refine⟨λhc=> ?_,λ_=> ?_⟩
 ·have:=dV (Z5 hc);rw[dW];exact bJ (Gx aB aB aB) λx j' m' hj'=>by show FS l i nt.length (Tn.size _) j' m'.length;rw[RD,sizes1];omega
 ·show FS l i nt.length (Tn.size _) j m.length;rw[RD];omega
def aqM{n i:Nat}{nt:gY}(hi:i<=l.length):(ajN l n i nt).sat λx j m=>FS l i nt.length x.size j m.length:=by
 have hw:∀k,i<l.length->(PR.ok (Tn.mk k 0 [] [] []) (i+1) nt).sat λx j m=>FS l i nt.length x.size j m.length:=λk hl=>by show FS l i nt.length (Tn.size _) (i+1) nt.length;rw[Vg];omega
 rw[ajN,eP];refine⟨λhc=> ?_,λ_=> ?_⟩
 ·have:i<l.length:=by rw[Bool.or_eq_true] at hc;rcases hc with hc|hc<;>exact cZ hc (by decide)
  exact aDH this
 rw[eP];refine⟨λhc=>hw 22 (cZ hc (by decide)),λ_=> ?_⟩;rw[eP];refine⟨λhc=>hw 25 (cZ hc (by decide)),λ_=> ?_⟩;rw[eP];refine⟨λhc=>hw 26 (cZ hc (by decide)),λ_=> ?_⟩;rw[eP];refine⟨λhc=>ase (cZ hc (by decide)),λ_=> ?_⟩;rw[eP];refine⟨λhc=>ase (cZ hc (by decide)),λ_=> ?_⟩;rw[eP];refine⟨λ_=>aDG,λ_=> ?_⟩;rw[dW];exact bJ (Gx aB aB hi) λx j m hj=>by show FS l i nt.length (Tn.size _) j m.length;rw[Uy];omega
def aqN{α:Type}{P:α->Nat->gY->Prop}{x:α}{j:Nat}{nt:gY}(h:P x j nt):(endP l x j nt).sat P:=by rw[endP,eP];exact⟨λ_=>h,λ_=>trivial⟩
structure aBS(l:List Tk)(n:Nat):Prop where
 st:∀i nt,i<=l.length->(stP l n i nt).sat λx j m=>FS l i nt.length x.size j m.length
 blk:∀i nt,i<=l.length->(Lu l n i nt).sat λx j m=>FB l i nt.length x.size j m.length
 lines:∀L i nt,i<=l.length->(X6 l n L i nt).sat λL' j m=>i<j/\FN l i nt.length j m.length/\sizes L'+m.length+6 * i<=sizes L+nt.length+6 * j
 body:∀i nt,i<=l.length->(Dh l n i nt).sat λx j m=>i<j/\FN l i nt.length j m.length/\x.size+m.length+6 * i+1<=nt.length+6 * j
section
variable {n:Nat} (h:aBS l n)
include h
theorem aAB(i:Nat)(nt:gY)(hi:i<=l.length):(stP l (n+1) i nt).sat λx j m=>FS l i nt.length x.size j m.length:=by
 rw[stP,eP];refine⟨λ_=>bJ (h.blk i nt hi) λx j m hj=>by omega,λ_=> ?_⟩;rw[eP];refine⟨λhc=> ?_,λ_=> ?_⟩
 ·have:=cZ hc (by decide);simp only[dW];refine bJ (QZ aB) λx j m hj=> ?_
  refine bJ (h.body j m aB) λy j2 m2 hj2=> ?_
  rw[eP];have hs:=Qs (l:=l) (i:=j2) (nt:=m2) aB;refine⟨λhc=> ?_,λ_=> ?_⟩
  ·have:=cZ hc (by decide);rw[dW];exact bJ (h.body _ _ aB) λz j3 m3 hj3=>by show FS l i nt.length (Tn.size _) j3 m3.length;rw[size3];omega
  ·show FS l i nt.length (Tn.size _) j2 m2.length;rw[size2];omega
 rw[eP];refine⟨λhc=> ?_,λ_=> ?_⟩
 ·have:=cZ hc (by decide);simp only[dW];refine bJ (QZ aB) λx j m hj=> ?_
  exact bJ (h.body j m aB) λy j2 m2 hj2=>by show FS l i nt.length (Tn.size _) j2 m2.length;rw[size2];omega
 rw[eP];refine⟨λhc=> ?_,λ_=> ?_⟩
 ·have:=cZ hc (by decide);simp only[dW,wS];refine bJ (h.body (i+1) nt aB) λx j m hj=>λhk=> ?_
  have hs:=Qs (l:=l) (i:=j) (nt:=m) aB;have:=dV (l:=l) (i:=(sep l j m).1) (by rw[hk];decide);refine bJ (QZ aB) λy j2 m2 hj2=> ?_
  refine aqN (?_:FS l i nt.length (Tn.size _) j2 m2.length);rw[size2];omega
 rw[eP];refine⟨λhc=> ?_,λ_=> ?_⟩
 ·have:=cZ hc (by decide);simp only[dW,wS];intro h32;have:=dV (l:=l) (i:=i+1) (by rw[h32];decide);rw[eP];refine⟨λhd=> ?_,λ_=> ?_⟩
  ·simp only[dW,wS,WE];intro h6 h33;have:=dV (l:=l) (i:=i+1+1+2+1) (by rw[h33];decide);exact bJ (h.body _ nt aB) λy j2 m2 hj2=>by show FS l i nt.length (Tn.size _) j2 m2.length;rw[Uy];omega
  ·simp only[dW,wS];refine bJ (PN aB) λx j m hj=>λhk=> ?_
   have:=dV (l:=l) (i:=j) (by rw[hk];decide);have g1:=Di (l:=l) (i:=j+1) (nt:=m) aB;refine bJ (PN aB) λy j2 m2 hj2=>λhk2=> ?_
   have:=dV (l:=l) (i:=j2) (by rw[hk2];decide);have g2:=Di (l:=l) (i:=j2+1) (nt:=m2) aB;refine bJ (PN aB) λz j3 m3 hj3=>λhk3=> ?_
   have:=dV (l:=l) (i:=j3) (by rw[hk3];decide);exact bJ (h.body _ _ aB) λw j4 m4 hj4=>by show FS l i nt.length (Tn.size _) j4 m4.length;rw[aLO];omega
 rw[dW];exact bJ (aqM hi) λx j m hj=>aqN hj
theorem ax3(i:Nat)(nt:gY)(hi:i<=l.length):(Lu l (n+1) i nt).sat λx j m=>FB l i nt.length x.size j m.length:=by simp only[Lu,dW,wS];intro hk;have:=dV (l:=l) (i:=i) (by rw[hk];decide);exact bJ (h.lines [] (i+1) nt aB) λL j m hj=>by rw[sizes0] at hj;show FB l i nt.length (Tn.size _) j m.length;rw[RD];omega
theorem aqO(L:List Tn)(i:Nat)(nt:gY)(hi:i<=l.length):(X6 l (n+1) L i nt).sat λL' j m=>i<j/\FN l i nt.length j m.length/\sizes L'+m.length+6 * i<=sizes L+nt.length+6 * j:=by
 have hs:=Qs (l:=l) (i:=i) (nt:=nt) hi;rw[X6,eP];refine⟨λhc=> ?_,λ_=> ?_⟩
 ·have:=cZ hc (by decide);show i<(sep l i nt).1+1/\FN l i nt.length ((sep l i nt).1+1) ([]:gY).length/\sizes (L++ES (sep l i nt).2)+([]:gY).length+6 * i<=sizes L+nt.length+6 * ((sep l i nt).1+1);rw[nI,aas,zln];omega
 rw[eP];refine⟨λ_=>trivial,λhc=> ?_⟩;have hlt:(sep l i nt).1<l.length:=dV (by simpa using hc);rw[dW];refine bJ (h.st _ _ aB) λs j m hj=> ?_
 rw[zln] at hj;exact bJ (h.lines _ j m aB) λL' j2 m2 hj2=>by rw[sizes1,nI,aas] at hj2;omega
theorem auv(i:Nat)(nt:gY)(hi:i<=l.length):(Dh l (n+1) i nt).sat λx j m=>i<j/\FN l i nt.length j m.length/\x.size+m.length+6 * i+1<=nt.length+6 * j:=by
 have hs:=Di (l:=l) (i:=i) (nt:=nt) hi;rw[Dh,eP];refine⟨λhc=>bJ (h.blk _ _ aB) λs j m hj=>by omega,λ_=> ?_⟩;rw[eP];refine⟨λhc=> ?_,λ_=> ?_⟩
 ·have:=cZ hc (by decide);show i<(nl l i nt).1+1/\FN l i nt.length ((nl l i nt).1+1) ([]:gY).length/\(Tn.size _)+([]:gY).length+6 * i+1<=nt.length+6 * ((nl l i nt).1+1);rw[RD,aas,zln];omega
 rw[dW];exact bJ (h.st _ _ aB) λs j m hj=>by rw[zln] at hj;show i<j/\FN l i nt.length j m.length/\(Tn.size _)+m.length+6 * i+1<=nt.length+6 * j;rw[RD,sizes1,aas];omega
end
def P9(l:List Tk):∀n,aBS l n
 |0=>⟨λ_ _ _=>by rw[stP];trivial,λ_ _ _=>by rw[Lu];trivial,λ_ _ _ _=>by rw[X6];trivial,λ_ _ _=>by rw[Dh];trivial⟩
 |n+1=>have h:=P9 l n
  ⟨aAB h,ax3 h,aqO h,auv h⟩
def ag2:∀(n:Nat) (L:List Tn) (i:Nat) (nt:gY),i<=l.length->(Gw l n L i nt).sat λL' j m=>i<j/\FN l i nt.length j m.length/\sizes L'+m.length+6 * i<=sizes L+nt.length+6 * j
 |0,_,_,_,_=>trivial
 |n+1,L,i,nt,hi=>by
  rw[Gw,dW,WE];intro h6;have:=dV (l:=l) (i:=i) (by rw[h6];decide);rw[eP];refine⟨λhc=> ?_,λ_=> ?_⟩
  ·have:=cZ hc (by decide);rw[eP];refine⟨λ_=>trivial,λ_=> ?_⟩;have hs:=Di (l:=l) (i:=i+1+1) (nt:=nt) aB;exact bJ (ag2 n _ _ _ aB) λs j m hj=>by rw[sizes1,Vg] at hj;omega
  ·show i<i+1/\FN l i nt.length (i+1) nt.length/\sizes (L++[Tn.mk 1 0 (Bo l i) [] []])+nt.length+6 * i<=sizes L+nt.length+6 * (i+1);rw[sizes1,Vg];omega
def aDI{n i:Nat}{nt:gY}(hi:i<=l.length):(amf l n i nt).sat λx j m=>FS l i nt.length x.size j m.length:=by
 rw[amf,eP];refine⟨λhc=> ?_,λ_=>trivial⟩;simp only[dW,wS];intro h32;have:=dV (l:=l) (i:=i+1) (by rw[h32];decide);have h1:(bif bD l (i+1+1)==33 then .ok [] (i+1+1) nt else Gw l n [] (i+1+1) nt:PR (List Tn)).sat λL j m=>FN l (i+2) nt.length j m.length/\sizes L+m.length+6 * (i+2)<=nt.length+6 * j:=by rw[eP];refine⟨λ_=> ?_,λ_=>bJ (ag2 n [] _ nt aB) λx j m hj=>by rw[sizes0] at hj;omega⟩;show FN l (i+2) nt.length (i+1+1) nt.length/\sizes []+nt.length+6 * (i+2)<=nt.length+6 * (i+1+1);rw[sizes0];omega
 refine bJ h1 λL j m hj=>λh33=> ?_
 have:=dV (l:=l) (i:=j) (by rw[h33];decide);have hs:=Di (l:=l) (i:=j+1) (nt:=m) aB;exact bJ ((P9 l n).blk _ _ aB) λx j' m' hj'=>by show FS l i nt.length (Tn.size _) j' m'.length;rw[RD,sizes1];omega
def asf{n i:Nat}{nt:gY}(hi:i<=l.length):(WC l n i nt).sat λx j m=>FS l i nt.length x.size j m.length:=by
 rw[WC,eP];refine⟨λhc=> ?_,λ_=> ?_⟩
 ·have:=cZ hc (by decide);rw[dW];exact bJ ((P9 l n).blk (i+1) nt aB) λx j m hj=>by show FS l i nt.length (Tn.size _) j m.length;rw[Uy];omega
 rw[eP];refine⟨λhc=> ?_,λ_=> ?_⟩
 ·have:=cZ hc (by decide);rw[dW];exact bJ ((P9 l n).blk (i+1) nt aB) λx j m hj=>by show FS l i nt.length (Tn.size _) j m.length;rw[Uy];omega
 rw[eP];refine⟨λhc=> ?_,λ_=> ?_⟩
 ·have:=cZ hc (by decide);exact bJ (aDI aB) λx j m hj=>by omega
 rw[eP];refine⟨λhc=> ?_,λ_=> ?_⟩
 ·rw[dW];exact bJ ((P9 l n).blk i nt hi) λx j m hj=>by show FS l i nt.length (Tn.size _) j m.length;rw[Uy];omega
 rw[dW];refine bJ (Gx aB aB hi) λx j m hj=> ?_
 rw[dW];have h1:(bif bD l j==36 then(ex l n 1 false false (nl l (j+1) m).1 (nl l (j+1) m).2).bind λy i nt=> .ok (43,[x.1,y.1]) i nt else .ok (42,[x.1]) j m:PR (Int×List Tn)).sat λq j m=>FE l i nt.length (sizes q.2) j m.length:=by
  rw[eP];refine⟨λhc=> ?_,λ_=> ?_⟩
  ·have:=cZ hc (by decide);have hs:=Di (l:=l) (i:=j+1) (nt:=m) aB;rw[dW];exact bJ (Gx aB aB aB) λy j2 m2 hj2=>by show FE l i nt.length (sizes [x.1,y.1]) j2 m2.length;simp only[sizes];omega
  ·show FE l i nt.length (sizes [x.1]) j m.length;simp only[sizes];omega
 refine bJ h1 λq j2 m2 hj2=> ?_
 rw[eP];refine⟨λhc=> ?_,λ_=> ?_⟩
 ·rw[dW];exact bJ ((P9 l n).blk j2 m2 aB) λy j3 m3 hj3=>by show FS l i nt.length (Tn.size _) j3 m3.length;rw[RD,sizes1];omega
 ·refine aqN (?_:FS l i nt.length (Tn.size _) j2 m2.length);rw[RD];omega
def aDJ{α:Type}(a b:Bool)(x y:α):(bif a||b then x else y)=bif a then x else bif b then x else y:=by cases a<;>rfl
def ax4{α:Type}(a:Bool)(x y:α):some (bif a then x else y)=bif a then some x else some y:=by cases a<;>rfl
def Qu(op:Int):M.rZ op=some (Gv op)/\M.yh op=some (Gv op):=by simp only[M.rZ,M.O8,M.yh,M.OB,Gv,aDJ,ax4];constructor<;>first|trivial|rfl
def Ps.SI(p:Ps):Int×Bool×Bool×Bool×Bool:=(p.level,p.aDD,p.aRF,p.aRG,p.aDE)
def many(n:Nat):decide ((n:Int)>1)=Nat.blt 1 n:=by
 cases hb:Nat.blt 1 n with
 |true=>rw[Nat.blt_eq] at hb;exact zdt aB
 |false=>
  have:¬1<n:=by rw[<-Nat.blt_eq,hb];simp
  exact zD aB
def dP(l:List (aJ)):ah (encS l)=true:=by simp[ah,encS,D.flat]
def snS(l:List (aJ))(s:aJ):encS l++[[D.str s]]=encS (l++[s]):=by simp[encS]
def lnS(l:List (aJ)):(encS l).length=l.length:=by simp[encS]
abbrev TP:=Int×Int×aJ×aJ×Bool×ay×Bool×ay×Int×Bool×ay
abbrev TT:=Int×Int×aJ×aJ×Bool×ay×ay×Int×Bool×ay
abbrev TL:=Bool×ay×ay×Int×Bool×ay
def AP(l:List Tk)(o:Option TP):PR Xp->Prop
 | .ok x j nt=>∃fl ks,ak ks=dN false x.1.kids/\o=some (x.1.kind,x.1.op,x.1.text,x.1.other,fl,ks,tgt x,au l,(j:Int),false,encS nt)
 | .bad j=>∃k op x y fl ks tg nt,nt.length<=l.length/\o=some (k,op,x,y,fl,ks,tg,au l,(j:Int),true,encS nt)
 | .out=>True
def AT(l:List Tk)(o:Option TT):PR Tn->Prop
 | .ok x j nt=>∃fl ks,ak ks=dN false x.kids/\o=some (x.kind,x.op,x.text,x.other,fl,ks,au l,(j:Int),false,encS nt)
 | .bad j=>∃k op x y fl ks nt,nt.length<=l.length/\o=some (k,op,x,y,fl,ks,au l,(j:Int),true,encS nt)
 | .out=>True
def AL(l:List Tk)(o:Option TL):PR (List Tn)->Prop
 | .ok L j nt=>∃fl,o=some (fl,dN false L,au l,(j:Int),false,encS nt)
 | .bad j=>∃fl ks nt,nt.length<=l.length/\o=some (fl,ks,au l,(j:Int),true,encS nt)
 | .out=>True
variable {l:List Tk}
section
variable {β γ:Type} {R:Option β->PR γ->Prop}
def AP.elim{o:Option TP}{p:PR Xp}(h:AP l o p){f:TP->Option β}{g:Xp->Nat->gY->PR γ}(hout:∀o,R o .out)
  (hbad:∀k op x y fl ks tg j nt,nt.length<=l.length->R (f (k,op,x,y,fl,ks,tg,au l,((j:Nat):Int),true,encS nt)) (.bad j))
  (hok:∀x fl ks j nt,ak ks=dN false x.1.kids->p=.ok x j nt->R (f (x.1.kind,x.1.op,x.1.text,x.1.other,fl,ks,tgt x,au l,(j:Int),false,encS nt)) (g x j nt)):R (o.bind f) (p.bind g):=by
 cases p with
 |ok x j nt=>obtain⟨fl,ks,h1,rfl⟩:=h;exact hok x fl ks j nt h1 rfl
 |bad j=>obtain⟨k,op,x,y,fl,ks,tg,nt,h1,rfl⟩:=h;exact hbad k op x y fl ks tg j nt h1
 |out=>exact hout _
def AT.elim{o:Option TT}{p:PR Tn}(h:AT l o p){f:TT->Option β}{g:Tn->Nat->gY->PR γ}(hout:∀o,R o .out)
  (hbad:∀k op x y fl ks j nt,nt.length<=l.length->R (f (k,op,x,y,fl,ks,au l,((j:Nat):Int),true,encS nt)) (.bad j))
  (hok:∀x fl ks j nt,ak ks=dN false x.kids->p=.ok x j nt->R (f (x.kind,x.op,x.text,x.other,fl,ks,au l,(j:Int),false,encS nt)) (g x j nt)):R (o.bind f) (p.bind g):=by
 cases p with
 |ok x j nt=>obtain⟨fl,ks,h1,rfl⟩:=h;exact hok x fl ks j nt h1 rfl
 |bad j=>obtain⟨k,op,x,y,fl,ks,nt,h1,rfl⟩:=h;exact hbad k op x y fl ks j nt h1
 |out=>exact hout _
def AL.elim{o:Option TL}{p:PR (List Tn)}(h:AL l o p){f:TL->Option β}{g:List Tn->Nat->gY->PR γ}(hout:∀o,R o .out)
  (hbad:∀fl ks j nt,nt.length<=l.length->R (f (fl,ks,au l,((j:Nat):Int),true,encS nt)) (.bad j))
  (hok:∀L fl j nt,p=.ok L j nt->R (f (fl,dN false L,au l,(j:Int),false,encS nt)) (g L j nt)):R (o.bind f) (p.bind g):=by
 cases p with
 |ok L j nt=>obtain⟨fl,rfl⟩:=h;exact hok L fl j nt rfl
 |bad j=>obtain⟨fl,ks,nt,h1,rfl⟩:=h;exact hbad fl ks j nt h1
 |out=>exact hout _
end
def PR.bind_ok{α:Type}(p:PR α):(p.bind λa i nt=> .ok a i nt)=p:=by cases p<;>rfl
def AP.pass{o:Option TP}{p:PR Xp}(h:AP l o p){f:TP->Option TP}
  (hf:∀k op x y fl ks tg j b nt,f (k,op,x,y,fl,ks,tg,au l,j,b,encS nt)=some (k,op,x,y,false,ak ks,tg,au l,j,b,encS nt)):AP l (o.bind f) p:=by
 rw[<-PR.bind_ok p];refine AP.elim (R:=AP l) h (λ_=>trivial) (λk op x y fl ks tg j nt hn=> ?_) (λx fl ks j nt hk _=> ?_)
 ·rw[hf];exact⟨_,_,_,_,_,_,_,_,hn,rfl⟩
 ·rw[hf];exact⟨_,_,by rw[hk,iW],rfl⟩
def AT.pass{o:Option TT}{p:PR Tn}(h:AT l o p){f:TT->Option TT}
  (hf:∀k op x y fl ks j b nt,f (k,op,x,y,fl,ks,au l,j,b,encS nt)=some (k,op,x,y,false,ak ks,au l,j,b,encS nt)):AT l (o.bind f) p:=by
 rw[<-PR.bind_ok p];refine AT.elim (R:=AT l) h (λ_=>trivial) (λk op x y fl ks j nt hn=> ?_) (λx fl ks j nt hk _=> ?_)
 ·rw[hf];exact⟨_,_,_,_,_,_,_,hn,rfl⟩
 ·rw[hf];exact⟨_,_,by rw[hk,iW],rfl⟩
def eH(i:Nat)(b:Bool)(nt:gY):M.aF (au l) (i:Int) b (encS nt)=some (bD l i,au l,(i:Int),b,encS nt):=by
 simp only[M.aF,M.G8,dQ,dP,aI,bD]
 by_cases h:i<l.length
 ·rw[zD aB,aX];obtain⟨t,ht⟩:∃t,l[i]? =some t:=⟨l[i],by simp[h]⟩
  simp only[dI,gq,ht,KZ,aj,cT0]
 ·rw[zdt aB,aI,List.getElem?_eq_none aB]
def nD(hl:l.length<=1048576){i:Nat}(h:i<l.length):i64.wrap ((i:Int)+1)=((i+1:Nat):Int):=by rw[bC aB aB];omega
def LC(hl:l.length<=1048576){i:Nat}(h:i<l.length)(b:Bool)(nt:gY):M.fC (au l) (i:Int) b (encS nt)=some (Bo l i,au l,((i+1:Nat):Int),b,encS nt):=by
 obtain⟨t,ht⟩:∃t,l[i]? =some t:=⟨l[i],by simp[h]⟩
 simp only[M.fC,M.Hf,dI,gq,ht,KZ,aj,cT1,dP,aI,nD hl h,Bo]
def aqP(k:Int):M.qQ k=some (isStep k):=by simp only[M.qQ,M.QT,isStep];cases k==51<;>rfl
def aBT(k:Int):M.lH k=some (aqK k):=by simp only[M.lH,M.Ec,aqK];cases k==3<;>cases k==4<;>cases k==6<;>cases k==7<;>cases k==8<;>cases k==32<;>cases k==68<;>rfl
def amk(k:Int):M.kM k=some (Gj k):=by simp only[M.kM,M.MW,Gj];cases k==0<;>cases k==1<;>cases k==2<;>cases k==37<;>rfl
def ag3(k:Int):M.EM k=some (xY k):=by simp only[M.EM,M.S9,xY];cases k==62<;>cases k==53<;>rfl
def Vh(k:Int):M.zq k=some (Xw k):=by simp only[M.zq,M.O4,Xw];cases k==32<;>cases k==34<;>rfl
def Xx(k:Int):M.zu k=some (VB k):=by simp only[M.zu,M.O5,VB];cases k==33<;>cases k==35<;>rfl
def aqQ(i:Nat)(b:Bool)(nt:gY):M.jh (au l) (i:Int) b (encS nt)=some (0,0,[],[],true,[],false,au l,(i:Int),true,encS nt):=by simp only[M.jh,M.He,dP,aI]
def uw(k:Int)(i:Nat)(nt:gY):M.aP k (au l) (i:Int) true (encS nt)=some (false,au l,(i:Int),true,encS nt):=by simp only[M.aP,M.sV,dP,aI]
section
variable {β γ:Type} {R:Option β->PR γ->Prop}
def LD(hl:l.length<=1048576){k:Int}(hk:k≠0){i:Nat}{nt:gY}{f:Bool×ay×Int×Bool×ay->Option β}{g:Unit->Nat->gY->PR γ}
  (hbad:R (f (false,au l,(i:Int),true,encS nt)) (.bad i))
  (hok:bD l i=k->i<l.length->R (f (true,au l,((i+1:Nat):Int),false,encS nt)) (g () (i+1) nt)):
  R ((M.aP k (au l) (i:Int) false (encS nt)).bind f) ((iZ l k i nt).bind g):=by
 have e:M.aP k (au l) (i:Int) false (encS nt)=bif bD l i==k then some (true,au l,i64.wrap ((i:Int)+1),false,encS nt) else some (false,au l,(i:Int),true,encS nt):=by simp only[M.aP,M.sV,dP,aI,aX,eH,aj,bne];cases bD l i==k<;>rfl
 rw[e,iZ];cases hc:bD l i==k with
 |true=>
  have h1:bD l i=k:=by rwa [beq_iff_eq] at hc
  have h2:i<l.length:=dV (by rw[h1];exact hk);simp only[aI,nD hl h2,aj];exact hok h1 h2
 |false=>exact hbad
def ax5(hl:l.length<=1048576){i:Nat}{nt:gY}{f:aJ×ay×Int×Bool×ay->Option β}{g:aJ->Nat->gY->PR γ}
  (hbad:R (f ([],au l,(i:Int),true,encS nt)) (.bad i))
  (hok:bD l i=6->i<l.length->R (f (Bo l i,au l,((i+1:Nat):Int),false,encS nt)) (g (Bo l i) (i+1) nt)):
  R ((M.bI (au l) (i:Int) false (encS nt)).bind f) ((nameP l i nt).bind g):=by
 rw[nameP];cases hc:bD l i==6 with
 |true=>
  have h1:bD l i=6:=by rwa [beq_iff_eq] at hc
  have h2:i<l.length:=dV (by rw[h1];decide);simp only[M.bI,M.iI,dP,aI,aX,eH,aj,bne,hc,zaN,LC hl h2];exact hok h1 h2
 |false=>simp only[M.bI,M.iI,dP,aI,aX,eH,aj,bne,hc,Bool.not_false];exact hbad
end
def WG{α:Type}{L:List α}{i:Nat}{t:α}(h:L[i]? =some t):L.drop i=t::L.drop (i+1):=by obtain⟨hi,rfl⟩:=VG.1 h;exact List.drop_eq_getElem_cons hi
def Vj(i:Nat)(nt:gY):nl l i nt=bif bD l i==1 then nl l (i+1) nt else bif bD l i==2 then nl l (i+1) (nt++[Bo l i]) else(i,nt):=by
 unfold nl;cases h:l[i]? with
 |none=>
  have e:bD l i=0:=by rw[bD,h]
  rw[e,List.drop_eq_nil_of_le (List.getElem?_eq_none_iff.1 h)];rfl
 |some t=>
  have e1:bD l i=t.kind:=by rw[bD,h]
  have e2:Bo l i=t.text:=by rw[Bo,h]
  rw[WG h,nlR,e1,e2]
def aiY(i:Nat)(nt:gY):sep l i nt=bif bD l i==1||bD l i==37 then sep l (i+1) nt else bif bD l i==2 then sep l (i+1) (nt++[Bo l i]) else(i,nt):=by
 unfold sep;cases h:l[i]? with
 |none=>
  have e:bD l i=0:=by rw[bD,h]
  rw[e,List.drop_eq_nil_of_le (List.getElem?_eq_none_iff.1 h)];rfl
 |some t=>
  have e1:bD l i=t.kind:=by rw[bD,h]
  have e2:Bo l i=t.text:=by rw[Bo,h]
  rw[WG h,aaN,e1,e2]
def ax6{P:Nat->gY->Prop}(h1:∀i nt,bD l i=1->i<l.length->P (i+1) nt->P i nt)(h2:∀i nt,bD l i=2->i<l.length->P (i+1) (nt++[Bo l i])->P i nt)
  (h3:∀i nt,(bD l i==1)=false->(bD l i==2)=false->P i nt):∀i nt,P i nt:=by
 have:∀n i nt,l.length - i<=n->P i nt:=by
  intro n;induction n with
  |zero=>
   intro i nt hn;have e:bD l i=0:=by rw[bD,List.getElem?_eq_none aB]
   exact h3 i nt (by rw[e];rfl) (by rw[e];rfl)
  |succ n ih=>
   intro i nt hn;cases e1:bD l i==1 with
   |true=>
    have e:bD l i=1:=by rwa [beq_iff_eq] at e1
    have hlt:=dV (l:=l) (i:=i) (by rw[e];decide);exact h1 i nt e hlt (ih _ _ aB)
   |false=>
    cases e2:bD l i==2 with
    |true=>
     have e:bD l i=2:=by rwa [beq_iff_eq] at e2
     have hlt:=dV (l:=l) (i:=i) (by rw[e];decide);exact h2 i nt e hlt (ih _ _ aB)
    |false=>exact h3 i nt e1 e2
 exact λi nt=>this _ i nt (zaO _)
def aml(i:Nat)(nt:gY):sep l i nt=bif bD l (nl l i nt).1==37 then sep l ((nl l i nt).1+1) (nl l i nt).2 else nl l i nt:=by
 refine ax6 (l:=l) (P:=λi nt=>sep l i nt=bif bD l (nl l i nt).1==37 then sep l ((nl l i nt).1+1) (nl l i nt).2 else nl l i nt) ?_ ?_ ?_ i nt
 ·intro i nt hk _ ih;rw[aiY,Vj,hk];exact ih
 ·intro i nt hk _ ih;rw[aiY,Vj,hk];exact ih
 ·intro i nt h1 h2;rw[aiY,Vj,h1,h2];cases h3:bD l i==37<;>simp only[Bool.or_true,Bool.or_false,Bool.false_or,aI,aX,h3]
def Qv(hl:l.length<=1048576)(i:Nat)(nt:gY)(hi:i<=l.length)(hn:nt.length<=i):
  M.aQ (au l) (i:Int) false (encS nt)=some (au l,((nl l i nt).1:Int),false,encS (nl l i nt).2):=by
 have hstep:∀i nt,(b:Bool)->i<l.length->bD l i=1->M.kT (bif b then .inl (au l,(i:Int),false,encS nt) else .inr (au l,(i:Int),false,encS nt))=some (.inl (.inr (au l,((i+1:Nat):Int),false,encS nt))):=by intro i nt b hlt hk;cases b<;>simp only[LJ,aI,aX,M.kT,M.nG,Bool.not_false,dP,eH,aj,hk,nD hl hlt,BEq.rfl]
 have hstep2:∀i nt,(b:Bool)->i<l.length->nt.length<=i->bD l i=2->M.kT (bif b then .inl (au l,(i:Int),false,encS nt) else .inr (au l,(i:Int),false,encS nt))=some (.inl (.inr (au l,((i+1:Nat):Int),false,encS (nt++[Bo l i])))):=by
  intro i nt b hlt hni hk;obtain⟨t,ht⟩:∃t,l[i]? =some t:=⟨l[i],by simp[hlt]⟩
  have e2:Bo l i=t.text:=by rw[Bo,ht]
  have h21:((2:Int)==1)=false:=rfl;cases b<;>simp only[LJ,aI,aX,M.kT,M.nG,Bool.not_false,dP,eH,aj,hk,h21,BEq.rfl,nD hl hlt,dI,gq,ht,KZ,cT1,snS,lnS,zf,e2]<;>
   rw[bG aB,aI,bG aB,aI]
 have amm:∀i nt,(b:Bool)->(bD l i==1)=false->(bD l i==2)=false->M.kT (bif b then .inl (au l,(i:Int),false,encS nt) else .inr (au l,(i:Int),false,encS nt))=some (.inr (.inl (au l,(i:Int),false,encS nt))):=by intro i nt b h1 h2;cases b<;>simp only[LJ,aI,aX,M.kT,M.nG,Bool.not_false,dP,eH,aj,h1,h2]
 have hloop:∀i nt,∀b:Bool,i<=l.length->nt.length<=i->M.jC (bif b then .inl (au l,(i:Int),false,encS nt) else .inr (au l,(i:Int),false,encS nt))=some (.inl (au l,((nl l i nt).1:Int),false,encS (nl l i nt).2)):=by
  refine ax6 (l:=l) (P:=λi nt=>∀b:Bool,i<=l.length->nt.length<=i->M.jC (bif b then .inl (au l,(i:Int),false,encS nt) else .inr (au l,(i:Int),false,encS nt))=some (.inl (au l,((nl l i nt).1:Int),false,encS (nl l i nt).2))) ?_ ?_ ?_
  ·intro i nt hk hlt ih b hi hn;rw[M.jC,aY (hstep i nt b hlt hk),Vj,hk];exact ih false aB aB
  ·intro i nt hk hlt ih b hi hn;rw[M.jC,aY (hstep2 i nt b hlt hn hk),Vj,hk];exact ih false aB (by rw[Au,zf];omega)
  ·intro i nt h1 h2 b hi hn;rw[M.jC,aN (amm i nt b h1 h2),Vj,h1,h2];rfl
 have:=hloop i nt true hi hn;simp only[aI] at this;simp only[M.aQ,M.vJ,this,aj,iO,dP,aI]
def H6(i:Nat)(nt:gY):M.aQ (au l) (i:Int) true (encS nt)=some (au l,(i:Int),true,encS nt):=by have:M.jC (.inl (au l,(i:Int),true,encS nt))=some (.inr (au l,(i:Int),true,encS nt)):=aN rfl;simp only[M.aQ,M.vJ,this,aj,iO,letE,dP,aI]
def ale(hl:l.length<=1048576)(i:Nat)(nt:gY)(hi:i<=l.length)(hn:nt.length<=i):
  M.bZ (au l) (i:Int) false (encS nt)=some (au l,((sep l i nt).1:Int),false,encS (sep l i nt).2):=by
 have hloop:∀n i nt,∀b:Bool,l.length - i<=n->i<=l.length->nt.length<=i->M.kU (bif b then .inl (au l,(i:Int),false,encS nt) else .inr (au l,(i:Int),false,encS nt))=some (au l,((sep l i nt).1:Int),false,encS (sep l i nt).2):=by
  intro n;induction n with
  |zero=>
   intro i nt b hk hi hn;have e:=aml (l:=l) i nt;have hf:=Di (l:=l) (nt:=nt) hi;have hnl:=Qv hl i nt hi hn;have e0:bD l (nl l i nt).1=0:=by rw[bD,List.getElem?_eq_none aB]
   rw[e0] at e;have e':sep l i nt=nl l i nt:=e;rw[e',M.kU];refine aN ?_;have h0:((0:Int) !=37)=true:=rfl;cases b<;>simp only[aI,aX,M.lK,M.jM,dP,hnl,aj,eH,e0,h0]
  |succ n ih=>
   intro i nt b hk hi hn;have e:=aml (l:=l) i nt;have hf:=Di (l:=l) (nt:=nt) hi;have hnl:=Qv hl i nt hi hn;rw[M.kU];cases h37:bD l (nl l i nt).1==37 with
   |true=>
    rw[h37,aI] at e;have hlt:=cZ h37 (by decide);rw[e];have hb:M.lK (bif b then .inl (au l,(i:Int),false,encS nt) else .inr (au l,(i:Int),false,encS nt))=some (.inl (.inr (au l,(((nl l i nt).1+1:Nat):Int),false,encS (nl l i nt).2))):=by cases b<;>simp only[aI,aX,M.lK,M.jM,dP,hnl,aj,eH,bne,h37,zaN,nD hl hlt]
    rw[aY hb];exact ih _ _ false aB aB aB
   |false=>rw[h37,aX] at e;rw[e];refine aN ?_;cases b<;>simp only[aI,aX,M.lK,M.jM,dP,hnl,aj,eH,bne,h37,Bool.not_false]
 have:=hloop _ i nt true (zaO _) hi hn;simp only[aI] at this;simp only[M.bZ,M.rV,this,aj,dP,aI]
def aiZ(i:Nat)(nt:gY):M.bZ (au l) (i:Int) true (encS nt)=some (au l,(i:Int),true,encS nt):=by
 have:M.kU (.inl (au l,(i:Int),true,encS nt))=some (au l,(i:Int),true,encS nt):=
  aN (by simp only[M.lK,M.jM,dP,aI,H6,aj])
 simp only[M.bZ,M.rV,this,aj,dP,aI]
def Dk(c1:Int)(b:Bool)(nt:gY)(hn:nt.length<=1048576):M.dU (au l) c1 b (encS nt)=some (true,dN true (ES nt),au l,c1,b,encS []):=by
 have hloop:=qX (b:=M.wH (nt.length:Int) (au l) c1 b (encS nt)) (t:=((nt.length:Int),dN true (ES nt)))
  (λj=>((j:Int),dN true (ES (nt.take j)))) nt.length
  (by
   intro j hj;obtain⟨t,ht⟩:∃t,nt[j]? =some t:=⟨nt[j],by simp⟩
   have h1:(encS nt)[j]? =some [D.str t]:=by simp[encS,ht]
   have h2:dN true (ES (nt.take (j+1)))=dN true (ES (nt.take j))++[[D.int .i64 34,D.int .i64 0,D.str t,D.str [],D.sl true 5 []]]:=by rw[uH ht,ES,List.map_append,Aq];rfl
   have h3:cStr [D.str t] 0=some t:=rfl;simp only[LJ,M.wH,M.qJ];rw[zdt aB,aI];simp only[dI,h1,aj,ztn,h3,dM,Dj,zlt,zf];rw[bG aB,aI,bG aB,aI,bC aB aB,h2];rfl)
  (by simp only[LJ,M.wH,M.qJ];rw[zD aB,aX,List.take_length]) 0 (Nat.zero_le _)
 have NP:M.yZ (nt.length:Int) (au l) c1 b (encS nt) (0,[])=some ((nt.length:Int),dN true (ES nt)):=hloop;simp only[M.dU,M.Ag,lnS,NP,aj];rfl
def aDK{s:ay}{a:Nat}(h:a<=s.length):cut s (a:Int) (s.length:Int)=some (s.drop a):=by rw[cut,zdt aB,zdt aB,zdt aB];simp[List.take_of_length_le]
def aAC(hl:l.length<=1048576)(i:Nat)(nt:gY)(hi:i<=l.length):M.lN (au l) (i:Int) false (encS nt)=some (ahead (l.drop i) 0,au l,(i:Int),false,encS nt):=by
 have hc:cut (au l) (i:Int) (l.length:Int)=some (au (l.drop i)):=by have:=aDK (s:=au l) (a:=i) (by simpa using hi);rw[dQ] at this;rw[this];simp[au]
 have hloop:∀{β:Type} (F:(Int×Int)⊕Unit⊕(Int×Int)->Option β) (T:Bool->Option β),(∀a,F (.inl a)=T false)->(∀a,F (.inr (.inl a))=T true)->(∀a,F (.inr (.inr a))=T false)->
   ∀(r pre:List Tk) (d:Nat),d<=pre.length->(pre++r).length<=1048576->
   (M.oG (au (pre++r)) ((pre++r).length:Int) (au l) (i:Int) false (encS nt) ((d:Int),(pre.length:Int))).bind F=T (ahead r d):=by
  intro β F T f1 f2 f3 r;induction r with
  |nil=>
   intro pre d hd hlen;have hb:M.dh (au (pre++[])) ((pre++[]).length:Int) (au l) (i:Int) false (encS nt) ((d:Int),(pre.length:Int))=some (.inr (.inr (.inr ((d:Int),(pre.length:Int))))):=by simp only[M.dh,M.fF,List.append_nil];rw[zD aB,aX]
   rw[M.oG,aN hb,aj,f3,ahead]
  |cons t r ih=>
   intro pre d hd hlen;have ht:(pre++t::r)[pre.length]? =some t:=by simp
   have hlen':pre.length+(r.length+1)<=1048576:=by rw[Au,X8] at hlen;exact hlen
   have hnext:=ih (pre++[t]);rw[Nu,List.singleton_append,Au,zf] at hnext;have w1:i64.wrap ((pre.length:Int)+1)=((pre.length+1:Nat):Int):=by rw[bC aB aB];omega
   have w2:i64.wrap ((d:Int)+1)=((d+1:Nat):Int):=by rw[bC aB aB];omega
   have w3:i64.wrap ((d:Int) - 1)=(d:Int) - 1:=bC aB aB;have hg:decide ((pre.length:Int)<((pre++t::r).length:Int))=true:=by rw[zdt];rw[Au,X8];omega
   rw[ahead,M.oG];cases ho:Xw t.kind with
   |true=>
    have hb:M.dh (au (pre++t::r)) ((pre++t::r).length:Int) (au l) (i:Int) false (encS nt) ((d:Int),(pre.length:Int))=some (.inl (((d+1:Nat):Int),((pre.length+1:Nat):Int))):=by simp only[M.dh,M.fF,hg,aI,dI,gq,ht,KZ,aj,cT0,cT1,cT2,Vh,ho,w1,w2];rw[zD aB,aX]
    rw[aY hb,aI];have:=hnext (d+1) aB hlen;rw[show(((d+1:Nat):Int))=(d:Int)+1 by omega] at this;exact this
   |false=>
    rw[aX];cases hs:VB t.kind with
    |true=>
     rw[aI];cases hd1:decide ((d:Int) - 1<=0) with
     |true=>
      have hb:M.dh (au (pre++t::r)) ((pre++t::r).length:Int) (au l) (i:Int) false (encS nt) ((d:Int),(pre.length:Int))=some (.inr (.inl ((d:Int) - 1,(pre.length:Int)))):=by simp only[M.dh,M.fF,hg,aI,aX,dI,gq,ht,KZ,aj,cT0,cT1,cT2,Vh,ho,Xx,hs,w3,hd1]
      rw[aN hb,aj,f1,aI]
     |false=>
      have hdd:1<d:=by have:=of_decide_eq_false hd1;omega
      have hb:M.dh (au (pre++t::r)) ((pre++t::r).length:Int) (au l) (i:Int) false (encS nt) ((d:Int),(pre.length:Int))=some (.inl (((d - 1:Nat):Int),((pre.length+1:Nat):Int))):=by simp only[M.dh,M.fF,hg,aI,aX,dI,gq,ht,KZ,aj,cT0,cT1,cT2,Vh,ho,Xx,hs,w3,hd1,w1];rw[show((d:Int) - 1)=((d - 1:Nat):Int) by omega]
      rw[aY hb,aX];have:=hnext (d - 1) aB hlen;rw[show(((d - 1:Nat):Int))=(d:Int) - 1 by omega] at this|-;exact this
    |false=>
     rw[aX];cases hc:t.kind==36 with
     |true=>
      cases h1:(d:Int)==1 with
      |true=>
       have hb:M.dh (au (pre++t::r)) ((pre++t::r).length:Int) (au l) (i:Int) false (encS nt) ((d:Int),(pre.length:Int))=some (.inr (.inr (.inl ()))):=by simp only[M.dh,M.fF,hg,aI,aX,dI,gq,ht,KZ,aj,cT0,cT1,cT2,Vh,ho,Xx,hs,hc,h1]
       rw[aN hb,aj,f2];rfl
      |false=>
       rw[Bool.and_false,aX];cases hd0:decide ((d:Int)<=0) with
       |true=>
        have hb:M.dh (au (pre++t::r)) ((pre++t::r).length:Int) (au l) (i:Int) false (encS nt) ((d:Int),(pre.length:Int))=some (.inr (.inl ((d:Int),(pre.length:Int)))):=by simp only[M.dh,M.fF,hg,aI,aX,dI,gq,ht,KZ,aj,cT0,cT1,cT2,Vh,ho,Xx,hs,hc,h1,hd0]
        rw[aN hb,aj,f1,aI]
       |false=>
        have hb:M.dh (au (pre++t::r)) ((pre++t::r).length:Int) (au l) (i:Int) false (encS nt) ((d:Int),(pre.length:Int))=some (.inl ((d:Int),((pre.length+1:Nat):Int))):=by simp only[M.dh,M.fF,hg,aI,aX,dI,gq,ht,KZ,aj,cT0,cT1,cT2,Vh,ho,Xx,hs,hc,h1,hd0,w1]
        rw[aY hb,aX];exact hnext d aB hlen
     |false=>
      rw[Bool.false_and,aX];cases hd0:decide ((d:Int)<=0) with
      |true=>
       have hb:M.dh (au (pre++t::r)) ((pre++t::r).length:Int) (au l) (i:Int) false (encS nt) ((d:Int),(pre.length:Int))=some (.inr (.inl ((d:Int),(pre.length:Int)))):=by simp only[M.dh,M.fF,hg,aI,aX,dI,gq,ht,KZ,aj,cT0,cT1,cT2,Vh,ho,Xx,hs,hc,hd0]
       rw[aN hb,aj,f1,aI]
      |false=>
       have hb:M.dh (au (pre++t::r)) ((pre++t::r).length:Int) (au l) (i:Int) false (encS nt) ((d:Int),(pre.length:Int))=some (.inl ((d:Int),((pre.length+1:Nat):Int))):=by simp only[M.dh,M.fF,hg,aI,aX,dI,gq,ht,KZ,aj,cT0,cT1,cT2,Vh,ho,Xx,hs,hc,hd0,w1]
       rw[aY hb,aX];exact hnext d aB hlen
 simp only[M.lN,M.y5,dQ,hc,aj];have:=hloop (β:=Bool×ay×Int×Bool×ay) (λu=>iO u (λt=>bif ah (encS nt) then some (false,au l,(i:Int),false,encS nt) else none) λu=>
  iO u (λt=>bif ah (encS nt) then some (true,au l,(i:Int),false,encS nt) else none) λu=>letE u λt=>bif ah (encS nt) then some (false,au l,(i:Int),false,encS nt) else none)
  (λb=>some (b,au l,(i:Int),false,encS nt)) (λa=>by simp only[iO,dP,aI]) (λa=>by simp only[iO,dP,aI]) (λa=>by simp only[iO,letE,dP,aI]) (l.drop i) [] 0 (zaO _) (by simp;omega)
 simpa using this
def ax7(l:List Nd)(o:Bool)(d:Int)(hl:l.length<=1048576)(hk:∀n,n∈l->n.kids.length<=1048576/\∀e,e∈n.kids-> -4000000000<=e+d/\e+d<=4000000000):
  M.uQ (aW o l) d=some (aW true (l.map (Nd.up d))):=by
 simp only[M.uQ,M.Ju];have hloop:=qX (b:=M.vg (aW o l) d) (t:=((l.length:Int),aW true (l.map (Nd.up d)))) (λi=>((i:Int),aW true ((l.take i).map (Nd.up d)))) l.length
  (by
   intro i hi;obtain⟨n,hn⟩:∃n,l[i]? =some n:=⟨l[i],by simp[hi]⟩
   obtain⟨hkl,hke⟩:=hk n (zmg hn);have hin:=qX (b:=M.uY (aW o l) d (i:Int) (aW true ((l.take i).map (Nd.up d))) n.kind n.op n.text n.other) (t:=((n.kids.length:Int),encI (n.kids.map (· +d)))) (λj=>((j:Int),encI ((n.kids.take j).map (· +d)))) n.kids.length
    (by
     intro j hj;obtain⟨e,he⟩:∃e,n.kids[j]? =some e:=⟨n.kids[j],by simp[hj]⟩
     have:=hke e (zmg he);simp only[LJ,M.uY,M.uX,dI,Bv,hn,KZ,aj,cN4,mZ,LQ,he,cI0,zaP,zlt,zf];rw[zdt aB,aI,bG aB,aI,bG aB,aI,bC aB aB,bC aB aB,uH he];simp[encI])
    (by simp only[LJ,M.uY,M.uX,dI,Bv,hn,KZ,aj,cN4,mZ];rw[zD aB,aX,List.take_length]) 0 (Nat.zero_le _)
   simp only[adk,List.take_zero,List.map_nil] at hin;have hin':M.Ie (aW o l) d (i:Int) (aW true ((l.take i).map (Nd.up d))) n.kind n.op n.text n.other (0,[])=some ((n.kids.length:Int),encI (n.kids.map (· +d))):=hin;simp only[LJ,M.vg,M.uZ,fV,dI,Bv,hn,KZ,aj,cN0,cN1,cN2,cN3,cN4,hin',Qj,aI,zaP,zlt,zf];rw[zdt aB,aI,bG aB,aI,bG aB,aI,bC aB aB,uH hn,List.map_append,Ap];rfl)
  (by simp only[LJ,M.vg,M.uZ,fV];rw[zD aB,aX,List.take_length]) 0 (Nat.zero_le _)
 simp only[adk,List.take_zero,List.map_nil] at hloop;have NP:M.Ig (aW o l) d (0,[])=some ((l.length:Int),aW true (l.map (Nd.up d))):=hloop;rw[NP,aj]
def parts(ts:List Tn):ay:=ts.map λt=>[.sl false 5 (aW false (t.flat 0))]
def EF(k op:Int)(x y:aJ)(kr:ay)(ts:List Tn)(hs:sizes ts<=900000):M.bV k op x y kr (parts ts)=some (aW true ((Tn.mk k op x y ts).flat 0)):=by
 have htl:=BI ts;simp only[LJ,M.bV,M.LU];have hpl:(parts ts).length=ts.length:=by simp[parts]
 have hloop:=qX (b:=M.xu (parts ts) k op x y) (t:=((ts.length:Int),aW true (tN ts 0),encI (ends ts 0))) (λj=>((j:Int),aW true (tN (ts.take j) 0),encI (ends (ts.take j) 0))) ts.length
  (by
   intro j hj;obtain⟨t,ht⟩:∃t,ts[j]? =some t:=⟨ts[j],by simp[hj]⟩
   have hst:=Ux ht;have hp:=t.size_pos;have hr:(parts ts)[j]? =some [.sl false 5 (aW false (t.flat 0))]:=by simp[parts,ht]
   have c0:cSl 5 [D.sl false 5 (aW false (t.flat 0))] 0=some (aW false (t.flat 0)):=rfl;have hfl:(aW true (tN (ts.take j) 0)).length=sizes (ts.take j):=by rw[fV,yc]
   have hsh:M.uQ (aW false (t.flat 0)) ((sizes (ts.take j):Nat):Int)=some (aW true (t.flat (sizes (ts.take j)))):=by
    rw[ax7 (t.flat 0) false _ (by rw[t.flat_length];omega) (λn hn=> ?_)]
    ·rw[t.arH 0 (sizes (ts.take j))];congr 4<;>omega
    ·obtain⟨h1,h2⟩:=TD t 0 n hn;refine⟨aB,λe he=> ?_⟩;have:=h2 e he;omega
   have hrl:(aW true (t.flat (sizes (ts.take j)))).length=t.size:=by rw[fV,t.flat_length]
   have hel:(encI (ends (ts.take j) 0)).length=j:=by rw[mZ,Rh,zlt];omega
   simp only[LJ,M.xu,M.xq,hpl,dI,hr,aj,c0,hfl,hsh,hrl,hel,Au,zf];rw[zdt aB,aI,bG aB,aI,bG aB,aI,bG aB,aI,bG aB,aI,bC aB aB,bC aB aB,aiT ht,ald ht,Ap,Nat.zero_add];simp[encI])
  (by simp only[LJ,M.xu,M.xq,hpl];rw[zD aB,aX,List.take_length]) 0 (Nat.zero_le _)
 have e0:aW true (tN (ts.take 0) 0)=[]:=rfl;have e1:encI (ends (ts.take 0) 0)=[]:=rfl;rw[adk,e0,e1] at hloop;have NP:M.BQ (parts ts) k op x y (0,[],[])=some ((ts.length:Int),aW true (tN ts 0),encI (ends ts 0)):=hloop;rw[NP,aj];simp only[Qj,aI,fV,yc,zf];rw[bG aB,aI,bG aB,aI,Tn.flat,Ap];rfl
def aZ(l:List Tk):ah (au l)=true:=by simp[ah,au,ajp,D.flat]
abbrev txt(ns:List Tk):gY:=ns.map Tk.text
def shK(d:Int)(n:Nd):Nd:={n with kids:=n.kids.map λe=>i64.wrap (e+d)}
def auw(l:List Nd)(o:Bool)(d:Int)(hl:l.length<=1048576)(hk:∀n,n∈l->n.kids.length<=1048576):
  M.uQ (aW o l) d=some (aW true (l.map (shK d))):=by
 simp only[M.uQ,M.Ju];have hloop:=qX (b:=M.vg (aW o l) d) (t:=((l.length:Int),aW true (l.map (shK d)))) (λi=>((i:Int),aW true ((l.take i).map (shK d)))) l.length
  (by
   intro i hi;obtain⟨n,hn⟩:∃n,l[i]? =some n:=⟨l[i],by simp[hi]⟩
   have hkl:=hk n (zmg hn);have hin:=qX (b:=M.uY (aW o l) d (i:Int) (aW true ((l.take i).map (shK d))) n.kind n.op n.text n.other) (t:=((n.kids.length:Int),encI (n.kids.map λe=>i64.wrap (e+d)))) (λj=>((j:Int),encI ((n.kids.take j).map λe=>i64.wrap (e+d)))) n.kids.length
    (by
     intro j hj;obtain⟨e,he⟩:∃e,n.kids[j]? =some e:=⟨n.kids[j],by simp[hj]⟩
     simp only[LJ,M.uY,M.uX,dI,Bv,hn,KZ,aj,cN4,mZ,LQ,he,cI0,zaP,zlt,zf];rw[zdt aB,aI,bG aB,aI,bG aB,aI,bC (n:=(j:Int)+1) aB aB,uH he];simp[encI])
    (by simp only[LJ,M.uY,M.uX,dI,Bv,hn,KZ,aj,cN4,mZ];rw[zD aB,aX,List.take_length]) 0 (Nat.zero_le _)
   simp only[adk,List.take_zero,List.map_nil] at hin;have hin':M.Ie (aW o l) d (i:Int) (aW true ((l.take i).map (shK d))) n.kind n.op n.text n.other (0,[])=some ((n.kids.length:Int),encI (n.kids.map λe=>i64.wrap (e+d))):=hin;simp only[LJ,M.vg,M.uZ,fV,dI,Bv,hn,KZ,aj,cN0,cN1,cN2,cN3,cN4,hin',Qj,aI,zaP,zlt,zf];rw[zdt aB,aI,bG aB,aI,bG aB,aI,bC aB aB,uH hn,List.map_append,Ap];rfl)
  (by simp only[LJ,M.vg,M.uZ,fV];rw[zD aB,aX,List.take_length]) 0 (Nat.zero_le _)
 simp only[adk,List.take_zero,List.map_nil] at hloop;have NP:M.Ig (aW o l) d (0,[])=some ((l.length:Int),aW true (l.map (shK d))):=hloop;rw[NP,aj]
def RB(R:List Nd)(b:Nat):Prop:=R.length<=b/\∀n,n∈R->n.kids.length<=100000
def RB.mono{R:List Nd}{a b:Nat}(h:RB R a)(hab:a<=b):RB R b:=⟨by have:=h.1;omega,h.2⟩
def RB.tree(t:Tn)(h:t.size<=100000):RB (t.flat 0) t.size:=⟨by rw[t.flat_length];omega,λn hn=>by have:=(TD t 0 n hn).1;omega⟩
def lens:List (List Nd)->Nat
 |[]=>0
 |R::P=>R.length+lens P
def qW(P:List (List Nd)):ay:=P.map λR=>[.sl false 5 (aW false R)]
def wU:∀a b:List (List Nd),lens (a++b)=lens a+lens b
 |[],b=>by simp[lens]
 |R::a,b=>by rw[zca,lens,lens,wU a b];omega
def ao0(k op:Int)(x y:aJ)(kr:ay)(P:List (List Nd))(hl:lens P<=100000)(hn:P.length<=100000)(hk:∀R,R∈P->∀n,n∈R->n.kids.length<=100000):
  ∃R',M.bV k op x y kr (qW P)=some (aW true R')/\R'.length=lens P+1/\∀n,n∈R'->n.kids.length<=100000:=by
 have hloop:∀(Q pre:List (List Nd)) (A:List Nd) (B:List Int),P=pre++Q->A.length=lens pre->B.length=pre.length->(∀n,n∈A->n.kids.length<=100000)->
   ∃A' B',M.BQ (qW P) k op x y ((pre.length:Int),aW true A,encI B)=some ((P.length:Int),aW true A',encI B')/\A'.length=lens P/\B'.length=P.length/\∀n,n∈A'->n.kids.length<=100000:=by
  intro Q;induction Q with
  |nil=>intro pre A B hP hA hB hkA;rw[List.append_nil] at hP;subst hP;refine⟨A,B, ?_,hA,hB,hkA⟩;refine aN ?_;simp only[LJ,M.xu,M.xq,show(qW P).length=P.length by simp[qW]];rw[zD aB,aX]
  |cons R Q ih=>
   intro pre A B hP hA hB hkA;have hPl:P.length=pre.length+(Q.length+1):=by rw[hP,Au,X8]
   have hPs:lens P=lens pre+(R.length+lens Q):=by rw[hP,wU,lens]
   have hR:R∈P:=by rw[hP];simp
   have hg:(qW P)[pre.length]? =some [.sl false 5 (aW false R)]:=by rw[qW,List.getElem?_map,hP];simp
   have c0:cSl 5 [D.sl false 5 (aW false R)] 0=some (aW false R):=rfl;have hsh:=auw R false (A.length:Int) aB (λn hn=>by have:=hk R hR n hn;omega);have hb:M.xu (qW P) k op x y ((pre.length:Int),aW true A,encI B)=some (.inl (((pre++[R]).length:Int),aW true (A++R.map (shK (A.length:Int))),encI (B++[((A.length+R.length:Nat):Int) - 1]))):=by simp only[LJ,M.xu,M.xq,show(qW P).length=P.length by simp[qW],dI,hg,aj,c0,fV,hsh,zaP,Au,mZ,zf];rw[zdt aB,aI,bG aB,aI,bG aB,aI,bG aB,aI,bG aB,aI,bC aB aB,bC aB aB,Ap];simp[encI]
   rw[M.BQ,aY hb];refine ih (pre++[R]) _ _ (by rw[hP];simp) ?_ ?_ ?_
   ·rw[Au,zaP,hA,wU,lens,lens];omega
   ·rw[Au,Au,hB];rfl
   ·intro n hn;rcases List.mem_append.1 hn with hn|hn
    ·exact hkA n hn
    ·obtain⟨n',h1,rfl⟩:=List.mem_map.1 hn;simp only[shK,zaP];exact hk R hR n' h1
 obtain⟨A',B',h1,h2,h3,h4⟩:=hloop P [] [] [] rfl rfl rfl (λn hn=>by cases hn);have h1':M.BQ (qW P) k op x y (0,[],[])=some ((P.length:Int),aW true A',encI B'):=h1;refine⟨A'++[⟨k,op,x,y,B'⟩], ?_,by rw[Au,zf,h2], ?_⟩
 ·simp only[LJ,M.bV,M.LU,h1',aj,Qj,aI,fV,zf];rw[bG aB,aI,bG aB,aI,Ap];rfl
 ·intro n hn;rcases List.mem_append.1 hn with hn|hn
  ·exact h4 n hn
  ·rw[List.mem_singleton] at hn;subst hn;show B'.length<=100000;omega
def vZ(ts:List Tn):parts ts=qW (ts.map λt=>t.flat 0):=by simp[parts,qW]
variable {l:List Tk}
def fU(i:Nat)(b:Bool)(ns:List Tk):M.aK (au l) (i:Int) b (au ns)=some (bD l i,au l,(i:Int),b,au ns):=by
 simp only[M.aK,M.Oz,dQ,aZ,aI,bD]
 by_cases h:i<l.length
 ·rw[zD aB,aX];obtain⟨t,ht⟩:∃t,l[i]? =some t:=⟨l[i],by simp[h]⟩
  simp only[dI,gq,ht,KZ,aj,cT0]
 ·rw[zdt aB,aI,List.getElem?_eq_none aB]
def amn(hl:l.length<=3000){i:Nat}(h:i<l.length):i64.wrap ((i:Int)+1)=((i+1:Nat):Int):=by rw[bC aB aB];omega
def dH(l:List Tk)(i:Nat):Int:=match l[i]? with|some t=>t.at_|none=>0
def eU(hl:l.length<=3000){k:Int}{i:Nat}{ns:List Tk}(h:bD l i=k)(hk:k≠0):M.aH k (au l) (i:Int) false (au ns)=some (k,Bo l i,dH l i,au l,((i+1:Nat):Int),false,au ns):=by
 have hlt:i<l.length:=dV (by rw[h];exact hk);obtain⟨t,ht⟩:∃t,l[i]? =some t:=⟨l[i],by simp[hlt]⟩
 have e1:t.kind=k:=by rw[bD,ht] at h;exact h
 have e:(bD l i==k)=true:=by rw[h];exact BEq.rfl
 simp only[M.aH,M.FI,aZ,aI,aX,fU,aj,bne,e,zaN,dI,gq,ht,KZ,cT0,cT1,cT2,amn hl hlt,e1,Bo,dH]
def uo{k:Int}{i:Nat}{ns:List Tk}(h:(bD l i==k)=false):M.aH k (au l) (i:Int) false (au ns)=some (0,[],0,au l,(i:Int),true,au ns):=by simp only[M.aH,M.FI,aZ,aI,aX,fU,aj,bne,h,Bool.not_false]
def jW(k:Int)(i:Nat)(ns:List Tk):M.aH k (au l) (i:Int) true (au ns)=some (0,[],0,au l,(i:Int),true,au ns):=by simp only[M.aH,M.FI,aZ,aI]
def amo(k:Int):M.rO k=some (isStep k):=by simp only[M.rO,M.MI,isStep];cases k==51<;>rfl
def aLP(k:Int):M.nJ k=some (aqK k):=by simp only[M.nJ,M.DZ,aqK];cases k==3<;>cases k==4<;>cases k==6<;>cases k==7<;>cases k==8<;>cases k==32<;>cases k==68<;>rfl
def amq(k:Int):M.pX k=some (Gj k):=by simp only[M.pX,M.MJ,Gj];cases k==0<;>cases k==1<;>cases k==2<;>cases k==37<;>rfl
def amr(k:Int):M.kV k=some (xY k):=by simp only[M.kV,M.GX,xY];cases k==62<;>cases k==53<;>rfl
def Xy(k:Int):M.qx k=some (Xw k):=by simp only[M.qx,M.Js,Xw];cases k==32<;>cases k==34<;>cases k==30<;>rfl
def Xz(k:Int):M.ou k=some (VB k):=by simp only[M.ou,M.Ib,VB];cases k==33<;>cases k==35<;>cases k==31<;>rfl
def aRI(k:Int):M.AO k=some (aqG k):=by simp only[M.AO,M.MG,aqG];cases k==1<;>cases k==5<;>rfl
def ax8(t:Tn)(h:Bool)(hs:t.size<=100000):M.AU (aW false (t.flat 0)) h=some (!h && aqG t.kind):=by
 have hp:=t.size_pos;have hsk:=t.aeP;have hr:(t.flat 0)[t.size - 1]? =some ⟨t.kind,t.op,t.text,t.other,Go.Vm.ends t.kids 0⟩:=by have:=Lies.root' (Lies.whole t);rw[show t.size - 1=0+sizes t.kids by omega];exact this
 simp only[LJ,M.AU,M.QI,M.GI,M.OA,fV,t.flat_length];cases h with
 |true=>rfl
 |false=>rw[show((t.size:Int)==0)=false by rw[XB];omega,bC aB aB,show(t.size:Int) - 1=((t.size - 1:Nat):Int) by omega];simp only[aX,Bool.not_false,aI,dI,Bv,hr,KZ,aj,cN0,cN1,cN2,cN3,cN4,aRI,Bool.true_and]
def Jh(hl:l.length<=3000)(i:Nat)(ns:List Tk)(hi:i<=l.length)(hn:ns.length<=i):
  ∃ns',txt ns'=(nl l i (txt ns)).2/\M.bT (au l) (i:Int) false (au ns)=some (au l,((nl l i (txt ns)).1:Int),false,au ns'):=by
 have hstep:∀i (ns:List Tk),(b:Bool)->i<l.length->bD l i=1->M.sO (bif b then .inl (au l,(i:Int),false,au ns) else .inr (au l,(i:Int),false,au ns))=some (.inl (.inr (au l,((i+1:Nat):Int),false,au ns))):=by intro i ns b hlt hk;have h12:((1:Int)==2)=false:=rfl;cases b<;>simp only[LJ,aI,aX,M.sO,M.xk,Bool.not_false,aZ,fU,aj,hk,amn hl hlt,BEq.rfl,h12]
 have hstep2:∀i (ns:List Tk),(b:Bool)->i<l.length->ns.length<=i->bD l i=2->∃t:Tk,t.text=Bo l i/\M.sO (bif b then .inl (au l,(i:Int),false,au ns) else .inr (au l,(i:Int),false,au ns))=some (.inl (.inr (au l,((i+1:Nat):Int),false,au (ns++[t])))):=by
  intro i ns b hlt hni hk;obtain⟨t,ht⟩:∃t,l[i]? =some t:=⟨l[i],by simp[hlt]⟩
  have e2:Bo l i=t.text:=by rw[Bo,ht]
  have h21:((2:Int)==1)=false:=rfl;have hsn:au ns++[[D.int .i64 t.kind,D.str t.text,D.int .i64 t.at_]]=au (ns++[t]):=by simp[au,ajp]
  refine⟨t,e2.symm, ?_⟩;cases b<;>simp only[LJ,aI,aX,M.sO,M.xk,Bool.not_false,aZ,fU,aj,hk,h21,BEq.rfl,amn hl hlt,dI,gq,ht,KZ,cT0,cT1,cT2,hsn,dQ,zf]<;>
   rw[bG aB,aI,bG aB,aI]
 have amm:∀i (ns:List Tk),(b:Bool)->(bD l i==1)=false->(bD l i==2)=false->M.sO (bif b then .inl (au l,(i:Int),false,au ns) else .inr (au l,(i:Int),false,au ns))=some (.inr (au l,(i:Int),false,au ns)):=by intro i ns b h1 h2;cases b<;>simp only[LJ,aI,aX,M.sO,M.xk,Bool.not_false,aZ,fU,aj,h1,h2]
 have hloop:∀(k i:Nat) (ns:List Tk) (b:Bool),l.length - i<=k->i<=l.length->ns.length<=i->∃ns',txt ns'=(nl l i (txt ns)).2/\M.qC (bif b then .inl (au l,(i:Int),false,au ns) else .inr (au l,(i:Int),false,au ns))=some (au l,((nl l i (txt ns)).1:Int),false,au ns'):=by
  intro k;induction k with
  |zero=>
   intro i ns b hk hi hn;have e:bD l i=0:=by rw[bD,List.getElem?_eq_none aB]
   have h1:(bD l i==1)=false:=by rw[e];rfl
   have h2:(bD l i==2)=false:=by rw[e];rfl
   refine⟨ns, ?_, ?_⟩
   ·rw[Vj,h1,h2];rfl
   ·rw[M.qC,aN (amm i ns b h1 h2),Vj,h1,h2];rfl
  |succ k ih=>
   intro i ns b hk hi hn;cases h1:bD l i==1 with
   |true=>
    have e:bD l i=1:=by rwa [beq_iff_eq] at h1
    have hlt:=cZ h1 (by decide);obtain⟨ns',e1,e2⟩:=ih (i+1) ns false aB aB aB;refine⟨ns', ?_, ?_⟩
    ·rw[Vj,h1];exact e1
    ·rw[M.qC,aY (hstep i ns b hlt e),Vj,h1];exact e2
   |false=>
    cases h2:bD l i==2 with
    |true=>
     have e:bD l i=2:=by rwa [beq_iff_eq] at h2
     have hlt:=cZ h2 (by decide);obtain⟨t,et,hb⟩:=hstep2 i ns b hlt hn e;obtain⟨ns',e1,e2⟩:=ih (i+1) (ns++[t]) false aB aB (by rw[Au,zf];omega);rw[show txt (ns++[t])=txt ns++[Bo l i] by rw[<-et];simp[txt]] at e1 e2;refine⟨ns', ?_, ?_⟩
     ·rw[Vj,h1,h2];exact e1
     ·rw[M.qC,aY hb,Vj,h1,h2];exact e2
    |false=>
     refine⟨ns, ?_, ?_⟩
     ·rw[Vj,h1,h2];rfl
     ·rw[M.qC,aN (amm i ns b h1 h2),Vj,h1,h2];rfl
 obtain⟨ns',e1,e2⟩:=hloop _ i ns true (zaO _) hi hn;simp only[aI] at e2;refine⟨ns',e1, ?_⟩;simp only[M.bT,M.Ic,e2,aj,aZ,aI]
def JW(i:Nat)(ns:List Tk):M.bT (au l) (i:Int) true (au ns)=some (au l,(i:Int),true,au ns):=by have:M.qC (.inl (au l,(i:Int),true,au ns))=some (au l,(i:Int),true,au ns):=aN rfl;simp only[M.bT,M.Ic,this,aj,aZ,aI]
abbrev TX:=Bool×ay×Bool×ay×Int×Bool×ay
abbrev TY:=Bool×ay×ay×Int×Bool×ay
def AX(l:List Tk)(i:Nat)(o:Option TX):PR Xp->Prop
 | .ok x j nt=>∃fl rows ns,ak rows=aW false (x.1.flat 0)/\txt ns=nt/\o=some (fl,rows,x.2,au l,(j:Int),false,au ns)
 | .bad j=>∃fl rows hd ns R,i<=j/\j<=l.length/\ns.length<=l.length/\ak rows=aW false R/\RB R (3 * (j - i))/\o=some (fl,rows,hd,au l,(j:Int),true,au ns)
 | .out=>True
def AY(l:List Tk)(i:Nat)(o:Option TY):PR (List Tn)->Prop
 | .ok L j nt=>∃fl ns,txt ns=nt/\o=some (fl,parts L,au l,(j:Int),false,au ns)
 | .bad j=>∃fl ns P,i<=j/\j<=l.length/\ns.length<=l.length/\lens P<=3 * (j - i)/\P.length<=8/\(∀R,R∈P->∀n,n∈R->n.kids.length<=100000)/\o=some (fl,qW P,au l,(j:Int),true,au ns)
 | .out=>True
variable {l:List Tk}
def AX.elim{β γ:Type}{Q:Option β->PR γ->Prop}{i:Nat}{o:Option TX}{p:PR Xp}(h:AX l i o p){f:TX->Option β}{g:Xp->Nat->gY->PR γ}(hout:∀o,Q o .out)
  (hbad:∀fl rows hd j ns R,i<=j->j<=l.length->ns.length<=l.length->ak rows=aW false R->RB R (3 * (j - i))->Q (f (fl,rows,hd,au l,((j:Nat):Int),true,au ns)) (.bad j))
  (hok:∀x fl rows j ns,ak rows=aW false (x.1.flat 0)->p=.ok x j (txt ns)->Q (f (fl,rows,x.2,au l,(j:Int),false,au ns)) (g x j (txt ns))):Q (o.bind f) (p.bind g):=by
 cases p with
 |ok x j nt=>obtain⟨fl,rows,ns,h1,rfl,rfl⟩:=h;exact hok x fl rows j ns h1 rfl
 |bad j=>obtain⟨fl,rows,hd,ns,R,h1,h2,h3,h4,h5,rfl⟩:=h;exact hbad fl rows hd j ns R h1 h2 h3 h4 h5
 |out=>exact hout _
def AY.elim{β γ:Type}{Q:Option β->PR γ->Prop}{i:Nat}{o:Option TY}{p:PR (List Tn)}(h:AY l i o p){f:TY->Option β}{g:List Tn->Nat->gY->PR γ}(hout:∀o,Q o .out)
  (hbad:∀fl j ns P,i<=j->j<=l.length->ns.length<=l.length->lens P<=3 * (j - i)->P.length<=8->(∀R,R∈P->∀n,n∈R->n.kids.length<=100000)->Q (f (fl,qW P,au l,((j:Nat):Int),true,au ns)) (.bad j))
  (hok:∀L fl j ns,p=.ok L j (txt ns)->Q (f (fl,parts L,au l,(j:Int),false,au ns)) (g L j (txt ns))):Q (o.bind f) (p.bind g):=by
 cases p with
 |ok L j nt=>obtain⟨fl,ns,rfl,rfl⟩:=h;exact hok L fl j ns rfl
 |bad j=>obtain⟨fl,ns,P,h1,h2,h3,h4,h5,h6,rfl⟩:=h;exact hbad fl j ns P h1 h2 h3 h4 h5 h6
 |out=>exact hout _
def AX.mk{x:Xp}{i j:Nat}{fl hd:Bool}{rows:ay}{ns:List Tk}(h:ak rows=aW false (x.1.flat 0))(h':hd=x.2):AX l i (some (fl,rows,hd,au l,(j:Int),false,au ns)) (.ok x j (txt ns)):=by subst h';exact⟨_,_,_,h,rfl,rfl⟩
def AX.eX{i j:Nat}{fl hd:Bool}{rows:ay}{ns:List Tk}{R:List Nd}(h1:i<=j)(h2:j<=l.length)(h3:ns.length<=l.length)(h4:ak rows=aW false R)(h5:RB R (3 * (j - i))):AX l i (some (fl,rows,hd,au l,(j:Int),true,au ns)) (.bad j):=⟨_,_,_,_,_,h1,h2,h3,h4,h5,rfl⟩
def AX.pass{i i':Nat}{o:Option TX}{p:PR Xp}(h:AX l i o p)(hi:i'<=i){f:TX->Option TX}
  (hf:∀fl rows hd c1 b ns,f (fl,rows,hd,au l,c1,b,au ns)=some (false,ak rows,hd,au l,c1,b,au ns)):AX l i' (o.bind f) p:=by
 rw[<-PR.bind_ok p];refine AX.elim (Q:=AX l i') h (λ_=>trivial) (λfl rows hd j ns R h1 h2 h3 h4 h5=> ?_) (λx fl rows j ns hk _=> ?_)
 ·rw[hf];exact AX.eX aB h2 h3 (by rw[h4,aT]) (h5.mono aB)
 ·rw[hf];exact AX.mk (by rw[hk,aT]) rfl
def fzN{rows:ay}{R:List Nd}(h:ak rows=aW false R):ak (ak rows)=aW false R:=by rw[h,aT]
def Ar(P:List (List Nd)):ak (qW P)=qW P:=by rw[qW,aiS,List.map_map];congr 1;funext R;simp[Jj,D.fz,aT]
def ao1(k op:Int)(x y:aJ)(kr:ay)(P:List (List Nd))(hl:lens P<=100000)(hn:P.length<=100000)(hk:∀R,R∈P->∀n,n∈R->n.kids.length<=100000):
  ∃R',M.dJ k op x y kr (qW P)=some (false,aW false R',false)/\R'.length=lens P+1/\∀n,n∈R'->n.kids.length<=100000:=by
 obtain⟨R',h1,h2,h3⟩:=ao0 k op x y kr P hl hn hk;exact⟨R',by simp only[M.dJ,M.Jv,h1,aj,aT],h2,h3⟩
def afh(k op:Int)(x y:aJ)(kr:ay)(ts:List Tn)(h:sizes ts<=100000):M.dJ k op x y kr (qW (ts.map λt=>t.flat 0))=some (false,aW false ((Tn.mk k op x y ts).flat 0),false):=by have:=EF k op x y kr ts aB;rw[vZ] at this;simp only[M.dJ,M.Jv,this,aj,aT]
def aDL(k op:Int)(x y:aJ)(kr:ay)(ts:List Tn){R:List Nd}{b:Nat}(hR:RB R b)(hs:sizes ts+b<=90000):
  ∃R',M.dJ k op x y kr (qW ((ts.map λt=>t.flat 0)++[R]))=some (false,aW false R',false)/\RB R' (sizes ts+b+1):=by
 have hlen:∀ts:List Tn,lens (ts.map λt=>t.flat 0)=sizes ts:=by
  intro ts;induction ts with
  |nil=>rfl
  |cons t ts ih=>rw[zmc,lens,sizes,t.flat_length,ih]
 have hsl:=BI ts;obtain⟨R',h1,h2,h3⟩:=ao1 k op x y kr ((ts.map λt=>t.flat 0)++[R]) (by rw[wU,hlen,lens,lens];have:=hR.1;omega) (by rw[Au,zaP,zf];omega) (by
  intro Q hQ n hn;rcases List.mem_append.1 hQ with hQ|hQ
  ·obtain⟨t,ht,rfl⟩:=List.mem_map.1 hQ;have:=(TD t 0 n hn).1;have:=akt ht;omega
  ·rw[List.mem_singleton] at hQ;subst hQ;exact hR.2 n hn)
 refine⟨R',h1, ?_,h3⟩;rw[h2,wU,hlen,lens,lens];have:=hR.1;omega
def agG(lv:Nat)(p:Int)(p1 a b p4:Bool)(i:Nat)(ns:List Tk)(h3:3<=lv)(h10:lv<=10):M.kS (lv:Int) p p1 a b p4 (au l) (i:Int) false (au ns)=some (Df lv b (bD l i),au l,(i:Int),false,au ns):=by
 simp only[M.kS,M.OC,aZ,aI,aX,fU,aj,Bool.not_false,aLP,Df];generalize bD l i=k;cases h8:Nat.beq lv 8 with
 |true=>have e:=Dl h8;subst e;rfl
 |false=>
  have e8:((lv:Int)==8)=false:=by have:=Nat.ne_of_beq_eq_false h8;rw[XB];omega
  rw[e8,aX,aX];cases h0:k==0 with
  |true=>
   have e:k=0:=by rwa [beq_iff_eq] at h0
   subst e;have:(Gv 0==(lv:Int))=false:=by rw[XB];show(0:Int)≠lv;omega
   simp only[this,Bool.false_and,bne,BEq.rfl,zaN,aX]
  |false=>
   cases h99:k==99 with
   |true=>
    have e:k=99:=by rwa [beq_iff_eq] at h99
    subst e;have:(Gv 99==(lv:Int))=false:=by have:=Nat.ne_of_beq_eq_false h8;rw[XB];show(8:Int)≠lv;omega
    simp only[this,h0,Bool.false_and,bne,BEq.rfl,zaN,Bool.not_false,aX,aI]
   |false=>
    simp only[bne,h0,h99,Bool.not_false,aI,(Qu _).2,aj];cases Gv k==(lv:Int) with
    |false=>rfl
    |true=>cases k==62<;>cases b<;>rfl
def Uz{lv:Nat}{b:Bool}{k:Int}(h:Nat.beq lv 7=false):Df lv b k=Df lv (b && Nat.beq lv 7) k:=by
 rw[h,Bool.and_false];unfold Df;cases h8:Nat.beq lv 8 with
 |true=>rfl
 |false=>
  simp only[aX,Bool.false_and,Bool.not_false,Bool.and_true];cases hk:k==62 with
  |false=>simp
  |true=>
   have e:k=62:=by rwa [beq_iff_eq] at hk
   subst e;have:(Gv 62==(lv:Int))=false:=by have:=Nat.ne_of_beq_eq_false h;rw[XB];show(7:Int)≠lv;omega
   rw[this];rfl
abbrev T7:=Int×ay×Int×Bool×ay×Bool×ay
def AZ(l:List Tk)(i:Nat)(o:Option T7):PR Xp->Prop
 | .ok x j nt=>∃cnt ns,txt ns=nt/\o=some (cnt,au l,(j:Int),false,aW false (x.1.flat 0),x.2,au ns)
 | .bad j=>∃cnt hd ns R,i<=j/\j<=l.length/\ns.length<=l.length/\RB R (3 * (j - i))/\o=some (cnt,au l,(j:Int),true,aW false R,hd,au ns)
 | .out=>True
def aat(hl:l.length<=3000){bd:T7->Option (T7⊕T7)}{lv:Nat}{a b:Bool}{f:ay->Int->Bool->ay->Option TX}(h3:3<=lv)(h10:lv<=10)
  (hstop:∀(cnt:Nat) (i:Nat) rows hd ns,cnt<3000->bd ((cnt:Int),au l,(i:Int),true,rows,hd,au ns)=some (.inr ((cnt:Int),au l,(i:Int),true,rows,hd,au ns)))
  (hend:∀(cnt:Nat) (i:Nat) rows hd ns,cnt<3000->Df lv (b && Nat.beq lv 7) (bD l i)=false->bd ((cnt:Int),au l,(i:Int),false,rows,hd,au ns)=some (.inr ((cnt:Int),au l,(i:Int),false,rows,hd,au ns)))
  (hop:∀(cnt:Nat) (i:Nat) rows hd ns,cnt<3000->Df lv (b && Nat.beq lv 7) (bD l i)=true->i<l.length->ns.length<=i->
   ∃SH,txt SH=(bif Nat.beq lv 8 then(i,txt ns) else bif Nat.ble lv 4 then nl l (i+1) (txt ns) else(i+1,txt ns)).2/\
   bd ((cnt:Int),au l,(i:Int),false,rows,hd,au ns)=(f (au l) (((bif Nat.beq lv 8 then(i,txt ns) else bif Nat.ble lv 4 then nl l (i+1) (txt ns) else(i+1,txt ns)).1:Nat):Int) false (au SH)).bind λr=>(M.dJ 12 (bif Nat.beq lv 8 then 99 else bD l i) [] [] [] (ak [[D.sl false 5 rows],[D.sl false 5 (ak r.2.1)]])).bind λr'=>some (.inl (((cnt+1:Nat):Int),r.2.2.2.1,r.2.2.2.2.1,r.2.2.2.2.2.1,ak r'.2.1,r'.2.2,r.2.2.2.2.2.2))):
  ∀n,(∀n',n'<=n->∀i ns,i<=l.length->ns.length<=i->AX l i (f (au l) (i:Int) false (au ns)) (ex l n' (lv+1) a b i (txt ns)))->
   ∀(i0 cnt:Nat) (x:Xp) (i:Nat) (ns:List Tk),cnt<i->i0<i->i<=l.length->ns.length<=i->x.1.size+2 * i0+1<=2 * i->AZ l i0 (fQ bd ((cnt:Int),au l,(i:Int),false,aW false (x.1.flat 0),x.2,au ns)) (chP l n lv a b x i (txt ns))
 |0,_,_,_,_,_,_,_,_,_,_,_=>by rw[chP];trivial
 |n+1,hrec,i0,cnt,x,i,ns,hcnt,hi0,hi,hn,hsx=>by
  rw[chP];cases hc:Df lv (b && Nat.beq lv 7) (bD l i) with
  |false=>rw[aN (hend cnt i _ _ ns aB hc)];exact⟨_,ns,rfl,rfl⟩
  |true=>
   have hlt:=dV (KW h3 hc);obtain⟨SH,et,hq⟩:=hop cnt i (aW false (x.1.flat 0)) x.2 ns aB hc hlt hn;have hqb:FN l i (txt ns).length (bif Nat.beq lv 8 then(i,txt ns) else bif Nat.ble lv 4 then nl l (i+1) (txt ns) else(i+1,txt ns)).1 (bif Nat.beq lv 8 then(i,txt ns) else bif Nat.ble lv 4 then nl l (i+1) (txt ns) else(i+1,txt ns)).2.length:=by
    cases Nat.beq lv 8<;>cases Nat.ble lv 4<;>simp only[aI,aX]
    ·omega
    ·have:=Di (l:=l) (i:=i+1) (nt:=txt ns) aB;omega
    ·omega
    ·omega
   simp only[aI];generalize (bif Nat.beq lv 8 then(i,txt ns) else bif Nat.ble lv 4 then nl l (i+1) (txt ns) else(i+1,txt ns))=q at hq hqb et|-;rw[<-et] at hqb|-;simp only[zaP] at hqb;have hr:=hrec n (Nat.le_succ n) q.1 SH aB aB;have hs:=(sats l n).ex (lv+1) a b q.1 (txt SH) aB aB aB;generalize ex l n (lv+1) a b q.1 (txt SH)=p at hr hs|-;cases p with
   |ok y j m=>
    obtain⟨fl,rows,KX,h1,rfl,h2⟩:=hr;have hs':FE l q.1 (txt SH).length y.1.size j (txt KX).length:=hs;simp only[zaP] at hs';have hp2:sizes [x.1,y.1]=x.1.size+y.1.size:=by simp only[sizes,Nat.add_zero]
    have ho:=afh 12 (bif Nat.beq lv 8 then 99 else bD l i) [] [] [] [x.1,y.1] aB;rw[h2,aj] at hq;simp only[h1,show ak [[D.sl false 5 (aW false (x.1.flat 0))],[D.sl false 5 (aW false (y.1.flat 0))]]=qW ([x.1,y.1].map λt=>t.flat 0) from Ar [x.1.flat 0,y.1.flat 0],ho,aj,aT] at hq;rw[aY hq];exact aat hl h3 h10 hstop hend hop n (λn' h=>hrec n' aB) i0 (cnt+1) (Tn.mk 12 (bif Nat.beq lv 8 then 99 else bD l i) [] [] [x.1,y.1],false) j KX aB aB aB aB (by rw[size2];omega)
   |bad j=>
    obtain⟨fl,rows,hd,KX,R,g1,g2,g3,g4,g5,h2⟩:=hr;have hp1:sizes [x.1]=x.1.size:=by simp only[sizes,Nat.add_zero]
    obtain⟨R',h5,h6⟩:=aDL 12 (bif Nat.beq lv 8 then 99 else bD l i) [] [] [] [x.1] g5 aB;rw[h2,aj] at hq;simp only[g4,show ak [[D.sl false 5 (aW false (x.1.flat 0))],[D.sl false 5 (aW false R)]]=qW (([x.1].map λt=>t.flat 0)++[R]) from Ar [x.1.flat 0,R],h5,aj,aT] at hq;rw[aY hq];have hcn:j<=3000:=aB;exact⟨_,_,KX,R',aB,g2,g3,h6.mono aB,aN (hstop (cnt+1) j _ _ KX aB)⟩
   |out=>trivial
variable {l:List Tk}
def AP.Dp{β:Type}{o:Option TP}{j:Nat}(h:AP l o (.bad j)){f:TP->Option β}{R:Option β->Prop}
  (hb:∀k op x y fl ks tg nt,nt.length<=l.length->R (f (k,op,x,y,fl,ks,tg,au l,(j:Int),true,encS nt))):R (o.bind f):=by
 obtain⟨k,op,x,y,fl,ks,tg,nt,h1,rfl⟩:=h;exact hb k op x y fl ks tg nt h1
def AP.eX{k op:Int}{x y:aJ}{fl:Bool}{ks:ay}{tg:Bool}{j:Nat}{nt:gY}(hn:nt.length<=l.length):AP l (some (k,op,x,y,fl,ks,tg,au l,(j:Int),true,encS nt)) (.bad j):=⟨_,_,_,_,_,_,_,_,hn,rfl⟩
def AP.mk{x:Xp}{k op:Int}{s s':aJ}{fl:Bool}{ks:ay}{tg:Bool}{j:Nat}{nt:gY}(h1:k=x.1.kind)(h2:op=x.1.op)(h3:s=x.1.text)(h4:s'=x.1.other)(h5:ak ks=dN false x.1.kids)(h6:tg=tgt x):
  AP l (some (k,op,s,s',fl,ks,tg,au l,(j:Int),false,encS nt)) (.ok x j nt):=by
 subst h1 h2 h3 h4 h6;exact⟨_,_,h5,rfl⟩
def fzT(x:Tn)(w:Bool)(ks:ay)(h:ak ks=dN false x.kids):Jj [.int .i64 x.kind,.int .i64 x.op,.str x.text,.str x.other,.sl w 5 ks]=x.row false:=by simp only[Jj,D.fz,h,aqI]
def fz1{x:Tn}{w:Bool}{ks:ay}(h:ak ks=dN false x.kids):ak [[.int .i64 x.kind,.int .i64 x.op,.str x.text,.str x.other,.sl w 5 ks]]=dN false [x]:=by rw[ak,fzT x w ks h];rfl
def fz2{x y:Tn}{w v:Bool}{ks kt:ay}(h:ak ks=dN false x.kids)(h':ak kt=dN false y.kids):
  ak [[.int .i64 x.kind,.int .i64 x.op,.str x.text,.str x.other,.sl w 5 ks],[.int .i64 y.kind,.int .i64 y.op,.str y.text,.str y.other,.sl v 5 kt]]=dN false [x,y]:=by
 rw[ak,fzT x w ks h,ak,fzT y v kt h'];rfl
def fz3{x y z:Tn}{w v u:Bool}{ks kt ku:ay}(h:ak ks=dN false x.kids)(h':ak kt=dN false y.kids)(h'':ak ku=dN false z.kids):
  ak [[.int .i64 x.kind,.int .i64 x.op,.str x.text,.str x.other,.sl w 5 ks],[.int .i64 y.kind,.int .i64 y.op,.str y.text,.str y.other,.sl v 5 kt],[.int .i64 z.kind,.int .i64 z.op,.str z.text,.str z.other,.sl u 5 ku]]=dN false [x,y,z]:=by
 rw[ak,fzT x w ks h,ak,fzT y v kt h',ak,fzT z u ku h''];rfl
def L6{ks:ay}{L:List Tn}(h:ak ks=dN false L):ak (ak ks)=dN false L:=by rw[h,iW]
abbrev T10:=ay×Int×Bool×Int×Int×aJ×aJ×ay×Bool×ay
def ao2(m:Nat){i:Nat}{nt:gY}(hn:nt.length<=l.length):AP l (M.oM (m+1) (au l) (i:Int) true (encS nt)) (.bad i):=by rw[M.P6];simp only[M.oK,M.wI,M.vK,aI,dP];exact AP.eX hn
def auy(m:Nat){i:Nat}{nt:gY}(hn:nt.length<=l.length):AP l (M.lX (m+2) (au l) (i:Int) true (encS nt)) (.bad i):=by rw[M.SA];simp only[M.qM,M.yG,aI,dP];exact AP.pass (ao2 m hn) (by intros;simp only[dP,aI])
def ax9(m:Nat){i:Nat}{nt:gY}(hn:nt.length<=l.length):AP l (M.tC (m+3) (au l) (i:Int) true (encS nt)) (.bad i):=by
 rw[M.Un];simp only[M.tq,M.zM,zaN,aX,aI,dP];refine AP.Dp (R:=λo=>AP l o (.bad i)) (auy m hn) λk op x y fl ks tg nt hn=> ?_
 simp only[aI,dP];exact AP.eX hn
def aAD(m:Nat){a b:Bool}{i:Nat}{nt:gY}(hn:nt.length<=l.length):AP l (M.vW (m+4) a b (au l) (i:Int) true (encS nt)) (.bad i):=by
 rw[M.UZ];simp only[M.vN,aI,dP];refine AP.Dp (R:=λo=>AP l o (.bad i)) (ax9 m hn) λk op x y fl ks tg nt hn=> ?_
 simp only[aI,dP];exact AP.eX hn
def auz(m:Nat){a b:Bool}{i:Nat}{nt:gY}(hn:nt.length<=l.length):AP l (M.jK (m+5) a b (au l) (i:Int) true (encS nt)) (.bad i):=by rw[M.SB];simp only[M.qN,M.yI,M.uf,aI,dP,eH,aj];exact AP.pass (aAD m hn) (by intros;simp only[dP,aI])
def aAE(m:Nat){a b:Bool}{i:Nat}{nt:gY}(hn:nt.length<=l.length):AP l (M.qR (m+6) a b (au l) (i:Int) true (encS nt)) (.bad i):=by
 rw[M.U0];simp only[M.vO,aI,dP];refine AP.Dp (R:=λo=>AP l o (.bad i)) (auz m hn) λk op x y fl ks tg nt hn=> ?_
 rw[show M.xJ _ _ _ _ _ _ _ _ _=_ from aN rfl];simp only[aj,aI,dP];exact AP.eX hn
def aAF(m:Nat){a b:Bool}{i:Nat}{nt:gY}(hn:nt.length<=l.length):AP l (M.oP (m+7) a b (au l) (i:Int) true (encS nt)) (.bad i):=by
 rw[M.U4];simp only[M.vP,aI,dP];refine AP.Dp (R:=λo=>AP l o (.bad i)) (aAE m hn) λk op x y fl ks tg nt hn=> ?_
 rw[show M.xK _ _ _ _ _ _ _ _ _=_ from aN rfl];simp only[aj,aI,dP];exact AP.eX hn
def aAG(m:Nat){a b:Bool}{i:Nat}{nt:gY}(hn:nt.length<=l.length):AP l (M.qU (m+8) a b (au l) (i:Int) true (encS nt)) (.bad i):=by
 rw[M.U5];simp only[M.vS,aI,dP];refine AP.Dp (R:=λo=>AP l o (.bad i)) (aAF m hn) λk op x y fl ks tg nt hn=> ?_
 rw[show M.xM _ _ _ _ _ _ _ _ _=_ from aN rfl];simp only[aj,aI,dP];exact AP.eX hn
def ao3(m:Nat){a b:Bool}{i:Nat}{nt:gY}(hn:nt.length<=l.length):AP l (M.lS (m+9) a b (au l) (i:Int) true (encS nt)) (.bad i):=by
 rw[M.P7];simp only[M.oL,M.vT,aI,dP];refine AP.Dp (R:=λo=>AP l o (.bad i)) (aAG m hn) λk op x y fl ks tg nt hn=> ?_
 simp only[aI,dP];exact AP.eX hn
def auA(m:Nat){a b:Bool}{i:Nat}{nt:gY}(hn:nt.length<=l.length):AP l (M.jL (m+10) a b (au l) (i:Int) true (encS nt)) (.bad i):=by
 rw[M.SC];simp only[M.qO,M.yM,aI,dP];refine AP.Dp (R:=λo=>AP l o (.bad i)) (ao3 m hn) λk op x y fl ks tg nt hn=> ?_
 simp only[aI,dP];exact AP.eX hn
def aDM(m:Nat){a b:Bool}{i:Nat}{nt:gY}(hn:nt.length<=l.length):AP l (M.ug (m+11) a b (au l) (i:Int) true (encS nt)) (.bad i):=by
 rw[M.Wu];simp only[M.xO,M.Ed,M.Ee,M.Ef,M.vU,zaN,aX,aI,dP];refine AP.Dp (R:=λo=>AP l o (.bad i)) (auA m hn) λk op x y fl ks tg nt hn=> ?_
 rw[show M.iK _ _ _=_ from aN rfl];simp only[aj,aI,dP,iO,letE];exact AP.eX hn
def aAH(m:Nat){a b:Bool}{i:Nat}{nt:gY}(hn:nt.length<=l.length):AP l (M.qV (m+12) a b (au l) (i:Int) true (encS nt)) (.bad i):=by
 rw[M.U6];simp only[M.vV,aI,dP];refine AP.Dp (R:=λo=>AP l o (.bad i)) (aDM m hn) λk op x y fl ks tg nt hn=> ?_
 rw[show M.xP _ _ _ _ _ _ _ _ _=_ from aN rfl];simp only[aj,aI,dP];exact AP.eX hn
def aDN(m:Nat){a b:Bool}{i:Nat}{nt:gY}(hn:nt.length<=l.length):AP l (M.xR (m+13) a b (au l) (i:Int) true (encS nt)) (.bad i):=by
 rw[M.Wv];simp only[M.xQ,aI,dP];refine AP.Dp (R:=λo=>AP l o (.bad i)) (aAH m hn) λk op x y fl ks tg nt hn=> ?_
 rw[show M.y7 _ _ _ _ _ _ _ _ _=_ from aN rfl];simp only[aj,aI,dP];exact AP.eX hn
def aya(m:Nat){a b:Bool}{i:Nat}{nt:gY}(hn:nt.length<=l.length):AP l (M.pV (m+14) a b (au l) (i:Int) true (encS nt)) (.bad i):=by
 rw[M.Uo];simp only[M.tu,aI,dP];refine AP.Dp (R:=λo=>AP l o (.bad i)) (aDN m hn) λk op x y fl ks tg nt hn=> ?_
 simp only[aI,dP];exact AP.eX hn
def aqR(m:Nat){a b:Bool}{i:Nat}{nt:gY}(hn:nt.length<=l.length):AP l (M.gQ (m+15) a b (au l) (i:Int) true (encS nt)) (.bad i):=by
 rw[M.Rl];simp only[M.pR,aI,dP];refine AP.Dp (R:=λo=>AP l o (.bad i)) (aya m hn) λk op x y fl ks tg nt hn=> ?_
 simp only[aI,dP];exact AP.eX hn
def AC(l:List Tk)(o:Option T10):PR Xp->Prop
 | .ok x j nt=>∃ks,ak ks=dN false x.1.kids/\o=some (au l,(j:Int),false,x.1.kind,x.1.op,x.1.text,x.1.other,ks,tgt x,encS nt)
 | .bad j=>∃k op x y ks tg nt,nt.length<=l.length/\o=some (au l,(j:Int),true,k,op,x,y,ks,tg,encS nt)
 | .out=>True
def AC.elim{o:Option T10}{p:PR Xp}(h:AC l o p){f:T10->Option TP}
  (hf:∀c1 b k op x y ks tg nt,f (au l,c1,b,k,op,x,y,ks,tg,encS nt)=some (k,op,x,y,false,ks,tg,au l,c1,b,encS nt)):AP l (o.bind f) p:=by
 cases p with
 |ok x j nt=>obtain⟨ks,h1,rfl⟩:=h;rw[aj,hf];exact AP.mk rfl rfl rfl rfl h1 rfl
 |bad j=>obtain⟨k,op,x,y,ks,tg,nt,h1,rfl⟩:=h;rw[aj,hf];exact AP.eX h1
 |out=>trivial
def Qw(hl:l.length<=1048576){bd:T10->Option (T10⊕T10)}{lv:Nat}{a b:Bool}{rec:Bool->Bool->ay->Int->Bool->ay->Option TP}(h3:3<=lv)(h10:lv<=10)
  (hstop:∀(i:Nat) k op x y ks tg nt,bd (au l,(i:Int),true,k,op,x,y,ks,tg,encS nt)=some (.inr (au l,(i:Int),true,k,op,x,y,ks,tg,encS nt)))
  (hend:∀(i:Nat) k op x y ks tg nt,Df lv (b && Nat.beq lv 7) (bD l i)=false->bd (au l,(i:Int),false,k,op,x,y,ks,tg,encS nt)=some (.inr (au l,(i:Int),false,k,op,x,y,ks,tg,encS nt)))
  (hop:∀(i:Nat) k op x y ks tg nt,Df lv (b && Nat.beq lv 7) (bD l i)=true->i<l.length->nt.length<=i->bd (au l,(i:Int),false,k,op,x,y,ks,tg,encS nt)=
   (rec a b (au l) (((bif Nat.beq lv 8 then(i,nt) else bif Nat.ble lv 4 then nl l (i+1) nt else(i+1,nt)).1:Nat):Int) false (encS (bif Nat.beq lv 8 then(i,nt) else bif Nat.ble lv 4 then nl l (i+1) nt else(i+1,nt)).2)).bind λr=>
    some (.inl (r.2.2.2.2.2.2.2.1,r.2.2.2.2.2.2.2.2.1,r.2.2.2.2.2.2.2.2.2.1,12,(bif Nat.beq lv 8 then 99 else bD l i),[],[],
     ak [[D.int .i64 k,D.int .i64 op,D.str x,D.str y,D.sl false 5 ks],[D.int .i64 r.1,D.int .i64 r.2.1,D.str r.2.2.1,D.str r.2.2.2.1,D.sl false 5 (ak r.2.2.2.2.2.1)]],false,r.2.2.2.2.2.2.2.2.2.2))):
  ∀n,(∀n',n'<=n->∀i nt,i<=l.length->nt.length<=i->AP l (rec a b (au l) (i:Int) false (encS nt)) (ex l n' (lv+1) a b i nt))->
   ∀x i nt ks,i<=l.length->nt.length<=i->ak ks=dN false x.1.kids->AC l (fQ bd (au l,(i:Int),false,x.1.kind,x.1.op,x.1.text,x.1.other,ks,tgt x,encS nt)) (chP l n lv a b x i nt)
 |0,_,_,_,_,_,_,_,_=>by rw[chP];trivial
 |n+1,hrec,x,i,nt,ks,hi,hn,hk=>by
  rw[chP];cases hc:Df lv (b && Nat.beq lv 7) (bD l i) with
  |false=>rw[aN (hend i _ _ _ _ _ _ nt hc)];exact⟨ks,hk,rfl⟩
  |true=>
   have hlt:=dV (KW h3 hc);have hq:=hop i x.1.kind x.1.op x.1.text x.1.other ks (tgt x) nt hc hlt hn;have hqb:FN l i nt.length (bif Nat.beq lv 8 then(i,nt) else bif Nat.ble lv 4 then nl l (i+1) nt else(i+1,nt)).1 (bif Nat.beq lv 8 then(i,nt) else bif Nat.ble lv 4 then nl l (i+1) nt else(i+1,nt)).2.length:=by
    cases Nat.beq lv 8<;>cases Nat.ble lv 4<;>simp only[aI,aX]
    ·omega
    ·have:=Di (l:=l) (i:=i+1) (nt:=nt) aB;omega
    ·omega
    ·omega
   simp only[aI];generalize (bif Nat.beq lv 8 then(i,nt) else bif Nat.ble lv 4 then nl l (i+1) nt else(i+1,nt))=q at hq hqb|-;have hr:=hrec n (Nat.le_succ n) q.1 q.2 aB aB;have hs:=(sats l n).ex (lv+1) a b q.1 q.2 aB aB aB;generalize ex l n (lv+1) a b q.1 q.2=p at hr hs|-;cases p with
   |ok y j m=>obtain⟨fl,kt,h1,h2⟩:=hr;have hs':FE l q.1 q.2.length y.1.size j m.length:=hs;rw[h2,aj] at hq;rw[aY hq];exact Qw hl h3 h10 hstop hend hop n (λn' h=>hrec n' aB) (Tn.mk 12 (bif Nat.beq lv 8 then 99 else bD l i) [] [] [x.1,y.1],false) j m _ aB aB (by rw[fz2 hk (L6 h1),iW];rfl)
   |bad j=>obtain⟨k,op,x',y',fl,kt,tg,m,h1,h2⟩:=hr;rw[h2,aj] at hq;rw[aY hq,aN (hstop j _ _ _ _ _ _ m)];exact⟨_,_,_,_,_,_,_,h1,rfl⟩
   |out=>trivial
end Go.Proofs.YtoaeipkhadpbiaaGreatDoor
