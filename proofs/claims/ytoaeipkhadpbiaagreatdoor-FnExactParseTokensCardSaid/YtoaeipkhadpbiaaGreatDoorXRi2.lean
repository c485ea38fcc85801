import Derived.Test.YtoaeipkhadpbiaaGreatDoorXAdv
set_option linter.defProp false
namespace Go.Proofs.YtoaeipkhadpbiaaGreatDoor
set_option linter.unusedVariables false
set_option linter.unusedSimpArgs false
open Go Go.Vm
open Go.IntKind (i64)
variable {l:List Tk}
def cO{i:Nat}{k:Int}(e:(bC l i==k)=true)(hk:k≠0):i<l.length:=dX (by rw[beq_iff_eq] at e;rw[e];exact hk)
def Zl{k:Int}(h:wO k=true):k≠0:=by rintro rfl;exact absurd h (by decide)
def ajp{n i:Nat}{nt:iw}(hn:40 * (l.length - i)+34<=n):(SN l n i nt).tot λ_ j _=>i<j:=by simp only[SN,fU,C9];intro h;exact cu ((enE l n).ex 1 false false (i+1) nt aB aB aB) λx j m hj=>λ_=>(show i<j+1 by omega)
def afE{n i:Nat}{nt:iw}{e:Int}{a:Bool}(hn:40 * (l.length - i)+34<=n):(IB l n e a i nt).tot λ_ j _=>i<=j:=by rw[IB,fF];refine⟨λ_=>zaN i,λ_=> ?_⟩;rw[fU];exact cu ((enE l n).ex 1 a false i nt aB aB aB) λx j m hj=>(show i<=j by omega)
def apH{n i:Nat}{k:Int}{nt:iw}(hn:40 * (l.length - i)+34<=n):(acM l n k i nt).tot λ_ j _=>i<j:=by rw[acM,fF];refine⟨λ_=>Nat.lt_succ_self i,λ_=> ?_⟩;rw[fU];exact cu ((enE l n).ex 1 false false (i+1) nt aB aB aB) λx j m hj=>(show i<j by omega)
def aCh{n i:Nat}{nt:iw}(hn:40 * (l.length - i)+40<=n):(amN l n i nt).tot λ_ j _=>i<j:=by rw[amN,fU,Zj];intro h;rw[fF];refine⟨λhc=> ?_,λ_=>(show i<i+1+1 by omega)⟩;simp only[fU,C9];exact cu ((enE l n).it false false [] (i+1+1+1) nt aB) λx j m hj=>λ_=>(show i<j+1 by omega)
def aCi{n i:Nat}{nt:iw}(hn:40 * (l.length - i)+40<=n):(ag2 l n i nt).tot λ_ j _=>i<j:=by
 rw[ag2,fU];have h1:(bif bC l i==26|| !(Ei (bC l (i+1))||wO (bC l (i+1))) then NQ l n false true [] (i+1) nt else .ok [] (i+1) nt:PR (List Tn)).tot λ_ j _=>i<j:=by rw[fF];exact⟨λ_=>cu ((enE l n).it false true [] (i+1) nt aB) λx j m hj=>(show i<j by omega),λ_=>Nat.lt_succ_self i⟩
 refine cu h1 λL j m hj=> ?_
 rw[fF];refine⟨λhc=> ?_,λ_=>hj⟩;rw[fU];exact cu ((enE l n).ex 9 false false (j+1) m aB aB aB) λx j' m hj'=>(show i<j' by omega)
def aCj{n i:Nat}{nt:iw}(hn:40 * (l.length - i)+40<=n):(aj8 l n i nt).tot λ_ j _=>i<j:=by rw[aj8,fF];refine⟨λ_=>aCi hn,λ_=> ?_⟩;rw[fF];refine⟨λ_=>Nat.lt_succ_self i,λ_=> ?_⟩;rw[fF];refine⟨λ_=>Nat.lt_succ_self i,λ_=> ?_⟩;rw[fF];refine⟨λ_=>Nat.lt_succ_self i,λ_=> ?_⟩;rw[fF];refine⟨λ_=>apH aB,λ_=> ?_⟩;rw[fF];refine⟨λ_=>apH aB,λ_=> ?_⟩;rw[fF];refine⟨λ_=>aCh aB,λ_=> ?_⟩;rw[fU];exact cu ((enE l n).ex 1 false false i nt aB aB aB) λx j m hj=>hj
def amR{α:Type}{x:α}{i j:Nat}{nt:iw}(h:i<j):(endP l x j nt).tot λ_ j _=>i<j:=by rw[endP,fF];exact⟨λ_=>h,λ_=>trivial⟩
structure aDm(l:List Tk)(n:Nat):Prop where
 st:∀i nt,60 * (l.length - i)+50<=n->(stP l n i nt).tot λ_ j _=>i<j
 blk:∀i nt,60 * (l.length - i)+42<=n->(JI l n i nt).tot λ_ j _=>i<j
 lines:∀L i nt,60 * (l.length - i)+52<=n->(VH l n L i nt).tot λ_ j _=>i<j
 body:∀i nt,60 * (l.length - i)+52<=n->(Bh l n i nt).tot λ_ j _=>i<j
section
variable {n:Nat} (h:aDm l n)
include h
theorem aCk(i:Nat)(nt:iw)(hn:60 * (l.length - i)+50<=n+1):(stP l (n+1) i nt).tot λ_ j _=>i<j:=by
 rw[stP,fF];refine⟨λ_=>h.blk i nt aB,λ_=> ?_⟩;rw[fF];refine⟨λhc=> ?_,λ_=> ?_⟩
 ·have:=cO hc (by decide);simp only[fU];refine cu (ajp aB) λx j m hj=> ?_
  refine cu (h.body j m aB) λy j2 m2 hj2=> ?_
  rw[fF];refine⟨λhc=> ?_,λ_=>(show i<j2 by omega)⟩;have hs:=amQ (l:=l) j2 m2;rw[fU];exact cu (h.body _ _ aB) λz j3 m3 hj3=>(show i<j3 by omega)
 rw[fF];refine⟨λhc=> ?_,λ_=> ?_⟩
 ·have:=cO hc (by decide);simp only[fU];refine cu (ajp aB) λx j m hj=> ?_
  exact cu (h.body j m aB) λy j2 m2 hj2=>(show i<j2 by omega)
 rw[fF];refine⟨λhc=> ?_,λ_=> ?_⟩
 ·have:=cO hc (by decide);simp only[fU,C9];refine cu (h.body (i+1) nt aB) λx j m hj=>λhk=> ?_
  have hs:=amQ (l:=l) j m;refine cu (ajp aB) λy j2 m2 hj2=> ?_
  exact amR aB
 rw[fF];refine⟨λhc=> ?_,λ_=> ?_⟩
 ·have:=cO hc (by decide);simp only[fU,C9];intro h32;rw[fF];refine⟨λhd=> ?_,λ_=> ?_⟩
  ·simp only[fU,C9,Zj];intro h6 h33;exact cu (h.body _ nt aB) λy j2 m2 hj2=>(show i<j2 by omega)
  ·simp only[fU,C9];refine cu (afE aB) λx j m hj=>λhk=> ?_
   have g1:=agG (l:=l) (j+1) m;refine cu (afE aB) λy j2 m2 hj2=>λhk2=> ?_
   have g2:=agG (l:=l) (j2+1) m2;refine cu (afE aB) λz j3 m3 hj3=>λhk3=> ?_
   exact cu (h.body _ _ aB) λw j4 m4 hj4=>(show i<j4 by omega)
 rw[fU];exact cu (aCj aB) λx j m hj=>amR hj
theorem azR(i:Nat)(nt:iw)(hn:60 * (l.length - i)+42<=n+1):(JI l (n+1) i nt).tot λ_ j _=>i<j:=by simp only[JI,fU,C9];intro hk;have:=dX (l:=l) (i:=i) (by rw[hk];decide);exact cu (h.lines [] (i+1) nt aB) λL j m hj=>(show i<j by omega)
theorem arM(L:List Tn)(i:Nat)(nt:iw)(hn:60 * (l.length - i)+52<=n+1):(VH l (n+1) L i nt).tot λ_ j _=>i<j:=by
 have hs:=amQ (l:=l) i nt;rw[VH,fF];refine⟨λhc=>(show i<(sep l i nt).1+1 by omega),λ_=> ?_⟩;rw[fF];refine⟨λ_=>trivial,λhc=> ?_⟩;have hlt:(sep l i nt).1<l.length:=dX (by simpa using hc);rw[fU];refine cu (h.st _ _ aB) λs j m hj=> ?_
 exact cu (h.lines _ j m aB) λL j2 m2 hj2=>(show i<j2 by omega)
theorem avO(i:Nat)(nt:iw)(hn:60 * (l.length - i)+52<=n+1):(Bh l (n+1) i nt).tot λ_ j _=>i<j:=by have hs:=agG (l:=l) i nt;rw[Bh,fF];refine⟨λhc=>cu (h.blk _ _ aB) λs j m hj=>(show i<j by omega),λ_=> ?_⟩;rw[fF];refine⟨λ_=>(show i<(nl l i nt).1+1 by omega),λ_=> ?_⟩;rw[fU];exact cu (h.st _ _ aB) λs j m hj=>(show i<j by omega)
end
def as5(l:List Tk):∀n,aDm l n
 |0=>⟨λi nt hn=>by omega,λi nt hn=>by omega,λL i nt hn=>by omega,λi nt hn=>by omega⟩
 |n+1=>have h:=as5 l n
  ⟨aCk h,azR h,arM h,avO h⟩
def apI:∀(n:Nat) (L:List Tn) (i:Nat) (nt:iw),l.length - i+1<=n->(EI l n L i nt).tot λ_ j _=>i<j
 |0,_,_,_,hn=>by omega
 |n+1,L,i,nt,hn=>by rw[EI,fU,Zj];intro h6;have:=dX (l:=l) (i:=i) (by rw[h6];decide);rw[fF];refine⟨λhc=> ?_,λ_=>Nat.lt_succ_self i⟩;rw[fF];refine⟨λ_=>trivial,λ_=> ?_⟩;have hs:=agG (l:=l) (i+1+1) nt;exact cu (apI n _ _ _ aB) λs j m hj=>(show i<j by omega)
def aCl{n i:Nat}{nt:iw}(hn:60 * (l.length - i)+50<=n):(amO l n i nt).tot λ_ j _=>i<j:=by
 rw[amO,fF];refine⟨λhc=> ?_,λ_=>trivial⟩;simp only[fU,C9];intro h32;have h1:(bif bC l (i+1+1)==33 then .ok [] (i+1+1) nt else EI l n [] (i+1+1) nt:PR (List Tn)).tot λ_ j _=>i<j:=by rw[fF];exact⟨λ_=>(show i<i+1+1 by omega),λ_=>cu (apI n [] _ nt aB) λx j m hj=>(show i<j by omega)⟩
 refine cu h1 λL j m hj=>λh33=> ?_
 have hs:=agG (l:=l) (j+1) m;exact cu ((as5 l n).blk _ _ aB) λx j m hj=>(show i<j by omega)
def azS{n i:Nat}{nt:iw}(hn:60 * (l.length - i)+50<=n):(Ux l n i nt).tot λ_ j _=>i<j:=by
 have hb:∀(i:Nat) (nt:iw) (k o:Int),60 * (l.length - i)+50<=n->((JI l n i nt).bind λb i nt=>PR.ok (Tn.mk k o [] [] [b]) i nt).tot λ_ j _=>i<j:=by intro i nt k o hn;rw[fU];exact cu ((as5 l n).blk i nt aB) λx j m hj=>hj
 rw[Ux,fF];refine⟨λhc=>cu (hb (i+1) nt 40 0 aB) λx j m hj=>(show i<j by omega),λ_=> ?_⟩;rw[fF];refine⟨λhc=>cu (hb (i+1) nt 41 0 aB) λx j m hj=>(show i<j by omega),λ_=> ?_⟩;rw[fF];refine⟨λhc=>cu (aCl aB) λx j m hj=>(show i<j by omega),λ_=> ?_⟩;rw[fF];refine⟨λhc=>hb i nt 42 2 aB,λ_=> ?_⟩;rw[fU];refine cu ((enE l n).ex 1 false false i nt aB aB aB) λx j m hj=> ?_
 rw[fU];have h1:(bif bC l j==36 then(ex l n 1 false false (nl l (j+1) m).1 (nl l (j+1) m).2).bind λy i nt=> .ok (43,[x.1,y.1]) i nt else .ok (42,[x.1]) j m:PR (Int×List Tn)).tot λ_ j _=>i<j:=by rw[fF];refine⟨λhc=> ?_,λ_=>hj⟩;have hs:=agG (l:=l) (j+1) m;rw[fU];exact cu ((enE l n).ex 1 false false _ _ aB aB aB) λy j2 m2 hj2=>(show i<j2 by omega)
 refine cu h1 λq j2 m2 hj2=> ?_
 rw[fF];refine⟨λhc=> ?_,λ_=>amR hj2⟩;rw[fU];exact cu ((as5 l n).blk j2 m2 aB) λy j3 m3 hj3=>(show i<j3 by omega)
def apJ:∀(n:Nat) (L:List Tn) (i:Nat) (nt:iw),60 * (l.length - i)+52<=n->(SQ l n L i nt).tot λ_ j _=>i<=j
 |0,_,_,_,hn=>by omega
 |n+1,L,i,nt,hn=>by
  have hs:=amQ (l:=l) i nt;rw[SQ,fF];refine⟨λ_=>hs,λhc=> ?_⟩;have hlt:(sep l i nt).1<l.length:=dX (by simpa using hc);rw[fF];refine⟨λ_=>trivial,λ_=> ?_⟩;rw[fU];refine cu (azS aB) λs j m hj=> ?_
  exact cu (apJ n _ j m aB) λL j2 m2 hj2=>(show i<=j2 by omega)
section
variable {α β:Type} {P Q:α->Nat->iw->Prop} {R:β->Nat->iw->Prop} {x y:PR α} {f:α->Nat->iw->PR β} {c:Bool}
def dY:(x.bind f).sat R↔x.sat λa i nt=>(f a i nt).sat R:=by cases x<;>exact Iff.rfl
def bP(h:x.sat P)(k:∀a i nt,P a i nt->Q a i nt):x.sat Q:=by
 cases x with
 |ok a i nt=>exact k a i nt h
 |bad _=>trivial
 |out=>trivial
def eY:(bif c then x else y).sat P↔(c=true->x.sat P)/\(c=false->y.sat P):=by cases c<;>simp
def gY{a:α}{i:Nat}{nt:iw}(h:x.sat P)(e:x=.ok a i nt):P a i nt:=by rw[e] at h;exact h
end
variable {l:List Tk}
def vF{P:Unit->Nat->iw->Prop}{k:Int}{i:Nat}{nt:iw}:(iV l k i nt).sat P↔(bC l i=k->P () (i+1) nt):=by unfold iV;rw[eY];simp[PR.sat]
def Uy{P:aP->Nat->iw->Prop}{i:Nat}{nt:iw}:(nameP l i nt).sat P↔(bC l i=6->P (zK l i) (i+1) nt):=by unfold nameP;rw[eY];simp[PR.sat]
abbrev FN(l:List Tk)(i n0 j n:Nat):Prop:=i<=j/\j<=l.length/\n+i<=n0+j
abbrev FE(l:List Tk)(i n0 s j n:Nat):Prop:=i<j/\j<=l.length/\n+i<=n0+j/\s+2 * i+1<=2 * j
def amS:∀(r:List Tk) (i:Nat) (nt:iw),i<=(nlR r i nt).1/\(nlR r i nt).1<=i+r.length/\(nlR r i nt).2.length+i<=nt.length+(nlR r i nt).1
 |[],i,nt=>by rw[nlR];exact⟨zaN _,zaN _,zaN _⟩
 |t::r,i,nt=>by
  rw[nlR,zlc];cases t.kind==1<;>cases t.kind==2<;>simp only[aI,bH]
  ·omega
  ·have:=amS r (i+1) (nt++[t.text]);rw[zT,y7] at this;omega
  ·have:=amS r (i+1) nt;omega
  ·have:=amS r (i+1) nt;omega
def Bj{i:Nat}{nt:iw}(h:i<=l.length):FN l i nt.length (nl l i nt).1 (nl l i nt).2.length:=by have:=amS (l.drop i) i nt;rw[List.length_drop] at this;unfold nl;omega
def ahq:∀(r:List Tk) (i:Nat) (nt:iw),i<=(Z5 r i nt).1/\(Z5 r i nt).1<=i+r.length/\(Z5 r i nt).2.length+i<=nt.length+(Z5 r i nt).1
 |[],i,nt=>by rw[Z5];exact⟨zaN _,zaN _,zaN _⟩
 |t::r,i,nt=>by
  rw[Z5,zlc];cases(t.kind==1||t.kind==37)<;>cases t.kind==2<;>simp only[aI,bH]
  ·omega
  ·have:=ahq r (i+1) (nt++[t.text]);rw[zT,y7] at this;omega
  ·have:=ahq r (i+1) nt;omega
  ·have:=ahq r (i+1) nt;omega
def Oz{i:Nat}{nt:iw}(h:i<=l.length):FN l i nt.length (sep l i nt).1 (sep l i nt).2.length:=by have:=ahq (l.drop i) i nt;rw[List.length_drop] at this;unfold sep;omega
structure aMt(l:List Tk)(n:Nat):Prop where
 ex:∀lv a b i nt,1<=lv->lv<=15->i<=l.length->(ex l n lv a b i nt).sat λx j m=>FE l i nt.length x.1.size j m.length
 ch:∀lv a b x i nt,3<=lv->lv<=10->i<=l.length->(chP l n lv a b x i nt).sat λy j m=>FN l i nt.length j m.length/\y.1.size+2 * i<=x.1.size+2 * j
 inp:∀a x i nt,i<=l.length->(inP l n a x i nt).sat λy j m=>FN l i nt.length j m.length/\y.1.size+2 * i<=x.1.size+2 * j
 pre:∀i nt,i<l.length->(Zi l n i nt).sat λx j m=>FE l i nt.length x.1.size j m.length
 lst:∀e i nt,e≠0->i<=l.length->(PV l n e i nt).sat λL j m=>FE l i nt.length (sizes L) j m.length
 it:∀a b L i nt,i<=l.length->(NQ l n a b L i nt).sat λL' j m=>i<j/\FN l i nt.length j m.length/\sizes L'+2 * i+1<=sizes L+2 * j
def RH(k o:Int)(x y:aP)(t:Tn):(Tn.mk k o x y [t]).size=t.size+1:=by simp only[Tn.size,sizes,Nat.add_zero]
def size2(k o:Int)(x y:aP)(t u:Tn):(Tn.mk k o x y [t,u]).size=t.size+u.size+1:=by simp only[Tn.size,sizes,Nat.add_zero]
def size3(k o:Int)(x y:aP)(t u v:Tn):(Tn.mk k o x y [t,u,v]).size=t.size+u.size+v.size+1:=by simp only[Tn.size,sizes,Nat.add_zero];omega
def aMu(k o:Int)(x y:aP)(t u v w:Tn):(Tn.mk k o x y [t,u,v,w]).size=t.size+u.size+v.size+w.size+1:=by simp only[Tn.size,sizes];omega
def PW(k o:Int)(x y:aP)(L:List Tn):(Tn.mk k o x y L).size=sizes L+1:=by rw[Tn.size]
def SS(k o:Int)(x y:aP):(Tn.mk k o x y []).size=1:=by rw[Tn.size,sizes]
def sizes1(L:List Tn)(t:Tn):sizes (L++[t])=sizes L+t.size:=by rw[mQ,sizes,sizes];omega
section
variable {n:Nat} (h:aMt l n)
include h
theorem aCm(lv:Nat)(a b:Bool)(i:Nat)(nt:iw)(h1:1<=lv)(h2:lv<=15)(hi:i<=l.length):(ex l (n+1) lv a b i nt).sat λx j m=>FE l i nt.length x.1.size j m.length:=by
 have hlt:∀{j:Nat} {k:Int},(bC l j==k)=true->k≠0->j<l.length:=λe hk=>dX (by rw[beq_iff_eq] at e;rw[e];exact hk)
 have hc:lv=1\/lv=2\/lv=3\/lv=4\/lv=5\/lv=6\/lv=7\/lv=8\/lv=9\/lv=10\/lv=11\/lv=12\/lv=13\/lv=14\/lv=15:=aB;rcases hc with rfl|rfl|rfl|rfl|rfl|rfl|rfl|rfl|rfl|rfl|rfl|rfl|rfl|rfl|rfl<;>simp only[ex,dY]
 ·refine bP (h.ex 2 a b i nt aB aB hi) λx j m hj=> ?_
  rw[eY];refine⟨λhc=> ?_,λ_=>hj⟩;rw[Jw] at hc;have:=dX (ajo hc.2);rw[dY];exact bP (h.ex 1 a b (j+1) m aB aB aB) λy j' m' hj'=>by show FE l i nt.length (Tn.size _) j' m'.length;rw[size2];omega
 ·refine bP (h.ex 3 a b i nt aB aB hi) λx j m hj=> ?_
  rw[eY];refine⟨λhc=> ?_,λ_=>hj⟩;have:=hlt hc (by decide);simp only[dY,vF];refine bP (h.ex 2 a b (j+1) m aB aB aB) λy j2 m2 hj2=>λhk=> ?_
  have:=dX (l:=l) (i:=j2) (by rw[hk];decide);exact bP (h.ex 2 a b (j2+1) m2 aB aB aB) λz j3 m3 hj3=>by show FE l i nt.length (Tn.size _) j3 m3.length;rw[size3];omega
 ·refine bP (h.ex 4 a b i nt aB aB hi) λx j m hj=> ?_
  exact bP (h.ch 3 a b x j m aB aB aB) λy j' m' hj'=>by omega
 ·refine bP (h.ex 5 a b i nt aB aB hi) λx j m hj=> ?_
  exact bP (h.ch 4 a b x j m aB aB aB) λy j' m' hj'=>by omega
 ·rw[eY];refine⟨λhc=> ?_,λ_=> ?_⟩
  ·rw[Jw,Jw] at hc;have:=hlt hc.1.1 (by decide);simp only[dY,vF,Uy];refine bP (h.lst 33 (i+1) nt (by decide) aB) λL j m hj=>λh24 h6=> ?_
   have:=dX (l:=l) (i:=j) (by rw[h24];decide);have:=dX (l:=l) (i:=j+1) (by rw[h6];decide);exact bP (h.inp a _ (j+1+1) m aB) λy j' m' hj'=>by rw[PW] at hj';omega
  ·rw[dY];refine bP (h.ex 6 a b i nt aB aB hi) λx j m hj=> ?_
   exact bP (h.inp a x j m aB) λy j' m' hj'=>by omega
 ·refine bP (h.ex 7 a b i nt aB aB hi) λx j m hj=> ?_
  rw[eY];refine⟨λhc=> ?_,λ_=>hj⟩;have:j<l.length:=by rw[Bool.or_eq_true] at hc;rcases hc with hc|hc<;>exact hlt hc (by decide)
  rw[dY];exact bP (h.ex 7 a b (j+1) m aB aB aB) λy j' m' hj'=>by show FE l i nt.length (Tn.size _) j' m'.length;rw[size2];omega
 ·refine bP (h.ex 8 a b i nt aB aB hi) λx j m hj=> ?_
  rw[eY];refine⟨λhc=> ?_,λ_=>hj⟩;have:=dX (Jt aB hc);rw[dY];exact bP (h.ex 8 a b (j+1) m aB aB aB) λy j' m' hj'=>by show FE l i nt.length (Tn.size _) j' m'.length;rw[size2];omega
 ·refine bP (h.ex 9 a b i nt aB aB hi) λx j m hj=> ?_
  exact bP (h.ch 8 a b x j m aB aB aB) λy j' m' hj'=>by omega
 ·refine bP (h.ex 10 a b i nt aB aB hi) λx j m hj=> ?_
  exact bP (h.ch 9 a b x j m aB aB aB) λy j' m' hj'=>by omega
 ·refine bP (h.ex 11 a b i nt aB aB hi) λx j m hj=> ?_
  exact bP (h.ch 10 a b x j m aB aB aB) λy j' m' hj'=>by omega
 ·rw[eY];refine⟨λhc=> ?_,λ_=>h.ex 12 a b i nt aB aB hi⟩;have:i<l.length:=by simp only[Bool.or_eq_true] at hc;rcases hc with hc|hc|hc<;>exact hlt hc (by decide)
  rw[dY];exact bP (h.ex 11 a b (i+1) nt aB aB aB) λy j' m' hj'=>by show FE l i nt.length (Tn.size _) j' m'.length;rw[RH];omega
 ·refine bP (h.ex 13 a b i nt aB aB hi) λx j m hj=> ?_
  rw[eY];refine⟨λhc=> ?_,λ_=>hj⟩;have:=hlt hc (by decide);rw[dY];exact bP (h.ex 11 a b (j+1) m aB aB aB) λy j' m' hj'=>by show FE l i nt.length (Tn.size _) j' m'.length;rw[size2];omega
 ·rw[eY];refine⟨λhc=> ?_,λ_=> ?_⟩
  ·have:=dX (Js hc);exact h.pre i nt this
  ·rw[dY];refine bP (h.ex 14 a b i nt aB aB hi) λx j m hj=> ?_
   rw[eY];refine⟨λhs=> ?_,λ_=>hj⟩;rw[Jw] at hs;have:=dX (Js hs.2);show FE l i nt.length (Tn.size _) (j+1) m.length;rw[RH];omega
 ·rw[eY];refine⟨λhc=> ?_,λ_=>h.ex 15 a b i nt aB aB hi⟩;have:=hlt hc (by decide);rw[dY,eY];refine⟨λhs=> ?_,λ_=> ?_⟩
  ·have:=dX (Js hs);exact bP (h.pre (i+1) nt this) λx j m hj=>by show FE l i nt.length (Tn.size _) j m.length;rw[RH];omega
  ·exact bP (h.ex 14 a b (i+1) nt aB aB aB) λx j m hj=>by show FE l i nt.length (Tn.size _) j m.length;rw[RH];omega
 ·have Zk:∀k,i<l.length->(agF k l i nt).sat λx j m=>FE l i nt.length x.1.size j m.length:=λk hl=>by show FE l i nt.length (Tn.size _) (i+1) nt.length;rw[SS];omega
  rw[eY];refine⟨λhc=>Zk 2 (hlt hc (by decide)),λ_=> ?_⟩;rw[eY];refine⟨λhc=>Zk 3 (hlt hc (by decide)),λ_=> ?_⟩;rw[eY];refine⟨λhc=>Zk 4 (hlt hc (by decide)),λ_=> ?_⟩;rw[eY];refine⟨λhc=> ?_,λ_=> ?_⟩
  ·have h0:=hlt hc (by decide);rw[eY];refine⟨λhd=> ?_,λ_=>Zk 1 h0⟩;have:=hlt hd (by decide);simp only[dY,vF];exact bP (h.it false false [] (i+2) nt aB) λL j m hj=>λhk=>by have:=dX (l:=l) (i:=j) (by rw[hk];decide);show FE l i nt.length (Tn.size _) (j+1) m.length;rw[PW];have e:sizes ([]:List Tn)=0:=rfl;omega
  rw[eY];refine⟨λhc=> ?_,λ_=> ?_⟩
  ·have:i<l.length:=by rw[Bool.or_eq_true] at hc;rcases hc with hc|hc<;>exact hlt hc (by decide)
   rw[eY];refine⟨λ_=>Zk 8 this,λ_=> ?_⟩;simp only[dY,vF];intro h32;have:=dX (l:=l) (i:=i+1) (by rw[h32];decide);exact bP (h.lst 33 (i+1+1) nt (by decide) aB) λL j m hj=>by show FE l i nt.length (Tn.size _) j m.length;rw[PW];omega
  rw[eY];refine⟨λhc=> ?_,λ_=>trivial⟩;have:=hlt hc (by decide);simp only[dY,vF];exact bP (h.ex 1 false false (i+1) nt aB aB aB) λx j m hj=>λhk=>by have:=dX (l:=l) (i:=j) (by rw[hk];decide);show FE l i nt.length x.1.size (j+1) m.length;omega
theorem aCn(lv:Nat)(a b:Bool)(x:Xp)(i:Nat)(nt:iw)(h3:3<=lv)(h10:lv<=10)(hi:i<=l.length):(chP l (n+1) lv a b x i nt).sat λy j m=>FN l i nt.length j m.length/\y.1.size+2 * i<=x.1.size+2 * j:=by
 rw[chP,eY];refine⟨λhc=> ?_,λ_=>(show FN l i nt.length i nt.length/\x.1.size+2 * i<=x.1.size+2 * i by omega)⟩;have hlt:=dX (Jt h3 hc);simp only;cases h8:Nat.beq lv 8 with
 |true=>
  have:=Bv h8;subst this;simp only[aI,dY];refine bP (h.ex 9 a b i nt aB aB aB) λy j m hj=> ?_
  exact bP (h.ch 8 a b _ j m aB aB aB) λy j' m' hj'=>by rw[size2] at hj';omega
 |false=>
  simp only[bH];cases h4:Nat.ble lv 4 with
  |true=>
   simp only[aI,dY];have hg:=Bj (l:=l) (i:=i+1) (nt:=nt) aB;refine bP (h.ex (lv+1) a b _ _ aB aB aB) λy j m hj=> ?_
   exact bP (h.ch lv a b _ j m aB aB aB) λy j' m' hj'=>by rw[size2] at hj';omega
  |false=>
   simp only[bH,dY];refine bP (h.ex (lv+1) a b (i+1) nt aB aB aB) λy j m hj=> ?_
   exact bP (h.ch lv a b _ j m aB aB aB) λy j' m' hj'=>by rw[size2] at hj';omega
theorem azT(a:Bool)(x:Xp)(i:Nat)(nt:iw)(hi:i<=l.length):(inP l (n+1) a x i nt).sat λy j m=>FN l i nt.length j m.length/\y.1.size+2 * i<=x.1.size+2 * j:=by rw[inP,eY];refine⟨λhc=> ?_,λ_=>(show FN l i nt.length i nt.length/\x.1.size+2 * i<=x.1.size+2 * i by omega)⟩;rw[dY,Uy];intro h6;have:=dX (l:=l) (i:=i+1) (by rw[h6];decide);exact bP (h.inp a _ (i+1+1) nt aB) λy j' m' hj'=>by rw[RH] at hj';omega
theorem azU(i:Nat)(nt:iw)(hi:i<l.length):(Zi l (n+1) i nt).sat λx j m=>FE l i nt.length x.1.size j m.length:=by rw[Zi,eY];refine⟨λhc=> ?_,λ_=>trivial⟩;rw[dY];exact bP (h.ex 14 false false (i+1) nt aB aB aB) λy j' m' hj'=>by show FE l i nt.length (Tn.size _) j' m'.length;rw[RH];omega
theorem azV(e:Int)(i:Nat)(nt:iw)(he:e≠0)(hi:i<=l.length):(PV l (n+1) e i nt).sat λL j m=>FE l i nt.length (sizes L) j m.length:=by
 have e0:sizes ([]:List Tn)=0:=rfl;rw[PV,eY];refine⟨λhc=> ?_,λ_=> ?_⟩
 ·have:=dX (l:=l) (i:=i) (by rw[beq_iff_eq] at hc;rw[hc];exact he);show FE l i nt.length (sizes []) (i+1) nt.length;omega
 simp only[dY,vF];exact bP (h.it false false [] i nt hi) λL j m hj=>λhk=>by have:=dX (l:=l) (i:=j) (by rw[hk];exact he);show FE l i nt.length (sizes L) (j+1) m.length;omega
theorem aCo(a b:Bool)(L:List Tn)(i:Nat)(nt:iw)(hi:i<=l.length):(NQ l (n+1) a b L i nt).sat λL' j m=>i<j/\FN l i nt.length j m.length/\sizes L'+2 * i+1<=sizes L+2 * j:=by
 rw[NQ,dY];refine bP (h.ex 1 a b i nt aB aB hi) λx j m hj=> ?_
 rw[eY];refine⟨λhc=> ?_,λ_=> ?_⟩
 ·have:j<l.length:=dX (by rw[beq_iff_eq] at hc;rw[hc];decide);rw[eY];refine⟨λ_=>trivial,λ_=> ?_⟩;have hg:=Bj (l:=l) (i:=j+1) (nt:=m) aB;exact bP (h.it a b _ _ _ aB) λy j' m' hj'=>by rw[sizes1] at hj';omega
 ·show i<j/\FN l i nt.length j m.length/\sizes (L++[x.1])+2 * i+1<=sizes L+2 * j;rw[sizes1];omega
end
def sats(l:List Tk):∀n,aMt l n
 |0=>⟨λ_ _ _ _ _ _ _ _=>by rw[ex];trivial,λ_ _ _ _ _ _ _ _ _=>by rw[chP];trivial,λ_ _ _ _ _=>by rw[inP];trivial,λ_ _ _=>by rw[Zi];trivial,λ_ _ _ _ _=>by rw[PV];trivial,λ_ _ _ _ _ _=>by rw[NQ];trivial⟩
 |n+1=>have h:=sats l n
  ⟨aCm h,aCn h,azT h,azU h,azV h,aCo h⟩
variable {l:List Tk}
abbrev FB(l:List Tk)(i n0 s j n:Nat):Prop:=i<j/\j<=l.length/\n+i<=n0+j/\s+n+6 * i+5<=n0+6 * j
abbrev FS(l:List Tk)(i n0 s j n:Nat):Prop:=i<j/\j<=l.length/\n+i<=n0+j/\s+n+6 * i+3<=n0+6 * j
def sizes0:sizes ([]:List Tn)=0:=rfl
def Bl(nt:iw):(Dq nt).length=nt.length:=by rw[Dq,zaO]
def ZF:∀nt:iw,sizes (Dq nt)=nt.length
 |[]=>rfl
 |s::r=>by rw[show Dq (s::r)=Tn.mk 34 0 s [] []::Dq r from rfl,sizes,SS,ZF r,zlc];omega
def EJ{n lv i:Nat}{a b:Bool}{nt:iw}(h1:1<=lv)(h2:lv<=15)(hi:i<=l.length):(ex l n lv a b i nt).sat λx j m=>FE l i nt.length x.1.size j m.length:=(sats l n).ex lv a b i nt h1 h2 hi
def acN{n i:Nat}{a b:Bool}{nt:iw}(hi:i<=l.length):(NQ l n a b [] i nt).sat λL j m=>FE l i nt.length (sizes L) j m.length:=
 bP ((sats l n).it a b [] i nt hi) λL j m hj=>by rw[sizes0] at hj;omega
def O8{n i:Nat}{nt:iw}(hi:i<=l.length):(SN l n i nt).sat λx j m=>FE l i nt.length x.size j m.length:=by simp only[SN,dY,vF];intro hk;have:=dX (l:=l) (i:=i) (by rw[hk];decide);exact bP (EJ aB aB aB) λx j m hj=>λhk=>by have:=dX (l:=l) (i:=j) (by rw[hk];decide);show FE l i nt.length x.1.size (j+1) m.length;omega
def NP{n i:Nat}{nt:iw}{e:Int}{a:Bool}(hi:i<=l.length):(IB l n e a i nt).sat λx j m=>FN l i nt.length j m.length/\x.size+2 * i<=2 * j+1:=by
 rw[IB,eY];refine⟨λ_=> ?_,λ_=> ?_⟩
 ·show FN l i nt.length i nt.length/\(Tn.size _)+2 * i<=2 * i+1;rw[SS];omega
 rw[dY];exact bP (EJ aB aB hi) λx j m hj=>by show FN l i nt.length j m.length/\x.1.size+2 * i<=2 * j+1;omega
def as7{n i:Nat}{k:Int}{nt:iw}(hi:i<l.length):(acM l n k i nt).sat λx j m=>FS l i nt.length x.size j m.length:=by
 rw[acM,eY];refine⟨λ_=> ?_,λ_=> ?_⟩
 ·show FS l i nt.length (Tn.size _) (i+1) nt.length;rw[SS];omega
 rw[dY];exact bP (EJ aB aB aB) λx j m hj=>by show FS l i nt.length (Tn.size _) j m.length;rw[RH];omega
def aFi{n i:Nat}{nt:iw}:(amN l n i nt).sat λx j m=>FS l i nt.length x.size j m.length:=by
 rw[amN,dY,Uy];intro h;have:=dX (l:=l) (i:=i+1) (by rw[h];decide);rw[eY];refine⟨λhc=> ?_,λ_=> ?_⟩
 ·have:=cO hc (by decide);simp only[dY,vF];exact bP (acN aB) λx j m hj=>λhk=>by have:=dX (l:=l) (i:=j) (by rw[hk];decide);show FS l i nt.length (Tn.size _) (j+1) m.length;rw[PW];omega
 ·show FS l i nt.length (Tn.size _) (i+1+1) nt.length;rw[SS];omega
def aFj{n i:Nat}{nt:iw}(hi:i<l.length):(ag2 l n i nt).sat λx j m=>FS l i nt.length x.size j m.length:=by
 rw[ag2,dY];have h1:(bif bC l i==26|| !(Ei (bC l (i+1))||wO (bC l (i+1))) then NQ l n false true [] (i+1) nt else .ok [] (i+1) nt:PR (List Tn)).sat λL j m=>FN l (i+1) nt.length j m.length/\sizes L+2 * (i+1)<=2 * j:=by rw[eY];refine⟨λ_=>bP (acN aB) λx j m hj=>by omega,λ_=> ?_⟩;show FN l (i+1) nt.length (i+1) nt.length/\sizes []+2 * (i+1)<=2 * (i+1);rw[sizes0];omega
 refine bP h1 λL j m hj=> ?_
 rw[eY];refine⟨λhc=> ?_,λ_=> ?_⟩
 ·have:=dX (Zl hc);rw[dY];exact bP (EJ aB aB aB) λx j' m' hj'=>by show FS l i nt.length (Tn.size _) j' m'.length;rw[PW,sizes1];omega
 ·show FS l i nt.length (Tn.size _) j m.length;rw[PW];omega
def arN{n i:Nat}{nt:iw}(hi:i<=l.length):(aj8 l n i nt).sat λx j m=>FS l i nt.length x.size j m.length:=by
 have hw:∀k,i<l.length->(PR.ok (Tn.mk k 0 [] [] []) (i+1) nt).sat λx j m=>FS l i nt.length x.size j m.length:=λk hl=>by show FS l i nt.length (Tn.size _) (i+1) nt.length;rw[SS];omega
 rw[aj8,eY];refine⟨λhc=> ?_,λ_=> ?_⟩
 ·have:i<l.length:=by rw[Bool.or_eq_true] at hc;rcases hc with hc|hc<;>exact cO hc (by decide)
  exact aFj this
 rw[eY];refine⟨λhc=>hw 22 (cO hc (by decide)),λ_=> ?_⟩;rw[eY];refine⟨λhc=>hw 25 (cO hc (by decide)),λ_=> ?_⟩;rw[eY];refine⟨λhc=>hw 26 (cO hc (by decide)),λ_=> ?_⟩;rw[eY];refine⟨λhc=>as7 (cO hc (by decide)),λ_=> ?_⟩;rw[eY];refine⟨λhc=>as7 (cO hc (by decide)),λ_=> ?_⟩;rw[eY];refine⟨λ_=>aFi,λ_=> ?_⟩;rw[dY];exact bP (EJ aB aB hi) λx j m hj=>by show FS l i nt.length (Tn.size _) j m.length;rw[RH];omega
def arO{α:Type}{P:α->Nat->iw->Prop}{x:α}{j:Nat}{nt:iw}(h:P x j nt):(endP l x j nt).sat P:=by rw[endP,eY];exact⟨λ_=>h,λ_=>trivial⟩
structure aDn(l:List Tk)(n:Nat):Prop where
 st:∀i nt,i<=l.length->(stP l n i nt).sat λx j m=>FS l i nt.length x.size j m.length
 blk:∀i nt,i<=l.length->(JI l n i nt).sat λx j m=>FB l i nt.length x.size j m.length
 lines:∀L i nt,i<=l.length->(VH l n L i nt).sat λL' j m=>i<j/\FN l i nt.length j m.length/\sizes L'+m.length+6 * i<=sizes L+nt.length+6 * j
 body:∀i nt,i<=l.length->(Bh l n i nt).sat λx j m=>i<j/\FN l i nt.length j m.length/\x.size+m.length+6 * i+1<=nt.length+6 * j
section
variable {n:Nat} (h:aDn l n)
include h
theorem aCp(i:Nat)(nt:iw)(hi:i<=l.length):(stP l (n+1) i nt).sat λx j m=>FS l i nt.length x.size j m.length:=by
 rw[stP,eY];refine⟨λ_=>bP (h.blk i nt hi) λx j m hj=>by omega,λ_=> ?_⟩;rw[eY];refine⟨λhc=> ?_,λ_=> ?_⟩
 ·have:=cO hc (by decide);simp only[dY];refine bP (O8 aB) λx j m hj=> ?_
  refine bP (h.body j m aB) λy j2 m2 hj2=> ?_
  rw[eY];have hs:=Oz (l:=l) (i:=j2) (nt:=m2) aB;refine⟨λhc=> ?_,λ_=> ?_⟩
  ·have:=cO hc (by decide);rw[dY];exact bP (h.body _ _ aB) λz j3 m3 hj3=>by show FS l i nt.length (Tn.size _) j3 m3.length;rw[size3];omega
  ·show FS l i nt.length (Tn.size _) j2 m2.length;rw[size2];omega
 rw[eY];refine⟨λhc=> ?_,λ_=> ?_⟩
 ·have:=cO hc (by decide);simp only[dY];refine bP (O8 aB) λx j m hj=> ?_
  exact bP (h.body j m aB) λy j2 m2 hj2=>by show FS l i nt.length (Tn.size _) j2 m2.length;rw[size2];omega
 rw[eY];refine⟨λhc=> ?_,λ_=> ?_⟩
 ·have:=cO hc (by decide);simp only[dY,vF];refine bP (h.body (i+1) nt aB) λx j m hj=>λhk=> ?_
  have hs:=Oz (l:=l) (i:=j) (nt:=m) aB;have:=dX (l:=l) (i:=(sep l j m).1) (by rw[hk];decide);refine bP (O8 aB) λy j2 m2 hj2=> ?_
  refine arO (?_:FS l i nt.length (Tn.size _) j2 m2.length);rw[size2];omega
 rw[eY];refine⟨λhc=> ?_,λ_=> ?_⟩
 ·have:=cO hc (by decide);simp only[dY,vF];intro h32;have:=dX (l:=l) (i:=i+1) (by rw[h32];decide);rw[eY];refine⟨λhd=> ?_,λ_=> ?_⟩
  ·simp only[dY,vF,Uy];intro h6 h33;have:=dX (l:=l) (i:=i+1+1+2+1) (by rw[h33];decide);exact bP (h.body _ nt aB) λy j2 m2 hj2=>by show FS l i nt.length (Tn.size _) j2 m2.length;rw[RH];omega
  ·simp only[dY,vF];refine bP (NP aB) λx j m hj=>λhk=> ?_
   have:=dX (l:=l) (i:=j) (by rw[hk];decide);have g1:=Bj (l:=l) (i:=j+1) (nt:=m) aB;refine bP (NP aB) λy j2 m2 hj2=>λhk2=> ?_
   have:=dX (l:=l) (i:=j2) (by rw[hk2];decide);have g2:=Bj (l:=l) (i:=j2+1) (nt:=m2) aB;refine bP (NP aB) λz j3 m3 hj3=>λhk3=> ?_
   have:=dX (l:=l) (i:=j3) (by rw[hk3];decide);exact bP (h.body _ _ aB) λw j4 m4 hj4=>by show FS l i nt.length (Tn.size _) j4 m4.length;rw[aMu];omega
 rw[dY];exact bP (arN hi) λx j m hj=>arO hj
theorem azW(i:Nat)(nt:iw)(hi:i<=l.length):(JI l (n+1) i nt).sat λx j m=>FB l i nt.length x.size j m.length:=by simp only[JI,dY,vF];intro hk;have:=dX (l:=l) (i:=i) (by rw[hk];decide);exact bP (h.lines [] (i+1) nt aB) λL j m hj=>by rw[sizes0] at hj;show FB l i nt.length (Tn.size _) j m.length;rw[PW];omega
theorem arP(L:List Tn)(i:Nat)(nt:iw)(hi:i<=l.length):(VH l (n+1) L i nt).sat λL' j m=>i<j/\FN l i nt.length j m.length/\sizes L'+m.length+6 * i<=sizes L+nt.length+6 * j:=by
 have hs:=Oz (l:=l) (i:=i) (nt:=nt) hi;rw[VH,eY];refine⟨λhc=> ?_,λ_=> ?_⟩
 ·have:=cO hc (by decide);show i<(sep l i nt).1+1/\FN l i nt.length ((sep l i nt).1+1) ([]:iw).length/\sizes (L++Dq (sep l i nt).2)+([]:iw).length+6 * i<=sizes L+nt.length+6 * ((sep l i nt).1+1);rw[mQ,ZF,zln];omega
 rw[eY];refine⟨λ_=>trivial,λhc=> ?_⟩;have hlt:(sep l i nt).1<l.length:=dX (by simpa using hc);rw[dY];refine bP (h.st _ _ aB) λs j m hj=> ?_
 rw[zln] at hj;exact bP (h.lines _ j m aB) λL' j2 m2 hj2=>by rw[sizes1,mQ,ZF] at hj2;omega
theorem avP(i:Nat)(nt:iw)(hi:i<=l.length):(Bh l (n+1) i nt).sat λx j m=>i<j/\FN l i nt.length j m.length/\x.size+m.length+6 * i+1<=nt.length+6 * j:=by
 have hs:=Bj (l:=l) (i:=i) (nt:=nt) hi;rw[Bh,eY];refine⟨λhc=>bP (h.blk _ _ aB) λs j m hj=>by omega,λ_=> ?_⟩;rw[eY];refine⟨λhc=> ?_,λ_=> ?_⟩
 ·have:=cO hc (by decide);show i<(nl l i nt).1+1/\FN l i nt.length ((nl l i nt).1+1) ([]:iw).length/\(Tn.size _)+([]:iw).length+6 * i+1<=nt.length+6 * ((nl l i nt).1+1);rw[PW,ZF,zln];omega
 rw[dY];exact bP (h.st _ _ aB) λs j m hj=>by rw[zln] at hj;show i<j/\FN l i nt.length j m.length/\(Tn.size _)+m.length+6 * i+1<=nt.length+6 * j;rw[PW,sizes1,ZF];omega
end
def N9(l:List Tk):∀n,aDn l n
 |0=>⟨λ_ _ _=>by rw[stP];trivial,λ_ _ _=>by rw[JI];trivial,λ_ _ _ _=>by rw[VH];trivial,λ_ _ _=>by rw[Bh];trivial⟩
 |n+1=>have h:=N9 l n
  ⟨aCp h,azW h,arP h,avP h⟩
def ahr:∀(n:Nat) (L:List Tn) (i:Nat) (nt:iw),i<=l.length->(EI l n L i nt).sat λL' j m=>i<j/\FN l i nt.length j m.length/\sizes L'+m.length+6 * i<=sizes L+nt.length+6 * j
 |0,_,_,_,_=>trivial
 |n+1,L,i,nt,hi=>by
  rw[EI,dY,Uy];intro h6;have:=dX (l:=l) (i:=i) (by rw[h6];decide);rw[eY];refine⟨λhc=> ?_,λ_=> ?_⟩
  ·have:=cO hc (by decide);rw[eY];refine⟨λ_=>trivial,λ_=> ?_⟩;have hs:=Bj (l:=l) (i:=i+1+1) (nt:=nt) aB;exact bP (ahr n _ _ _ aB) λs j m hj=>by rw[sizes1,SS] at hj;omega
  ·show i<i+1/\FN l i nt.length (i+1) nt.length/\sizes (L++[Tn.mk 1 0 (zK l i) [] []])+nt.length+6 * i<=sizes L+nt.length+6 * (i+1);rw[sizes1,SS];omega
def aFk{n i:Nat}{nt:iw}(hi:i<=l.length):(amO l n i nt).sat λx j m=>FS l i nt.length x.size j m.length:=by
 rw[amO,eY];refine⟨λhc=> ?_,λ_=>trivial⟩;simp only[dY,vF];intro h32;have:=dX (l:=l) (i:=i+1) (by rw[h32];decide);have h1:(bif bC l (i+1+1)==33 then .ok [] (i+1+1) nt else EI l n [] (i+1+1) nt:PR (List Tn)).sat λL j m=>FN l (i+2) nt.length j m.length/\sizes L+m.length+6 * (i+2)<=nt.length+6 * j:=by rw[eY];refine⟨λ_=> ?_,λ_=>bP (ahr n [] _ nt aB) λx j m hj=>by rw[sizes0] at hj;omega⟩;show FN l (i+2) nt.length (i+1+1) nt.length/\sizes []+nt.length+6 * (i+2)<=nt.length+6 * (i+1+1);rw[sizes0];omega
 refine bP h1 λL j m hj=>λh33=> ?_
 have:=dX (l:=l) (i:=j) (by rw[h33];decide);have hs:=Bj (l:=l) (i:=j+1) (nt:=m) aB;exact bP ((N9 l n).blk _ _ aB) λx j' m' hj'=>by show FS l i nt.length (Tn.size _) j' m'.length;rw[PW,sizes1];omega
def as8{n i:Nat}{nt:iw}(hi:i<=l.length):(Ux l n i nt).sat λx j m=>FS l i nt.length x.size j m.length:=by
 rw[Ux,eY];refine⟨λhc=> ?_,λ_=> ?_⟩
 ·have:=cO hc (by decide);rw[dY];exact bP ((N9 l n).blk (i+1) nt aB) λx j m hj=>by show FS l i nt.length (Tn.size _) j m.length;rw[RH];omega
 rw[eY];refine⟨λhc=> ?_,λ_=> ?_⟩
 ·have:=cO hc (by decide);rw[dY];exact bP ((N9 l n).blk (i+1) nt aB) λx j m hj=>by show FS l i nt.length (Tn.size _) j m.length;rw[RH];omega
 rw[eY];refine⟨λhc=> ?_,λ_=> ?_⟩
 ·have:=cO hc (by decide);exact bP (aFk aB) λx j m hj=>by omega
 rw[eY];refine⟨λhc=> ?_,λ_=> ?_⟩
 ·rw[dY];exact bP ((N9 l n).blk i nt hi) λx j m hj=>by show FS l i nt.length (Tn.size _) j m.length;rw[RH];omega
 rw[dY];refine bP (EJ aB aB hi) λx j m hj=> ?_
 rw[dY];have h1:(bif bC l j==36 then(ex l n 1 false false (nl l (j+1) m).1 (nl l (j+1) m).2).bind λy i nt=> .ok (43,[x.1,y.1]) i nt else .ok (42,[x.1]) j m:PR (Int×List Tn)).sat λq j m=>FE l i nt.length (sizes q.2) j m.length:=by
  rw[eY];refine⟨λhc=> ?_,λ_=> ?_⟩
  ·have:=cO hc (by decide);have hs:=Bj (l:=l) (i:=j+1) (nt:=m) aB;rw[dY];exact bP (EJ aB aB aB) λy j2 m2 hj2=>by show FE l i nt.length (sizes [x.1,y.1]) j2 m2.length;simp only[sizes];omega
  ·show FE l i nt.length (sizes [x.1]) j m.length;simp only[sizes];omega
 refine bP h1 λq j2 m2 hj2=> ?_
 rw[eY];refine⟨λhc=> ?_,λ_=> ?_⟩
 ·rw[dY];exact bP ((N9 l n).blk j2 m2 aB) λy j3 m3 hj3=>by show FS l i nt.length (Tn.size _) j3 m3.length;rw[PW,sizes1];omega
 ·refine arO (?_:FS l i nt.length (Tn.size _) j2 m2.length);rw[PW];omega
def aFl{α:Type}(a b:Bool)(x y:α):(bif a||b then x else y)=bif a then x else bif b then x else y:=by cases a<;>rfl
def azX{α:Type}(a:Bool)(x y:α):some (bif a then x else y)=bif a then some x else some y:=by cases a<;>rfl
def OA(op:Int):M.qP op=some (EH op)/\M.wW op=some (EH op):=by simp only[M.qP,M.Ny,M.wW,M.MI,EH,aFl,azX];constructor<;>first|trivial|rfl
def Ps.Qu(p:Ps):Int×Bool×Bool×Bool×Bool:=(p.level,p.aFf,p.aTd,p.aTe,p.aFg)
def many(n:Nat):decide ((n:Int)>1)=Nat.blt 1 n:=by
 cases hb:Nat.blt 1 n with
 |true=>rw[Nat.blt_eq] at hb;exact zdt aB
 |false=>
  have:¬1<n:=by rw[<-Nat.blt_eq,hb];simp
  exact Bq aB
def dR(l:List (aP)):ah (encS l)=true:=by simp[ah,encS,D.flat]
def snS(l:List (aP))(s:aP):encS l++[[D.str s]]=encS (l++[s]):=by simp[encS]
def lnS(l:List (aP)):(encS l).length=l.length:=by simp[encS]
abbrev TP:=Int×Int×aP×aP×Bool×aA×Bool×aA×Int×Bool×aA
abbrev TT:=Int×Int×aP×aP×Bool×aA×aA×Int×Bool×aA
abbrev TL:=Bool×aA×aA×Int×Bool×aA
def AP(l:List Tk)(o:Option TP):PR Xp->Prop
 | .ok x j nt=>∃fl ks,ak ks=dO false x.1.kids/\o=some (x.1.kind,x.1.op,x.1.text,x.1.other,fl,ks,tgt x,au l,(j:Int),false,encS nt)
 | .bad j=>∃k op x y fl ks tg nt,nt.length<=l.length/\o=some (k,op,x,y,fl,ks,tg,au l,(j:Int),true,encS nt)
 | .out=>True
def AT(l:List Tk)(o:Option TT):PR Tn->Prop
 | .ok x j nt=>∃fl ks,ak ks=dO false x.kids/\o=some (x.kind,x.op,x.text,x.other,fl,ks,au l,(j:Int),false,encS nt)
 | .bad j=>∃k op x y fl ks nt,nt.length<=l.length/\o=some (k,op,x,y,fl,ks,au l,(j:Int),true,encS nt)
 | .out=>True
def AL(l:List Tk)(o:Option TL):PR (List Tn)->Prop
 | .ok L j nt=>∃fl,o=some (fl,dO false L,au l,(j:Int),false,encS nt)
 | .bad j=>∃fl ks nt,nt.length<=l.length/\o=some (fl,ks,au l,(j:Int),true,encS nt)
 | .out=>True
variable {l:List Tk}
section
variable {β γ:Type} {R:Option β->PR γ->Prop}
def AP.elim{o:Option TP}{p:PR Xp}(h:AP l o p){f:TP->Option β}{g:Xp->Nat->iw->PR γ}(hout:∀o,R o .out)
  (hbad:∀k op x y fl ks tg j nt,nt.length<=l.length->R (f (k,op,x,y,fl,ks,tg,au l,((j:Nat):Int),true,encS nt)) (.bad j))
  (hok:∀x fl ks j nt,ak ks=dO false x.1.kids->p=.ok x j nt->R (f (x.1.kind,x.1.op,x.1.text,x.1.other,fl,ks,tgt x,au l,(j:Int),false,encS nt)) (g x j nt)):R (o.bind f) (p.bind g):=by
 cases p with
 |ok x j nt=>obtain⟨fl,ks,h1,rfl⟩:=h;exact hok x fl ks j nt h1 rfl
 |bad j=>obtain⟨k,op,x,y,fl,ks,tg,nt,h1,rfl⟩:=h;exact hbad k op x y fl ks tg j nt h1
 |out=>exact hout _
def AT.elim{o:Option TT}{p:PR Tn}(h:AT l o p){f:TT->Option β}{g:Tn->Nat->iw->PR γ}(hout:∀o,R o .out)
  (hbad:∀k op x y fl ks j nt,nt.length<=l.length->R (f (k,op,x,y,fl,ks,au l,((j:Nat):Int),true,encS nt)) (.bad j))
  (hok:∀x fl ks j nt,ak ks=dO false x.kids->p=.ok x j nt->R (f (x.kind,x.op,x.text,x.other,fl,ks,au l,(j:Int),false,encS nt)) (g x j nt)):R (o.bind f) (p.bind g):=by
 cases p with
 |ok x j nt=>obtain⟨fl,ks,h1,rfl⟩:=h;exact hok x fl ks j nt h1 rfl
 |bad j=>obtain⟨k,op,x,y,fl,ks,nt,h1,rfl⟩:=h;exact hbad k op x y fl ks j nt h1
 |out=>exact hout _
def AL.elim{o:Option TL}{p:PR (List Tn)}(h:AL l o p){f:TL->Option β}{g:List Tn->Nat->iw->PR γ}(hout:∀o,R o .out)
  (hbad:∀fl ks j nt,nt.length<=l.length->R (f (fl,ks,au l,((j:Nat):Int),true,encS nt)) (.bad j))
  (hok:∀L fl j nt,p=.ok L j nt->R (f (fl,dO false L,au l,(j:Int),false,encS nt)) (g L j nt)):R (o.bind f) (p.bind g):=by
 cases p with
 |ok L j nt=>obtain⟨fl,rfl⟩:=h;exact hok L fl j nt rfl
 |bad j=>obtain⟨fl,ks,nt,h1,rfl⟩:=h;exact hbad fl ks j nt h1
 |out=>exact hout _
end
def PR.bind_ok{α:Type}(p:PR α):(p.bind λa i nt=> .ok a i nt)=p:=by cases p<;>rfl
def AP.pass{o:Option TP}{p:PR Xp}(h:AP l o p){f:TP->Option TP}
  (hf:∀k op x y fl ks tg j b nt,f (k,op,x,y,fl,ks,tg,au l,j,b,encS nt)=some (k,op,x,y,false,ak ks,tg,au l,j,b,encS nt)):AP l (o.bind f) p:=by
 rw[<-PR.bind_ok p];refine AP.elim (R:=AP l) h (λ_=>trivial) (λk op x y fl ks tg j nt hn=> ?_) (λx fl ks j nt hk _=> ?_)
 ·rw[hf];exact⟨_,_,_,_,_,_,_,_,hn,rfl⟩
 ·rw[hf];exact⟨_,_,by rw[hk,iT],rfl⟩
def AT.pass{o:Option TT}{p:PR Tn}(h:AT l o p){f:TT->Option TT}
  (hf:∀k op x y fl ks j b nt,f (k,op,x,y,fl,ks,au l,j,b,encS nt)=some (k,op,x,y,false,ak ks,au l,j,b,encS nt)):AT l (o.bind f) p:=by
 rw[<-PR.bind_ok p];refine AT.elim (R:=AT l) h (λ_=>trivial) (λk op x y fl ks j nt hn=> ?_) (λx fl ks j nt hk _=> ?_)
 ·rw[hf];exact⟨_,_,_,_,_,_,_,hn,rfl⟩
 ·rw[hf];exact⟨_,_,by rw[hk,iT],rfl⟩
def eU(i:Nat)(b:Bool)(nt:iw):M.aC (au l) (i:Int) b (encS nt)=some (bC l i,au l,(i:Int),b,encS nt):=by
 simp only[M.aC,M.Fj,dh,dR,aI,bC]
 by_cases h:i<l.length
 ·rw[Bq aB,bH];obtain⟨t,ht⟩:∃t,l[i]? =some t:=⟨l[i],by simp[h]⟩
  simp only[dM,fK,ht,Hg,aj,VJ]
 ·rw[zdt aB,aI,List.getElem?_eq_none aB]
def mM(hl:l.length<=1048576){i:Nat}(h:i<l.length):i64.wrap ((i:Int)+1)=((i+1:Nat):Int):=by rw[bT aB aB];omega
def JJ(hl:l.length<=1048576){i:Nat}(h:i<l.length)(b:Bool)(nt:iw):M.dW (au l) (i:Int) b (encS nt)=some (zK l i,au l,((i+1:Nat):Int),b,encS nt):=by
 obtain⟨t,ht⟩:∃t,l[i]? =some t:=⟨l[i],by simp[h]⟩
 simp only[M.dW,M.Fv,dM,fK,ht,Hg,aj,cT1,dR,aI,mM hl h,zK]
def arQ(k:Int):M.oD k=some (isStep k):=by simp only[M.oD,M.O5,isStep];cases k==51<;>rfl
def aDo(k:Int):M.kY k=some (arL k):=by simp only[M.kY,M.CU,arL];cases k==3<;>cases k==4<;>cases k==6<;>cases k==7<;>cases k==8<;>cases k==32<;>cases k==68<;>rfl
def amT(k:Int):M.iJ k=some (Ei k):=by simp only[M.iJ,M.KN,Ei];cases k==0<;>cases k==1<;>cases k==2<;>cases k==37<;>rfl
def ahs(k:Int):M.yF k=some (wO k):=by simp only[M.yF,M.QE,wO];cases k==62<;>cases k==53<;>rfl
def SV(k:Int):M.yD k=some (Vg k):=by simp only[M.yD,M.Ns,Vg];cases k==32<;>cases k==34<;>rfl
def Vh(k:Int):M.yE k=some (TB k):=by simp only[M.yE,M.Nu,TB];cases k==33<;>cases k==35<;>rfl
def arR(i:Nat)(b:Bool)(nt:iw):M.jd (au l) (i:Int) b (encS nt)=some (0,0,[],[],true,[],false,au l,(i:Int),true,encS nt):=by simp only[M.jd,M.Fq,dR,aI]
def sG(k:Int)(i:Nat)(nt:iw):M.aJ k (au l) (i:Int) true (encS nt)=some (false,au l,(i:Int),true,encS nt):=by simp only[M.aJ,M.rD,dR,aI]
section
variable {β γ:Type} {R:Option β->PR γ->Prop}
def JK(hl:l.length<=1048576){k:Int}(hk:k≠0){i:Nat}{nt:iw}{f:Bool×aA×Int×Bool×aA->Option β}{g:Unit->Nat->iw->PR γ}
  (hbad:R (f (false,au l,(i:Int),true,encS nt)) (.bad i))
  (hok:bC l i=k->i<l.length->R (f (true,au l,((i+1:Nat):Int),false,encS nt)) (g () (i+1) nt)):
  R ((M.aJ k (au l) (i:Int) false (encS nt)).bind f) ((iV l k i nt).bind g):=by
 have e:M.aJ k (au l) (i:Int) false (encS nt)=bif bC l i==k then some (true,au l,i64.wrap ((i:Int)+1),false,encS nt) else some (false,au l,(i:Int),true,encS nt):=by simp only[M.aJ,M.rD,dR,aI,bH,eU,aj,bne];cases bC l i==k<;>rfl
 rw[e,iV];cases hc:bC l i==k with
 |true=>
  have h1:bC l i=k:=by rwa [beq_iff_eq] at hc
  have h2:i<l.length:=dX (by rw[h1];exact hk);simp only[aI,mM hl h2,aj];exact hok h1 h2
 |false=>exact hbad
def azY(hl:l.length<=1048576){i:Nat}{nt:iw}{f:aP×aA×Int×Bool×aA->Option β}{g:aP->Nat->iw->PR γ}
  (hbad:R (f ([],au l,(i:Int),true,encS nt)) (.bad i))
  (hok:bC l i=6->i<l.length->R (f (zK l i,au l,((i+1:Nat):Int),false,encS nt)) (g (zK l i) (i+1) nt)):
  R ((M.bM (au l) (i:Int) false (encS nt)).bind f) ((nameP l i nt).bind g):=by
 rw[nameP];cases hc:bC l i==6 with
 |true=>
  have h1:bC l i=6:=by rwa [beq_iff_eq] at hc
  have h2:i<l.length:=dX (by rw[h1];decide);simp only[M.bM,M.iL,dR,aI,bH,eU,aj,bne,hc,zaM,JJ hl h2];exact hok h1 h2
 |false=>simp only[M.bM,M.iL,dR,aI,bH,eU,aj,bne,hc,Bool.not_false];exact hbad
end
def Uz{α:Type}{L:List α}{i:Nat}{t:α}(h:L[i]? =some t):L.drop i=t::L.drop (i+1):=by obtain⟨hi,rfl⟩:=Vo.1 h;exact List.drop_eq_getElem_cons hi
def SX(i:Nat)(nt:iw):nl l i nt=bif bC l i==1 then nl l (i+1) nt else bif bC l i==2 then nl l (i+1) (nt++[zK l i]) else(i,nt):=by
 unfold nl;cases h:l[i]? with
 |none=>
  have e:bC l i=0:=by rw[bC,h]
  rw[e,List.drop_eq_nil_of_le (List.getElem?_eq_none_iff.1 h)];rfl
 |some t=>
  have e1:bC l i=t.kind:=by rw[bC,h]
  have e2:zK l i=t.text:=by rw[zK,h]
  rw[Uz h,nlR,e1,e2]
def ajq(i:Nat)(nt:iw):sep l i nt=bif bC l i==1||bC l i==37 then sep l (i+1) nt else bif bC l i==2 then sep l (i+1) (nt++[zK l i]) else(i,nt):=by
 unfold sep;cases h:l[i]? with
 |none=>
  have e:bC l i=0:=by rw[bC,h]
  rw[e,List.drop_eq_nil_of_le (List.getElem?_eq_none_iff.1 h)];rfl
 |some t=>
  have e1:bC l i=t.kind:=by rw[bC,h]
  have e2:zK l i=t.text:=by rw[zK,h]
  rw[Uz h,Z5,e1,e2]
def azZ{P:Nat->iw->Prop}(h1:∀i nt,bC l i=1->i<l.length->P (i+1) nt->P i nt)(h2:∀i nt,bC l i=2->i<l.length->P (i+1) (nt++[zK l i])->P i nt)
  (h3:∀i nt,(bC l i==1)=false->(bC l i==2)=false->P i nt):∀i nt,P i nt:=by
 have:∀n i nt,l.length - i<=n->P i nt:=by
  intro n;induction n with
  |zero=>
   intro i nt hn;have e:bC l i=0:=by rw[bC,List.getElem?_eq_none aB]
   exact h3 i nt (by rw[e];rfl) (by rw[e];rfl)
  |succ n ih=>
   intro i nt hn;cases e1:bC l i==1 with
   |true=>
    have e:bC l i=1:=by rwa [beq_iff_eq] at e1
    have hlt:=dX (l:=l) (i:=i) (by rw[e];decide);exact h1 i nt e hlt (ih _ _ aB)
   |false=>
    cases e2:bC l i==2 with
    |true=>
     have e:bC l i=2:=by rwa [beq_iff_eq] at e2
     have hlt:=dX (l:=l) (i:=i) (by rw[e];decide);exact h2 i nt e hlt (ih _ _ aB)
    |false=>exact h3 i nt e1 e2
 exact λi nt=>this _ i nt (zaN _)
def amU(i:Nat)(nt:iw):sep l i nt=bif bC l (nl l i nt).1==37 then sep l ((nl l i nt).1+1) (nl l i nt).2 else nl l i nt:=by
 refine azZ (l:=l) (P:=λi nt=>sep l i nt=bif bC l (nl l i nt).1==37 then sep l ((nl l i nt).1+1) (nl l i nt).2 else nl l i nt) ?_ ?_ ?_ i nt
 ·intro i nt hk _ ih;rw[ajq,SX,hk];exact ih
 ·intro i nt hk _ ih;rw[ajq,SX,hk];exact ih
 ·intro i nt h1 h2;rw[ajq,SX,h1,h2];cases h3:bC l i==37<;>simp only[Bool.or_true,Bool.or_false,Bool.false_or,aI,bH,h3]
def OB(hl:l.length<=1048576)(i:Nat)(nt:iw)(hi:i<=l.length)(hn:nt.length<=i):
  M.aN (au l) (i:Int) false (encS nt)=some (au l,((nl l i nt).1:Int),false,encS (nl l i nt).2):=by
 have hstep:∀i nt,(b:Bool)->i<l.length->bC l i=1->M.kL (bif b then .inl (au l,(i:Int),false,encS nt) else .inr (au l,(i:Int),false,encS nt))=some (.inl (.inr (au l,((i+1:Nat):Int),false,encS nt))):=by intro i nt b hlt hk;cases b<;>simp only[Em,aI,bH,M.kL,M.mO,Bool.not_false,dR,eU,aj,hk,mM hl hlt,BEq.rfl]
 have hstep2:∀i nt,(b:Bool)->i<l.length->nt.length<=i->bC l i=2->M.kL (bif b then .inl (au l,(i:Int),false,encS nt) else .inr (au l,(i:Int),false,encS nt))=some (.inl (.inr (au l,((i+1:Nat):Int),false,encS (nt++[zK l i])))):=by
  intro i nt b hlt hni hk;obtain⟨t,ht⟩:∃t,l[i]? =some t:=⟨l[i],by simp[hlt]⟩
  have e2:zK l i=t.text:=by rw[zK,ht]
  have h21:((2:Int)==1)=false:=rfl;cases b<;>simp only[Em,aI,bH,M.kL,M.mO,Bool.not_false,dR,eU,aj,hk,h21,BEq.rfl,mM hl hlt,dM,fK,ht,Hg,cT1,snS,lnS,y7,e2]<;>
   rw[bK aB,aI,bK aB,aI]
 have amV:∀i nt,(b:Bool)->(bC l i==1)=false->(bC l i==2)=false->M.kL (bif b then .inl (au l,(i:Int),false,encS nt) else .inr (au l,(i:Int),false,encS nt))=some (.inr (.inl (au l,(i:Int),false,encS nt))):=by intro i nt b h1 h2;cases b<;>simp only[Em,aI,bH,M.kL,M.mO,Bool.not_false,dR,eU,aj,h1,h2]
 have hloop:∀i nt,∀b:Bool,i<=l.length->nt.length<=i->M.jv (bif b then .inl (au l,(i:Int),false,encS nt) else .inr (au l,(i:Int),false,encS nt))=some (.inl (au l,((nl l i nt).1:Int),false,encS (nl l i nt).2)):=by
  refine azZ (l:=l) (P:=λi nt=>∀b:Bool,i<=l.length->nt.length<=i->M.jv (bif b then .inl (au l,(i:Int),false,encS nt) else .inr (au l,(i:Int),false,encS nt))=some (.inl (au l,((nl l i nt).1:Int),false,encS (nl l i nt).2))) ?_ ?_ ?_
  ·intro i nt hk hlt ih b hi hn;rw[M.jv,bD (hstep i nt b hlt hk),SX,hk];exact ih false aB aB
  ·intro i nt hk hlt ih b hi hn;rw[M.jv,bD (hstep2 i nt b hlt hn hk),SX,hk];exact ih false aB (by rw[zT,y7];omega)
  ·intro i nt h1 h2 b hi hn;rw[M.jv,aO (amV i nt b h1 h2),SX,h1,h2];rfl
 have:=hloop i nt true hi hn;simp only[aI] at this;simp only[M.aN,M.uq,this,aj,iD,dR,aI]
def FT(i:Nat)(nt:iw):M.aN (au l) (i:Int) true (encS nt)=some (au l,(i:Int),true,encS nt):=by have:M.jv (.inl (au l,(i:Int),true,encS nt))=some (.inr (au l,(i:Int),true,encS nt)):=aO rfl;simp only[M.aN,M.uq,this,aj,iD,letE,dR,aI]
def alK(hl:l.length<=1048576)(i:Nat)(nt:iw)(hi:i<=l.length)(hn:nt.length<=i):
  M.bQ (au l) (i:Int) false (encS nt)=some (au l,((sep l i nt).1:Int),false,encS (sep l i nt).2):=by
 have hloop:∀n i nt,∀b:Bool,l.length - i<=n->i<=l.length->nt.length<=i->M.kM (bif b then .inl (au l,(i:Int),false,encS nt) else .inr (au l,(i:Int),false,encS nt))=some (au l,((sep l i nt).1:Int),false,encS (sep l i nt).2):=by
  intro n;induction n with
  |zero=>
   intro i nt b hk hi hn;have e:=amU (l:=l) i nt;have hf:=Bj (l:=l) (nt:=nt) hi;have hnl:=OB hl i nt hi hn;have e0:bC l (nl l i nt).1=0:=by rw[bC,List.getElem?_eq_none aB]
   rw[e0] at e;have e':sep l i nt=nl l i nt:=e;rw[e',M.kM];refine aO ?_;have h0:((0:Int) !=37)=true:=rfl;cases b<;>simp only[aI,bH,M.lq,M.jG,dR,hnl,aj,eU,e0,h0]
  |succ n ih=>
   intro i nt b hk hi hn;have e:=amU (l:=l) i nt;have hf:=Bj (l:=l) (nt:=nt) hi;have hnl:=OB hl i nt hi hn;rw[M.kM];cases h37:bC l (nl l i nt).1==37 with
   |true=>
    rw[h37,aI] at e;have hlt:=cO h37 (by decide);rw[e];have hb:M.lq (bif b then .inl (au l,(i:Int),false,encS nt) else .inr (au l,(i:Int),false,encS nt))=some (.inl (.inr (au l,(((nl l i nt).1+1:Nat):Int),false,encS (nl l i nt).2))):=by cases b<;>simp only[aI,bH,M.lq,M.jG,dR,hnl,aj,eU,bne,h37,zaM,mM hl hlt]
    rw[bD hb];exact ih _ _ false aB aB aB
   |false=>rw[h37,bH] at e;rw[e];refine aO ?_;cases b<;>simp only[aI,bH,M.lq,M.jG,dR,hnl,aj,eU,bne,h37,Bool.not_false]
 have:=hloop _ i nt true (zaN _) hi hn;simp only[aI] at this;simp only[M.bQ,M.qO,this,aj,dR,aI]
def ajr(i:Nat)(nt:iw):M.bQ (au l) (i:Int) true (encS nt)=some (au l,(i:Int),true,encS nt):=by
 have:M.kM (.inl (au l,(i:Int),true,encS nt))=some (au l,(i:Int),true,encS nt):=
  aO (by simp only[M.lq,M.jG,dR,aI,FT,aj])
 simp only[M.bQ,M.qO,this,aj,dR,aI]
def Bo(c1:Int)(b:Bool)(nt:iw)(hn:nt.length<=1048576):M.dV (au l) c1 b (encS nt)=some (true,dO true (Dq nt),au l,c1,b,encS []):=by
 have hloop:=og (b:=M.vg (nt.length:Int) (au l) c1 b (encS nt)) (t:=((nt.length:Int),dO true (Dq nt)))
  (λj=>((j:Int),dO true (Dq (nt.take j)))) nt.length
  (by
   intro j hj;obtain⟨t,ht⟩:∃t,nt[j]? =some t:=⟨nt[j],by simp⟩
   have h1:(encS nt)[j]? =some [D.str t]:=by simp[encS,ht]
   have h2:dO true (Dq (nt.take (j+1)))=dO true (Dq (nt.take j))++[[D.int .i64 34,D.int .i64 0,D.str t,D.str [],D.sl true 5 []]]:=by rw[sV ht,Dq,List.map_append,zq];rfl
   have h3:cStr [D.str t] 0=some t:=rfl;simp only[Em,M.vg,M.pR];rw[zdt aB,aI];simp only[dM,h1,aj,ztn,h3,dI,Bl,zlt,y7];rw[bK aB,aI,bK aB,aI,bT aB aB,h2];rfl)
  (by simp only[Em,M.vg,M.pR];rw[Bq aB,bH,List.take_length]) 0 (Nat.zero_le _)
 have Lp:M.yh (nt.length:Int) (au l) c1 b (encS nt) (0,[])=some ((nt.length:Int),dO true (Dq nt)):=hloop;simp only[M.dV,M.zk,lnS,Lp,aj];rfl
def aFm{s:aA}{a:Nat}(h:a<=s.length):cut s (a:Int) (s.length:Int)=some (s.drop a):=by rw[cut,zdt aB,zdt aB,zdt aB];simp[List.take_of_length_le]
def aCq(hl:l.length<=1048576)(i:Nat)(nt:iw)(hi:i<=l.length):M.lC (au l) (i:Int) false (encS nt)=some (ahead (l.drop i) 0,au l,(i:Int),false,encS nt):=by
 have hc:cut (au l) (i:Int) (l.length:Int)=some (au (l.drop i)):=by have:=aFm (s:=au l) (a:=i) (by simpa using hi);rw[dh] at this;rw[this];simp[au]
 have hloop:∀{β:Type} (F:(Int×Int)⊕Unit⊕(Int×Int)->Option β) (T:Bool->Option β),(∀a,F (.inl a)=T false)->(∀a,F (.inr (.inl a))=T true)->(∀a,F (.inr (.inr a))=T false)->
   ∀(r pre:List Tk) (d:Nat),d<=pre.length->(pre++r).length<=1048576->
   (M.nN (au (pre++r)) ((pre++r).length:Int) (au l) (i:Int) false (encS nt) ((d:Int),(pre.length:Int))).bind F=T (ahead r d):=by
  intro β F T f1 f2 f3 r;induction r with
  |nil=>
   intro pre d hd hlen;have hb:M.cZ (au (pre++[])) ((pre++[]).length:Int) (au l) (i:Int) false (encS nt) ((d:Int),(pre.length:Int))=some (.inr (.inr (.inr ((d:Int),(pre.length:Int))))):=by simp only[M.cZ,M.fH,List.append_nil];rw[Bq aB,bH]
   rw[M.nN,aO hb,aj,f3,ahead]
  |cons t r ih=>
   intro pre d hd hlen;have ht:(pre++t::r)[pre.length]? =some t:=by simp
   have hlen':pre.length+(r.length+1)<=1048576:=by rw[zT,zlc] at hlen;exact hlen
   have hnext:=ih (pre++[t]);rw[KW,List.singleton_append,zT,y7] at hnext;have w1:i64.wrap ((pre.length:Int)+1)=((pre.length+1:Nat):Int):=by rw[bT aB aB];omega
   have w2:i64.wrap ((d:Int)+1)=((d+1:Nat):Int):=by rw[bT aB aB];omega
   have w3:i64.wrap ((d:Int) - 1)=(d:Int) - 1:=bT aB aB;have hg:decide ((pre.length:Int)<((pre++t::r).length:Int))=true:=by rw[zdt];rw[zT,zlc];omega
   rw[ahead,M.nN];cases ho:Vg t.kind with
   |true=>
    have hb:M.cZ (au (pre++t::r)) ((pre++t::r).length:Int) (au l) (i:Int) false (encS nt) ((d:Int),(pre.length:Int))=some (.inl (((d+1:Nat):Int),((pre.length+1:Nat):Int))):=by simp only[M.cZ,M.fH,hg,aI,dM,fK,ht,Hg,aj,VJ,cT1,cT2,SV,ho,w1,w2];rw[Bq aB,bH]
    rw[bD hb,aI];have:=hnext (d+1) aB hlen;rw[show(((d+1:Nat):Int))=(d:Int)+1 by omega] at this;exact this
   |false=>
    rw[bH];cases hs:TB t.kind with
    |true=>
     rw[aI];cases hd1:decide ((d:Int) - 1<=0) with
     |true=>
      have hb:M.cZ (au (pre++t::r)) ((pre++t::r).length:Int) (au l) (i:Int) false (encS nt) ((d:Int),(pre.length:Int))=some (.inr (.inl ((d:Int) - 1,(pre.length:Int)))):=by simp only[M.cZ,M.fH,hg,aI,bH,dM,fK,ht,Hg,aj,VJ,cT1,cT2,SV,ho,Vh,hs,w3,hd1]
      rw[aO hb,aj,f1,aI]
     |false=>
      have hdd:1<d:=by have:=of_decide_eq_false hd1;omega
      have hb:M.cZ (au (pre++t::r)) ((pre++t::r).length:Int) (au l) (i:Int) false (encS nt) ((d:Int),(pre.length:Int))=some (.inl (((d - 1:Nat):Int),((pre.length+1:Nat):Int))):=by simp only[M.cZ,M.fH,hg,aI,bH,dM,fK,ht,Hg,aj,VJ,cT1,cT2,SV,ho,Vh,hs,w3,hd1,w1];rw[show((d:Int) - 1)=((d - 1:Nat):Int) by omega]
      rw[bD hb,bH];have:=hnext (d - 1) aB hlen;rw[show(((d - 1:Nat):Int))=(d:Int) - 1 by omega] at this|-;exact this
    |false=>
     rw[bH];cases hc:t.kind==36 with
     |true=>
      cases h1:(d:Int)==1 with
      |true=>
       have hb:M.cZ (au (pre++t::r)) ((pre++t::r).length:Int) (au l) (i:Int) false (encS nt) ((d:Int),(pre.length:Int))=some (.inr (.inr (.inl ()))):=by simp only[M.cZ,M.fH,hg,aI,bH,dM,fK,ht,Hg,aj,VJ,cT1,cT2,SV,ho,Vh,hs,hc,h1]
       rw[aO hb,aj,f2];rfl
      |false=>
       rw[Bool.and_false,bH];cases hd0:decide ((d:Int)<=0) with
       |true=>
        have hb:M.cZ (au (pre++t::r)) ((pre++t::r).length:Int) (au l) (i:Int) false (encS nt) ((d:Int),(pre.length:Int))=some (.inr (.inl ((d:Int),(pre.length:Int)))):=by simp only[M.cZ,M.fH,hg,aI,bH,dM,fK,ht,Hg,aj,VJ,cT1,cT2,SV,ho,Vh,hs,hc,h1,hd0]
        rw[aO hb,aj,f1,aI]
       |false=>
        have hb:M.cZ (au (pre++t::r)) ((pre++t::r).length:Int) (au l) (i:Int) false (encS nt) ((d:Int),(pre.length:Int))=some (.inl ((d:Int),((pre.length+1:Nat):Int))):=by simp only[M.cZ,M.fH,hg,aI,bH,dM,fK,ht,Hg,aj,VJ,cT1,cT2,SV,ho,Vh,hs,hc,h1,hd0,w1]
        rw[bD hb,bH];exact hnext d aB hlen
     |false=>
      rw[Bool.false_and,bH];cases hd0:decide ((d:Int)<=0) with
      |true=>
       have hb:M.cZ (au (pre++t::r)) ((pre++t::r).length:Int) (au l) (i:Int) false (encS nt) ((d:Int),(pre.length:Int))=some (.inr (.inl ((d:Int),(pre.length:Int)))):=by simp only[M.cZ,M.fH,hg,aI,bH,dM,fK,ht,Hg,aj,VJ,cT1,cT2,SV,ho,Vh,hs,hc,hd0]
       rw[aO hb,aj,f1,aI]
      |false=>
       have hb:M.cZ (au (pre++t::r)) ((pre++t::r).length:Int) (au l) (i:Int) false (encS nt) ((d:Int),(pre.length:Int))=some (.inl ((d:Int),((pre.length+1:Nat):Int))):=by simp only[M.cZ,M.fH,hg,aI,bH,dM,fK,ht,Hg,aj,VJ,cT1,cT2,SV,ho,Vh,hs,hc,hd0,w1]
       rw[bD hb,bH];exact hnext d aB hlen
 simp only[M.lC,M.yj,dh,hc,aj];have:=hloop (β:=Bool×aA×Int×Bool×aA) (λu=>iD u (λt=>bif ah (encS nt) then some (false,au l,(i:Int),false,encS nt) else none) λu=>
  iD u (λt=>bif ah (encS nt) then some (true,au l,(i:Int),false,encS nt) else none) λu=>letE u λt=>bif ah (encS nt) then some (false,au l,(i:Int),false,encS nt) else none)
  (λb=>some (b,au l,(i:Int),false,encS nt)) (λa=>by simp only[iD,dR,aI]) (λa=>by simp only[iD,dR,aI]) (λa=>by simp only[iD,letE,dR,aI]) (l.drop i) [] 0 (zaN _) (by simp;omega)
 simpa using this
def az0(l:List Nd)(o:Bool)(d:Int)(hl:l.length<=1048576)(hk:∀n,n∈l->n.kids.length<=1048576/\∀e,e∈n.kids-> -4000000000<=e+d/\e+d<=4000000000):
  M.tu (aV o l) d=some (aV true (l.map (Nd.up d))):=by
 simp only[M.tu,M.H7];have hloop:=og (b:=M.tZ (aV o l) d) (t:=((l.length:Int),aV true (l.map (Nd.up d)))) (λi=>((i:Int),aV true ((l.take i).map (Nd.up d)))) l.length
  (by
   intro i hi;obtain⟨n,hn⟩:∃n,l[i]? =some n:=⟨l[i],by simp[hi]⟩
   obtain⟨hkl,hke⟩:=hk n (zmg hn);have hin:=og (b:=M.tX (aV o l) d (i:Int) (aV true ((l.take i).map (Nd.up d))) n.kind n.op n.text n.other) (t:=((n.kids.length:Int),encI (n.kids.map (· +d)))) (λj=>((j:Int),encI ((n.kids.take j).map (· +d)))) n.kids.length
    (by
     intro j hj;obtain⟨e,he⟩:∃e,n.kids[j]? =some e:=⟨n.kids[j],by simp[hj]⟩
     have:=hke e (zmg he);simp only[Em,M.tX,M.tV,dM,zM,hn,Hg,aj,cN4,mg,JU,he,cI0,zaO,zlt,y7];rw[zdt aB,aI,bK aB,aI,bK aB,aI,bT aB aB,bT aB aB,sV he];simp[encI])
    (by simp only[Em,M.tX,M.tV,dM,zM,hn,Hg,aj,cN4,mg];rw[Bq aB,bH,List.take_length]) 0 (Nat.zero_le _)
   simp only[Zf,List.take_zero,List.map_nil] at hin;have hin':M.FZ (aV o l) d (i:Int) (aV true ((l.take i).map (Nd.up d))) n.kind n.op n.text n.other (0,[])=some ((n.kids.length:Int),encI (n.kids.map (· +d))):=hin;simp only[Em,M.tZ,M.tY,gG,dM,zM,hn,Hg,aj,cN0,cN1,cN2,cN3,cN4,hin',Ol,aI,zaO,zlt,y7];rw[zdt aB,aI,bK aB,aI,bK aB,aI,bT aB aB,sV hn,List.map_append,zo];rfl)
  (by simp only[Em,M.tZ,M.tY,gG];rw[Bq aB,bH,List.take_length]) 0 (Nat.zero_le _)
 simp only[Zf,List.take_zero,List.map_nil] at hloop;have Lp:M.F5 (aV o l) d (0,[])=some ((l.length:Int),aV true (l.map (Nd.up d))):=hloop;rw[Lp,aj]
def parts(ts:List Tn):aA:=ts.map λt=>[.sl false 5 (aV false (t.flat 0))]
def Dc(k op:Int)(x y:aP)(kr:aA)(ts:List Tn)(hs:sizes ts<=900000):M.aX k op x y kr (parts ts)=some (aV true ((Tn.mk k op x y ts).flat 0)):=by
 have htl:=zV ts;simp only[Em,M.aX,M.JW];have hpl:(parts ts).length=ts.length:=by simp[parts]
 have hloop:=og (b:=M.vT (parts ts) k op x y) (t:=((ts.length:Int),aV true (rP ts 0),encI (ends ts 0))) (λj=>((j:Int),aV true (rP (ts.take j) 0),encI (ends (ts.take j) 0))) ts.length
  (by
   intro j hj;obtain⟨t,ht⟩:∃t,ts[j]? =some t:=⟨ts[j],by simp[hj]⟩
   have hst:=RG ht;have hp:=t.size_pos;have hr:(parts ts)[j]? =some [.sl false 5 (aV false (t.flat 0))]:=by simp[parts,ht]
   have c0:cSl 5 [D.sl false 5 (aV false (t.flat 0))] 0=some (aV false (t.flat 0)):=rfl;have hfl:(aV true (rP (ts.take j) 0)).length=sizes (ts.take j):=by rw[gG,wS]
   have hsh:M.tu (aV false (t.flat 0)) ((sizes (ts.take j):Nat):Int)=some (aV true (t.flat (sizes (ts.take j)))):=by
    rw[az0 (t.flat 0) false _ (by rw[t.flat_length];omega) (λn hn=> ?_)]
    ·rw[t.asG 0 (sizes (ts.take j))];congr 4<;>omega
    ·obtain⟨h1,h2⟩:=QK t 0 n hn;refine⟨aB,λe he=> ?_⟩;have:=h2 e he;omega
   have hrl:(aV true (t.flat (sizes (ts.take j)))).length=t.size:=by rw[gG,t.flat_length]
   have hel:(encI (ends (ts.take j) 0)).length=j:=by rw[mg,Pn,zlt];omega
   simp only[Em,M.vT,M.vS,hpl,dM,hr,aj,c0,hfl,hsh,hrl,hel,zT,y7];rw[zdt aB,aI,bK aB,aI,bK aB,aI,bK aB,aI,bK aB,aI,bT aB aB,bT aB aB,ajl ht,alJ ht,zo,Nat.zero_add];simp[encI])
  (by simp only[Em,M.vT,M.vS,hpl];rw[Bq aB,bH,List.take_length]) 0 (Nat.zero_le _)
 have e0:aV true (rP (ts.take 0) 0)=[]:=rfl;have e1:encI (ends (ts.take 0) 0)=[]:=rfl;rw[Zf,e0,e1] at hloop;have Lp:M.Af (parts ts) k op x y (0,[],[])=some ((ts.length:Int),aV true (rP ts 0),encI (ends ts 0)):=hloop;rw[Lp,aj];simp only[Ol,aI,gG,wS,y7];rw[bK aB,aI,bK aB,aI,Tn.flat,zo];rfl
def aW(l:List Tk):ah (au l)=true:=by simp[ah,au,Vx,D.flat]
abbrev txt(ns:List Tk):iw:=ns.map Tk.text
def shK(d:Int)(n:Nd):Nd:={n with kids:=n.kids.map λe=>i64.wrap (e+d)}
def avQ(l:List Nd)(o:Bool)(d:Int)(hl:l.length<=1048576)(hk:∀n,n∈l->n.kids.length<=1048576):
  M.tu (aV o l) d=some (aV true (l.map (shK d))):=by
 simp only[M.tu,M.H7];have hloop:=og (b:=M.tZ (aV o l) d) (t:=((l.length:Int),aV true (l.map (shK d)))) (λi=>((i:Int),aV true ((l.take i).map (shK d)))) l.length
  (by
   intro i hi;obtain⟨n,hn⟩:∃n,l[i]? =some n:=⟨l[i],by simp[hi]⟩
   have hkl:=hk n (zmg hn);have hin:=og (b:=M.tX (aV o l) d (i:Int) (aV true ((l.take i).map (shK d))) n.kind n.op n.text n.other) (t:=((n.kids.length:Int),encI (n.kids.map λe=>i64.wrap (e+d)))) (λj=>((j:Int),encI ((n.kids.take j).map λe=>i64.wrap (e+d)))) n.kids.length
    (by
     intro j hj;obtain⟨e,he⟩:∃e,n.kids[j]? =some e:=⟨n.kids[j],by simp[hj]⟩
     simp only[Em,M.tX,M.tV,dM,zM,hn,Hg,aj,cN4,mg,JU,he,cI0,zaO,zlt,y7];rw[zdt aB,aI,bK aB,aI,bK aB,aI,bT (n:=(j:Int)+1) aB aB,sV he];simp[encI])
    (by simp only[Em,M.tX,M.tV,dM,zM,hn,Hg,aj,cN4,mg];rw[Bq aB,bH,List.take_length]) 0 (Nat.zero_le _)
   simp only[Zf,List.take_zero,List.map_nil] at hin;have hin':M.FZ (aV o l) d (i:Int) (aV true ((l.take i).map (shK d))) n.kind n.op n.text n.other (0,[])=some ((n.kids.length:Int),encI (n.kids.map λe=>i64.wrap (e+d))):=hin;simp only[Em,M.tZ,M.tY,gG,dM,zM,hn,Hg,aj,cN0,cN1,cN2,cN3,cN4,hin',Ol,aI,zaO,zlt,y7];rw[zdt aB,aI,bK aB,aI,bK aB,aI,bT aB aB,sV hn,List.map_append,zo];rfl)
  (by simp only[Em,M.tZ,M.tY,gG];rw[Bq aB,bH,List.take_length]) 0 (Nat.zero_le _)
 simp only[Zf,List.take_zero,List.map_nil] at hloop;have Lp:M.F5 (aV o l) d (0,[])=some ((l.length:Int),aV true (l.map (shK d))):=hloop;rw[Lp,aj]
def RB(R:List Nd)(b:Nat):Prop:=R.length<=b/\∀n,n∈R->n.kids.length<=100000
def RB.mono{R:List Nd}{a b:Nat}(h:RB R a)(hab:a<=b):RB R b:=⟨by have:=h.1;omega,h.2⟩
def RB.tree(t:Tn)(h:t.size<=100000):RB (t.flat 0) t.size:=⟨by rw[t.flat_length];omega,λn hn=>by have:=(QK t 0 n hn).1;omega⟩
def lens:List (List Nd)->Nat
 |[]=>0
 |R::P=>R.length+lens P
def qo(P:List (List Nd)):aA:=P.map λR=>[.sl false 5 (aV false R)]
def vG:∀a b:List (List Nd),lens (a++b)=lens a+lens b
 |[],b=>by simp[lens]
 |R::a,b=>by rw[zca,lens,lens,vG a b];omega
def apK(k op:Int)(x y:aP)(kr:aA)(P:List (List Nd))(hl:lens P<=100000)(hn:P.length<=100000)(hk:∀R,R∈P->∀n,n∈R->n.kids.length<=100000):
  ∃R',M.aX k op x y kr (qo P)=some (aV true R')/\R'.length=lens P+1/\∀n,n∈R'->n.kids.length<=100000:=by
 have hloop:∀(Q pre:List (List Nd)) (A:List Nd) (B:List Int),P=pre++Q->A.length=lens pre->B.length=pre.length->(∀n,n∈A->n.kids.length<=100000)->
   ∃A' B',M.Af (qo P) k op x y ((pre.length:Int),aV true A,encI B)=some ((P.length:Int),aV true A',encI B')/\A'.length=lens P/\B'.length=P.length/\∀n,n∈A'->n.kids.length<=100000:=by
  intro Q;induction Q with
  |nil=>intro pre A B hP hA hB hkA;rw[List.append_nil] at hP;subst hP;refine⟨A,B, ?_,hA,hB,hkA⟩;refine aO ?_;simp only[Em,M.vT,M.vS,show(qo P).length=P.length by simp[qo]];rw[Bq aB,bH]
  |cons R Q ih=>
   intro pre A B hP hA hB hkA;have hPl:P.length=pre.length+(Q.length+1):=by rw[hP,zT,zlc]
   have hPs:lens P=lens pre+(R.length+lens Q):=by rw[hP,vG,lens]
   have hR:R∈P:=by rw[hP];simp
   have hg:(qo P)[pre.length]? =some [.sl false 5 (aV false R)]:=by rw[qo,List.getElem?_map,hP];simp
   have c0:cSl 5 [D.sl false 5 (aV false R)] 0=some (aV false R):=rfl;have hsh:=avQ R false (A.length:Int) aB (λn hn=>by have:=hk R hR n hn;omega);have hb:M.vT (qo P) k op x y ((pre.length:Int),aV true A,encI B)=some (.inl (((pre++[R]).length:Int),aV true (A++R.map (shK (A.length:Int))),encI (B++[((A.length+R.length:Nat):Int) - 1]))):=by simp only[Em,M.vT,M.vS,show(qo P).length=P.length by simp[qo],dM,hg,aj,c0,gG,hsh,zaO,zT,mg,y7];rw[zdt aB,aI,bK aB,aI,bK aB,aI,bK aB,aI,bK aB,aI,bT aB aB,bT aB aB,zo];simp[encI]
   rw[M.Af,bD hb];refine ih (pre++[R]) _ _ (by rw[hP];simp) ?_ ?_ ?_
   ·rw[zT,zaO,hA,vG,lens,lens];omega
   ·rw[zT,zT,hB];rfl
   ·intro n hn;rcases List.mem_append.1 hn with hn|hn
    ·exact hkA n hn
    ·obtain⟨n',h1,rfl⟩:=List.mem_map.1 hn;simp only[shK,zaO];exact hk R hR n' h1
 obtain⟨A',B',h1,h2,h3,h4⟩:=hloop P [] [] [] rfl rfl rfl (λn hn=>by cases hn);have h1':M.Af (qo P) k op x y (0,[],[])=some ((P.length:Int),aV true A',encI B'):=h1;refine⟨A'++[⟨k,op,x,y,B'⟩], ?_,by rw[zT,y7,h2], ?_⟩
 ·simp only[Em,M.aX,M.JW,h1',aj,Ol,aI,gG,y7];rw[bK aB,aI,bK aB,aI,zo];rfl
 ·intro n hn;rcases List.mem_append.1 hn with hn|hn
  ·exact h4 n hn
  ·rw[List.mem_singleton] at hn;subst hn;show B'.length<=100000;omega
def uI(ts:List Tn):parts ts=qo (ts.map λt=>t.flat 0):=by simp[parts,qo]
variable {l:List Tk}
def gu(i:Nat)(b:Bool)(ns:List Tk):M.aK (au l) (i:Int) b (au ns)=some (bC l i,au l,(i:Int),b,au ns):=by
 simp only[M.aK,M.MG,dh,aW,aI,bC]
 by_cases h:i<l.length
 ·rw[Bq aB,bH];obtain⟨t,ht⟩:∃t,l[i]? =some t:=⟨l[i],by simp[h]⟩
  simp only[dM,fK,ht,Hg,aj,VJ]
 ·rw[zdt aB,aI,List.getElem?_eq_none aB]
def amW(hl:l.length<=3000){i:Nat}(h:i<l.length):i64.wrap ((i:Int)+1)=((i+1:Nat):Int):=by rw[bT aB aB];omega
def dN(l:List Tk)(i:Nat):Int:=match l[i]? with|some t=>t.at_|none=>0
def fB(hl:l.length<=3000){k:Int}{i:Nat}{ns:List Tk}(h:bC l i=k)(hk:k≠0):M.aG k (au l) (i:Int) false (au ns)=some (k,zK l i,dN l i,au l,((i+1:Nat):Int),false,au ns):=by
 have hlt:i<l.length:=dX (by rw[h];exact hk);obtain⟨t,ht⟩:∃t,l[i]? =some t:=⟨l[i],by simp[hlt]⟩
 have e1:t.kind=k:=by rw[bC,ht] at h;exact h
 have e:(bC l i==k)=true:=by rw[h];exact BEq.rfl
 simp only[M.aG,M.DW,aW,aI,bH,gu,aj,bne,e,zaM,dM,fK,ht,Hg,VJ,cT1,cT2,amW hl hlt,e1,zK,dN]
def sF{k:Int}{i:Nat}{ns:List Tk}(h:(bC l i==k)=false):M.aG k (au l) (i:Int) false (au ns)=some (0,[],0,au l,(i:Int),true,au ns):=by simp only[M.aG,M.DW,aW,aI,bH,gu,aj,bne,h,Bool.not_false]
def jO(k:Int)(i:Nat)(ns:List Tk):M.aG k (au l) (i:Int) true (au ns)=some (0,[],0,au l,(i:Int),true,au ns):=by simp only[M.aG,M.DW,aW,aI]
def amX(k:Int):M.qJ k=some (isStep k):=by simp only[M.qJ,M.KD,isStep];cases k==51<;>rfl
def aMv(k:Int):M.mW k=some (arL k):=by simp only[M.mW,M.Cm,arL];cases k==3<;>cases k==4<;>cases k==6<;>cases k==7<;>cases k==8<;>cases k==32<;>cases k==68<;>rfl
def amY(k:Int):M.oO k=some (Ei k):=by simp only[M.oO,M.KE,Ei];cases k==0<;>cases k==1<;>cases k==2<;>cases k==37<;>rfl
def amZ(k:Int):M.jo k=some (wO k):=by simp only[M.jo,M.Fa,wO];cases k==62<;>cases k==53<;>rfl
def Vj(k:Int):M.oZ k=some (Vg k):=by simp only[M.oZ,M.HY,Vg];cases k==32<;>cases k==34<;>cases k==30<;>rfl
def Vk(k:Int):M.nJ k=some (TB k):=by simp only[M.nJ,M.FX,TB];cases k==33<;>cases k==35<;>cases k==31<;>rfl
def aTf(k:Int):M.zA k=some (arE k):=by simp only[M.zA,M.KA,arE];cases k==1<;>cases k==5<;>rfl
def az1(t:Tn)(h:Bool)(hs:t.size<=100000):M.zB (aV false (t.flat 0)) h=some (!h && arE t.kind):=by
 have hp:=t.size_pos;have hsk:=t.aff;have hr:(t.flat 0)[t.size - 1]? =some ⟨t.kind,t.op,t.text,t.other,Go.Vm.ends t.kids 0⟩:=by have:=Lies.root' (Lies.whole t);rw[show t.size - 1=0+sizes t.kids by omega];exact this
 simp only[Em,M.zB,M.OU,M.EP,M.MH,gG,t.flat_length];cases h with
 |true=>rfl
 |false=>rw[show((t.size:Int)==0)=false by rw[zbn];omega,bT aB aB,show(t.size:Int) - 1=((t.size - 1:Nat):Int) by omega];simp only[bH,Bool.not_false,aI,dM,zM,hr,Hg,aj,cN0,cN1,cN2,cN3,cN4,aTf,Bool.true_and]
def Hf(hl:l.length<=3000)(i:Nat)(ns:List Tk)(hi:i<=l.length)(hn:ns.length<=i):
  ∃ns',txt ns'=(nl l i (txt ns)).2/\M.aT (au l) (i:Int) false (au ns)=some (au l,((nl l i (txt ns)).1:Int),false,au ns'):=by
 have hstep:∀i (ns:List Tk),(b:Bool)->i<l.length->bC l i=1->M.qY (bif b then .inl (au l,(i:Int),false,au ns) else .inr (au l,(i:Int),false,au ns))=some (.inl (.inr (au l,((i+1:Nat):Int),false,au ns))):=by intro i ns b hlt hk;have h12:((1:Int)==2)=false:=rfl;cases b<;>simp only[Em,aI,bH,M.qY,M.vP,Bool.not_false,aW,gu,aj,hk,amW hl hlt,BEq.rfl,h12]
 have hstep2:∀i (ns:List Tk),(b:Bool)->i<l.length->ns.length<=i->bC l i=2->∃t:Tk,t.text=zK l i/\M.qY (bif b then .inl (au l,(i:Int),false,au ns) else .inr (au l,(i:Int),false,au ns))=some (.inl (.inr (au l,((i+1:Nat):Int),false,au (ns++[t])))):=by
  intro i ns b hlt hni hk;obtain⟨t,ht⟩:∃t,l[i]? =some t:=⟨l[i],by simp[hlt]⟩
  have e2:zK l i=t.text:=by rw[zK,ht]
  have h21:((2:Int)==1)=false:=rfl;have hsn:au ns++[[D.int .i64 t.kind,D.str t.text,D.int .i64 t.at_]]=au (ns++[t]):=by simp[au,Vx]
  refine⟨t,e2.symm, ?_⟩;cases b<;>simp only[Em,aI,bH,M.qY,M.vP,Bool.not_false,aW,gu,aj,hk,h21,BEq.rfl,amW hl hlt,dM,fK,ht,Hg,VJ,cT1,cT2,hsn,dh,y7]<;>
   rw[bK aB,aI,bK aB,aI]
 have amV:∀i (ns:List Tk),(b:Bool)->(bC l i==1)=false->(bC l i==2)=false->M.qY (bif b then .inl (au l,(i:Int),false,au ns) else .inr (au l,(i:Int),false,au ns))=some (.inr (au l,(i:Int),false,au ns)):=by intro i ns b h1 h2;cases b<;>simp only[Em,aI,bH,M.qY,M.vP,Bool.not_false,aW,gu,aj,h1,h2]
 have hloop:∀(k i:Nat) (ns:List Tk) (b:Bool),l.length - i<=k->i<=l.length->ns.length<=i->∃ns',txt ns'=(nl l i (txt ns)).2/\M.pq (bif b then .inl (au l,(i:Int),false,au ns) else .inr (au l,(i:Int),false,au ns))=some (au l,((nl l i (txt ns)).1:Int),false,au ns'):=by
  intro k;induction k with
  |zero=>
   intro i ns b hk hi hn;have e:bC l i=0:=by rw[bC,List.getElem?_eq_none aB]
   have h1:(bC l i==1)=false:=by rw[e];rfl
   have h2:(bC l i==2)=false:=by rw[e];rfl
   refine⟨ns, ?_, ?_⟩
   ·rw[SX,h1,h2];rfl
   ·rw[M.pq,aO (amV i ns b h1 h2),SX,h1,h2];rfl
  |succ k ih=>
   intro i ns b hk hi hn;cases h1:bC l i==1 with
   |true=>
    have e:bC l i=1:=by rwa [beq_iff_eq] at h1
    have hlt:=cO h1 (by decide);obtain⟨ns',e1,e2⟩:=ih (i+1) ns false aB aB aB;refine⟨ns', ?_, ?_⟩
    ·rw[SX,h1];exact e1
    ·rw[M.pq,bD (hstep i ns b hlt e),SX,h1];exact e2
   |false=>
    cases h2:bC l i==2 with
    |true=>
     have e:bC l i=2:=by rwa [beq_iff_eq] at h2
     have hlt:=cO h2 (by decide);obtain⟨t,et,hb⟩:=hstep2 i ns b hlt hn e;obtain⟨ns',e1,e2⟩:=ih (i+1) (ns++[t]) false aB aB (by rw[zT,y7];omega);rw[show txt (ns++[t])=txt ns++[zK l i] by rw[<-et];simp[txt]] at e1 e2;refine⟨ns', ?_, ?_⟩
     ·rw[SX,h1,h2];exact e1
     ·rw[M.pq,bD hb,SX,h1,h2];exact e2
    |false=>
     refine⟨ns, ?_, ?_⟩
     ·rw[SX,h1,h2];rfl
     ·rw[M.pq,aO (amV i ns b h1 h2),SX,h1,h2];rfl
 obtain⟨ns',e1,e2⟩:=hloop _ i ns true (zaN _) hi hn;simp only[aI] at e2;refine⟨ns',e1, ?_⟩;simp only[M.aT,M.FY,e2,aj,aW,aI]
def IC(i:Nat)(ns:List Tk):M.aT (au l) (i:Int) true (au ns)=some (au l,(i:Int),true,au ns):=by have:M.pq (.inl (au l,(i:Int),true,au ns))=some (au l,(i:Int),true,au ns):=aO rfl;simp only[M.aT,M.FY,this,aj,aW,aI]
abbrev TX:=Bool×aA×Bool×aA×Int×Bool×aA
abbrev TY:=Bool×aA×aA×Int×Bool×aA
def AX(l:List Tk)(i:Nat)(o:Option TX):PR Xp->Prop
 | .ok x j nt=>∃fl rows ns,ak rows=aV false (x.1.flat 0)/\txt ns=nt/\o=some (fl,rows,x.2,au l,(j:Int),false,au ns)
 | .bad j=>∃fl rows hd ns R,i<=j/\j<=l.length/\ns.length<=l.length/\ak rows=aV false R/\RB R (3 * (j - i))/\o=some (fl,rows,hd,au l,(j:Int),true,au ns)
 | .out=>True
def AY(l:List Tk)(i:Nat)(o:Option TY):PR (List Tn)->Prop
 | .ok L j nt=>∃fl ns,txt ns=nt/\o=some (fl,parts L,au l,(j:Int),false,au ns)
 | .bad j=>∃fl ns P,i<=j/\j<=l.length/\ns.length<=l.length/\lens P<=3 * (j - i)/\P.length<=8/\(∀R,R∈P->∀n,n∈R->n.kids.length<=100000)/\o=some (fl,qo P,au l,(j:Int),true,au ns)
 | .out=>True
variable {l:List Tk}
def AX.elim{β γ:Type}{Q:Option β->PR γ->Prop}{i:Nat}{o:Option TX}{p:PR Xp}(h:AX l i o p){f:TX->Option β}{g:Xp->Nat->iw->PR γ}(hout:∀o,Q o .out)
  (hbad:∀fl rows hd j ns R,i<=j->j<=l.length->ns.length<=l.length->ak rows=aV false R->RB R (3 * (j - i))->Q (f (fl,rows,hd,au l,((j:Nat):Int),true,au ns)) (.bad j))
  (hok:∀x fl rows j ns,ak rows=aV false (x.1.flat 0)->p=.ok x j (txt ns)->Q (f (fl,rows,x.2,au l,(j:Int),false,au ns)) (g x j (txt ns))):Q (o.bind f) (p.bind g):=by
 cases p with
 |ok x j nt=>obtain⟨fl,rows,ns,h1,rfl,rfl⟩:=h;exact hok x fl rows j ns h1 rfl
 |bad j=>obtain⟨fl,rows,hd,ns,R,h1,h2,h3,h4,h5,rfl⟩:=h;exact hbad fl rows hd j ns R h1 h2 h3 h4 h5
 |out=>exact hout _
def AY.elim{β γ:Type}{Q:Option β->PR γ->Prop}{i:Nat}{o:Option TY}{p:PR (List Tn)}(h:AY l i o p){f:TY->Option β}{g:List Tn->Nat->iw->PR γ}(hout:∀o,Q o .out)
  (hbad:∀fl j ns P,i<=j->j<=l.length->ns.length<=l.length->lens P<=3 * (j - i)->P.length<=8->(∀R,R∈P->∀n,n∈R->n.kids.length<=100000)->Q (f (fl,qo P,au l,((j:Nat):Int),true,au ns)) (.bad j))
  (hok:∀L fl j ns,p=.ok L j (txt ns)->Q (f (fl,parts L,au l,(j:Int),false,au ns)) (g L j (txt ns))):Q (o.bind f) (p.bind g):=by
 cases p with
 |ok L j nt=>obtain⟨fl,ns,rfl,rfl⟩:=h;exact hok L fl j ns rfl
 |bad j=>obtain⟨fl,ns,P,h1,h2,h3,h4,h5,h6,rfl⟩:=h;exact hbad fl j ns P h1 h2 h3 h4 h5 h6
 |out=>exact hout _
def AX.mk{x:Xp}{i j:Nat}{fl hd:Bool}{rows:aA}{ns:List Tk}(h:ak rows=aV false (x.1.flat 0))(h':hd=x.2):AX l i (some (fl,rows,hd,au l,(j:Int),false,au ns)) (.ok x j (txt ns)):=by subst h';exact⟨_,_,_,h,rfl,rfl⟩
def AX.fC{i j:Nat}{fl hd:Bool}{rows:aA}{ns:List Tk}{R:List Nd}(h1:i<=j)(h2:j<=l.length)(h3:ns.length<=l.length)(h4:ak rows=aV false R)(h5:RB R (3 * (j - i))):AX l i (some (fl,rows,hd,au l,(j:Int),true,au ns)) (.bad j):=⟨_,_,_,_,_,h1,h2,h3,h4,h5,rfl⟩
def AX.pass{i i':Nat}{o:Option TX}{p:PR Xp}(h:AX l i o p)(hi:i'<=i){f:TX->Option TX}
  (hf:∀fl rows hd c1 b ns,f (fl,rows,hd,au l,c1,b,au ns)=some (false,ak rows,hd,au l,c1,b,au ns)):AX l i' (o.bind f) p:=by
 rw[<-PR.bind_ok p];refine AX.elim (Q:=AX l i') h (λ_=>trivial) (λfl rows hd j ns R h1 h2 h3 h4 h5=> ?_) (λx fl rows j ns hk _=> ?_)
 ·rw[hf];exact AX.fC aB h2 h3 (by rw[h4,aS]) (h5.mono aB)
 ·rw[hf];exact AX.mk (by rw[hk,aS]) rfl
def fzN{rows:aA}{R:List Nd}(h:ak rows=aV false R):ak (ak rows)=aV false R:=by rw[h,aS]
def zu(P:List (List Nd)):ak (qo P)=qo P:=by rw[qo,ajk,List.map_map];congr 1;funext R;simp[Hl,D.fz,aS]
def apL(k op:Int)(x y:aP)(kr:aA)(P:List (List Nd))(hl:lens P<=100000)(hn:P.length<=100000)(hk:∀R,R∈P->∀n,n∈R->n.kids.length<=100000):
  ∃R',M.dn k op x y kr (qo P)=some (false,aV false R',false)/\R'.length=lens P+1/\∀n,n∈R'->n.kids.length<=100000:=by
 obtain⟨R',h1,h2,h3⟩:=apK k op x y kr P hl hn hk;exact⟨R',by simp only[M.dn,M.H8,h1,aj,aS],h2,h3⟩
def afF(k op:Int)(x y:aP)(kr:aA)(ts:List Tn)(h:sizes ts<=100000):M.dn k op x y kr (qo (ts.map λt=>t.flat 0))=some (false,aV false ((Tn.mk k op x y ts).flat 0),false):=by have:=Dc k op x y kr ts aB;rw[uI] at this;simp only[M.dn,M.H8,this,aj,aS]
def aFo(k op:Int)(x y:aP)(kr:aA)(ts:List Tn){R:List Nd}{b:Nat}(hR:RB R b)(hs:sizes ts+b<=90000):
  ∃R',M.dn k op x y kr (qo ((ts.map λt=>t.flat 0)++[R]))=some (false,aV false R',false)/\RB R' (sizes ts+b+1):=by
 have hlen:∀ts:List Tn,lens (ts.map λt=>t.flat 0)=sizes ts:=by
  intro ts;induction ts with
  |nil=>rfl
  |cons t ts ih=>rw[zmc,lens,sizes,t.flat_length,ih]
 have hsl:=zV ts;obtain⟨R',h1,h2,h3⟩:=apL k op x y kr ((ts.map λt=>t.flat 0)++[R]) (by rw[vG,hlen,lens,lens];have:=hR.1;omega) (by rw[zT,zaO,y7];omega) (by
  intro Q hQ n hn;rcases List.mem_append.1 hQ with hQ|hQ
  ·obtain⟨t,ht,rfl⟩:=List.mem_map.1 hQ;have:=(QK t 0 n hn).1;have:=akL ht;omega
  ·rw[List.mem_singleton] at hQ;subst hQ;exact hR.2 n hn)
 refine⟨R',h1, ?_,h3⟩;rw[h2,vG,hlen,lens,lens];have:=hR.1;omega
def ag3(lv:Nat)(p:Int)(p1 a b p4:Bool)(i:Nat)(ns:List Tk)(h3:3<=lv)(h10:lv<=10):M.kK (lv:Int) p p1 a b p4 (au l) (i:Int) false (au ns)=some (Bg lv b (bC l i),au l,(i:Int),false,au ns):=by
 simp only[M.kK,M.MJ,aW,aI,bH,gu,aj,Bool.not_false,aMv,Bg];generalize bC l i=k;cases h8:Nat.beq lv 8 with
 |true=>have e:=Bv h8;subst e;rfl
 |false=>
  have e8:((lv:Int)==8)=false:=by have:=Nat.ne_of_beq_eq_false h8;rw[zbn];omega
  rw[e8,bH,bH];cases h0:k==0 with
  |true=>
   have e:k=0:=by rwa [beq_iff_eq] at h0
   subst e;have:(EH 0==(lv:Int))=false:=by rw[zbn];show(0:Int)≠lv;omega
   simp only[this,Bool.false_and,bne,BEq.rfl,zaM,bH]
  |false=>
   cases h99:k==99 with
   |true=>
    have e:k=99:=by rwa [beq_iff_eq] at h99
    subst e;have:(EH 99==(lv:Int))=false:=by have:=Nat.ne_of_beq_eq_false h8;rw[zbn];show(8:Int)≠lv;omega
    simp only[this,h0,Bool.false_and,bne,BEq.rfl,zaM,Bool.not_false,bH,aI]
   |false=>
    simp only[bne,h0,h99,Bool.not_false,aI,(OA _).2,aj];cases EH k==(lv:Int) with
    |false=>rfl
    |true=>cases k==62<;>cases b<;>rfl
def RJ{lv:Nat}{b:Bool}{k:Int}(h:Nat.beq lv 7=false):Bg lv b k=Bg lv (b && Nat.beq lv 7) k:=by
 rw[h,Bool.and_false];unfold Bg;cases h8:Nat.beq lv 8 with
 |true=>rfl
 |false=>
  simp only[bH,Bool.false_and,Bool.not_false,Bool.and_true];cases hk:k==62 with
  |false=>simp
  |true=>
   have e:k=62:=by rwa [beq_iff_eq] at hk
   subst e;have:(EH 62==(lv:Int))=false:=by have:=Nat.ne_of_beq_eq_false h;rw[zbn];show(7:Int)≠lv;omega
   rw[this];rfl
abbrev T7:=Int×aA×Int×Bool×aA×Bool×aA
def AZ(l:List Tk)(i:Nat)(o:Option T7):PR Xp->Prop
 | .ok x j nt=>∃cnt ns,txt ns=nt/\o=some (cnt,au l,(j:Int),false,aV false (x.1.flat 0),x.2,au ns)
 | .bad j=>∃cnt hd ns R,i<=j/\j<=l.length/\ns.length<=l.length/\RB R (3 * (j - i))/\o=some (cnt,au l,(j:Int),true,aV false R,hd,au ns)
 | .out=>True
def ZG(hl:l.length<=3000){bd:T7->Option (T7⊕T7)}{lv:Nat}{a b:Bool}{f:aA->Int->Bool->aA->Option TX}(h3:3<=lv)(h10:lv<=10)
  (hstop:∀(cnt:Nat) (i:Nat) rows hd ns,cnt<3000->bd ((cnt:Int),au l,(i:Int),true,rows,hd,au ns)=some (.inr ((cnt:Int),au l,(i:Int),true,rows,hd,au ns)))
  (hend:∀(cnt:Nat) (i:Nat) rows hd ns,cnt<3000->Bg lv (b && Nat.beq lv 7) (bC l i)=false->bd ((cnt:Int),au l,(i:Int),false,rows,hd,au ns)=some (.inr ((cnt:Int),au l,(i:Int),false,rows,hd,au ns)))
  (hop:∀(cnt:Nat) (i:Nat) rows hd ns,cnt<3000->Bg lv (b && Nat.beq lv 7) (bC l i)=true->i<l.length->ns.length<=i->
   ∃Qs,txt Qs=(bif Nat.beq lv 8 then(i,txt ns) else bif Nat.ble lv 4 then nl l (i+1) (txt ns) else(i+1,txt ns)).2/\
   bd ((cnt:Int),au l,(i:Int),false,rows,hd,au ns)=(f (au l) (((bif Nat.beq lv 8 then(i,txt ns) else bif Nat.ble lv 4 then nl l (i+1) (txt ns) else(i+1,txt ns)).1:Nat):Int) false (au Qs)).bind λr=>(M.dn 12 (bif Nat.beq lv 8 then 99 else bC l i) [] [] [] (ak [[D.sl false 5 rows],[D.sl false 5 (ak r.2.1)]])).bind λr'=>some (.inl (((cnt+1:Nat):Int),r.2.2.2.1,r.2.2.2.2.1,r.2.2.2.2.2.1,ak r'.2.1,r'.2.2,r.2.2.2.2.2.2))):
  ∀n,(∀n',n'<=n->∀i ns,i<=l.length->ns.length<=i->AX l i (f (au l) (i:Int) false (au ns)) (ex l n' (lv+1) a b i (txt ns)))->
   ∀(i0 cnt:Nat) (x:Xp) (i:Nat) (ns:List Tk),cnt<i->i0<i->i<=l.length->ns.length<=i->x.1.size+2 * i0+1<=2 * i->AZ l i0 (gV bd ((cnt:Int),au l,(i:Int),false,aV false (x.1.flat 0),x.2,au ns)) (chP l n lv a b x i (txt ns))
 |0,_,_,_,_,_,_,_,_,_,_,_=>by rw[chP];trivial
 |n+1,hrec,i0,cnt,x,i,ns,hcnt,hi0,hi,hn,hsx=>by
  rw[chP];cases hc:Bg lv (b && Nat.beq lv 7) (bC l i) with
  |false=>rw[aO (hend cnt i _ _ ns aB hc)];exact⟨_,ns,rfl,rfl⟩
  |true=>
   have hlt:=dX (Jt h3 hc);obtain⟨Qs,et,hq⟩:=hop cnt i (aV false (x.1.flat 0)) x.2 ns aB hc hlt hn;have hqb:FN l i (txt ns).length (bif Nat.beq lv 8 then(i,txt ns) else bif Nat.ble lv 4 then nl l (i+1) (txt ns) else(i+1,txt ns)).1 (bif Nat.beq lv 8 then(i,txt ns) else bif Nat.ble lv 4 then nl l (i+1) (txt ns) else(i+1,txt ns)).2.length:=by
    cases Nat.beq lv 8<;>cases Nat.ble lv 4<;>simp only[aI,bH]
    ·omega
    ·have:=Bj (l:=l) (i:=i+1) (nt:=txt ns) aB;omega
    ·omega
    ·omega
   simp only[aI];generalize (bif Nat.beq lv 8 then(i,txt ns) else bif Nat.ble lv 4 then nl l (i+1) (txt ns) else(i+1,txt ns))=q at hq hqb et|-;rw[<-et] at hqb|-;simp only[zaO] at hqb;have hr:=hrec n (Nat.le_succ n) q.1 Qs aB aB;have hs:=(sats l n).ex (lv+1) a b q.1 (txt Qs) aB aB aB;generalize ex l n (lv+1) a b q.1 (txt Qs)=p at hr hs|-;cases p with
   |ok y j m=>
    obtain⟨fl,rows,Ju,h1,rfl,h2⟩:=hr;have hs':FE l q.1 (txt Qs).length y.1.size j (txt Ju).length:=hs;simp only[zaO] at hs';have hp2:sizes [x.1,y.1]=x.1.size+y.1.size:=by simp only[sizes,Nat.add_zero]
    have ho:=afF 12 (bif Nat.beq lv 8 then 99 else bC l i) [] [] [] [x.1,y.1] aB;rw[h2,aj] at hq;simp only[h1,show ak [[D.sl false 5 (aV false (x.1.flat 0))],[D.sl false 5 (aV false (y.1.flat 0))]]=qo ([x.1,y.1].map λt=>t.flat 0) from zu [x.1.flat 0,y.1.flat 0],ho,aj,aS] at hq;rw[bD hq];exact ZG hl h3 h10 hstop hend hop n (λn' h=>hrec n' aB) i0 (cnt+1) (Tn.mk 12 (bif Nat.beq lv 8 then 99 else bC l i) [] [] [x.1,y.1],false) j Ju aB aB aB aB (by rw[size2];omega)
   |bad j=>
    obtain⟨fl,rows,hd,Ju,R,g1,g2,g3,g4,g5,h2⟩:=hr;have hp1:sizes [x.1]=x.1.size:=by simp only[sizes,Nat.add_zero]
    obtain⟨R',h5,h6⟩:=aFo 12 (bif Nat.beq lv 8 then 99 else bC l i) [] [] [] [x.1] g5 aB;rw[h2,aj] at hq;simp only[g4,show ak [[D.sl false 5 (aV false (x.1.flat 0))],[D.sl false 5 (aV false R)]]=qo (([x.1].map λt=>t.flat 0)++[R]) from zu [x.1.flat 0,R],h5,aj,aS] at hq;rw[bD hq];have hcn:j<=3000:=aB;exact⟨_,_,Ju,R',aB,g2,g3,h6.mono aB,aO (hstop (cnt+1) j _ _ Ju aB)⟩
   |out=>trivial
variable {l:List Tk}
def AP.BA{β:Type}{o:Option TP}{j:Nat}(h:AP l o (.bad j)){f:TP->Option β}{R:Option β->Prop}
  (hb:∀k op x y fl ks tg nt,nt.length<=l.length->R (f (k,op,x,y,fl,ks,tg,au l,(j:Int),true,encS nt))):R (o.bind f):=by
 obtain⟨k,op,x,y,fl,ks,tg,nt,h1,rfl⟩:=h;exact hb k op x y fl ks tg nt h1
def AP.fC{k op:Int}{x y:aP}{fl:Bool}{ks:aA}{tg:Bool}{j:Nat}{nt:iw}(hn:nt.length<=l.length):AP l (some (k,op,x,y,fl,ks,tg,au l,(j:Int),true,encS nt)) (.bad j):=⟨_,_,_,_,_,_,_,_,hn,rfl⟩
def AP.mk{x:Xp}{k op:Int}{s s':aP}{fl:Bool}{ks:aA}{tg:Bool}{j:Nat}{nt:iw}(h1:k=x.1.kind)(h2:op=x.1.op)(h3:s=x.1.text)(h4:s'=x.1.other)(h5:ak ks=dO false x.1.kids)(h6:tg=tgt x):
  AP l (some (k,op,s,s',fl,ks,tg,au l,(j:Int),false,encS nt)) (.ok x j nt):=by
 subst h1 h2 h3 h4 h6;exact⟨_,_,h5,rfl⟩
def fzT(x:Tn)(w:Bool)(ks:aA)(h:ak ks=dO false x.kids):Hl [.int .i64 x.kind,.int .i64 x.op,.str x.text,.str x.other,.sl w 5 ks]=x.row false:=by simp only[Hl,D.fz,h,arJ]
def fz1{x:Tn}{w:Bool}{ks:aA}(h:ak ks=dO false x.kids):ak [[.int .i64 x.kind,.int .i64 x.op,.str x.text,.str x.other,.sl w 5 ks]]=dO false [x]:=by rw[ak,fzT x w ks h];rfl
def fz2{x y:Tn}{w v:Bool}{ks kt:aA}(h:ak ks=dO false x.kids)(h':ak kt=dO false y.kids):
  ak [[.int .i64 x.kind,.int .i64 x.op,.str x.text,.str x.other,.sl w 5 ks],[.int .i64 y.kind,.int .i64 y.op,.str y.text,.str y.other,.sl v 5 kt]]=dO false [x,y]:=by
 rw[ak,fzT x w ks h,ak,fzT y v kt h'];rfl
def fz3{x y z:Tn}{w v u:Bool}{ks kt ku:aA}(h:ak ks=dO false x.kids)(h':ak kt=dO false y.kids)(h'':ak ku=dO false z.kids):
  ak [[.int .i64 x.kind,.int .i64 x.op,.str x.text,.str x.other,.sl w 5 ks],[.int .i64 y.kind,.int .i64 y.op,.str y.text,.str y.other,.sl v 5 kt],[.int .i64 z.kind,.int .i64 z.op,.str z.text,.str z.other,.sl u 5 ku]]=dO false [x,y,z]:=by
 rw[ak,fzT x w ks h,ak,fzT y v kt h',ak,fzT z u ku h''];rfl
def J8{ks:aA}{L:List Tn}(h:ak ks=dO false L):ak (ak ks)=dO false L:=by rw[h,iT]
abbrev T10:=aA×Int×Bool×Int×Int×aP×aP×aA×Bool×aA
def apM(m:Nat){i:Nat}{nt:iw}(hn:nt.length<=l.length):AP l (M.nT (m+1) (au l) (i:Int) true (encS nt)) (.bad i):=by rw[M.NZ];simp only[M.nR,aI,dR];exact AP.fC hn
def avR(m:Nat){i:Nat}{nt:iw}(hn:nt.length<=l.length):AP l (M.lH (m+2) (au l) (i:Int) true (encS nt)) (.bad i):=by rw[M.Qn];simp only[M.pW,aI,dR];exact AP.pass (apM m hn) (by intros;simp only[dR,aI])
def az2(m:Nat){i:Nat}{nt:iw}(hn:nt.length<=l.length):AP l (M.rJ (m+3) (au l) (i:Int) true (encS nt)) (.bad i):=by
 rw[M.Ru];simp only[M.rG,zaM,bH,aI,dR];refine AP.BA (R:=λo=>AP l o (.bad i)) (avR m hn) λk op x y fl ks tg nt hn=> ?_
 simp only[aI,dR];exact AP.fC hn
def aCr(m:Nat){a b:Bool}{i:Nat}{nt:iw}(hn:nt.length<=l.length):AP l (M.uH (m+4) a b (au l) (i:Int) true (encS nt)) (.bad i):=by
 rw[M.SB];simp only[M.uy,aI,dR];refine AP.BA (R:=λo=>AP l o (.bad i)) (az2 m hn) λk op x y fl ks tg nt hn=> ?_
 simp only[aI,dR];exact AP.fC hn
def avS(m:Nat){a b:Bool}{i:Nat}{nt:iw}(hn:nt.length<=l.length):AP l (M.jE (m+5) a b (au l) (i:Int) true (encS nt)) (.bad i):=by rw[M.Qo];simp only[M.pX,aI,dR,eU,aj];exact AP.pass (aCr m hn) (by intros;simp only[dR,aI])
def aCs(m:Nat){a b:Bool}{i:Nat}{nt:iw}(hn:nt.length<=l.length):AP l (M.qj (m+6) a b (au l) (i:Int) true (encS nt)) (.bad i):=by
 rw[M.SC];simp only[M.uz,aI,dR];refine AP.BA (R:=λo=>AP l o (.bad i)) (avS m hn) λk op x y fl ks tg nt hn=> ?_
 rw[show M.wz _ _ _ _ _ _ _ _ _=_ from aO rfl];simp only[aj,aI,dR];exact AP.fC hn
def aCt(m:Nat){a b:Bool}{i:Nat}{nt:iw}(hn:nt.length<=l.length):AP l (M.nY (m+7) a b (au l) (i:Int) true (encS nt)) (.bad i):=by
 rw[M.SE];simp only[M.uD,aI,dR];refine AP.BA (R:=λo=>AP l o (.bad i)) (aCs m hn) λk op x y fl ks tg nt hn=> ?_
 rw[show M.wB _ _ _ _ _ _ _ _ _=_ from aO rfl];simp only[aj,aI,dR];exact AP.fC hn
def aCu(m:Nat){a b:Bool}{i:Nat}{nt:iw}(hn:nt.length<=l.length):AP l (M.ql (m+8) a b (au l) (i:Int) true (encS nt)) (.bad i):=by
 rw[M.SG];simp only[M.uF,aI,dR];refine AP.BA (R:=λo=>AP l o (.bad i)) (aCt m hn) λk op x y fl ks tg nt hn=> ?_
 rw[show M.wC _ _ _ _ _ _ _ _ _=_ from aO rfl];simp only[aj,aI,dR];exact AP.fC hn
def apN(m:Nat){a b:Bool}{i:Nat}{nt:iw}(hn:nt.length<=l.length):AP l (M.lD (m+9) a b (au l) (i:Int) true (encS nt)) (.bad i):=by
 rw[M.N7];simp only[M.nS,aI,dR];refine AP.BA (R:=λo=>AP l o (.bad i)) (aCu m hn) λk op x y fl ks tg nt hn=> ?_
 simp only[aI,dR];exact AP.fC hn
def avT(m:Nat){a b:Bool}{i:Nat}{nt:iw}(hn:nt.length<=l.length):AP l (M.jF (m+10) a b (au l) (i:Int) true (encS nt)) (.bad i):=by
 rw[M.Qp];simp only[M.qg,aI,dR];refine AP.BA (R:=λo=>AP l o (.bad i)) (apN m hn) λk op x y fl ks tg nt hn=> ?_
 simp only[aI,dR];exact AP.fC hn
def aFp(m:Nat){a b:Bool}{i:Nat}{nt:iw}(hn:nt.length<=l.length):AP l (M.rY (m+11) a b (au l) (i:Int) true (encS nt)) (.bad i):=by
 rw[M.Um];simp only[M.wE,zaM,bH,aI,dR];refine AP.BA (R:=λo=>AP l o (.bad i)) (avT m hn) λk op x y fl ks tg nt hn=> ?_
 rw[show M.gq _ _ _=_ from aO rfl];simp only[aj,aI,dR,iD,letE];exact AP.fC hn
def aCv(m:Nat){a b:Bool}{i:Nat}{nt:iw}(hn:nt.length<=l.length):AP l (M.qm (m+12) a b (au l) (i:Int) true (encS nt)) (.bad i):=by
 rw[M.SH];simp only[M.uG,aI,dR];refine AP.BA (R:=λo=>AP l o (.bad i)) (aFp m hn) λk op x y fl ks tg nt hn=> ?_
 rw[show M.wF _ _ _ _ _ _ _ _ _=_ from aO rfl];simp only[aj,aI,dR];exact AP.fC hn
def aFq(m:Nat){a b:Bool}{i:Nat}{nt:iw}(hn:nt.length<=l.length):AP l (M.wH (m+13) a b (au l) (i:Int) true (encS nt)) (.bad i):=by
 rw[M.Un];simp only[M.wG,aI,dR];refine AP.BA (R:=λo=>AP l o (.bad i)) (aCv m hn) λk op x y fl ks tg nt hn=> ?_
 rw[show M.yt _ _ _ _ _ _ _ _ _=_ from aO rfl];simp only[aj,aI,dR];exact AP.fC hn
def az3(m:Nat){a b:Bool}{i:Nat}{nt:iw}(hn:nt.length<=l.length):AP l (M.oM (m+14) a b (au l) (i:Int) true (encS nt)) (.bad i):=by
 rw[M.Rw];simp only[M.rH,aI,dR];refine AP.BA (R:=λo=>AP l o (.bad i)) (aFq m hn) λk op x y fl ks tg nt hn=> ?_
 simp only[aI,dR];exact AP.fC hn
def arS(m:Nat){a b:Bool}{i:Nat}{nt:iw}(hn:nt.length<=l.length):AP l (M.gX (m+15) a b (au l) (i:Int) true (encS nt)) (.bad i):=by
 rw[M.Pz];simp only[M.oK,aI,dR];refine AP.BA (R:=λo=>AP l o (.bad i)) (az3 m hn) λk op x y fl ks tg nt hn=> ?_
 simp only[aI,dR];exact AP.fC hn
def AC(l:List Tk)(o:Option T10):PR Xp->Prop
 | .ok x j nt=>∃ks,ak ks=dO false x.1.kids/\o=some (au l,(j:Int),false,x.1.kind,x.1.op,x.1.text,x.1.other,ks,tgt x,encS nt)
 | .bad j=>∃k op x y ks tg nt,nt.length<=l.length/\o=some (au l,(j:Int),true,k,op,x,y,ks,tg,encS nt)
 | .out=>True
def AC.elim{o:Option T10}{p:PR Xp}(h:AC l o p){f:T10->Option TP}
  (hf:∀c1 b k op x y ks tg nt,f (au l,c1,b,k,op,x,y,ks,tg,encS nt)=some (k,op,x,y,false,ks,tg,au l,c1,b,encS nt)):AP l (o.bind f) p:=by
 cases p with
 |ok x j nt=>obtain⟨ks,h1,rfl⟩:=h;rw[aj,hf];exact AP.mk rfl rfl rfl rfl h1 rfl
 |bad j=>obtain⟨k,op,x,y,ks,tg,nt,h1,rfl⟩:=h;rw[aj,hf];exact AP.fC h1
 |out=>trivial
def OC(hl:l.length<=1048576){bd:T10->Option (T10⊕T10)}{lv:Nat}{a b:Bool}{rec:Bool->Bool->aA->Int->Bool->aA->Option TP}(h3:3<=lv)(h10:lv<=10)
  (hstop:∀(i:Nat) k op x y ks tg nt,bd (au l,(i:Int),true,k,op,x,y,ks,tg,encS nt)=some (.inr (au l,(i:Int),true,k,op,x,y,ks,tg,encS nt)))
  (hend:∀(i:Nat) k op x y ks tg nt,Bg lv (b && Nat.beq lv 7) (bC l i)=false->bd (au l,(i:Int),false,k,op,x,y,ks,tg,encS nt)=some (.inr (au l,(i:Int),false,k,op,x,y,ks,tg,encS nt)))
  (hop:∀(i:Nat) k op x y ks tg nt,Bg lv (b && Nat.beq lv 7) (bC l i)=true->i<l.length->nt.length<=i->bd (au l,(i:Int),false,k,op,x,y,ks,tg,encS nt)=
   (rec a b (au l) (((bif Nat.beq lv 8 then(i,nt) else bif Nat.ble lv 4 then nl l (i+1) nt else(i+1,nt)).1:Nat):Int) false (encS (bif Nat.beq lv 8 then(i,nt) else bif Nat.ble lv 4 then nl l (i+1) nt else(i+1,nt)).2)).bind λr=>
    some (.inl (r.2.2.2.2.2.2.2.1,r.2.2.2.2.2.2.2.2.1,r.2.2.2.2.2.2.2.2.2.1,12,(bif Nat.beq lv 8 then 99 else bC l i),[],[],
     ak [[D.int .i64 k,D.int .i64 op,D.str x,D.str y,D.sl false 5 ks],[D.int .i64 r.1,D.int .i64 r.2.1,D.str r.2.2.1,D.str r.2.2.2.1,D.sl false 5 (ak r.2.2.2.2.2.1)]],false,r.2.2.2.2.2.2.2.2.2.2))):
  ∀n,(∀n',n'<=n->∀i nt,i<=l.length->nt.length<=i->AP l (rec a b (au l) (i:Int) false (encS nt)) (ex l n' (lv+1) a b i nt))->
   ∀x i nt ks,i<=l.length->nt.length<=i->ak ks=dO false x.1.kids->AC l (gV bd (au l,(i:Int),false,x.1.kind,x.1.op,x.1.text,x.1.other,ks,tgt x,encS nt)) (chP l n lv a b x i nt)
 |0,_,_,_,_,_,_,_,_=>by rw[chP];trivial
 |n+1,hrec,x,i,nt,ks,hi,hn,hk=>by
  rw[chP];cases hc:Bg lv (b && Nat.beq lv 7) (bC l i) with
  |false=>rw[aO (hend i _ _ _ _ _ _ nt hc)];exact⟨ks,hk,rfl⟩
  |true=>
   have hlt:=dX (Jt h3 hc);have hq:=hop i x.1.kind x.1.op x.1.text x.1.other ks (tgt x) nt hc hlt hn;have hqb:FN l i nt.length (bif Nat.beq lv 8 then(i,nt) else bif Nat.ble lv 4 then nl l (i+1) nt else(i+1,nt)).1 (bif Nat.beq lv 8 then(i,nt) else bif Nat.ble lv 4 then nl l (i+1) nt else(i+1,nt)).2.length:=by
    cases Nat.beq lv 8<;>cases Nat.ble lv 4<;>simp only[aI,bH]
    ·omega
    ·have:=Bj (l:=l) (i:=i+1) (nt:=nt) aB;omega
    ·omega
    ·omega
   simp only[aI];generalize (bif Nat.beq lv 8 then(i,nt) else bif Nat.ble lv 4 then nl l (i+1) nt else(i+1,nt))=q at hq hqb|-;have hr:=hrec n (Nat.le_succ n) q.1 q.2 aB aB;have hs:=(sats l n).ex (lv+1) a b q.1 q.2 aB aB aB;generalize ex l n (lv+1) a b q.1 q.2=p at hr hs|-;cases p with
   |ok y j m=>obtain⟨fl,kt,h1,h2⟩:=hr;have hs':FE l q.1 q.2.length y.1.size j m.length:=hs;rw[h2,aj] at hq;rw[bD hq];exact OC hl h3 h10 hstop hend hop n (λn' h=>hrec n' aB) (Tn.mk 12 (bif Nat.beq lv 8 then 99 else bC l i) [] [] [x.1,y.1],false) j m _ aB aB (by rw[fz2 hk (J8 h1),iT];rfl)
   |bad j=>obtain⟨k,op,x',y',fl,kt,tg,m,h1,h2⟩:=hr;rw[h2,aj] at hq;rw[bD hq,aO (hstop j _ _ _ _ _ _ m)];exact⟨_,_,_,_,_,_,_,h1,rfl⟩
   |out=>trivial
end Go.Proofs.YtoaeipkhadpbiaaGreatDoor
