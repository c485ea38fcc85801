import Derived.Test.YthmchnpcplgciaaGreatDoorXGap
set_option linter.defProp false
set_option linter.unusedVariables false
set_option linter.unusedSimpArgs false
set_option linter.unusedSectionVars false
open Go.IntKind (i64)
namespace Go.Proofs.YthmchnpcplgciaaGreatDoor
open Go Go.Vm
open Int (reduceLE)
inductive PR(α:Type) where
 |ok (a:α) (i:Nat) (nt:List (aI))
 |bad (i:Nat)
 |out
def PR.bind{α β:Type}(x:PR α)(f:α->Nat->List (aI)->PR β):PR β:=match x with
 | .ok a i nt=>f a i nt
 | .bad i=> .bad i
 | .out=> .out
abbrev kH:=List (aI)
def aO(l:List Tk)(i:Nat):Int:=match l[i]? with|some t=>t.kind|none=>0
def xB(l:List Tk)(i:Nat):aI:=match l[i]? with|some t=>t.text|none=>[]
def qH(l:List Tk)(k:Int)(i:Nat)(nt:kH):PR Unit:=bif aO l i==k then .ok () (i+1) nt else .bad i
def nameP(l:List Tk)(i:Nat)(nt:kH):PR (aI):=bif aO l i==6 then .ok (xB l i) (i+1) nt else .bad i
def nlR:List Tk->Nat->kH->Nat×kH
 |[],i,nt=>(i,nt)
 |t::r,i,nt=>bif t.kind==1 then nlR r (i+1) nt else bif t.kind==2 then nlR r (i+1) (nt++[t.text]) else(i,nt)
def nl(l:List Tk)(i:Nat)(nt:kH):Nat×kH:=nlR (l.drop i) i nt
def auF:List Tk->Nat->kH->Nat×kH
 |[],i,nt=>(i,nt)
 |t::r,i,nt=>bif t.kind==1||t.kind==37 then auF r (i+1) nt else bif t.kind==2 then auF r (i+1) (nt++[t.text]) else(i,nt)
def sep(l:List Tk)(i:Nat)(nt:kH):Nat×kH:=auF (l.drop i) i nt
def JE(k:Int):Bool:=k==32||(k==34||k==30)
def KR(k:Int):Bool:=k==33||(k==35||k==31)
def ahead:List Tk->Int->Bool
 |[],_=>false
 |t::r,d=>bif JE t.kind then ahead r (d+1) else bif KR t.kind then(bif decide (d - 1<=0) then false else ahead r (d - 1)) else
   bif t.kind==36 && d==1 then true else bif decide (d<=0) then false else ahead r d
def isStep(k:Int):Bool:=k==51||k==52
def O9(k:Int):Bool:=k==3||(k==4||(k==6||(k==7||(k==8||(k==32||k==68)))))
abbrev Xp:=Tn×Bool
def tgt(x:Xp):Bool:= !x.2 && Ee x.1.kind
def SG(k:Int)(l:List Tk)(i:Nat)(nt:kH):PR Xp:=.ok (.mk k 0 (xB l i) [] [],false) (i+1) nt
def oN(lv:Nat)(b:Bool)(k:Int):Bool:=bif Nat.beq lv 8 then O9 k else dP k==(lv:Int) && !(b && k==62)
mutual
def ex(l:List Tk):Nat->Nat->Bool->Bool->Nat->kH->PR Xp
 |0,_,_,_,_,_=> .out
 |n+1,lv,a,b,i,nt=>match lv with
  |1=>(ex l n 2 a b i nt).bind λx i nt=>bif tgt x && F7 (aO l i) then(ex l n 1 a b (i+1) nt).bind λy j nt=> .ok (.mk 15 (aO l i) [] [] [x.1,y.1],false) j nt else .ok x i nt
  |2=>(ex l n 3 a b i nt).bind λx i nt=>bif aO l i==65 then(ex l n 2 a b (i+1) nt).bind λy i nt=>(qH l 66 i nt).bind λ_ i nt=>(ex l n 2 a b i nt).bind λz i nt=>.ok (.mk 14 0 [] [] [x.1,y.1,z.1],false) i nt else .ok x i nt
  |3=>(ex l n 4 a b i nt).bind λx i nt=>UK l n 3 a b x i nt
  |4=>(ex l n 5 a b i nt).bind λx i nt=>UK l n 4 a b x i nt
  |5=>bif(aO l i==32 && !a) && ahead (l.drop i) 0 then
    (Bv l n 33 (i+1) nt).bind λL i nt=>(qH l 24 i nt).bind λ_ i nt=>(nameP l i nt).bind λs i nt=>TQ l n a (.mk 13 0 s [] L,false) i nt
   else(ex l n 6 a b i nt).bind λx i nt=>TQ l n a x i nt
  |6=>(ex l n 7 a b i nt).bind λx i nt=>bif aO l i==67||aO l i==46 then(ex l n 7 a b (i+1) nt).bind λy j nt=> .ok (.mk 12 (aO l i) [] [] [x.1,y.1],false) j nt else .ok x i nt
  |7=>(ex l n 8 a b i nt).bind λx i nt=>bif oN 7 b (aO l i) then(ex l n 8 a b (i+1) nt).bind λy j nt=> .ok (.mk 12 (aO l i) [] [] [x.1,y.1],false) j nt else .ok x i nt
  |8=>(ex l n 9 a b i nt).bind λx i nt=>UK l n 8 a b x i nt
  |9=>(ex l n 10 a b i nt).bind λx i nt=>UK l n 9 a b x i nt
  |10=>(ex l n 11 a b i nt).bind λx i nt=>UK l n 10 a b x i nt
  |11=>bif aO l i==55||(aO l i==56||aO l i==61) then(ex l n 11 a b (i+1) nt).bind λx j nt=> .ok (.mk 11 (aO l i) [] [] [x.1],false) j nt
   else ex l n 12 a b i nt
  |12=>(ex l n 13 a b i nt).bind λx i nt=>bif aO l i==60 then(ex l n 11 a b (i+1) nt).bind λy j nt=> .ok (.mk 12 60 [] [] [x.1,y.1],false) j nt else .ok x i nt
  |13=>bif isStep (aO l i) then I8 l n i nt else(ex l n 14 a b i nt).bind λx i nt=>bif tgt x && isStep (aO l i) then .ok (.mk 10 (aO l i) [] [] [x.1],false) (i+1) nt else .ok x i nt
  |14=>bif aO l i==68 then
    (bif isStep (aO l (i+1)) then I8 l n (i+1) nt else ex l n 14 a b (i+1) nt).bind λx i nt=> .ok (.mk 6 0 [] [] [x.1],false) i nt
   else ex l n 15 a b i nt
  |_=>bif aO l i==3 then SG 2 l i nt else bif aO l i==4 then SG 3 l i nt else bif aO l i==5 then SG 4 l i nt else
   bif aO l i==6 then
    (bif aO l (i+1)==34 then(Po l n false false [] (i+2) nt).bind λL j nt=>(qH l 35 j nt).bind λ_ j nt=> .ok (.mk 5 0 (xB l i) [] L,false) j nt
     else SG 1 l i nt) else
   bif aO l i==7||aO l i==8 then
    (bif aO l i==8 &&(xB l i==[108,101,110,103,116,104] && !(aO l (i+1)==32)) then SG 8 l i nt else
     (qH l 32 (i+1) nt).bind λ_ j nt=>(Bv l n 33 j nt).bind λL j nt=> .ok (.mk (aO l i) 0 (xB l i) [] L,false) j nt) else
   bif aO l i==32 then(ex l n 1 false false (i+1) nt).bind λx i nt=>(qH l 33 i nt).bind λ_ i nt=> .ok (x.1,true) i nt else .bad i
def UK(l:List Tk):Nat->Nat->Bool->Bool->Xp->Nat->kH->PR Xp
 |0,_,_,_,_,_,_=> .out
 |n+1,lv,a,b,x,i,nt=>bif oN lv (b && Nat.beq lv 7) (aO l i) then
   (let op:=bif Nat.beq lv 8 then 99 else aO l i
    let q:=bif Nat.beq lv 8 then(i,nt) else bif Nat.ble lv 4 then nl l (i+1) nt else(i+1,nt)
    (ex l n (lv+1) a b q.1 q.2).bind λy i nt=>UK l n lv a b (.mk 12 op [] [] [x.1,y.1],false) i nt)
  else .ok x i nt
def TQ(l:List Tk):Nat->Bool->Xp->Nat->kH->PR Xp
 |0,_,_,_,_=> .out
 |n+1,a,x,i,nt=>bif aO l i==24 && !a then(nameP l (i+1) nt).bind λs i nt=>TQ l n a (.mk 13 0 s [] [x.1],false) i nt else .ok x i nt
def I8(l:List Tk):Nat->Nat->kH->PR Xp
 |0,_,_=> .out
 |n+1,i,nt=>bif aO l (i+1)==68||aO l (i+1)==6 then(ex l n 14 false false (i+1) nt).bind λx j nt=> .ok (.mk 9 (aO l i) [] [] [x.1],false) j nt else .bad (i+1)
def Bv(l:List Tk):Nat->Int->Nat->kH->PR (List Tn)
 |0,_,_,_=> .out
 |n+1,e,i,nt=>bif aO l i==e then .ok [] (i+1) nt else(Po l n false false [] i nt).bind λL i nt=>(qH l e i nt).bind λ_ i nt=> .ok L i nt
def Po(l:List Tk):Nat->Bool->Bool->List Tn->Nat->kH->PR (List Tn)
 |0,_,_,_,_,_=> .out
 |n+1,a,b,L,i,nt=>(ex l n 1 a b i nt).bind λx i nt=>bif aO l i==36 then(bif Nat.beq (L.length+1) 6 then .bad i else Po l n a b (L++[x.1]) (nl l (i+1) nt).1 (nl l (i+1) nt).2) else .ok (L++[x.1]) i nt
end
def PR.sat{α:Type}(P:α->Nat->kH->Prop)(x:PR α):Prop:=match x with
 | .ok a i nt=>P a i nt
 |_=>True
def PR.tot{α:Type}(P:α->Nat->kH->Prop)(x:PR α):Prop:=match x with
 | .ok a i nt=>P a i nt
 | .bad _=>True
 | .out=>False
section
variable {α β:Type} {P Q:α->Nat->kH->Prop} {R:β->Nat->kH->Prop} {x y:PR α} {f:α->Nat->kH->PR β} {c:Bool}
def rW:(x.bind f).tot R↔x.tot λa i nt=>(f a i nt).tot R:=by cases x<;>exact Iff.rfl
def fE(h:x.tot P)(k:∀a i nt,P a i nt->Q a i nt):x.tot Q:=by
 cases x with
 |ok a i nt=>exact k a i nt h
 |bad _=>trivial
 |out=>exact h
def pV:(bif c then x else y).tot P↔(c=true->x.tot P)/\(c=false->y.tot P):=by cases c<;>simp
end
variable {l:List Tk}
def eF{i:Nat}(h:aO l i≠0):i<l.length:=by
 unfold aO at h;cases hq:l[i]? with
 |none=>rw[hq] at h;exact absurd rfl h
 |some t=>exact(Qm.1 hq).1
def WE{P:Unit->Nat->kH->Prop}{k:Int}{i:Nat}{nt:kH}:(qH l k i nt).tot P↔(aO l i=k->P () (i+1) nt):=by unfold qH;rw[pV];simp[PR.tot]
def apK{P:aI->Nat->kH->Prop}{i:Nat}{nt:kH}:(nameP l i nt).tot P↔(aO l i=6->P (xB l i) (i+1) nt):=by unfold nameP;rw[pV];simp[PR.tot]
def amI:∀(r:List Tk) (i:Nat) (nt:kH),i<=(nlR r i nt).1
 |[],i,nt=>by rw[nlR];exact zba _
 |t::r,i,nt=>by
  rw[nlR];cases t.kind==1<;>cases t.kind==2<;>simp only[aJ,aW]
  ·exact zba _
  ·have:=amI r (i+1) (nt++[t.text]);omega
  ·have:=amI r (i+1) nt;omega
  ·have:=amI r (i+1) nt;omega
def apL(i:Nat)(nt:kH):i<=(nl l i nt).1:=amI _ _ _
structure Ends(l:List Tk)(n:Nat):Prop where
 ex:∀lv a b i nt,1<=lv->lv<=15->40 * (l.length - i)+(2 * (16 - lv)+2)<=n->(ex l n lv a b i nt).tot λ_ j _=>i<j
 ch:∀lv a b x i nt,3<=lv->lv<=10->40 * (l.length - i)+(2 * (16 - lv)+1)<=n->(UK l n lv a b x i nt).tot λ_ j _=>i<=j
 inp:∀a x i nt,40 * (l.length - i)+1<=n->(TQ l n a x i nt).tot λ_ j _=>i<=j
 pre:∀i nt,i<l.length->40 * (l.length - i)+1<=n->(I8 l n i nt).tot λ_ j _=>i<j
 lst:∀e i nt,e≠0->40 * (l.length - i)+36<=n->(Bv l n e i nt).tot λ_ j _=>i<j
 it:∀a b L i nt,40 * (l.length - i)+35<=n->(Po l n a b L i nt).tot λ_ j _=>i<j
def aeg{k:Int}(h:F7 k=true):k≠0:=by rintro rfl;exact absurd h (by decide)
def xC{k:Int}(h:isStep k=true):k≠0:=by rintro rfl;exact absurd h (by decide)
def GR{lv:Nat}{b:Bool}{k:Int}(h3:3<=lv)(h:oN lv b k=true):k≠0:=by
 rintro rfl;unfold oN at h;cases hb:Nat.beq lv 8 with
 |true=>rw[hb,aJ] at h;exact absurd h (by decide)
 |false=>
  rw[hb,aW,wo] at h;have h1:(0:Int)=(lv:Int):=by simpa[dP] using h.1
  omega
section
variable {n:Nat} (h:Ends l n)
include h
theorem aCI(lv:Nat)(a b:Bool)(i:Nat)(nt:kH)(h1:1<=lv)(h2:lv<=15)(hn:40 * (l.length - i)+(2 * (16 - lv)+2)<=n+1):(ex l (n+1) lv a b i nt).tot λ_ j _=>i<j:=by
 have hlt:∀{j:Nat} {k:Int},(aO l j==k)=true->k≠0->j<l.length:=λe hk=>eF (by rw[beq_iff_eq] at e;rw[e];exact hk)
 have hc:lv=1\/lv=2\/lv=3\/lv=4\/lv=5\/lv=6\/lv=7\/lv=8\/lv=9\/lv=10\/lv=11\/lv=12\/lv=13\/lv=14\/lv=15:=ak;rcases hc with rfl|rfl|rfl|rfl|rfl|rfl|rfl|rfl|rfl|rfl|rfl|rfl|rfl|rfl|rfl<;>simp only[ex,rW]
 ·refine fE (h.ex 2 a b i nt ak ak ak) λx j m hj=> ?_
  rw[pV];refine⟨λhc=> ?_,λ_=>hj⟩;rw[wo] at hc;have:=eF (aeg hc.2);rw[rW];exact fE (h.ex 1 a b (j+1) m ak ak ak) λy j' m' hj'=>(show i<j' by omega)
 ·refine fE (h.ex 3 a b i nt ak ak ak) λx j m hj=> ?_
  rw[pV];refine⟨λhc=> ?_,λ_=>hj⟩;have:=hlt hc (by decide);simp only[rW,WE];refine fE (h.ex 2 a b (j+1) m ak ak ak) λy j2 m2 hj2=>λhk=> ?_
  exact fE (h.ex 2 a b (j2+1) m2 ak ak ak) λz j3 m3 hj3=>(show i<j3 by omega)
 ·refine fE (h.ex 4 a b i nt ak ak ak) λx j m hj=> ?_
  exact fE (h.ch 3 a b x j m ak ak ak) λy j' m' hj'=>(show i<j' by omega)
 ·refine fE (h.ex 5 a b i nt ak ak ak) λx j m hj=> ?_
  exact fE (h.ch 4 a b x j m ak ak ak) λy j' m' hj'=>(show i<j' by omega)
 ·rw[pV];refine⟨λhc=> ?_,λ_=> ?_⟩
  ·rw[wo,wo] at hc;have:=hlt hc.1.1 (by decide);simp only[rW,WE,apK];refine fE (h.lst 33 (i+1) nt (by decide) ak) λL j m hj=>λZv h6=> ?_
   have:=eF (l:=l) (i:=j) (by rw[Zv];decide);exact fE (h.inp a _ (j+1+1) m ak) λy j' m' hj'=>(show i<j' by omega)
  ·rw[rW];refine fE (h.ex 6 a b i nt ak ak ak) λx j m hj=> ?_
   exact fE (h.inp a x j m ak) λy j' m' hj'=>(show i<j' by omega)
 ·refine fE (h.ex 7 a b i nt ak ak ak) λx j m hj=> ?_
  rw[pV];refine⟨λhc=> ?_,λ_=>hj⟩;have:j<l.length:=by rw[Bool.or_eq_true] at hc;rcases hc with hc|hc<;>exact hlt hc (by decide)
  rw[rW];exact fE (h.ex 7 a b (j+1) m ak ak ak) λy j' m' hj'=>(show i<j' by omega)
 ·refine fE (h.ex 8 a b i nt ak ak ak) λx j m hj=> ?_
  rw[pV];refine⟨λhc=> ?_,λ_=>hj⟩;have:=eF (GR ak hc);rw[rW];exact fE (h.ex 8 a b (j+1) m ak ak ak) λy j' m' hj'=>(show i<j' by omega)
 ·refine fE (h.ex 9 a b i nt ak ak ak) λx j m hj=> ?_
  exact fE (h.ch 8 a b x j m ak ak ak) λy j' m' hj'=>(show i<j' by omega)
 ·refine fE (h.ex 10 a b i nt ak ak ak) λx j m hj=> ?_
  exact fE (h.ch 9 a b x j m ak ak ak) λy j' m' hj'=>(show i<j' by omega)
 ·refine fE (h.ex 11 a b i nt ak ak ak) λx j m hj=> ?_
  exact fE (h.ch 10 a b x j m ak ak ak) λy j' m' hj'=>(show i<j' by omega)
 ·rw[pV];refine⟨λhc=> ?_,λ_=>h.ex 12 a b i nt ak ak ak⟩;have:i<l.length:=by simp only[Bool.or_eq_true] at hc;rcases hc with hc|hc|hc<;>exact hlt hc (by decide)
  rw[rW];exact fE (h.ex 11 a b (i+1) nt ak ak ak) λy j' m' hj'=>(show i<j' by omega)
 ·refine fE (h.ex 13 a b i nt ak ak ak) λx j m hj=> ?_
  rw[pV];refine⟨λhc=> ?_,λ_=>hj⟩;have:=hlt hc (by decide);rw[rW];exact fE (h.ex 11 a b (j+1) m ak ak ak) λy j' m' hj'=>(show i<j' by omega)
 ·rw[pV];refine⟨λhc=> ?_,λ_=> ?_⟩
  ·have:=eF (xC hc);exact h.pre i nt this ak
  ·rw[rW];refine fE (h.ex 14 a b i nt ak ak ak) λx j m hj=> ?_
   rw[pV];exact⟨λ_=>(show i<j+1 by omega),λ_=>hj⟩
 ·rw[pV];refine⟨λhc=> ?_,λ_=>h.ex 15 a b i nt ak ak ak⟩;have:=hlt hc (by decide);rw[rW,pV];refine⟨λhs=> ?_,λ_=> ?_⟩
  ·have:=eF (xC hs);exact fE (h.pre (i+1) nt this ak) λx j m hj=>(show i<j by omega)
  ·exact fE (h.ex 14 a b (i+1) nt ak ak ak) λx j m hj=>(show i<j by omega)
 ·have Zw:∀k,(SG k l i nt).tot λ_ j _=>i<j:=λk=>(show i<i+1 by omega)
  rw[pV];refine⟨λ_=>Zw 2,λ_=> ?_⟩;rw[pV];refine⟨λ_=>Zw 3,λ_=> ?_⟩;rw[pV];refine⟨λ_=>Zw 4,λ_=> ?_⟩;rw[pV];refine⟨λhc=> ?_,λ_=> ?_⟩
  ·rw[pV];refine⟨λhd=> ?_,λ_=>Zw 1⟩;have:=hlt hd (by decide);simp only[rW,WE];exact fE (h.it false false [] (i+2) nt ak) λL j m hj=>λ_=>(show i<j+1 by omega)
  rw[pV];refine⟨λhc=> ?_,λ_=> ?_⟩
  ·have:i<l.length:=by rw[Bool.or_eq_true] at hc;rcases hc with hc|hc<;>exact hlt hc (by decide)
   rw[pV];refine⟨λ_=>Zw 8,λ_=> ?_⟩;simp only[rW,WE];intro h32;have:=eF (l:=l) (i:=i+1) (by rw[h32];decide);exact fE (h.lst 33 (i+1+1) nt (by decide) ak) λL j m hj=>(show i<j by omega)
  rw[pV];refine⟨λhc=> ?_,λ_=>trivial⟩;have:=hlt hc (by decide);simp only[rW,WE];exact fE (h.ex 1 false false (i+1) nt ak ak ak) λx j m hj=>λ_=>(show i<j+1 by omega)
theorem aCJ(lv:Nat)(a b:Bool)(x:Xp)(i:Nat)(nt:kH)(h3:3<=lv)(h10:lv<=10)(hn:40 * (l.length - i)+(2 * (16 - lv)+1)<=n+1):(UK l (n+1) lv a b x i nt).tot λ_ j _=>i<=j:=by
 rw[UK,pV];refine⟨λhc=> ?_,λ_=>zba i⟩;have hlt:=eF (GR h3 hc);simp only;cases h8:Nat.beq lv 8 with
 |true=>
  have:=Ia h8;subst this;simp only[aJ,rW];refine fE (h.ex 9 a b i nt ak ak ak) λy j m hj=> ?_
  exact fE (h.ch 8 a b _ j m ak ak ak) λy j' m' hj'=>(show i<=j' by omega)
 |false=>
  simp only[aW];cases h4:Nat.ble lv 4 with
  |true=>
   simp only[aJ,rW];have hg:=apL (l:=l) (i+1) nt;refine fE (h.ex (lv+1) a b _ _ ak ak ak) λy j m hj=> ?_
   exact fE (h.ch lv a b _ j m ak ak ak) λy j' m' hj'=>(show i<=j' by omega)
  |false=>
   simp only[aW,rW];refine fE (h.ex (lv+1) a b (i+1) nt ak ak ak) λy j m hj=> ?_
   exact fE (h.ch lv a b _ j m ak ak ak) λy j' m' hj'=>(show i<=j' by omega)
theorem axM(a:Bool)(x:Xp)(i:Nat)(nt:kH)(hn:40 * (l.length - i)+1<=n+1):(TQ l (n+1) a x i nt).tot λ_ j _=>i<=j:=by rw[TQ,pV];refine⟨λhc=> ?_,λ_=>zba i⟩;rw[wo] at hc;have:i<l.length:=eF (by have:=hc.1;rw[beq_iff_eq] at this;rw[this];decide);rw[rW,apK];intro h6;exact fE (h.inp a _ (i+1+1) nt ak) λy j' m' hj'=>(show i<=j' by omega)
theorem axN(i:Nat)(nt:kH)(hi:i<l.length)(hn:40 * (l.length - i)+1<=n+1):(I8 l (n+1) i nt).tot λ_ j _=>i<j:=by rw[I8,pV];refine⟨λhc=> ?_,λ_=>trivial⟩;rw[rW];exact fE (h.ex 14 false false (i+1) nt ak ak ak) λy j' m' hj'=>(show i<j' by omega)
theorem axO(e:Int)(i:Nat)(nt:kH)(he:e≠0)(hn:40 * (l.length - i)+36<=n+1):(Bv l (n+1) e i nt).tot λ_ j _=>i<j:=by rw[Bv,pV];refine⟨λhc=>(show i<i+1 by omega),λ_=> ?_⟩;simp only[rW,WE];exact fE (h.it false false [] i nt ak) λL j m hj=>λ_=>(show i<j+1 by omega)
theorem aCK(a b:Bool)(L:List Tn)(i:Nat)(nt:kH)(hn:40 * (l.length - i)+35<=n+1):(Po l (n+1) a b L i nt).tot λ_ j _=>i<j:=by
 rw[Po,rW];refine fE (h.ex 1 a b i nt ak ak ak) λx j m hj=> ?_
 rw[pV];refine⟨λhc=> ?_,λ_=>hj⟩;have:j<l.length:=eF (by rw[beq_iff_eq] at hc;rw[hc];decide);rw[pV];refine⟨λ_=>trivial,λ_=> ?_⟩;have hg:=apL (l:=l) (j+1) m;exact fE (h.it a b _ _ _ ak) λy j' m' hj'=>(show i<j' by omega)
end
def axP(l:List Tk):∀n,Ends l n
 |0=>⟨λlv a b i nt h1 h2 hn=>by omega,λlv a b x i nt h1 h2 hn=>by omega,λa x i nt hn=>by omega,λi nt h hn=>by omega,λe i nt he hn=>by omega,λa b L i nt hn=>by omega⟩
 |n+1=>have h:=axP l n
  ⟨aCI h,aCJ h,axM h,axN h,axO h,aCK h⟩
inductive Fld:Int->Int->aI->aI->Nat->Prop where
 |name {x:aI}:O8 x=true->Fld 1 0 x [] 0
 |tok {k:Int} {x:aI}:k=2\/k=3\/k=4->uY (k+1) x=true->Fld k 0 x [] 0
 |index {k:Int} {x:aI} {n:Nat}:k=5\/k=13->O8 x=true->1<=n->n<=6->Fld k 0 x [] n
 |call {k:Int} {x:aI} {n:Nat}:k=7\/k=27->O8 x=true->n<=6->Fld k 0 x [] n
 |blt {x:aI} {n:Nat}:acP x=true->n<=6->Fld 8 0 x [] n
 |one {k:Int}:k=6\/k=20\/k=40\/k=41->Fld k 0 [] [] 1
 |step {k op:Int}:k=9\/k=10->op=51\/op=52->Fld k op [] [] 1
 |una {op:Int}:op=55\/op=56\/op=61->Fld 11 op [] [] 1
 |bin {op:Int}:WA op=true->Fld 12 op [] [] 2
 |cond:Fld 14 0 [] [] 3
 |asg {op:Int}:F7 op=true->Fld 15 op [] [] 2
 |none {k:Int}:k=16\/k=22\/k=25\/k=26->Fld k 0 [] [] 0
 |prn {op:Int} {n:Nat}:op=0\/op=1->op<=n->n<=6->Fld 21 op [] [] n
 |prt {op:Int} {y:aI} {n:Nat}:op=0\/op=1->y=[62]\/y=[62,62]\/y=[124]->op+1<=n->n<=7->Fld 21 op [] y n
 |word {k:Int} {n:Nat}:k=23\/k=24->n<=1->Fld k 0 [] [] n
 |if_ {n:Nat}:n=2\/n=3->Fld 28 0 [] [] n
 |two {k:Int}:k=29\/k=30->Fld k 0 [] [] 2
 |for_:Fld 31 0 [] [] 4
 |aEm {x y:aI}:O8 x=true->O8 y=true->Fld 32 0 x y 1
 |many {k:Int} {n:Nat}:k=33\/k=45->Fld k 0 [] [] n
 |com {x:aI}:uY 2 x=true->Fld 34 0 x [] 0
 |rule {op:Int} {n:Nat}:((op=1\/op=2)/\n=1)\/(op=3/\n=2)->Fld 42 op [] [] n
 |range {op:Int} {n:Nat}:(op=1/\n=2)\/(op=3/\n=3)->Fld 43 op [] [] n
 |func {x:aI} {n:Nat}:O8 x=true->1<=n->n<=7->Fld 44 0 x [] n
mutual
def rtT:Tn->Prop
 | .mk k op x y ks=>Fld k op x y ks.length/\rts k op ks.length ks 0
def rts(k op:Int)(n:Nat):List Tn->Nat->Prop
 |[],_=>True
 |t::ts,j=>SE (cls k op n j) t.kind/\(rtT t)/\rts k op n ts (j+1)
end
def amJ{k op:Int}{n:Nat}:∀{ks:List Tn} {j:Nat},(∀i t,ks[i]? =some t->SE (cls k op n (j+i)) t.kind/\rtT t)->rts k op n ks j
 |[],_,_=>by rw[rts];trivial
 |t::ts,j,h=>by
  rw[rts];have h0:=h 0 t rfl;refine⟨h0.1,h0.2,amJ λi u hu=> ?_⟩;have:=h (i+1) u (by rw[List.getElem?_cons_succ];exact hu)
  rwa [show j+(i+1)=j+1+i by omega] at this
def asF{k op:Int}{n:Nat}:∀{ks:List Tn} {j i:Nat} {t:Tn},rts k op n ks j->ks[i]? =some t->SE (cls k op n (j+i)) t.kind/\(rtT t)
 |[],_,i,_,_,h=>by simp at h
 |u::ts,j,0,t,h,e=>by rw[rts] at h;cases e;exact⟨h.1,h.2.1⟩
 |u::ts,j,i+1,t,h,e=>by rw[rts] at h;rw[List.getElem?_cons_succ] at e;have:=asF h.2.2 e;rw[show j+1+i=j+(i+1) by omega] at this;exact this
def rxT(t:Tn):Prop:=rtT t/\isE t
def aTL{k op:Int}{n:Nat}{ks:List Tn}(h:∀t,t∈ks->rxT t)(hc:∀j,cls k op n j=0):rts k op n ks 0:=amJ λi t ht=>by have:=h t (ZF ht);rw[hc];exact⟨this.2,this.1⟩
def aTM{k:Int}(hk:(1<=k/\k<=8)\/(11<=k/\k<=14)\/(20<=k/\k<=27))(op:Int)(n j:Nat):cls k op n j=0:=by unfold cls;repeat(rw[if_neg ak])
def afQ{k op:Int}{x y:aI}{ks:List Tn}(hk:(1<=k/\k<=8)\/(11<=k/\k<=14))(hf:Fld k op x y ks.length)(h:∀t,t∈ks->rxT t):rxT (.mk k op x y ks):=by refine⟨?_,⟨by show 1<=k;omega,by show k<=15;omega⟩⟩;rw[rtT];exact⟨hf,aTL h λj=>aTM ak op _ j⟩
def aru:∀t:Tn,t∈([]:List Tn)->rxT t:=λt h=>by simp at h
def all1{a:Tn}(h:rxT a):∀t:Tn,t∈[a]->rxT t:=λt ht=>by rw[List.mem_singleton] at ht;rw[ht];exact h
def all2{a b:Tn}(h:rxT a)(k:rxT b):∀t:Tn,t∈[a,b]->rxT t:=λt ht=>by simp only[List.mem_cons,List.not_mem_nil,or_false] at ht;rcases ht with rfl|rfl<;>assumption
def a1o{a b c:Tn}(h:rxT a)(k:rxT b)(m:rxT c):∀t:Tn,t∈[a,b,c]->rxT t:=λt ht=>by simp only[List.mem_cons,List.not_mem_nil,or_false] at ht;rcases ht with rfl|rfl|rfl<;>assumption
def axQ{L:List Tn}{a:Tn}(h:∀t,t∈L->rxT t)(k:rxT a):∀t:Tn,t∈L++[a]->rxT t:=λt ht=>by
 rcases List.mem_append.1 ht with ht|ht
 ·exact h t ht
 ·rw[List.mem_singleton] at ht;rw[ht];exact k
def amK{op:Int}{a b:Tn}(hop:WA op=true)(ha:rxT a)(hb:rxT b):rxT (.mk 12 op [] [] [a,b]):=afQ ak (.bin hop) (all2 ha hb)
def apM{k:Int}(h:Ee k=true):SE 6 k:=by unfold Ee at h;simp only[Bool.or_eq_true,beq_iff_eq] at h;exact h
def aGq{op:Int}{a b:Tn}(hop:F7 op=true)(hl:Ee a.kind=true)(ha:rxT a)(hb:rxT b):rxT (.mk 15 op [] [] [a,b]):=by refine⟨?_,⟨by show(1:Int)<=15;omega,by show(15:Int)<=15;omega⟩⟩;rw[rtT];refine⟨.asg hop, ?_⟩;rw[rts,rts,rts];have c0:cls 15 op [a,b].length 0=6:=rfl;have c1:cls 15 op [a,b].length (0+1)=0:=rfl;rw[c0,c1];exact⟨apM hl,ha.1,hb.2,hb.1,trivial⟩
def asG{k op:Int}{a:Tn}(hk:k=9\/k=10)(hop:op=51\/op=52)(hl:Ee a.kind=true)(ha:rxT a):rxT (.mk k op [] [] [a]):=by
 refine⟨?_,⟨by show(1:Int)<=k;omega,by show k<=15;omega⟩⟩;rw[rtT];refine⟨.step hk hop, ?_⟩;rw[rts,rts];have c0:cls k op [a].length 0=6:=by unfold cls;rw[if_pos ak]
 rw[c0];exact⟨apM hl,ha.1,trivial⟩
def apN{op:Int}(h:dP op≠0):WA op=true:=by
 by_cases hc:WA op=true
 ·exact hc
 ·exfalso;apply h;rw[Bool.not_eq_true] at hc;unfold WA at hc;simp only[Bool.or_eq_false_iff] at hc;obtain⟨⟨⟨⟨⟨⟨⟨⟨⟨⟨⟨⟨⟨⟨⟨⟨h1,h2⟩,h3⟩,h4⟩,h5⟩,h6⟩,h7⟩,h8⟩,h9⟩,h10⟩,h11⟩,h12⟩,h13⟩,h14⟩,h15⟩,h16⟩,h17⟩:=hc;simp only[dP,h1,h2,h3,h4,h5,h6,h7,h8,h9,h10,h11,h12,h13,h14,h15,h16,h17,Bool.or_self,aW]
def ajV(l:List Tk):Prop:=∀t,t∈l->uY t.kind t.text=true
def axR{l:List Tk}(h:ajV l){i:Nat}{k:Int}(hk:aO l i=k)(h0:k≠0):uY k (xB l i)=true:=by
 unfold aO at hk;unfold xB;cases ht:l[i]? with
 |none=>rw[ht] at hk;exact absurd hk.symm h0
 |some t=>rw[ht] at hk;simp only at hk|-;rw[<-hk];exact h t (ZF ht)
def axS{l:List Tk}(h:ajV l){i:Nat}{k:Int}(hk:aO l i=k)(h6:k=6\/k=7):O8 (xB l i)=true:=by
 have:=axR h hk ak;unfold uY at this;cases hx:xB l i==[] with
 |true=>rw[hx] at this;cases this
 |false=>rw[hx] at this;rcases h6 with rfl|rfl<;>exact this
def aEn{l:List Tk}(h:ajV l){i:Nat}(hk:aO l i=8):acP (xB l i)=true:=by
 have:=axR h hk ak;unfold uY at this;cases hx:xB l i==[] with
 |true=>rw[hx] at this;cases this
 |false=>rw[hx] at this;exact this
def auG{op:Int}(h:WA op=true):dP op≠0/\op≠61:=by
 have hc:op=60\/op=57\/op=58\/op=59\/op=55\/op=56\/op=99\/op=63\/op=48\/op=47\/op=50\/op=62\/op=49\/op=67\/op=46\/op=45\/op=44:=by simp only[WA,Bool.or_eq_true,beq_iff_eq] at h;omega
 rcases hc with rfl|rfl|rfl|rfl|rfl|rfl|rfl|rfl|rfl|rfl|rfl|rfl|rfl|rfl|rfl|rfl|rfl<;>decide
def axT{op:Int}(h:F7 op=true):op=54\/(38<=op/\op<=43):=by simp only[F7,Bool.or_eq_true,wo,beq_iff_eq,decide_eq_true_eq] at h;omega
def aiP{α:Type}{p:Nat->α->Bool}:∀{l:List α} {i j:Nat} {x:α},Zq p l i=true->l[j]? =some x->p (i+j) x=true
 |[],_,j,_,_,h=>by simp at h
 |y::l,i,0,x,h,e=>by rw[Zq,wo] at h;cases e;exact h.1
 |y::l,i,j+1,x,h,e=>by
  rw[Zq,wo] at h;rw[List.getElem?_cons_succ] at e;have:=aiP h.2 e
  rwa [show i+1+j=i+(j+1) by omega] at this
def axU{k op:Int}{n:Nat}:∀{ks:List Tn} {j:Nat},(∀i t,ks[i]? =some t->SE (cls k op n (j+i)) t.kind/\Yg t)->oks k op n ks j
 |[],_,_=>by rw[oks];trivial
 |t::ts,j,h=>by
  rw[oks];have h0:=h 0 t rfl;refine⟨h0.1,h0.2,axU λi u hu=> ?_⟩;have:=h (i+1) u (by rw[List.getElem?_cons_succ];exact hu)
  rwa [show j+(i+1)=j+1+i by omega] at this
def fx0{t e d:Bool}(h:((bif t then some e else some false).bind λr=>bif r then some d else some false)=some true):t=true/\e=true/\d=true:=by revert h;cases t<;>cases e<;>cases d<;>simp
def fx1{c t e d:Bool}(h:(bif c then((bif t then some e else some false).bind λr=>bif r then some d else some false) else some false)=some true):c=true/\t=true/\e=true/\d=true:=by
 cases c with
 |true=>exact⟨rfl,fx0 h⟩
 |false=>cases h
def bd2{n:Nat}{a b:Int}(h:(decide (a<=(n:Int)) && decide ((n:Int)<=b))=true):a<=(n:Int)/\(n:Int)<=b:=by simpa using h
set_option maxHeartbeats 1000000 in
def aGr{k op:Int}{x y:aI}{kids:au}(he:1<=k/\k<=15)(hx:x.length<=1048576)(hy:y.length<=1048576)(h:M.dQ k op x y kids=some true):Fld k op x y kids.length:=by
 have hN:=(Wy x hx).1;have hB:=(O7 x).1;have h3:=(Nj 3 x 0 hx ⟨ak,ak⟩).1;have h4:=(Nj 4 x 0 hx ⟨ak,ak⟩).1;have h5:=(Nj 5 x 0 hx ⟨ak,ak⟩).1;have hk:k=1\/k=2\/k=3\/k=4\/k=5\/k=6\/k=7\/k=8\/k=9\/k=10\/k=11\/k=12\/k=13\/k=14\/k=15:=ak;generalize hn:kids.length=n at h|-;rcases hk with rfl|rfl|rfl|rfl|rfl|rfl|rfl|rfl|rfl|rfl|rfl|rfl|rfl|rfl|rfl
 all_goals simp only[M.dQ,M.gW,M.jC,M.jy,M.lW,M.mJ,M.iL,M.jA,tX,(aiF op).1,(Ry op).1,hN,hB,h3,h4,h5,hn,ge_iff_le,Int.reduceBEq,reduceLE,decide_true,aJ,aW,Bool.and_true,Bool.true_and,ah] at h
 all_goals simp at h
 case inl=>obtain⟨a1,a2,a3,a4⟩:=fx1 h;simp at a1 a3 a4;subst a1 a3 a4;exact .name a2
 case inr.inl=>obtain⟨a1,a2,a3,a4⟩:=fx1 h;simp at a1 a3 a4;subst a1 a3 a4;exact .tok (.inl rfl) a2
 case inr.inr.inl=>obtain⟨a1,a2,a3,a4⟩:=fx1 h;simp at a1 a3 a4;subst a1 a3 a4;exact .tok (.inr (.inl rfl)) a2
 case inr.inr.inr.inl=>obtain⟨a1,a2,a3,a4⟩:=fx1 h;simp at a1 a3 a4;subst a1 a3 a4;exact .tok (.inr (.inr rfl)) a2
 case inr.inr.inr.inr.inl=>obtain⟨a1,a2,a3,a4⟩:=fx1 h;simp at a1 a3;have a4:=bd2 a4;subst a1 a3;exact .index (.inl rfl) a2 ak ak
 case inr.inr.inr.inr.inr.inl=>obtain⟨a1,a2,a3,a4⟩:=fx1 h;simp at a1 a2 a3;have a4:=bd2 a4;obtain rfl:n=1:=ak;subst a1 a2 a3;exact .one (.inl rfl)
 case inr.inr.inr.inr.inr.inr.inl=>obtain⟨a1,a2,a3,a4⟩:=fx1 h;simp at a1 a3 a4;subst a1 a3;exact .call (.inl rfl) a2 ak
 case inr.inr.inr.inr.inr.inr.inr.inl=>obtain⟨a1,a2,a3,a4⟩:=fx1 h;simp at a1 a3 a4;subst a1 a3;exact .blt a2 ak
 case inr.inr.inr.inr.inr.inr.inr.inr.inl=>
  have ho:op=51\/op=52:=by
   by_cases h1:op=51
   ·exact .inl h1
   ·by_cases h2:op=52
    ·exact .inr h2
    ·rw[nY.2 h1,nY.2 h2] at h;cases h
  obtain⟨a2,a3,a4⟩:=fx0 (by rcases ho with rfl|rfl<;>exact h);simp at a2 a3;have a4:=bd2 a4;obtain rfl:n=1:=ak;subst a2 a3;exact .step (.inl rfl) ho
 case inr.inr.inr.inr.inr.inr.inr.inr.inr.inl=>
  have ho:op=51\/op=52:=by
   by_cases h1:op=51
   ·exact .inl h1
   ·by_cases h2:op=52
    ·exact .inr h2
    ·rw[nY.2 h1,nY.2 h2] at h;cases h
  obtain⟨a2,a3,a4⟩:=fx0 (by rcases ho with rfl|rfl<;>exact h);simp at a2 a3;have a4:=bd2 a4;obtain rfl:n=1:=ak;subst a2 a3;exact .step (.inr rfl) ho
 case inr.inr.inr.inr.inr.inr.inr.inr.inr.inr.inl=>
  have ho:op=55\/op=56\/op=61:=by
   by_cases h1:op=55
   ·exact .inl h1
   ·by_cases h2:op=56
    ·exact .inr (.inl h2)
    ·by_cases h3:op=61
     ·exact .inr (.inr h3)
     ·rw[nY.2 h1,nY.2 h2,nY.2 h3] at h;cases h
  obtain⟨a2,a3,a4⟩:=fx0 (by rcases ho with rfl|rfl|rfl<;>exact h);simp at a2 a3;have a4:=bd2 a4;obtain rfl:n=1:=ak;subst a2 a3;exact .una ho
 case inr.inr.inr.inr.inr.inr.inr.inr.inr.inr.inr.inl=>obtain⟨a1,a2,a3,a4⟩:=fx1 h;simp at a2 a3;have a4:=bd2 a4;obtain rfl:n=2:=ak;subst a2 a3;exact .bin a1
 case inr.inr.inr.inr.inr.inr.inr.inr.inr.inr.inr.inr.inl=>obtain⟨a1,a2,a3,a4⟩:=fx1 h;simp at a1 a3;have a4:=bd2 a4;subst a1 a3;exact .index (.inr rfl) a2 ak ak
 case inr.inr.inr.inr.inr.inr.inr.inr.inr.inr.inr.inr.inr.inl=>obtain⟨a1,a2,a3,a4⟩:=fx1 h;simp at a1 a2 a3;have a4:=bd2 a4;obtain rfl:n=3:=ak;subst a1 a2 a3;exact .cond
 case inr.inr.inr.inr.inr.inr.inr.inr.inr.inr.inr.inr.inr.inr=>obtain⟨a1,a2,a3,a4⟩:=fx1 h;simp at a2 a3;have a4:=bd2 a4;obtain rfl:n=2:=ak;subst a2 a3;exact .asg a1
def aCL{k op:Int}{x y:aI}{n:Nat}(he:1<=k/\k<=15)(h:Fld k op x y n):Cnt k op y n:=by
 cases h with
 |bin hb=>constructor<;>intros<;>first|omega|exact auG hb
 |asg ha=>constructor<;>intros<;>first|omega|exact axT ha
 |_=>constructor<;>intros<;>first|omega|assumption|(exfalso;omega)
def kkE{k op:Int}{x y:aI}{kids:au}{j:Nat}{d:Int}(he:1<=k/\k<=15)(h:M.o9 k op x y kids (j:Int) d=some true):SE (cls k op kids.length j) d/\(1<=d/\d<=15):=by
 have hE:acQ d=true->1<=d/\d<=15:=λh=>by unfold acQ at h;rw[wo,decide_eq_true_eq,decide_eq_true_eq] at h;exact h
 have hL:Ee d=true->d=1\/d=5\/d=6:=λh=>by unfold Ee at h;rw[Bool.or_eq_true,Bool.or_eq_true,beq_iff_eq,beq_iff_eq,beq_iff_eq] at h;exact h
 have hk:k=9\/k=10\/k=15\/k=1\/k=2\/k=3\/k=4\/k=5\/k=6\/k=7\/k=8\/k=11\/k=12\/k=13\/k=14:=ak;rcases hk with rfl|rfl|rfl|rfl|rfl|rfl|rfl|rfl|rfl|rfl|rfl|rfl|rfl|rfl|rfl
 all_goals simp only[M.o9,M.CO,M.uq,(WB d).1,(Zn d).1,ah,Int.reduceBEq,aJ,aW] at h
 case inl=>have h:=hL (Option.some.inj h);exact⟨by simpa[cls,SE] using h,ak⟩
 case inr.inl=>have h:=hL (Option.some.inj h);exact⟨by simpa[cls,SE] using h,ak⟩
 case inr.inr.inl=>
  cases hx:acQ d with
  |false=>rw[hx] at h;cases h
  |true=>
   have hd:=hE hx;rw[hx] at h
   by_cases hj:j=0
   ·subst hj;have h:=hL (by simpa using h);exact⟨by simpa[cls,SE] using h,hd⟩
   ·exact⟨by simpa[cls,SE,hj] using hd,hd⟩
 all_goals
  have h:=hE (Option.some.inj h);exact⟨by simpa[cls,SE] using h,h⟩
def aCM{l:List Nd}(hall:Zq (np l) l 0=true)(hsm:∀n,n∈l->Small n)(hkl:∀n,n∈l->n.kids.length<=400)(t:Tn):∀b,Lies l b t->isE t->Yg t/\rtT t:=by
 refine Tn.ind (P:=λt=>∀b,Lies l b t->isE t->Yg t/\rtT t) ?_ t;intro k op x y ks ih b h he;have hr:=h.root;have hm:=ZF hr;have hn:=aiP hall hr;unfold np at hn;rw[wo] at hn;have hf:=(axC (hsm _ hm) (hkl _ hm)).1;rw[hn.1] at hf;have hs:=hsm _ hm;simp only[isE,Tn.kind] at he;have hF:=aGr he hs.1 hs.2 hf;rw[dV,jM] at hF;have kd:∀i u,ks[i]? =some u->SE (cls k op ks.length i) u.kind/\Yg u/\rtT u:=λi u hu=>by
  have hee:=af7 (b:=b) hu;have hlt:=(Qm.1 hu).1;have hk:=aiP hn.2 hee;have hroot:=Lies.root' (Lies.abH h hu);unfold kp at hk;rw[Yf] at hk;have hnd:(Zp l (b+sizes (ks.take i)+sizes u.kids)).kind=u.kind:=by rw[Zp,hroot]
  rw[hnd,Nat.zero_add] at hk;have hko:=(axD (hsm _ hm) (hkl _ hm) hn.1 i (by rw[jM];omega) u.kind).1;rw[hk] at hko;have h2:=kkE he hko;rw[dV,jM] at h2;exact⟨h2.1,ih u (ZF hu) _ (Lies.abH h hu) h2.2⟩
 refine⟨?_, ?_⟩
 ·rw[Yg];exact⟨.inl ⟨he.1,ak⟩,aCL he hF,axU λi u hu=>by rw[Nat.zero_add];exact⟨(kd i u hu).1,(kd i u hu).2.1⟩⟩
 ·rw[rtT];exact⟨hF,amJ λi u hu=>by rw[Nat.zero_add];exact⟨(kd i u hu).1,(kd i u hu).2.2⟩⟩
def arv{t:Tn}(h:Xy (t.flat 0)=true)(hsm:∀n,n∈t.flat 0->Small n)(he:isE t):Yg t/\rtT t:=by unfold Xy at h;rw[wo,wo] at h;obtain⟨r,hv⟩:=amF h.1;exact aCM h.2.2 hsm hv.axE t 0 (Lies.whole t) he
@[simp] theorem aGs(l:List Tk):aj (aA l)=true:=by simp only[aj,aA,List.all_map,List.all_eq_true];intro x _;rfl
def sz1(u:Tn):sizes [u]=u.size:=by simp[sizes]
def sz2(u v:Tn):sizes [u,v]=u.size+v.size:=by simp[sizes]
def sz3(u v z:Tn):sizes [u,v,z]=u.size+(v.size+z.size):=by simp[sizes]
def amL{α:Type}{l:List α}(h:l.length=2):∃a b,l=[a,b]:=by
 match l,h with
 |[a,b],_=>exact⟨a,b,rfl⟩
def apO{α:Type}{l:List α}(h:l.length=3):∃a b c,l=[a,b,c]:=by
 match l,h with
 |[a,b,c],_=>exact⟨a,b,c,rfl⟩
def aCN{op:Int}(h:dP op≠0):I64 op:=by
 by_cases hr:0<=op/\op<=99
 ·constructor<;>omega
 ·exfalso;apply h;have e:∀z:Int,0<=z->z<=99->(op==z)=false:=λz h1 h2=>by rw[nY];omega
  simp only[dP,e 44 (by decide) (by decide),e 45 (by decide) (by decide),e 67 (by decide) (by decide),e 46 (by decide) (by decide),e 63 (by decide) (by decide),e 48 (by decide) (by decide),e 47 (by decide) (by decide),e 50 (by decide) (by decide),e 62 (by decide) (by decide),e 49 (by decide) (by decide),e 99 (by decide) (by decide),e 55 (by decide) (by decide),e 56 (by decide) (by decide),e 57 (by decide) (by decide),e 58 (by decide) (by decide),e 59 (by decide) (by decide),e 60 (by decide) (by decide),Bool.or_false,aW]
mutual
def sml:Tn->Prop
 | .mk _ _ x y ks=>(x.length<=1048576/\y.length<=1048576)/\WG ks
def WG:List Tn->Prop
 |[]=>True
 |t::ts=>sml t/\WG ts
end
mutual
def amM:∀(t:Tn) (b:Nat),sml t↔∀n,n∈t.flat b->Small n
 | .mk k o x y ks,b=>by
  rw[sml,apP ks b,Tn.flat];constructor
  ·rintro⟨⟨h1,h2⟩,h3⟩ n hn;rcases List.mem_append.1 hn with hn|hn
   ·exact h3 n hn
   ·simp only[List.mem_singleton] at hn;subst hn;exact⟨h1,h2⟩
  ·intro h;have h1:=h ⟨k,o,x,y,ends ks b⟩ (by simp);exact⟨⟨h1.text,h1.other⟩,λn hn=>h n (List.mem_append_left _ hn)⟩
def apP:∀(ks:List Tn) (b:Nat),WG ks↔∀n,n∈qg ks b->Small n
 |[],b=>by simp[WG,qg]
 |t::ts,b=>by
  rw[WG,amM t b,apP ts (b+t.size),qg];constructor
  ·rintro⟨h1,h2⟩ n hn;rcases List.mem_append.1 hn with hn|hn
   ·exact h1 n hn
   ·exact h2 n hn
  ·intro h;exact⟨λn hn=>h n (List.mem_append_left _ hn),λn hn=>h n (List.mem_append_right _ hn)⟩
end
def asH:∀{ks:List Tn} {u:Tn},WG ks->u∈ks->sml u
 |[],_,_,h=>by cases h
 |t::ts,u,h,hu=>by
  rw[WG] at h;rcases List.mem_cons.1 hu with rfl|hu
  ·exact h.1
  ·exact asH h.2 hu
def aEo(l:List (aI))(h:∀g,g∈l->g.length<=9)(i:Nat):(l[i]?.getD []).length<=9:=by
 cases hx:l[i]? with
 |none=>simp
 |some g=>exact h g (ZF hx)
def aTN:∀g,g∈Zm->g.length<=9:=by decide+kernel
def aTO:∀g,g∈amB->g.length<=9:=by decide+kernel
def ZQ(k:Int):(spell k).length<=9:=by
 unfold spell;split
 ·simp
 ·split
  ·exact aEo _ aTN _
  ·split
   ·exact aEo _ aTO _
   ·simp
def tkF(t:Tk):Prop:=(0<=t.kind/\t.kind<=68)/\uZ t.text
abbrev aCO:=Int×au×Int×Int×au
def Qj{k:Int}{t:aI}{a:Int}(h1:0<=k)(h2:k<=68)(h3:uZ t):tkF ⟨k,t,a⟩:=⟨⟨h1,h2⟩,h3⟩
def asI{a b:Tk}(ha:tkF a)(hb:tkF b):∀t,t∈[a,b]->tkF t:=λt ht=>by
 rcases List.mem_cons.1 ht with rfl|ht
 ·exact ha
 ·rw[List.mem_singleton] at ht;rw[ht];exact hb
def TGQ(s:Cu)(n:Nat)(l:List Tk)(m:Option (aCO⊕aCO)):Prop:=∃(ts:List Tk) (q:Nat),m=some (.inl ((n:Int),(cS s q).1,(cS s q).2.1,(cS s q).2.2,aA (l++ts)))/\ts.length<=2/\∀t,t∈ts->tkF t
def TGQ.ite{s:Cu}{n:Nat}{l:List Tk}{c:Bool}{a b:Option (aCO⊕aCO)}(ha:TGQ s n l a)(hb:TGQ s n l b):TGQ s n l (bif c then a else b):=by cases c<;>assumption
def alb(k:Int):∃b,M.dD k=some b:=by simp only[M.dD,M.zZ];cases k==3<;>cases k==4<;>cases k==5<;>cases k==6<;>cases k==8<;>cases k==33<;>cases k==35<;>cases k==51<;>cases k==52<;>exact⟨_,rfl⟩
def qO(l:List Tk):aj (aA l)=true:=by simp[aj,aA,UG,D.flat]
def Nl(l:List Tk)(ts:List Tk):aA (l++ts)=aA l++aA ts:=by simp[aA]
def aiQ(x:Tk)(k:Int)(t:aI)(a:Int):splice (UG x) 0 [D.int .i64 k,D.str t,D.int .i64 a]=UG ⟨k,t,a⟩:=rfl
def abL(l:List Tk)(i:Nat)(x:Tk):(aA l).set i (UG x)=aA (l.set i x):=by simp[aA,List.map_set]
section
variable {s:Cu} (h:abJ s)
include h
theorem aeh(p:Nat):∃(k:Int) (t:aI) (q:Nat),M.pR (cS s p).1 (cS s p).2.1 (cS s p).2.2=some (k,t,0,cS s q)/\tkF ⟨k,t,0⟩:=by
 have e:=tV h p 10 ak ak;rw[show((10:Nat):Int)=10 from rfl] at e;obtain⟨a1,c1,b1⟩:=axH h (p+1);obtain⟨a2,c2,b2⟩:=axI h (p+1);obtain⟨a3,c3,b3⟩:=axJ h (p+1);obtain⟨a4,c4,b4⟩:=ZP h (p+1);have e1:=tV h (p+1) 17 ak ak;rw[show((17:Nat):Int)=17 from rfl] at e1;have e2:=tV h (p+1) 39 ak ak;rw[show((39:Nat):Int)=39 from rfl] at e2;have m1:=Nat.mod_lt (s.g (p+1)) (show 0<17 by omega);have m2:=Nat.mod_lt (s.g (p+1)) (show 0<39 by omega);have w1:i64.wrap (10+((s.g (p+1) % 17:Nat):Int))=10+((s.g (p+1) % 17:Nat):Int):=aK ak ak;have w2:i64.wrap (30+((s.g (p+1) % 39:Nat):Int))=30+((s.g (p+1) % 39:Nat):Int):=aK ak ak;have s1:=(Ux (10+((s.g (p+1) % 17:Nat):Int)) (by unfold I64;omega)).1;have s2:=(Ux (30+((s.g (p+1) % 39:Nat):Int)) (by unfold I64;omega)).1;have l1:=ZQ (10+((s.g (p+1) % 17:Nat):Int));have l2:=ZQ (30+((s.g (p+1) % 39:Nat):Int));simp only[M.pR,M.NR,M.qy,M.Ib];rw[e,ah];simp only[b1,b2,b3,b4,e1,e2,w1,w2,s1,s2,ah];cases((s.g p % 10:Nat):Int)==0 with
 |true=>exact⟨_,_,_,rfl,Qj ak ak (by first|assumption|exact yH rfl _|(unfold uZ;omega))⟩
 |false=>cases((s.g p % 10:Nat):Int)==1 with
  |true=>exact⟨_,_,_,rfl,Qj ak ak (by first|assumption|exact yH rfl _|(unfold uZ;omega))⟩
  |false=>cases((s.g p % 10:Nat):Int)==2 with
   |true=>exact⟨_,_,_,rfl,Qj ak ak (by first|assumption|exact yH rfl _|(unfold uZ;omega))⟩
   |false=>cases((s.g p % 10:Nat):Int)==3 with
    |true=>exact⟨_,_,_,rfl,Qj ak ak (by first|assumption|exact yH rfl _|(unfold uZ;omega))⟩
    |false=>cases((s.g p % 10:Nat):Int)==4 with
     |true=>exact⟨_,_,_,rfl,Qj ak ak (by first|assumption|exact yH rfl _|(unfold uZ;omega))⟩
     |false=>cases((s.g p % 10:Nat):Int)==5 with
      |true=>rw[aW,aW,aW,aW,aW,aJ,Xz h (p+1) _ rfl,ah];exact⟨_,_,_,rfl,Qj ak ak (by first|assumption|exact yH rfl _|(unfold uZ;omega))⟩
      |false=>cases((s.g p % 10:Nat):Int)==6 with
       |true=>exact⟨_,_,_,rfl,Qj ak ak (by first|assumption|exact yH rfl _|(unfold uZ;omega))⟩
       |false=>exact⟨_,_,_,rfl,Qj ak ak (by first|assumption|exact yH rfl _|(unfold uZ;omega))⟩
variable {n:Nat} {l:List Tk} (hl:l.length<=100) (hn:n<=100)
include hl hn
theorem axV(k:Int)(t:aI)(q:Nat):TGQ s n l (M.iG (aA l) (λx=>some (Sum.inl x)) ((n+1:Nat):Int) (k,t,0,cS s q)):=by
 have hw:i64.wrap (((n+1:Nat):Int) - 1)=(n:Int):=by rw[aK ak ak];omega
 simp only[M.iG,aX,hw];rw[fM ak,aJ,fM ak,aJ];exact⟨[⟨1,[10],0⟩],q,by rw[Nl];rfl,by simp,λu hu=>by rw[List.mem_singleton] at hu;rw[hu];exact Qj (by decide) (by decide) (by simp[uZ])⟩
theorem asJ(b:Bool)(q q0:Nat){k:Int}(t:aI)(hk:tkF ⟨k,t,0⟩):TGQ s n l (M.uI (b,cS s q) (aA l) (λx=>some (Sum.inl x)) ((n+1:Nat):Int) (k,t,0,cS s q0)):=by
 have hw:i64.wrap (((n+1:Nat):Int) - 1)=(n:Int):=by rw[aK ak ak];omega
 have hp:=Xz h q [[D.str [35]],[D.str [35,32,97]],[D.str [35,34,120]]] rfl;simp only[M.uI,aX,hw,hp,ah,PD,ZE,zln];cases b with
 |true=>rw[aJ,fM ak,aJ,fM ak,aJ,fM ak,aJ,fM ak,aJ];exact⟨[⟨2,_,0⟩,⟨1,[10],0⟩],q+1,by rw[Nl,VN];rfl,by simp,asI (Qj (by decide) (by decide) (yH rfl _)) (Qj (by decide) (by decide) (by simp[uZ]))⟩
 |false=>rw[aW,fM ak,aJ,fM ak,aJ];exact⟨[⟨k,t,0⟩],q,by rw[Nl];rfl,by simp,λu hu=>by rw[List.mem_singleton] at hu;rw[hu];exact hk⟩
theorem axW(q:Nat){k:Int}(t:aI)(hk:tkF ⟨k,t,0⟩):TGQ s n l (M.fF (k,t,0,cS s q) (aA l) (λx=>some (Sum.inl x)) ((n+1:Nat):Int)):=by
 have hw:i64.wrap (((n+1:Nat):Int) - 1)=(n:Int):=by rw[aK ak ak];omega
 have e4:=MJ h q 4 ak ak;rw[show((4:Nat):Int)=4 from rfl] at e4;have e20:=MJ h q 20 ak ak;rw[show((20:Nat):Int)=20 from rfl] at e20;have e21:=MJ h (q+1) 20 ak ak;rw[show((20:Nat):Int)=20 from rfl] at e21;simp only[M.fF,aX,hw,e4,e20,e21,ah,PD,ZE,zln];refine TGQ.ite ?_ (asJ h hl hn _ _ _ t hk);cases(s.g q % 4==0) with
 |true=>rw[aJ,fM ak,aJ,fM ak,aJ,fM ak,aJ,fM ak,aJ];exact⟨[⟨7,t,0⟩,⟨32,[40],0⟩],q+1,by rw[Nl,VN];rfl,by simp,asI (Qj (by decide) (by decide) hk.2) (Qj (by decide) (by decide) (by simp[uZ]))⟩
 |false=>exact asJ h hl hn _ _ _ t hk
theorem auH(p:Nat):TGQ s n l (M.Gm (((n+1:Nat):Int),(cS s p).1,(cS s p).2.1,(cS s p).2.2,aA l)):=by
 obtain⟨k,t,q,ht,hk⟩:=aeh h p;simp only[M.Gm,M.Aa];rw[zdt ak,aJ];rw[aX]
 by_cases hz:l.length=0
 ·obtain⟨b,hb⟩:=alb 0;rw[rF ak,aW,ht,ah];simp only[hb,ah]
  repeat' first|exact axV h hl hn _ _ _|exact axW h hl hn _ _ hk|apply TGQ.ite
 ·have hlt:l.length - 1<l.length:=ak;obtain⟨x,hx⟩:∃x,l[l.length - 1]? =some x:=⟨l[l.length - 1],by simp[hlt]⟩
  have hw:i64.wrap ((l.length:Int) - 1)=((l.length - 1:Nat):Int):=by rw[aK ak ak];omega
  obtain⟨b,hb⟩:=alb x.kind;rw[zdt ak,aJ,hw];simp only[bK,Yf,dZ,hx,Ht,ah,Qr,ht,hb]
  repeat' first|exact axV h hl hn _ _ _|exact axW h hl hn _ _ hk|apply TGQ.ite
omit hl hn
theorem acW:∀(n:Nat) (l:List Tk) (p:Nat),l.length+2 * n<=60->(∀t,t∈l->tkF t)->∃(l':List Tk) (q:Nat),M.wF ((n:Int),(cS s p).1,(cS s p).2.1,(cS s p).2.2,aA l)=some (0,(cS s q).1,(cS s q).2.1,(cS s q).2.2,aA l')/\l'.length<=60/\∀t,t∈l'->tkF t
 |0,l,p,hl,hk=>by refine⟨l,p, ?_,ak,hk⟩;rw[M.wF];apply aQ;simp only[M.Gm,M.Aa];rw[rF ak,aW];rfl
 |n+1,l,p,hl,hk=>by
  obtain⟨ts,q,e,h2,h3⟩:=auH h (n:=n) (l:=l) ak ak p;obtain⟨l',q',e',r1,r2⟩:=acW n (l++ts) q (by rw[PD];omega) (λt ht=>by
   rcases List.mem_append.1 ht with ht|ht
   ·exact hk t ht
   ·exact h3 t ht)
  refine⟨l',q', ?_,r1,r2⟩;rw[M.wF] at e'|-;rw[bI e];exact e'
theorem arw(m:Nat)(a2J:m<=28)(p:Nat):∃(l:List Tk) (q:Nat),M.zA (m:Int) (cS s p).1 (cS s p).2.1 (cS s p).2.2=some (aA l,cS s q)/\l.length<=60/\∀t,t∈l->tkF t:=by
 have e:=tV h p (m+1) ak ak;have hm:=Nat.mod_lt (s.g p) (show 0<m+1 by omega);have hw:i64.wrap ((m:Int)+1)=((m+1:Nat):Int):=by rw[aK ak ak];omega
 obtain⟨l,q,e1,hl,hk⟩:=acW h (s.g p %(m+1)) [] (p+1) (by rw[zln];omega) (by simp);simp only[M.zA,M.LC];rw[hw,e,ah];rw[show M.wF (((s.g p %(m+1):Nat):Int),(cS s (p+1)).1,(cS s (p+1)).2.1,(cS s (p+1)).2.2,[])=_ from e1,ah];have e10:=MJ h q 10 ak ak;rw[show((10:Nat):Int)=10 from rfl] at e10;simp only[aX,e10,ah,qO,aJ]
 by_cases hz:l.length=0
 ·rw[rF ak,aW];exact⟨l,q,rfl,hl,hk⟩
 ·rw[zdt ak,aJ];cases(s.g q % 10==0) with
  |false=>exact⟨l,q+1,rfl,hl,hk⟩
  |true=>
   have eb:=tV h (q+1) l.length ak ak;have hi:=Nat.mod_lt (s.g (q+1)) (show 0<l.length by omega);obtain⟨k,t,q2,ht,hkk⟩:=aeh h (q+1+1);obtain⟨x,hx⟩:∃x,l[s.g (q+1) % l.length]? =some x:=⟨l[s.g (q+1) % l.length],by simp[hi]⟩
   rw[aJ,eb,ah];simp only[ht,ah,bK,Yf,dZ,hx,Ht,aiQ,abL,qO,aJ];refine⟨_,q2,rfl,by rw[List.length_set];exact hl,λy hy=> ?_⟩;rcases List.mem_or_eq_of_mem_set hy with hy|rfl
   ·exact hk y hy
   ·exact hkk
end
def aEp(n:Nd):Prop:=(-1000<=n.kind/\n.kind<=1000)/\(-1000<=n.op/\n.op<=1000)/\uZ n.text/\uZ n.other
def Rz(t:Tn):Prop:=∀b n,n∈t.flat b->aEp n
def alc:∀{ts:List Tn} {b:Nat} {n:Nd},n∈qg ts b->∃t,t∈ts/\∃b',n∈t.flat b'
 |[],b,n,h=>by simp[qg] at h
 |t::ts,b,n,h=>by
  rw[qg,List.mem_append] at h;rcases h with h|h
  ·exact⟨t,by simp,b,h⟩
  ·obtain⟨u,h1,h2⟩:=alc h;exact⟨u,by simp[h1],h2⟩
def asK{k op:Int}{x y:aI}{ts:List Tn}(hk: -1000<=k/\k<=1000)(ho: -1000<=op/\op<=1000)(hx:uZ x)(hy:uZ y)(h:∀t,t∈ts->Rz t):Rz (.mk k op x y ts):=by
 intro b n hn;rw[Tn.flat,List.mem_append] at hn;rcases hn with hn|hn
 ·obtain⟨t,h1,b',h2⟩:=alc hn;exact h t h1 b' n h2
 ·rw[List.mem_singleton.1 hn];exact⟨hk,ho,hx,hy⟩
def nK:uZ []:=by simp[uZ]
abbrev DF:=Nat->Nat×Nat
def up(r:Nat×Nat):Nat×Nat:=(r.1+1,r.2)
def aGt(a b:DF):DF:=λp=>((a p).1+(b (a p).2).1,(b (a p).2).2)
def itS(e:DF):Nat->DF
 |0,p=>(0,p)
 |n+1,p=>((e p).1+(itS e n (e p).2).1,(itS e n (e p).2).2)
def apQ(g:Nat->Nat)(p:Nat):Nat:=bif Nat.beq (g p % 7) 2 then p+3 else p+2
def afd(g:Nat->Nat):DF:=λp=>(1,apQ g p)
def lvS(g:Nat->Nat)(e1 e2:DF):DF:=λp=>match g p % 4 with
 |0=>up (e1 (p+2))
 |1=>up (e2 (p+1))
 |_=>(1,p+2)
def afe(g:Nat->Nat)(e:DF)(least w:Nat):DF:=λp=>itS e (least+g p % w) (p+1)
def RD(g:Nat->Nat)(e0 e1 e2:DF):DF:=λp=>match g (p+1) % 16 with
 |0=>afd g (p+2)
 |1=>lvS g e0 e1 (p+2)
 |2=>up (e0 (p+2))
 |3=>up (afe g e0 0 4 (p+3))
 |4=>up (afe g e1 0 4 (p+3))
 |5=>up (lvS g e1 e2 (p+2))
 |6=>up (lvS g e1 e2 (p+2))
 |7=>up (e0 (p+3))
 |8=>up (e0 (p+3))
 |9=>up (afe g e0 1 2 (p+3))
 |10=>up (itS e0 3 (p+2))
 |11=>up (aGt (lvS g e1 e2) e0 (p+3))
 |_=>up (itS e0 2 (p+3))
def amN{g:Nat->Nat}{e0 e1 e2:DF}{p:Nat}(h:12<=g (p+1) % 16):RD g e0 e1 e2 p=up (itS e0 2 (p+3)):=by unfold RD;split<;>first|omega|rfl
def VJ(g:Nat->Nat):Nat->DF×DF×DF
 |0=>(afd g,afd g,afd g)
 |d+1=>(RD g (VJ g d).1 (VJ g d).2.1 (VJ g d).2.2,(VJ g d).1,(VJ g d).2.1)
def KJ(g:Nat->Nat)(d:Nat):DF:=(VJ g d).1
def axX(g:Nat->Nat):∀d,VJ g d=(KJ g d,KJ g (d - 1),KJ g (d - 2))
 |0=>rfl
 |1=>rfl
 |d+2=>rfl
def aiR(g:Nat->Nat)(d:Nat):KJ g (d+1)=RD g (KJ g d) (KJ g (d - 1)) (KJ g (d - 2)):=by show RD g (VJ g d).1 (VJ g d).2.1 (VJ g d).2.2=_;rw[axX]
def arx(g:Nat->Nat):KJ g 0=afd g:=rfl
def Bd(b:Nat)(e:DF):Prop:=∀p,1<=(e p).1/\p+(e p).1<=(e p).2/\(e p).2<=p+b
def Bd.mono{b b':Nat}{e:DF}(h:Bd b e)(hb:b<=b'):Bd b' e:=λp=>by have:=h p;omega
def amO{b:Nat}{e:DF}(h:Bd b e):∀n p,n<=(itS e n p).1/\p+(itS e n p).1<=(itS e n p).2/\(itS e n p).2<=p+n * b
 |0,p=>by simp[itS]
 |n+1,p=>by have h1:=h p;have h2:=amO h n (e p).2;rw[itS,Nat.add_mul];simp only;omega
def asL(g:Nat->Nat):Bd 3 (afd g):=λp=>by show 1<=1/\p+1<=apQ g p/\apQ g p<=p+3;unfold apQ;cases Nat.beq (g p % 7) 2<;>simp
def axY{g:Nat->Nat}{b:Nat}{e1 e2:DF}(h1:Bd b e1)(h2:Bd b e2):Bd (b+2) (lvS g e1 e2):=λp=>by unfold lvS up;have a:=h1 (p+2);have c:=h2 (p+1);split<;>first|omega|(simp only;omega)
def amP{g:Nat->Nat}{b:Nat}{e:DF}(h:Bd b e)(least w:Nat)(hw:1<=w)(p:Nat):p+1+(afe g e least w p).1<=(afe g e least w p).2/\(afe g e least w p).2<=p+1+(least+w - 1) * b:=by unfold afe;have:=amO h (least+g p % w) (p+1);have hm:=Nat.mod_lt (g p) (show 0<w by omega);have h2:(least+g p % w) * b<=(least+w - 1) * b:=Nat.mul_le_mul_right b ak;omega
def aCP{g:Nat->Nat}{b:Nat}{e0 e1 e2:DF}(hb:3<=b)(h0:Bd b e0)(h1:Bd b e1)(h2:Bd b e2):Bd (3 * b+4) (RD g e0 e1 e2):=λp=>by unfold RD up aGt;have a2:=h0 (p+2);have a3:=h0 (p+3);have l0:=asL g (p+2);have v0:=axY (g:=g) h0 h1 (p+2);have v2:=axY (g:=g) h1 h2 (p+2);have v3:=axY (g:=g) h1 h2 (p+3);have b3:=h0 (lvS g e1 e2 (p+3)).2;have i3:=amO h0 3 (p+2);have i2:=amO h0 2 (p+3);have s0:=amP (g:=g) h0 0 4 ak (p+3);have s1:=amP (g:=g) h1 0 4 ak (p+3);have s9:=amP (g:=g) h0 1 2 ak (p+3);split<;>first|omega|(simp only;omega)
def bE:Nat->Nat
 |0=>3
 |d+1=>3 * bE d+4
def aEq:∀d,3<=bE d
 |0=>zba _
 |d+1=>by have:=aEq d;rw[bE];omega
def aCQ:∀d,bE (d - 1)<=bE d/\bE (d - 2)<=bE d
 |0=>⟨zba _,zba _⟩
 |1=>by decide
 |d+2=>by have h1:d+2 - 1=d+1:=rfl;have h2:d+2 - 2=d:=rfl;rw[h1,h2,show bE (d+2)=3 * bE (d+1)+4 from rfl,show bE (d+1)=3 * bE d+4 from rfl];omega
def Q9(g:Nat->Nat)(d:Nat):Bd (bE d) (KJ g d):=by
 induction d using Nat.strongRecOn with
 |_ d ih=>
  cases d with
  |zero=>exact asL g
  |succ d=>rw[aiR];have hm:=aCQ d;exact aCP (aEq d) (ih d ak) ((ih (d - 1) ak).mono hm.1) ((ih (d - 2) ak).mono hm.2)
abbrev DR:=Option zaN
def DTr(m:DR)(s:Cu)(r:Nat×Nat):Prop:=∃t:Tn,m=some (aP true (t.flat 0),cS s r.2)/\t.size=r.1/\Rz t
def rowT(t:Tn):Row:=[D.sl true 5 (aP true (t.flat 0))]
def DL(m:DR)(s:Cu)(r:Nat×Nat):Prop:=∃ts:List Tn,m=some (ts.map rowT,cS s r.2)/\sizes ts=r.1/\ts.length<=10/\∀t,t∈ts->Rz t
def aCR(ts:List Tn):aF (ts.map rowT)=parts ts:=axG true true ts
def bd{α:Type}{m:Option α}{x:α}{k:α->DR}{s:Cu}{r:Nat×Nat}(e:m=some x)(hk:DTr (k x) s r):DTr (m.bind k) s r:=by rw[e];exact hk
def made{s:Cu}{q:Nat}(k op:Int)(x y:aI)(ts:List Tn){z:Nat}(hz:sizes ts+1=z)(hs:z<=900000)(hk: -1000<=k/\k<=1000)(ho: -1000<=op/\op<=1000)(hx:uZ x)(hy:uZ y)(h:∀t,t∈ts->Rz t):
  DTr ((M.dW k op x y [] (aF (ts.map rowT))).bind λr=>bif[[D.sl true 5 r]].all lU then some (r,(cS s q).1,(cS s q).2.1,(cS s q).2.2) else none) s (z,q):=by
 refine⟨.mk k op x y ts, ?_, ?_,asK hk ho hx hy h⟩
 ·rw[aCR,acU k op x y [] ts ak,ah,auC,aJ]
 ·rw[Tn.size];exact hz
def Uz{t:Tn}(h:Rz t):∀u,u∈[t]->Rz u:=λu hu=>by rw[List.mem_singleton.1 hu];exact h
def aiS{s:Cu}{q:Nat}(k:Int)(x:aI)(hk: -1000<=k/\k<=1000)(hx:uZ x):DTr (some ([[D.int IntKind.i64 k,D.int IntKind.i64 0,D.str x,D.str [],D.sl true 1 []]],(cS s q).1,(cS s q).2.1,(cS s q).2.2)) s (1,q):=
 ⟨.mk k 0 x [] [],rfl,rfl,asK hk ak hx nK (by simp)⟩
def aiT{s:Cu}{e:DF}{b:Int×au×Int×Int×au->Option ((Int×au×Int×Int×au)⊕zaP)}
  (hz:∀p x,b (0,(cS s p).1,(cS s p).2.1,(cS s p).2.2,x)=some (.inr (0,(cS s p).1,(cS s p).2.1,(cS s p).2.2,x)))
  (hs:∀(n p:Nat) (ts:List Tn),n<=10->ts.length<=20->∃t,b (((n+1:Nat):Int),(cS s p).1,(cS s p).2.1,(cS s p).2.2,ts.map rowT)=some (.inl ((n:Int),(cS s (e p).2).1,(cS s (e p).2).2.1,(cS s (e p).2).2.2,(ts++[t]).map rowT))/\t.size=(e p).1/\Rz t):
  ∀(n p:Nat) (ts:List Tn),n+ts.length<=10->∃us:List Tn,dU b ((n:Int),(cS s p).1,(cS s p).2.1,(cS s p).2.2,ts.map rowT)=some (0,(cS s (itS e n p).2).1,(cS s (itS e n p).2).2.1,(cS s (itS e n p).2).2.2,(ts++us).map rowT)/\sizes us=(itS e n p).1/\us.length=n/\∀t,t∈us->Rz t
 |0,p,ts,_=>⟨[],by rw[x9,aQ (hz p _),List.append_nil];rfl,rfl,rfl,by simp⟩
 |n+1,p,ts,hn=>by
  obtain⟨t,h1,h2,h3⟩:=hs n p ts ak ak;obtain⟨us,k1,k2,k3,k4⟩:=aiT hz hs n (e p).2 (ts++[t]) (by simp;omega);refine⟨t::us, ?_, ?_,by simp[k3], ?_⟩
  ·rw[bI h1,k1,itS,VN];rfl
  ·rw[sizes,h2,k2,itS]
  ·intro u hu;rcases List.mem_cons.1 hu with rfl|hu
   ·exact h3
   ·exact k4 u hu
def auI(ts:List Tn)(t:Tn):(ts++[t]).map rowT=ts.map rowT++[[D.sl true 5 (aP true (t.flat 0))]]:=by rw[List.map_append];rfl
section
variable {s:Cu} (h:abJ s)
include h
theorem apR(p:Nat):DTr (M.BM (cS s p).1 (cS s p).2.1 (cS s p).2.2) s (afd s.g p):=by
 have hm:=Nat.mod_lt (s.g p) (show 0<7 by omega);simp only[M.BM,M.Qy,afd,apQ];rw[show((7:Int))=((7:Nat):Int) from rfl,tV h p 7 ak ak,ah];obtain⟨t1,a1,e1⟩:=axH h (p+1);obtain⟨t2,a2,e2⟩:=axI h (p+1);obtain⟨t3,a3,e3⟩:=axJ h (p+1+1);obtain⟨t4,a4,e4⟩:=ZP h (p+1+1);obtain⟨t5,a5,e5⟩:=ZP h (p+1);have hc:s.g p % 7=0\/s.g p % 7=1\/s.g p % 7=2\/3<=s.g p % 7:=ak;have e6:=MJ h (p+1) 2 ak ak;rw[show((2:Nat):Int)=2 from rfl] at e6;rcases hc with hc|hc|hc|hc
 ·rw[hc];simp only[e1,ah];exact aiS 2 t1 ak a1
 ·rw[hc];simp only[e2,ah];exact aiS 3 t2 ak a2
 ·rw[hc];simp only[e6,ah];cases hq:s.g (p+1) % 2==0 with
  |true=>simp only[hq,aJ,e3,ah];exact aiS 4 t3 ak a3
  |false=>simp only[hq,aW,e4,ah];exact aiS 1 t4 ak a4
 ·have n0:(((s.g p % 7:Nat):Int)==0)=false:=nY.2 ak;have n1:(((s.g p % 7:Nat):Int)==1)=false:=nY.2 ak;have n2:(((s.g p % 7:Nat):Int)==2)=false:=nY.2 ak;have n3:Nat.beq (s.g p % 7) 2=false:=zV ak;simp only[n0,n1,n2,n3,aW,e5,ah];exact aiS 1 t5 ak a5
end
def EX(s:Cu)(k d:Nat):Prop:=∀deep:Int, -8<=deep->deep<=5->deep.toNat=d->∀p,DTr (M.rV k deep (cS s p).1 (cS s p).2.1 (cS s p).2.2) s (KJ s.g d p)
def aiU{d:Nat}(h:d<=5):bE d<=1300:=by have:d=0\/d=1\/d=2\/d=3\/d=4\/d=5:=ak;rcases this with rfl|rfl|rfl|rfl|rfl|rfl<;>decide
section
variable {s:Cu} (h:abJ s)
include h
theorem aEr{k d:Nat}(hd:d<=5)(h1:EX s k (d - 1))(h2:EX s k (d - 2)){deep:Int}(l1: -6<=deep)(l2:deep<=5)(l3:deep.toNat=d)(p:Nat):
  DTr (M.LD (k+1) deep (cS s p).1 (cS s p).2.1 (cS s p).2.2) s (lvS s.g (KJ s.g (d - 1)) (KJ s.g (d - 2)) p):=by
 have hm:=Nat.mod_lt (s.g p) (show 0<4 by omega);have b1:=Q9 s.g (d - 1) (p+2);have b2:=Q9 s.g (d - 2) (p+1);have c1:=aiU (show d - 1<=5 by omega);have c2:=aiU (show d - 2<=5 by omega);rw[M.afn];simp only[M.BA,lvS];rw[show((4:Int))=((4:Nat):Int) from rfl,tV h p 4 ak ak,ah,aK (n:=deep - 1) ak ak,aK (n:=deep - 2) ak ak];obtain⟨t1,a1,e1⟩:=ZP h (p+1);obtain⟨u1,f1,z1,i1⟩:=h1 (deep - 1) ak ak ak (p+2);obtain⟨u2,f2,z2,i2⟩:=h2 (deep - 2) ak ak ak (p+1);have hc:s.g p % 4=0\/s.g p % 4=1\/s.g p % 4=2\/s.g p % 4=3:=ak;rcases hc with hc|hc|hc|hc
 ·rw[hc];simp only[e1,f1,ah];exact made 5 0 t1 [] [u1] (by rw[sizes,sizes,z1]) ak ak ak a1 nK (Uz i1)
 ·rw[hc];simp only[f2,ah];exact made 6 0 [] [] [u2] (by rw[sizes,sizes,z2]) ak ak ak nK nK (Uz i2)
 ·rw[hc];simp only[e1,ah];exact aiS 1 t1 ak a1
 ·rw[hc];simp only[e1,ah];exact aiS 1 t1 ak a1
theorem amQ{k:Nat}{deep:Int}{e:DF}{b:Nat}(hb:Bd b e)(hb2:b<=2000)(he:∀p,DTr (M.rV k deep (cS s p).1 (cS s p).2.1 (cS s p).2.2) s (e p))(least most:Nat)(hl:least<=most)(hm:most<=5)(p:Nat):
  DL (M.Qz (k+1) least most deep (cS s p).1 (cS s p).2.1 (cS s p).2.2) s (afe s.g e least (most - least+1) p):=by
 rw[M.ajn];simp only[M.HY];have hmod:=Nat.mod_lt (s.g p) (show 0<most - least+1 by omega);have e1:i64.wrap (i64.wrap ((most:Int) - least)+1)=((most - least+1:Nat):Int):=by rw[aK (n:=(most:Int) - least) ak ak,aK ak ak];omega
 rw[e1,tV h p (most - least+1) ak ak,ah];have e2:i64.wrap ((least:Int)+((s.g p %(most - least+1):Nat):Int))=((least+s.g p %(most - least+1):Nat):Int):=by rw[aK ak ak];omega
 simp only[e2];obtain⟨us,k1,k2,k3,k4⟩:=aiT (s:=s) (e:=e) (b:=M.P5 (M.rV k) deep) (λp x=>rfl) (λn p ts hn ht=>by obtain⟨t,f1,z1,i1⟩:=he p;refine⟨t, ?_,z1,i1⟩;simp only[I7,M.P5,M.JR,f1,ah,zbb,TG];rw[zdt ak,aJ,fM ak,aJ,fM ak,aJ,aK ak ak,auI];simp) (least+s.g p %(most - least+1)) (p+1) [] (by simp;omega);refine⟨us, ?_,k2,ak,k4⟩;have k1':M.NS (M.rV k) deep (((least+s.g p %(most - least+1):Nat):Int),(cS s (p+1)).1,(cS s (p+1)).2.1,(cS s (p+1)).2.2,[])=_:=k1;rw[k1',ah];rfl
theorem auJ{d j:Nat}(hd:d+1<=5)(H:∀i,j<=i->EX s i d/\EX s i (d - 1)/\EX s i (d - 2)):EX s (j+2) (d+1):=by
 intro deep l1 l2 l3 p;obtain⟨h0,hq1,hq2⟩:=H j (zba _);obtain⟨h0',_,_⟩:=H (j+1) ak;have hm:=Nat.mod_lt (s.g (p+1)) (show 0<16 by omega);have hm2:=Nat.mod_lt (s.g p) (show 0<2 by omega);have c0:=aiU (show d<=5 by omega);have c1:=aiU (show d - 1<=5 by omega);have hB:=Q9 s.g (d+1) p;have hB2:=aiU hd;have hB3:(KJ s.g (d+1) p).1<=900000:=ak;rw[aiR] at hB3|-;rw[M.aat];simp only[M.D6,M.Jh];have w1:i64.wrap (deep - 1)=deep - 1:=aK ak ak;have w2:i64.wrap (deep - 2)=deep - 2:=aK ak ak;have e2:=tV h p 2 ak ak;have e16:=tV h (p+1) 16 ak ak;rw[show((2:Nat):Int)=2 from rfl] at e2;rw[show((16:Nat):Int)=16 from rfl] at e16;rw[rF ak,aW,e2,ah,e16,ah];simp only[w1,w2];have hdd:d+1 - 1=d:=rfl;have hd2:d+1 - 2=d - 1:=ak;have L0:=λq=>amQ h (Q9 s.g d) ak (h0 (deep - 1) ak ak ak) 0 3 ak ak q
 have L1:=λq=>amQ h (Q9 s.g (d - 1)) ak (hq1 (deep - 2) ak ak ak) 0 3 ak ak q
 have L2:=λq=>amQ h (Q9 s.g d) ak (h0 (deep - 1) ak ak ak) 1 2 ak ak q
 have X0:=h0' (deep - 1) ak ak ak;have V0:=aEr h (show d+1<=5 by omega) (k:=j) (by rw[hdd];exact h0) (by rw[hd2];exact hq1) (deep:=deep) ak ak l3;have V1:=aEr h (show d<=5 by omega) (k:=j) hq1 hq2 (deep:=deep - 1) ak ak ak;rw[hdd,hd2] at V0;rcases Nat.lt_or_ge (s.g (p+1) % 16) 12 with hlt|hbig
 ·unfold RD at hB3|-;have hc:s.g (p+1) % 16=0\/s.g (p+1) % 16=1\/s.g (p+1) % 16=2\/s.g (p+1) % 16=3\/s.g (p+1) % 16=4\/s.g (p+1) % 16=5\/s.g (p+1) % 16=6\/s.g (p+1) % 16=7\/s.g (p+1) % 16=8\/s.g (p+1) % 16=9\/s.g (p+1) % 16=10\/s.g (p+1) % 16=11:=ak;rcases hc with hc|hc|hc|hc|hc|hc|hc|hc|hc|hc|hc|hc<;>rw[hc] at hB3|-
  ·obtain⟨t,f,z,i⟩:=apR h (p+2);exact bd f ⟨t,rfl,z,i⟩
  ·obtain⟨t,f,z,i⟩:=V0 (p+2);exact bd f ⟨t,rfl,z,i⟩
  ·obtain⟨t,f,z,i⟩:=X0 (p+2);exact bd f (made 6 0 [] [] [t] (by rw[sizes,sizes,z]) hB3 ak ak nK nK (Uz i))
  ·obtain⟨x,a,e⟩:=ZP h (p+2);obtain⟨ts,f,z,_,i⟩:=L0 (p+3);exact bd e (bd f (made 7 0 x [] ts (by rw[z]) hB3 ak ak a nK i))
  ·obtain⟨ts,f,z,_,i⟩:=L1 (p+3);exact bd (Xz h _ _ rfl) (bd f (made 8 0 _ [] ts (by rw[z]) hB3 ak ak (yH rfl _) nK i))
  ·obtain⟨t,f,z,i⟩:=V1 (p+2);exact bd f (made 9 _ [] [] [t] (by rw[sizes,sizes,z]) hB3 ak (by rw[aK ak ak];omega) nK nK (Uz i))
  ·obtain⟨t,f,z,i⟩:=V1 (p+2);exact bd f (made 10 _ [] [] [t] (by rw[sizes,sizes,z]) hB3 ak (by rw[aK ak ak];omega) nK nK (Uz i))
  ·obtain⟨t,f,z,i⟩:=X0 (p+3);exact bd (WC h _ _ rfl) (bd f (made 11 _ [] [] [t] (by rw[sizes,sizes,z]) hB3 ak (TN rfl _) nK nK (Uz i)))
  ·obtain⟨t,f,z,i⟩:=X0 (p+3);exact bd (WC h _ _ rfl) (bd f (made 11 _ [] [] [t] (by rw[sizes,sizes,z]) hB3 ak (TN rfl _) nK nK (Uz i)))
  ·obtain⟨x,a,e⟩:=ZP h (p+2);obtain⟨ts,f,z,_,i⟩:=L2 (p+3);exact bd e (bd f (made 13 0 x [] ts (by rw[z]) hB3 ak ak a nK i))
  ·obtain⟨t1,f1,z1,i1⟩:=X0 (p+2);obtain⟨t2,f2,z2,i2⟩:=X0 (KJ s.g d (p+2)).2;obtain⟨t3,f3,z3,i3⟩:=X0 (KJ s.g d (KJ s.g d (p+2)).2).2;exact bd f1 (bd f2 (bd f3 (made 14 0 [] [] [t1,t2,t3] (by simp only[sizes,z1,z2,z3,itS]) hB3 ak ak nK nK (by simp[i1,i2,i3]))))
  ·obtain⟨t1,f1,z1,i1⟩:=V1 (p+3);obtain⟨t2,f2,z2,i2⟩:=X0 (lvS s.g (KJ s.g (d - 1)) (KJ s.g (d - 2)) (p+3)).2;exact bd (WC h _ _ rfl) (bd f1 (bd f2 (made 15 _ [] [] [t1,t2] (by simp only[sizes,z1,z2,aGt];omega) hB3 ak (TN rfl _) nK nK (by simp[i1,i2]))))
 ·rw[amN hbig] at hB3|-;have nn:∀n:Int,n<12->(((s.g (p+1) % 16:Nat):Int)==n)=false:=λn hn=>nY.2 ak
  simp only[nn 0 ak,nn 1 ak,nn 2 ak,nn 3 ak,nn 4 ak,nn 5 ak,nn 6 ak,nn 7 ak,nn 8 ak,nn 9 ak,nn 10 ak,nn 11 ak,aW];obtain⟨o,o1,o2,e⟩:=axK h (p+2);obtain⟨t1,f1,z1,i1⟩:=X0 (p+3);obtain⟨t2,f2,z2,i2⟩:=X0 (KJ s.g d (p+3)).2;exact bd e (bd f1 (bd f2 (made 12 o [] [] [t1,t2] (by simp only[sizes,z1,z2,itS]) hB3 ak ⟨o1,o2⟩ nK nK (by simp[i1,i2]))))
theorem axZ:∀(d k:Nat),d<=5->2 * d+1<=k->EX s k d:=by
 intro d;induction d using Nat.strongRecOn with
 |_ d ih=>
  intro k hd hk;cases d with
  |zero=>
   obtain⟨k,rfl⟩:∃j,k=j+1:=⟨k - 1,ak⟩
   intro deep l1 l2 l3 p;rw[M.aat,arx];simp only[M.D6,M.Jh];rw[zdt ak,aJ];obtain⟨t,f,z,i⟩:=apR h p;simp only[f,ah];exact⟨t,rfl,z,i⟩
  |succ d=>
   obtain⟨j,rfl⟩:∃j,k=j+2:=⟨k - 2,ak⟩
   exact auJ h hd λi hi=>⟨ih d ak i ak ak,ih (d - 1) ak i ak ak,ih (d - 2) ak i ak ak⟩
theorem aCS{deep:Int}(l1: -8<=deep)(l2:deep<=5)(p:Nat):DTr (M.oV deep (cS s p).1 (cS s p).2.1 (cS s p).2.2) s (KJ s.g deep.toNat p):=by obtain⟨t,f,z,i⟩:=axZ h deep.toNat (2 * deep.toNat+1) ak (zba _) deep l1 l2 rfl p;exact⟨t,M.ahf f,z,i⟩
end
def XU(g:Nat->Nat):DF:=λp=>KJ g (1+g p % 4) (p+1)
section
variable {g:Nat->Nat}
def aCT:Bd 404 (XU g):=λp=>by
 have hm:=Nat.mod_lt (g p) (show 0<4 by omega);have h:g p % 4=0\/g p % 4=1\/g p % 4=2\/g p % 4=3:=ak;unfold XU;have E:Bd 403 (KJ g (1+g p % 4)):=by
  rcases h with h|h|h|h<;>rw[h]
  ·exact(Q9 g 1).mono (by decide)
  ·exact(Q9 g 2).mono (by decide)
  ·exact(Q9 g 3).mono (by decide)
  ·exact Q9 g 4
 have:=E (p+1);omega
end
def mkT:Nat->Int->Nat
 |0,_=>0
 |n+1,h=>ach (anL (nxH h))+256 * mkT n (nxH h)
def aTP:Nat->Int->Nat
 |0,_=>0
 |m+1,h=>mkT 60 h+256 ^ 60 * aTP m (it nxH 60 h)
def aGu:Nat:=aTP 50 0
def amR:Nat->Int->Nat->Bool
 |0,_,_=>true
 |n+1,h,t=>Nat.beq (ach (anL (nxH h))) (t % 256) && amR n (nxH h) (t / 256)
def ald:∀(n:Nat) (h:Int) (t:Nat),amR n h t=true->∀k,k<n->ach (anL (nxH (it nxH k h)))=t / 256 ^ k % 256
 |0,_,_,_,k,hk=>absurd hk (Nat.not_lt_zero k)
 |n+1,h,t,hc,k,hk=>by
  rw[amR] at hc;simp only[wo] at hc;cases k with
  |zero=>rw[aq0,Nat.pow_zero,Nat.div_one];exact Ia hc.1
  |succ k=>have:=ald n (nxH h) (t / 256) hc.2 k ak;rw[af4,this,Nat.div_div_eq_div_mul,Nat.pow_succ,Nat.mul_comm 256]
def aGv:amR 3000 0 aGu=true:=by kernel_rfl
def gTab(p:Nat):Nat:=bif Nat.blt p 3000 then aGu / 256 ^ p % 256 else ae3 p
def aTQ:gTab=ae3:=by
 funext p;unfold gTab;cases hp:Nat.blt p 3000 with
 |false=>rfl
 |true=>rw[Nat.blt_eq] at hp;exact(ald 3000 0 aGu aGv p hp).symm
def ax0:(List.range 405).all (λj=>Nat.ble (XU gTab j).1 60)=true:=by kernel_rfl
def arz(j:Nat)(hj:j<=404):(XU ae3 j).1<=60:=by rw[<-aTQ];exact Nat.le_of_ble_eq_true (List.all_eq_true.1 ax0 j (List.mem_range.2 ak))
def afg(s:Cu)(p q:Nat):cS (s.st p) q=cS s (p+q):=by unfold cS;rw[Cu.anM]
abbrev LpS:=(au×Int×Int)⊕zaQ
abbrev LpT:=au×Int×Int×au
def aiV(s:Cu)(p:Nat):LpS->Prop
 | .inl c=>c=cS s p
 | .inr (_,c,c1,c2,_)=>(c,c1,c2)=cS s p
def amS{s:Cu}{p q:Nat}{x:LpS}:aiV (s.st p) q x↔aiV s (p+q) x:=by
 cases x with
 |inl c=>simp only[aiV,afg]
 |inr c=>simp only[aiV,afg]
def DX(m:DR)(s:Cu)(lim:Nat):Prop:=∃(t:Tn) (q:Nat),m=some (aP true (t.flat 0),cS s q)/\t.size<=lim/\Rz t
def aCU{b:LpS->Option (LpS⊕LpT)}{f:(Nat->Nat)->DF}{lim L:Nat}
  (hf:∀{s:Cu},abJ s->∀p,∃t:Tn,t.size=(f s.g p).1/\Rz t/\∀x,aiV s p x->b x=(bif decide ((t.size:Int)<=(lim:Int)) then some (.inr ((cS s (f s.g p).2).1,(cS s (f s.g p).2).2.1,(cS s (f s.g p).2).2.2,aP true (t.flat 0)))
   else some (.inl (.inr (false,(cS s (f s.g p).2).1,(cS s (f s.g p).2).2.1,(cS s (f s.g p).2).2.2,aP true (t.flat 0))))))
  (hbd:∀g,Bd L (f g)) (hsm:∀j,j<=L->(f ae3 j).1<=lim):∀s:Cu,abJ s->∀x,aiV s 0 x->∃(q:Nat) (t:Tn),dU b x=some ((cS s q).1,(cS s q).2.1,(cS s q).2.2,aP true (t.flat 0))/\t.size<=lim/\Rz t:=by
 intro s hs;refine atK f lim L (λu=>u.code.length<=1048576->∀x,aiV u 0 x->∃(q:Nat) (t:Tn),dU b x=some ((cS u q).1,(cS u q).2.1,(cS u q).2.2,aP true (t.flat 0))/\t.size<=lim/\Rz t) ?_ hsm s hs.i hs.l;intro s p hi;have hb:=hbd s.g p;refine⟨ak,ak,λhz hl x hx=> ?_,λhP hl x hx=> ?_⟩
 ·rw[Cu.Ls] at hl;rw[amS,Nat.add_zero] at hx;obtain⟨t,z,i,hbx⟩:=hf ⟨hi,hl⟩ p;have e:=hbx x hx;rw[zdt ak,aJ] at e;refine⟨(f s.g p).2 - p,t, ?_,ak,i⟩;rw[afg,show p+((f s.g p).2 - p)=(f s.g p).2 by omega];exact aQ e
 ·rw[Cu.Ls] at hl;rw[amS,Nat.add_zero] at hx;obtain⟨t,z,i,hbx⟩:=hf ⟨hi,hl⟩ p;have e:=hbx x hx
  by_cases hz:(t.size:Int)<=(lim:Int)
  ·rw[zdt hz,aJ] at e;refine⟨(f s.g p).2 - p,t, ?_,ak,i⟩;rw[afg,show p+((f s.g p).2 - p)=(f s.g p).2 by omega];exact aQ e
  ·rw[rF hz,aW] at e;obtain⟨q,t',k1,k2,k3⟩:=hP (by rw[Cu.Ls];exact hl) _ (show aiV (s.st (f s.g p).2) 0 (.inr (false,(cS s (f s.g p).2).1,(cS s (f s.g p).2).2.1,(cS s (f s.g p).2).2.2,aP true (t.flat 0))) from by rw[amS];rfl);refine⟨(f s.g p).2 - p+q,t', ?_,k2,k3⟩;rw[bI e,k1,afg,afg,show p+((f s.g p).2 - p+q)=(f s.g p).2+q by omega]
section
variable {s:Cu} (h:abJ s)
include h
theorem arA(p:Nat):∃t:Tn,t.size=(XU s.g p).1/\Rz t/\∀x,aiV s p x->M.EC x=(bif decide ((t.size:Int)<=((60:Nat):Int)) then some (.inr ((cS s (XU s.g p).2).1,(cS s (XU s.g p).2).2.1,(cS s (XU s.g p).2).2.2,aP true (t.flat 0)))
   else some (.inl (.inr (false,(cS s (XU s.g p).2).1,(cS s (XU s.g p).2).2.1,(cS s (XU s.g p).2).2.2,aP true (t.flat 0))))):=by
 have hm:=Nat.mod_lt (s.g p) (show 0<4 by omega);have w1:i64.wrap (1+((s.g p % 4:Nat):Int))=((1+s.g p % 4:Nat):Int):=by rw[aK ak ak];omega
 have e4:=tV h p 4 ak ak;rw[show((4:Nat):Int)=4 from rfl] at e4;obtain⟨t,f,z,i⟩:=aCS h (deep:=((1+s.g p % 4:Nat):Int)) ak ak (p+1);rw[Yf] at f z;refine⟨t,z,i,λx hx=> ?_⟩;cases x with
 |inl c=>simp only[aiV] at hx;subst hx;simp only[M.EC,M.Ez,e4,ah,w1,f,dI,t.flat_length];cases decide ((t.size:Int)<=60)<;>rfl
 |inr c=>obtain⟨v,c,c1,c2,xx⟩:=c;simp only[aiV] at hx;cases hx;have e4':M.bT 4 (cR (s.st p)) ((s.st p).i:Int) (s.st p).h=_:=e4;simp only[M.EC,M.Ez,e4',ah,w1,f,dI,t.flat_length];cases decide ((t.size:Int)<=60)<;>rfl
theorem aCV(p:Nat):DX (M.BO (cS s p).1 (cS s p).2.1 (cS s p).2.2) s 60:=by obtain⟨q,t,k1,k2,k3⟩:=aCU (b:=M.EC) (f:=XU) (lim:=60) (L:=404) (λh p=>arA h p) (λg=>aCT) arz (s.st p) (h.st p) (.inl (cS s p)) (by show cS s p=cS (s.st p) 0;rw[afg];rfl);have k1':M.NU (.inl ((cS s p).1,(cS s p).2.1,(cS s p).2.2))=_:=k1;rw[afg] at k1';refine⟨t,p+q, ?_,k2,k3⟩;simp only[M.BO,M.QA];rw[k1',ah]
end
def ax1(c:aI)(hc:c.length<=1048576):∃h,M.DU (c.map byteRow)=some (c.map byteRow,0,h):=by
 have key:∀(n i:Nat) (h:Int),c.length - i=n->∃t,dU (M.GV (c.map byteRow)) (h,(i:Int))=some t:=by
  intro n;induction n with
  |zero=>intro i h hi;refine⟨(h,(i:Int)),aQ ?_⟩;simp only[M.GV,M.Bz,zbb];rw[rF ak,aW]
  |succ n ih=>
   intro i h hi
   by_cases h4:i<4000
   ·obtain⟨b,hb⟩:∃b,c[i]? =some b:=⟨c[i],by simp⟩
    have hr:idx (c.map byteRow) (i:Int)=some (byteRow b):=by rw[bK,List.getElem?_map,hb];rfl
    have hcI:dG .u8 (byteRow b) 0=some (b.toNat:Int):=rfl;obtain⟨t,ht⟩:=ih (i+1) _ ak;refine⟨t, ?_⟩;rw[<-ht];apply bI;simp only[M.GV,M.Bz,zbb];rw[zdt ak,aJ,zdt ak,aJ,hr,ah,hcI,ah,aK (n:=(i:Int)+1) ak ak];rfl
   ·refine⟨(h,(i:Int)),aQ ?_⟩;simp only[M.GV,M.Bz,zbb];rw[zdt ak,aJ,rF ak,aW]
 obtain⟨t,ht⟩:=key c.length 0 (i64.wrap (10101+(((c.map byteRow).length:Nat):Int))) ak;refine⟨t.fst, ?_⟩;simp only[M.DU,M.Tc];rw[show M.Qs (c.map byteRow) (i64.wrap (10101+(((c.map byteRow).length:Nat):Int)),0)=some t from ht,ah]
end Go.Proofs.YthmchnpcplgciaaGreatDoor
namespace Go.Proofs.YthmchnpcplgciaaGreatDoor
open Go Go.Vm
open Int (reduceLE)
def VK{α:Type}(f:Nat->PR α)(r:PR α):Prop:=∃N,∀n,N<=n->f n=r
def lJ{α:Type}(r:PR α):VK (λ_=>r) r:=⟨0,λ_ _=>rfl⟩
def kJ{α:Type}{f:Nat->PR α}{r:PR α}(h:VK (λn=>f (n+1)) r):VK f r:=by
 obtain⟨N,h⟩:=h;refine⟨N+1,λn hn=> ?_⟩;obtain⟨m,rfl⟩:∃m,n=m+1:=⟨n - 1,ak⟩
 exact h m ak
def jh{α β:Type}{f:Nat->PR α}{g:Nat->α->Nat->kH->PR β}{x:α}{j:Nat}{m:kH}{r:PR β}(h:VK f (.ok x j m))(k:VK (λn=>g n x j m) r):VK (λn=>(f n).bind (g n)) r:=by obtain⟨N,h⟩:=h;obtain⟨K,k⟩:=k;refine⟨N+K,λn hn=> ?_⟩;have h1:=h n ak;have k1:=k n ak;simp only[h1];exact k1
def dA{α:Type}{f g:Nat->PR α}{r:PR α}(h:VK f r)(e:∀n,g n=f n):VK g r:=by obtain⟨N,h⟩:=h;exact⟨N,λn hn=>by rw[e];exact h n hn⟩
structure Stp(lv:Nat)(a b:Bool)(k:Int):Prop where
 asg:lv<=1->F7 k=false
 cond:lv<=2->k≠65
 op:∀m:Nat,lv<=m->dP k=(m:Int)->b=true/\k=62
 in_:lv<=5->a=false->k≠24
 cat:lv<=8->O9 k=false
 step:lv<=13->isStep k=false
 brk:k≠34
def Stp.mono{lv lv':Nat}{a b:Bool}{k:Int}(h:Stp lv a b k)(hl:lv<=lv'):Stp lv' a b k:=
 ⟨λe=>h.asg ak,λe=>h.cond ak,λm e=>h.op m ak,λe=>h.in_ ak,λe=>h.cat ak,λe=>h.step ak,h.brk⟩
def ax2{lv:Nat}{a b:Bool}{k:Int}(h:Stp lv a b k){m:Nat}(hm:lv<=m)(h7:m≠7):dP k≠(m:Int):=λe=>by have:=h.op m hm e;rw[this.2] at e;have h62:dP 62=7:=rfl;omega
def asM{lv:Nat}{a b:Bool}{k:Int}(h:Stp lv a b k):oN lv (b && Nat.beq lv 7) k=false:=by
 unfold oN;cases h8:Nat.beq lv 8 with
 |true=>rw[aJ];exact h.cat (by rw[Nat.beq_eq] at h8;omega)
 |false=>
  rw[aW]
  by_cases h7:lv=7
  ·subst h7;rw[show Nat.beq 7 7=true from rfl,Bool.and_true];cases hc:dP k==((7:Nat):Int) with
   |false=>rfl
   |true=>rw[beq_iff_eq] at hc;have:=h.op 7 (zba _) hc;rw[this.1,this.2];rfl
  ·have:=ax2 h (zba _) h7;rw[nY.2 this,Bool.false_and]
def bgE(k:Int):Prop:=(3<=k/\k<=8)\/k=32\/k=68\/k=51\/k=52\/k=55\/k=56\/k=61
variable {l:List Tk}
def drop_at{i:Nat}{k:Int}(h:aO l i=k)(h0:k≠0):∃t,l.drop i=t::l.drop (i+1)/\t.kind=k:=by
 unfold aO at h;cases ht:l[i]? with
 |none=>rw[ht] at h;exact absurd h.symm h0
 |some t=>rw[ht] at h;have hl:=Qm.1 ht;exact⟨t,by rw[List.drop_eq_getElem_cons hl.1,hl.2],h⟩
def ntr(k:Int):Prop:=k≠0/\k≠30/\k≠31/\k≠32/\k≠33/\k≠34/\k≠35/\k≠36
def qP{i:Nat}(h:ntr (aO l i)){d:Int}(hd:1<=d):ahead (l.drop i) d=ahead (l.drop (i+1)) d:=by
 obtain⟨h0,h1,h2,h3,h4,h5,h6,h7⟩:=h;obtain⟨t,e,hk⟩:=drop_at rfl h0;rw[e,ahead,hk];have e1:JE (aO l i)=false:=by unfold JE;simp[h1,h3,h5]
 have e2:KR (aO l i)=false:=by unfold KR;simp[h2,h4,h6]
 rw[e1,e2,nY.2 h7,Bool.false_and,rF (show¬d<=0 by omega)];rfl
def JF{i:Nat}(h:aO l i=32\/aO l i=34)(d:Int):ahead (l.drop i) d=ahead (l.drop (i+1)) (d+1):=by
 obtain⟨t,e,hk⟩:=drop_at (l:=l) (i:=i) rfl ak;rw[e,ahead,hk];have e1:JE (aO l i)=true:=by unfold JE;rcases h with h|h<;>rw[h]<;>rfl
 rw[e1];rfl
def UA{i:Nat}(h:aO l i=33\/aO l i=35){d:Int}(hd:2<=d):ahead (l.drop i) d=ahead (l.drop (i+1)) (d - 1):=by
 obtain⟨t,e,hk⟩:=drop_at (l:=l) (i:=i) rfl ak;rw[e,ahead,hk];have e1:JE (aO l i)=false:=by unfold JE;rcases h with h|h<;>rw[h]<;>rfl
 have e2:KR (aO l i)=true:=by unfold KR;rcases h with h|h<;>rw[h]<;>rfl
 rw[e1,e2,rF (show¬d - 1<=0 by omega)];rfl
def Zx{i:Nat}(h:aO l i=33):ahead (l.drop i) 1=false:=by obtain⟨t,e,hk⟩:=drop_at (l:=l) (i:=i) rfl ak;rw[e,ahead,hk,h];rfl
def auK{i:Nat}(h:aO l i=36){d:Int}(hd:2<=d):ahead (l.drop i) d=ahead (l.drop (i+1)) d:=by obtain⟨t,e,hk⟩:=drop_at (l:=l) (i:=i) rfl ak;rw[e,ahead,hk,h];rw[show JE 36=false from rfl,show KR 36=false from rfl,nY.2 (show d≠1 by omega),rF (show¬d<=0 by omega)];rfl
def arB{i:Nat}(h:aO l i=36):ahead (l.drop i) 1=true:=by obtain⟨t,e,hk⟩:=drop_at (l:=l) (i:=i) rfl ak;rw[e,ahead,hk,h];rfl
def pst(l:List Tk)(i i':Nat):Prop:=i<=i'/\∀k,i<=k->k<i'->aO l k=1
def arC{i':Nat}(hk:aO l i'≠1/\aO l i'≠2)(nt:kH):∀(d i:Nat),i' - i=d->pst l i i'->nl l i nt=(i',nt)
 |0,i,hd,h=>by
  obtain rfl:i=i':=by have:=h.1;omega
  unfold nl;unfold aO at hk;cases ht:l[i]? with
  |none=>rw[List.getElem?_eq_none_iff] at ht;rw[List.drop_eq_nil_of_le ht,nlR]
  |some t=>rw[ht] at hk;simp only at hk;have hl:=Qm.1 ht;rw[List.drop_eq_getElem_cons hl.1,hl.2,nlR,nY.2 hk.1,nY.2 hk.2];rfl
 |d+1,i,hd,h=>by have h1:=h.2 i (zba _) ak;obtain⟨t,e,ht⟩:=drop_at (l:=l) (i:=i) rfl (show aO l i≠0 by rw[h1];decide);have ih:=arC hk nt d (i+1) ak ⟨ak,λk h2 h3=>h.2 k ak h3⟩;unfold nl at ih|-;rw[e,nlR,ht,h1];exact ih
end Go.Proofs.YthmchnpcplgciaaGreatDoor
namespace Go.Proofs.YthmchnpcplgciaaGreatDoor
open Go Go.Vm
open Int (reduceLE)
def chain(lv:Nat):Prop:=lv=3\/lv=4\/lv=8\/lv=9\/lv=10
structure Rl(l:List Tk)(x:Xp)(i j:Nat)(a b:Bool)(lv:Nat):Prop where
 s1:∀nt,Stp lv a b (aO l j)->VK (λn=>ex l n lv a b i nt) (.ok x j nt)
 s2:chain lv->∀nt r,Stp (lv+1) a b (aO l j)->VK (λn=>UK l n lv a b x j nt) r->VK (λn=>ex l n lv a b i nt) r
 s5:lv=5->∀nt r,Stp 6 a b (aO l j)->VK (λn=>TQ l n a x j nt) r->VK (λn=>ex l n 5 a b i nt) r
structure Fst(l:List Tk)(i:Nat)(L:Nat):Prop where
 bg:bgE (aO l i)
 una:12<=L->aO l i≠55/\aO l i≠56/\aO l i≠61
 step:14<=L->isStep (aO l i)=false
 dol:15<=L->aO l i≠68
 nc:6<=L->aO l i=32->ahead (l.drop i) 0=false
variable {l:List Tk} {x:Xp} {i j:Nat} {a b:Bool}
def aCW{lv:Nat}{n:Nat}{nt:kH}(h:Stp lv a b (aO l j)):UK l (n+1) lv a b x j nt=.ok x j nt:=by rw[UK,asM h,aW]
def aCX{lv:Nat}{n:Nat}{nt:kH}(h:Stp lv a b (aO l j))(hl:lv<=5):TQ l (n+1) a x j nt=.ok x j nt:=by
 rw[TQ];have:(aO l j==24 && !a)=false:=by
  cases a with
  |true=>rw[zaZ,Bool.and_false]
  |false=>rw[nY.2 (h.in_ hl rfl),Bool.false_and]
 rw[this,aW]
def ax3{lv:Nat}{nt:kH}(h:Stp lv a b (aO l j)):VK (λn=>UK l n lv a b x j nt) (.ok x j nt):=kJ (dA (lJ _) λn=>aCW h)
def arD{lv:Nat}{nt:kH}(h:Stp lv a b (aO l j))(hl:lv<=5):VK (λn=>TQ l n a x j nt) (.ok x j nt):=kJ (dA (lJ _) λn=>aCX h hl)
def ax4{lv:Nat}(hc:chain lv)(n:Nat)(i:Nat)(nt:kH):ex l (n+1) lv a b i nt=(ex l n (lv+1) a b i nt).bind λx i nt=>UK l n lv a b x i nt:=by rcases hc with rfl|rfl|rfl|rfl|rfl<;>rw[ex]
def ax5{lv:Nat}(hc:chain lv)(h:Rl l x i j a b (lv+1)):Rl l x i j a b lv:=by
 have key:∀nt r,Stp (lv+1) a b (aO l j)->VK (λn=>UK l n lv a b x j nt) r->VK (λn=>ex l n lv a b i nt) r:=λnt r hs hr=>kJ (dA (jh (h.s1 nt hs) hr) λn=>ax4 hc n i nt)
 refine⟨λnt hs=>key nt _ (hs.mono ak) (ax3 hs),λ_=>key,λe=> ?_⟩;unfold chain at hc;omega
def ax6(hf:Fst l i 6):((aO l i==32 && !a) && ahead (l.drop i) 0)=false:=by
 by_cases h:aO l i=32
 ·rw[hf.nc (zba _) h,Bool.and_false]
 ·rw[nY.2 h,Bool.false_and,Bool.false_and]
def down{L lv:Nat}(hf:Fst l i L)(hl:lv<L)(h1:1<=lv)(h15:L<=15)(h:Rl l x i j a b (lv+1)):Rl l x i j a b lv:=by
 by_cases hc:chain lv
 ·exact ax5 hc h
 have hlv:lv=1\/lv=2\/lv=5\/lv=6\/lv=7\/lv=11\/lv=12\/lv=13\/lv=14:=by unfold chain at hc;omega
 have aCY:chain lv->∀nt r,Stp (lv+1) a b (aO l j)->VK (λn=>UK l n lv a b x j nt) r->VK (λn=>ex l n lv a b i nt) r:=λe=>absurd e hc
 have mk:(∀nt,Stp lv a b (aO l j)->VK (λn=>ex l n lv a b i nt) (.ok x j nt))->(lv=5->∀nt r,Stp 6 a b (aO l j)->VK (λn=>TQ l n a x j nt) r->VK (λn=>ex l n 5 a b i nt) r)->Rl l x i j a b lv:=λh1 h5=>⟨h1,aCY,h5⟩
 rcases hlv with rfl|rfl|rfl|rfl|rfl|rfl|rfl|rfl|rfl
 ·refine mk (λnt hs=>kJ (dA (jh (g:=λn x i nt=>bif tgt x && F7 (aO l i) then(ex l n 1 a b (i+1) nt).bind λy j nt=> .ok (.mk 15 (aO l i) [] [] [x.1,y.1],false) j nt else .ok x i nt) (h.s1 nt (hs.mono ak)) (dA (lJ _) λn=> ?_)) λn=>by rw[ex])) λe=>by omega
  rw[hs.asg (zba _),Bool.and_false,aW]
 ·refine mk (λnt hs=>kJ (dA (jh (g:=λn x i nt=>bif aO l i==65 then(ex l n 2 a b (i+1) nt).bind λy i nt=>(qH l 66 i nt).bind λ_ i nt=>(ex l n 2 a b i nt).bind λz i nt=>.ok (.mk 14 0 [] [] [x.1,y.1,z.1],false) i nt else .ok x i nt) (h.s1 nt (hs.mono ak)) (dA (lJ _) λn=> ?_)) λn=>by rw[ex])) λe=>by omega
  rw[nY.2 (hs.cond (zba _)),aW]
 ·have hm:=ax6 (a:=a) ⟨hf.bg,λe=>by omega,λe=>by omega,λe=>by omega,λ_=>hf.nc ak⟩;have key:∀nt r,Stp 6 a b (aO l j)->VK (λn=>TQ l n a x j nt) r->VK (λn=>ex l n 5 a b i nt) r:=λnt r hs hr=>kJ (dA (jh (g:=λn x i nt=>TQ l n a x i nt) (h.s1 nt hs) hr) λn=>by rw[ex,hm,aW])
  exact mk (λnt hs=>key nt _ (hs.mono ak) (arD hs (zba _))) λ_=>key
 ·refine mk (λnt hs=>kJ (dA (jh (g:=λn x i nt=>bif aO l i==67||aO l i==46 then(ex l n 7 a b (i+1) nt).bind λy j nt=> .ok (.mk 12 (aO l i) [] [] [x.1,y.1],false) j nt else .ok x i nt) (h.s1 nt (hs.mono ak)) (dA (lJ _) λn=> ?_)) λn=>by rw[ex])) λe=>by omega
  have h6:=ax2 hs (zba _) (by decide);have e1:aO l j≠67:=λe=>h6 (by rw[e];rfl)
  have e2:aO l j≠46:=λe=>h6 (by rw[e];rfl)
  rw[nY.2 e1,nY.2 e2,Bool.or_self,aW]
 ·refine mk (λnt hs=>kJ (dA (jh (g:=λn x i nt=>bif oN 7 b (aO l i) then(ex l n 8 a b (i+1) nt).bind λy j nt=> .ok (.mk 12 (aO l i) [] [] [x.1,y.1],false) j nt else .ok x i nt) (h.s1 nt (hs.mono ak)) (dA (lJ _) λn=> ?_)) λn=>by rw[ex])) λe=>by omega
  have:=asM hs;rw[show Nat.beq 7 7=true from rfl,Bool.and_true] at this;rw[this,aW]
 ·refine mk (λnt hs=>kJ (dA (h.s1 nt (hs.mono ak)) λn=> ?_)) λe=>by omega
  have hu:=hf.una ak;rw[ex,nY.2 hu.1,nY.2 hu.2.1,nY.2 hu.2.2,Bool.or_self,Bool.or_self,aW]
 ·refine mk (λnt hs=>kJ (dA (jh (g:=λn x i nt=>bif aO l i==60 then(ex l n 11 a b (i+1) nt).bind λy j nt=> .ok (.mk 12 60 [] [] [x.1,y.1],false) j nt else .ok x i nt) (h.s1 nt (hs.mono ak)) (dA (lJ _) λn=> ?_)) λn=>by rw[ex])) λe=>by omega
  have h6:=ax2 hs (zba _) (by decide);have e1:aO l j≠60:=λe=>h6 (by rw[e];rfl)
  rw[nY.2 e1,aW]
 ·refine mk (λnt hs=>kJ (dA (jh (g:=λn x i nt=>bif tgt x && isStep (aO l i) then .ok (.mk 10 (aO l i) [] [] [x.1],false) (i+1) nt else .ok x i nt) (h.s1 nt (hs.mono ak)) (dA (lJ _) λn=> ?_)) λn=>by rw[ex,hf.step ak,aW])) λe=>by omega
  rw[hs.step (zba _),Bool.and_false,aW]
 ·refine mk (λnt hs=>kJ (dA (h.s1 nt (hs.mono ak)) λn=> ?_)) λe=>by omega
  rw[ex,nY.2 (hf.dol ak),aW]
def aEs{L:Nat}(hf:Fst l i L)(h15:L<=15)(h:Rl l x i j a b L):∀d lv,L - lv=d->1<=lv->lv<=L->Rl l x i j a b lv
 |0,lv,hd,_,hl=>by obtain rfl:lv=L:=ak;exact h
 |d+1,lv,hd,h1,hl=>down hf ak h1 h15 (aEs hf h15 h d (lv+1) ak ak ak)
end Go.Proofs.YthmchnpcplgciaaGreatDoor
namespace Go.Proofs.YthmchnpcplgciaaGreatDoor
open Go Go.Vm
open Int (reduceLE)
inductive Tg where
 |dv (h:Bool) (t:Tn) (p:Ps)
 |nv (t:Tn) (p:Ps)
 |ls (ks:List Tn)
inductive Dx(l:List Tk):Tg->Nat->Nat->Prop where
 |par {h:Bool} {t:Tn} {p:Ps} {i j:Nat}:aO l i=32->Dx l (.dv h t .top) (i+1) j->aO l j=33->Dx l (.dv true t p) i (j+1)
 |node {t:Tn} {p:Ps} {i j:Nat}:fits t.kind t.op p=true->Dx l (.nv t p) i j->Dx l (.dv false t p) i j
 |one {h:Bool} {t:Tn} {i j:Nat}:Dx l (.dv h t .top) i j->Dx l (.ls [t]) i j
 |cons {h:Bool} {t:Tn} {ks:List Tn} {i j j' m:Nat}:Dx l (.dv h t .top) i j->aO l j=36->pst l (j+1) j'->Dx l (.ls ks) j' m->Dx l (.ls (t::ks)) i m
 |name {p:Ps} {i:Nat}:aO l i=6->Dx l (.nv (.mk 1 0 (xB l i) [] []) p) i (i+1)
 |leaf {k:Int} {p:Ps} {i:Nat}:k=2\/k=3\/k=4->aO l i=k+1->Dx l (.nv (.mk k 0 (xB l i) [] []) p) i (i+1)
 |index {ks:List Tn} {p:Ps} {i j:Nat}:aO l i=6->aO l (i+1)=34->Dx l (.ls ks) (i+2) j->ks.length<=6->aO l j=35->Dx l (.nv (.mk 5 0 (xB l i) [] ks) p) i (j+1)
 |call {k:Int} {ks:List Tn} {p:Ps} {i j:Nat}:k=7\/k=8->aO l i=k->aO l (i+1)=32->Dx l (.ls ks) (i+2) j->ks.length<=6->aO l j=33->Dx l (.nv (.mk k 0 (xB l i) [] ks) p) i (j+1)
 |Lm {k:Int} {p:Ps} {i:Nat}:k=7\/k=8->aO l i=k->aO l (i+1)=32->aO l (i+2)=33->Dx l (.nv (.mk k 0 (xB l i) [] []) p) i (i+3)
 |len {p:Ps} {i:Nat}:aO l i=8->xB l i=[108,101,110,103,116,104]->aO l (i+1)≠32->Dx l (.nv (.mk 8 0 (xB l i) [] []) p) i (i+1)
 |field {h:Bool} {u:Tn} {p:Ps} {i j:Nat}:aO l i=68->Dx l (.dv h u (cO 6 0 1 0 p)) (i+1) j->Dx l (.nv (.mk 6 0 [] [] [u]) p) i j
 |pre {u:Tn} {p:Ps} {i j:Nat}:isStep (aO l i)=true->Ee u.kind=true->Dx l (.nv u (cO 9 (aO l i) 1 0 p)) (i+1) j->Dx l (.nv (.mk 9 (aO l i) [] [] [u]) p) i j
 |post {u:Tn} {p:Ps} {i j:Nat}:isStep (aO l j)=true->Ee u.kind=true->Dx l (.nv u (cO 10 (aO l j) 1 0 p)) i j->Dx l (.nv (.mk 10 (aO l j) [] [] [u]) p) i (j+1)
 |una {h:Bool} {u:Tn} {p:Ps} {i j:Nat}:aO l i=55\/aO l i=56\/aO l i=61->Dx l (.dv h u (cO 11 (aO l i) 1 0 p)) (i+1) j->Dx l (.nv (.mk 11 (aO l i) [] [] [u]) p) i j
 |in1 {h:Bool} {u:Tn} {p:Ps} {i j:Nat}:Dx l (.dv h u (cO 13 0 1 0 p)) i j->aO l j=24->aO l (j+1)=6->Dx l (.nv (.mk 13 0 (xB l (j+1)) [] [u]) p) i (j+2)
 |inN {ks:List Tn} {p:Ps} {i j:Nat}:aO l i=32->Dx l (.ls ks) (i+1) j->2<=ks.length->ks.length<=6->aO l j=33->aO l (j+1)=24->aO l (j+2)=6->Dx l (.nv (.mk 13 0 (xB l (j+2)) [] ks) p) i (j+3)
 |cond {hu hv hw:Bool} {u v w:Tn} {p:Ps} {i j m e:Nat}:Dx l (.dv hu u (cO 14 0 3 0 p)) i j->aO l j=65->Dx l (.dv hv v (cO 14 0 3 1 p)) (j+1) m->aO l m=66->Dx l (.dv hw w (cO 14 0 3 2 p)) (m+1) e->Dx l (.nv (.mk 14 0 [] [] [u,v,w]) p) i e
 |asg {hv:Bool} {u v:Tn} {p:Ps} {i j m:Nat}:Ee u.kind=true->Dx l (.nv u (cO 15 (aO l j) 2 0 p)) i j->F7 (aO l j)=true->Dx l (.dv hv v (cO 15 (aO l j) 2 1 p)) (j+1) m->Dx l (.nv (.mk 15 (aO l j) [] [] [u,v]) p) i m
 |bin {hu hv:Bool} {u v:Tn} {p:Ps} {i j j' m:Nat}:dP (aO l j)≠0->aO l j≠99->Dx l (.dv hu u (cO 12 (aO l j) 2 0 p)) i j->(if aO l j=44\/aO l j=45 then pst l (j+1) j' else j'=j+1)->Dx l (.dv hv v (cO 12 (aO l j) 2 1 p)) j' m->Dx l (.nv (.mk 12 (aO l j) [] [] [u,v]) p) i m
 |cat {hu hv:Bool} {u v:Tn} {p:Ps} {i j m:Nat}:Dx l (.dv hu u (cO 12 99 2 0 p)) i j->Dx l (.dv hv v (cO 12 99 2 1 p)) j m->Dx l (.nv (.mk 12 99 [] [] [u,v]) p) i m
variable {l:List Tk}
def WO(h:Bool)(t:Tn):Nat:=bif h then 15 else(lvl t.kind t.op).toNat
structure Rd(l:List Tk)(h:Bool)(t:Tn)(p:Ps)(i j:Nat):Prop where
 fst:Fst l i (WO h t)
 scan:∀d:Int,1<=d->ahead (l.drop i) d=ahead (l.drop j) d
 sign:p.fD=true->O9 (aO l i)=true
 lv:h=false->Ee t.kind=true->aO l i=6\/aO l i=68
 rd:∀a b,(a=p.nN/\b=p.oC)\/13<=WO h t->Rl l (t,h) i j a b (WO h t)
 pre:h=false->t.kind=9->isStep (aO l i)=true/\∀nt,aO l j≠34->VK (λn=>I8 l n i nt) (.ok (t,false) j nt)
 lvl:1<=WO h t/\WO h t<=15
structure Rs(l:List Tk)(ks:List Tn)(i j:Nat):Prop where
 ne:1<=ks.length
 bg:bgE (aO l i)
 scan:∀d:Int,2<=d->ahead (l.drop i) d=ahead (l.drop j) d
 two:2<=ks.length->ahead (l.drop i) 1=true
 rd:∀(L:List Tn) nt,L.length+ks.length<=6->Stp 1 false false (aO l j)->aO l j≠36->VK (λn=>Po l n false false L i nt) (.ok (L++ks) j nt)
def Rd.at{h:Bool}{t:Tn}{p:Ps}{i j:Nat}(r:Rd l h t p i j){a b:Bool}(hab:(a=p.nN/\b=p.oC)\/13<=WO h t){lv:Nat}(h1:1<=lv)(hl:lv<=WO h t):Rl l (t,h) i j a b lv:=
 aEs r.fst r.lvl.2 (r.rd a b hab) _ lv rfl h1 hl
def WH(k:Int)(h:k=33\/k=35\/k=36\/k=66)(lv:Nat)(h3:1<=lv)(a b:Bool):Stp lv a b k:=by
 have h0:dP k=0:=by rcases h with h|h|h|h<;>subst h<;>rfl
 refine⟨λ_=> ?_,λ_=>by omega,λm hm e=>by omega,λ_ _=>by omega,λ_=> ?_,λ_=> ?_,ak⟩
 all_goals rcases h with h|h|h|h<;>subst h<;>rfl
end Go.Proofs.YthmchnpcplgciaaGreatDoor
namespace Go.Proofs.YthmchnpcplgciaaGreatDoor
open Go Go.Vm
open Int (reduceLE)
variable {l:List Tk}
structure Fl(k op:Int)(p:Ps):Prop where
 in_:p.nN=true->k≠13
 gt:p.oC=true->¬(k=12/\op=62)
 sign:p.fD=true->k≠4/\k≠9/\k≠11
def acX{k op:Int}{p:Ps}(h:fits k op p=true):Fl k op p/\(p.level<=lvl k op\/(p.gU=true/\k=9)):=by
 unfold fits at h;cases h1:(!(gY p)||lvl k op==0) with
 |true=>rw[h1] at h;cases h
 |false=>
 rw[h1,aW] at h;cases h2:(p.nN && k==13) with
 |true=>rw[h2] at h;cases h
 |false=>
 rw[h2,aW] at h;cases h3:(p.oC &&(k==12 && op==62)) with
 |true=>rw[h3] at h;cases h
 |false=>
 rw[h3,aW] at h;cases h4:(p.fD &&(k==11||(k==9||k==4))) with
 |true=>rw[h4] at h;cases h
 |false=>
 rw[h4,aW] at h;refine⟨⟨λe=> ?_,λe=> ?_,λe=> ?_⟩, ?_⟩
 ·rw[e,Bool.true_and,nY] at h2;exact h2
 ·rw[e,Bool.true_and,Bool.and_eq_false_iff,nY,nY] at h3;omega
 ·rw[e,Bool.true_and,Bool.or_eq_false_iff,Bool.or_eq_false_iff,nY,nY,nY] at h4;exact⟨h4.2.2,h4.2.1,h4.1⟩
 ·rw[Bool.or_eq_true,wo,decide_eq_true_eq,beq_iff_eq] at h;exact h.symm
def ale{k op:Int}{p:Ps}(h:Ee k=true):Fl k op p:=by unfold Ee at h;simp only[Bool.or_eq_true,beq_iff_eq] at h;exact⟨λ_=>by omega,λ_=>by omega,λ_=>by omega⟩
def FB{k op:Int}{n j:Nat}{p:Ps}(hp:gY p=true)(hj:j<n)(h0:lvl k op≠0)(h15:lvl k op≠15)(hm:k=13->n<=1):
  cO k op n j p=⟨VI k op j,k==6,p.nN,p.oC,bif k==11||(k==9||(k==10||k==6)) then false else(Nat.beq j 0 && p.fD)||(Nat.beq j 1 &&(k==12 && op==99))⟩:=by
 have h1:Nat.blt j n=true:=by rw[Nat.blt_eq];exact hj
 have h2:(k==13 && Nat.blt 1 n)=false:=by
  rw[Bool.and_eq_false_iff,nY]
  by_cases h:k=13
  ·right;have:=hm h;cases hq:Nat.blt 1 n with
   |false=>rfl
   |true=>rw[Nat.blt_eq] at hq;omega
  ·exact .inl h
 unfold cO;rw[hp,h1,nY.2 h0,nY.2 h15,h2];rfl
def aEt(t:Tn):WO false t=(Go.Proofs.YthmchnpcplgciaaGreatDoor.lvl t.kind t.op).toNat:=rfl
def ax7(t:Tn):WO true t=15:=rfl
def WI{x:Xp}{i j:Nat}{a b:Bool}{lv:Nat}(hc:¬chain lv)(h5:lv≠5)(h:∀nt,Stp lv a b (aO l j)->VK (λn=>ex l n lv a b i nt) (.ok x j nt)):Rl l x i j a b lv:=⟨h,λe=>absurd e hc,λe=>absurd e h5⟩
def amT(n:Nat)(a b:Bool)(i:Nat)(nt:kH):ex l (n+1) 15 a b i nt=bif aO l i==3 then SG 2 l i nt else bif aO l i==4 then SG 3 l i nt else bif aO l i==5 then SG 4 l i nt else
   bif aO l i==6 then
    (bif aO l (i+1)==34 then(Po l n false false [] (i+2) nt).bind λL j nt=>(qH l 35 j nt).bind λ_ j nt=> .ok (.mk 5 0 (xB l i) [] L,false) j nt
     else SG 1 l i nt) else
   bif aO l i==7||aO l i==8 then
    (bif aO l i==8 &&(xB l i==[108,101,110,103,116,104] && !(aO l (i+1)==32)) then SG 8 l i nt else
     (qH l 32 (i+1) nt).bind λ_ j nt=>(Bv l n 33 j nt).bind λL j nt=> .ok (.mk (aO l i) 0 (xB l i) [] L,false) j nt) else
   bif aO l i==32 then(ex l n 1 false false (i+1) nt).bind λx i nt=>(qH l 33 i nt).bind λ_ i nt=> .ok (x.1,true) i nt else .bad i:=by
 rw[ex]<;>(intro h;cases h)
def acY:¬chain 15:=by unfold chain;omega
def aCZ{h:Bool}{t:Tn}{i j:Nat}{a b:Bool}(hL:WO h t=15)(k:∀nt,Stp 15 a b (aO l j)->VK (λn=>ex l n 15 a b i nt) (.ok (t,h) j nt)):Rl l (t,h) i j a b (WO h t):=by rw[hL];exact WI acY (by decide) k
def aGw{h:Bool}{t:Tn}(hL:WO h t=15):1<=WO h t/\WO h t<=15:=by rw[hL];omega
def ax8:¬chain 14:=by unfold chain;omega
def apS:¬chain 13:=by unfold chain;omega
def aei{i:Nat}{L:Nat}(h:aO l i=6\/aO l i=3\/aO l i=4\/aO l i=5\/aO l i=7\/aO l i=8):Fst l i L:=by refine⟨by unfold bgE;omega,λ_=>by omega,λ_=> ?_,λ_=>by omega,λ_ e=>by omega⟩;rcases h with h|h|h|h|h|h<;>rw[h]<;>rfl
def XA{k:Int}{j:Nat}{nt:kH}(h:aO l j=k):VK (λ_=>qH l k j nt) (.ok () (j+1) nt):=by
 refine dA (lJ _) λn=> ?_
 unfold qH;rw[h,show(k==k)=true by simp,aJ]
def asN{j:Nat}{nt:kH}(h:aO l j=6):VK (λ_=>nameP l j nt) (.ok (xB l j) (j+1) nt):=by
 refine dA (lJ _) λn=> ?_
 unfold nameP;rw[h];rfl
def ax9{ks:List Tn}{i j:Nat}(h:Rs l ks i j)(h6:ks.length<=6)(hk:aO l j=33)(nt:kH):VK (λn=>Bv l n 33 i nt) (.ok ks (j+1) nt):=by
 have hb:aO l i≠33:=by have:=h.bg;unfold bgE at this;omega
 have:=h.rd [] nt (by simpa using h6) (WH _ ak 1 (zba _) _ _) ak;rw[List.nil_append] at this;exact kJ (dA (jh (g:=λn L i nt=>(qH l 33 i nt).bind λ_ i nt=> .ok L i nt) this (jh (g:=λn _ i nt=> .ok ks i nt) (XA hk) (lJ _))) λn=>by rw[Bv,nY.2 hb,aW])
section
variable {p:Ps} (hp:gY p=true)
include hp
theorem aC0{i:Nat}(hk:aO l i=6):Rd l false (.mk 1 0 (xB l i) [] []) p i (i+1) where
 fst:=aei ak
 scan:=λd hd=>qP (by unfold ntr;omega) hd
 sign:=λ_=>by rw[hk];rfl
 lv:=λ_ _=> .inl hk
 rd:=λa b _=>aCZ rfl λnt hs=>kJ (dA (lJ _) λn=>by rw[amT,hk];simp only[Int.reduceBEq,aW,aJ];rw[nY.2 hs.brk,aW];rfl)
 pre:=λ_ e=>absurd e (by show(1:Int)≠9;decide)
 lvl:=aGw rfl
theorem aC1{k:Int}{i:Nat}(h3:k=2\/k=3\/k=4)(hk:aO l i=k+1)(hf:Fl k 0 p):Rd l false (.mk k 0 (xB l i) [] []) p i (i+1):=by
 have hL:WO false (.mk k 0 (xB l i) [] [])=15:=by rcases h3 with h|h|h<;>subst h<;>rfl
 refine⟨aei ak,λd hd=>qP (by unfold ntr;omega) hd,λe=> ?_,λ_ e=> ?_,λa b _=> ?_,λ_ e=>absurd (show k=9 from e) ak,by rw[hL];omega⟩
 ·have:=(hf.sign e).1;rw[hk];rcases h3 with h|h|h
  ·subst h;rfl
  ·subst h;rfl
  ·exact absurd h this
 ·rcases h3 with h|h|h<;>subst h<;>cases e
 ·rw[hL];refine WI acY (by decide) λnt hs=>kJ (dA (lJ _) λn=> ?_)
  rw[amT,hk];rcases h3 with h|h|h<;>subst h<;>rfl
theorem aya{ks:List Tn}{i j:Nat}(hk:aO l i=6)(ho:aO l (i+1)=34)(hs:Rs l ks (i+2) j)(h6:ks.length<=6)(hc:aO l j=35):Rd l false (.mk 5 0 (xB l i) [] ks) p i (j+1) where
 fst:=aei ak
 scan:=λd hd=>by rw[qP (by unfold ntr;omega) hd,JF (.inr ho),hs.scan _ ak,UA (.inr hc) ak,show d+1 - 1=d by omega]
 sign:=λ_=>by rw[hk];rfl
 lv:=λ_ _=> .inl hk
 rd:=λa b _=>aCZ rfl λnt hst=>by have:=hs.rd [] nt (by simpa using h6) (WH _ ak 1 (zba _) _ _) ak;rw[List.nil_append] at this;refine kJ (dA (jh (g:=λn L j nt=>(qH l 35 j nt).bind λ_ j nt=> .ok ((Tn.mk 5 0 (xB l i) [] L,false):Xp) j nt) this (jh (g:=λn _ j nt=> .ok ((Tn.mk 5 0 (xB l i) [] ks,false):Xp) j nt) (XA hc) (lJ _))) λn=> ?_);rw[amT,hk,ho];rfl
 pre:=λ_ e=>absurd e (by show(5:Int)≠9;decide)
 lvl:=aGw rfl
theorem aC2{k:Int}{ks:List Tn}{i j:Nat}(h7:k=7\/k=8)(hk:aO l i=k)(ho:aO l (i+1)=32)(hs:Rs l ks (i+2) j)(h6:ks.length<=6)(hc:aO l j=33):Rd l false (.mk k 0 (xB l i) [] ks) p i (j+1):=by
 have hL:WO false (.mk k 0 (xB l i) [] ks)=15:=by rcases h7 with h|h<;>subst h<;>rfl
 refine⟨aei ak,λd hd=> ?_,λ_=> ?_,λ_ e=> ?_,λa b _=> ?_,λ_ e=>absurd (show k=9 from e) ak,by rw[hL];omega⟩
 ·rw[qP (by unfold ntr;omega) hd,JF (.inl ho),hs.scan _ ak,UA (.inl hc) ak,show d+1 - 1=d by omega]
 ·rw[hk];rcases h7 with h|h<;>subst h<;>rfl
 ·rcases h7 with h|h<;>subst h<;>cases e
 ·rw[hL];refine WI acY (by decide) λnt hst=> ?_
  refine kJ (dA (jh (g:=λn _ j nt=>(Bv l n 33 j nt).bind λL j nt=> .ok ((Tn.mk k 0 (xB l i) [] L,false):Xp) j nt) (XA (nt:=nt) ho) (jh (g:=λn L j nt=> .ok ((Tn.mk k 0 (xB l i) [] L,false):Xp) j nt) (ax9 hs h6 hc nt) (lJ _))) λn=> ?_);rw[amT,hk,ho];rcases h7 with h|h<;>subst h<;>simp only[Int.reduceBEq,aW,aJ,Bool.or_true,Bool.or_false,zaZ,Bool.and_false,Bool.false_and]
theorem ayb{k:Int}{i:Nat}(h7:k=7\/k=8)(hk:aO l i=k)(ho:aO l (i+1)=32)(hc:aO l (i+2)=33):Rd l false (.mk k 0 (xB l i) [] []) p i (i+3):=by
 have hL:WO false (.mk k 0 (xB l i) [] [])=15:=by rcases h7 with h|h<;>subst h<;>rfl
 refine⟨aei ak,λd hd=> ?_,λ_=> ?_,λ_ e=> ?_,λa b _=> ?_,λ_ e=>absurd (show k=9 from e) ak,by rw[hL];omega⟩
 ·rw[qP (by unfold ntr;omega) hd,JF (.inl ho),UA (.inl hc) ak,show d+1 - 1=d by omega]
 ·rw[hk];rcases h7 with h|h<;>subst h<;>rfl
 ·rcases h7 with h|h<;>subst h<;>cases e
 ·rw[hL];refine WI acY (by decide) λnt hst=> ?_
  have hl:VK (λn=>Bv l n 33 (i+1+1) nt) (.ok [] (i+3) nt):=kJ (dA (lJ _) λn=>by rw[Bv,hc];rfl);refine kJ (dA (jh (g:=λn _ j nt=>(Bv l n 33 j nt).bind λL j nt=> .ok ((Tn.mk k 0 (xB l i) [] L,false):Xp) j nt) (XA (nt:=nt) ho) (jh (g:=λn L j nt=> .ok ((Tn.mk k 0 (xB l i) [] L,false):Xp) j nt) hl (lJ _))) λn=> ?_);rw[amT,hk,ho];rcases h7 with h|h<;>subst h<;>simp only[Int.reduceBEq,aW,aJ,Bool.or_true,Bool.or_false,zaZ,Bool.and_false,Bool.false_and]
theorem aGx{i:Nat}(hk:aO l i=8)(hx:xB l i=[108,101,110,103,116,104])(ho:aO l (i+1)≠32):Rd l false (.mk 8 0 (xB l i) [] []) p i (i+1) where
 fst:=aei ak
 scan:=λd hd=>qP (by unfold ntr;omega) hd
 sign:=λ_=>by rw[hk];rfl
 lv:=λ_ e=>by cases e
 rd:=λa b _=>aCZ rfl λnt hs=>kJ (dA (lJ _) λn=>by rw[amT,hk,nY.2 ho,hx];simp[SG,hx])
 pre:=λ_ e=>absurd e (by show(8:Int)≠9;decide)
 lvl:=aGw rfl
theorem aGy{h:Bool}{t:Tn}{i j:Nat}(ho:aO l i=32)(hr:Rd l h t .top (i+1) j)(hc:aO l j=33):Rd l true t p i (j+1) where
 fst:=⟨by unfold bgE;omega,λ_=>by omega,λ_=>by rw[ho];rfl,λ_=>by omega,λ_ _=>by rw[JF (.inl ho),hr.scan _ ak];exact Zx hc⟩
 scan:=λd hd=>by rw[JF (.inl ho),hr.scan _ ak,UA (.inl hc) ak,show d+1 - 1=d by omega]
 sign:=λ_=>by rw[ho];rfl
 lv:=λe=>by cases e
 rd:=λa b _=>aCZ rfl λnt hs=>by have h1:=(hr.at (.inl ⟨rfl,rfl⟩) (zba 1) hr.lvl.1).s1 nt (WH _ ak 1 (zba _) _ _);refine kJ (dA (jh (g:=λn x j nt=>(qH l 33 j nt).bind λ_ j nt=> .ok ((x.1,true):Xp) j nt) h1 (jh (g:=λn _ j nt=> .ok ((t,true):Xp) j nt) (XA hc) (lJ _))) λn=> ?_);rw[amT,ho];rfl
 pre:=λe=>by cases e
 lvl:=⟨by rw[ax7];omega,by rw[ax7];omega⟩
end
variable {l:List Tk}
def aGz{k op:Int}{x y:aI}{ks:List Tn}{L:Nat}(h:lvl k op=(L:Int)):WO false (.mk k op x y ks)=L:=by show(lvl k op).toNat=L;rw[h,Yf]
def apT{i:Nat}(h:isStep (aO l i)=true):aO l i=51\/aO l i=52:=by unfold isStep at h;rw[Bool.or_eq_true,beq_iff_eq,beq_iff_eq] at h;exact h
def arE{t:Tn}(h:Ee t.kind=true):14<=WO false t/\WO false t<=15:=by
 unfold Ee at h;simp only[Bool.or_eq_true,beq_iff_eq] at h;rw[aEt];have:lvl t.kind t.op=15\/lvl t.kind t.op=14:=by
  rcases h with h|h|h<;>rw[h]
  ·exact .inl rfl
  ·exact .inl rfl
  ·exact .inr rfl
 omega
def aej(h:Bool)(t:Tn)(p:Ps):Prop:=p.level<=(WO h t:Int)\/(p.gU=true/\t.kind=9/\h=false)
section
variable {p:Ps} (hp:gY p=true)
include hp
theorem ayc{h:Bool}{u:Tn}{i j:Nat}(hk:aO l i=68)(hr:Rd l h u (cO 6 0 1 0 p) (i+1) j)(hv:aej h u (cO 6 0 1 0 p)):Rd l false (.mk 6 0 [] [] [u]) p i j:=by
 have hL:WO false (.mk 6 0 [] [] [u])=14:=rfl;have hq:(cO 6 0 1 0 p).level=14:=by rw[FB hp ak (by decide) (by decide) (λe=>by omega)];rfl
 refine⟨⟨by unfold bgE;omega,λ_=>by omega,λ_=>by rw[hk];rfl,λe=>absurd e (by rw[hL];omega),λ_ e=>by omega⟩,λd hd=> ?_,λ_=>by rw[hk];rfl,λ_ _=> .inr hk,λa b _=> ?_,λ_ e=>absurd e (by show(6:Int)≠9;decide),by rw[hL];omega⟩
 ·rw[qP (by unfold ntr;omega) hd];exact hr.scan d hd
 ·rw[hL];refine WI ax8 (by decide) λnt hs=> ?_
  have key:VK (λn=>bif isStep (aO l (i+1)) then I8 l n (i+1) nt else ex l n 14 a b (i+1) nt) (.ok (u,h) j nt):=by
   rcases hv with hv|⟨_,h9,hf⟩
   ·have h14:14<=WO h u:=ak;rw[hr.fst.step h14];exact(hr.at (.inr ak) ak h14).s1 nt hs
   ·have hpre:=hr.pre hf h9;subst hf;rw[hpre.1];exact hpre.2 nt hs.brk
  refine kJ (dA (jh (g:=λn x i nt=> .ok ((Tn.mk 6 0 [] [] [x.1],false):Xp) i nt) key (lJ _)) λn=> ?_);rw[ex,hk];rfl
theorem aGA{u:Tn}{i j:Nat}(hk:isStep (aO l i)=true)(hl:Ee u.kind=true)(hr:Rd l false u (cO 9 (aO l i) 1 0 p) (i+1) j)(hf:Fl 9 (aO l i) p):Rd l false (.mk 9 (aO l i) [] [] [u]) p i j:=by
 have hL:WO false (.mk 9 (aO l i) [] [] [u])=13:=rfl;have h14:=arE hl;have hks:=apT hk;have hpre:∀nt,aO l j≠34->VK (λn=>I8 l n i nt) (.ok (.mk 9 (aO l i) [] [] [u],false) j nt):=λnt h34=>by
  have hst:Stp 14 false false (aO l j):=⟨λe=>by omega,λe=>by omega,λm hm e=>(by have:=(Zt (aO l j)).2;omega),λe=>by omega,λe=>by omega,λe=>by omega,h34⟩
  have h1:=(hr.at (a:=false) (b:=false) (.inr ak) ak h14.1).s1 nt hst;have hn:=hr.lv rfl hl;have hc:(aO l (i+1)==68||aO l (i+1)==6)=true:=by rw[Bool.or_eq_true,beq_iff_eq,beq_iff_eq];omega
  exact kJ (dA (jh (g:=λn x j nt=> .ok ((Tn.mk 9 (aO l i) [] [] [x.1],false):Xp) j nt) h1 (lJ _)) λn=>by rw[I8,hc,aJ])
 refine⟨⟨by unfold bgE;omega,λ_=>by omega,λe=>absurd e (by rw[hL];omega),λe=>absurd e (by rw[hL];omega),λ_ e=>by omega⟩,λd hd=> ?_,λe=>absurd rfl (hf.sign e).2.1,λ_ e=>(by cases e),λa b _=> ?_,λ_ _=>⟨hk,hpre⟩,by rw[hL];omega⟩
 ·rw[qP (by unfold ntr;omega) hd];exact hr.scan d hd
 ·rw[hL];refine WI apS (by decide) λnt hs=>kJ (dA (hpre nt hs.brk) λn=> ?_)
  rw[ex,hk,aJ]
theorem aC3{u:Tn}{i j:Nat}(hk:isStep (aO l j)=true)(hl:Ee u.kind=true)(hr:Rd l false u (cO 10 (aO l j) 1 0 p) i j):Rd l false (.mk 10 (aO l j) [] [] [u]) p i (j+1):=by
 have hL:WO false (.mk 10 (aO l j) [] [] [u])=13:=rfl;have h14:=arE hl;have hks:=apT hk;have hn:=hr.lv rfl hl;refine⟨⟨hr.fst.bg,λ_=>by omega,λe=>absurd e (by rw[hL];omega),λe=>absurd e (by rw[hL];omega),λ_ e=>by omega⟩,λd hd=> ?_,λ_=> ?_,λ_ e=>(by cases e),λa b _=> ?_,λ_ e=>absurd e (by show(10:Int)≠9;decide),by rw[hL];omega⟩
 ·rw[hr.scan d hd,qP (by unfold ntr;omega) hd]
 ·rcases hn with h|h<;>rw[h]<;>rfl
 ·rw[hL];refine WI apS (by decide) λnt hs=> ?_
  have hst:Stp 14 a b (aO l j):=⟨λe=>by omega,λe=>by omega,λm hm e=>(by have:=(Zt (aO l j)).2;omega),λe=>by omega,λe=>by omega,λe=>by omega,ak⟩
  have h1:=(hr.at (a:=a) (b:=b) (.inr ak) ak h14.1).s1 nt hst;have ht:(tgt (u,false) && isStep (aO l j))=true:=by rw[hk,Bool.and_true];unfold tgt;rw[hl];rfl
  refine kJ (dA (jh (g:=λn x i nt=>bif tgt x && isStep (aO l i) then .ok ((Tn.mk 10 (aO l i) [] [] [x.1],false):Xp) (i+1) nt else .ok x i nt) h1 (dA (lJ _) λn=>by rw[ht,aJ])) λn=> ?_);rw[ex,hr.fst.step h14.1,aW]
theorem aGB{h:Bool}{u:Tn}{i j:Nat}(hk:aO l i=55\/aO l i=56\/aO l i=61)(hr:Rd l h u (cO 11 (aO l i) 1 0 p) (i+1) j)(hv:aej h u (cO 11 (aO l i) 1 0 p))(hf:Fl 11 (aO l i) p):Rd l false (.mk 11 (aO l i) [] [] [u]) p i j:=by
 have hL:WO false (.mk 11 (aO l i) [] [] [u])=11:=rfl;have hq:=FB (k:=11) (op:=aO l i) (n:=1) (j:=0) hp ak (by show(11:Int)≠0;decide) (by show(11:Int)≠15;decide) (λe=>by omega);rw[hq] at hr hv;have hv:11<=WO h u:=by
  rcases hv with hv|⟨hd,_⟩
  ·have hv:(11:Int)<=(WO h u:Int):=hv;omega
  ·cases hd
 refine⟨⟨by unfold bgE;omega,λe=>absurd e (by rw[hL];omega),λe=>absurd e (by rw[hL];omega),λe=>absurd e (by rw[hL];omega),λ_ e=>by omega⟩,λd hd=> ?_,λe=>absurd rfl (hf.sign e).2.2,λ_ e=>(by cases e),λa b hab=> ?_,λ_ e=>absurd e (by show(11:Int)≠9;decide),by rw[hL];omega⟩
 ·rw[qP (by unfold ntr;omega) hd];exact hr.scan d hd
 ·rw[hL] at hab|-;have hab:a=p.nN/\b=p.oC:=hab.resolve_right ak;refine WI (by unfold chain;omega) (by decide) λnt hs=> ?_
  have h1:=(hr.at (a:=a) (b:=b) (.inl hab) ak hv).s1 nt hs;have hc:(aO l i==55||(aO l i==56||aO l i==61))=true:=by rw[Bool.or_eq_true,Bool.or_eq_true,beq_iff_eq,beq_iff_eq,beq_iff_eq];omega
  refine kJ (dA (jh (g:=λn x j nt=> .ok ((Tn.mk 11 (aO l i) [] [] [x.1],false):Xp) j nt) h1 (lJ _)) λn=> ?_);rw[ex,hc,aJ]
theorem acZ{i:Nat}{L K:Nat}(h:Fst l i K)(hl:L<=K):Fst l i L:=⟨h.bg,λe=>h.una ak,λe=>h.step ak,λe=>h.dol ak,λe=>h.nc ak⟩
theorem aGC{a b:Bool}:Stp 6 a b 24:=⟨λe=>by omega,λe=>by omega,λm hm e=>(by have:dP 24=0:=rfl;omega),λe=>by omega,λ_=>rfl,λ_=>rfl,by decide⟩
theorem aGD{h:Bool}{u:Tn}{i j:Nat}(hr:Rd l h u (cO 13 0 1 0 p) i j)(hv:aej h u (cO 13 0 1 0 p))(Zv:aO l j=24)(h6:aO l (j+1)=6)(hf:Fl 13 0 p):Rd l false (.mk 13 0 (xB l (j+1)) [] [u]) p i (j+2):=by
 have hL:WO false (.mk 13 0 (xB l (j+1)) [] [u])=5:=rfl;have hq:=FB (k:=13) (op:=0) (n:=1) (j:=0) hp ak (by decide) (by decide) (λe=>by omega);rw[hq] at hr hv;have hv:5<=WO h u:=by
  rcases hv with hv|⟨hd,_⟩
  ·have hv:(5:Int)<=(WO h u:Int):=hv;omega
  ·cases hd
 have hni:p.nN=false:=by
  cases hc:p.nN with
  |false=>rfl
  |true=>exact absurd rfl (hf.in_ hc)
 refine⟨acZ hp hr.fst (by rw[hL];exact hv),λd hd=> ?_,λe=> ?_,λ_ e=>(by cases e),λa b hab=> ?_,λ_ e=>absurd e (by show(13:Int)≠9;decide),by rw[hL];omega⟩
 ·rw[hr.scan d hd,qP (by unfold ntr;omega) hd,qP (by unfold ntr;omega) hd]
 ·refine hr.sign ?_;show(bif(13:Int)==11||((13:Int)==9||((13:Int)==10||(13:Int)==6)) then false else(Nat.beq 0 0 && p.fD)||(Nat.beq 0 1 &&((13:Int)==12 &&(0:Int)==99)))=true;rw[e];rfl
 ·rw[hL] at hab|-;have hab:a=p.nN/\b=p.oC:=hab.resolve_right ak;have ha:a=false:=hab.1.trans hni;have key:∀nt r,Stp 6 a b (aO l (j+2))->VK (λn=>TQ l n a (.mk 13 0 (xB l (j+1)) [] [u],false) (j+2) nt) r->VK (λn=>ex l n 5 a b i nt) r:=λnt r hs hk=>by have h1:=(hr.at (a:=a) (b:=b) (.inl hab) ak hv).s5 rfl nt r (by rw[Zv];exact aGC hp);refine h1 (kJ (dA (jh (g:=λn s i nt=>TQ l n a (.mk 13 0 s [] [u],false) i nt) (asN (nt:=nt) h6) hk) λn=> ?_));rw[TQ,Zv,ha];rfl
  exact⟨λnt hs=>key nt _ (hs.mono ak) (arD hs (zba _)),λe=>by unfold chain at e;omega,λ_=>key⟩
theorem aGE{ks:List Tn}{i j:Nat}(ho:aO l i=32)(hs:Rs l ks (i+1) j)(h2:2<=ks.length)(h6:ks.length<=6)(hc:aO l j=33)(Zv:aO l (j+1)=24)(hn:aO l (j+2)=6)(hf:Fl 13 0 p):Rd l false (.mk 13 0 (xB l (j+2)) [] ks) p i (j+3):=by
 have hL:WO false (.mk 13 0 (xB l (j+2)) [] ks)=5:=rfl;have hni:p.nN=false:=by
  cases hc:p.nN with
  |false=>rfl
  |true=>exact absurd rfl (hf.in_ hc)
 refine⟨⟨by unfold bgE;omega,λe=>absurd e (by rw[hL];omega),λe=>absurd e (by rw[hL];omega),λe=>absurd e (by rw[hL];omega),λe=>absurd e (by rw[hL];omega)⟩,λd hd=> ?_,λe=>by rw[ho];rfl,λ_ e=>(by cases e),λa b hab=> ?_,λ_ e=>absurd e (by show(13:Int)≠9;decide),by rw[hL];omega⟩
 ·have hn':aO l (j+1+1)=6:=hn;rw[JF (.inl ho),hs.scan _ ak,UA (.inl hc) ak,show d+1 - 1=d by omega,qP (by unfold ntr;omega) hd,qP (by unfold ntr;omega) hd]
 ·rw[hL] at hab|-;have hab:a=p.nN/\b=p.oC:=hab.resolve_right ak;have ha:a=false:=hab.1.trans hni;have hm:((aO l i==32 && !a) && ahead (l.drop i) 0)=true:=by rw[ho,ha,JF (.inl ho),show(0:Int)+1=1 from rfl,hs.two h2];rfl
  have key:∀nt r,Stp 6 a b (aO l (j+3))->VK (λn=>TQ l n a (.mk 13 0 (xB l (j+2)) [] ks,false) (j+3) nt) r->VK (λn=>ex l n 5 a b i nt) r:=λnt r hst hk=>by refine kJ (dA (jh (g:=λn L i nt=>(qH l 24 i nt).bind λ_ i nt=>(nameP l i nt).bind λs i nt=>TQ l n a (.mk 13 0 s [] L,false) i nt) (ax9 hs h6 hc nt) (jh (g:=λn _ i nt=>(nameP l i nt).bind λs i nt=>TQ l n a (.mk 13 0 s [] ks,false) i nt) (XA Zv) (jh (g:=λn s i nt=>TQ l n a (.mk 13 0 s [] ks,false) i nt) (asN hn) hk))) λn=> ?_);rw[ex,hm,aJ]
  exact⟨λnt hs=>key nt _ (hs.mono ak) (arD hs (zba _)),λe=>by unfold chain at e;omega,λ_=>key⟩
end
end Go.Proofs.YthmchnpcplgciaaGreatDoor
namespace Go.Proofs.YthmchnpcplgciaaGreatDoor
open Go Go.Vm
variable {l:List Tk}
def af9{k:Int}{lv:Nat}(a b:Bool)(h1:2<=lv)(hl:lv<=3->True)(hop:dP k<(lv:Int))(h65:lv<=2->k≠65)(Zv:k≠24)(hb:lv<=8->O9 k=false)(hs:isStep k=false)(h34:k≠34):Stp lv a b k:=
 ⟨λe=>by omega,h65,λm hm e=>by omega,λ_ _=>Zv,hb,λ_=>hs,h34⟩
def ayd(k:Int):dP k≠11:=by unfold dP;cases(k==44)<;>cases(k==45)<;>cases(k==67||k==46)<;>cases(k==63||(k==48||(k==47||(k==50||(k==62||k==49)))))<;>cases(k==99)<;>cases(k==55||k==56)<;>cases(k==57||(k==58||k==59))<;>cases(k==60)<;>decide
def apU{k:Int}(h:dP k≠0):k=44\/k=45\/k=67\/k=46\/k=63\/k=48\/k=47\/k=50\/k=62\/k=49\/k=99\/k=55\/k=56\/k=57\/k=58\/k=59\/k=60:=by
  by_cases hc:k=44\/k=45\/k=67\/k=46\/k=63\/k=48\/k=47\/k=50\/k=62\/k=49\/k=99\/k=55\/k=56\/k=57\/k=58\/k=59\/k=60
  ·exact hc
  ·exfalso;apply h;simp only[not_or] at hc;obtain⟨h1,h2,h3,h4,h5,h6,h7,h8,h9,h10,h11,h12,h13,h14,h15,h16,h17⟩:=hc;simp only[dP,nY.2 h1,nY.2 h2,nY.2 h3,nY.2 h4,nY.2 h5,nY.2 h6,nY.2 h7,nY.2 h8,nY.2 h9,nY.2 h10,nY.2 h11,nY.2 h12,nY.2 h13,nY.2 h14,nY.2 h15,nY.2 h16,nY.2 h17,Bool.or_self,aW]
def aye{k:Int}(h:dP k≠0)(ZO:k≠99):k≠24/\O9 k=false/\isStep k=false/\k≠34/\ntr k:=by
 have hc:=apU h;refine⟨ak, ?_, ?_,ak,by unfold ntr;omega⟩
 ·rcases hc with h|h|h|h|h|h|h|h|h|h|h|h|h|h|h|h|h
  all_goals first
   |exact absurd h ZO
   |(subst h;rfl)
 ·rcases hc with h|h|h|h|h|h|h|h|h|h|h|h|h|h|h|h|h
  all_goals first
   |exact absurd h ZO
   |(subst h;rfl)
def auL{k:Int}(h:F7 k=true):dP k=0/\k≠65/\k≠24/\O9 k=false/\isStep k=false/\k≠34/\ntr k:=by
 have hc:k=54\/k=38\/k=39\/k=40\/k=41\/k=42\/k=43:=by unfold F7 at h;rw[Bool.or_eq_true,wo,beq_iff_eq,decide_eq_true_eq,decide_eq_true_eq] at h;omega
 refine⟨?_,ak,ak, ?_, ?_,ak,by unfold ntr;omega⟩
 all_goals rcases hc with h|h|h|h|h|h|h<;>subst h<;>rfl
def afh{h:Bool}{t:Tn}{p:Ps}{n:Nat}(hv:aej h t p)(hl:p.level=(n:Int))(hd:p.gU=false):n<=WO h t:=by
 rcases hv with hv|⟨hd',_⟩
 ·rw[hl] at hv;omega
 ·rw[hd] at hd';cases hd'
section
variable {p:Ps} (hp:gY p=true)
include hp
theorem aC4{hu hv hw:Bool}{u v w:Tn}{i j m e:Nat}(r1:Rd l hu u (cO 14 0 3 0 p) i j)(v1:aej hu u (cO 14 0 3 0 p))(k1:aO l j=65)(r2:Rd l hv v (cO 14 0 3 1 p) (j+1) m)(v2:aej hv v (cO 14 0 3 1 p))(k2:aO l m=66)
  (r3:Rd l hw w (cO 14 0 3 2 p) (m+1) e) (v3:aej hw w (cO 14 0 3 2 p)):Rd l false (.mk 14 0 [] [] [u,v,w]) p i e:=by
 have hL:WO false (.mk 14 0 [] [] [u,v,w])=2:=rfl;have q1:=FB (k:=14) (op:=0) (n:=3) (j:=0) hp ak (by decide) (by decide) (λe=>by omega);have q2:=FB (k:=14) (op:=0) (n:=3) (j:=1) hp ak (by decide) (by decide) (λe=>by omega);have q3:=FB (k:=14) (op:=0) (n:=3) (j:=2) hp ak (by decide) (by decide) (λe=>by omega);rw[q1] at r1 v1;rw[q2] at r2 v2;rw[q3] at r3 v3;have w1:=afh (n:=3) v1 rfl rfl;have w2:=afh (n:=2) v2 rfl rfl;have w3:=afh (n:=2) v3 rfl rfl;refine⟨acZ hp r1.fst (by rw[hL];omega),λd hd=> ?_,λe=> ?_,λ_ e=>(by cases e),λa b hab=> ?_,λ_ e=>absurd e (by show(14:Int)≠9;decide),by rw[hL];omega⟩
 ·rw[r1.scan d hd,qP (by unfold ntr;omega) hd,r2.scan d hd,qP (by unfold ntr;omega) hd,r3.scan d hd]
 ·refine r1.sign ?_;show(Nat.beq 0 0 && p.fD||(Nat.beq 0 1 &&((14:Int)==12 &&(0:Int)==99)))=true;rw[e];rfl
 ·rw[hL] at hab|-;have hab:a=p.nN/\b=p.oC:=hab.resolve_right ak;refine WI (by unfold chain;omega) (by decide) λnt hs=> ?_
  have s1:=(r1.at (a:=a) (b:=b) (.inl hab) ak w1).s1 nt (by rw[k1];exact af9 a b ak (λ_=>trivial) (by decide) (λe=>by omega) (by decide) (λ_=>rfl) rfl (by decide));have s2:=(r2.at (a:=a) (b:=b) (.inl hab) ak w2).s1 nt (by rw[k2];exact WH _ ak _ ak _ _);have s3:=(r3.at (a:=a) (b:=b) (.inl hab) ak w3).s1 nt hs;refine kJ (dA (jh (g:=λn x i nt=>bif aO l i==65 then(ex l n 2 a b (i+1) nt).bind λy i nt=>(qH l 66 i nt).bind λ_ i nt=>(ex l n 2 a b i nt).bind λz i nt=>.ok ((Tn.mk 14 0 [] [] [x.1,y.1,z.1],false):Xp) i nt else .ok x i nt) s1 ?_) λn=>by rw[ex]);have hk:(aO l j==65)=true:=by rw[k1];rfl
  refine dA (jh (g:=λn y i nt=>(qH l 66 i nt).bind λ_ i nt=>(ex l n 2 a b i nt).bind λz i nt=> .ok ((Tn.mk 14 0 [] [] [u,y.1,z.1],false):Xp) i nt) s2 ?_) λn=>by rw[hk,aJ]
  refine jh (g:=λn _ i nt=>(ex l n 2 a b i nt).bind λz i nt=> .ok ((Tn.mk 14 0 [] [] [u,v,z.1],false):Xp) i nt) (XA k2) ?_;exact jh (g:=λn z i nt=> .ok ((Tn.mk 14 0 [] [] [u,v,z.1],false):Xp) i nt) s3 (lJ _)
theorem aGF{hv:Bool}{u v:Tn}{i j m:Nat}(hl:Ee u.kind=true)(r1:Rd l false u (cO 15 (aO l j) 2 0 p) i j)(ka:F7 (aO l j)=true)(r2:Rd l hv v (cO 15 (aO l j) 2 1 p) (j+1) m)(v2:aej hv v (cO 15 (aO l j) 2 1 p)):Rd l false (.mk 15 (aO l j) [] [] [u,v]) p i m:=by
 have hL:WO false (.mk 15 (aO l j) [] [] [u,v])=1:=rfl;have q2:=FB (k:=15) (op:=aO l j) (n:=2) (j:=1) hp ak (by show(1:Int)≠0;decide) (by show(1:Int)≠15;decide) (λe=>by omega);rw[q2] at r2 v2;have w2:=afh (n:=1) v2 rfl rfl;have h14:=arE hl;have hn:=r1.lv rfl hl;obtain⟨a1,a2,a3,a4,a5,a6,a7⟩:=auL ka;refine⟨acZ hp r1.fst (by rw[hL];omega),λd hd=> ?_,λe=> ?_,λ_ e=>(by cases e),λa b hab=> ?_,λ_ e=>absurd e (by show(15:Int)≠9;decide),by rw[hL];omega⟩
 ·rw[r1.scan d hd,qP a7 hd,r2.scan d hd]
 ·rcases hn with h|h<;>rw[h]<;>rfl
 ·rw[hL] at hab|-;have hab:a=p.nN/\b=p.oC:=hab.resolve_right ak;refine WI (by unfold chain;omega) (by decide) λnt hs=> ?_
  have s1:=(r1.at (a:=a) (b:=b) (.inr ak) (lv:=2) ak ak).s1 nt (af9 a b ak (λ_=>trivial) ak (λ_=>a2) a3 (λ_=>a4) a5 a6);have s2:=(r2.at (a:=a) (b:=b) (.inl hab) ak w2).s1 nt hs;have ht:(tgt (u,false) && F7 (aO l j))=true:=by rw[ka,Bool.and_true];unfold tgt;rw[hl];rfl
  refine kJ (dA (jh (g:=λn x i nt=>bif tgt x && F7 (aO l i) then(ex l n 1 a b (i+1) nt).bind λy j nt=> .ok ((Tn.mk 15 (aO l i) [] [] [x.1,y.1],false):Xp) j nt else .ok x i nt) s1 ?_) λn=>by rw[ex]);exact dA (jh (g:=λn y i nt=> .ok ((Tn.mk 15 (aO l j) [] [] [u,y.1],false):Xp) i nt) s2 (lJ _)) λn=>by rw[ht,aJ]
theorem aGG{hu hv:Bool}{u v:Tn}{i j m:Nat}(r1:Rd l hu u (cO 12 99 2 0 p) i j)(v1:aej hu u (cO 12 99 2 0 p))(r2:Rd l hv v (cO 12 99 2 1 p) j m)(v2:aej hv v (cO 12 99 2 1 p)):Rd l false (.mk 12 99 [] [] [u,v]) p i m:=by
 have hL:WO false (.mk 12 99 [] [] [u,v])=8:=rfl;have q1:=FB (k:=12) (op:=99) (n:=2) (j:=0) hp ak (by decide) (by decide) (λe=>by omega);have q2:=FB (k:=12) (op:=99) (n:=2) (j:=1) hp ak (by decide) (by decide) (λe=>by omega);rw[q1] at r1 v1;rw[q2] at r2 v2;have w1:=afh (n:=8) v1 rfl rfl;have w2:=afh (n:=9) v2 rfl rfl;have hb:O9 (aO l j)=true:=r2.sign (by show(Nat.beq 1 0 && p.fD||true)=true;simp);have hbk:aO l j=3\/aO l j=4\/aO l j=6\/aO l j=7\/aO l j=8\/aO l j=32\/aO l j=68:=by have:=hb;unfold O9 at this;simp only[Bool.or_eq_true,beq_iff_eq] at this;exact this
 have hst:∀a b,Stp 9 a b (aO l j):=λa b=>by
  refine af9 a b ak (λ_=>trivial) ?_ (λe=>by omega) ak (λe=>by omega) ?_ ak
  ·have:dP (aO l j)=0:=by rcases hbk with h|h|h|h|h|h|h<;>rw[h]<;>rfl
   omega
  ·rcases hbk with h|h|h|h|h|h|h<;>rw[h]<;>rfl
 refine⟨acZ hp r1.fst (by rw[hL];omega),λd hd=>by rw[r1.scan d hd,r2.scan d hd],λe=> ?_,λ_ e=>(by cases e),λa b hab=> ?_,λ_ e=>absurd e (by show(12:Int)≠9;decide),by rw[hL];omega⟩
 ·refine r1.sign ?_;show(Nat.beq 0 0 && p.fD||(Nat.beq 0 1 &&((12:Int)==12 &&(99:Int)==99)))=true;rw[e];rfl
 ·rw[hL] at hab|-;have hab:a=p.nN/\b=p.oC:=hab.resolve_right ak;have key:∀nt r,Stp 9 a b (aO l m)->VK (λn=>UK l n 8 a b (.mk 12 99 [] [] [u,v],false) m nt) r->VK (λn=>ex l n 8 a b i nt) r:=λnt r hs hr=>by refine(r1.at (a:=a) (b:=b) (.inl hab) ak w1).s2 (by unfold chain;omega) nt r (hst a b) ?_;have s2:=(r2.at (a:=a) (b:=b) (.inl hab) ak w2).s1 nt hs;refine kJ (dA (jh (g:=λn y i nt=>UK l n 8 a b (.mk 12 99 [] [] [u,y.1],false) i nt) s2 hr) λn=> ?_);have hi:oN 8 (b && Nat.beq 8 7) (aO l j)=true:=hb;rw[UK,hi,aJ];rfl
  exact⟨λnt hs=>key nt _ (hs.mono ak) (ax3 hs),λ_=>key,λe=>by omega⟩
end
end Go.Proofs.YthmchnpcplgciaaGreatDoor
namespace Go.Proofs.YthmchnpcplgciaaGreatDoor
open Go Go.Vm
variable {l:List Tk}
def aek{d:Int}(hd:1<=d){i':Nat}:∀(n i:Nat),i' - i=n->pst l i i'->ahead (l.drop i) d=ahead (l.drop i') d
 |0,i,hn,h=>by
  obtain rfl:i=i':=by have:=h.1;omega
  rfl
 |n+1,i,hn,h=>by have h1:=h.2 i (zba _) ak;rw[qP (by rw[h1];unfold ntr;omega) hd];exact aek hd n (i+1) ak ⟨ak,λk h2 h3=>h.2 k ak h3⟩
def aEu{k:Int}(h:bgE k):k≠1/\k≠2:=by unfold bgE at h;omega
def lvls{k:Int}(h:dP k≠0)(ZO:k≠99):((k=44\/k=45)/\(dP k=3\/dP k=4))\/(k≠44/\k≠45/\(dP k=9\/dP k=10))\/((k=67\/k=46)/\dP k=6)\/(dP k=7/\k≠44/\k≠45)\/(k=60/\dP k=12):=by
 have hc:=apU h;rcases hc with e|e|e|e|e|e|e|e|e|e|e|e|e|e|e|e|e
 all_goals first
  |exact absurd e ZO
  |(subst e;decide)
section
variable {p:Ps} (hp:gY p=true)
include hp
theorem aGH{hu hv:Bool}{u v:Tn}{i j j' m:Nat}(h0:dP (aO l j)≠0)(ZO:aO l j≠99)(r1:Rd l hu u (cO 12 (aO l j) 2 0 p) i j)(v1:aej hu u (cO 12 (aO l j) 2 0 p))(hj:if aO l j=44\/aO l j=45 then pst l (j+1) j' else j'=j+1)
  (r2:Rd l hv v (cO 12 (aO l j) 2 1 p) j' m) (v2:aej hv v (cO 12 (aO l j) 2 1 p)) (hf:Fl 12 (aO l j) p):Rd l false (.mk 12 (aO l j) [] [] [u,v]) p i m:=by
 have hle:=Zt (aO l j);have aTR:lvl 12 (aO l j)≠15:=by show dP (aO l j)≠15;omega
 have q1:=FB (k:=12) (op:=aO l j) (n:=2) (j:=0) hp ak h0 aTR (λe=>by omega);have q2:=FB (k:=12) (op:=aO l j) (n:=2) (j:=1) hp ak h0 aTR (λe=>by omega);rw[q1] at r1 v1;rw[q2] at r2 v2;obtain⟨o24,ob,os,o34,on⟩:=aye h0 ZO;obtain⟨L,hLk⟩:∃L:Nat,dP (aO l j)=(L:Int):=⟨(dP (aO l j)).toNat,ak⟩
 have hL:WO false (.mk 12 (aO l j) [] [] [u,v])=L:=aGz hLk;have aTS:pst l (j+1) j':=by
  split at hj
  ·exact hj
  ·subst hj;exact⟨zba _,λk h1 h2=>by omega⟩
 have scan:∀d:Int,1<=d->ahead (l.drop i) d=ahead (l.drop m) d:=λd hd=>by rw[r1.scan d hd,qP on hd,aek hd _ (j+1) rfl aTS,r2.scan d hd]
 have sign:p.fD=true->O9 (aO l i)=true:=λe=>r1.sign (by show(Nat.beq 0 0 && p.fD||(Nat.beq 0 1 &&((12:Int)==12 && aO l j==99)))=true;rw[e];rfl)
 have stp:∀(a b:Bool) (lv:Nat),L<lv->3<=lv->Stp lv a b (aO l j):=λa b lv h1 h3=>af9 a b ak (λ_=>trivial) ak (λe=>by omega) o24 (λ_=>ob) os o34
 have s1:∀(x y:Nat),sides (aO l j)=((x:Int),(y:Int))->x<=WO hu u/\y<=WO hv v:=λx y hs=>by
  refine⟨afh (n:=x) v1 ?_ rfl,afh (n:=y) v2 ?_ rfl⟩
  ·show(bif Nat.beq 0 0 then(sides (aO l j)).1 else(sides (aO l j)).2)=_;rw[hs];rfl
  ·show(bif Nat.beq 1 0 then(sides (aO l j)).1 else(sides (aO l j)).2)=_;rw[hs];rfl
 have done:(L<=WO hu u)->(∀a b,(a=p.nN/\b=p.oC)->Rl l (.mk 12 (aO l j) [] [] [u,v],false) i m a b L)->1<=L/\L<=12->Rd l false (.mk 12 (aO l j) [] [] [u,v]) p i m:=λw1 hr hb=>⟨acZ hp r1.fst (by rw[hL];exact w1),scan,sign,λ_ e=>(by cases e),λa b hab=>(by rw[hL] at hab|-;exact hr a b (hab.resolve_right ak)),λ_ e=>absurd e (by show(12:Int)≠9;decide),by rw[hL];omega⟩
 have aGI:∀nt,(bif Nat.ble L 4 then nl l (j+1) nt else(j+1,nt))=(j',nt):=λnt=>by
  have hk:=lvls h0 ZO
  by_cases h4:L<=4
  ·rw[Nat.ble_eq_true_of_le h4,aJ];exact arC (aEu r2.fst.bg) nt _ (j+1) rfl aTS
  ·have:Nat.ble L 4=false:=by
    cases hq:Nat.ble L 4 with
    |false=>rfl
    |true=>rw[Nat.ble_eq] at hq;omega
   rw[this,aW];rw[if_neg ak] at hj;rw[hj]
 have chn:chain L->L≠8->sides (aO l j)=((L:Int),((L+1:Nat):Int))->Rd l false (.mk 12 (aO l j) [] [] [u,v]) p i m:=λhc h8 hs=>by
  obtain⟨w1,w2⟩:=s1 L (L+1) hs;have hc':=hc;unfold chain at hc';refine done w1 (λa b hab=> ?_) ak;have key:∀nt r,Stp (L+1) a b (aO l m)->VK (λn=>UK l n L a b (.mk 12 (aO l j) [] [] [u,v],false) m nt) r->VK (λn=>ex l n L a b i nt) r:=λnt r hst hr=>by
   refine(r1.at (a:=a) (b:=b) (.inl hab) ak w1).s2 hc nt r (stp a b _ ak ak) ?_;have s2:=(r2.at (a:=a) (b:=b) (.inl hab) ak w2).s1 nt hst;refine kJ (dA (jh (g:=λn y i nt=>UK l n L a b (.mk 12 (aO l j) [] [] [u,y.1],false) i nt) s2 hr) λn=> ?_);have h7:Nat.beq L 7=false:=by
    cases hq:Nat.beq L 7 with
    |false=>rfl
    |true=>rw[Nat.beq_eq] at hq;omega
   have h8':Nat.beq L 8=false:=by
    cases hq:Nat.beq L 8 with
    |false=>rfl
    |true=>rw[Nat.beq_eq] at hq;omega
   have hi:oN L (b && Nat.beq L 7) (aO l j)=true:=by unfold oN;rw[h8',h7,aW,hLk,Bool.and_false,Bool.false_and];simp
   rw[UK,hi,aJ];simp only[h8',aW,aGI]
  exact⟨λnt hs=>key nt _ (hs.mono ak) (ax3 hs),λ_=>key,λe=>by omega⟩
 have hk:=lvls h0 ZO;rcases hk with⟨hk,h34⟩|⟨_,_,h90⟩|⟨hk,h6⟩|⟨h7,n44,n45⟩|⟨hk,h12⟩
 ·refine chn (by unfold chain;omega) ak ?_;rcases h34 with h|h
  ·have:L=3:=ak;subst this;unfold sides;rw[h];rfl
  ·have:L=4:=ak;subst this;unfold sides;rw[h];rfl
 ·refine chn (by unfold chain;omega) ak ?_;rcases h90 with h|h
  ·have:L=9:=ak;subst this;unfold sides;rw[h];rfl
  ·have:L=10:=ak;subst this;unfold sides;rw[h];rfl
 ·have:L=6:=ak;subst this;obtain⟨w1,w2⟩:=s1 7 7 (by unfold sides;rw[h6];rfl);refine done ak (λa b hab=>WI (by unfold chain;omega) (by decide) λnt hs=> ?_) ak;have e1:=(r1.at (a:=a) (b:=b) (.inl hab) ak w1).s1 nt (stp a b 7 ak ak);rw[if_neg ak] at hj;subst hj;have e2:=(r2.at (a:=a) (b:=b) (.inl hab) ak w2).s1 nt (hs.mono ak);have hc:(aO l j==67||aO l j==46)=true:=by rw[Bool.or_eq_true,beq_iff_eq,beq_iff_eq];exact hk
  refine kJ (dA (jh (g:=λn x i nt=>bif aO l i==67||aO l i==46 then(ex l n 7 a b (i+1) nt).bind λy j nt=> .ok ((Tn.mk 12 (aO l i) [] [] [x.1,y.1],false):Xp) j nt else .ok x i nt) e1 ?_) λn=>by rw[ex]);exact dA (jh (g:=λn y i nt=> .ok ((Tn.mk 12 (aO l j) [] [] [u,y.1],false):Xp) i nt) e2 (lJ _)) λn=>by rw[hc,aJ]
 ·have:L=7:=ak;subst this;obtain⟨w1,w2⟩:=s1 8 8 (by unfold sides;rw[h7];rfl);refine done ak (λa b hab=>WI (by unfold chain;omega) (by decide) λnt hs=> ?_) ak;have e1:=(r1.at (a:=a) (b:=b) (.inl hab) ak w1).s1 nt (stp a b 8 ak ak);rw[if_neg ak] at hj;subst hj;have e2:=(r2.at (a:=a) (b:=b) (.inl hab) ak w2).s1 nt (hs.mono ak);have hc:oN 7 b (aO l j)=true:=by
   unfold oN;rw[show Nat.beq 7 8=false from rfl,aW,h7];cases hb:b with
   |false=>rfl
   |true=>
    have h62:aO l j≠62:=λe=>hf.gt (by rw[<-hab.2];exact hb) ⟨rfl,e⟩
    rw[nY.2 h62];rfl
  refine kJ (dA (jh (g:=λn x i nt=>bif oN 7 b (aO l i) then(ex l n 8 a b (i+1) nt).bind λy j nt=> .ok ((Tn.mk 12 (aO l i) [] [] [x.1,y.1],false):Xp) j nt else .ok x i nt) e1 ?_) λn=>by rw[ex]);exact dA (jh (g:=λn y i nt=> .ok ((Tn.mk 12 (aO l j) [] [] [u,y.1],false):Xp) i nt) e2 (lJ _)) λn=>by rw[hc,aJ]
 ·have:L=12:=ak;subst this;obtain⟨w1,w2⟩:=s1 13 11 (by unfold sides;rw[h12];rfl);refine done ak (λa b hab=>WI (by unfold chain;omega) (by decide) λnt hs=> ?_) ak;have e1:=(r1.at (a:=a) (b:=b) (.inl hab) ak w1).s1 nt (stp a b 13 ak ak);rw[if_neg ak] at hj;subst hj;have hs11:Stp 11 a b (aO l m):=⟨λe=>by omega,λe=>by omega,λq hq e=>(by
   by_cases h:12<=q
   ·exact hs.op q h e
   ·have:dP (aO l m)=11:=ak;exact absurd this (ayd _)),λe=>by omega,λe=>by omega,λ_=>hs.step ak,hs.brk⟩
  have e2:=(r2.at (a:=a) (b:=b) (.inl hab) ak w2).s1 nt hs11;have hc:(aO l j==60)=true:=by rw[beq_iff_eq];exact hk
  refine kJ (dA (jh (g:=λn x i nt=>bif aO l i==60 then(ex l n 11 a b (i+1) nt).bind λy j nt=> .ok ((Tn.mk 12 60 [] [] [x.1,y.1],false):Xp) j nt else .ok x i nt) e1 ?_) λn=>by rw[ex]);rw[hk];exact dA (jh (g:=λn y i nt=> .ok ((Tn.mk 12 60 [] [] [u,y.1],false):Xp) i nt) e2 (lJ _)) λn=>rfl
end
def aGJ{h:Bool}{t:Tn}{i j:Nat}(r:Rd l h t .top i j):Rs l [t] i j where
 ne:=zba _
 bg:=r.fst.bg
 scan:=λd hd=>r.scan d ak
 two:=λe=>absurd e (by simp)
 rd:=λL nt h6 hs h36=>by have h1:=(r.at (.inl ⟨rfl,rfl⟩) (zba 1) r.lvl.1).s1 nt hs;refine kJ (dA (jh (g:=λn x i nt=>bif aO l i==36 then(bif Nat.beq (L.length+1) 6 then .bad i else Po l n false false (L++[x.1]) (nl l (i+1) nt).1 (nl l (i+1) nt).2) else .ok (L++[x.1]) i nt) h1 (dA (lJ _) λn=> ?_)) λn=>by rw[Po];rfl);rw[nY.2 h36,aW]
def aC5{h:Bool}{t:Tn}{ks:List Tn}{i j j' m:Nat}(r:Rd l h t .top i j)(hk:aO l j=36)(hj:pst l (j+1) j')(rsT:Rs l ks j' m):Rs l (t::ks) i m where
 ne:=by simp
 bg:=r.fst.bg
 scan:=λd hd=>by rw[r.scan d ak,auK hk hd,aek ak _ (j+1) rfl hj,rsT.scan d hd]
 two:=λ_=>by rw[r.scan 1 ak];exact arB hk
 rd:=λL nt h6 hs h36=>by
  have hne:=rsT.ne;rw[ZE] at h6;have h1:=(r.at (.inl ⟨rfl,rfl⟩) (zba 1) r.lvl.1).s1 nt (by rw[hk];exact WH _ ak 1 (zba _) _ _);have h2:=rsT.rd (L++[t]) nt (by simp;omega) hs h36;have hn:=arC (aEu rsT.bg) nt _ (j+1) rfl hj;have h5:Nat.beq (L.length+1) 6=false:=by
   cases hq:Nat.beq (L.length+1) 6 with
   |false=>rfl
   |true=>rw[Nat.beq_eq] at hq;omega
  rw[VN,List.singleton_append] at h2;refine kJ (dA (jh (g:=λn x i nt=>bif aO l i==36 then(bif Nat.beq (L.length+1) 6 then .bad i else Po l n false false (L++[x.1]) (nl l (i+1) nt).1 (nl l (i+1) nt).2) else .ok (L++[x.1]) i nt) h1 (dA h2 λn=> ?_)) λn=>by rw[Po];rfl);rw[hk,h5,hn];rfl
def Kn(l:List Tk):Tg->Nat->Nat->Prop
 | .dv h t p,i,j=>gY p=true->Rd l h t p i j/\aej h t p
 | .nv t p,i,j=>gY p=true->Fl t.kind t.op p->Rd l false t p i j
 | .ls ks,i,j=>Rs l ks i j
def aga{op:Int}(h:dP op≠0):lvl 12 op≠0:=h
def asO{g:Tg}{i j:Nat}(h:Dx l g i j):Kn l g i j:=by
 induction h with
 |par ho _ hc ih=>exact λhp=>⟨aGy hp ho (ih rfl).1 hc,.inl (by rw[ax7];unfold gY at hp;rw[wo,wo,decide_eq_true_eq,decide_eq_true_eq] at hp;omega)⟩
 |node hf _ ih=>
  intro hp;have h1:=acX hf;refine⟨ih hp h1.1, ?_⟩;rcases h1.2 with h2|h2
  ·refine .inl ?_;rw[aEt];unfold gY at hp;rw[wo,wo,decide_eq_true_eq,decide_eq_true_eq] at hp;omega
  ·exact .inr ⟨h2.1,h2.2,rfl⟩
 |one _ ih=>exact aGJ (ih rfl).1
 |cons _ hk hj _ ih1 ih2=>exact aC5 (ih1 rfl).1 hk hj ih2
 |name hk=>exact λhp _=>aC0 hp hk
 |leaf h3 hk=>exact λhp hf=>aC1 hp h3 hk hf
 |index hk ho _ h6 hc ih=>exact λhp _=>aya hp hk ho ih h6 hc
 |call h7 hk ho _ h6 hc ih=>exact λhp _=>aC2 hp h7 hk ho ih h6 hc
 |Lm h7 hk ho hc=>exact λhp _=>ayb hp h7 hk ho hc
 |len hk hx ho=>exact λhp _=>aGx hp hk hx ho
 |field hk _ ih=>intro hp _;have:=ih (jJ hp ak (by decide));exact ayc hp hk this.1 this.2
 |pre hk hl _ ih=>exact λhp hf=>aGA hp hk hl (ih (jJ hp ak (by show(13:Int)≠0;decide)) (ale hl)) hf
 |post hk hl _ ih=>exact λhp _=>aC3 hp hk hl (ih (jJ hp ak (by show(13:Int)≠0;decide)) (ale hl))
 |una hk _ ih=>intro hp hf;have:=ih (jJ hp ak (by show(11:Int)≠0;decide));exact aGB hp hk this.1 this.2 hf
 |in1 _ Zv h6 ih=>intro hp hf;have:=ih (jJ hp ak (by decide));exact aGD hp this.1 this.2 Zv h6 hf
 |inN ho _ h2 h6 hc Zv hn ih=>exact λhp hf=>aGE hp ho ih h2 h6 hc Zv hn hf
 |cond _ k1 _ k2 _ ih1 ih2 ih3=>intro hp hf;have a1:=ih1 (jJ hp ak (by decide));have a2:=ih2 (jJ hp ak (by decide));have a3:=ih3 (jJ hp ak (by decide));exact aC4 hp a1.1 a1.2 k1 a2.1 a2.2 k2 a3.1 a3.2
 |asg hl _ ka _ ih1 ih2=>intro hp hf;have a2:=ih2 (jJ hp ak (by show(1:Int)≠0;decide));exact aGF hp hl (ih1 (jJ hp ak (by show(1:Int)≠0;decide)) (ale hl)) ka a2.1 a2.2
 |bin h0 ZO _ hj _ ih1 ih2=>intro hp hf;have a1:=ih1 (jJ hp ak (aga h0));have a2:=ih2 (jJ hp ak (aga h0));exact aGH hp h0 ZO a1.1 a1.2 hj a2.1 a2.2 hf
 |cat _ _ ih1 ih2=>intro hp hf;have a1:=ih1 (jJ hp ak (by decide));have a2:=ih2 (jJ hp ak (by decide));exact aGG hp a1.1 a1.2 a2.1 a2.2
end Go.Proofs.YthmchnpcplgciaaGreatDoor
namespace Go.Proofs.YthmchnpcplgciaaGreatDoor
open Go Go.Vm
variable {l:List Tk}
def jZ{i:Nat}{k:Int}(e:(aO l i==k)=true)(hk:k≠0):i<l.length:=eF (by rw[beq_iff_eq] at e;rw[e];exact hk)
section
variable {α β:Type} {P Q:α->Nat->kH->Prop} {R:β->Nat->kH->Prop} {x y:PR α} {f:α->Nat->kH->PR β} {c:Bool}
def nM:(x.bind f).sat R↔x.sat λa i nt=>(f a i nt).sat R:=by cases x<;>exact Iff.rfl
def dR(h:x.sat P)(k:∀a i nt,P a i nt->Q a i nt):x.sat Q:=by
 cases x with
 |ok a i nt=>exact k a i nt h
 |bad _=>trivial
 |out=>trivial
def oz:(bif c then x else y).sat P↔(c=true->x.sat P)/\(c=false->y.sat P):=by cases c<;>simp
def lK{a:α}{i:Nat}{nt:kH}(h:x.sat P)(e:x=.ok a i nt):P a i nt:=by rw[e] at h;exact h
end
variable {l:List Tk}
def RF{P:Unit->Nat->kH->Prop}{k:Int}{i:Nat}{nt:kH}:(qH l k i nt).sat P↔(aO l i=k->P () (i+1) nt):=by unfold qH;rw[oz];simp[PR.sat]
def apV{P:aI->Nat->kH->Prop}{i:Nat}{nt:kH}:(nameP l i nt).sat P↔(aO l i=6->P (xB l i) (i+1) nt):=by unfold nameP;rw[oz];simp[PR.sat]
abbrev FN(l:List Tk)(i n0 j n:Nat):Prop:=i<=j/\j<=l.length/\n+i<=n0+j
abbrev FE(l:List Tk)(i n0 s j n:Nat):Prop:=i<j/\j<=l.length/\n+i<=n0+j/\s+2 * i+1<=2 * j
def amU:∀(r:List Tk) (i:Nat) (nt:kH),i<=(nlR r i nt).1/\(nlR r i nt).1<=i+r.length/\(nlR r i nt).2.length+i<=nt.length+(nlR r i nt).1
 |[],i,nt=>by rw[nlR];exact⟨zba _,zba _,zba _⟩
 |t::r,i,nt=>by
  rw[nlR,ZE];cases t.kind==1<;>cases t.kind==2<;>simp only[aJ,aW]
  ·omega
  ·have:=amU r (i+1) (nt++[t.text]);rw[PD,TG] at this;omega
  ·have:=amU r (i+1) nt;omega
  ·have:=amU r (i+1) nt;omega
def alf{i:Nat}{nt:kH}(h:i<=l.length):FN l i nt.length (nl l i nt).1 (nl l i nt).2.length:=by have:=amU (l.drop i) i nt;rw[List.length_drop] at this;unfold nl;omega
structure aTT(l:List Tk)(n:Nat):Prop where
 ex:∀lv a b i nt,1<=lv->lv<=15->i<=l.length->(ex l n lv a b i nt).sat λx j m=>FE l i nt.length x.1.size j m.length
 ch:∀lv a b x i nt,3<=lv->lv<=10->i<=l.length->(UK l n lv a b x i nt).sat λy j m=>FN l i nt.length j m.length/\y.1.size+2 * i<=x.1.size+2 * j
 inp:∀a x i nt,i<=l.length->(TQ l n a x i nt).sat λy j m=>FN l i nt.length j m.length/\y.1.size+2 * i<=x.1.size+2 * j
 pre:∀i nt,i<l.length->(I8 l n i nt).sat λx j m=>FE l i nt.length x.1.size j m.length
 lst:∀e i nt,e≠0->i<=l.length->(Bv l n e i nt).sat λL j m=>FE l i nt.length (sizes L) j m.length
 it:∀a b L i nt,i<=l.length->(Po l n a b L i nt).sat λL' j m=>i<j/\FN l i nt.length j m.length/\sizes L'+2 * i+1<=sizes L+2 * j
def ac0(k o:Int)(x y:aI)(t:Tn):(Tn.mk k o x y [t]).size=t.size+1:=by simp only[Tn.size,sizes,Nat.add_zero]
def size2(k o:Int)(x y:aI)(t u:Tn):(Tn.mk k o x y [t,u]).size=t.size+u.size+1:=by simp only[Tn.size,sizes,Nat.add_zero]
def size3(k o:Int)(x y:aI)(t u v:Tn):(Tn.mk k o x y [t,u,v]).size=t.size+u.size+v.size+1:=by simp only[Tn.size,sizes,Nat.add_zero];omega
def asP(k o:Int)(x y:aI)(L:List Tn):(Tn.mk k o x y L).size=sizes L+1:=by rw[Tn.size]
def aTU(k o:Int)(x y:aI):(Tn.mk k o x y []).size=1:=by rw[Tn.size,sizes]
def sizes1(L:List Tn)(t:Tn):sizes (L++[t])=sizes L+t.size:=by rw[Gf,sizes,sizes];omega
section
variable {n:Nat} (h:aTT l n)
include h
theorem aC6(lv:Nat)(a b:Bool)(i:Nat)(nt:kH)(h1:1<=lv)(h2:lv<=15)(hi:i<=l.length):(ex l (n+1) lv a b i nt).sat λx j m=>FE l i nt.length x.1.size j m.length:=by
 have hlt:∀{j:Nat} {k:Int},(aO l j==k)=true->k≠0->j<l.length:=λe hk=>eF (by rw[beq_iff_eq] at e;rw[e];exact hk)
 have hc:lv=1\/lv=2\/lv=3\/lv=4\/lv=5\/lv=6\/lv=7\/lv=8\/lv=9\/lv=10\/lv=11\/lv=12\/lv=13\/lv=14\/lv=15:=ak;rcases hc with rfl|rfl|rfl|rfl|rfl|rfl|rfl|rfl|rfl|rfl|rfl|rfl|rfl|rfl|rfl<;>simp only[ex,nM]
 ·refine dR (h.ex 2 a b i nt ak ak hi) λx j m hj=> ?_
  rw[oz];refine⟨λhc=> ?_,λ_=>hj⟩;rw[wo] at hc;have:=eF (aeg hc.2);rw[nM];exact dR (h.ex 1 a b (j+1) m ak ak ak) λy j' m' hj'=>by show FE l i nt.length (Tn.size _) j' m'.length;rw[size2];omega
 ·refine dR (h.ex 3 a b i nt ak ak hi) λx j m hj=> ?_
  rw[oz];refine⟨λhc=> ?_,λ_=>hj⟩;have:=hlt hc (by decide);simp only[nM,RF];refine dR (h.ex 2 a b (j+1) m ak ak ak) λy j2 m2 hj2=>λhk=> ?_
  have:=eF (l:=l) (i:=j2) (by rw[hk];decide);exact dR (h.ex 2 a b (j2+1) m2 ak ak ak) λz j3 m3 hj3=>by show FE l i nt.length (Tn.size _) j3 m3.length;rw[size3];omega
 ·refine dR (h.ex 4 a b i nt ak ak hi) λx j m hj=> ?_
  exact dR (h.ch 3 a b x j m ak ak ak) λy j' m' hj'=>by omega
 ·refine dR (h.ex 5 a b i nt ak ak hi) λx j m hj=> ?_
  exact dR (h.ch 4 a b x j m ak ak ak) λy j' m' hj'=>by omega
 ·rw[oz];refine⟨λhc=> ?_,λ_=> ?_⟩
  ·rw[wo,wo] at hc;have:=hlt hc.1.1 (by decide);simp only[nM,RF,apV];refine dR (h.lst 33 (i+1) nt (by decide) ak) λL j m hj=>λZv h6=> ?_
   have:=eF (l:=l) (i:=j) (by rw[Zv];decide);have:=eF (l:=l) (i:=j+1) (by rw[h6];decide);exact dR (h.inp a _ (j+1+1) m ak) λy j' m' hj'=>by rw[asP] at hj';omega
  ·rw[nM];refine dR (h.ex 6 a b i nt ak ak hi) λx j m hj=> ?_
   exact dR (h.inp a x j m ak) λy j' m' hj'=>by omega
 ·refine dR (h.ex 7 a b i nt ak ak hi) λx j m hj=> ?_
  rw[oz];refine⟨λhc=> ?_,λ_=>hj⟩;have:j<l.length:=by rw[Bool.or_eq_true] at hc;rcases hc with hc|hc<;>exact hlt hc (by decide)
  rw[nM];exact dR (h.ex 7 a b (j+1) m ak ak ak) λy j' m' hj'=>by show FE l i nt.length (Tn.size _) j' m'.length;rw[size2];omega
 ·refine dR (h.ex 8 a b i nt ak ak hi) λx j m hj=> ?_
  rw[oz];refine⟨λhc=> ?_,λ_=>hj⟩;have:=eF (GR ak hc);rw[nM];exact dR (h.ex 8 a b (j+1) m ak ak ak) λy j' m' hj'=>by show FE l i nt.length (Tn.size _) j' m'.length;rw[size2];omega
 ·refine dR (h.ex 9 a b i nt ak ak hi) λx j m hj=> ?_
  exact dR (h.ch 8 a b x j m ak ak ak) λy j' m' hj'=>by omega
 ·refine dR (h.ex 10 a b i nt ak ak hi) λx j m hj=> ?_
  exact dR (h.ch 9 a b x j m ak ak ak) λy j' m' hj'=>by omega
 ·refine dR (h.ex 11 a b i nt ak ak hi) λx j m hj=> ?_
  exact dR (h.ch 10 a b x j m ak ak ak) λy j' m' hj'=>by omega
 ·rw[oz];refine⟨λhc=> ?_,λ_=>h.ex 12 a b i nt ak ak hi⟩;have:i<l.length:=by simp only[Bool.or_eq_true] at hc;rcases hc with hc|hc|hc<;>exact hlt hc (by decide)
  rw[nM];exact dR (h.ex 11 a b (i+1) nt ak ak ak) λy j' m' hj'=>by show FE l i nt.length (Tn.size _) j' m'.length;rw[ac0];omega
 ·refine dR (h.ex 13 a b i nt ak ak hi) λx j m hj=> ?_
  rw[oz];refine⟨λhc=> ?_,λ_=>hj⟩;have:=hlt hc (by decide);rw[nM];exact dR (h.ex 11 a b (j+1) m ak ak ak) λy j' m' hj'=>by show FE l i nt.length (Tn.size _) j' m'.length;rw[size2];omega
 ·rw[oz];refine⟨λhc=> ?_,λ_=> ?_⟩
  ·have:=eF (xC hc);exact h.pre i nt this
  ·rw[nM];refine dR (h.ex 14 a b i nt ak ak hi) λx j m hj=> ?_
   rw[oz];refine⟨λhs=> ?_,λ_=>hj⟩;rw[wo] at hs;have:=eF (xC hs.2);show FE l i nt.length (Tn.size _) (j+1) m.length;rw[ac0];omega
 ·rw[oz];refine⟨λhc=> ?_,λ_=>h.ex 15 a b i nt ak ak hi⟩;have:=hlt hc (by decide);rw[nM,oz];refine⟨λhs=> ?_,λ_=> ?_⟩
  ·have:=eF (xC hs);exact dR (h.pre (i+1) nt this) λx j m hj=>by show FE l i nt.length (Tn.size _) j m.length;rw[ac0];omega
  ·exact dR (h.ex 14 a b (i+1) nt ak ak ak) λx j m hj=>by show FE l i nt.length (Tn.size _) j m.length;rw[ac0];omega
 ·have Zw:∀k,i<l.length->(SG k l i nt).sat λx j m=>FE l i nt.length x.1.size j m.length:=λk hl=>by show FE l i nt.length (Tn.size _) (i+1) nt.length;rw[aTU];omega
  rw[oz];refine⟨λhc=>Zw 2 (hlt hc (by decide)),λ_=> ?_⟩;rw[oz];refine⟨λhc=>Zw 3 (hlt hc (by decide)),λ_=> ?_⟩;rw[oz];refine⟨λhc=>Zw 4 (hlt hc (by decide)),λ_=> ?_⟩;rw[oz];refine⟨λhc=> ?_,λ_=> ?_⟩
  ·have h0:=hlt hc (by decide);rw[oz];refine⟨λhd=> ?_,λ_=>Zw 1 h0⟩;have:=hlt hd (by decide);simp only[nM,RF];exact dR (h.it false false [] (i+2) nt ak) λL j m hj=>λhk=>by have:=eF (l:=l) (i:=j) (by rw[hk];decide);show FE l i nt.length (Tn.size _) (j+1) m.length;rw[asP];have e:sizes ([]:List Tn)=0:=rfl;omega
  rw[oz];refine⟨λhc=> ?_,λ_=> ?_⟩
  ·have:i<l.length:=by rw[Bool.or_eq_true] at hc;rcases hc with hc|hc<;>exact hlt hc (by decide)
   rw[oz];refine⟨λ_=>Zw 8 this,λ_=> ?_⟩;simp only[nM,RF];intro h32;have:=eF (l:=l) (i:=i+1) (by rw[h32];decide);exact dR (h.lst 33 (i+1+1) nt (by decide) ak) λL j m hj=>by show FE l i nt.length (Tn.size _) j m.length;rw[asP];omega
  rw[oz];refine⟨λhc=> ?_,λ_=>trivial⟩;have:=hlt hc (by decide);simp only[nM,RF];exact dR (h.ex 1 false false (i+1) nt ak ak ak) λx j m hj=>λhk=>by have:=eF (l:=l) (i:=j) (by rw[hk];decide);show FE l i nt.length x.1.size (j+1) m.length;omega
theorem aC7(lv:Nat)(a b:Bool)(x:Xp)(i:Nat)(nt:kH)(h3:3<=lv)(h10:lv<=10)(hi:i<=l.length):(UK l (n+1) lv a b x i nt).sat λy j m=>FN l i nt.length j m.length/\y.1.size+2 * i<=x.1.size+2 * j:=by
 rw[UK,oz];refine⟨λhc=> ?_,λ_=>(show FN l i nt.length i nt.length/\x.1.size+2 * i<=x.1.size+2 * i by omega)⟩;have hlt:=eF (GR h3 hc);simp only;cases h8:Nat.beq lv 8 with
 |true=>
  have:=Ia h8;subst this;simp only[aJ,nM];refine dR (h.ex 9 a b i nt ak ak ak) λy j m hj=> ?_
  exact dR (h.ch 8 a b _ j m ak ak ak) λy j' m' hj'=>by rw[size2] at hj';omega
 |false=>
  simp only[aW];cases h4:Nat.ble lv 4 with
  |true=>
   simp only[aJ,nM];have hg:=alf (l:=l) (i:=i+1) (nt:=nt) ak;refine dR (h.ex (lv+1) a b _ _ ak ak ak) λy j m hj=> ?_
   exact dR (h.ch lv a b _ j m ak ak ak) λy j' m' hj'=>by rw[size2] at hj';omega
  |false=>
   simp only[aW,nM];refine dR (h.ex (lv+1) a b (i+1) nt ak ak ak) λy j m hj=> ?_
   exact dR (h.ch lv a b _ j m ak ak ak) λy j' m' hj'=>by rw[size2] at hj';omega
theorem ayf(a:Bool)(x:Xp)(i:Nat)(nt:kH)(hi:i<=l.length):(TQ l (n+1) a x i nt).sat λy j m=>FN l i nt.length j m.length/\y.1.size+2 * i<=x.1.size+2 * j:=by rw[TQ,oz];refine⟨λhc=> ?_,λ_=>(show FN l i nt.length i nt.length/\x.1.size+2 * i<=x.1.size+2 * i by omega)⟩;rw[nM,apV];intro h6;have:=eF (l:=l) (i:=i+1) (by rw[h6];decide);exact dR (h.inp a _ (i+1+1) nt ak) λy j' m' hj'=>by rw[ac0] at hj';omega
theorem ayg(i:Nat)(nt:kH)(hi:i<l.length):(I8 l (n+1) i nt).sat λx j m=>FE l i nt.length x.1.size j m.length:=by rw[I8,oz];refine⟨λhc=> ?_,λ_=>trivial⟩;rw[nM];exact dR (h.ex 14 false false (i+1) nt ak ak ak) λy j' m' hj'=>by show FE l i nt.length (Tn.size _) j' m'.length;rw[ac0];omega
theorem ayh(e:Int)(i:Nat)(nt:kH)(he:e≠0)(hi:i<=l.length):(Bv l (n+1) e i nt).sat λL j m=>FE l i nt.length (sizes L) j m.length:=by
 have e0:sizes ([]:List Tn)=0:=rfl;rw[Bv,oz];refine⟨λhc=> ?_,λ_=> ?_⟩
 ·have:=eF (l:=l) (i:=i) (by rw[beq_iff_eq] at hc;rw[hc];exact he);show FE l i nt.length (sizes []) (i+1) nt.length;omega
 simp only[nM,RF];exact dR (h.it false false [] i nt hi) λL j m hj=>λhk=>by have:=eF (l:=l) (i:=j) (by rw[hk];exact he);show FE l i nt.length (sizes L) (j+1) m.length;omega
theorem aC8(a b:Bool)(L:List Tn)(i:Nat)(nt:kH)(hi:i<=l.length):(Po l (n+1) a b L i nt).sat λL' j m=>i<j/\FN l i nt.length j m.length/\sizes L'+2 * i+1<=sizes L+2 * j:=by
 rw[Po,nM];refine dR (h.ex 1 a b i nt ak ak hi) λx j m hj=> ?_
 rw[oz];refine⟨λhc=> ?_,λ_=> ?_⟩
 ·have:j<l.length:=eF (by rw[beq_iff_eq] at hc;rw[hc];decide);rw[oz];refine⟨λ_=>trivial,λ_=> ?_⟩;have hg:=alf (l:=l) (i:=j+1) (nt:=m) ak;exact dR (h.it a b _ _ _ ak) λy j' m' hj'=>by rw[sizes1] at hj';omega
 ·show i<j/\FN l i nt.length j m.length/\sizes (L++[x.1])+2 * i+1<=sizes L+2 * j;rw[sizes1];omega
end
def sats(l:List Tk):∀n,aTT l n
 |0=>⟨λ_ _ _ _ _ _ _ _=>by rw[ex];trivial,λ_ _ _ _ _ _ _ _ _=>by rw[UK];trivial,λ_ _ _ _ _=>by rw[TQ];trivial,λ_ _ _=>by rw[I8];trivial,λ_ _ _ _ _=>by rw[Bv];trivial,λ_ _ _ _ _ _=>by rw[Po];trivial⟩
 |n+1=>have h:=sats l n
  ⟨aC6 h,aC7 h,ayf h,ayg h,ayh h,aC8 h⟩
end Go.Proofs.YthmchnpcplgciaaGreatDoor
namespace Go.Proofs.YthmchnpcplgciaaGreatDoor
open Go Go.Vm
section
variable {α β:Type}
def jf{x:PR α}{f:α->Nat->kH->PR β}{y:β}{j:Nat}{m:kH}(h:x.bind f=.ok y j m):∃a i n,x=.ok a i n/\f a i n=.ok y j m:=by
 cases x with
 |ok a i n=>exact⟨a,i,n,rfl,h⟩
 |bad _=>cases h
 |out=>cases h
end
variable {l:List Tk}
def WJ{k:Int}{i j:Nat}{nt m:kH}{u:Unit}(h:qH l k i nt=.ok u j m):aO l i=k/\j=i+1:=by
 unfold qH at h;cases hc:aO l i==k with
 |true=>rw[hc] at h;cases h;exact⟨by rwa [beq_iff_eq] at hc,rfl⟩
 |false=>rw[hc] at h;cases h
def apW{i j:Nat}{nt m:kH}{s:aI}(h:nameP l i nt=.ok s j m):aO l i=6/\s=xB l i/\j=i+1:=by
 unfold nameP at h;cases hc:aO l i==6 with
 |true=>rw[hc] at h;cases h;exact⟨by rwa [beq_iff_eq] at hc,rfl,rfl⟩
 |false=>rw[hc] at h;cases h
def NC(l:List Tk)(i j:Nat):Prop:=∀k,i<=k->k<j->aO l k≠2
def NC.sub{i j i' j':Nat}(h:NC l i j)(h1:i<=i')(h2:j'<=j):NC l i' j':=λk a b=>h k ak ak
def arF:∀(d i:Nat) (nt:kH),l.length - i=d->∀k,i<=k->k<(nl l i nt).1->aO l k=1\/aO l k=2
 |0,i,nt,hd,k,h1,h2=>by unfold nl at h2;rw[List.drop_eq_nil_of_le ak,nlR] at h2;have h2:k<i:=h2;omega
 |d+1,i,nt,hd,k,h1,h2=>by
  have hi:i<l.length:=ak;have e:l.drop i=l[i]::l.drop (i+1):=List.drop_eq_getElem_cons hi;have hk:aO l i=l[i].kind:=by unfold aO;rw[List.getElem?_eq_getElem hi]
  unfold nl at h2;rw[e,nlR,<-hk] at h2;cases c1:aO l i==1 with
  |true=>
   rw[c1,aJ] at h2;have c1:aO l i=1:=by rwa [beq_iff_eq] at c1
   by_cases hki:k=i
   ·rw[hki];exact .inl c1
   ·exact arF d (i+1) nt ak k ak h2
  |false=>
   rw[c1,aW] at h2;cases c2:aO l i==2 with
   |true=>
    rw[c2,aJ] at h2;have c2:aO l i=2:=by rwa [beq_iff_eq] at c2
    by_cases hki:k=i
    ·rw[hki];exact .inr c2
    ·exact arF d (i+1) _ ak k ak h2
   |false=>rw[c2,aW] at h2;have h2:k<i:=h2;omega
def asQ{i j:Nat}{nt:kH}(h:NC l i j)(hj:(nl l i nt).1<=j):pst l i (nl l i nt).1:=
 ⟨apL i nt,λk h1 h2=>(arF _ i nt rfl k h1 h2).resolve_right (h k h1 ak)⟩
def arG:∀(r:List Tk) (i:Nat) (nt:kH),(nlR r i nt).1<=i+r.length
 |[],i,nt=>by rw[nlR];exact zba _
 |t::r,i,nt=>by rw[nlR];have h1:=arG r (i+1) nt;have h2:=arG r (i+1) (nt++[t.text]);cases t.kind==1<;>cases t.kind==2<;>simp only[aJ,aW,ZE]<;>omega
def ayi{i:Nat}(nt:kH)(hi:i<=l.length):(nl l i nt).1<=l.length:=by have:=arG (l.drop i) i nt;rw[List.length_drop] at this;unfold nl;omega
def Bh{k op:Int}{p:Ps}(h1:gY p=true)(h2:lvl k op≠0)(hF:Fl k op p)(h:p.level<=lvl k op\/(p.gU=true/\k=9)):fits k op p=true:=by
 unfold fits;rw[h1,nY.2 h2];have a:(p.nN && k==13)=false:=by
  cases hn:p.nN with
  |false=>rfl
  |true=>rw[Bool.true_and];exact nY.2 (hF.in_ hn)
 have b:(p.oC &&(k==12 && op==62))=false:=by
  cases hn:p.oC with
  |false=>rfl
  |true=>
   rw[Bool.true_and];have:=hF.gt hn;cases h3:k==12 && op==62 with
   |false=>rfl
   |true=>rw[wo,beq_iff_eq,beq_iff_eq] at h3;exact absurd h3 this
 have c:(p.fD &&(k==11||(k==9||k==4)))=false:=by
  cases hn:p.fD with
  |false=>rfl
  |true=>obtain⟨x,y,z⟩:=hF.sign hn;rw[Bool.true_and,nY.2 x,nY.2 y,nY.2 z];rfl
 rw[a,b,c];simp only[zaZ,Bool.false_or,aW];rcases h with h|⟨h,e⟩
 ·rw[zdt h,Bool.or_true]
 ·rw[h,e];rfl
def ac1{k op:Int}{p:Ps}(h:fits k op p=true):gY p=true/\lvl k op≠0:=by
 unfold fits at h;cases h1:(!(gY p)||lvl k op==0) with
 |true=>rw[h1] at h;cases h
 |false=>
  rw[Bool.or_eq_false_iff,nY] at h1;refine⟨?_,h1.2⟩;cases hp:gY p with
  |true=>rfl
  |false=>rw[hp] at h1;cases h1.1
def asR{t:Tn}{p q:Ps}{i j:Nat}(h:Dx l (.nv t p) i j)(hp:gY p=true)(hq:gY q=true)(h1:p.nN=q.nN)(h2:p.oC=q.oC)(h3:p.fD=q.fD):Dx l (.nv t q) i j:=by
 have e:∀k op n j,cO k op n j p=cO k op n j q:=λk op n j=>by unfold cO;rw[hp,hq,h1,h2,h3]
 cases h with
 |name hk=>exact .name hk
 |leaf h hk=>exact .leaf h hk
 |index a b c d e=>exact .index a b c d e
 |call a b c d e f=>exact .call a b c d e f
 |Lm a b c d=>exact .Lm a b c d
 |len a b c=>exact .len a b c
 |field a b=>rw[e] at b;exact .field a b
 |pre a b c=>rw[e] at c;exact .pre a b c
 |post a b c=>rw[e] at c;exact .post a b c
 |una a b=>rw[e] at b;exact .una a b
 |in1 a b c=>rw[e] at a;exact .in1 a b c
 |inN a b c d e f g=>exact .inN a b c d e f g
 |cond a b c d f=>rw[e] at a c f;exact .cond a b c d f
 |asg a b c d=>rw[e] at b d;exact .asg a b c d
 |bin a b c d f=>rw[e] at c f;exact .bin a b c d f
 |cat a b=>rw[e] at a b;exact .cat a b
def ayj{h:Bool}{t:Tn}{p q:Ps}{i j:Nat}(hd:Dx l (.dv h t p) i j)(hq:gY q=true)(h1:p.nN=q.nN)(h2:p.oC=q.oC)(h3:p.fD=q.fD)(hl:q.level<=p.level)(h4:p.gU=true->q.gU=true):Dx l (.dv h t q) i j:=by
 cases hd with
 |par a b c=>exact .par a b c
 |node hf hn=>
  have f1:=acX hf;have f2:=ac1 hf;refine .node (Bh hq f2.2 ⟨λe=>f1.1.in_ (h1 ▸ e),λe=>f1.1.gt (h2 ▸ e),λe=>f1.1.sign (h3 ▸ e)⟩ ?_) (asR hn f2.1 hq h1 h2 h3);rcases f1.2 with h|⟨h,e⟩
  ·exact .inl ak
  ·exact .inr ⟨h4 h,e⟩
def agb{t:Tn}{p:Ps}{i j:Nat}(hd:Dx l (.dv false t p) i j):fits t.kind t.op p=true/\Dx l (.nv t p) i j:=by
 cases hd with
 |node hf hn=>exact⟨hf,hn⟩
def Dv(l:List Tk)(x:Xp)(lv:Nat)(a b:Bool)(i j:Nat):Prop:=∀s:Bool,(s=true->O9 (aO l i)=true)->Dx l (.dv x.2 x.1 ⟨lv,false,a,b,s⟩) i j
def UC{lv:Nat}(h1:1<=lv)(h2:lv<=15)(a b s:Bool):gY ⟨lv,false,a,b,s⟩=true:=by unfold gY;rw[zdt (show(1:Int)<=(lv:Int) by omega),zdt (show(lv:Int)<=15 by omega)];rfl
def Dv.mono{x:Xp}{lv lv':Nat}{a b:Bool}{i j:Nat}(h:Dv l x lv a b i j)(h1:1<=lv')(h2:lv'<=lv)(h3:lv'<=15):Dv l x lv' a b i j:=
 λs hs=>ayj (h s hs) (UC h1 h3 _ _ _) rfl rfl rfl (by show(lv':Int)<=(lv:Int);omega) λe=>e
def Dv.bin{x y:Xp}{lv lv1 lv2:Nat}{a b:Bool}{i i1 q j:Nat}(hop:dP (aO l i1)=(lv:Int))(h1:1<=lv)(h2:lv<=15)(hs:sides (aO l i1)=((lv1:Int),(lv2:Int)))(hgt:b=true->aO l i1≠62)(ZO:aO l i1≠99)
  (d1:Dv l x lv1 a b i i1) (hq:if aO l i1=44\/aO l i1=45 then pst l (i1+1) q else q=i1+1) (d2:Dv l y lv2 a b q j) (h15:lv≠15):Dv l (.mk 12 (aO l i1) [] [] [x.1,y.1],false) lv a b i j:=by
 intro s hs';have h0:lvl 12 (aO l i1)=(lv:Int):=hop;have hp:=UC h1 h2 a b s;refine .node (Bh hp (by show lvl 12 (aO l i1)≠0;rw[h0];omega) ⟨λ_=>by show(12:Int)≠13;decide,λe c=>hgt e c.2,λ_=>by show(12:Int)≠4/\(12:Int)≠9/\(12:Int)≠11;decide⟩ (.inl (by show(lv:Int)<=lvl 12 (aO l i1);rw[h0];omega))) ?_;refine .bin (hu:=x.2) (hv:=y.2) (by rw[hop];omega) ZO ?_ hq ?_
 ·rw[FB hp ak (by rw[h0];omega) (by rw[h0];omega) (λe=>by cases e)];have e:VI 12 (aO l i1) 0=(lv1:Int):=by show(sides (aO l i1)).1=_;rw[hs]
  rw[e];have:=d1 s hs';cases s<;>exact this
 ·rw[FB hp ak (by rw[h0];omega) (by rw[h0];omega) (λe=>by cases e)];have e:VI 12 (aO l i1) 1=(lv2:Int):=by show(sides (aO l i1)).2=_;rw[hs]
  rw[e];have:=d2 false (λe=>by cases e);have e9:((aO l i1)==99)=false:=nY.2 ZO;rw[e9];cases s<;>exact this
def Dv.cat{x y:Xp}{a b:Bool}{i i1 j:Nat}(d1:Dv l x 8 a b i i1)(hb:O9 (aO l i1)=true)(d2:Dv l y 9 a b i1 j):Dv l (.mk 12 99 [] [] [x.1,y.1],false) 8 a b i j:=by
 intro s hs';have hp:=UC (lv:=8) ak ak a b s;refine .node (Bh hp (show lvl 12 99≠0 by decide) ⟨λ_=>by show(12:Int)≠13;decide,λe c=>absurd c.2 (by show(99:Int)≠62;decide),λ_=>by show(12:Int)≠4/\(12:Int)≠9/\(12:Int)≠11;decide⟩ (.inl (show((8:Nat):Int)<=8 by omega))) ?_;refine .cat (hu:=x.2) (hv:=y.2) (j:=i1) ?_ ?_
 ·rw[FB hp ak (by decide) (by decide) (λe=>by cases e)];have:=d1 s hs';cases s<;>exact this
 ·rw[FB hp ak (by decide) (by decide) (λe=>by cases e)];have:=d2 true (λ_=>hb);cases s<;>exact this
end Go.Proofs.YthmchnpcplgciaaGreatDoor
namespace Go.Proofs.YthmchnpcplgciaaGreatDoor
open Go Go.Vm
variable {l:List Tk}
def sizes0:sizes ([]:List Tn)=0:=rfl
def U9{n lv i:Nat}{a b:Bool}{nt:kH}(h1:1<=lv)(h2:lv<=15)(hi:i<=l.length):(ex l n lv a b i nt).sat λx j m=>FE l i nt.length x.1.size j m.length:=(sats l n).ex lv a b i nt h1 h2 hi
def asT{n i:Nat}{a b:Bool}{nt:kH}(hi:i<=l.length):(Po l n a b [] i nt).sat λL j m=>FE l i nt.length (sizes L) j m.length:=
 dR ((sats l n).it a b [] i nt hi) λL j m hj=>by rw[sizes0] at hj;omega
def pW(l:List (aI)):aj (encS l)=true:=by simp[aj,encS,D.flat]
def snS(l:List (aI))(s:aI):encS l++[[D.str s]]=encS (l++[s]):=by simp[encS]
def lnS(l:List (aI)):(encS l).length=l.length:=by simp[encS]
abbrev TP:=Int×Int×aI×aI×Bool×au×Bool×au×Int×Bool×au
abbrev TL:=Bool×au×au×Int×Bool×au
def AP(l:List Tk)(o:Option TP):PR Xp->Prop
 | .ok x j nt=>∃fl ks,aF ks=iV false x.1.kids/\o=some (x.1.kind,x.1.op,x.1.text,x.1.other,fl,ks,tgt x,aA l,(j:Int),false,encS nt)
 | .bad j=>∃k op x y fl ks tg nt,nt.length<=l.length/\o=some (k,op,x,y,fl,ks,tg,aA l,(j:Int),true,encS nt)
 | .out=>True
def AL(l:List Tk)(o:Option TL):PR (List Tn)->Prop
 | .ok L j nt=>∃fl,o=some (fl,iV false L,aA l,(j:Int),false,encS nt)
 | .bad j=>∃fl ks nt,nt.length<=l.length/\o=some (fl,ks,aA l,(j:Int),true,encS nt)
 | .out=>True
variable {l:List Tk}
section
variable {β γ:Type} {R:Option β->PR γ->Prop}
def AP.elim{o:Option TP}{p:PR Xp}(h:AP l o p){f:TP->Option β}{g:Xp->Nat->kH->PR γ}(hout:∀o,R o .out)
  (hbad:∀k op x y fl ks tg j nt,nt.length<=l.length->R (f (k,op,x,y,fl,ks,tg,aA l,((j:Nat):Int),true,encS nt)) (.bad j))
  (hok:∀x fl ks j nt,aF ks=iV false x.1.kids->p=.ok x j nt->R (f (x.1.kind,x.1.op,x.1.text,x.1.other,fl,ks,tgt x,aA l,(j:Int),false,encS nt)) (g x j nt)):R (o.bind f) (p.bind g):=by
 cases p with
 |ok x j nt=>obtain⟨fl,ks,h1,rfl⟩:=h;exact hok x fl ks j nt h1 rfl
 |bad j=>obtain⟨k,op,x,y,fl,ks,tg,nt,h1,rfl⟩:=h;exact hbad k op x y fl ks tg j nt h1
 |out=>exact hout _
def AL.elim{o:Option TL}{p:PR (List Tn)}(h:AL l o p){f:TL->Option β}{g:List Tn->Nat->kH->PR γ}(hout:∀o,R o .out)
  (hbad:∀fl ks j nt,nt.length<=l.length->R (f (fl,ks,aA l,((j:Nat):Int),true,encS nt)) (.bad j))
  (hok:∀L fl j nt,p=.ok L j nt->R (f (fl,iV false L,aA l,(j:Int),false,encS nt)) (g L j nt)):R (o.bind f) (p.bind g):=by
 cases p with
 |ok L j nt=>obtain⟨fl,rfl⟩:=h;exact hok L fl j nt rfl
 |bad j=>obtain⟨fl,ks,nt,h1,rfl⟩:=h;exact hbad fl ks j nt h1
 |out=>exact hout _
end
def PR.bind_ok{α:Type}(p:PR α):(p.bind λa i nt=> .ok a i nt)=p:=by cases p<;>rfl
def AP.pass{o:Option TP}{p:PR Xp}(h:AP l o p){f:TP->Option TP}
  (hf:∀k op x y fl ks tg j b nt,f (k,op,x,y,fl,ks,tg,aA l,j,b,encS nt)=some (k,op,x,y,false,aF ks,tg,aA l,j,b,encS nt)):AP l (o.bind f) p:=by
 rw[<-PR.bind_ok p];refine AP.elim (R:=AP l) h (λ_=>trivial) (λk op x y fl ks tg j nt hn=> ?_) (λx fl ks j nt hk _=> ?_)
 ·rw[hf];exact⟨_,_,_,_,_,_,_,_,hn,rfl⟩
 ·rw[hf];exact⟨_,_,by rw[hk,yU],rfl⟩
def jQ(i:Nat)(b:Bool)(nt:kH):M.aG (aA l) (i:Int) b (encS nt)=some (aO l i,aA l,(i:Int),b,encS nt):=by
 simp only[M.aG,M.Gv,aX,pW,aJ,aO]
 by_cases h:i<l.length
 ·rw[rF ak,aW];obtain⟨t,ht⟩:∃t,l[i]? =some t:=⟨l[i],by simp[h]⟩
  simp only[bK,dZ,ht,Ht,ah,Qr]
 ·rw[zdt ak,aJ,List.getElem?_eq_none ak]
def Ec(hl:l.length<=1048576){i:Nat}(h:i<l.length):i64.wrap ((i:Int)+1)=((i+1:Nat):Int):=by rw[aK ak ak];omega
def XB(hl:l.length<=1048576){i:Nat}(h:i<l.length)(b:Bool)(nt:kH):M.iR (aA l) (i:Int) b (encS nt)=some (xB l i,aA l,((i+1:Nat):Int),b,encS nt):=by
 obtain⟨t,ht⟩:∃t,l[i]? =some t:=⟨l[i],by simp[h]⟩
 simp only[M.iR,M.Gy,bK,dZ,ht,Ht,ah,cT1,pW,aJ,Ec hl h,xB]
def abM(k:Int):M.mG k=some (isStep k):=by simp only[M.mG,M.La,isStep];cases k==51<;>rfl
def ayk(k:Int):M.lQ k=some (O9 k):=by simp only[M.lQ,M.CY,O9];cases k==3<;>cases k==4<;>cases k==6<;>cases k==7<;>cases k==8<;>cases k==32<;>cases k==68<;>rfl
def Va(k:Int):M.yM k=some (JE k):=by simp only[M.yM,M.Om,JE];cases k==32<;>cases k==34<;>rfl
def XC(k:Int):M.yN k=some (KR k):=by simp only[M.yN,M.Oo,KR];cases k==33<;>cases k==35<;>rfl
def amV(i:Nat)(b:Bool)(nt:kH):M.iQ (aA l) (i:Int) b (encS nt)=some (0,0,[],[],true,[],false,aA l,(i:Int),true,encS nt):=by simp only[M.iQ,M.Gw,pW,aJ]
def amW(k:Int)(i:Nat)(nt:kH):M.fB k (aA l) (i:Int) true (encS nt)=some (false,aA l,(i:Int),true,encS nt):=by simp only[M.fB,M.Aj,pW,aJ]
section
variable {β γ:Type} {R:Option β->PR γ->Prop}
def aiW(hl:l.length<=1048576){k:Int}(hk:k≠0){i:Nat}{nt:kH}{f:Bool×au×Int×Bool×au->Option β}{g:Unit->Nat->kH->PR γ}
  (hbad:R (f (false,aA l,(i:Int),true,encS nt)) (.bad i))
  (hok:aO l i=k->i<l.length->R (f (true,aA l,((i+1:Nat):Int),false,encS nt)) (g () (i+1) nt)):
  R ((M.fB k (aA l) (i:Int) false (encS nt)).bind f) ((qH l k i nt).bind g):=by
 have e:M.fB k (aA l) (i:Int) false (encS nt)=bif aO l i==k then some (true,aA l,i64.wrap ((i:Int)+1),false,encS nt) else some (false,aA l,(i:Int),true,encS nt):=by simp only[M.fB,M.Aj,pW,aJ,aW,jQ,ah,bne];cases aO l i==k<;>rfl
 rw[e,qH];cases hc:aO l i==k with
 |true=>
  have h1:aO l i=k:=by rwa [beq_iff_eq] at hc
  have h2:i<l.length:=eF (by rw[h1];exact hk);simp only[aJ,Ec hl h2,ah];exact hok h1 h2
 |false=>exact hbad
end
def Zy{α:Type}{L:List α}{i:Nat}{t:α}(h:L[i]? =some t):L.drop i=t::L.drop (i+1):=by obtain⟨hi,rfl⟩:=Qm.1 h;exact List.drop_eq_getElem_cons hi
def Zz(i:Nat)(nt:kH):nl l i nt=bif aO l i==1 then nl l (i+1) nt else bif aO l i==2 then nl l (i+1) (nt++[xB l i]) else(i,nt):=by
 unfold nl;cases h:l[i]? with
 |none=>
  have e:aO l i=0:=by rw[aO,h]
  rw[e,List.drop_eq_nil_of_le (List.getElem?_eq_none_iff.1 h)];rfl
 |some t=>
  have e1:aO l i=t.kind:=by rw[aO,h]
  have e2:xB l i=t.text:=by rw[xB,h]
  rw[Zy h,nlR,e1,e2]
def aGK{P:Nat->kH->Prop}(h1:∀i nt,aO l i=1->i<l.length->P (i+1) nt->P i nt)(h2:∀i nt,aO l i=2->i<l.length->P (i+1) (nt++[xB l i])->P i nt)
  (h3:∀i nt,(aO l i==1)=false->(aO l i==2)=false->P i nt):∀i nt,P i nt:=by
 have:∀n i nt,l.length - i<=n->P i nt:=by
  intro n;induction n with
  |zero=>
   intro i nt hn;have e:aO l i=0:=by rw[aO,List.getElem?_eq_none ak]
   exact h3 i nt (by rw[e];rfl) (by rw[e];rfl)
  |succ n ih=>
   intro i nt hn;cases e1:aO l i==1 with
   |true=>
    have e:aO l i=1:=by rwa [beq_iff_eq] at e1
    have hlt:=eF (l:=l) (i:=i) (by rw[e];decide);exact h1 i nt e hlt (ih _ _ ak)
   |false=>
    cases e2:aO l i==2 with
    |true=>
     have e:aO l i=2:=by rwa [beq_iff_eq] at e2
     have hlt:=eF (l:=l) (i:=i) (by rw[e];decide);exact h2 i nt e hlt (ih _ _ ak)
    |false=>exact h3 i nt e1 e2
 exact λi nt=>this _ i nt (zba _)
def arH(hl:l.length<=1048576)(i:Nat)(nt:kH)(hi:i<=l.length)(hn:nt.length<=i):
  M.gJ (aA l) (i:Int) false (encS nt)=some (aA l,((nl l i nt).1:Int),false,encS (nl l i nt).2):=by
 have hstep:∀i nt,(b:Bool)->i<l.length->aO l i=1->M.kX (bif b then .inl (aA l,(i:Int),false,encS nt) else .inr (aA l,(i:Int),false,encS nt))=some (.inl (.inr (aA l,((i+1:Nat):Int),false,encS nt))):=by intro i nt b hlt hk;cases b<;>simp only[I7,aJ,aW,M.kX,M.nX,Bool.not_false,pW,jQ,ah,hk,Ec hl hlt,BEq.rfl]
 have hstep2:∀i nt,(b:Bool)->i<l.length->nt.length<=i->aO l i=2->M.kX (bif b then .inl (aA l,(i:Int),false,encS nt) else .inr (aA l,(i:Int),false,encS nt))=some (.inl (.inr (aA l,((i+1:Nat):Int),false,encS (nt++[xB l i])))):=by
  intro i nt b hlt hni hk;obtain⟨t,ht⟩:∃t,l[i]? =some t:=⟨l[i],by simp[hlt]⟩
  have e2:xB l i=t.text:=by rw[xB,ht]
  have h21:((2:Int)==1)=false:=rfl;cases b<;>simp only[I7,aJ,aW,M.kX,M.nX,Bool.not_false,pW,jQ,ah,hk,h21,BEq.rfl,Ec hl hlt,bK,dZ,ht,Ht,cT1,snS,lnS,TG,e2]<;>
   rw[fM ak,aJ,fM ak,aJ]
 have amX:∀i nt,(b:Bool)->(aO l i==1)=false->(aO l i==2)=false->M.kX (bif b then .inl (aA l,(i:Int),false,encS nt) else .inr (aA l,(i:Int),false,encS nt))=some (.inr (.inl (aA l,(i:Int),false,encS nt))):=by intro i nt b h1 h2;cases b<;>simp only[I7,aJ,aW,M.kX,M.nX,Bool.not_false,pW,jQ,ah,h1,h2]
 have hloop:∀i nt,∀b:Bool,i<=l.length->nt.length<=i->M.kP (bif b then .inl (aA l,(i:Int),false,encS nt) else .inr (aA l,(i:Int),false,encS nt))=some (.inl (aA l,((nl l i nt).1:Int),false,encS (nl l i nt).2)):=by
  refine aGK (l:=l) (P:=λi nt=>∀b:Bool,i<=l.length->nt.length<=i->M.kP (bif b then .inl (aA l,(i:Int),false,encS nt) else .inr (aA l,(i:Int),false,encS nt))=some (.inl (aA l,((nl l i nt).1:Int),false,encS (nl l i nt).2))) ?_ ?_ ?_
  ·intro i nt hk hlt ih b hi hn;rw[M.kP,bI (hstep i nt b hlt hk),Zz,hk];exact ih false ak ak
  ·intro i nt hk hlt ih b hi hn;rw[M.kP,bI (hstep2 i nt b hlt hn hk),Zz,hk];exact ih false ak (by rw[PD,TG];omega)
  ·intro i nt h1 h2 b hi hn;rw[M.kP,aQ (amX i nt b h1 h2),Zz,h1,h2];rfl
 have:=hloop i nt true hi hn;simp only[aJ] at this;simp only[M.gJ,M.zo,this,ah,kT,pW,aJ]
def aGL{s:au}{a:Nat}(h:a<=s.length):cut s (a:Int) (s.length:Int)=some (s.drop a):=by rw[cut,zdt ak,zdt ak,zdt ak];simp[List.take_of_length_le]
def aC9(hl:l.length<=1048576)(i:Nat)(nt:kH)(hi:i<=l.length):M.mF (aA l) (i:Int) false (encS nt)=some (ahead (l.drop i) 0,aA l,(i:Int),false,encS nt):=by
 have hc:cut (aA l) (i:Int) (l.length:Int)=some (aA (l.drop i)):=by have:=aGL (s:=aA l) (a:=i) (by simpa using hi);rw[aX] at this;rw[this];simp[aA]
 have hloop:∀{β:Type} (F:(Int×Int)⊕Unit⊕(Int×Int)->Option β) (T:Bool->Option β),(∀a,F (.inl a)=T false)->(∀a,F (.inr (.inl a))=T true)->(∀a,F (.inr (.inr a))=T false)->
   ∀(r pre:List Tk) (d:Nat),d<=pre.length->(pre++r).length<=1048576->
   (M.oP (aA (pre++r)) ((pre++r).length:Int) (aA l) (i:Int) false (encS nt) ((d:Int),(pre.length:Int))).bind F=T (ahead r d):=by
  intro β F T f1 f2 f3 r;induction r with
  |nil=>
   intro pre d hd hlen;have hb:M.bM (aA (pre++[])) ((pre++[]).length:Int) (aA l) (i:Int) false (encS nt) ((d:Int),(pre.length:Int))=some (.inr (.inr (.inr ((d:Int),(pre.length:Int))))):=by simp only[M.bM,M.dX,List.append_nil];rw[rF ak,aW]
   rw[M.oP,aQ hb,ah,f3,ahead]
  |cons t r ih=>
   intro pre d hd hlen;have ht:(pre++t::r)[pre.length]? =some t:=by simp
   have hlen':pre.length+(r.length+1)<=1048576:=by rw[PD,ZE] at hlen;exact hlen
   have hnext:=ih (pre++[t]);rw[VN,List.singleton_append,PD,TG] at hnext;have w1:i64.wrap ((pre.length:Int)+1)=((pre.length+1:Nat):Int):=by rw[aK ak ak];omega
   have w2:i64.wrap ((d:Int)+1)=((d+1:Nat):Int):=by rw[aK ak ak];omega
   have w3:i64.wrap ((d:Int) - 1)=(d:Int) - 1:=aK ak ak;have hg:decide ((pre.length:Int)<((pre++t::r).length:Int))=true:=by rw[zdt];rw[PD,ZE];omega
   rw[ahead,M.oP];cases ho:JE t.kind with
   |true=>
    have hb:M.bM (aA (pre++t::r)) ((pre++t::r).length:Int) (aA l) (i:Int) false (encS nt) ((d:Int),(pre.length:Int))=some (.inl (((d+1:Nat):Int),((pre.length+1:Nat):Int))):=by simp only[M.bM,M.dX,hg,aJ,bK,dZ,ht,Ht,ah,Qr,cT1,cT2,Va,ho,w1,w2];rw[rF ak,aW]
    rw[bI hb,aJ];have:=hnext (d+1) ak hlen;rw[show(((d+1:Nat):Int))=(d:Int)+1 by omega] at this;exact this
   |false=>
    rw[aW];cases hs:KR t.kind with
    |true=>
     rw[aJ];cases hd1:decide ((d:Int) - 1<=0) with
     |true=>
      have hb:M.bM (aA (pre++t::r)) ((pre++t::r).length:Int) (aA l) (i:Int) false (encS nt) ((d:Int),(pre.length:Int))=some (.inr (.inl ((d:Int) - 1,(pre.length:Int)))):=by simp only[M.bM,M.dX,hg,aJ,aW,bK,dZ,ht,Ht,ah,Qr,cT1,cT2,Va,ho,XC,hs,w3,hd1]
      rw[aQ hb,ah,f1,aJ]
     |false=>
      have hdd:1<d:=by have:=of_decide_eq_false hd1;omega
      have hb:M.bM (aA (pre++t::r)) ((pre++t::r).length:Int) (aA l) (i:Int) false (encS nt) ((d:Int),(pre.length:Int))=some (.inl (((d - 1:Nat):Int),((pre.length+1:Nat):Int))):=by simp only[M.bM,M.dX,hg,aJ,aW,bK,dZ,ht,Ht,ah,Qr,cT1,cT2,Va,ho,XC,hs,w3,hd1,w1];rw[show((d:Int) - 1)=((d - 1:Nat):Int) by omega]
      rw[bI hb,aW];have:=hnext (d - 1) ak hlen;rw[show(((d - 1:Nat):Int))=(d:Int) - 1 by omega] at this|-;exact this
    |false=>
     rw[aW];cases hc:t.kind==36 with
     |true=>
      cases h1:(d:Int)==1 with
      |true=>
       have hb:M.bM (aA (pre++t::r)) ((pre++t::r).length:Int) (aA l) (i:Int) false (encS nt) ((d:Int),(pre.length:Int))=some (.inr (.inr (.inl ()))):=by simp only[M.bM,M.dX,hg,aJ,aW,bK,dZ,ht,Ht,ah,Qr,cT1,cT2,Va,ho,XC,hs,hc,h1]
       rw[aQ hb,ah,f2];rfl
      |false=>
       rw[Bool.and_false,aW];cases hd0:decide ((d:Int)<=0) with
       |true=>
        have hb:M.bM (aA (pre++t::r)) ((pre++t::r).length:Int) (aA l) (i:Int) false (encS nt) ((d:Int),(pre.length:Int))=some (.inr (.inl ((d:Int),(pre.length:Int)))):=by simp only[M.bM,M.dX,hg,aJ,aW,bK,dZ,ht,Ht,ah,Qr,cT1,cT2,Va,ho,XC,hs,hc,h1,hd0]
        rw[aQ hb,ah,f1,aJ]
       |false=>
        have hb:M.bM (aA (pre++t::r)) ((pre++t::r).length:Int) (aA l) (i:Int) false (encS nt) ((d:Int),(pre.length:Int))=some (.inl ((d:Int),((pre.length+1:Nat):Int))):=by simp only[M.bM,M.dX,hg,aJ,aW,bK,dZ,ht,Ht,ah,Qr,cT1,cT2,Va,ho,XC,hs,hc,h1,hd0,w1]
        rw[bI hb,aW];exact hnext d ak hlen
     |false=>
      rw[Bool.false_and,aW];cases hd0:decide ((d:Int)<=0) with
      |true=>
       have hb:M.bM (aA (pre++t::r)) ((pre++t::r).length:Int) (aA l) (i:Int) false (encS nt) ((d:Int),(pre.length:Int))=some (.inr (.inl ((d:Int),(pre.length:Int)))):=by simp only[M.bM,M.dX,hg,aJ,aW,bK,dZ,ht,Ht,ah,Qr,cT1,cT2,Va,ho,XC,hs,hc,hd0]
       rw[aQ hb,ah,f1,aJ]
      |false=>
       have hb:M.bM (aA (pre++t::r)) ((pre++t::r).length:Int) (aA l) (i:Int) false (encS nt) ((d:Int),(pre.length:Int))=some (.inl ((d:Int),((pre.length+1:Nat):Int))):=by simp only[M.bM,M.dX,hg,aJ,aW,bK,dZ,ht,Ht,ah,Qr,cT1,cT2,Va,ho,XC,hs,hc,hd0,w1]
       rw[bI hb,aW];exact hnext d ak hlen
 simp only[M.mF,M.yh,aX,hc,ah];have:=hloop (β:=Bool×au×Int×Bool×au) (λu=>kT u (λt=>bif aj (encS nt) then some (false,aA l,(i:Int),false,encS nt) else none) λu=>
  kT u (λt=>bif aj (encS nt) then some (true,aA l,(i:Int),false,encS nt) else none) λu=>letE u λt=>bif aj (encS nt) then some (false,aA l,(i:Int),false,encS nt) else none)
  (λb=>some (b,aA l,(i:Int),false,encS nt)) (λa=>by simp only[kT,pW,aJ]) (λa=>by simp only[kT,pW,aJ]) (λa=>by simp only[kT,letE,pW,aJ]) (l.drop i) [] 0 (zba _) (by simp;omega)
 simpa using this
variable {l:List Tk}
def AP.sU{k op:Int}{x y:aI}{fl:Bool}{ks:au}{tg:Bool}{j:Nat}{nt:kH}(hn:nt.length<=l.length):AP l (some (k,op,x,y,fl,ks,tg,aA l,(j:Int),true,encS nt)) (.bad j):=⟨_,_,_,_,_,_,_,_,hn,rfl⟩
def AP.mk{x:Xp}{k op:Int}{s s':aI}{fl:Bool}{ks:au}{tg:Bool}{j:Nat}{nt:kH}(h1:k=x.1.kind)(h2:op=x.1.op)(h3:s=x.1.text)(h4:s'=x.1.other)(h5:aF ks=iV false x.1.kids)(h6:tg=tgt x):
  AP l (some (k,op,s,s',fl,ks,tg,aA l,(j:Int),false,encS nt)) (.ok x j nt):=by
 subst h1 h2 h3 h4 h6;exact⟨_,_,h5,rfl⟩
def fzT(x:Tn)(w:Bool)(ks:au)(h:aF ks=iV false x.kids):Bl [.int .i64 x.kind,.int .i64 x.op,.str x.text,.str x.other,.sl w 5 ks]=x.row false:=by simp only[Bl,D.fz,h,arp]
def fz1{x:Tn}{w:Bool}{ks:au}(h:aF ks=iV false x.kids):aF [[.int .i64 x.kind,.int .i64 x.op,.str x.text,.str x.other,.sl w 5 ks]]=iV false [x]:=by rw[aF,fzT x w ks h];rfl
def fz2{x y:Tn}{w v:Bool}{ks kt:au}(h:aF ks=iV false x.kids)(h':aF kt=iV false y.kids):
  aF [[.int .i64 x.kind,.int .i64 x.op,.str x.text,.str x.other,.sl w 5 ks],[.int .i64 y.kind,.int .i64 y.op,.str y.text,.str y.other,.sl v 5 kt]]=iV false [x,y]:=by
 rw[aF,fzT x w ks h,aF,fzT y v kt h'];rfl
def fz3{x y z:Tn}{w v u:Bool}{ks kt ku:au}(h:aF ks=iV false x.kids)(h':aF kt=iV false y.kids)(h'':aF ku=iV false z.kids):
  aF [[.int .i64 x.kind,.int .i64 x.op,.str x.text,.str x.other,.sl w 5 ks],[.int .i64 y.kind,.int .i64 y.op,.str y.text,.str y.other,.sl v 5 kt],[.int .i64 z.kind,.int .i64 z.op,.str z.text,.str z.other,.sl u 5 ku]]=iV false [x,y,z]:=by
 rw[aF,fzT x w ks h,aF,fzT y v kt h',aF,fzT z u ku h''];rfl
def fzz{ks:au}{L:List Tn}(h:aF ks=iV false L):aF (aF ks)=iV false L:=by rw[h,yU]
abbrev T10:=au×Int×Bool×Int×Int×aI×aI×au×Bool×au
def AC(l:List Tk)(o:Option T10):PR Xp->Prop
 | .ok x j nt=>∃ks,aF ks=iV false x.1.kids/\o=some (aA l,(j:Int),false,x.1.kind,x.1.op,x.1.text,x.1.other,ks,tgt x,encS nt)
 | .bad j=>∃k op x y ks tg nt,nt.length<=l.length/\o=some (aA l,(j:Int),true,k,op,x,y,ks,tg,encS nt)
 | .out=>True
def AC.elim{o:Option T10}{p:PR Xp}(h:AC l o p){f:T10->Option TP}
  (hf:∀c1 b k op x y ks tg nt,f (aA l,c1,b,k,op,x,y,ks,tg,encS nt)=some (k,op,x,y,false,ks,tg,aA l,c1,b,encS nt)):AP l (o.bind f) p:=by
 cases p with
 |ok x j nt=>obtain⟨ks,h1,rfl⟩:=h;rw[ah,hf];exact AP.mk rfl rfl rfl rfl h1 rfl
 |bad j=>obtain⟨k,op,x,y,ks,tg,nt,h1,rfl⟩:=h;rw[ah,hf];exact AP.sU h1
 |out=>trivial
def Qk(hl:l.length<=1048576){bd:T10->Option (T10⊕T10)}{lv:Nat}{a b:Bool}{rec:Bool->Bool->au->Int->Bool->au->Option TP}(h3:3<=lv)(h10:lv<=10)
  (hstop:∀(i:Nat) k op x y ks tg nt,bd (aA l,(i:Int),true,k,op,x,y,ks,tg,encS nt)=some (.inr (aA l,(i:Int),true,k,op,x,y,ks,tg,encS nt)))
  (hend:∀(i:Nat) k op x y ks tg nt,oN lv (b && Nat.beq lv 7) (aO l i)=false->bd (aA l,(i:Int),false,k,op,x,y,ks,tg,encS nt)=some (.inr (aA l,(i:Int),false,k,op,x,y,ks,tg,encS nt)))
  (hop:∀(i:Nat) k op x y ks tg nt,oN lv (b && Nat.beq lv 7) (aO l i)=true->i<l.length->nt.length<=i->bd (aA l,(i:Int),false,k,op,x,y,ks,tg,encS nt)=
   (rec a b (aA l) (((bif Nat.beq lv 8 then(i,nt) else bif Nat.ble lv 4 then nl l (i+1) nt else(i+1,nt)).1:Nat):Int) false (encS (bif Nat.beq lv 8 then(i,nt) else bif Nat.ble lv 4 then nl l (i+1) nt else(i+1,nt)).2)).bind λr=>
    some (.inl (r.2.2.2.2.2.2.2.1,r.2.2.2.2.2.2.2.2.1,r.2.2.2.2.2.2.2.2.2.1,12,(bif Nat.beq lv 8 then 99 else aO l i),[],[],
     aF [[D.int .i64 k,D.int .i64 op,D.str x,D.str y,D.sl false 5 ks],[D.int .i64 r.1,D.int .i64 r.2.1,D.str r.2.2.1,D.str r.2.2.2.1,D.sl false 5 (aF r.2.2.2.2.2.1)]],false,r.2.2.2.2.2.2.2.2.2.2))):
  ∀n,(∀n',n'<=n->∀i nt,i<=l.length->nt.length<=i->AP l (rec a b (aA l) (i:Int) false (encS nt)) (ex l n' (lv+1) a b i nt))->
   ∀x i nt ks,i<=l.length->nt.length<=i->aF ks=iV false x.1.kids->AC l (dU bd (aA l,(i:Int),false,x.1.kind,x.1.op,x.1.text,x.1.other,ks,tgt x,encS nt)) (UK l n lv a b x i nt)
 |0,_,_,_,_,_,_,_,_=>by rw[UK];trivial
 |n+1,hrec,x,i,nt,ks,hi,hn,hk=>by
  rw[UK];cases hc:oN lv (b && Nat.beq lv 7) (aO l i) with
  |false=>rw[aQ (hend i _ _ _ _ _ _ nt hc)];exact⟨ks,hk,rfl⟩
  |true=>
   have hlt:=eF (GR h3 hc);have hq:=hop i x.1.kind x.1.op x.1.text x.1.other ks (tgt x) nt hc hlt hn;have hqb:FN l i nt.length (bif Nat.beq lv 8 then(i,nt) else bif Nat.ble lv 4 then nl l (i+1) nt else(i+1,nt)).1 (bif Nat.beq lv 8 then(i,nt) else bif Nat.ble lv 4 then nl l (i+1) nt else(i+1,nt)).2.length:=by
    cases Nat.beq lv 8<;>cases Nat.ble lv 4<;>simp only[aJ,aW]
    ·omega
    ·have:=alf (l:=l) (i:=i+1) (nt:=nt) ak;omega
    ·omega
    ·omega
   simp only[aJ];generalize (bif Nat.beq lv 8 then(i,nt) else bif Nat.ble lv 4 then nl l (i+1) nt else(i+1,nt))=q at hq hqb|-;have hr:=hrec n (Nat.le_succ n) q.1 q.2 ak ak;have hs:=(sats l n).ex (lv+1) a b q.1 q.2 ak ak ak;generalize ex l n (lv+1) a b q.1 q.2=p at hr hs|-;cases p with
   |ok y j m=>obtain⟨fl,kt,h1,h2⟩:=hr;have hs':FE l q.1 q.2.length y.1.size j m.length:=hs;rw[h2,ah] at hq;rw[bI hq];exact Qk hl h3 h10 hstop hend hop n (λn' h=>hrec n' ak) (Tn.mk 12 (bif Nat.beq lv 8 then 99 else aO l i) [] [] [x.1,y.1],false) j m _ ak ak (by rw[fz2 hk (fzz h1),yU];rfl)
   |bad j=>obtain⟨k,op,x',y',fl,kt,tg,m,h1,h2⟩:=hr;rw[h2,ah] at hq;rw[bI hq,aQ (hstop j _ _ _ _ _ _ m)];exact⟨_,_,_,_,_,_,_,h1,rfl⟩
   |out=>trivial
variable {l:List Tk}
def ac2{lv:Nat}{k:Int}(h:Nat.beq lv 8=false):oN lv false k=(dP k==(lv:Int)):=by rw[oN,h];simp
def lv3(k:Int):(k==44)=(dP k==3):=by
 cases h:k==44 with
 |true=>rw[dP,h];rfl
 |false=>rw[dP,h,aW];cases k==45<;>cases(k==67||k==46)<;>cases(k==63||(k==48||(k==47||(k==50||(k==62||k==49)))))<;>cases k==99<;>cases(k==55||k==56)<;>cases(k==57||(k==58||k==59))<;>cases k==60<;>rfl
def lv4(k:Int):(k==45)=(dP k==4):=by
 cases h4:k==44 with
 |true=>
  have e:k=44:=by rwa [beq_iff_eq] at h4
  rw[e];rfl
 |false=>
  cases h:k==45 with
  |true=>rw[dP,h4,h];rfl
  |false=>rw[dP,h4,h,aW,aW];cases(k==67||k==46)<;>cases(k==63||(k==48||(k==47||(k==50||(k==62||k==49)))))<;>cases k==99<;>cases(k==55||k==56)<;>cases(k==57||(k==58||k==59))<;>cases k==60<;>rfl
structure RI(l:List Tk)(n m:Nat):Prop where
 e1:∀a b i nt,i<=l.length->nt.length<=i->AP l (M.gQ m a b (aA l) (i:Int) false (encS nt)) (ex l n 1 a b i nt)
 e2:∀a b i nt,i<=l.length->nt.length<=i->AP l (M.qo m a b (aA l) (i:Int) false (encS nt)) (ex l n 2 a b i nt)
 e3:∀a b i nt,i<=l.length->nt.length<=i->AP l (M.wQ m a b (aA l) (i:Int) false (encS nt)) (ex l n 3 a b i nt)
 e4:∀a b i nt,i<=l.length->nt.length<=i->AP l (M.rE m a b (aA l) (i:Int) false (encS nt)) (ex l n 4 a b i nt)
 e5:∀a b i nt,i<=l.length->nt.length<=i->AP l (M.tJ m a b (aA l) (i:Int) false (encS nt)) (ex l n 5 a b i nt)
 e6:∀a b i nt,i<=l.length->nt.length<=i->AP l (M.jG m a b (aA l) (i:Int) false (encS nt)) (ex l n 6 a b i nt)
 e7:∀a b i nt,i<=l.length->nt.length<=i->AP l (M.mO m a b (aA l) (i:Int) false (encS nt)) (ex l n 7 a b i nt)
 e8:∀a b i nt,i<=l.length->nt.length<=i->AP l (M.rD m a b (aA l) (i:Int) false (encS nt)) (ex l n 8 a b i nt)
 e9:∀a b i nt,i<=l.length->nt.length<=i->AP l (M.rC m a b (aA l) (i:Int) false (encS nt)) (ex l n 9 a b i nt)
 e10:∀a b i nt,i<=l.length->nt.length<=i->AP l (M.ru m a b (aA l) (i:Int) false (encS nt)) (ex l n 10 a b i nt)
 e11:∀a b i nt,i<=l.length->nt.length<=i->AP l (M.jF m a b (aA l) (i:Int) false (encS nt)) (ex l n 11 a b i nt)
 e12:∀a b i nt,i<=l.length->nt.length<=i->AP l (M.uU m a b (aA l) (i:Int) false (encS nt)) (ex l n 12 a b i nt)
 e13:∀a b i nt,i<=l.length->nt.length<=i->AP l (M.sN m (aA l) (i:Int) false (encS nt)) (ex l n 13 a b i nt)
 e14:∀a b i nt,i<=l.length->nt.length<=i->AP l (M.mX m (aA l) (i:Int) false (encS nt)) (ex l n 14 a b i nt)
 e15:∀a b i nt,i<=l.length->nt.length<=i->AP l (M.pG m (aA l) (i:Int) false (encS nt)) (ex l n 15 a b i nt)
 pre:∀i nt,i<l.length->nt.length<=i->AP l (M.nV m (aA l) (i:Int) false (encS nt)) (I8 l n i nt)
 its:∀a b i nt,i<=l.length->nt.length<=i->AL l (M.o8 m a b (aA l) (i:Int) false (encS nt)) (Po l n a b [] i nt)
def aGM(hl:l.length<=1048576){m n:Nat}{i:Nat}{nt:kH}(h:AL l (M.o8 m false false (aA l) (i:Int) false (encS nt)) (Po l n false false [] i nt))(hi:i<=l.length)(hn:nt.length<=i):
  AL l (M.jX (m+1) 35 (aA l) (i:Int) false (encS nt)) ((Po l n false false [] i nt).bind λL i nt=>(qH l 35 i nt).bind λ_ i nt=> .ok L i nt):=by
 rw[M.Uo];have h3:((35:Int)==33)=false:=rfl;simp only[M.sJ,M.y7,pW,aJ,jQ,ah,h3,aW,Bool.cond_self];refine AL.elim (R:=AL l) h (λ_=>trivial) (λfl ks j nt hn=> ?_) (λL fl j nt he=> ?_)
 ·simp only[pW,aJ,amW,ah];exact⟨_,_,_,hn,rfl⟩
 ·have hs:=lK (asT hi) he;simp only[pW,aJ];refine aiW (R:=AL l) hl (by decide) ?_ (λ_ _=> ?_)
  ·simp only[pW,aJ];exact⟨_,_,_,ak,rfl⟩
  ·simp only[pW,aJ,yU];exact⟨_,rfl⟩
def ayl(hl:l.length<=1048576){m n:Nat}{i:Nat}{nt:kH}(h:AL l (M.o8 m false false (aA l) (i:Int) false (encS nt)) (Po l n false false [] i nt))(hi:i<=l.length)(hn:nt.length<=i):
  AL l (M.jX (m+1) 33 (aA l) (i:Int) false (encS nt)) (Bv l (n+1) 33 i nt):=by
 rw[M.Uo,Bv];simp only[M.sJ,M.y7,pW,aJ,jQ,ah,BEq.rfl];cases hc:aO l i==33 with
 |true=>have hlt:=jZ hc (by decide);simp only[aJ,Ec hl hlt];exact⟨_,rfl⟩
 |false=>
  simp only[aW];refine AL.elim (R:=AL l) h (λ_=>trivial) (λfl ks j nt hn=> ?_) (λL fl j nt he=> ?_)
  ·simp only[pW,aJ,amW,ah];exact⟨_,_,_,hn,rfl⟩
  ·have hs:=lK (asT hi) he;simp only[pW,aJ];refine aiW (R:=AL l) hl (by decide) ?_ (λ_ _=> ?_)
   ·simp only[pW,aJ];exact⟨_,_,_,ak,rfl⟩
   ·simp only[pW,aJ,yU];exact⟨_,rfl⟩
def auM(l:List Tk)(n i:Nat)(nt:kH):PR Xp:=bif aO l (i+1)==34 then(Po l n false false [] (i+2) nt).bind λL j nt=>(qH l 35 j nt).bind λ_ j nt=> .ok (.mk 5 0 (xB l i) [] L,false) j nt else SG 1 l i nt
def aEv(hl:l.length<=1048576){m n:Nat}{i:Nat}{nt:kH}(h:∀i nt,i<=l.length->nt.length<=i->AL l (M.o8 m false false (aA l) (i:Int) false (encS nt)) (Po l n false false [] i nt))(hi:i<l.length)(hn:nt.length<=i):
  AP l (M.uT (m+2) (aA l) (i:Int) false (encS nt)) (auM l n i nt):=by
 rw[M.Xt,auM];simp only[M.qK,pW,aJ,XB hl hi,ah,jQ];cases hc:aO l (i+1)==34 with
 |true=>
  have hlt:=jZ hc (by decide);simp only[aJ,Ec hl hlt];have hL:=aGM hl (h (i+2) nt ak ak) ak ak;have e:(Po l n false false [] (i+2) nt).bind (λL j nt=>(qH l 35 j nt).bind λ_ j nt=>PR.ok ((Tn.mk 5 0 (xB l i) [] L,false):Xp) j nt)=
    ((Po l n false false [] (i+2) nt).bind λL i nt=>(qH l 35 i nt).bind λ_ i nt=> .ok L i nt).bind λL j nt=> .ok ((Tn.mk 5 0 (xB l i) [] L,false):Xp) j nt:=by
   cases Po l n false false [] (i+2) nt with
   |ok L j m=>simp only[PR.bind];cases qH l 35 j m<;>rfl
   |bad j=>rfl
   |out=>rfl
  rw[e];refine AL.elim (R:=AP l) hL (λ_=>trivial) (λfl ks j nt hn=> ?_) (λL fl j nt he=> ?_)
  ·simp only[pW,aJ];exact AP.sU hn
  ·simp only[pW,aJ,yU];exact AP.mk rfl rfl rfl rfl (yU _ _) rfl
 |false=>simp only[aW];exact AP.mk rfl rfl rfl rfl rfl rfl
section
variable {n m:Nat} (hl:l.length<=1048576) (H:∀n',n'<=n->∀m',4 * n'+30<=m'->RI l n' m') (hm:4 * (n+1)+30<=m+1)
include hl H hm
theorem aTV(a b:Bool)(i:Nat)(nt:kH)(hi:i<=l.length)(hn:nt.length<=i):AP l (M.gQ (m+1) a b (aA l) (i:Int) false (encS nt)) (ex l (n+1) 1 a b i nt):=by
 have h:=H n (zba _) m ak;rw[M.YT];simp only[M.tH,pW,aJ,ex];refine AP.elim (R:=AP l) (h.e2 a b i nt hi hn) (λ_=>trivial) (λk op x y fl ks tg j nt hn=> ?_) (λx fl ks j nt hk he=> ?_)
 ·simp only[aJ,pW];exact AP.sU hn
 ·have hs:=lK (U9 ak ak hi) he;simp only[aW,pW,aJ,jQ,ah,(Ry _).2];cases ht:tgt x with
  |false=>simp only[Bool.not_false,aJ,Bool.false_and,aW];exact AP.mk rfl rfl rfl rfl (fzz hk) ht.symm
  |true=>
   simp only[zaZ,aW,Bool.true_and];cases hc:F7 (aO l j) with
   |false=>simp only[Bool.not_false,aJ,aW];exact AP.mk rfl rfl rfl rfl (fzz hk) ht.symm
   |true=>
    have hlt:=eF (aeg hc);simp only[zaZ,aW,aJ,Ec hl hlt];refine AP.elim (R:=AP l) (h.e1 a b (j+1) nt ak ak) (λ_=>trivial) (λk op x y fl ks tg j nt hn=> ?_) (λy fl' kt j' nt' hk' he'=> ?_)
    ·simp only[aJ,pW];exact AP.sU hn
    ·simp only[aJ,pW];exact AP.mk rfl rfl rfl rfl (fz2 (fzz hk) (fzz hk')) rfl
theorem aTW(a b:Bool)(i:Nat)(nt:kH)(hi:i<=l.length)(hn:nt.length<=i):AP l (M.qo (m+1) a b (aA l) (i:Int) false (encS nt)) (ex l (n+1) 2 a b i nt):=by
 have h:=H n (zba _) m ak;rw[M.aby];simp only[M.wP,pW,aJ,ex];refine AP.elim (R:=AP l) (h.e3 a b i nt hi hn) (λ_=>trivial) (λk op x y fl ks tg j nt hn=> ?_) (λx fl ks j nt hk he=> ?_)
 ·simp only[aJ,pW];exact AP.sU hn
 ·have hs:=lK (U9 ak ak hi) he;simp only[aW,pW,aJ,jQ,ah,bne];cases hc:aO l j==65 with
  |false=>simp only[Bool.not_false,aJ,aW];exact AP.mk rfl rfl rfl rfl (fzz hk) rfl
  |true=>
   have hlt:=jZ hc (by decide);simp only[zaZ,aW,aJ,Ec hl hlt];refine AP.elim (R:=AP l) (h.e2 a b (j+1) nt ak ak) (λ_=>trivial) (λk op x y fl ks tg j nt hn=> ?_) (λy fl' kt j' nt' hk' he'=> ?_)
   ·simp only[aJ,pW,amW,ah];exact AP.sU hn
   ·have hs':=lK (U9 ak ak ak) he';simp only[aJ,pW];refine aiW (R:=AP l) hl (by decide) ?_ (λ_ _=> ?_)
    ·simp only[pW,aJ];exact AP.sU ak
    ·simp only[pW,aJ,aW];refine AP.elim (R:=AP l) (h.e2 a b (j'+1) nt' ak ak) (λ_=>trivial) (λk op x y fl ks tg j nt hn=> ?_) (λz a2K ku j'' a2L hk'' a2M=> ?_)
     ·simp only[aJ,pW];exact AP.sU hn
     ·simp only[aJ,pW];exact AP.mk rfl rfl rfl rfl (fz3 (fzz hk) (fzz hk') (fzz hk'')) rfl
theorem aTX(a b:Bool)(i:Nat)(nt:kH)(hi:i<=l.length)(hn:nt.length<=i):AP l (M.wQ (m+1) a b (aA l) (i:Int) false (encS nt)) (ex l (n+1) 3 a b i nt):=by
 have h:=H n (zba _) m ak;rw[M.adY];simp only[M.zN,pW,aJ,ex];refine AP.elim (R:=AP l) (h.e4 a b i nt hi hn) (λ_=>trivial) (λk op x y fl ks tg j nt hn=> ?_) (λx fl ks j nt hk he=> ?_)
 ·rw[show M.Df _ _ _ _ _ _ _ _ _=_ from aQ rfl];simp only[ah,aJ,pW];exact AP.sU hn
 ·have hs:=lK (U9 ak ak hi) he;rw[M.Df];refine AC.elim (Qk hl (lv:=3) (a:=a) (b:=b) (rec:=M.rE m) ak ak ?_ ?_ ?_ n (λn' hn' i nt hi hn=>(H n' hn' m ak).e4 a b i nt hi hn) x j nt _ ak ak (fzz hk)) (by intros;simp only[aJ,pW])
  ·intros
   rfl
  ·intro i k op x y ks tg nt hc;have hb:(b && Nat.beq 3 7)=false:=Bool.and_false b;rw[hb] at hc;have hk:(aO l i==44)=false:=by rw[lv3];exact(ac2 (lv:=3) rfl).symm.trans hc
   simp only[M.KO,M.y9,Bool.not_false,aJ,pW,jQ,ah,hk,aW]
  ·intro i k op x y ks tg nt hc hlt hn;have hb:(b && Nat.beq 3 7)=false:=Bool.and_false b;rw[hb] at hc;have hk:(aO l i==44)=true:=by rw[lv3];exact(ac2 (lv:=3) rfl).symm.trans hc
   have hk':aO l i=44:=by rwa [beq_iff_eq] at hk
   simp only[M.KO,M.y9,Bool.not_false,aJ,pW,jQ,ah,hk,Ec hl hlt,arH hl (i+1) nt ak ak,M.lY,M.Ak];rw[hk'];rfl
theorem aTY(a b:Bool)(i:Nat)(nt:kH)(hi:i<=l.length)(hn:nt.length<=i):AP l (M.rE (m+1) a b (aA l) (i:Int) false (encS nt)) (ex l (n+1) 4 a b i nt):=by
 have h:=H n (zba _) m ak;rw[M.acD];simp only[M.yA,pW,aJ,ex];refine AP.elim (R:=AP l) (h.e5 a b i nt hi hn) (λ_=>trivial) (λk op x y fl ks tg j nt hn=> ?_) (λx fl ks j nt hk he=> ?_)
 ·rw[show M.Ar _ _ _ _ _ _ _ _ _=_ from aQ rfl];simp only[ah,aJ,pW];exact AP.sU hn
 ·have hs:=lK (U9 ak ak hi) he;rw[M.Ar];refine AC.elim (Qk hl (lv:=4) (a:=a) (b:=b) (rec:=M.tJ m) ak ak ?_ ?_ ?_ n (λn' hn' i nt hi hn=>(H n' hn' m ak).e5 a b i nt hi hn) x j nt _ ak ak (fzz hk)) (by intros;simp only[aJ,pW])
  ·intros
   rfl
  ·intro i k op x y ks tg nt hc;have hb:(b && Nat.beq 4 7)=false:=Bool.and_false b;rw[hb] at hc;have hk:(aO l i==45)=false:=by rw[lv4];exact(ac2 (lv:=4) rfl).symm.trans hc
   simp only[M.Jt,M.xY,Bool.not_false,aJ,pW,jQ,ah,hk,aW]
  ·intro i k op x y ks tg nt hc hlt hn;have hb:(b && Nat.beq 4 7)=false:=Bool.and_false b;rw[hb] at hc;have hk:(aO l i==45)=true:=by rw[lv4];exact(ac2 (lv:=4) rfl).symm.trans hc
   have hk':aO l i=45:=by rwa [beq_iff_eq] at hk
   simp only[M.Jt,M.xY,Bool.not_false,aJ,pW,jQ,ah,hk,Ec hl hlt,arH hl (i+1) nt ak ak,M.lY,M.Ak];rw[hk'];rfl
theorem aTZ(a b:Bool)(i:Nat)(nt:kH)(hi:i<=l.length)(hn:nt.length<=i):AP l (M.rD (m+1) a b (aA l) (i:Int) false (encS nt)) (ex l (n+1) 8 a b i nt):=by
 have h:=H n (zba _) m ak;rw[M.acC];simp only[M.yw,pW,aJ,ex];refine AP.elim (R:=AP l) (h.e9 a b i nt hi hn) (λ_=>trivial) (λk op x y fl ks tg j nt hn=> ?_) (λx fl ks j nt hk he=> ?_)
 ·rw[show M.Aq _ _ _ _ _ _ _ _ _=_ from aQ rfl];simp only[ah,aJ,pW];exact AP.sU hn
 ·have hs:=lK (U9 ak ak hi) he;rw[M.Aq];refine AC.elim (Qk hl (lv:=8) (a:=a) (b:=b) (rec:=M.rC m) ak ak ?_ ?_ ?_ n (λn' hn' i nt hi hn=>(H n' hn' m ak).e9 a b i nt hi hn) x j nt _ ak ak (fzz hk)) (by intros;simp only[aJ,pW])
  ·intros
   rfl
  ·intro i k op x y ks tg nt hc;have hb:(b && Nat.beq 8 7)=false:=Bool.and_false b;rw[hb] at hc;have hk:O9 (aO l i)=false:=hc;simp only[M.Js,M.xX,Bool.not_false,aJ,pW,jQ,ah,ayk,hk,aW]
  ·intro i k op x y ks tg nt hc hlt hn;have hb:(b && Nat.beq 8 7)=false:=Bool.and_false b;rw[hb] at hc;have hk:O9 (aO l i)=true:=hc;simp only[M.Js,M.xX,Bool.not_false,aJ,pW,jQ,ah,ayk,hk,M.lY,M.Ak];rfl
theorem aT0(a b:Bool)(i:Nat)(nt:kH)(hi:i<=l.length)(hn:nt.length<=i):AP l (M.rC (m+1) a b (aA l) (i:Int) false (encS nt)) (ex l (n+1) 9 a b i nt):=by
 have h:=H n (zba _) m ak;rw[M.acB];simp only[M.yu,pW,aJ,ex];refine AP.elim (R:=AP l) (h.e10 a b i nt hi hn) (λ_=>trivial) (λk op x y fl ks tg j nt hn=> ?_) (λx fl ks j nt hk he=> ?_)
 ·rw[show M.Ap _ _ _ _ _ _ _ _ _=_ from aQ rfl];simp only[ah,aJ,pW];exact AP.sU hn
 ·have hs:=lK (U9 ak ak hi) he;rw[M.Ap];refine AC.elim (Qk hl (lv:=9) (a:=a) (b:=b) (rec:=M.ru m) ak ak ?_ ?_ ?_ n (λn' hn' i nt hi hn=>(H n' hn' m ak).e10 a b i nt hi hn) x j nt _ ak ak (fzz hk)) (by intros;simp only[aJ,pW])
  ·intros
   rfl
  ·intro i k op x y ks tg nt hc;have hb:(b && Nat.beq 9 7)=false:=Bool.and_false b;rw[hb] at hc;have hk:(dP (aO l i)==9)=false:=(ac2 (lv:=9) rfl).symm.trans hc;simp only[M.Jr,M.xW,Bool.not_false,aJ,pW,jQ,ah,(Qi _).1,hk,aW]
  ·intro i k op x y ks tg nt hc hlt hn;have hb:(b && Nat.beq 9 7)=false:=Bool.and_false b;rw[hb] at hc;have hk:(dP (aO l i)==9)=true:=(ac2 (lv:=9) rfl).symm.trans hc;simp only[M.Jr,M.xW,Bool.not_false,aJ,pW,jQ,ah,(Qi _).1,hk,Ec hl hlt,M.lY,M.Ak];rfl
theorem aGN(a b:Bool)(i:Nat)(nt:kH)(hi:i<=l.length)(hn:nt.length<=i):AP l (M.ru (m+1) a b (aA l) (i:Int) false (encS nt)) (ex l (n+1) 10 a b i nt):=by
 have h:=H n (zba _) m ak;rw[M.acA];simp only[M.yt,pW,aJ,ex];refine AP.elim (R:=AP l) (h.e11 a b i nt hi hn) (λ_=>trivial) (λk op x y fl ks tg j nt hn=> ?_) (λx fl ks j nt hk he=> ?_)
 ·rw[show M.Am _ _ _ _ _ _ _ _ _=_ from aQ rfl];simp only[ah,aJ,pW];exact AP.sU hn
 ·have hs:=lK (U9 ak ak hi) he;rw[M.Am];refine AC.elim (Qk hl (lv:=10) (a:=a) (b:=b) (rec:=M.jF m) ak ak ?_ ?_ ?_ n (λn' hn' i nt hi hn=>(H n' hn' m ak).e11 a b i nt hi hn) x j nt _ ak ak (fzz hk)) (by intros;simp only[aJ,pW])
  ·intros
   rfl
  ·intro i k op x y ks tg nt hc;have hb:(b && Nat.beq 10 7)=false:=Bool.and_false b;rw[hb] at hc;have hk:(dP (aO l i)==10)=false:=(ac2 (lv:=10) rfl).symm.trans hc;simp only[M.Jq,M.xU,Bool.not_false,aJ,pW,jQ,ah,(Qi _).1,hk,aW]
  ·intro i k op x y ks tg nt hc hlt hn;have hb:(b && Nat.beq 10 7)=false:=Bool.and_false b;rw[hb] at hc;have hk:(dP (aO l i)==10)=true:=(ac2 (lv:=10) rfl).symm.trans hc;simp only[M.Jq,M.xU,Bool.not_false,aJ,pW,jQ,ah,(Qi _).1,hk,Ec hl hlt,M.lY,M.Ak];rfl
theorem aT1(a b:Bool)(i:Nat)(nt:kH)(hi:i<=l.length)(hn:nt.length<=i):AP l (M.jG (m+1) a b (aA l) (i:Int) false (encS nt)) (ex l (n+1) 6 a b i nt):=by
 have h:=H n (zba _) m ak;rw[M.aaf];simp only[M.vF,M.Dc,pW,aJ,ex];refine AP.elim (R:=AP l) (h.e7 a b i nt hi hn) (λ_=>trivial) (λk op x y fl ks tg j nt hn=> ?_) (λx fl ks j nt hk he=> ?_)
 ·simp only[aJ,pW];exact AP.sU hn
 ·have hs:=lK (U9 ak ak hi) he;simp only[aW,pW,aJ,jQ,ah,bne,M.lY,M.Ak];have hgo:j<l.length->AP l ((M.mO m a b (aA l) ((j+1:Nat):Int) false (encS nt)).bind λr=>
    bif aj r.2.2.2.2.2.2.2.2.2.2 then some (12,aO l j,[],[],false,aF [[D.int .i64 x.1.kind,D.int .i64 x.1.op,D.str x.1.text,D.str x.1.other,D.sl false 5 (aF ks)],[D.int .i64 r.1,D.int .i64 r.2.1,D.str r.2.2.1,D.str r.2.2.2.1,D.sl false 5 (aF r.2.2.2.2.2.1)]],false,
     r.2.2.2.2.2.2.2.1,r.2.2.2.2.2.2.2.2.1,r.2.2.2.2.2.2.2.2.2.1,r.2.2.2.2.2.2.2.2.2.2) else none) ((ex l n 7 a b (j+1) nt).bind λy j' nt=> .ok (.mk 12 (aO l j) [] [] [x.1,y.1],false) j' nt):=by
   intro hlt;refine AP.elim (R:=AP l) (h.e7 a b (j+1) nt ak ak) (λ_=>trivial) (λk op x y fl ks tg j nt hn=> ?_) (λy fl' kt j' nt' hk' he'=> ?_)
   ·simp only[aJ,pW];exact AP.sU hn
   ·simp only[aJ,pW];exact AP.mk rfl rfl rfl rfl (by rw[fz2 (fzz hk) (fzz hk'),yU];rfl) rfl
  cases hc:aO l j==67 with
  |true=>have hlt:=jZ hc (by decide);simp only[zaZ,aW,aJ,Bool.true_or,Ec hl hlt];exact hgo hlt
  |false=>
   cases hc':aO l j==46 with
   |true=>have hlt:=jZ hc' (by decide);simp only[zaZ,Bool.not_false,aW,aJ,Bool.or_true,Ec hl hlt];exact hgo hlt
   |false=>simp only[Bool.not_false,aW,aJ,Bool.or_false];exact AP.mk rfl rfl rfl rfl (fzz hk) rfl
theorem aT2(a b:Bool)(i:Nat)(nt:kH)(hi:i<=l.length)(hn:nt.length<=i):AP l (M.mO (m+1) a b (aA l) (i:Int) false (encS nt)) (ex l (n+1) 7 a b i nt):=by
 have h:=H n (zba _) m ak;rw[M.Yb];simp only[M.rM,M.zx,pW,aJ,ex];refine AP.elim (R:=AP l) (h.e8 a b i nt hi hn) (λ_=>trivial) (λk op x y fl ks tg j nt hn=> ?_) (λx fl ks j nt hk he=> ?_)
 ·simp only[aJ,pW];exact AP.sU hn
 ·have hs:=lK (U9 ak ak hi) he;simp only[aW,pW,aJ,jQ,ah,bne,M.lY,M.Ak,(Qi _).1];have hgo:j<l.length->AP l ((M.rD m a b (aA l) ((j+1:Nat):Int) false (encS nt)).bind λr=>
    bif aj r.2.2.2.2.2.2.2.2.2.2 then some (12,aO l j,[],[],false,aF [[D.int .i64 x.1.kind,D.int .i64 x.1.op,D.str x.1.text,D.str x.1.other,D.sl false 5 (aF ks)],[D.int .i64 r.1,D.int .i64 r.2.1,D.str r.2.2.1,D.str r.2.2.2.1,D.sl false 5 (aF r.2.2.2.2.2.1)]],false,
     r.2.2.2.2.2.2.2.1,r.2.2.2.2.2.2.2.2.1,r.2.2.2.2.2.2.2.2.2.1,r.2.2.2.2.2.2.2.2.2.2) else none) ((ex l n 8 a b (j+1) nt).bind λy j' nt=> .ok (.mk 12 (aO l j) [] [] [x.1,y.1],false) j' nt):=by
   intro hlt;refine AP.elim (R:=AP l) (h.e8 a b (j+1) nt ak ak) (λ_=>trivial) (λk op x y fl ks tg j nt hn=> ?_) (λy fl' kt j' nt' hk' he'=> ?_)
   ·simp only[aJ,pW];exact AP.sU hn
   ·simp only[aJ,pW];exact AP.mk rfl rfl rfl rfl (by rw[fz2 (fzz hk) (fzz hk'),yU];rfl) rfl
  have e7:oN 7 b (aO l j)=(dP (aO l j)==7 && !(b && aO l j==62)):=rfl;rw[e7];cases hc:dP (aO l j)==7 with
  |false=>simp only[Bool.not_false,aW,aJ,Bool.false_and];exact AP.mk rfl rfl rfl rfl (fzz hk) rfl
  |true=>
   have hlt:j<l.length:=by
    refine eF λe=> ?_
    rw[e] at hc;exact absurd hc (by decide)
   simp only[zaZ,aW,aJ,Bool.true_and,Ec hl hlt];cases b with
   |false=>simp only[Bool.false_and,Bool.not_false,aJ,aW];exact hgo hlt
   |true=>
    simp only[Bool.true_and,aJ];cases hc':aO l j==62 with
    |true=>simp only[zaZ,aW,aJ];exact AP.mk rfl rfl rfl rfl (fzz hk) rfl
    |false=>simp only[Bool.not_false,aW,aJ];exact hgo hlt
theorem aGO(a b:Bool)(i:Nat)(nt:kH)(hi:i<=l.length)(hn:nt.length<=i):AP l (M.jF (m+1) a b (aA l) (i:Int) false (encS nt)) (ex l (n+1) 11 a b i nt):=by
 have h:=H n (zba _) m ak;rw[M.aae];simp only[M.vC,M.C9,M.xR,pW,aJ,ex,jQ,ah,aW,bne];have hgo:i<l.length->AP l ((M.jF m a b (aA l) ((i+1:Nat):Int) false (encS nt)).bind λr=>
   bif aj r.2.2.2.2.2.2.2.2.2.2 then some (11,aO l i,[],[],true,[[D.int .i64 r.1,D.int .i64 r.2.1,D.str r.2.2.1,D.str r.2.2.2.1,D.sl false 5 (aF r.2.2.2.2.2.1)]],false,
    r.2.2.2.2.2.2.2.1,r.2.2.2.2.2.2.2.2.1,r.2.2.2.2.2.2.2.2.2.1,r.2.2.2.2.2.2.2.2.2.2) else none) ((ex l n 11 a b (i+1) nt).bind λx j nt=> .ok (.mk 11 (aO l i) [] [] [x.1],false) j nt):=by
  intro hlt;refine AP.elim (R:=AP l) (h.e11 a b (i+1) nt ak ak) (λ_=>trivial) (λk op x y fl ks tg j nt hn=> ?_) (λy fl' kt j' nt' hk' he'=> ?_)
  ·simp only[aJ,pW];exact AP.sU hn
  ·simp only[aJ,pW];exact AP.mk rfl rfl rfl rfl (fz1 (fzz hk')) rfl
 cases h5:aO l i==55 with
 |true=>have hlt:=jZ h5 (by decide);simp only[zaZ,aW,aJ,Bool.true_or,Ec hl hlt];exact hgo hlt
 |false=>
  cases h6:aO l i==56 with
  |true=>have hlt:=jZ h6 (by decide);simp only[zaZ,Bool.not_false,aW,aJ,Bool.true_or,Bool.or_true,Ec hl hlt];exact hgo hlt
  |false=>
   cases h1:aO l i==61 with
   |true=>have hlt:=jZ h1 (by decide);simp only[zaZ,Bool.not_false,aW,aJ,Bool.true_or,Bool.or_true,Ec hl hlt];exact hgo hlt
   |false=>simp only[Bool.not_false,aW,aJ,Bool.or_false];exact AP.pass (h.e12 a b i nt hi hn) (by intros;simp only[pW,aJ])
theorem aGP(a b:Bool)(i:Nat)(nt:kH)(hi:i<=l.length)(hn:nt.length<=i):AP l (M.uU (m+1) a b (aA l) (i:Int) false (encS nt)) (ex l (n+1) 12 a b i nt):=by
 have h:=H n (zba _) m ak;rw[M.acz];simp only[M.yj,pW,aJ,ex];refine AP.elim (R:=AP l) (h.e13 a b i nt hi hn) (λ_=>trivial) (λk op x y fl ks tg j nt hn=> ?_) (λx fl ks j nt hk he=> ?_)
 ·simp only[aJ,pW];exact AP.sU hn
 ·have hs:=lK (U9 ak ak hi) he;simp only[aW,pW,aJ,jQ,ah,bne,M.lY,M.Ak];cases hc:aO l j==60 with
  |false=>simp only[Bool.not_false,aJ,aW];exact AP.mk rfl rfl rfl rfl (fzz hk) rfl
  |true=>
   have hlt:=jZ hc (by decide);simp only[zaZ,aW,aJ,Ec hl hlt];refine AP.elim (R:=AP l) (h.e11 a b (j+1) nt ak ak) (λ_=>trivial) (λk op x y fl ks tg j nt hn=> ?_) (λy fl' kt j' nt' hk' he'=> ?_)
   ·simp only[aJ,pW];exact AP.sU hn
   ·simp only[aJ,pW];exact AP.mk rfl rfl rfl rfl (by rw[fz2 (fzz hk) (fzz hk'),yU];rfl) rfl
theorem aGQ(a b:Bool)(i:Nat)(nt:kH)(hi:i<=l.length)(hn:nt.length<=i):AP l (M.sN (m+1) (aA l) (i:Int) false (encS nt)) (ex l (n+1) 13 a b i nt):=by
 have h:=H n (zba _) m ak;rw[M.abx];simp only[M.wO,M.Ej,pW,aJ,ex,Bool.not_false,jQ,ah,abM];cases hc:isStep (aO l i) with
 |true=>have hlt:=eF (xC hc);simp only[aJ];exact AP.pass (h.pre i nt hlt hn) (by intros;simp only[pW,aJ])
 |false=>
  simp only[aW];refine AP.elim (R:=AP l) (h.e14 a b i nt hi hn) (λ_=>trivial) (λk op x y fl ks tg j nt hn=> ?_) (λx fl ks j nt hk he=> ?_)
  ·simp only[aJ,pW];exact AP.sU hn
  ·have hs:=lK (U9 ak ak hi) he;simp only[aW,pW,aJ,jQ,ah,abM];cases ht:tgt x with
   |false=>simp only[Bool.not_false,aJ,Bool.false_and,aW];exact AP.mk rfl rfl rfl rfl (fzz hk) ht.symm
   |true=>
    simp only[zaZ,aW,Bool.true_and];cases hc:isStep (aO l j) with
    |false=>simp only[Bool.not_false,aJ,aW];exact AP.mk rfl rfl rfl rfl (fzz hk) ht.symm
    |true=>have hlt:=eF (xC hc);simp only[zaZ,aW,aJ,Ec hl hlt];exact AP.mk rfl rfl rfl rfl (fz1 (fzz hk)) rfl
theorem aGR(a b:Bool)(i:Nat)(nt:kH)(hi:i<=l.length)(hn:nt.length<=i):AP l (M.mX (m+1) (aA l) (i:Int) false (encS nt)) (ex l (n+1) 14 a b i nt):=by
 have h:=H n (zba _) m ak;rw[M.aad];simp only[M.vk,M.CZ,pW,aJ,aW,ex,jQ,ah,bne];cases hc:aO l i==68 with
 |false=>simp only[Bool.not_false,aJ,aW];exact AP.pass (h.e15 a b i nt hi hn) (by intros;simp only[pW,aJ])
 |true=>
  have hlt:=jZ hc (by decide);simp only[zaZ,aW,aJ,Ec hl hlt,jQ,ah,abM];cases hs:isStep (aO l (i+1)) with
  |true=>
   have hlt':=eF (xC hs);simp only[aJ,pW];refine AP.elim (R:=AP l) (h.pre (i+1) nt hlt' ak) (λ_=>trivial) (λk op x y fl ks tg j nt hn=> ?_) (λy fl' kt j' nt' hk' he'=> ?_)
   ·simp only[aJ,pW];exact AP.sU hn
   ·simp only[aJ,pW];exact AP.mk rfl rfl rfl rfl (fz1 (fzz hk')) rfl
  |false=>
   simp only[aW,aJ,pW];refine AP.elim (R:=AP l) (h.e14 a b (i+1) nt ak ak) (λ_=>trivial) (λk op x y fl ks tg j nt hn=> ?_) (λy fl' kt j' nt' hk' he'=> ?_)
   ·simp only[aJ,pW];exact AP.sU hn
   ·simp only[aJ,pW];exact AP.mk rfl rfl rfl rfl (fz1 (fzz hk')) rfl
end
variable {l:List Tk}
def aym{L:List Tn}{x:Tn}{ks:au}(h:aF ks=iV false x.kids):
  iV false L++[[D.int .i64 x.kind,D.int .i64 x.op,D.str x.text,D.str x.other,D.sl false 5 (aF ks)]]=iV false (L++[x]):=by
 rw[amG,h,<-arp];rfl
def itF(u:zaD⊕zaS⊕zaD):Option TL:=
 kT u (λt=>bif aj t.2.2.2.2 then some (true,t.2.2.2.1,t.1,t.2.1,t.2.2.1,t.2.2.2.2) else none) λu=>
  kT u (λt=>bif aj t.2.2.2 then some (true,t.2.2.1,t.1,t.2.1,true,t.2.2.2) else none) λu=>
  letE u λt=>bif aj t.2.2.2.2 then some (true,t.2.2.2.1,t.1,t.2.1,t.2.2.1,t.2.2.2.2) else none
def aiX(hl:l.length<=1048576){m:Nat}{a b:Bool}:∀n,(∀n',n'<n->∀i nt,i<=l.length->nt.length<=i->AP l (M.gQ m a b (aA l) (i:Int) false (encS nt)) (ex l n' 1 a b i nt))->
  ∀L i nt,L.length<6->i<=l.length->nt.length<=i->AL l ((M.xP (M.gQ m) a b (aA l,(i:Int),false,iV false L,encS nt)).bind itF) (Po l n a b L i nt)
 |0,_,_,_,_,_,_,_=>by rw[Po];trivial
 |n+1,hrec,L,i,nt,hL,hi,hn=>by
  have hr:=hrec n (Nat.lt_succ_self n) i nt hi hn;have hs:=(sats l n).ex 1 a b i nt ak ak hi;rw[Po,M.xP];have hb:M.Gx (M.gQ m) a b (aA l,(i:Int),false,iV false L,encS nt)=
    (M.gQ m a b (aA l) (i:Int) false (encS nt)).bind λyV=>
    (bif((iV false L).length+[[D.int .i64 yV.1,D.int .i64 yV.2.1,D.str yV.2.2.1,D.str yV.2.2.2.1,D.sl false 5 (aF yV.2.2.2.2.2.1)]].length) * 72|>.ble 140737488355328 then
    (bif((iV false L).length+[[D.int .i64 yV.1,D.int .i64 yV.2.1,D.str yV.2.2.1,D.str yV.2.2.2.1,D.sl false 5 (aF yV.2.2.2.2.2.1)]].length).ble 140737488355328 then
     (bif yV.2.2.2.2.2.2.2.2.2.1 then
     (some (.inr (.inl ((yV.2.2.2.2.2.2.2.1,yV.2.2.2.2.2.2.2.2.1,yV.2.2.2.2.2.2.2.2.2.1,iV false L++[[D.int .i64 yV.1,D.int .i64 yV.2.1,D.str yV.2.2.1,D.str yV.2.2.2.1,D.sl false 5 (aF yV.2.2.2.2.2.1)]],yV.2.2.2.2.2.2.2.2.2.2))))) else
     (bif aj yV.2.2.2.2.2.2.2.2.2.2 then
      ((M.aG yV.2.2.2.2.2.2.2.1 yV.2.2.2.2.2.2.2.2.1 yV.2.2.2.2.2.2.2.2.2.1 yV.2.2.2.2.2.2.2.2.2.2).bind λX3=>
      (bif X3.1 !=36 then
       (some (.inr (.inl ((X3.2.1,X3.2.2.1,X3.2.2.2.1,iV false L++[[D.int .i64 yV.1,D.int .i64 yV.2.1,D.str yV.2.2.1,D.str yV.2.2.2.1,D.sl false 5 (aF yV.2.2.2.2.2.1)]],X3.2.2.2.2))))) else
       (bif((iV false L++[[D.int .i64 yV.1,D.int .i64 yV.2.1,D.str yV.2.2.1,D.str yV.2.2.2.1,D.sl false 5 (aF yV.2.2.2.2.2.1)]]).length:Int)==6 then
       (some (.inr (.inr (.inl ((X3.2.1,X3.2.2.1,iV false L++[[D.int .i64 yV.1,D.int .i64 yV.2.1,D.str yV.2.2.1,D.str yV.2.2.2.1,D.sl false 5 (aF yV.2.2.2.2.2.1)]],X3.2.2.2.2)))))) else
       (bif aj X3.2.2.2.2 then
        ((M.gJ X3.2.1 (i64.wrap (X3.2.2.1+1)) X3.2.2.2.1 X3.2.2.2.2).bind λara=>
        (some (.inl ((ara.1,ara.2.1,ara.2.2.1,iV false L++[[D.int .i64 yV.1,D.int .i64 yV.2.1,D.str yV.2.2.1,D.str yV.2.2.2.1,D.sl false 5 (aF yV.2.2.2.2.2.1)]],ara.2.2.2))))) else none)))) else none)) else none) else none):=by
   simp only[I7,M.Gx,M.zq,Bool.not_false,aJ,pW]
  generalize ex l n 1 a b i nt=p at hr hs|-;cases p with
  |out=>trivial
  |bad j=>obtain⟨k,op,x',y',fl,kt,tg,m',h1,h2⟩:=hr;rw[h2,ah] at hb;simp only[KE,TG] at hb;rw[fM ak,aJ,fM ak,aJ,aJ] at hb;rw[aQ hb,ah];simp only[itF,kT,pW,aJ];exact⟨_,_,_,h1,rfl⟩
  |ok x j m'=>
   obtain⟨fl,kt,h1,h2⟩:=hr;have hs':FE l i nt.length x.1.size j m'.length:=hs;rw[h2,ah] at hb;simp only[aym h1,KE,TG,PD] at hb;rw[fM ak,aJ,fM ak,aJ,aW,pW,aJ,jQ,ah] at hb;simp only[PR.bind];simp only[bne] at hb;cases hc:aO l j==36 with
   |false=>simp only[hc,Bool.not_false,aJ] at hb;rw[aQ hb,ah];simp only[itF,kT,pW,aJ,aW];exact⟨_,rfl⟩
   |true=>
    have hlt:=jZ hc (by decide);simp only[hc,zaZ,aW,pW,aJ,Ec hl hlt,arH hl (j+1) m' ak ak,ah] at hb;rw[aJ];cases h6:Nat.beq (L.length+1) 6 with
    |true=>
     have e:=Ia h6;have e':(((L.length+1:Nat):Int)==6)=true:=by rw[e];rfl
     rw[e',aJ] at hb;rw[aQ hb,ah,aJ];simp only[itF,kT,pW,aJ];exact⟨_,_,_,ak,rfl⟩
    |false=>
     have e:L.length+1≠6:=Nat.ne_of_beq_eq_false h6;have e':(((L.length+1:Nat):Int)==6)=false:=by rw[nY];omega
     rw[e',aW] at hb;rw[bI hb,aW];have hf:=alf (l:=l) (i:=j+1) (nt:=m') ak;exact aiX hl n (λn' h=>hrec n' ak) (L++[x.1]) _ _ (by rw[PD,TG];omega) ak ak
section
variable {n m:Nat} (hl:l.length<=1048576) (H:∀n',n'<=n->∀m',4 * n'+30<=m'->RI l n' m') (hm:4 * (n+1)+30<=m+1)
include hl H hm
theorem aGS(a b:Bool)(i:Nat)(nt:kH)(hi:i<=l.length)(hn:nt.length<=i):AL l (M.o8 (m+1) a b (aA l) (i:Int) false (encS nt)) (Po l (n+1) a b [] i nt):=by rw[M.aac];exact aiX hl (n+1) (λn' hn' i nt hi hn=>(H n' ak m ak).e1 a b i nt hi hn) [] i nt (by decide) hi hn
theorem a1p(i:Nat)(nt:kH)(hi:i<=l.length)(hn:nt.length<=i):AP l (M.Dh m (aA l) (i:Int) false (encS nt)) (bif aO l i==68||aO l i==6 then ex l n 14 false false i nt else .bad i):=by
 obtain⟨m2,rfl⟩:∃m2,m=m2+3:=⟨m - 3,ak⟩
 rw[M.YU];simp only[M.tu,M.rJ,aW,pW,aJ,jQ,ah];cases h8:aO l i==68 with
 |true=>simp only[aJ,Bool.true_or];exact AP.pass ((H n (zba _) (m2+2) ak).e14 false false i nt hi hn) (by intros;simp only[pW,aJ])
 |false=>
  cases h6:aO l i==6 with
  |false=>simp only[aW,Bool.or_self,amV,ah,pW,aJ];exact AP.sU ak
  |true=>
   have hlt:=jZ h6 (by decide);have e:aO l i=6:=by rwa [beq_iff_eq] at h6
   simp only[aJ,aW,Bool.false_or];refine AP.pass ?_ (by intros;simp only[pW,aJ]);cases n with
   |zero=>rw[ex];trivial
   |succ n1=>
    have e1:ex l (n1+1) 14 false false i nt=ex l n1 15 false false i nt:=by simp only[ex,h8,aW]
    rw[e1];cases n1 with
    |zero=>rw[ex];trivial
    |succ n2=>
     have h3:(aO l i==3)=false:=by rw[e];rfl
     have h4:(aO l i==4)=false:=by rw[e];rfl
     have h5:(aO l i==5)=false:=by rw[e];rfl
     have e2:ex l (n2+1) 15 false false i nt=auM l n2 i nt:=by simp only[ex,h3,h4,h5,h6,aW,aJ,auM]
     rw[e2];exact aEv hl (λi nt hi hn=>(H n2 ak m2 ak).its false false i nt hi hn) hlt hn
theorem aGT(i:Nat)(nt:kH)(hi:i<l.length)(hn:nt.length<=i):AP l (M.nV (m+1) (aA l) (i:Int) false (encS nt)) (I8 l (n+1) i nt):=by
 rw[M.YV,I8];simp only[M.tC,pW,aJ,jQ,ah,Ec hl hi];have e:(bif aO l (i+1)==68||aO l (i+1)==6 then(ex l n 14 false false (i+1) nt).bind λx j nt=> .ok (.mk 9 (aO l i) [] [] [x.1],false) j nt else .bad (i+1):PR Xp)=
   (bif aO l (i+1)==68||aO l (i+1)==6 then ex l n 14 false false (i+1) nt else .bad (i+1)).bind λx j nt=> .ok (.mk 9 (aO l i) [] [] [x.1],false) j nt:=by
  cases(aO l (i+1)==68||aO l (i+1)==6)<;>rfl
 rw[e];refine AP.elim (R:=AP l) (a1p hl H hm (i+1) nt ak ak) (λ_=>trivial) (λk op x y fl ks tg j nt hn=> ?_) (λy fl' kt j' nt' hk' he'=> ?_)
 ·simp only[aJ,pW];exact AP.sU hn
 ·simp only[aJ,pW];exact AP.mk rfl rfl rfl rfl (fz1 (fzz hk')) rfl
theorem ayn(kd:Int)(hkd:Ee kd=false)(i:Nat)(nt:kH)(hi:i<l.length)(hn:nt.length<=i):
  AP l ((M.fB 32 (aA l) ((i+1:Nat):Int) false (encS nt)).bind λr=>bif r.1 then(bif aj r.2.2.2.2 then(M.jX m 33 r.2.1 r.2.2.1 r.2.2.2.1 r.2.2.2.2).bind λr'=>bif aj r'.2.2.2.2.2 then some (kd,0,xB l i,[],false,aF r'.2.1,false,r'.2.2.1,r'.2.2.2.1,r'.2.2.2.2.1,r'.2.2.2.2.2) else none else none)
   else(bif aj r.2.2.2.2 then some (kd,0,xB l i,[],true,[],false,r.2.1,r.2.2.1,r.2.2.2.1,r.2.2.2.2) else none))
   ((qH l 32 (i+1) nt).bind λ_ j nt=>(Bv l n 33 j nt).bind λL j nt=> .ok (.mk kd 0 (xB l i) [] L,false) j nt):=by
 refine aiW (R:=AP l) hl (by decide) ?_ (λ_ hlt=> ?_)
 ·simp only[pW,aJ,aW];exact AP.sU ak
 ·simp only[pW,aJ];obtain⟨m2,rfl⟩:∃m2,m=m2+3:=⟨m - 3,ak⟩
  cases n with
  |zero=>rw[Bv];trivial
  |succ n1=>
   refine AL.elim (R:=AP l) (ayl hl ((H n1 ak (m2+2) ak).its false false (i+1+1) nt ak ak) ak ak) (λ_=>trivial) (λfl ks j nt hn=> ?_) (λL fl j nt he=> ?_)
   ·simp only[pW,aJ];exact AP.sU hn
   ·simp only[pW,aJ,yU];exact AP.mk rfl rfl rfl rfl (yU _ _) (by simp only[tgt,Tn.kind,hkd];rfl)
theorem aGU(a b:Bool)(i:Nat)(nt:kH)(hi:i<=l.length)(hn:nt.length<=i):AP l (M.pG (m+1) (aA l) (i:Int) false (encS nt)) (ex l (n+1) 15 a b i nt):=by
 have h:=H n (zba _) m ak;rw[M.Ya];simp only[M.rH,M.Bq,M.zu,pW,aJ,aW,ex,jQ,ah];cases h3:aO l i==3 with
 |true=>have hlt:=jZ h3 (by decide);simp only[aJ,XB hl hlt,ah,pW];exact AP.mk rfl rfl rfl rfl rfl rfl
 |false=>
 cases h4:aO l i==4 with
 |true=>have hlt:=jZ h4 (by decide);simp only[aJ,aW,XB hl hlt,ah,pW];exact AP.mk rfl rfl rfl rfl rfl rfl
 |false=>
 cases h5:aO l i==5 with
 |true=>have hlt:=jZ h5 (by decide);simp only[aJ,aW,XB hl hlt,ah,pW];exact AP.mk rfl rfl rfl rfl rfl rfl
 |false=>
 cases h6:aO l i==6 with
 |true=>
  have hlt:=jZ h6 (by decide);simp only[aJ,aW];obtain⟨m2,rfl⟩:∃m2,m=m2+2:=⟨m - 2,ak⟩
  exact AP.pass (aEv hl (λi nt hi hn=>(H n (zba _) m2 ak).its false false i nt hi hn) hlt hn) (by intros;simp only[pW,aJ])
 |false=>
 cases h7:aO l i==7 with
 |true=>
  have hlt:=jZ h7 (by decide);have e:aO l i=7:=by rwa [beq_iff_eq] at h7
  have h8:(aO l i==8)=false:=by rw[e];rfl
  simp only[aJ,aW,XB hl hlt,ah,pW,h8,Bool.true_or,Bool.false_and];have:=ayn hl H hm 7 rfl i nt hlt hn;rw[e];exact this
 |false=>
 cases h8:aO l i==8 with
 |true=>
  have hlt:=jZ h8 (by decide);have e:aO l i=8:=by rwa [beq_iff_eq] at h8
  simp only[aJ,aW,XB hl hlt,ah,pW,Bool.or_true,Bool.true_and];have hcall:=ayn hl H hm 8 rfl i nt hlt hn;cases hx:xB l i==[108,101,110,103,116,104] with
  |false=>simp only[aW,Bool.false_and];rw[e];exact hcall
  |true=>
   simp only[aJ,Bool.true_and,jQ,ah,bne];cases h32:aO l (i+1)==32 with
   |false=>simp only[Bool.not_false,aJ,pW];exact AP.mk rfl rfl rfl rfl rfl rfl
   |true=>simp only[zaZ,aW,pW,aJ];rw[e];exact hcall
 |false=>
 cases h32:aO l i==32 with
 |true=>
  have hlt:=jZ h32 (by decide);simp only[aJ,aW,Ec hl hlt,Bool.or_self];refine AP.elim (R:=AP l) (h.e1 false false (i+1) nt ak ak) (λ_=>trivial) (λk op x y fl ks tg j nt hn=> ?_) (λx fl ks j nt' hk he=> ?_)
  ·simp only[aJ,pW,amW,ah];exact AP.sU hn
  ·have hs:=lK (U9 ak ak ak) he;simp only[pW,aJ];refine aiW (R:=AP l) hl (by decide) ?_ (λ_ hlt=> ?_)
   ·simp only[pW,aJ];exact AP.sU ak
   ·simp only[pW,aJ];exact AP.mk rfl rfl rfl rfl (fzz hk) rfl
 |false=>simp only[aW,Bool.or_self,amV,ah,pW,aJ];exact AP.sU ak
end
variable {l:List Tk}
abbrev Q1:=au×au×Int×Bool×Bool×Bool×Int×Int×aI×aI×Bool×Int×Int×aI×aI×Bool×au
abbrev Q2:=au×Int×Bool×Bool×Bool×Int×Int×aI×aI×Bool×Int×Int×aI×aI×au×Bool×au
abbrev Q3:=au×Int×Bool×Bool×Bool×Int×Int×aI×aI×Bool×Int×Int×aI×aI×Bool×au×au
def inF(u:Q1⊕Q2⊕Q3):Option TP:=kT u (λt=>bif aj t.2.2.2.2.2.2.2.2.2.2.2.2.2.2.2.2 then some (t.2.2.2.2.2.2.2.2.2.2.2.1,t.2.2.2.2.2.2.2.2.2.2.2.2.1,t.2.2.2.2.2.2.2.2.2.2.2.2.2.1,t.2.2.2.2.2.2.2.2.2.2.2.2.2.2.1,true,[],t.2.2.2.2.2.2.2.2.2.2.2.2.2.2.2.1,t.2.1,t.2.2.1,t.2.2.2.1,t.2.2.2.2.2.2.2.2.2.2.2.2.2.2.2.2) else none) λu=>kT u (λt=>bif aj t.2.2.2.2.2.2.2.2.2.2.2.2.2.2.2.2 then some (t.2.2.2.2.2.2.2.2.2.2.1,t.2.2.2.2.2.2.2.2.2.2.2.1,t.2.2.2.2.2.2.2.2.2.2.2.2.1,t.2.2.2.2.2.2.2.2.2.2.2.2.2.1,false,t.2.2.2.2.2.2.2.2.2.2.2.2.2.2.1,t.2.2.2.2.2.2.2.2.2.2.2.2.2.2.2.1,t.1,t.2.1,t.2.2.1,t.2.2.2.2.2.2.2.2.2.2.2.2.2.2.2.2) else none) λu=>letE u λt=>bif aj t.2.2.2.2.2.2.2.2.2.2.2.2.2.2.2.1 then some (t.2.2.2.2.2.2.2.2.2.2.1,t.2.2.2.2.2.2.2.2.2.2.2.1,t.2.2.2.2.2.2.2.2.2.2.2.2.1,t.2.2.2.2.2.2.2.2.2.2.2.2.2.1,true,t.2.2.2.2.2.2.2.2.2.2.2.2.2.2.2.2,t.2.2.2.2.2.2.2.2.2.2.2.2.2.2.1,t.1,t.2.1,t.2.2.1,t.2.2.2.2.2.2.2.2.2.2.2.2.2.2.2.1) else none
def q2(a b:Bool)(c:au)(c1:Int)(c2:Bool)(k op:Int)(x y:aI)(ks:au)(tg:Bool)(c3:au):Q2:=(c,c1,c2,a,b,0,0,[],[],false,k,op,x,y,ks,tg,c3)
def q3(a b:Bool)(c:au)(c1:Int)(c2:Bool)(k op:Int)(x y:aI)(ks:au)(tg:Bool)(c3:au):Q3:=(c,c1,c2,a,b,0,0,[],[],false,k,op,x,y,tg,c3,ks)
def aDa(a b:Bool)(c1:Int)(c2:Bool)(k op:Int)(x y:aI)(ks:au)(tg:Bool)(nt:kH):inF (.inr (.inl (q2 a b (aA l) c1 c2 k op x y ks tg (encS nt))))=some (k,op,x,y,false,ks,tg,aA l,c1,c2,encS nt):=by simp only[inF,kT,q2,pW,aJ]
def aDb(a b:Bool)(c1:Int)(c2:Bool)(k op:Int)(x y:aI)(ks:au)(tg:Bool)(nt:kH):inF (.inr (.inr (q3 a b (aA l) c1 c2 k op x y ks tg (encS nt))))=some (k,op,x,y,true,ks,tg,aA l,c1,c2,encS nt):=by simp only[inF,kT,letE,q3,pW,aJ]
def in3(hl:l.length<=1048576){f:Int->au->Int->Bool->au->Option TL}{g:Bool->Bool->au->Int->Bool->au->Option TP}{a b:Bool}:∀(n:Nat) (x:Xp) (i:Nat) (nt:kH) (ks:au),i<=l.length->nt.length<=i->aF ks=iV false x.1.kids->
  AP l ((M.iO f g (.inr (.inr (q3 a b (aA l) (i:Int) false x.1.kind x.1.op x.1.text x.1.other ks (tgt x) (encS nt))))).bind inF) (TQ l n a x i nt)
 |0,_,_,_,_,_,_,_=>by rw[TQ];trivial
 |n+1,x,i,nt,ks,hi,hn,hk=>by
  rw[TQ,M.iO];cases hc:aO l i==24 with
  |false=>
   have hb:M.fJ f g (.inr (.inr (q3 a b (aA l) (i:Int) false x.1.kind x.1.op x.1.text x.1.other ks (tgt x) (encS nt))))=some (.inr (.inr (.inr (q3 a b (aA l) (i:Int) false x.1.kind x.1.op x.1.text x.1.other ks (tgt x) (encS nt))))):=by simp only[M.fJ,M.kS,q3,Bool.not_false,aJ,aW,pW,jQ,ah,hc]
   rw[aQ hb,ah,aDb,Bool.false_and,aW];exact AP.mk rfl rfl rfl rfl hk rfl
  |true=>
   cases a with
   |true=>
    have hb:M.fJ f g (.inr (.inr (q3 true b (aA l) (i:Int) false x.1.kind x.1.op x.1.text x.1.other ks (tgt x) (encS nt))))=some (.inr (.inr (.inr (q3 true b (aA l) (i:Int) false x.1.kind x.1.op x.1.text x.1.other ks (tgt x) (encS nt))))):=by simp only[M.fJ,M.kS,q3,Bool.not_false,zaZ,aJ,aW,pW,jQ,ah,hc]
    rw[aQ hb,ah,aDb];simp only[zaZ,Bool.and_false,aW];exact AP.mk rfl rfl rfl rfl hk rfl
   |false=>
    have hlt:=jZ hc (by decide);have hb:M.fJ f g (.inr (.inr (q3 false b (aA l) (i:Int) false x.1.kind x.1.op x.1.text x.1.other ks (tgt x) (encS nt))))=(M.dN (aA l) ((i+1:Nat):Int) false (encS nt)).bind λr=>some (.inl (.inr (.inr (q3 false b r.2.1 r.2.2.1 r.2.2.2.1 13 0 r.1 [] [[D.int .i64 x.1.kind,D.int .i64 x.1.op,D.str x.1.text,D.str x.1.other,D.sl true 5 ks]] false r.2.2.2.2)))):=by simp only[M.fJ,M.kS,q3,Bool.not_false,aJ,pW,jQ,ah,hc,Ec hl hlt]
    simp only[Bool.not_false,Bool.and_self,aJ];cases h6:aO l (i+1)==6 with
    |false=>
     have hnm:M.dN (aA l) ((i+1:Nat):Int) false (encS nt)=some ([],aA l,((i+1:Nat):Int),true,encS nt):=by simp only[M.dN,M.og,pW,aJ,aW,jQ,ah,bne,h6,Bool.not_false]
     rw[hnm,ah] at hb;rw[bI hb,show dU _ _=_ from aQ rfl,ah,nameP,h6];exact⟨_,_,_,_,_,_,_,_,(show nt.length<=l.length by omega),aDb (l:=l) _ _ _ _ _ _ _ _ _ _ _⟩
    |true=>
     have h2:=jZ h6 (by decide);have hnm:M.dN (aA l) ((i+1:Nat):Int) false (encS nt)=some (xB l (i+1),aA l,((i+1+1:Nat):Int),false,encS nt):=by simp only[M.dN,M.og,pW,aJ,aW,jQ,ah,bne,h6,zaZ,XB hl h2]
     rw[hnm,ah] at hb;rw[bI hb,nameP,h6];exact in3 hl n (.mk 13 0 (xB l (i+1)) [] [x.1],false) (i+1+1) nt _ ak ak (fz1 hk)
def in2(hl:l.length<=1048576){f:Int->au->Int->Bool->au->Option TL}{g:Bool->Bool->au->Int->Bool->au->Option TP}{a b:Bool}:∀(n:Nat) (x:Xp) (i:Nat) (nt:kH) (ks:au),i<=l.length->nt.length<=i->aF ks=iV false x.1.kids->
  AP l ((M.iO f g (.inr (.inl (q2 a b (aA l) (i:Int) false x.1.kind x.1.op x.1.text x.1.other ks (tgt x) (encS nt))))).bind inF) (TQ l n a x i nt)
 |0,_,_,_,_,_,_,_=>by rw[TQ];trivial
 |n+1,x,i,nt,ks,hi,hn,hk=>by
  rw[TQ,M.iO];cases hc:aO l i==24 with
  |false=>
   have hb:M.fJ f g (.inr (.inl (q2 a b (aA l) (i:Int) false x.1.kind x.1.op x.1.text x.1.other ks (tgt x) (encS nt))))=some (.inr (.inr (.inl (q2 a b (aA l) (i:Int) false x.1.kind x.1.op x.1.text x.1.other ks (tgt x) (encS nt))))):=by simp only[M.fJ,M.kS,q2,Bool.not_false,aJ,aW,pW,jQ,ah,hc]
   rw[aQ hb,ah,aDa,Bool.false_and,aW];exact AP.mk rfl rfl rfl rfl hk rfl
  |true=>
   cases a with
   |true=>
    have hb:M.fJ f g (.inr (.inl (q2 true b (aA l) (i:Int) false x.1.kind x.1.op x.1.text x.1.other ks (tgt x) (encS nt))))=some (.inr (.inr (.inl (q2 true b (aA l) (i:Int) false x.1.kind x.1.op x.1.text x.1.other ks (tgt x) (encS nt))))):=by simp only[M.fJ,M.kS,q2,Bool.not_false,zaZ,aJ,aW,pW,jQ,ah,hc]
    rw[aQ hb,ah,aDa];simp only[zaZ,Bool.and_false,aW];exact AP.mk rfl rfl rfl rfl hk rfl
   |false=>
    have hlt:=jZ hc (by decide);have hb:M.fJ f g (.inr (.inl (q2 false b (aA l) (i:Int) false x.1.kind x.1.op x.1.text x.1.other ks (tgt x) (encS nt))))=(M.dN (aA l) ((i+1:Nat):Int) false (encS nt)).bind λr=>some (.inl (.inr (.inr (q3 false b r.2.1 r.2.2.1 r.2.2.2.1 13 0 r.1 [] [[D.int .i64 x.1.kind,D.int .i64 x.1.op,D.str x.1.text,D.str x.1.other,D.sl false 5 ks]] false r.2.2.2.2)))):=by simp only[M.fJ,M.kS,q2,q3,Bool.not_false,aJ,pW,jQ,ah,hc,Ec hl hlt]
    simp only[Bool.not_false,Bool.and_self,aJ];cases h6:aO l (i+1)==6 with
    |false=>
     have hnm:M.dN (aA l) ((i+1:Nat):Int) false (encS nt)=some ([],aA l,((i+1:Nat):Int),true,encS nt):=by simp only[M.dN,M.og,pW,aJ,aW,jQ,ah,bne,h6,Bool.not_false]
     rw[hnm,ah] at hb;rw[bI hb,show dU _ _=_ from aQ rfl,ah,nameP,h6];exact⟨_,_,_,_,_,_,_,_,(show nt.length<=l.length by omega),aDb (l:=l) _ _ _ _ _ _ _ _ _ _ _⟩
    |true=>
     have h2:=jZ h6 (by decide);have hnm:M.dN (aA l) ((i+1:Nat):Int) false (encS nt)=some (xB l (i+1),aA l,((i+1+1:Nat):Int),false,encS nt):=by simp only[M.dN,M.og,pW,aJ,aW,jQ,ah,bne,h6,zaZ,XB hl h2]
     rw[hnm,ah] at hb;rw[bI hb,nameP,h6];exact in3 hl n (.mk 13 0 (xB l (i+1)) [] [x.1],false) (i+1+1) nt _ ak ak (fz1 hk)
def apX{α:Type}{x:PR α}:x.sat λ_ _ _=>True:=by cases x<;>trivial
def asU{a b:Bool}:∀(n:Nat) (L:List Tn) (i:Nat) (nt:kH),(Po l n a b L i nt).sat λL' _ _=>L.length<L'.length
 |0,_,_,_=>by rw[Po];trivial
 |n+1,L,i,nt=>by
  rw[Po,nM];refine dR apX λx j m _=> ?_
  rw[oz];refine⟨λ_=> ?_,λ_=> ?_⟩
  ·rw[oz];refine⟨λ_=>trivial,λ_=> ?_⟩;exact dR (asU n _ _ _) λL' _ _ h=>by rw[PD,TG] at h;omega
  ·show L.length<(L++[x.1]).length;rw[PD,TG];omega
def apY{i:Nat}(h32:aO l i=32)(h:ahead (l.drop i) 0=true):(aO l (i+1)==33)=false:=by
 have hlt:i<l.length:=eF (by rw[h32];decide);obtain⟨t,ht⟩:∃t,l[i]? =some t:=⟨l[i],by simp[hlt]⟩
 have e1:t.kind=32:=by rw[aO,ht] at h32;exact h32
 rw[Zy ht,ahead,e1] at h;have h':ahead (l.drop (i+1)) 1=true:=h;cases hk:l[i+1]? with
 |none=>rw[aO,hk];rfl
 |some u=>
  rw[Zy hk,ahead] at h';rw[aO,hk];show(u.kind==33)=false;cases hu:u.kind==33 with
  |false=>rfl
  |true=>
   have e:u.kind=33:=by rwa [beq_iff_eq] at hu
   rw[e] at h';exact absurd (show false=true from h') Bool.false_ne_true
def ayo{n i:Nat}{nt:kH}(h:(aO l i==33)=false):(Bv l n 33 i nt).sat λL _ _=>1<=L.length:=by
 cases n with
 |zero=>rw[Bv];trivial
 |succ n=>
  rw[Bv,h,aW,nM];refine dR (asU n [] i nt) λL j m hL=> ?_
  rw[nM,RF];exact λ_=>hL
section
variable {n m:Nat} (hl:l.length<=1048576) (H:∀n',n'<=n->∀m',4 * n'+30<=m'->RI l n' m') (hm:4 * (n+1)+30<=m+1)
include hl H hm
theorem aDc(a b:Bool)(i:Nat)(nt:kH)(hi:i<=l.length)(hn:nt.length<=i):
  AP l ((M.jG m a b (aA l) (i:Int) false (encS nt)).bind λr=>(M.iO (M.jX m) (M.jG m) (.inr (.inl (q2 a b r.2.2.2.2.2.2.2.1 r.2.2.2.2.2.2.2.2.1 r.2.2.2.2.2.2.2.2.2.1 r.1 r.2.1 r.2.2.1 r.2.2.2.1 (aF r.2.2.2.2.2.1) r.2.2.2.2.2.2.1 r.2.2.2.2.2.2.2.2.2.2)))).bind inF)
   ((ex l n 6 a b i nt).bind λx i nt=>TQ l n a x i nt):=by
 have h:=H n (zba _) m ak;refine AP.elim (R:=AP l) (h.e6 a b i nt hi hn) (λ_=>trivial) (λk op x y fl ks tg j nt hn=> ?_) (λx fl ks j nt hk he=> ?_)
 ·rw[show M.iO _ _ _=_ from aQ rfl,ah];exact⟨_,_,_,_,_,_,_,_,hn,aDa (l:=l) _ _ _ _ _ _ _ _ _ _ _⟩
 ·have hs:=lK (U9 ak ak hi) he;exact in2 hl n x j nt _ ak ak (fzz hk)
theorem aT3(a b:Bool)(i:Nat)(nt:kH)(hi:i<=l.length)(hn:nt.length<=i):AP l (M.tJ (m+1) a b (aA l) (i:Int) false (encS nt)) (ex l (n+1) 5 a b i nt):=by
 have hbare:=aDc hl H hm a b i nt hi hn;rw[M.adX];simp only[M.zM,M.IB,M.IC,M.IE,M.yx,Bool.not_false,pW,aJ,ex,jQ,ah];cases h32:aO l i==32 with
 |false=>simp only[aW,Bool.false_and];exact hbare
 |true=>
  have hlt:=jZ h32 (by decide);have e32:aO l i=32:=by rwa [beq_iff_eq] at h32
  simp only[aJ,Bool.true_and];cases a with
  |true=>simp only[zaZ,aW,Bool.false_and];exact hbare
  |false=>
   simp only[Bool.not_false,aJ,Bool.true_and,pW,aC9 hl i nt hi,ah];cases ha:ahead (l.drop i) 0 with
   |false=>simp only[aW,pW,aJ];exact hbare
   |true=>
    simp only[aJ,pW,Ec hl hlt];have hne:=apY e32 ha;obtain⟨m2,rfl⟩:∃m2,m=m2+3:=⟨m - 3,ak⟩
    cases n with
    |zero=>rw[Bv];trivial
    |succ n1=>
     refine AL.elim (R:=AP l) (ayl hl ((H n1 ak (m2+2) ak).its false false (i+1) nt ak ak) ak ak) (λ_=>trivial) (λfl ks j nt hn=> ?_) (λL fl j nt' he=> ?_)
     ·simp only[zaZ,aW];rw[show M.iO _ _ _=_ from aQ rfl];simp only[ah,kT,pW,aJ];exact AP.sU hn
     ·have hs:=lK ((sats l (n1+1)).lst 33 (i+1) nt (by decide) ak) he;have hlong:=lK (ayo (n:=n1+1) (nt:=nt) hne) he;simp only[Bool.not_false,aJ,pW,jQ,ah,bne,yU];rw[qH];cases Zv:aO l j==24 with
      |false=>simp only[Bool.not_false,aJ,pW,amV,ah,aW];exact AP.sU ak
      |true=>
       have hlt':=jZ Zv (by decide);simp only[zaZ,aW,aJ];have hb:M.fJ (M.jX (m2+3)) (M.jG (m2+3)) (.inl (iV false L,false,aA l,(j:Int),false,false,b,0,0,[],[],false,0,0,[],[],false,encS nt'))=(M.dN (aA l) ((j+1:Nat):Int) false (encS nt')).bind λr=>some (.inl (.inr (.inl (q2 false b r.2.1 r.2.2.1 r.2.2.2.1 13 0 r.1 [] (iV false L) false r.2.2.2.2)))):=by simp only[M.fJ,M.kS,q2,Bool.not_false,aJ,pW,jQ,ah,Zv,Ec hl hlt',KE];rw[fM hlong,aJ]
       show AP l ((M.iO (M.jX (m2+3)) (M.jG (m2+3)) (.inl (iV false L,false,aA l,(j:Int),false,false,b,0,0,[],[],false,0,0,[],[],false,encS nt'))).bind inF) ((nameP l (j+1) nt').bind λs i nt=>TQ l (n1+1) false (Tn.mk 13 0 s [] L,false) i nt);rw[M.iO];cases h6:aO l (j+1)==6 with
       |false=>
        have hnm:M.dN (aA l) ((j+1:Nat):Int) false (encS nt')=some ([],aA l,((j+1:Nat):Int),true,encS nt'):=by simp only[M.dN,M.og,pW,aJ,aW,jQ,ah,bne,h6,Bool.not_false]
        rw[hnm,ah] at hb;rw[bI hb,show dU _ _=_ from aQ rfl,ah,nameP,h6];exact⟨_,_,_,_,_,_,_,_,(show nt'.length<=l.length by omega),aDa (l:=l) _ _ _ _ _ _ _ _ _ _ _⟩
       |true=>
        have h2:=jZ h6 (by decide);have hnm:M.dN (aA l) ((j+1:Nat):Int) false (encS nt')=some (xB l (j+1),aA l,((j+1+1:Nat):Int),false,encS nt'):=by simp only[M.dN,M.og,pW,aJ,aW,jQ,ah,bne,h6,zaZ,XB hl h2]
        rw[hnm,ah] at hb;rw[bI hb,nameP,h6];exact in2 hl (n1+1) (.mk 13 0 (xB l (j+1)) [] L,false) (j+1+1) nt' _ ak ak (yU _ _)
end
def ri(hl:l.length<=1048576):∀N n,n<=N->∀m,4 * n+30<=m->RI l n m:=by
 intro N;induction N with
 |zero=>intro n hn m hm;obtain rfl:n=0:=ak;exact⟨λ_ _ _ _ _ _=>by rw[ex];trivial,λ_ _ _ _ _ _=>by rw[ex];trivial,λ_ _ _ _ _ _=>by rw[ex];trivial,λ_ _ _ _ _ _=>by rw[ex];trivial,λ_ _ _ _ _ _=>by rw[ex];trivial,λ_ _ _ _ _ _=>by rw[ex];trivial,λ_ _ _ _ _ _=>by rw[ex];trivial,λ_ _ _ _ _ _=>by rw[ex];trivial,λ_ _ _ _ _ _=>by rw[ex];trivial,λ_ _ _ _ _ _=>by rw[ex];trivial,λ_ _ _ _ _ _=>by rw[ex];trivial,λ_ _ _ _ _ _=>by rw[ex];trivial,λ_ _ _ _ _ _=>by rw[ex];trivial,λ_ _ _ _ _ _=>by rw[ex];trivial,λ_ _ _ _ _ _=>by rw[ex];trivial,λ_ _ _ _=>by rw[I8];trivial,λ_ _ _ _ _ _=>by rw[Po];trivial⟩
 |succ N ih=>
  intro n hn m hm;cases n with
  |zero=>exact ih 0 ak m hm
  |succ n=>
   cases m with
   |zero=>omega
   |succ m=>
    have H:∀n',n'<=n->∀m',4 * n'+30<=m'->RI l n' m':=λn' h=>ih n' ak
    exact⟨aTV hl H hm,aTW hl H hm,aTX hl H hm,aTY hl H hm,aT3 hl H hm,aT1 hl H hm,aT2 hl H hm,aTZ hl H hm,aT0 hl H hm,aGN hl H hm,aGO hl H hm,aGP hl H hm,aGQ hl H hm,aGR hl H hm,aGU hl H hm,aGT hl H hm,aGS hl H hm⟩
def RI.of(hl:l.length<=1048576)(n:Nat){m:Nat}(hm:4 * n+30<=m):RI l n m:=ri hl n n (zba _) m hm
variable {l:List Tk}
def AP.lim{o o':Option TP}{p:PR Xp}(h:AP l o p)(hof:∀r,o=some r->o'=some r):AP l o' p:=by
 cases p with
 |ok x j nt=>obtain⟨fl,ks,h1,h2⟩:=h;exact⟨fl,ks,h1,hof _ h2⟩
 |bad j=>obtain⟨k,op,x,y,fl,ks,tg,nt,h1,h2⟩:=h;exact⟨k,op,x,y,fl,ks,tg,nt,h1,hof _ h2⟩
 |out=>trivial
def ayp(w:Bool)(t:Tn):dG .i64 (t.row w) 0=some t.kind/\dG .i64 (t.row w) 1=some t.op/\cStr (t.row w) 2=some t.text/\cStr (t.row w) 3=some t.other/\cSl 5 (t.row w) 4=some (iV w t.kids):=by rw[arp];exact⟨rfl,rfl,rfl,rfl,rfl⟩
def alg{w:Bool}{ks:List Tn}{j:Nat}{t:Tn}(h:ks[j]? =some t):(iV w ks)[j]? =some (t.row w):=by rw[Wj,List.getElem?_map,h];rfl
def asV(w:Bool):∀(f:Nat) (t:Tn) (a b:Int) (c d:aI),t.size<=f->t.size<=1048576->M.lF f a b c d (iV w t.kids)=some (t.size:Int)
 |0,t,_,_,_,_,hf,_=>by have:=t.size_pos;omega
 |f+1,.mk k op x y ks,a,b,c,d,hf,hs=>by
  rw[Tn.size] at hf hs;have hkl:=zW ks;simp only[M.lF,M.ER,Tn.kids,KE];have hloop:=yg (b:=M.Em (M.lF f) (iV w ks) (ks.length:Int)) (t:=(((1+sizes ks:Nat):Int),(ks.length:Int))) (λj=>(((1+sizes (ks.take j):Nat):Int),(j:Int))) ks.length
   (by
    intro j hj;obtain⟨t,ht⟩:∃t,ks[j]? =some t:=⟨ks[j],by simp⟩
    have hst:=Qh ht;obtain⟨r0,r1,r2,r3,r4⟩:=ayp w t;have hrec:=asV w f t t.kind t.op t.text t.other ak ak;simp only[I7,M.Em,M.zf,bK,alg ht,ah,r0,r1,r2,r3,r4,hrec];rw[zdt ak,aJ,aK ak ak,aK ak ak,List.take_add_one,ht,Option.toList_some,sizes1];congr 3;omega)
   (by simp only[I7,M.Em,M.zf];rw[rF ak,aW,List.take_length]) 0 (Nat.zero_le _)
  have Qg:M.II (M.lF f) (iV w ks) (ks.length:Int) (1,0)=_:=hloop;rw[Qg,ah,Tn.size,Nat.add_comm]
def dF:Nat->Tn->Int
 |0,_=>0
 |f+1,t=>mx 0 (t.kids.map (dF f))+1
def apZ:∀f t,0<=dF f t/\dF f t<=f
 |0,t=>by simp[dF]
 |f+1,t=>by have:=acT (f:Int) (t.kids.map (dF f)) 0 ak (λx hx=>by obtain⟨k,_,rfl⟩:=List.mem_map.1 hx;exact(apZ f k).2);rw[dF];omega
def ap0(w:Bool):∀(f:Nat) (t:Tn) (a b:Int) (c d:aI),t.size<=f->f<=1048576->M.gu f a b c d (iV w t.kids)=some (dF f t)
 |0,t,_,_,_,_,hf,_=>by have:=t.size_pos;omega
 |f+1,.mk k op x y ks,a,b,c,d,hf,hs=>by
  rw[Tn.size] at hf;have hkl:=zW ks;have hdr:=apZ (f+1) (.mk k op x y ks);simp only[M.gu,M.yB,Tn.kids,KE];have hloop:=yg (b:=M.qw (M.gu f) (iV w ks) (ks.length:Int)) (t:=(mx 0 (ks.map (dF f)),(ks.length:Int))) (λj=>(mx 0 ((ks.take j).map (dF f)),(j:Int))) ks.length
   (by
    intro j hj;obtain⟨t,ht⟩:∃t,ks[j]? =some t:=⟨ks[j],by simp⟩
    have hst:=Qh ht;obtain⟨r0,r1,r2,r3,r4⟩:=ayp w t;have hrec:=ap0 w f t t.kind t.op t.text t.other ak ak;simp only[I7,M.qw,M.qp,bK,alg ht,ah,r0,r1,r2,r3,r4,hrec];rw[zdt ak,aJ,aK ak ak,List.take_add_one,ht,Option.toList_some,List.map_append,zmc,List.map_nil,af6];rfl)
   (by simp only[I7,M.qw,M.qp];rw[rF ak,aW,List.take_length]) 0 (Nat.zero_le _)
  have Qg:M.Aw (M.gu f) (iV w ks) (ks.length:Int) (0,0)=_:=hloop;rw[Qg,ah];rw[dF] at hdr|-;simp only[Tn.kids] at hdr|-;rw[aK ak ak]
def ap1{l:List Nd}:∀(f:Nat) (t:Tn) (b:Nat),Lies l b t->dep l f (b+sizes t.kids)=dF f t
 |0,_,_,_=>rfl
 |f+1,.mk k op x y ks,b,h=>by
  rw[dep,dF];congr 2;rw[Nw (Lies.root' h)];simp only[Tn.kids];refine List.ext_getElem? λj=> ?_
  rw[List.getElem?_map,List.getElem?_map]
  by_cases hj:j<ks.length
  ·obtain⟨t,ht⟩:∃t,ks[j]? =some t:=⟨ks[j],by simp⟩
   rw[af7 ht,ht];simp only[Ht,Yf];rw[ap1 f t _ (Lies.abH h ht)]
  ·have e:(Go.Vm.ends ks b).length=ks.length:=by rw[Go.Vm.jM]
   rw[List.getElem?_eq_none ak,List.getElem?_eq_none ak];rfl
def aiY(t:Tn)(h:t.size<=400):MR (t.flat 0)=true:=by have hp:=t.size_pos;obtain⟨u,h1,h2⟩:=t.anF 0;rw[MR,uG,Wi,t.flat_length,if_pos ⟨hp,h⟩,anG];simp only[h1];rw[List.getElem?_append_right ak,h2,Nat.sub_self];rfl
def Vb(k:Int):Bool:=k==3||(k==4||(k==5||(k==6||(k==8||(k==33||(k==35||(k==51||(k==52||false))))))))
def aiZ(k:Int):M.dD k=some (Vb k)/\M.kZ k=some (Vb k):=by simp only[M.dD,M.zZ,M.kZ,M.Gu,Vb];cases k==3<;>first|exact⟨rfl,rfl⟩|(cases k==4<;>first|exact⟨rfl,rfl⟩|(cases k==5<;>first|exact⟨rfl,rfl⟩|(cases k==6<;>first|exact⟨rfl,rfl⟩|(cases k==8<;>first|exact⟨rfl,rfl⟩|(cases k==33<;>first|exact⟨rfl,rfl⟩|(cases k==35<;>first|exact⟨rfl,rfl⟩|(cases k==51<;>first|exact⟨rfl,rfl⟩|(cases k==52<;>exact⟨rfl,rfl⟩))))))))
def gd(A k7 n32 k2 n1 k5 e k58 k41:Bool):Bool:=A &&((!k7||n32) &&((!k2||n1) &&((!k5|| !e) &&((!k58||e) &&(!k41||e)))))
def n32:List Tk->Bool
 |[]=>false
 |u::_=>u.kind==32
def n1(z:Bool):List Tk->Bool
 |[]=>true
 |u::_=>u.kind==1||(z && u.kind==0)
def gT(z:Bool)(b:Int)(t:Tk)(r:List Tk):Bool:=gd (uY t.kind t.text) (t.kind==7) (n32 r) (t.kind==2) (n1 z r) (t.kind==5) (Vb b) (t.kind==58) (t.kind==41)
def Ye(z:Bool):Int->List Tk->Bool
 |_,[]=>true
 |b,t::r=>gT z b t r && Ye z t.kind r
def a1q(s:aI):uY 0 s=false:=by
 cases s with
 |nil=>rfl
 |cons c s=>rfl
def ayq:∀(l:List Tk) (b:Int),Ye true b l=Ye false b l
 |[],_=>rfl
 |t::r,b=>by
  rw[Ye,Ye,ayq r];cases r with
  |nil=>rfl
  |cons u r=>
   cases h:u.kind==0 with
   |true=>
    have e:u.kind=0:=by rwa [beq_iff_eq] at h
    have:Ye false t.kind (u::r)=false:=by rw[Ye,gT,e,a1q];rfl
    rw[this,Bool.and_false,Bool.and_false]
   |false=>rw[gT,gT,n1,n1,h];rfl
section
variable {l:List Tk} (hl:l.length<=3000) (hf:∀t,t∈l->I64 t.kind/\t.text.length<=1048576)
include hl hf
theorem auN{i:Nat}{t:Tk}(ht:l[i]? =some t)(b:Int):M.AA (aA l) (b,(i:Int))=some (bif gT false b t (l.drop (i+1)) then .inl (t.kind,((i+1:Nat):Int)) else .inr (.inl ())):=by
 have hi:=(Qm.1 ht).1;have hft:=hf t (ZF ht);have hw:i64.wrap ((i:Int)+1)=((i+1:Nat):Int):=by rw[aK ak ak];omega
 have hT:=(Nj t.kind t.text t.at_ hft.2 hft.1).1;have hE:=(aiZ b).1;simp only[M.AA,M.Az,M.jH,aX,hw];rw[zdt ak,aJ]
 by_cases h2:i+1<l.length
 ·obtain⟨u,hu⟩:∃u,l[i+1]? =some u:=⟨l[i+1],by simp[h2]⟩
  have hd:l.drop (i+1)=u::l.drop (i+2):=by rw[List.drop_eq_getElem_cons h2];rw[List.getElem?_eq_getElem h2] at hu;rw[Option.some.inj hu]
  rw[hd,gT,n32,n1,zdt ak,aJ];simp only[bK,dZ,ht,hu,Ht,ah,Qr,cT1,cT2,hT,hE,bne,aJ];cases uY t.kind t.text<;>cases t.kind==7<;>cases u.kind==32<;>cases t.kind==2<;>cases u.kind==1<;>cases t.kind==5<;>cases Vb b<;>cases t.kind==58<;>cases t.kind==41<;>rfl
 ·have hd:l.drop (i+1)=[]:=List.drop_of_length_le ak;rw[hd,gT,n32,n1,rF ak,aW];simp only[bK,dZ,ht,Ht,ah,Qr,cT1,cT2,hT,hE,bne,aW];cases uY t.kind t.text<;>cases t.kind==7<;>cases t.kind==2<;>cases t.kind==5<;>cases Vb b<;>cases t.kind==58<;>cases t.kind==41<;>rfl
theorem auO{i:Nat}{t:Tk}(ht:l[i]? =some t)(b:Int):M.Ai (aA l) (aA l) (l.length:Int) (b,(i:Int))=some (bif gT true b t (l.drop (i+1)) then .inl (t.kind,((i+1:Nat):Int)) else .inr (.inl ())):=by
 have hi:=(Qm.1 ht).1;have hft:=hf t (ZF ht);have hw:i64.wrap ((i:Int)+1)=((i+1:Nat):Int):=by rw[aK ak ak];omega
 have hT:=(Nj t.kind t.text t.at_ hft.2 hft.1).2;have hE:=(aiZ b).2;simp only[M.Ai,M.Ah,M.jE,aX,hw];rw[zdt ak,aJ];simp only[bK,dZ,ht,Ht,ah,Qr,cT1,cT2]
 by_cases h2:i+1<l.length
 ·obtain⟨u,hu⟩:∃u,l[i+1]? =some u:=⟨l[i+1],by simp[h2]⟩
  have hd:l.drop (i+1)=u::l.drop (i+2):=by rw[List.drop_eq_getElem_cons h2];rw[List.getElem?_eq_getElem h2] at hu;rw[Option.some.inj hu]
  rw[hd,gT,n32,n1,zdt ak,aJ];simp only[hu,Ht,ah,Qr,cT1,cT2,hT,hE,bne,aJ,Bool.true_and];cases uY t.kind t.text<;>cases t.kind==7<;>cases u.kind==32<;>cases t.kind==2<;>cases u.kind==1<;>cases u.kind==0<;>cases t.kind==5<;>cases Vb b<;>cases t.kind==58<;>cases t.kind==41<;>rfl
 ·have hd:l.drop (i+1)=[]:=List.drop_of_length_le ak;rw[hd,gT,n32,n1,rF ak,aW];simp only[hT,hE,ah,bne,aW];cases uY t.kind t.text<;>cases t.kind==7<;>cases t.kind==2<;>cases t.kind==5<;>cases Vb b<;>cases t.kind==58<;>cases t.kind==41<;>rfl
end
def ael{l:List Tk}{z:Bool}{B:Int×Int->Option ((Int×Int)⊕(Unit⊕(Int×Int)))}(hb:∀(i:Nat) (t:Tk) (b:Int),l[i]? =some t->B (b,(i:Int))=some (bif gT z b t (l.drop (i+1)) then .inl (t.kind,((i+1:Nat):Int)) else .inr (.inl ())))
  (he:∀b,B (b,(l.length:Int))=some (.inr (.inr (b,(l.length:Int))))):∀(n i:Nat) (b:Int),l.length - i=n->i<=l.length->∃b',dU B (b,(i:Int))=some (bif Ye z b (l.drop i) then .inr (b',(l.length:Int)) else .inl ())
 |0,i,b,hn,hi=>by obtain rfl:i=l.length:=ak;rw[List.drop_length,Ye];exact⟨b,aQ (he b)⟩
 |n+1,i,b,hn,hi=>by
  have h2:i<l.length:=ak;obtain⟨t,ht⟩:∃t,l[i]? =some t:=⟨l[i],by simp[h2]⟩
  have hd:l.drop i=t::l.drop (i+1):=by rw[List.drop_eq_getElem_cons h2];rw[List.getElem?_eq_getElem h2] at ht;rw[Option.some.inj ht]
  have h:=hb i t b ht;rw[hd,Ye];cases hg:gT z b t (l.drop (i+1)) with
  |false=>rw[hg,aW] at h;exact⟨0,aQ h⟩
  |true=>rw[hg,aJ] at h;obtain⟨b',h'⟩:=ael hb he n (i+1) t.kind ak ak;exact⟨b',by rw[bI h,h',Bool.true_and]⟩
def KT(l:List Tk):Bool:=decide (l.length<=3000) && Ye false 0 l
def ZA(l:List Tk)(hl:l.length<=1048576)(hf:∀t,t∈l->I64 t.kind/\t.text.length<=1048576):M.um (aA l)=some (KT l)/\M.zC (aA l)=some (KT l):=by
 simp only[M.um,M.L6,M.zC,M.LY,aX,KT]
 by_cases h3:l.length<=3000
 ·rw[rF ak,aW,aW,zdt h3,Bool.true_and];obtain⟨b1,h1⟩:=ael (l:=l) (z:=false) (B:=M.AA (aA l)) (λi t b ht=>auN h3 hf ht b) (λb=>by simp only[M.AA,M.Az,M.jH,aX];rw[rF ak,aW]) l.length 0 0 ak (Nat.zero_le _);obtain⟨b2,h2⟩:=ael (l:=l) (z:=true) (B:=M.Ai (aA l) (aA l) (l.length:Int)) (λi t b ht=>auO h3 hf ht b) (λb=>by simp only[M.Ai,M.Ah,M.jE];rw[rF ak,aW]) l.length 0 0 ak (Nat.zero_le _);rw[x9,List.drop_zero] at h1 h2;rw[ayq] at h2;rw[M.Kv,M.Kq,h1,h2];cases Ye false 0 l<;>exact⟨rfl,rfl⟩
 ·rw[zdt ak,aJ,aJ,rF h3];exact⟨rfl,rfl⟩
def ap2{z:Bool}:∀(l:List Tk) (b:Int),Ye z b l=true->∀t,t∈l->uY t.kind t.text=true
 |[],_,_,t,h=>by cases h
 |u::r,b,h,t,ht=>by
  rw[Ye,wo] at h;rcases List.mem_cons.1 ht with rfl|ht
  ·have:=h.1;rw[gT,gd,wo] at this;exact this.1
  ·exact ap2 r _ h.2 t ht
def UL(k:Int):Bool:=k==32||(k==34||k==30)
def WM(k:Int):Bool:=k==33||(k==35||k==31)
def arI(k:Int):M.iw k=some (UL k)/\M.yM k=some (UL k):=by simp only[M.iw,M.Ju,M.yM,M.Om,UL];cases k==32<;>first|exact⟨rfl,rfl⟩|(cases k==34<;>exact⟨rfl,rfl⟩)
def arJ(k:Int):M.gG k=some (WM k)/\M.yN k=some (WM k):=by simp only[M.gG,M.Hf,M.yN,M.Oo,WM];cases k==33<;>first|exact⟨rfl,rfl⟩|(cases k==35<;>exact⟨rfl,rfl⟩)
def ac3{k:Int}(h:UL k=true):WM k=false:=by rw[UL] at h;simp only[Bool.or_eq_true,beq_iff_eq] at h;rcases h with e|e|e<;>rw[e]<;>rfl
def nst(d k:Int):Int:=bif UL k then d+1 else bif WM k then(bif decide (d - 1<0) then 0 else d - 1) else d
def XV:Int->Nat->List Tk->Option Nat
 |_,_,[]=>none
 |d,i,t::r=>bif decide (nst d t.kind>40) then some i else XV (nst d t.kind) (i+1) r
def aEw{d k:Int}(h:UL k=true):nst d k=d+1:=by rw[nst,h];rfl
def aEx{d k:Int}(h:UL k=false)(h2:WM k=true):nst d k=(bif decide (d - 1<0) then 0 else d - 1):=by rw[nst,h,h2];rfl
def aEy{d k:Int}(h:UL k=false)(h2:WM k=false):nst d k=d:=by rw[nst,h,h2];rfl
def auP{d k:Int}(h0:0<=d)(h1:d<=40):0<=nst d k/\nst d k<=41:=by
 rw[nst];cases UL k<;>cases WM k<;>simp only[aJ,aW]
 ·omega
 ·cases h:decide (d - 1<0)<;>simp only[decide_eq_true_eq,decide_eq_false_iff_not] at h<;>simp only[aJ,aW]<;>omega
 ·omega
 ·omega
section
variable {l:List Tk} (hl:l.length<=3000)
include hl
theorem auQ{i:Nat}{t:Tk}(ht:l[i]? =some t){d:Int}(h0:0<=d)(h1:d<=40):M.EU (aA l) (d,(i:Int))=some (bif decide (nst d t.kind>40) then .inr (.inl (i:Int)) else .inl (nst d t.kind,((i+1:Nat):Int))):=by
 have hi:=(Qm.1 ht).1;have hw:i64.wrap ((i:Int)+1)=((i+1:Nat):Int):=by rw[aK ak ak];omega
 have wa:i64.wrap (d+1)=d+1:=aK ak ak;have wb:i64.wrap (d - 1)=d - 1:=aK ak ak;have hm:(bif decide (0<d - 1) then d - 1 else 0)=(bif decide (d - 1<0) then 0 else d - 1):=by
  by_cases c:0<d - 1
  ·rw[zdt c,rF ak];rfl
  ·by_cases c2:d - 1<0
   ·rw[rF c,zdt c2];rfl
   ·rw[rF c,rF c2];show(0:Int)=d - 1;omega
 simp only[M.EU,M.ET,aX,hw,wa,wb,hm];rw[zdt ak,aJ];simp only[bK,dZ,ht,Ht,ah,Qr,(arI t.kind).1,(arJ t.kind).1];cases ho:UL t.kind with
 |true=>rw[aEw ho,ac3 ho];simp only[aJ,aW];cases decide (d+1>40)<;>rfl
 |false=>
  cases hc:WM t.kind with
  |true=>rw[aEx ho hc];simp only[aJ,aW];cases decide ((bif decide (d - 1<0) then 0 else d - 1)>40)<;>rfl
  |false=>rw[aEy ho hc];simp only[aJ,aW];cases decide (d>40)<;>rfl
theorem auR{i:Nat}{t:Tk}(ht:l[i]? =some t){d:Int}(h0:0<=d)(h1:d<=40):M.EP (aA l) (l.length:Int) (d,(i:Int))=some (bif decide (nst d t.kind>40) then .inr (.inl (i:Int)) else .inl (nst d t.kind,((i+1:Nat):Int))):=by
 have hi:=(Qm.1 ht).1;have hw:i64.wrap ((i:Int)+1)=((i+1:Nat):Int):=by rw[aK ak ak];omega
 have wa:i64.wrap (d+1)=d+1:=aK ak ak;have wb:i64.wrap (d - 1)=d - 1:=aK ak ak;simp only[M.EP,M.EO,hw,wa,wb];rw[zdt ak,aJ];simp only[bK,dZ,ht,Ht,ah,Qr,cT1,cT2,(arI t.kind).2,(arJ t.kind).2];cases ho:UL t.kind with
 |true=>rw[aEw ho];simp only[aJ];cases decide (d+1>40)<;>rfl
 |false=>
  cases hc:WM t.kind with
  |true=>rw[aEx ho hc];simp only[aJ,aW];cases decide ((bif decide (d - 1<0) then 0 else d - 1)>40)<;>rfl
  |false=>rw[aEy ho hc];simp only[aJ,aW];cases decide (d>40)<;>rfl
end
def aem{l:List Tk}{B:Int×Int->Option ((Int×Int)⊕(Int⊕(Int×Int)))}(hb:∀(i:Nat) (t:Tk) (d:Int),l[i]? =some t->0<=d->d<=40->B (d,(i:Int))=some (bif decide (nst d t.kind>40) then .inr (.inl (i:Int)) else .inl (nst d t.kind,((i+1:Nat):Int))))
  (he:∀d,B (d,(l.length:Int))=some (.inr (.inr (d,(l.length:Int))))):∀(n i:Nat) (d:Int),l.length - i=n->i<=l.length->0<=d->d<=40->∃d',dU B (d,(i:Int))=some (match XV d i (l.drop i) with|some p=> .inl (p:Int)|none=> .inr (d',(l.length:Int)))
 |0,i,d,hn,hi,_,_=>by obtain rfl:i=l.length:=ak;rw[List.drop_length,XV];exact⟨d,aQ (he d)⟩
 |n+1,i,d,hn,hi,h0,h1=>by
  have h2:i<l.length:=ak;obtain⟨t,ht⟩:∃t,l[i]? =some t:=⟨l[i],by simp[h2]⟩
  have hd:l.drop i=t::l.drop (i+1):=by rw[List.drop_eq_getElem_cons h2];rw[List.getElem?_eq_getElem h2] at ht;rw[Option.some.inj ht]
  have h:=hb i t d ht h0 h1;have hr:=auP (k:=t.kind) h0 h1;rw[hd,XV]
  by_cases hg:nst d t.kind>40
  ·rw[zdt hg,aJ] at h|-;exact⟨0,aQ h⟩
  ·rw[rF hg,aW] at h|-;obtain⟨d',h'⟩:=aem hb he n (i+1) (nst d t.kind) ak ak hr.1 ak;exact⟨d',by rw[bI h,h']⟩
def Np(l:List Tk):Int:=match XV 0 0 l with
 |some p=>p
 |none=> -1
def aen(l:List Tk)(hl:l.length<=3000):M.zD (aA l)=some (Np l)/\M.FY (aA l)=some (Np l):=by obtain⟨b1,h1⟩:=aem (l:=l) (B:=M.EU (aA l)) (λi t d ht h0 h1=>auQ hl ht h0 h1) (λb=>by simp only[M.EU,M.ET,aX];rw[rF ak,aW]) l.length 0 0 ak (Nat.zero_le _) (by decide) (by decide);obtain⟨b2,h2⟩:=aem (l:=l) (B:=M.EP (aA l) (l.length:Int)) (λi t d ht h0 h1=>auR hl ht h0 h1) (λb=>by simp only[M.EP,M.EO];rw[rF ak,aW]) l.length 0 0 ak (Nat.zero_le _) (by decide) (by decide);rw[x9,List.drop_zero] at h1 h2;simp only[M.zD,M.QX,M.FY,M.QW,aX];rw[M.Oy,M.Oq,h1,h2,Np];cases XV 0 0 l<;>exact⟨rfl,rfl⟩
def ap3(l:List Tk)(hl:l.length<=3000)(j:Nat):∃p,M.xk (aA l) (j:Int)=some p/\∀k,M.lS (aA l) (j:Int) k=some (k,p):=by
 simp only[M.xk,M.Ot,M.lS,M.L8,aX]
 by_cases h:j<l.length
 ·obtain⟨t,ht⟩:∃t,l[j]? =some t:=⟨l[j],by simp[h]⟩
  rw[zdt ak,aJ];simp only[aJ,bK,dZ,ht,Ht,ah,cT2];exact⟨_,rfl,λ_=>rfl⟩
 ·rw[rF ak,aW];simp only[aW];cases l with
  |nil=>exact⟨0,rfl,λ_=>rfl⟩
  |cons t0 l0=>
   have e:(((t0::l0).length:Int)==0)=false:=by rw[nY,ZE];omega
   have hw:i64.wrap (((t0::l0).length:Int) - 1)=(l0.length:Int):=by rw[aK ak ak,ZE];omega
   obtain⟨t,ht⟩:∃t,(t0::l0)[l0.length]? =some t:=⟨(t0::l0)[l0.length],by simp⟩
   rw[e,hw];simp only[aW,bK,dZ,ht,Ht,ah,Qr,cT1,cT2];exact⟨_,rfl,λ_=>rfl⟩
end Go.Proofs.YthmchnpcplgciaaGreatDoor
namespace Go.Proofs.YthmchnpcplgciaaGreatDoor
open Go Go.Vm
variable {l:List Tk}
def SH(k:Int):Int:=bif UL k then 1 else bif WM k then -1 else 0
def Sd(l:List Tk):Nat->Int
 |0=>0
 |k+1=>Sd l k+SH (aO l k)
structure Bal(l:List Tk)(i j:Nat):Prop where
 le:i<=j
 ge:∀k,i<=k->k<=j->Sd l i<=Sd l k
 eq:Sd l j=Sd l i
def Bal.app{i m j:Nat}(h:Bal l i m)(h':Bal l m j):Bal l i j:=
 ⟨by have:=h.le;have:=h'.le;omega,λk h1 h2=>by
  by_cases hk:k<=m
  ·exact h.ge k h1 hk
  ·have:=h'.ge k ak h2;rw[h.eq] at this;exact this,by rw[h'.eq,h.eq]⟩
def Bal.nil(i:Nat):Bal l i i:=⟨zba _,λk h1 h2=>by rw[show k=i by omega];exact Int.le_refl _,rfl⟩
def Bal.one{i:Nat}(h:SH (aO l i)=0):Bal l i (i+1):=by
 have e:Sd l (i+1)=Sd l i:=by rw[Sd,h,Int.add_zero]
 refine⟨ak,λk h1 h2=> ?_,e⟩;have:k=i\/k=i+1:=ak;rcases this with rfl|rfl
 ·exact Int.le_refl _
 ·rw[e];exact Int.le_refl _
def Bal.wrap{i j:Nat}(h1:SH (aO l i)=1)(h:Bal l (i+1) j)(h2:SH (aO l j)= -1):Bal l i (j+1)/\∀k,i<k->k<=j->Sd l i<Sd l k:=by
 have e1:Sd l (i+1)=Sd l i+1:=by rw[Sd,h1]
 have e2:Sd l (j+1)=Sd l i:=by rw[Sd,h2,h.eq,e1];omega
 have hin:∀k,i<k->k<=j->Sd l i<Sd l k:=λk a b=>by have:=h.ge k ak b;omega
 refine⟨⟨by have:=h.le;omega,λk a b=> ?_,e2⟩,hin⟩
 by_cases h3:k=i
 ·rw[h3];exact Int.le_refl _
 by_cases h4:k=j+1
 ·rw[h4,e2];exact Int.le_refl _
 ·have:=hin k ak ak;omega
def Bal.run{i i':Nat}(h:pst l i i'):Bal l i i':=by
 obtain⟨hle,h⟩:=h;obtain⟨d,rfl⟩:∃d,i'=i+d:=⟨i' - i,ak⟩
 clear hle;induction d with
 |zero=>exact .nil i
 |succ d ih=>refine(ih λk h1 h2=>h k h1 ak).app (.one (i:=i+d) ?_);rw[h (i+d) ak ak];rfl
def aeo{k:Int}(h:(1<=k/\k<=29)\/36<=k):SH k=0:=by
 have h1:UL k=false:=by unfold UL;rw[nY.2 (show k≠32 by omega),nY.2 (show k≠34 by omega),nY.2 (show k≠30 by omega)];rfl
 have h2:WM k=false:=by unfold WM;rw[nY.2 (show k≠33 by omega),nY.2 (show k≠35 by omega),nY.2 (show k≠31 by omega)];rfl
 rw[SH,h1,h2];rfl
def amY{k:Int}(h:dP k≠0):36<=k:=by
 by_cases hk:36<=k
 ·exact hk
 ·exfalso;apply h;unfold dP;rw[nY.2 (show k≠44 by omega),nY.2 (show k≠45 by omega),nY.2 (show k≠67 by omega),nY.2 (show k≠46 by omega),nY.2 (show k≠63 by omega),nY.2 (show k≠48 by omega),nY.2 (show k≠47 by omega),nY.2 (show k≠50 by omega),nY.2 (show k≠62 by omega),nY.2 (show k≠49 by omega),nY.2 (show k≠99 by omega),nY.2 (show k≠55 by omega),nY.2 (show k≠56 by omega),nY.2 (show k≠57 by omega),nY.2 (show k≠58 by omega),nY.2 (show k≠59 by omega),nY.2 (show k≠60 by omega)];rfl
def amZ{k:Int}(h:F7 k=true):38<=k:=by unfold F7 at h;rw[Bool.or_eq_true,wo,decide_eq_true_eq,decide_eq_true_eq,beq_iff_eq] at h;omega
def Vd{k:Int}(h:isStep k=true):k=51\/k=52:=by
 unfold isStep at h
 rwa [Bool.or_eq_true,beq_iff_eq,beq_iff_eq] at h
def abN{j j':Nat}(h:if aO l j=44\/aO l j=45 then pst l (j+1) j' else j'=j+1):pst l (j+1) j':=by
 by_cases hk:aO l j=44\/aO l j=45
 ·rwa [if_pos hk] at h
 ·rw[if_neg hk] at h;subst h;exact⟨zba _,λk a b=>by omega⟩
def zi{g:Tg}{i j:Nat}(h:Dx l g i j):i<j:=by
 induction h with
 |par _ _ _ ih=>omega
 |node _ _ ih=>exact ih
 |one _ ih=>exact ih
 |cons _ _ hp _ ih1 ih2=>have:=hp.1;omega
 |name _=>omega
 |leaf _ _=>omega
 |index _ _ _ _ _ ih=>omega
 |call _ _ _ _ _ _ ih=>omega
 |Lm _ _ _ _=>omega
 |len _ _ _=>omega
 |field _ _ ih=>omega
 |pre _ _ _ ih=>omega
 |post _ _ _ ih=>omega
 |una _ _ ih=>omega
 |in1 _ _ _ ih=>omega
 |inN _ _ _ _ _ _ _ ih=>omega
 |cond _ _ _ _ _ ih1 ih2 ih3=>omega
 |asg _ _ _ _ ih1 ih2=>omega
 |bin _ _ _ hj _ ih1 ih2=>have:=(abN hj).1;omega
 |cat _ _ ih1 ih2=>omega
def FC{g:Tg}{i j:Nat}(h:Dx l g i j):Bal l i j:=by
 have o32:∀{i},aO l i=32->SH (aO l i)=1:=λh=>by rw[h];rfl
 have c33:∀{i},aO l i=33->SH (aO l i)= -1:=λh=>by rw[h];rfl
 have z:∀{i},((1<=aO l i/\aO l i<=29)\/36<=aO l i)->Bal l i (i+1):=λh=> .one (aeo h)
 induction h with
 |par h1 _ h2 ih=>exact(Bal.wrap (o32 h1) ih (c33 h2)).1
 |node _ _ ih=>exact ih
 |one _ ih=>exact ih
 |cons _ hk hp _ ih1 ih2=>exact((ih1.app (z ak)).app (.run hp)).app ih2
 |name hk=>exact z ak
 |leaf h3 hk=>exact z ak
 |index hk ho _ _ hc ih=>exact(z ak).app (Bal.wrap (by rw[ho];rfl) ih (by rw[hc];rfl)).1
 |call h7 hk ho _ _ hc ih=>exact(z ak).app (Bal.wrap (o32 ho) ih (c33 hc)).1
 |Lm h7 hk ho hc=>exact(z ak).app (Bal.wrap (o32 ho) (.nil _) (c33 hc)).1
 |len hk _ _=>exact z ak
 |field hk _ ih=>exact(z ak).app ih
 |pre hk _ _ ih=>exact(z (by have:=Vd hk;omega)).app ih
 |post hk _ _ ih=>exact ih.app (z (by have:=Vd hk;omega))
 |una hk _ ih=>exact(z ak).app ih
 |in1 _ Zv h6 ih=>exact(ih.app (z ak)).app (z ak)
 |inN ho _ _ _ hc Zv hn ih=>exact((Bal.wrap (o32 ho) ih (c33 hc)).1.app (z ak)).app (z (i:=_+2) ak)
 |cond _ k1 _ k2 _ ih1 ih2 ih3=>exact(((ih1.app (z ak)).app ih2).app (z ak)).app ih3
 |asg _ _ ha _ ih1 ih2=>exact(ih1.app (z (by have:=amZ ha;omega))).app ih2
 |bin h0 _ _ hj _ ih1 ih2=>exact((ih1.app (z (by have:=amY h0;omega))).app (.run (abN hj))).app ih2
 |cat _ _ ih1 ih2=>exact ih1.app ih2
def ac4(k:Int):Bool:=decide (k>=3) && decide (k<=8)
def Oc(l:List Tk):Nat->Nat
 |0=>0
 |k+1=>Oc l k+(bif ac4 (aO l k) then 1 else 0)
def am0(k:Int):Nat:=bif decide (1<=k) && decide (k<=5)||(k==7||(k==8||k==13)) then 1 else 0
mutual
def zT:Tn->Nat
 | .mk k _ _ _ ks=>am0 k+TF ks
def TF:List Tn->Nat
 |[]=>0
 |t::ts=>zT t+TF ts
end
def Oc1{i:Nat}(h:3<=aO l i/\aO l i<=8):Oc l (i+1)=Oc l i+1:=by rw[Oc,ac4,zdt (show aO l i>=3 by omega),zdt (show aO l i<=8 by omega)];rfl
def Oc0{i:Nat}(h:aO l i<3\/8<aO l i):Oc l (i+1)=Oc l i:=by
 rw[Oc,ac4];rcases h with h|h
 ·rw[rF (show¬aO l i>=3 by omega),Bool.false_and];rfl
 ·rw[rF (show¬aO l i<=8 by omega),Bool.and_false];rfl
def ayr{i i':Nat}(h:pst l i i'):Oc l i'=Oc l i:=by
 obtain⟨hle,h⟩:=h;obtain⟨d,rfl⟩:∃d,i'=i+d:=⟨i' - i,ak⟩
 clear hle;induction d with
 |zero=>rfl
 |succ d ih=>rw[show i+(d+1)=i+d+1 from rfl,Oc0 (by rw[h (i+d) ak ak];omega),ih λk h1 h2=>h k h1 ak]
def a1r:Tg->Nat
 | .dv _ t _=>zT t
 | .nv t _=>zT t
 | .ls ks=>TF ks
def aGV{k:Int}(h:(1<=k/\k<=5)\/k=7\/k=8\/k=13):am0 k=1:=by
 unfold am0;rcases h with h|h|h|h
 ·rw[zdt h.1,zdt h.2];rfl
 all_goals subst h;rfl
def aGW{g:Tg}{i j:Nat}(h:Dx l g i j):Oc l j=Oc l i+a1r g:=by
 induction h with
 |par h1 _ h2 ih=>rw[Oc0 ak,ih,Oc0 ak];rfl
 |node _ _ ih=>exact ih
 |one _ ih=>rw[ih];rfl
 |cons _ hk hp _ ih1 ih2=>rw[ih2,ayr hp,Oc0 ak,ih1];show _+zT _+TF _=_+(zT _+TF _);omega
 |name hk=>rw[Oc1 ak];rfl
 |leaf h3 hk=>rw[Oc1 ak];show _+1=_+(am0 _+TF []);rw[aGV ak];rfl
 |index hk ho _ _ hc ih=>rw[Oc0 ak,ih,Oc0 (i:=_+1) ak,Oc1 ak];show _=_+(1+TF _);show _+1+TF _=_;omega
 |call h7 hk ho _ _ hc ih=>rw[Oc0 ak,ih,Oc0 (i:=_+1) ak,Oc1 ak];show _=_+(am0 _+TF _);rw[aGV ak];show _+1+TF _=_;omega
 |Lm h7 hk ho hc=>rw[Oc0 (i:=_+2) ak,Oc0 (i:=_+1) ak,Oc1 ak];show _=_+(am0 _+TF []);rw[aGV ak];rfl
 |len hk _ _=>rw[Oc1 ak];rfl
 |field hk _ ih=>rw[ih,Oc0 ak];show _+zT _=_+(0+(zT _+0));omega
 |pre hk _ _ ih=>rw[ih,Oc0 (by have:=Vd hk;omega)];show _+zT _=_+(0+(zT _+0));omega
 |post hk _ _ ih=>rw[Oc0 (by have:=Vd hk;omega),ih];show _+zT _=_+(0+(zT _+0));omega
 |una hk _ ih=>rw[ih,Oc0 ak];show _+zT _=_+(0+(zT _+0));omega
 |in1 _ Zv h6 ih=>rw[Oc1 (i:=_+1) ak,Oc0 ak,ih];show _+zT _+1=_+(1+(zT _+0));omega
 |inN ho _ _ _ hc Zv hn ih=>rw[Oc1 (i:=_+2) ak,Oc0 (i:=_+1) ak,Oc0 ak,ih,Oc0 ak];show _+TF _+1=_+(1+TF _);omega
 |cond _ k1 _ k2 _ ih1 ih2 ih3=>rw[ih3,Oc0 ak,ih2,Oc0 ak,ih1];show _+zT _+zT _+zT _=_+(0+(zT _+(zT _+(zT _+0))));omega
 |asg _ _ ha _ ih1 ih2=>rw[ih2,Oc0 (by have:=amZ ha;omega),ih1];show _+zT _+zT _=_+(0+(zT _+(zT _+0)));omega
 |bin h0 _ _ hj _ ih1 ih2=>rw[ih2,ayr (abN hj),Oc0 (by have:=amY h0;omega),ih1];show _+zT _+zT _=_+(0+(zT _+(zT _+0)));omega
 |cat _ _ ih1 ih2=>rw[ih2,ih1];show _+zT _+zT _=_+(0+(zT _+(zT _+0)));omega
def asW{g:Tg}{i j:Nat}(h:Dx l g i j):aO l (j - 1)≠7:=by
 induction h with
 |par _ _ hc ih=>rw[Nat.add_sub_cancel];omega
 |node _ _ ih=>exact ih
 |one _ ih=>exact ih
 |cons _ _ _ _ ih1 ih2=>exact ih2
 |name hk=>rw[Nat.add_sub_cancel];omega
 |leaf _ _=>rw[Nat.add_sub_cancel];omega
 |index _ _ _ _ hc ih=>rw[Nat.add_sub_cancel];omega
 |call _ _ _ _ _ hc ih=>rw[Nat.add_sub_cancel];omega
 |Lm _ _ _ hc=>show aO l (_+2)≠7;omega
 |len _ _ _=>rw[Nat.add_sub_cancel];omega
 |field _ _ ih=>exact ih
 |pre _ _ _ ih=>exact ih
 |post hk _ _ ih=>rw[Nat.add_sub_cancel];have:=Vd hk;omega
 |una _ _ ih=>exact ih
 |in1 _ _ h6 ih=>show aO l (_+1)≠7;omega
 |inN _ _ _ _ _ _ hn ih=>show aO l (_+2)≠7;omega
 |cond _ _ _ _ _ ih1 ih2 ih3=>exact ih3
 |asg _ _ _ _ ih1 ih2=>exact ih2
 |bin _ _ _ _ _ ih1 ih2=>exact ih2
 |cat _ _ ih1 ih2=>exact ih2
end Go.Proofs.YthmchnpcplgciaaGreatDoor
namespace Go.Proofs.YthmchnpcplgciaaGreatDoor
open Go Go.Vm
variable {l:List Tk}
def NB(l:List Tk)(kd:Int)(i j:Nat):Prop:=∀k,i<=k->k<j->aO l k=kd->Sd l k≠Sd l i
def NB.app{kd:Int}{i m j:Nat}(h:NB l kd i m)(hb:Bal l i m)(h':NB l kd m j):NB l kd i j:=λk h1 h2 h3=>by
 by_cases hk:k<m
 ·exact h k h1 hk h3
 ·have:=h' k ak h2 h3;rw[hb.eq] at this;exact this
def NB.one{kd:Int}{i:Nat}(h:aO l i≠kd):NB l kd i (i+1):=λk h1 h2 h3=>absurd (show aO l i=kd by rw[<-show k=i by omega];exact h3) h
def NB.run{kd:Int}{i j:Nat}(h:pst l i j)(hk:kd≠1):NB l kd i j:=λk h1 h2 h3=>absurd ((h.2 k h1 h2).symm.trans h3).symm hk
def NB.wrap{kd:Int}{i j:Nat}(h0:aO l i≠kd)(h1:SH (aO l i)=1)(h:Bal l (i+1) j)(h2:SH (aO l j)= -1):NB l kd i (j+1):=λk a b c=>by
 by_cases hk:k=i
 ·rw[hk] at c;exact absurd c h0
 ·have:=(Bal.wrap h1 h h2).2 k ak ak;omega
def Nb(l:List Tk)(a b:Bool)(i j:Nat):Prop:=(a=true->NB l 24 i j)/\(b=true->NB l 62 i j)
def Nb.app{a b:Bool}{i m j:Nat}(h:Nb l a b i m)(hb:Bal l i m)(h':Nb l a b m j):Nb l a b i j:=⟨λe=>(h.1 e).app hb (h'.1 e),λe=>(h.2 e).app hb (h'.2 e)⟩
def Nb.one{a b:Bool}{i:Nat}(h:aO l i≠24)(h':b=true->aO l i≠62):Nb l a b i (i+1):=⟨λ_=> .one h,λe=> .one (h' e)⟩
def Nb.run{a b:Bool}{i j:Nat}(h:pst l i j):Nb l a b i j:=⟨λ_=> .run h (by decide),λ_=> .run h (by decide)⟩
def Nb.wrap{a b:Bool}{i j:Nat}(h0:aO l i=32\/aO l i=34)(h:Bal l (i+1) j)(h2:aO l j=33\/aO l j=35):Nb l a b i (j+1):=by
 have h1:SH (aO l i)=1:=by rcases h0 with h|h<;>rw[h]<;>rfl
 have h3:SH (aO l j)= -1:=by rcases h2 with h|h<;>rw[h]<;>rfl
 exact⟨λ_=> .wrap ak h1 h h3,λ_=> .wrap ak h1 h h3⟩
def Nbg(l:List Tk):Tg->Nat->Nat->Prop
 | .dv h t p,i,j=>gY p=true->Nb l p.nN p.oC i j
 | .nv t p,i,j=>gY p=true->Fl t.kind t.op p->Nb l p.nN p.oC i j
 | .ls _,_,_=>True
def asX{k op:Int}{n j:Nat}{p:Ps}(hp:gY p=true)(hj:j<n)(h0:lvl k op≠0)(h15:lvl k op≠15)(hm:k=13->n<=1):(cO k op n j p).nN=p.nN/\(cO k op n j p).oC=p.oC:=by rw[FB hp hj h0 h15 hm];exact⟨rfl,rfl⟩
def d32{i:Nat}(h:aO l i=32):SH (aO l i)=1:=by rw[h];rfl
def d33{i:Nat}(h:aO l i=33):SH (aO l i)= -1:=by rw[h];rfl
def aGX{k:Int}(h:F7 k=true):k≠62:=λe=>by rw[e] at h;cases h
def ays{k:Int}:lvl 12 k≠15:=λe=>by have e:dP k=15:=e;unfold dP at e;revert e;cases k==44<;>cases k==45<;>cases(k==67||k==46)<;>cases(k==63||(k==48||(k==47||(k==50||(k==62||k==49)))))<;>cases k==99<;>cases(k==55||k==56)<;>cases(k==57||(k==58||k==59))<;>cases k==60<;>(intro e;cases e)
def aEz{g:Tg}{i j:Nat}(h:Dx l g i j):Nbg l g i j:=by
 have kd:∀{h:Bool} {u:Tn} {p:Ps} {k op:Int} {n m:Nat} {i j:Nat},Nbg l (.dv h u (cO k op n m p)) i j->gY p=true->m<n->lvl k op≠0->lvl k op≠15->(k=13->n<=1)->Nb l p.nN p.oC i j:=λih hp hj h0 h15 hm=>by have:=ih (jJ hp hj h0);rw[(asX hp hj h0 h15 hm).1,(asX hp hj h0 h15 hm).2] at this;exact this
 have kn:∀{u:Tn} {p:Ps} {k op:Int} {n m:Nat} {i j:Nat},Nbg l (.nv u (cO k op n m p)) i j->Ee u.kind=true->gY p=true->m<n->lvl k op≠0->lvl k op≠15->(k=13->n<=1)->Nb l p.nN p.oC i j:=λih hl hp hj h0 h15 hm=>by have:=ih (jJ hp hj h0) (ale hl);rw[(asX hp hj h0 h15 hm).1,(asX hp hj h0 h15 hm).2] at this;exact this
 induction h with
 |par h1 hd h2 ih=>exact λ_=> .wrap (.inl h1) (FC hd) (.inl h2)
 |node hf _ ih=>exact λhp=>ih hp (acX hf).1
 |one _ _=>trivial
 |cons _ _ _ _ _ _=>trivial
 |name hk=>exact λ_ _=> .one ak λ_=>by omega
 |leaf h3 hk=>exact λ_ _=> .one ak λ_=>by omega
 |index hk ho hd _ hc ih=>exact λ_ _=>(Nb.one ak λ_=>by omega).app (.one (aeo ak)) (.wrap (.inr ho) (FC hd) (.inr hc))
 |call h7 hk ho hd _ hc ih=>exact λ_ _=>(Nb.one ak λ_=>by omega).app (.one (aeo ak)) (.wrap (.inl ho) (FC hd) (.inl hc))
 |Lm h7 hk ho hc=>exact λ_ _=>(Nb.one ak λ_=>by omega).app (.one (aeo ak)) (.wrap (.inl ho) (.nil _) (.inl hc))
 |len hk _ _=>exact λ_ _=> .one ak λ_=>by omega
 |field hk _ ih=>exact λhp _=>(Nb.one ak λ_=>by omega).app (.one (aeo ak)) (kd ih hp ak (by decide) (by decide) (λe=>by cases e))
 |pre hk hl _ ih=>have:=Vd hk;exact λhp _=>(Nb.one ak λ_=>by omega).app (.one (aeo ak)) (kn ih hl hp ak (by show(13:Int)≠0;decide) (by show(13:Int)≠15;decide) (λe=>by cases e))
 |post hk hl hd ih=>have:=Vd hk;exact λhp _=>(kn ih hl hp ak (by show(13:Int)≠0;decide) (by show(13:Int)≠15;decide) (λe=>by cases e)).app (FC hd) (.one ak λ_=>by omega)
 |una hk _ ih=>exact λhp _=>(Nb.one ak λ_=>by omega).app (.one (aeo ak)) (kd ih hp ak (by show(11:Int)≠0;decide) (by show(11:Int)≠15;decide) (λe=>by cases e))
 |in1 hd Zv h6 ih=>intro hp hf;have hk:=kd ih hp ak (by decide) (by decide) (λ_=>zba 1);refine⟨λe=>absurd rfl (hf.in_ e),λe=> ?_⟩;exact((hk.2 e).app (FC hd) (.one ak)).app ((FC hd).app (.one (aeo ak))) (.one ak)
 |inN ho hd _ _ hc Zv hn ih=>intro hp hf;refine⟨λe=>absurd rfl (hf.in_ e),λe=> ?_⟩;have w:=(Bal.wrap (d32 ho) (FC hd) (d33 hc)).1;exact((NB.wrap ak (d32 ho) (FC hd) (d33 hc)).app w (.one ak)).app (w.app (.one (aeo ak))) (.one (i:=_+2) ak)
 |cond hd1 k1 hd2 k2 _ ih1 ih2 ih3=>intro hp hf;have a1:=kd ih1 hp ak (by decide) (by decide) (λe=>by cases e);have a2:=kd ih2 hp ak (by decide) (by decide) (λe=>by cases e);have a3:=kd ih3 hp ak (by decide) (by decide) (λe=>by cases e);have b1:=(FC hd1).app (.one (i:=_) (aeo ak));exact(((a1.app (FC hd1) (.one ak λ_=>by omega)).app b1 a2).app (b1.app (FC hd2)) (.one ak λ_=>by omega)).app ((b1.app (FC hd2)).app (.one (aeo ak))) a3
 |asg hl hd1 ha _ ih1 ih2=>intro hp hf;have h38:=amZ ha;have hne:=aGX ha;have a1:=kn ih1 hl hp ak (by show(1:Int)≠0;decide) (by show(1:Int)≠15;decide) (λe=>by cases e);have a2:=kd ih2 hp ak (by show(1:Int)≠0;decide) (by show(1:Int)≠15;decide) (λe=>by cases e);exact(a1.app (FC hd1) (.one ak λ_=>hne)).app ((FC hd1).app (.one (aeo ak))) a2
 |bin h0 ZO hd1 hj _ ih1 ih2=>intro hp hf;have h36:=amY h0;have a1:=kd ih1 hp ak (aga h0) ays (λe=>by cases e);have a2:=kd ih2 hp ak (aga h0) ays (λe=>by cases e);have b1:=(FC hd1).app (.one (aeo ak));exact((a1.app (FC hd1) (.one ak λe c=>hf.gt e ⟨rfl,c⟩)).app b1 (.run (abN hj))).app (b1.app (.run (abN hj))) a2
 |cat hd1 _ ih1 ih2=>intro hp hf;have a1:=kd ih1 hp ak (by decide) (by decide) (λe=>by cases e);have a2:=kd ih2 hp ak (by decide) (by decide) (λe=>by cases e);exact a1.app (FC hd1) a2
end Go.Proofs.YthmchnpcplgciaaGreatDoor
namespace Go.Proofs.YthmchnpcplgciaaGreatDoor
open Go Go.Vm
def arK:List Tk->Nat
 |[]=>0
 |t::r=>(bif ac4 t.kind then 1 else 0)+arK r
def afi:Int->List Tk->Bool
 |d,[]=>d==0
 |d,t::r=>bif decide (d+SH t.kind<0) then false else afi (d+SH t.kind) r
def afj(kd:Int):Int->List Tk->Bool
 |_,[]=>false
 |d,t::r=>bif t.kind==kd && d==0 then true else afj kd (d+SH t.kind) r
def alh:Int->List Tk->Bool
 |_,[]=>true
 |d,t::r=>bif d+SH t.kind==0 && !(r.isEmpty) then false else alh (d+SH t.kind) r
def ac5(s:List Tk):Bool:=decide (2<=s.length) &&(aO s 0==32 &&(aO s (s.length - 1)==33 && alh 0 s))
def aep(k:Int): -1<=SH k/\SH k<=1:=by unfold SH;cases UL k<;>cases WM k<;>decide
section
variable {s:List Tk} (hs:s.length<=3000)
include hs
theorem ayt(k:Int):M.iw k=some (UL k):=(arI k).1
theorem ayu(k:Int):M.gG k=some (WM k):=(arJ k).1
theorem ap4:M.zH (aA s)=some (arK s:Int):=by
 have hloop:=Xf (M.GH (aA s)) s (λi (w:Nat)=>((w:Int),(i:Int))) (λw t=> .inl (w+bif ac4 t.kind then 1 else 0)) (λw=>((w:Int),(s.length:Int))) (λi w=>w<=i)
  (by intro i t w hi hw;have hlt:=(Qm.1 hi).1;simp only[M.GH,M.AU,aX,bK,dZ,hi,Ht,ah,Qr,M.Gl,M.OM,tX];rw[zdt ak,aJ,aK (n:=(w:Int)+1) ak ak,aK (n:=(i:Int)+1) ak ak];show(bif ac4 t.kind then _ else _)=_;cases ac4 t.kind<;>rfl)
  (by intro i t w w' hi hw he;cases he;cases ac4 t.kind<;>simp only[aJ,aW]<;>omega)
  (by intro w hw;simp only[M.GH,M.AU,aX];rw[rF ak,aW]) 0 (zba _)
 have hf:∀(r:List Tk) (w:Nat),XM (λw t=>(.inl (w+bif ac4 t.kind then 1 else 0):Nat⊕(Int×Int))) (λw=>((w:Int),(s.length:Int))) r w=(((w+arK r:Nat):Int),(s.length:Int)):=by
  intro r;induction r with
  |nil=>intro w;rfl
  |cons t r ih=>intro w;rw[XM];simp only[ih,arK];congr 2;omega
 simp only[x9] at hloop;simp only[M.zH,M.MB,M.KA];rw[hloop,hf,ah,Nat.zero_add]
theorem aDd:M.Cb (aA s)=some (afi 0 s):=by
 have hloop:=Xf (M.IQ (aA s)) s (λi (w:Int)=>(w,(i:Int))) (λw t=>bif decide (w+SH t.kind<0) then .inr (.inl ()) else .inl (w+SH t.kind)) (λw=> .inr (w,(s.length:Int))) (λi w=>0<=w/\w<=i)
  (by
   intro i t w hi hw;have hlt:=(Qm.1 hi).1;simp only[M.IQ,M.Dp,aX,bK,dZ,hi,Ht,ah,Qr,ayt hs,ayu hs];rw[zdt ak,aJ,aK (n:=w+1) ak ak,aK (n:=w - 1) ak ak,aK (n:=(i:Int)+1) ak ak];unfold SH;cases ho:UL t.kind with
   |true=>rw[ac3 ho];simp only[aJ,aW];rw[rF ak];rfl
   |false=>
    cases hc:WM t.kind with
    |true=>simp only[aJ,aW,Int.sub_eq_add_neg];cases decide (w+ -1<0)<;>rfl
    |false=>simp only[aW,Int.add_zero];cases decide (w<0)<;>rfl)
  (by
   intro i t w w' hi hw he;have:=aep t.kind;cases hd:decide (w+SH t.kind<0) with
   |true=>rw[hd] at he;cases he
   |false=>rw[hd] at he;cases he;rw[decide_eq_false_iff_not] at hd;omega)
  (by intro w hw;simp only[M.IQ,M.Dp,aX];rw[rF ak,aW]) 0 ⟨ak,ak⟩
 have hf:∀(r:List Tk) (w:Int),(kT (XM (λw t=>(bif decide (w+SH t.kind<0) then .inr (.inl ()) else .inl (w+SH t.kind):Int⊕(Unit⊕(Int×Int)))) (λw=> .inr (w,(s.length:Int))) r w) (λ_=>some false) λu=>letE u λt=>some (t.1==0))=some (afi w r):=by
  intro r;induction r with
  |nil=>intro w;rfl
  |cons t r ih=>
   intro w;rw[XM,afi];cases decide (w+SH t.kind<0) with
   |true=>rfl
   |false=>exact ih _
 simp only[x9] at hloop;simp only[M.Cb,M.OO,M.MC];rw[hloop,ah];exact hf s 0
theorem asY{kd:Int}(h:SH kd=0):M.zL (aA s) kd=some (afj kd 0 s):=by
 have hloop:=Xf (M.OQ (aA s) kd) s (λi (w:Int)=>(w,(i:Int))) (λw t=>bif t.kind==kd && w==0 then .inr (.inl ()) else .inl (w+SH t.kind)) (λw=> .inr (w,(s.length:Int))) (λi w=> -(i:Int)<=w/\w<=i)
  (by
   intro i t w hi hw;have hlt:=(Qm.1 hi).1;simp only[M.OQ,M.JA,aX,bK,dZ,hi,Ht,ah,Qr,ayt hs,ayu hs];rw[zdt ak,aJ,aK (n:=w - 1) ak ak,aK (n:=w+1) ak ak,aK (n:=w - 1+1) ak ak,aK (n:=(i:Int)+1) ak ak];cases hk:t.kind==kd with
   |true=>
    rw[beq_iff_eq] at hk;rw[hk,h];unfold SH at h;have ho:UL kd=false:=by cases ho:UL kd with|false=>rfl|true=>rw[ho] at h;cases h
    have hc:WM kd=false:=by cases hc:WM kd with|false=>rfl|true=>rw[ho,hc] at h;cases h
    rw[ho,hc];simp only[aJ,aW,Bool.true_and,Int.add_zero];cases w==0<;>rfl
   |false=>
    simp only[aW,Bool.false_and];unfold SH;cases ho:UL t.kind with
    |true=>rw[ac3 ho];rfl
    |false=>cases hc:WM t.kind<;>simp only[aJ,aW,Int.sub_eq_add_neg,Int.add_zero]<;>rfl)
  (by
   intro i t w w' hi hw he;have:=aep t.kind;cases hd:(t.kind==kd && w==0) with
   |true=>rw[hd] at he;cases he
   |false=>rw[hd] at he;cases he;omega)
  (by intro w hw;simp only[M.OQ,M.JA,aX];rw[rF ak,aW]) 0 ⟨ak,ak⟩
 have hf:∀(r:List Tk) (w:Int),(kT (XM (λw t=>(bif t.kind==kd && w==0 then .inr (.inl ()) else .inl (w+SH t.kind):Int⊕(Unit⊕(Int×Int)))) (λw=> .inr (w,(s.length:Int))) r w) (λ_=>some true) λu=>letE u λt=>some false)=some (afj kd w r):=by
  intro r;induction r with
  |nil=>intro w;rfl
  |cons t r ih=>
   intro w;rw[XM,afj];cases(t.kind==kd && w==0) with
   |true=>rfl
   |false=>exact ih _
 simp only[x9] at hloop;simp only[M.zL,M.U6,M.TA];rw[hloop,ah];exact hf s 0
theorem am1:M.jK (aA s)=some (ac5 s):=by
 have hloop:=Xf (M.IU (aA s)) s (λi (w:Int×Nat)=>(w.1,(i:Int))) (λw t=>bif w.1+SH t.kind==0 && decide (w.2+1<s.length) then .inr (.inl ()) else .inl (w.1+SH t.kind,w.2+1)) (λw=> .inr (w.1,(s.length:Int))) (λi w=>w.2=i/\ -(i:Int)<=w.1/\w.1<=i)
  (by
   intro i t w hi hw;obtain⟨rfl,hw⟩:=hw;have hlt:=(Qm.1 hi).1;simp only[M.IU,M.Dq,aX,bK,dZ,hi,Ht,ah,Qr,ayt hs,ayu hs];rw[zdt ak,aJ,aK (n:=w.1+1) ak ak,aK (n:=w.1 - 1) ak ak,aK (n:=(w.2:Int)+1) ak ak,aK (n:=(s.length:Int) - 1) ak ak];have e:decide ((w.2:Int)<(s.length:Int) - 1)=decide (w.2+1<s.length):=by
    by_cases h:w.2+1<s.length
    ·rw[zdt h,zdt ak]
    ·rw[rF h,rF ak]
   rw[e];unfold SH;cases ho:UL t.kind with
   |true=>rw[ac3 ho];simp only[aJ,aW];cases w.1+1==0<;>cases decide (w.2+1<s.length)<;>rfl
   |false=>
    cases hc:WM t.kind with
    |true=>simp only[aJ,aW,Int.sub_eq_add_neg];cases w.1+ -1==0<;>cases decide (w.2+1<s.length)<;>rfl
    |false=>simp only[aW,Int.add_zero];cases w.1==0<;>cases decide (w.2+1<s.length)<;>rfl)
  (by
   intro i t w w' hi hw he;have:=aep t.kind;cases hd:(w.1+SH t.kind==0 && decide (w.2+1<s.length)) with
   |true=>rw[hd] at he;cases he
   |false=>rw[hd] at he;cases he;exact⟨by rw[hw.1],by simp only;omega,by simp only;omega⟩)
  (by intro w hw;simp only[M.IU,M.Dq,aX];rw[rF ak,aW]) (0,0) ⟨rfl,by simp,by simp⟩
 have hf:∀(r:List Tk) (w:Int×Nat),w.2+r.length=s.length->(kT (XM (λw t=>(bif w.1+SH t.kind==0 && decide (w.2+1<s.length) then .inr (.inl ()) else .inl (w.1+SH t.kind,w.2+1):(Int×Nat)⊕(Unit⊕(Int×Int)))) (λw=> .inr (w.1,(s.length:Int))) r w) (λ_=>some false) λu=>letE u λt=>some true)=some (alh w.1 r):=by
  intro r;induction r with
  |nil=>intro w _;rfl
  |cons t r ih=>
   intro w hw;rw[ZE] at hw;rw[XM,alh];have e:decide (w.2+1<s.length)= !(r.isEmpty):=by
    cases r with
    |nil=>rw[zln] at hw;rw[rF ak];rfl
    |cons u r=>rw[ZE] at hw;rw[zdt ak];rfl
   rw[e];cases(w.1+SH t.kind==0 && !(r.isEmpty)) with
   |true=>rfl
   |false=>exact ih (w.1+SH t.kind,w.2+1) (by simp only;omega)
 simp only[x9] at hloop;simp only[M.jK,M.OT,M.MF,aX,ac5]
 by_cases h2:2<=s.length
 ·rw[rF ak,aW,zdt h2,Bool.true_and];obtain⟨t,ht⟩:∃t,s[0]? =some t:=⟨s[0],by simp⟩
  obtain⟨u,hu⟩:∃u,s[s.length - 1]? =some u:=⟨s[s.length - 1],by simp⟩
  have e0:idx (aA s) 0=some (UG t):=by have:=bK (aA s) 0;rw[x9] at this;rw[this,dZ,ht];rfl
  have e1:idx (aA s) (i64.wrap ((s.length:Int) - 1))=some (UG u):=by rw[aK ak ak,show(s.length:Int) - 1=((s.length - 1:Nat):Int) by omega,bK,dZ,hu];rfl
  rw[e0,ah,Qr,ah,show aO s 0=t.kind from by unfold aO;rw[ht],show aO s (s.length - 1)=u.kind from by unfold aO;rw[hu]];cases h32:t.kind==32 with
  |false=>simp only[bne,h32,Bool.not_false,aJ,Bool.false_and]
  |true=>
   simp only[bne,h32,zaZ,aW,Bool.true_and];rw[e1,ah,Qr,ah];cases h33:u.kind==33 with
   |false=>simp only[h33,Bool.not_false,aJ,Bool.false_and]
   |true=>simp only[h33,zaZ,aW,Bool.true_and];rw[hloop,ah];exact hf s (0,0) (by simp)
 ·rw[zdt ak,aJ,rF h2,Bool.false_and]
end
end Go.Proofs.YthmchnpcplgciaaGreatDoor
namespace Go.Proofs.YthmchnpcplgciaaGreatDoor
open Go Go.Vm
variable {l:List Tk}
def seg(l:List Tk)(a c:Nat):List Tk:=(l.drop a).take (c - a)
def Ve{a c:Nat}(h1:a<=c)(h2:c<=l.length):cut (aA l) (a:Int) (c:Int)=some (aA (seg l a c)):=by unfold cut;rw[zdt (show(0:Int)<=a by omega),zdt (show(a:Int)<=c by omega),zdt (show(c:Int)<=((aA l).length:Int) by rw[aX];omega)];show some (((aA l).drop _).take _)=_;rw[Yf,Yf,seg,aA,aA,List.map_take,List.map_drop]
def Pg{a c:Nat}(h2:c<=l.length):(seg l a c).length=c - a:=by rw[seg,zlt,List.length_drop];omega
def arL{a c k:Nat}(h:k<c - a):aO (seg l a c) k=aO l (a+k):=by unfold aO seg;rw[List.getElem?_take_of_lt h,List.getElem?_drop]
def ZB{a c:Nat}(h1:a<c)(h2:c<=l.length):∃t,seg l a c=t::seg l (a+1) c/\aO l a=t.kind:=by
 have ha:a<l.length:=ak;refine⟨l[a], ?_,by unfold aO;rw[List.getElem?_eq_getElem ha]⟩;obtain⟨d,rfl⟩:∃d,c=a+1+d:=⟨c - (a+1),ak⟩
 rw[seg,seg,List.drop_eq_getElem_cons ha,show a+1+d - a=d+1 by omega,List.take_succ_cons,show a+1+d - (a+1)=d by omega]
def ac6{a c:Nat}(h:c<=a):seg l a c=[]:=by rw[seg,show c - a=0 by omega,List.take_zero]
def asZ:∀(d a c:Nat),c - a=d->a<=c->c<=l.length->Oc l a+arK (seg l a c)=Oc l c
 |0,a,c,hd,h1,h2=>by rw[ac6 ak,show c=a by omega];rfl
 |d+1,a,c,hd,h1,h2=>by obtain⟨t,e,hk⟩:=ZB (l:=l) (a:=a) (c:=c) ak h2;have ih:=asZ d (a+1) c ak ak h2;rw[Oc] at ih;rw[e,arK,<-hk];omega
def ap5{i c:Nat}(hb:Bal l i c):∀(d a:Nat),c - a=d->i<=a->a<=c->c<=l.length->afi (Sd l a - Sd l i) (seg l a c)=true
 |0,a,hd,h0,h1,h2=>by rw[ac6 ak,show a=c by omega,afi,hb.eq,Int.sub_self];rfl
 |d+1,a,hd,h0,h1,h2=>by obtain⟨t,e,hk⟩:=ZB (l:=l) (a:=a) (c:=c) ak h2;have ih:=ap5 hb d (a+1) ak ak ak h2;have hg:=hb.ge (a+1) ak ak;have es:Sd l (a+1)=Sd l a+SH (aO l a):=rfl;have ee:Sd l a - Sd l i+SH (aO l a)=Sd l (a+1) - Sd l i:=ak;rw[e,afi,<-hk,ee,rF ak,aW];exact ih
def ai0{kd:Int}{i c:Nat}(hb:NB l kd i c):∀(d a:Nat),c - a=d->i<=a->a<=c->c<=l.length->afj kd (Sd l a - Sd l i) (seg l a c)=false
 |0,a,hd,h0,h1,h2=>by rw[ac6 ak];rfl
 |d+1,a,hd,h0,h1,h2=>by
  obtain⟨t,e,hk⟩:=ZB (l:=l) (a:=a) (c:=c) ak h2;have ih:=ai0 hb d (a+1) ak ak ak h2;have es:Sd l (a+1)=Sd l a+SH (aO l a):=rfl;have ee:Sd l a - Sd l i+SH (aO l a)=Sd l (a+1) - Sd l i:=ak;have hn:(aO l a==kd && Sd l a - Sd l i==0)=false:=by
   cases hq:aO l a==kd with
   |false=>rfl
   |true=>rw[beq_iff_eq] at hq;have:=hb a h0 ak hq;rw[Bool.true_and,nY];omega
  rw[e,afj,<-hk,hn,aW,ee];exact ih
def ap6{i c:Nat}(hb:∀k,i<k->k<c->Sd l i<Sd l k):∀(d a:Nat),c - a=d->i<=a->a<=c->c<=l.length->alh (Sd l a - Sd l i) (seg l a c)=true
 |0,a,hd,h0,h1,h2=>by rw[ac6 ak];rfl
 |d+1,a,hd,h0,h1,h2=>by
  obtain⟨t,e,hk⟩:=ZB (l:=l) (a:=a) (c:=c) ak h2;have ih:=ap6 hb d (a+1) ak ak ak h2;have es:Sd l (a+1)=Sd l a+SH (aO l a):=rfl;have ee:Sd l a - Sd l i+SH (aO l a)=Sd l (a+1) - Sd l i:=ak;have hn:(Sd l (a+1) - Sd l i==0 && !(seg l (a+1) c).isEmpty)=false:=by
   by_cases hc:a+1<c
   ·have:=hb (a+1) ak hc;rw[nY.2 (show Sd l (a+1) - Sd l i≠0 by omega),Bool.false_and]
   ·rw[ac6 ak];show(_ && false)=false;rw[Bool.and_false]
  rw[e,alh,<-hk,ee,hn,aW];exact ih
def ap7{a c:Nat}(h1:aO l a=32)(h:Bal l (a+1) c)(h2:aO l c=33)(hc:c+1<=l.length):ac5 (seg l a (c+1))=true:=by have hw:=(Bal.wrap (d32 h1) h (d33 h2)).2;have hle:=h.le;have hl:=Pg (l:=l) (a:=a) hc;have e:=ap6 (l:=l) (i:=a) (c:=c+1) (λk h1 h2=>hw k h1 ak) (c+1 - a) a rfl (zba _) ak hc;rw[Int.sub_self] at e;rw[ac5,hl,zdt ak,arL ak,arL ak,e,Nat.add_zero,show a+(c+1 - a - 1)=c by omega,h1,h2];rfl
def aDe{a c:Nat}(h1:aO l a≠32)(hc:c<=l.length):ac5 (seg l a c)=false:=by
 have hl:=Pg (l:=l) (a:=a) hc;rw[ac5,hl]
 by_cases h2:2<=c - a
 ·rw[arL ak,Nat.add_zero,nY.2 h1,Bool.false_and,Bool.and_false]
 ·rw[rF h2,Bool.false_and]
structure Wk(p q:Ps):Prop where
 pos:gY p=gY q
 lv:p.level=q.level
 dol:p.gU=q.gU
 in_:q.nN=true->p.nN=true
 gt:q.oC=true->p.oC=true
 sign:q.fD=true->p.fD=true
def Wk.refl(p:Ps):Wk p p:=⟨rfl,rfl,rfl,id,id,id⟩
def Wk.kid{p q:Ps}(h:Wk p q)(k op:Int)(n j:Nat):Wk (cO k op n j p) (cO k op n j q):=by
 unfold cO;rw[h.pos];cases(!(gY q)||(!(Nat.blt j n)||lvl k op==0)) with
 |true=>exact .refl _
 |false=>
  rw[aW,aW];cases(lvl k op==15||(k==13 && Nat.blt 1 n)) with
  |true=>exact .refl _
  |false=>
   rw[aW,aW];refine⟨rfl,rfl,rfl,h.in_,h.gt, ?_⟩;simp only;cases(k==11||(k==9||(k==10||k==6))) with
   |true=>exact id
   |false=>
    rw[aW,aW];intro e;rw[Bool.or_eq_true,wo] at e;rcases e with⟨e1,e2⟩|e
    ·rw[e1,h.sign e2];rfl
    ·rw[e,Bool.or_true]
def Wkg(l:List Tk):Tg->Nat->Nat->Prop
 | .dv h t p,i,j=>∀q,Wk p q->Dx l (.dv h t q) i j
 | .nv t p,i,j=>∀q,Wk p q->Dx l (.nv t q) i j
 | .ls _,_,_=>True
def aDf{g:Tg}{i j:Nat}(h:Dx l g i j):Wkg l g i j:=by
 induction h with
 |par h1 hd h2 ih=>exact λq hq=> .par h1 hd h2
 |node hf _ ih=>intro q hq;have f1:=acX hf;have f2:=ac1 hf;refine .node (Bh (hq.pos ▸ f2.1) f2.2 ⟨λe=>f1.1.in_ (hq.in_ e),λe=>f1.1.gt (hq.gt e),λe=>f1.1.sign (hq.sign e)⟩ ?_) (ih q hq);rw[<-hq.lv,<-hq.dol];exact f1.2
 |one _ _=>trivial
 |cons _ _ _ _ _ _=>trivial
 |name hk=>exact λq hq=> .name hk
 |leaf h hk=>exact λq hq=> .leaf h hk
 |index a b c d e _=>exact λq hq=> .index a b c d e
 |call a b c d e f _=>exact λq hq=> .call a b c d e f
 |Lm a b c d=>exact λq hq=> .Lm a b c d
 |len a b c=>exact λq hq=> .len a b c
 |field a _ ih=>exact λq hq=> .field a (ih _ (hq.kid _ _ _ _))
 |pre a b _ ih=>exact λq hq=> .pre a b (ih _ (hq.kid _ _ _ _))
 |post a b _ ih=>exact λq hq=> .post a b (ih _ (hq.kid _ _ _ _))
 |una a _ ih=>exact λq hq=> .una a (ih _ (hq.kid _ _ _ _))
 |in1 _ b c ih=>exact λq hq=> .in1 (ih _ (hq.kid _ _ _ _)) b c
 |inN a b c d e f g _=>exact λq hq=> .inN a b c d e f g
 |cond _ b _ d _ ih1 ih2 ih3=>exact λq hq=> .cond (ih1 _ (hq.kid _ _ _ _)) b (ih2 _ (hq.kid _ _ _ _)) d (ih3 _ (hq.kid _ _ _ _))
 |asg a _ c _ ih1 ih2=>exact λq hq=> .asg a (ih1 _ (hq.kid _ _ _ _)) c (ih2 _ (hq.kid _ _ _ _))
 |bin a b _ d _ ih1 ih2=>exact λq hq=> .bin a b (ih1 _ (hq.kid _ _ _ _)) d (ih2 _ (hq.kid _ _ _ _))
 |cat _ _ ih1 ih2=>exact λq hq=> .cat (ih1 _ (hq.kid _ _ _ _)) (ih2 _ (hq.kid _ _ _ _))
def aGY{t:Tn}{p:Ps}{a c:Nat}(hl:Ee t.kind=true)(hp:gY p=true)(h:Dx l (.nv t p) a c):Dx l (.dv false t ⟨14,false,false,false,false⟩) a c:=by
 have h1:=asR (q:=⟨14,false,p.nN,p.oC,p.fD⟩) h hp rfl rfl rfl rfl;have h2:=aDf h1 ⟨14,false,false,false,false⟩ ⟨rfl,rfl,rfl,λe=>(by cases e),λe=>(by cases e),λe=>(by cases e)⟩;have hv:14<=lvl t.kind t.op:=by
  unfold Ee at hl;simp only[Bool.or_eq_true,beq_iff_eq] at hl;have:t.kind=1\/t.kind=5\/t.kind=6:=ak;rcases this with e|e|e<;>rw[e]
  ·exact(show(14:Int)<=15 by decide)
  ·exact(show(14:Int)<=15 by decide)
  ·exact(show(14:Int)<=14 by decide)
 exact .node (Bh rfl ak (ale hl) (.inl hv)) h2
abbrev Y(P:Prop)(o:Option Bool):Prop:=∃r,o=some r/\(P->r=true)
def Y.mono{P Q:Prop}{o:Option Bool}(h:Y P o)(k:Q->P):Y Q o:=by obtain⟨r,e,h⟩:=h;exact⟨r,e,λq=>h (k q)⟩
def Y.no{P:Prop}(h:¬P):Y P (some false):=⟨false,rfl,λp=>absurd p h⟩
def Y.yes{P:Prop}:Y P (some true):=⟨true,rfl,λ_=>rfl⟩
def Y.bif{P:Prop}{c:Bool}{x y:Option Bool}(h1:c=true->Y P x)(h2:c=false->Y P y):Y P (bif c then x else y):=by
 cases c with
 |true=>exact h1 rfl
 |false=>exact h2 rfl
def Y.loop{B:Int->Option (Int⊕(Unit⊕Int))}{P:Prop}{a c:Nat}(hac:a<=c)(Q:Nat->Prop)(hP:P->∃m,a<=m/\m<c/\Q m)
  (hstep:∀m,a<=m->m<c->B (m:Int)=some (.inr (.inl ()))\/(B (m:Int)=some (.inl ((m+1:Nat):Int))/\¬Q m)) (hend:B (c:Int)=some (.inr (.inr (c:Int)))):
  Y P ((dU B (a:Int)).bind λu=>kT u (λ_=>some true) λu=>letE u λ_=>some false):=by
 have key:∀(d m:Nat),c - m=d->a<=m->m<=c->dU B (m:Int)=some (.inl ())\/(dU B (m:Int)=some (.inr (c:Int))/\∀k,m<=k->k<c->¬Q k):=by
  intro d;induction d with
  |zero=>intro m hd h1 h2;rw[show m=c by omega];exact .inr ⟨aQ hend,λk a b=>by omega⟩
  |succ d ih=>
   intro m hd h1 h2;rcases hstep m h1 ak with h|⟨h,hq⟩
   ·exact .inl (aQ h)
   ·rw[bI h];rcases ih (m+1) ak ak ak with h|⟨h,hk⟩
    ·exact .inl h
    ·refine .inr ⟨h,λk a b=> ?_⟩
     by_cases e:k=m
     ·rw[e];exact hq
     ·exact hk k ak b
 rcases key (c - a) a rfl (zba _) hac with h|⟨h,hk⟩
 ·rw[h];exact⟨true,rfl,λ_=>rfl⟩
 ·rw[h];refine⟨false,rfl,λp=> ?_⟩;obtain⟨m,h1,h2,h3⟩:=hP p;exact absurd h3 (hk m h1 h2)
end Go.Proofs.YthmchnpcplgciaaGreatDoor
namespace Go.Proofs.YthmchnpcplgciaaGreatDoor
open Go Go.Vm
def room{n:Nat}(h:n<=1000000000):n.ble 140737488355328=true:=fM ak
def XD{n:Nat}(h:n<=1000000000):(n * 32).ble 140737488355328=true:=fM ak
def ZC{k op:Int}{x y:aI}{r:au}{j:Nat}{p:Ps}(he:1<=k/\k<=15)(hc:Cnt k op y r.length)(hj:j<r.length)(hr:r.length<=1048576):
  M.dw k op x y r (j:Int) p.level p.gU p.nN p.oC p.fD=some (cO k op r.length j p).XH:=by
 have hb:Nat.blt j r.length=true:=by rw[Nat.blt_eq];exact hj
 have hl:=aCE he hc;have hz:(lvl k op==0)=false:=by rw[nY];omega
 have ho:=Zt op;have h15:(dP op==15)=false:=by rw[nY];omega
 have h2:k=12->j=0\/j=1:=λe=>by have:=hc.two ak;omega
 have hk:k=1\/k=2\/k=3\/k=4\/k=5\/k=6\/k=7\/k=8\/k=9\/k=10\/k=11\/k=13\/k=14\/k=15\/k=12:=ak;simp only[M.dw,M.QL,af8 p,tX,aCH j r.length hr,hb,aef k op x y r,hz,arq,aaL,ah,many,nb0,gt0,cO,zaZ,Bool.false_or,aW];cases gY p with
 |false=>rfl
 |true=>
  rcases hk with rfl|rfl|rfl|rfl|rfl|rfl|rfl|rfl|rfl|rfl|rfl|rfl|rfl|rfl|rfl
  case inr.inr.inr.inr.inr.inr.inr.inr.inr.inr.inr.inr.inr.inr=>have hl12:lvl 12 op=dP op:=rfl;rw[hl12,h15];rcases h2 rfl with rfl|rfl<;>cases p.fD<;>simp[Ps.XH,VI,show Nat.beq 1 0=false from rfl]
  all_goals(cases p.fD<;>cases hq:Nat.beq j 0<;>cases hm:Nat.blt 1 r.length<;>simp[lvl,Ps.XH,Ps.top,VI,hq,hm])
def At(l:List Nd)(b:Nat)(ks:List Tn):Prop:=∀j u,ks[j]? =some u->Lies l (b+sizes (ks.take j)) u
def ac7{ks:List Tn}{b j:Nat}{u:Tn}(hj:ks[j]? =some u):idx (encI (ends ks b)) (j:Int)=some [D.int .i64 ((b+sizes (ks.take j)+sizes u.kids:Nat):Int)]:=by rw[bK,Eu,af7 hj];rfl
def Tot(P:au->Prop)(m:Option (au)):Prop:=∃r,m=some r/\P r
def GT(n:Nat)(r:au):Prop:=r.length<=n/\∀q,q∈r->∃a x z,q=[D.int .i64 a,D.str x,D.int .i64 z]/\x.length<=1048576/\I64 a
def GP(n:Nat)(r:au):Prop:=GT n r/\r≠[]
section
variable {P Q:au->Prop} {n m:Nat} {a b r:au}
def Tot.bnd{o:Option (au)}{K:zat}(h:Tot Q o)(hk:∀r,Q r->Tot P (K r)):Tot P (o.bind K):=by obtain⟨r,rfl,h2⟩:=h;exact hk r h2
def Tot.eq{k c:Int}{a b:Option (au)}(ha:k=c->Tot P a)(hb:k≠c->Tot P b):Tot P (bif k==c then a else b):=by
 cases h:k==c with
 |true=>exact ha (by simpa using h)
 |false=>exact hb (by simpa using h)
def Tot.ite{c:Bool}{a b:Option (au)}(ha:c=true->Tot P a)(hb:c=false->Tot P b):Tot P (bif c then a else b):=by
 cases h:c with
 |true=>exact ha h
 |false=>exact hb h
def GT.app(ha:GT n a)(hb:GT m b):GT (n+m) (a++b):=by
 refine⟨by rw[PD];have:=ha.1;have:=hb.1;omega,λq hq=> ?_⟩;rcases List.mem_append.1 hq with h|h
 ·exact ha.2 q h
 ·exact hb.2 q h
def GT.tok{c:Int}{x:aI}{z:Int}(h:x.length<=1048576)(hc:I64 c):GT 1 [[D.int .i64 c,D.str x,D.int .i64 z]]:=⟨zba _,λq hq=>⟨c,x,z,List.mem_singleton.1 hq,h,hc⟩⟩
def GT.flat(h:GT n r):aj r=true:=by rw[aj,List.all_eq_true];intro q hq;obtain⟨a,x,z,rfl,_⟩:=h.2 q hq;rfl
def Pz{X:Option (au)}(h:GT n r)(hX:Tot P X):Tot P (bif aj r then X else none):=by rw[h.flat];exact hX
def VL{X:Option (au)}(ha:GT n a)(hb:GT m b)(hX:GT (n+m) (a++b)->Tot P X)(hn:n+m<=100000000:=by omega):Tot P (bif((a.length+b.length) * 32).ble 140737488355328 then(bif(a.length+b.length).ble 140737488355328 then X else none) else none):=by have:=ha.1;have:=hb.1;rw[XD ak,room ak];exact hX (ha.app hb)
def aai{c:Int}(hc:I64 c){K:Int×aI×Int->Option (au)}(hK:GT 1 [[D.int .i64 c,D.str (spell c),D.int .i64 0]]->Tot P (K (c,spell c,0))):Tot P ((M.eY c).bind K):=by rw[ars c hc];exact hK (.tok (by have:=ZQ c;omega) hc)
def Tot.done(h:GT n r)(hr:r≠[]:=by simp)(hn:n<=m:=by omega):Tot (GP m) (some r):=⟨r,rfl,⟨Nat.le_trans h.1 hn,h.2⟩,hr⟩
end
def PW(t:Tn):Prop:=∀(o w:Bool) (f:Nat) (p:Ps) (l:List Nd) (b:Nat),l.length<=1048576->Lies l b t->5 * t.size<=f->
 Tot (GP (20 * t.size - 10)) (M.EL f (aP o l) w ((b+sizes t.kids:Nat):Int) p.level p.gU p.nN p.oC p.fD)
def tk{c:Int}(h: -1000<=c/\c<=1000:=by omega):I64 c:=by unfold I64;omega
def Qe(u:Tn):1<=u.size:=by cases u;rw[Tn.size];omega
def atw{u:Tn}(hS:PW u)(hu:u.size<=1048576){o w:Bool}{f:Nat}{p:Ps}{l:List Nd}{b:Nat}(hl:l.length<=1048576)(h:Lies l b u)(hf:5 * u.size+1<=f):
  Tot (GP (20 * u.size - 8)) (M.uP f (aP o l) w ((b+sizes u.kids:Nat):Int) p.level p.gU p.nN p.oC p.fD):=by
 obtain⟨g,rfl⟩:∃g,f=g+1:=⟨f - 1,ak⟩
 have hp:=Qe u;have hr:idx (aP o l) ((b+sizes u.kids:Nat):Int)=some (Xe o ⟨u.kind,u.op,u.text,u.other,ends u.kids b⟩):=by rw[bK,nH,Lies.root' h];rfl
 rw[M.ama];have plain:Tot (GP (20 * u.size - 8)) ((M.EL g (aP o l) w ((b+sizes u.kids:Nat):Int) p.level p.gU p.nN p.oC p.fD).bind λr=>bif aj r then some r else none):=(hS o w g p l b hl h ak).bnd λr hr=>Pz hr.1 (.done hr.1 hr.2)
 simp only[I7,M.J3,M.KZ,M.QM,hr,ah,cN0,cN1,cN2,cN3,cN4,axL u.kind u.op u.text u.other _ p,aef u.kind u.op u.text u.other];cases fits u.kind u.op p<;>cases w<;>cases lvl u.kind u.op==15<;>cases u.kind !=4<;>simp only[Bool.not_false,zaZ,aJ,aW]<;>
  first
   |exact plain
   |exact aai tk λh1=>(hS o _ g .top l b hl h ak).bnd λr hr=>VL h1 hr.1 λh2=>aai tk λh3=>VL h2 h3 λh4=>Pz h4 (.done h4)
section
variable {ks:List Tn} (ih:∀u,u∈ks->PW u) {o w:Bool} {f:Nat} {l:List Nd} {b:Nat} (hl:l.length<=1048576) (hat:At l b ks) (hu:sizes ks<=1048575)
include ih hl hat hu
theorem aT4{P:au->Prop}{k op:Int}{x y:aI}{p:Ps}(hk:1<=k/\k<=15)(hc:Cnt k op y ks.length)(hf:5 * sizes ks+1<=f){K:zat}(j:Nat)(u:Tn)(hj:ks[j]? =some u)(i:Int)(hi:i=(j:Int))(hK:∀r,GT (20 * u.size - 8) r->r≠[]->Tot P (K r)):
  Tot P ((idx (encI (ends ks b)) i).bind λrow=>(dG .i64 row 0).bind λn=>(M.dw k op x y (encI (ends ks b)) i p.level p.gU p.nN p.oC p.fD).bind λq=>(M.uP f (aP o l) w n q.fst q.snd.fst q.snd.snd.fst q.snd.snd.snd.fst q.snd.snd.snd.snd).bind K):=by
 subst hi;have hus:=Ew (ZF hj);have hen:(encI (ends ks b)).length=ks.length:=by rw[dV,jM]
 have hkl:=zW ks;have hjl:j<ks.length:=(Qm.1 hj).1;rw[ac7 hj,ah,cI0,ah,ZC (x:=x) (r:=encI (ends ks b)) (j:=j) (p:=p) hk (by rw[hen];exact hc) ak ak,ah];exact(atw (ih u (ZF hj)) ak (p:=cO k op (encI (ends ks b)).length j p) hl (hat j u hj) ak).bnd λr hr=>hK r hr.1 hr.2
theorem lvw{P:au->Prop}(hf:5 * sizes ks+1<=f){K:zat}(u:Tn)(hj:ks[0]? =some u)(hK:∀r,GT (20 * u.size - 10) r->r≠[]->Tot P (K r)):
  Tot P ((idx (encI (ends ks b)) 0).bind λrow=>(dG .i64 row 0).bind λn=>(M.J4 f (aP o l) w n).bind K):=by
 obtain⟨g,rfl⟩:∃g,f=g+1:=⟨f - 1,ak⟩
 have hus:=Ew (ZF hj);have h1:=ac7 (b:=b) hj;rw[x9] at h1;rw[h1,ah,cI0,ah,M.adO];refine Tot.bnd (Q:=GP (20 * u.size - 10)) ((ih u (ZF hj) o w g ⟨14,false,false,false,false⟩ l _ hl (hat 0 u hj) ak).bnd λr hr=>Pz hr.1 (.done hr.1 hr.2)) λr hr=>hK r hr.1 hr.2
theorem aEA(hf:5 * sizes ks+2<=f):Tot (GT (20 * sizes ks)) (M.Jk f (aP o l) w (encI (ends ks b))):=by
 obtain⟨g,rfl⟩:∃g,f=g+1:=⟨f - 1,ak⟩
 have hkl:=zW ks;rw[M.ahi];simp only[M.EI,M.LQ]
 suffices H:∀d j acc,j+d=ks.length->GT (20 * sizes (ks.take j)) acc->∃r,dU (M.CS (M.uP g) (encI (ends ks b)) (aP o l) w) ((j:Int),acc)=some r/\GT (20 * sizes ks) r.2 by obtain⟨r,h1,h2⟩:=H ks.length 0 [] ak ⟨by simp,λq hq=>by cases hq⟩;rw[x9] at h1;rw[h1,ah,h2.flat];exact⟨_,rfl,h2⟩
 intro d;induction d with
 |zero=>intro j acc hj ha;obtain rfl:j=ks.length:=ak;rw[List.take_length] at ha;refine⟨_,aQ (t:=((ks.length:Int),acc)) ?_,ha⟩;simp only[I7,M.CS,M.CQ,dV,jM];rw[rF ak,aW]
 |succ d ihd=>
  intro j acc hj ha;obtain⟨u,hu'⟩:∃u,ks[j]? =some u:=⟨ks[j],by simp⟩
  have hus:=Ew (ZF hu');have hst:=Qh hu';have htk:=zW (ks.take j);obtain⟨r,hr,hg⟩:=atw (ih u (ZF hu')) ak (o:=o) (w:=w) (f:=g) (p:=.top) hl (hat j u hu') ak;have hw:i64.wrap ((j:Int)+1)=((j+1:Nat):Int):=by rw[aK ak ak];omega
  have hp:=Qe u;have hts:sizes (ks.take (j+1))=sizes (ks.take j)+u.size:=by rw[xA hu',Gf,sz1]
  have e1:=ars 36 tk;have e2:GT 1 [[D.int .i64 36,D.str (spell 36),D.int .i64 0]]:=.tok (by decide) tk;obtain⟨acc',hs,hg'⟩:∃acc',M.CS (M.uP g) (encI (ends ks b)) (aP o l) w ((j:Int),acc)=some (.inl (((j+1:Nat):Int),acc'))/\GT (20 * sizes (ks.take (j+1))) acc':=by
   have a1:=ha.1;have r1:=hg.1.1;simp only[Ps.top] at hr;simp only[I7,M.CS,M.CQ,dV,jM];rw[zdt ak,aJ];cases h0:decide ((j:Int)>0) with
   |true=>refine⟨_,by simp(disch:=omega) only[e1,ac7 hu',ah,cI0,aaL,hr,PD,TG,room,XD,aJ,hw,Ps.top];rfl, ?_⟩;have h:=(ha.app e2).app hg.1;exact⟨by have:=h.1;omega,h.2⟩
   |false=>refine⟨_,by simp(disch:=omega) only[ac7 hu',ah,cI0,aaL,hr,room,XD,aJ,aW,hw,Ps.top];rfl, ?_⟩;have h:=ha.app hg.1;exact⟨by have:=h.1;omega,h.2⟩
  obtain⟨r',h1,h2⟩:=ihd (j+1) acc' ak hg';exact⟨r',by rw[bI hs];exact h1,h2⟩
theorem aGZ(hf:5 * sizes ks+3<=f){t':Int}{x:aI}{c:Int}(hx:x.length<=1048576)(ht:I64 t')(hop:c=32\/c=34):Tot (GP (20 * sizes ks+3)) (M.LU f (aP o l) w t' x 0 (encI (ends ks b)) c):=by
 obtain⟨g,rfl⟩:∃g,f=g+1:=⟨f - 1,ak⟩
 have e3:i64.wrap (c+1)=c+1:=by rcases hop with rfl|rfl<;>rfl
 rw[M.aft];simp only[I7,M.BD,e3];exact aai tk λh1=>(aEA ih hl hat hu (f:=g) ak).bnd λr hr=>VL (GT.app (GT.tok hx ht) h1) hr λh2=>aai tk λh3=>VL h2 h3 λh4=>Pz h4 (.done h4)
end
section
variable {ks:List Tn} (ih:∀u,u∈ks->PW u) {o w:Bool} {f:Nat} {l:List Nd} {b:Nat} (hl:l.length<=1048576) (hat:At l b ks) (hu:sizes ks<=1048575)
include ih hl hat hu
theorem aG0{k op:Int}{x y:aI}{p:Ps}(hk:k=12\/k=14)(hc:Cnt k op y ks.length)(hf:5 * sizes ks+2<=f):Tot (GP (20 * sizes ks+10)) (M.LV f (aP o l) w k op x y (encI (ends ks b)) p.level p.gU p.nN p.oC p.fD):=by
 obtain⟨g,rfl⟩:∃g,f=g+1:=⟨f - 1,ak⟩
 have kd:=λP K j u hj i hi h=>aT4 (P:=P) ih hl hat hu (x:=x) (p:=p) (f:=g) (o:=o) (w:=w) ak hc ak (K:=K) j u hj i hi h
 rw[M.afu];simp only[I7,M.BF];rcases hk with rfl|rfl
 ·obtain⟨u,v,rfl⟩:=amL (hc.two ak);have:=sz2 u v;have:=Qe u;have:=Qe v;refine kd _ _ 0 u rfl 0 rfl λa ha hn=>Tot.eq (λh=>by omega) λ_=>Tot.ite (λ_=> ?_) λ_=> ?_
  ·exact aai (aCN (hc.bin rfl).1) λh1=>VL ha h1 λh2=>kd _ _ 1 v rfl 1 rfl λd hd _=>VL h2 hd λh3=>Pz h3 (.done h3)
  ·exact kd _ _ 1 v rfl 1 rfl λd hd _=>VL ha hd λh3=>Pz h3 (.done h3 (by simp[hn]))
 ·obtain⟨u,v,z,rfl⟩:=apO (hc.three rfl);have:=sz3 u v z;have:=Qe u;have:=Qe v;have:=Qe z;refine kd _ _ 0 u rfl 0 rfl λa ha hn=>Tot.eq (λ_=> ?_) λh=>absurd rfl h
  exact aai tk λh1=>VL ha h1 λh2=>kd _ _ 1 v rfl 1 rfl λd hd _=>VL h2 hd λh3=>aai tk λh4=>VL h3 h4 λh5=>kd _ _ 2 z rfl 2 rfl λe he _=>VL h5 he λh6=>Pz h6 (.done h6)
end
def aT5{k op:Int}{x y:aI}{r:au}(hx:x.length<=1048576):∃z s,M.lH k op x y r=some (z,s,0)/\s.length<=1048576/\I64 z/\(z=0->k≠1/\k≠2/\k≠3/\k≠4):=by
 simp only[M.lH,M.Ag]
 by_cases h1:k=1
 ·subst h1;exact⟨_,_,rfl,hx,tk,by simp⟩
 by_cases h2:k=2
 ·subst h2;exact⟨_,_,rfl,hx,tk,by simp⟩
 by_cases h3:k=3
 ·subst h3;exact⟨_,_,rfl,hx,tk,by simp⟩
 by_cases h4:k=4
 ·subst h4;exact⟨_,_,rfl,hx,tk,by simp⟩
 have e1:(k==1)=false:=by simpa using h1
 have e2:(k==2)=false:=by simpa using h2
 have e3:(k==3)=false:=by simpa using h3
 have e4:(k==4)=false:=by simpa using h4
 simp only[e1,e2,e3,e4,aW];exact⟨0,[],rfl,by simp,tk,λ_=>⟨h1,h2,h3,h4⟩⟩
def at0{ks:List Tn}(h:1<=ks.length):∃u,ks[0]? =some u/\u.size<=sizes ks:=⟨ks[0],by simp,Ew (by simp)⟩
def ayv(t:Tn):Yg t->isE t->sml t->t.size<=1048576->PW t:=by
 refine Tn.ind (P:=λt=>Yg t->isE t->sml t->t.size<=1048576->PW t) ?_ t;intro k op x y ks ih hok he hsm hsz o w f p l b hl h hf;simp only[isE,Tn.kind] at he;have hc:=aGp hok;rw[sml] at hsm;have hsz':sizes ks+1=(Tn.mk k op x y ks).size:=by rw[Tn.size]
 have ih':∀u,u∈ks->PW u:=by intro u hu;obtain⟨i,hi⟩:=List.mem_iff_getElem?.1 hu;obtain⟨h1,h2⟩:=aTK hok he hi;have:=Ew hu;exact ih u hu h2 h1 (asH hsm.2 hu) ak
 have hat:At l b ks:=λj u hj=>Lies.abH h hj
 obtain⟨g,rfl⟩:∃g,f=g+1:=⟨f - 1,ak⟩
 have hr:idx (aP o l) ((b+sizes ks:Nat):Int)=some (Xe o ⟨k,op,x,y,ends ks b⟩):=by have hr0:l[b+sizes ks]? =some ⟨k,op,x,y,ends ks b⟩:=Lies.root' h;rw[bK,nH,hr0];rfl
 obtain⟨z,s,hz,hs,hz1,hz2⟩:=aT5 (k:=k) (op:=op) (y:=y) (r:=encI (ends ks b)) hsm.1.1;have kd:=λP K j u hj i hi h=>aT4 (P:=P) ih' hl hat ak (x:=x) (p:=p) (f:=g) (o:=o) (w:=w) he hc ak (K:=K) j u hj i hi h
 have lv:=λP K u hj h=>lvw (P:=P) ih' hl hat ak (f:=g) (o:=o) (w:=w) ak (K:=K) u hj h
 have nm:=λt' ht c hop=>aGZ ih' hl hat ak (f:=g) (o:=o) (w:=w) ak (t':=t') (x:=x) (c:=c) hsm.1.1 ht hop
 have ix:∀n,1<=n->ks.length=n->∃u,ks[0]? =some u/\u.size<=sizes ks/\1<=u.size:=λn h1 h2=>by obtain⟨u,h3,h4⟩:=at0 (ks:=ks) ak;exact⟨u,h3,h4,Qe u⟩
 rw[<-hsz',M.ahj,Tn.kids];simp only[I7,M.EK,M.G8,hr,ah,cN0,cN1,cN2,cN3,cN4,hz];refine Tot.ite (λ_=> .done (.tok hs hz1)) λe0=> ?_
 have e0:=hz2 (by simpa using e0);refine Tot.eq (λ_=>(nm _ tk _ (.inr rfl)).bnd λr hr=>Pz hr.1 (.done hr.1 hr.2)) λe5=> ?_
 refine Tot.eq (λ_=>(nm _ tk _ (.inl rfl)).bnd λr hr=>Pz hr.1 (.done hr.1 hr.2)) λe7=> ?_
 refine Tot.eq (λ_=>(nm _ tk _ (.inl rfl)).bnd λr hr=>Pz hr.1 (.done hr.1 hr.2)) λe8=> ?_
 refine Tot.eq (λe=> ?_) λe9=>Tot.eq (λe=> ?_) λe10=>Tot.eq (λe=> ?_) λe15=>Tot.eq (λe=> ?_) λe6=>Tot.eq (λe=> ?_) λe11=>Tot.eq (λe=> ?_) λe13=> ?_
 ·obtain⟨u,hu,h1,h2⟩:=ix 1 ak (hc.one ak);exact aai (by rcases hc.stp ak with rfl|rfl<;>exact tk) λt1=>lv _ _ u hu λr hr _=>VL t1 hr λh=>Pz h (.done h)
 ·obtain⟨u,hu,h1,h2⟩:=ix 1 ak (hc.one ak);exact lv _ _ u hu λr hr _=>aai (by rcases hc.stp ak with rfl|rfl<;>exact tk) λt1=>VL hr t1 λh=>Pz h (.done h)
 ·obtain⟨u,v,rfl⟩:=amL (hc.two ak);have:=sz2 u v;have:=Qe u;have:=Qe v;exact lv _ _ u rfl λr hr _=>aai (by rcases hc.asg e with rfl|h<;>exact tk) λt1=>VL hr t1 λh=>kd _ _ 1 v rfl 1 rfl λd hd _=>VL h hd λh3=>Pz h3 (.done h3)
 ·obtain⟨u,hu,h1,h2⟩:=ix 1 ak (hc.one ak);exact aai tk λt1=>kd _ _ 0 u hu 0 rfl λr hr _=>VL t1 hr λh=>Pz h (.done h)
 ·obtain⟨u,hu,h1,h2⟩:=ix 1 ak (hc.one ak);exact aai (by rcases hc.una ak with rfl|rfl|rfl<;>exact tk) λt1=>kd _ _ 0 u hu 0 rfl λr hr _=>VL t1 hr λh=>Pz h (.done h)
 ·obtain⟨u,hu,h1,h2⟩:=ix ks.length (hc.some_ ak) rfl;refine kd _ _ 0 u hu 0 rfl λr hr _=>Tot.ite (λ_=> ?_) λ_=> ?_
  ·exact aai tk λt1=>(aEA ih' hl hat ak ak).bnd λr hr=>VL t1 hr λh1=>aai tk λt2=>VL h1 t2 λh2=>aai tk λt3=>VL h2 (GT.app t3 (.tok hsm.1.1 tk)) λh3=>Pz h3 (.done h3)
  ·exact aai tk λt1=>VL hr (GT.app t1 (.tok hsm.1.1 tk)) λh3=>Pz h3 (.done h3)
 ·exact(aG0 ih' hl hat ak ak hc ak).bnd λr hr=>Pz hr.1 (.done hr.1 hr.2)
end Go.Proofs.YthmchnpcplgciaaGreatDoor
