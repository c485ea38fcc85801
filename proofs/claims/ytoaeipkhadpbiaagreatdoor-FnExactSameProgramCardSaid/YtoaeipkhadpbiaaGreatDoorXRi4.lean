import Derived.Test.YtoaeipkhadpbiaaGreatDoorXLev
set_option linter.defProp false
namespace Go.Proofs.YtoaeipkhadpbiaaGreatDoor
set_option linter.unusedVariables false
set_option linter.unusedSimpArgs false
open Go Go.Vm
open Go.IntKind (i64)
def dY(l:List (aK)):ah (encS l)=true:=by simp[ah,encS,D.flat]
def snS(l:List (aK))(s:aK):encS l++[[D.str s]]=encS (l++[s]):=by simp[encS]
def lnS(l:List (aK)):(encS l).length=l.length:=by simp[encS]
abbrev TP:=Int×Int×aK×aK×Bool×ak×Bool×ak×Int×Bool×ak
abbrev TT:=Int×Int×aK×aK×Bool×ak×ak×Int×Bool×ak
abbrev TL:=Bool×ak×ak×Int×Bool×ak
def AP(l:List Tk)(o:Option TP):PR Xp->Prop
 | .ok x j nt=>∃fl ks,au ks=dN false x.1.kids/\o=some (x.1.kind,x.1.op,x.1.text,x.1.other,fl,ks,tgt x,ay l,(j:Int),false,encS nt)
 | .bad j=>∃k op x y fl ks tg nt,nt.length<=l.length/\o=some (k,op,x,y,fl,ks,tg,ay l,(j:Int),true,encS nt)
 | .out=>True
def AT(l:List Tk)(o:Option TT):PR Tn->Prop
 | .ok x j nt=>∃fl ks,au ks=dN false x.kids/\o=some (x.kind,x.op,x.text,x.other,fl,ks,ay l,(j:Int),false,encS nt)
 | .bad j=>∃k op x y fl ks nt,nt.length<=l.length/\o=some (k,op,x,y,fl,ks,ay l,(j:Int),true,encS nt)
 | .out=>True
def AL(l:List Tk)(o:Option TL):PR (List Tn)->Prop
 | .ok L j nt=>∃fl,o=some (fl,dN false L,ay l,(j:Int),false,encS nt)
 | .bad j=>∃fl ks nt,nt.length<=l.length/\o=some (fl,ks,ay l,(j:Int),true,encS nt)
 | .out=>True
variable {l:List Tk}
section
variable {β γ:Type} {R:Option β->PR γ->Prop}
def AP.elim{o:Option TP}{p:PR Xp}(h:AP l o p){f:TP->Option β}{g:Xp->Nat->gW->PR γ}(hout:∀o,R o .out)
  (hbad:∀k op x y fl ks tg j nt,nt.length<=l.length->R (f (k,op,x,y,fl,ks,tg,ay l,((j:Nat):Int),true,encS nt)) (.bad j))
  (hok:∀x fl ks j nt,au ks=dN false x.1.kids->p=.ok x j nt->R (f (x.1.kind,x.1.op,x.1.text,x.1.other,fl,ks,tgt x,ay l,(j:Int),false,encS nt)) (g x j nt)):R (o.bind f) (p.bind g):=by
 cases p with
 |ok x j nt=>obtain⟨fl,ks,h1,rfl⟩:=h;exact hok x fl ks j nt h1 rfl
 |bad j=>obtain⟨k,op,x,y,fl,ks,tg,nt,h1,rfl⟩:=h;exact hbad k op x y fl ks tg j nt h1
 |out=>exact hout _
def AT.elim{o:Option TT}{p:PR Tn}(h:AT l o p){f:TT->Option β}{g:Tn->Nat->gW->PR γ}(hout:∀o,R o .out)
  (hbad:∀k op x y fl ks j nt,nt.length<=l.length->R (f (k,op,x,y,fl,ks,ay l,((j:Nat):Int),true,encS nt)) (.bad j))
  (hok:∀x fl ks j nt,au ks=dN false x.kids->p=.ok x j nt->R (f (x.kind,x.op,x.text,x.other,fl,ks,ay l,(j:Int),false,encS nt)) (g x j nt)):R (o.bind f) (p.bind g):=by
 cases p with
 |ok x j nt=>obtain⟨fl,ks,h1,rfl⟩:=h;exact hok x fl ks j nt h1 rfl
 |bad j=>obtain⟨k,op,x,y,fl,ks,nt,h1,rfl⟩:=h;exact hbad k op x y fl ks j nt h1
 |out=>exact hout _
def AL.elim{o:Option TL}{p:PR (List Tn)}(h:AL l o p){f:TL->Option β}{g:List Tn->Nat->gW->PR γ}(hout:∀o,R o .out)
  (hbad:∀fl ks j nt,nt.length<=l.length->R (f (fl,ks,ay l,((j:Nat):Int),true,encS nt)) (.bad j))
  (hok:∀L fl j nt,p=.ok L j nt->R (f (fl,dN false L,ay l,(j:Int),false,encS nt)) (g L j nt)):R (o.bind f) (p.bind g):=by
 cases p with
 |ok L j nt=>obtain⟨fl,rfl⟩:=h;exact hok L fl j nt rfl
 |bad j=>obtain⟨fl,ks,nt,h1,rfl⟩:=h;exact hbad fl ks j nt h1
 |out=>exact hout _
end
def PR.bind_ok{α:Type}(p:PR α):(p.bind λa i nt=> .ok a i nt)=p:=by cases p<;>rfl
def AP.pass{o:Option TP}{p:PR Xp}(h:AP l o p){f:TP->Option TP}
  (hf:∀k op x y fl ks tg j b nt,f (k,op,x,y,fl,ks,tg,ay l,j,b,encS nt)=some (k,op,x,y,false,au ks,tg,ay l,j,b,encS nt)):AP l (o.bind f) p:=by
 rw[<-PR.bind_ok p];refine AP.elim (R:=AP l) h (λ_=>trivial) (λk op x y fl ks tg j nt hn=> ?_) (λx fl ks j nt hk _=> ?_)
 ·rw[hf];exact⟨_,_,_,_,_,_,_,_,hn,rfl⟩
 ·rw[hf];exact⟨_,_,by rw[hk,jf],rfl⟩
def AT.pass{o:Option TT}{p:PR Tn}(h:AT l o p){f:TT->Option TT}
  (hf:∀k op x y fl ks j b nt,f (k,op,x,y,fl,ks,ay l,j,b,encS nt)=some (k,op,x,y,false,au ks,ay l,j,b,encS nt)):AT l (o.bind f) p:=by
 rw[<-PR.bind_ok p];refine AT.elim (R:=AT l) h (λ_=>trivial) (λk op x y fl ks j nt hn=> ?_) (λx fl ks j nt hk _=> ?_)
 ·rw[hf];exact⟨_,_,_,_,_,_,_,hn,rfl⟩
 ·rw[hf];exact⟨_,_,by rw[hk,jf],rfl⟩
def fG(i:Nat)(b:Bool)(nt:gW):M.aG (ay l) (i:Int) b (encS nt)=some (bG l i,ay l,(i:Int),b,encS nt):=by
 simp only[M.aG,M.Jj,dZ,dY,aJ,bG]
 by_cases h:i<l.length
 ·rw[Ac aC,aX];obtain⟨t,ht⟩:∃t,l[i]? =some t:=⟨l[i],by simp[h]⟩
  simp only[dG,iE,ht,Ir,aj,cT0]
 ·rw[zdt aC,aJ,List.getElem?_eq_none aC]
def pX(hl:l.length<=1048576){i:Nat}(h:i<l.length):i64.wrap ((i:Int)+1)=((i+1:Nat):Int):=by rw[bF aC aC];omega
def NT(hl:l.length<=1048576){i:Nat}(h:i<l.length)(b:Bool)(nt:gW):M.fU (ay l) (i:Int) b (encS nt)=some (CG l i,ay l,((i+1:Nat):Int),b,encS nt):=by
 obtain⟨t,ht⟩:∃t,l[i]? =some t:=⟨l[i],by simp[h]⟩
 simp only[M.fU,M.Jm,dG,iE,ht,Ir,aj,cT1,dY,aJ,pX hl h,CG]
def asK(k:Int):M.iU k=some (isStep k):=by simp only[M.iU,M.nT,isStep];cases k==51<;>rfl
def aEv(k:Int):M.nR k=some (asF k):=by simp only[M.nR,M.FV,asF];cases k==3<;>cases k==4<;>cases k==6<;>cases k==7<;>cases k==8<;>cases k==32<;>cases k==68<;>rfl
def aoc(k:Int):M.mG k=some (Ip k):=by simp only[M.mG,M.OJ,Ip];cases k==0<;>cases k==1<;>cases k==2<;>cases k==37<;>rfl
def aiG(k:Int):M.Gx k=some (zQ k):=by simp only[M.Gx,M.Vg,zQ];cases k==62<;>cases k==53<;>rfl
def Xg(k:Int):M.BI k=some (Y1 k):=by simp only[M.BI,M.QE,Y1];cases k==32<;>cases k==34<;>rfl
def Y2(k:Int):M.BJ k=some (XC k):=by simp only[M.BJ,M.QF,XC];cases k==33<;>cases k==35<;>rfl
def asL(i:Nat)(b:Bool)(nt:gW):M.jP (ay l) (i:Int) b (encS nt)=some (0,0,[],[],true,[],false,ay l,(i:Int),true,encS nt):=by simp only[M.jP,M.Jl,dY,aJ]
def wV(k:Int)(i:Nat)(nt:gW):M.aS k (ay l) (i:Int) true (encS nt)=some (false,ay l,(i:Int),true,encS nt):=by simp only[M.aS,M.vW,dY,aJ]
section
variable {β γ:Type} {R:Option β->PR γ->Prop}
def NU(hl:l.length<=1048576){k:Int}(hk:k≠0){i:Nat}{nt:gW}{f:Bool×ak×Int×Bool×ak->Option β}{g:Unit->Nat->gW->PR γ}
  (hbad:R (f (false,ay l,(i:Int),true,encS nt)) (.bad i))
  (hok:bG l i=k->i<l.length->R (f (true,ay l,((i+1:Nat):Int),false,encS nt)) (g () (i+1) nt)):
  R ((M.aS k (ay l) (i:Int) false (encS nt)).bind f) ((jD l k i nt).bind g):=by
 have e:M.aS k (ay l) (i:Int) false (encS nt)=bif bG l i==k then some (true,ay l,i64.wrap ((i:Int)+1),false,encS nt) else some (false,ay l,(i:Int),true,encS nt):=by simp only[M.aS,M.vW,dY,aJ,aX,fG,aj,bne];cases bG l i==k<;>rfl
 rw[e,jD];cases hc:bG l i==k with
 |true=>
  have h1:bG l i=k:=by rwa [beq_iff_eq] at hc
  have h2:i<l.length:=eP (by rw[h1];exact hk);simp only[aJ,pX hl h2,aj];exact hok h1 h2
 |false=>exact hbad
def az1(hl:l.length<=1048576){i:Nat}{nt:gW}{f:aK×ak×Int×Bool×ak->Option β}{g:aK->Nat->gW->PR γ}
  (hbad:R (f ([],ay l,(i:Int),true,encS nt)) (.bad i))
  (hok:bG l i=6->i<l.length->R (f (CG l i,ay l,((i+1:Nat):Int),false,encS nt)) (g (CG l i) (i+1) nt)):
  R ((M.bJ (ay l) (i:Int) false (encS nt)).bind f) ((nameP l i nt).bind g):=by
 rw[nameP];cases hc:bG l i==6 with
 |true=>
  have h1:bG l i=6:=by rwa [beq_iff_eq] at hc
  have h2:i<l.length:=eP (by rw[h1];decide);simp only[M.bJ,M.jl,dY,aJ,aX,fG,aj,bne,hc,zaT,NT hl h2];exact hok h1 h2
 |false=>simp only[M.bJ,M.jl,dY,aJ,aX,fG,aj,bne,hc,Bool.not_false];exact hbad
end
def Yo{α:Type}{L:List α}{i:Nat}{t:α}(h:L[i]? =some t):L.drop i=t::L.drop (i+1):=by obtain⟨hi,rfl⟩:=UN.1 h;exact List.drop_eq_getElem_cons hi
def Xh(i:Nat)(nt:gW):nl l i nt=bif bG l i==1 then nl l (i+1) nt else bif bG l i==2 then nl l (i+1) (nt++[CG l i]) else(i,nt):=by
 unfold nl;cases h:l[i]? with
 |none=>
  have e:bG l i=0:=by rw[bG,h]
  rw[e,List.drop_eq_nil_of_le (List.getElem?_eq_none_iff.1 h)];rfl
 |some t=>
  have e1:bG l i=t.kind:=by rw[bG,h]
  have e2:CG l i=t.text:=by rw[CG,h]
  rw[Yo h,nlR,e1,e2]
def akK(i:Nat)(nt:gW):sep l i nt=bif bG l i==1||bG l i==37 then sep l (i+1) nt else bif bG l i==2 then sep l (i+1) (nt++[CG l i]) else(i,nt):=by
 unfold sep;cases h:l[i]? with
 |none=>
  have e:bG l i=0:=by rw[bG,h]
  rw[e,List.drop_eq_nil_of_le (List.getElem?_eq_none_iff.1 h)];rfl
 |some t=>
  have e1:bG l i=t.kind:=by rw[bG,h]
  have e2:CG l i=t.text:=by rw[CG,h]
  rw[Yo h,Y0,e1,e2]
def az2{P:Nat->gW->Prop}(h1:∀i nt,bG l i=1->i<l.length->P (i+1) nt->P i nt)(h2:∀i nt,bG l i=2->i<l.length->P (i+1) (nt++[CG l i])->P i nt)
  (h3:∀i nt,(bG l i==1)=false->(bG l i==2)=false->P i nt):∀i nt,P i nt:=by
 have:∀n i nt,l.length - i<=n->P i nt:=by
  intro n;induction n with
  |zero=>
   intro i nt hn;have e:bG l i=0:=by rw[bG,List.getElem?_eq_none aC]
   exact h3 i nt (by rw[e];rfl) (by rw[e];rfl)
  |succ n ih=>
   intro i nt hn;cases e1:bG l i==1 with
   |true=>
    have e:bG l i=1:=by rwa [beq_iff_eq] at e1
    have hlt:=eP (l:=l) (i:=i) (by rw[e];decide);exact h1 i nt e hlt (ih _ _ aC)
   |false=>
    cases e2:bG l i==2 with
    |true=>
     have e:bG l i=2:=by rwa [beq_iff_eq] at e2
     have hlt:=eP (l:=l) (i:=i) (by rw[e];decide);exact h2 i nt e hlt (ih _ _ aC)
    |false=>exact h3 i nt e1 e2
 exact λi nt=>this _ i nt (zaU _)
def aod(i:Nat)(nt:gW):sep l i nt=bif bG l (nl l i nt).1==37 then sep l ((nl l i nt).1+1) (nl l i nt).2 else nl l i nt:=by
 refine az2 (l:=l) (P:=λi nt=>sep l i nt=bif bG l (nl l i nt).1==37 then sep l ((nl l i nt).1+1) (nl l i nt).2 else nl l i nt) ?_ ?_ ?_ i nt
 ·intro i nt hk _ ih;rw[akK,Xh,hk];exact ih
 ·intro i nt hk _ ih;rw[akK,Xh,hk];exact ih
 ·intro i nt h1 h2;rw[akK,Xh,h1,h2];cases h3:bG l i==37<;>simp only[Bool.or_true,Bool.or_false,Bool.false_or,aJ,aX,h3]
def SN(hl:l.length<=1048576)(i:Nat)(nt:gW)(hi:i<=l.length)(hn:nt.length<=i):
  M.aT (ay l) (i:Int) false (encS nt)=some (ay l,((nl l i nt).1:Int),false,encS (nl l i nt).2):=by
 have hstep:∀i nt,(b:Bool)->i<l.length->bG l i=1->M.mX (bif b then .inl (ay l,(i:Int),false,encS nt) else .inr (ay l,(i:Int),false,encS nt))=some (.inl (.inr (ay l,((i+1:Nat):Int),false,encS nt))):=by intro i nt b hlt hk;cases b<;>simp only[EY,aJ,aX,M.mX,M.pY,Bool.not_false,dY,fG,aj,hk,pX hl hlt,BEq.rfl]
 have hstep2:∀i nt,(b:Bool)->i<l.length->nt.length<=i->bG l i=2->M.mX (bif b then .inl (ay l,(i:Int),false,encS nt) else .inr (ay l,(i:Int),false,encS nt))=some (.inl (.inr (ay l,((i+1:Nat):Int),false,encS (nt++[CG l i])))):=by
  intro i nt b hlt hni hk;obtain⟨t,ht⟩:∃t,l[i]? =some t:=⟨l[i],by simp[hlt]⟩
  have e2:CG l i=t.text:=by rw[CG,ht]
  have h21:((2:Int)==1)=false:=rfl;cases b<;>simp only[EY,aJ,aX,M.mX,M.pY,Bool.not_false,dY,fG,aj,hk,h21,BEq.rfl,pX hl hlt,dG,iE,ht,Ir,cT1,snS,lnS,Bd,e2]<;>
   rw[bC aC,aJ,bC aC,aJ]
 have aoe:∀i nt,(b:Bool)->(bG l i==1)=false->(bG l i==2)=false->M.mX (bif b then .inl (ay l,(i:Int),false,encS nt) else .inr (ay l,(i:Int),false,encS nt))=some (.inr (.inl (ay l,(i:Int),false,encS nt))):=by intro i nt b h1 h2;cases b<;>simp only[EY,aJ,aX,M.mX,M.pY,Bool.not_false,dY,fG,aj,h1,h2]
 have hloop:∀i nt,∀b:Bool,i<=l.length->nt.length<=i->M.jZ (bif b then .inl (ay l,(i:Int),false,encS nt) else .inr (ay l,(i:Int),false,encS nt))=some (.inl (ay l,((nl l i nt).1:Int),false,encS (nl l i nt).2)):=by
  refine az2 (l:=l) (P:=λi nt=>∀b:Bool,i<=l.length->nt.length<=i->M.jZ (bif b then .inl (ay l,(i:Int),false,encS nt) else .inr (ay l,(i:Int),false,encS nt))=some (.inl (ay l,((nl l i nt).1:Int),false,encS (nl l i nt).2))) ?_ ?_ ?_
  ·intro i nt hk hlt ih b hi hn;rw[M.jZ,aZ (hstep i nt b hlt hk),Xh,hk];exact ih false aC aC
  ·intro i nt hk hlt ih b hi hn;rw[M.jZ,aZ (hstep2 i nt b hlt hn hk),Xh,hk];exact ih false aC (by rw[DJ,Bd];omega)
  ·intro i nt h1 h2 b hi hn;rw[M.jZ,aO (aoe i nt b h1 h2),Xh,h1,h2];rfl
 have:=hloop i nt true hi hn;simp only[aJ] at this;simp only[M.aT,M.x9,this,aj,jg,dY,aJ]
def JC(i:Nat)(nt:gW):M.aT (ay l) (i:Int) true (encS nt)=some (ay l,(i:Int),true,encS nt):=by have:M.jZ (.inl (ay l,(i:Int),true,encS nt))=some (.inr (ay l,(i:Int),true,encS nt)):=aO rfl;simp only[M.aT,M.x9,this,aj,jg,letE,dY,aJ]
def am4(hl:l.length<=1048576)(i:Nat)(nt:gW)(hi:i<=l.length)(hn:nt.length<=i):
  M.dh (ay l) (i:Int) false (encS nt)=some (ay l,((sep l i nt).1:Int),false,encS (sep l i nt).2):=by
 have hloop:∀n i nt,∀b:Bool,l.length - i<=n->i<=l.length->nt.length<=i->M.mY (bif b then .inl (ay l,(i:Int),false,encS nt) else .inr (ay l,(i:Int),false,encS nt))=some (ay l,((sep l i nt).1:Int),false,encS (sep l i nt).2):=by
  intro n;induction n with
  |zero=>
   intro i nt b hk hi hn;have e:=aod (l:=l) i nt;have hf:=EC (l:=l) (nt:=nt) hi;have hnl:=SN hl i nt hi hn;have e0:bG l (nl l i nt).1=0:=by rw[bG,List.getElem?_eq_none aC]
   rw[e0] at e;have e':sep l i nt=nl l i nt:=e;rw[e',M.mY];refine aO ?_;have h0:((0:Int) !=37)=true:=rfl;cases b<;>simp only[aJ,aX,M.nX,M.kW,dY,hnl,aj,fG,e0,h0]
  |succ n ih=>
   intro i nt b hk hi hn;have e:=aod (l:=l) i nt;have hf:=EC (l:=l) (nt:=nt) hi;have hnl:=SN hl i nt hi hn;rw[M.mY];cases h37:bG l (nl l i nt).1==37 with
   |true=>
    rw[h37,aJ] at e;have hlt:=dI h37 (by decide);rw[e];have hb:M.nX (bif b then .inl (ay l,(i:Int),false,encS nt) else .inr (ay l,(i:Int),false,encS nt))=some (.inl (.inr (ay l,(((nl l i nt).1+1:Nat):Int),false,encS (nl l i nt).2))):=by cases b<;>simp only[aJ,aX,M.nX,M.kW,dY,hnl,aj,fG,bne,h37,zaT,pX hl hlt]
    rw[aZ hb];exact ih _ _ false aC aC aC
   |false=>rw[h37,aX] at e;rw[e];refine aO ?_;cases b<;>simp only[aJ,aX,M.nX,M.kW,dY,hnl,aj,fG,bne,h37,Bool.not_false]
 have:=hloop _ i nt true (zaU _) hi hn;simp only[aJ] at this;simp only[M.dh,M.uS,this,aj,dY,aJ]
def akL(i:Nat)(nt:gW):M.dh (ay l) (i:Int) true (encS nt)=some (ay l,(i:Int),true,encS nt):=by
 have:M.mY (.inl (ay l,(i:Int),true,encS nt))=some (ay l,(i:Int),true,encS nt):=
  aO (by simp only[M.nX,M.kW,dY,aJ,JC,aj])
 simp only[M.dh,M.uS,this,aj,dY,aJ]
def EF(c1:Int)(b:Bool)(nt:gW)(hn:nt.length<=1048576):M.eH (ay l) c1 b (encS nt)=some (true,dN true (EU nt),ay l,c1,b,encS []):=by
 have hloop:=wC (b:=M.yM (nt.length:Int) (ay l) c1 b (encS nt)) (t:=((nt.length:Int),dN true (EU nt)))
  (λj=>((j:Int),dN true (EU (nt.take j)))) nt.length
  (by
   intro j hj;obtain⟨t,ht⟩:∃t,nt[j]? =some t:=⟨nt[j],by simp⟩
   have h1:(encS nt)[j]? =some [D.str t]:=by simp[encS,ht]
   have h2:dN true (EU (nt.take (j+1)))=dN true (EU (nt.take j))++[[D.int .i64 34,D.int .i64 0,D.str t,D.str [],D.sl true 5 []]]:=by rw[qL ht,EU,List.map_append,Aa];rfl
   have h3:cStr [D.str t] 0=some t:=rfl;simp only[EY,M.yM,M.tX];rw[zdt aC,aJ];simp only[dG,h1,aj,ztn,h3,dR,ED,zlt,Bd];rw[bC aC,aJ,bC aC,aJ,bF aC aC,h2];rfl)
  (by simp only[EY,M.yM,M.tX];rw[Ac aC,aX,List.take_length]) 0 (Nat.zero_le _)
 have Mc:M.Bj (nt.length:Int) (ay l) c1 b (encS nt) (0,[])=some ((nt.length:Int),dN true (EU nt)):=hloop;simp only[M.eH,M.CZ,lnS,Mc,aj];rfl
def aGB{s:ak}{a:Nat}(h:a<=s.length):cut s (a:Int) (s.length:Int)=some (s.drop a):=by rw[cut,zdt aC,zdt aC,zdt aC];simp[List.take_of_length_le]
def aC2(hl:l.length<=1048576)(i:Nat)(nt:gW)(hi:i<=l.length):M.oh (ay l) (i:Int) false (encS nt)=some (ahead (l.drop i) 0,ay l,(i:Int),false,encS nt):=by
 have hc:cut (ay l) (i:Int) (l.length:Int)=some (ay (l.drop i)):=by have:=aGB (s:=ay l) (a:=i) (by simpa using hi);rw[dZ] at this;rw[this];simp[ay]
 have hloop:∀{β:Type} (F:(Int×Int)⊕Unit⊕(Int×Int)->Option β) (T:Bool->Option β),(∀a,F (.inl a)=T false)->(∀a,F (.inr (.inl a))=T true)->(∀a,F (.inr (.inr a))=T false)->
   ∀(r pre:List Tk) (d:Nat),d<=pre.length->(pre++r).length<=1048576->
   (M.qK (ay (pre++r)) ((pre++r).length:Int) (ay l) (i:Int) false (encS nt) ((d:Int),(pre.length:Int))).bind F=T (ahead r d):=by
  intro β F T f1 f2 f3 r;induction r with
  |nil=>
   intro pre d hd hlen;have hb:M.dJ (ay (pre++[])) ((pre++[]).length:Int) (ay l) (i:Int) false (encS nt) ((d:Int),(pre.length:Int))=some (.inr (.inr (.inr ((d:Int),(pre.length:Int))))):=by simp only[M.dJ,M.gu,List.append_nil];rw[Ac aC,aX]
   rw[M.qK,aO hb,aj,f3,ahead]
  |cons t r ih=>
   intro pre d hd hlen;have ht:(pre++t::r)[pre.length]? =some t:=by simp
   have hlen':pre.length+(r.length+1)<=1048576:=by rw[DJ,Zr] at hlen;exact hlen
   have hnext:=ih (pre++[t]);rw[XG,List.singleton_append,DJ,Bd] at hnext;have w1:i64.wrap ((pre.length:Int)+1)=((pre.length+1:Nat):Int):=by rw[bF aC aC];omega
   have w2:i64.wrap ((d:Int)+1)=((d+1:Nat):Int):=by rw[bF aC aC];omega
   have w3:i64.wrap ((d:Int) - 1)=(d:Int) - 1:=bF aC aC;have hg:decide ((pre.length:Int)<((pre++t::r).length:Int))=true:=by rw[zdt];rw[DJ,Zr];omega
   rw[ahead,M.qK];cases ho:Y1 t.kind with
   |true=>
    have hb:M.dJ (ay (pre++t::r)) ((pre++t::r).length:Int) (ay l) (i:Int) false (encS nt) ((d:Int),(pre.length:Int))=some (.inl (((d+1:Nat):Int),((pre.length+1:Nat):Int))):=by simp only[M.dJ,M.gu,hg,aJ,dG,iE,ht,Ir,aj,cT0,cT1,cT2,Xg,ho,w1,w2];rw[Ac aC,aX]
    rw[aZ hb,aJ];have:=hnext (d+1) aC hlen;rw[show(((d+1:Nat):Int))=(d:Int)+1 by omega] at this;exact this
   |false=>
    rw[aX];cases hs:XC t.kind with
    |true=>
     rw[aJ];cases hd1:decide ((d:Int) - 1<=0) with
     |true=>
      have hb:M.dJ (ay (pre++t::r)) ((pre++t::r).length:Int) (ay l) (i:Int) false (encS nt) ((d:Int),(pre.length:Int))=some (.inr (.inl ((d:Int) - 1,(pre.length:Int)))):=by simp only[M.dJ,M.gu,hg,aJ,aX,dG,iE,ht,Ir,aj,cT0,cT1,cT2,Xg,ho,Y2,hs,w3,hd1]
      rw[aO hb,aj,f1,aJ]
     |false=>
      have hdd:1<d:=by have:=of_decide_eq_false hd1;omega
      have hb:M.dJ (ay (pre++t::r)) ((pre++t::r).length:Int) (ay l) (i:Int) false (encS nt) ((d:Int),(pre.length:Int))=some (.inl (((d - 1:Nat):Int),((pre.length+1:Nat):Int))):=by simp only[M.dJ,M.gu,hg,aJ,aX,dG,iE,ht,Ir,aj,cT0,cT1,cT2,Xg,ho,Y2,hs,w3,hd1,w1];rw[show((d:Int) - 1)=((d - 1:Nat):Int) by omega]
      rw[aZ hb,aX];have:=hnext (d - 1) aC hlen;rw[show(((d - 1:Nat):Int))=(d:Int) - 1 by omega] at this|-;exact this
    |false=>
     rw[aX];cases hc:t.kind==36 with
     |true=>
      cases h1:(d:Int)==1 with
      |true=>
       have hb:M.dJ (ay (pre++t::r)) ((pre++t::r).length:Int) (ay l) (i:Int) false (encS nt) ((d:Int),(pre.length:Int))=some (.inr (.inr (.inl ()))):=by simp only[M.dJ,M.gu,hg,aJ,aX,dG,iE,ht,Ir,aj,cT0,cT1,cT2,Xg,ho,Y2,hs,hc,h1]
       rw[aO hb,aj,f2];rfl
      |false=>
       rw[Bool.and_false,aX];cases hd0:decide ((d:Int)<=0) with
       |true=>
        have hb:M.dJ (ay (pre++t::r)) ((pre++t::r).length:Int) (ay l) (i:Int) false (encS nt) ((d:Int),(pre.length:Int))=some (.inr (.inl ((d:Int),(pre.length:Int)))):=by simp only[M.dJ,M.gu,hg,aJ,aX,dG,iE,ht,Ir,aj,cT0,cT1,cT2,Xg,ho,Y2,hs,hc,h1,hd0]
        rw[aO hb,aj,f1,aJ]
       |false=>
        have hb:M.dJ (ay (pre++t::r)) ((pre++t::r).length:Int) (ay l) (i:Int) false (encS nt) ((d:Int),(pre.length:Int))=some (.inl ((d:Int),((pre.length+1:Nat):Int))):=by simp only[M.dJ,M.gu,hg,aJ,aX,dG,iE,ht,Ir,aj,cT0,cT1,cT2,Xg,ho,Y2,hs,hc,h1,hd0,w1]
        rw[aZ hb,aX];exact hnext d aC hlen
     |false=>
      rw[Bool.false_and,aX];cases hd0:decide ((d:Int)<=0) with
      |true=>
       have hb:M.dJ (ay (pre++t::r)) ((pre++t::r).length:Int) (ay l) (i:Int) false (encS nt) ((d:Int),(pre.length:Int))=some (.inr (.inl ((d:Int),(pre.length:Int)))):=by simp only[M.dJ,M.gu,hg,aJ,aX,dG,iE,ht,Ir,aj,cT0,cT1,cT2,Xg,ho,Y2,hs,hc,hd0]
       rw[aO hb,aj,f1,aJ]
      |false=>
       have hb:M.dJ (ay (pre++t::r)) ((pre++t::r).length:Int) (ay l) (i:Int) false (encS nt) ((d:Int),(pre.length:Int))=some (.inl ((d:Int),((pre.length+1:Nat):Int))):=by simp only[M.dJ,M.gu,hg,aJ,aX,dG,iE,ht,Ir,aj,cT0,cT1,cT2,Xg,ho,Y2,hs,hc,hd0,w1]
       rw[aZ hb,aX];exact hnext d aC hlen
 simp only[M.oh,M.Bl,dZ,hc,aj];have:=hloop (β:=Bool×ak×Int×Bool×ak) (λu=>jg u (λt=>bif ah (encS nt) then some (false,ay l,(i:Int),false,encS nt) else none) λu=>
  jg u (λt=>bif ah (encS nt) then some (true,ay l,(i:Int),false,encS nt) else none) λu=>letE u λt=>bif ah (encS nt) then some (false,ay l,(i:Int),false,encS nt) else none)
  (λb=>some (b,ay l,(i:Int),false,encS nt)) (λa=>by simp only[jg,dY,aJ]) (λa=>by simp only[jg,dY,aJ]) (λa=>by simp only[jg,letE,dY,aJ]) (l.drop i) [] 0 (zaU _) (by simp;omega)
 simpa using this
def az3(l:List Nd)(o:Bool)(d:Int)(hl:l.length<=1048576)(hk:∀n,n∈l->n.kids.length<=1048576/\∀e,e∈n.kids-> -4000000000<=e+d/\e+d<=4000000000):
  M.xG (aU o l) d=some (aU true (l.map (Nd.up d))):=by
 simp only[M.xG,M.Le];have hloop:=wC (b:=M.xQ (aU o l) d) (t:=((l.length:Int),aU true (l.map (Nd.up d)))) (λi=>((i:Int),aU true ((l.take i).map (Nd.up d)))) l.length
  (by
   intro i hi;obtain⟨n,hn⟩:∃n,l[i]? =some n:=⟨l[i],by simp[hi]⟩
   obtain⟨hkl,hke⟩:=hk n (zmg hn);have hin:=wC (b:=M.xO (aU o l) d (i:Int) (aU true ((l.take i).map (Nd.up d))) n.kind n.op n.text n.other) (t:=((n.kids.length:Int),encI (n.kids.map (· +d)))) (λj=>((j:Int),encI ((n.kids.take j).map (· +d)))) n.kids.length
    (by
     intro j hj;obtain⟨e,he⟩:∃e,n.kids[j]? =some e:=⟨n.kids[j],by simp[hj]⟩
     have:=hke e (zmg he);simp only[EY,M.xO,M.xM,dG,oO,hn,Ir,aj,cN4,jK,BP,he,cI0,zaV,zlt,Bd];rw[zdt aC,aJ,bC aC,aJ,bC aC,aJ,bF aC aC,bF aC aC,qL he];simp[encI])
    (by simp only[EY,M.xO,M.xM,dG,oO,hn,Ir,aj,cN4,jK];rw[Ac aC,aX,List.take_length]) 0 (Nat.zero_le _)
   simp only[agJ,List.take_zero,List.map_nil] at hin;have hin':M.JK (aU o l) d (i:Int) (aU true ((l.take i).map (Nd.up d))) n.kind n.op n.text n.other (0,[])=some ((n.kids.length:Int),encI (n.kids.map (· +d))):=hin;simp only[EY,M.xQ,M.xP,gV,dG,oO,hn,Ir,aj,cN0,cN1,cN2,cN3,cN4,hin',Vu,aJ,zaV,zlt,Bd];rw[zdt aC,aJ,bC aC,aJ,bC aC,aJ,bF aC aC,qL hn,List.map_append,Gm];rfl)
  (by simp only[EY,M.xQ,M.xP,gV];rw[Ac aC,aX,List.take_length]) 0 (Nat.zero_le _)
 simp only[agJ,List.take_zero,List.map_nil] at hloop;have Mc:M.JL (aU o l) d (0,[])=some ((l.length:Int),aU true (l.map (Nd.up d))):=hloop;rw[Mc,aj]
def parts(ts:List Tn):ak:=ts.map λt=>[.sl false 5 (aU false (t.flat 0))]
def EI(k op:Int)(x y:aK)(kr:ak)(ts:List Tn)(hs:sizes ts<=900000):M.bU k op x y kr (parts ts)=some (aU true ((Tn.mk k op x y ts).flat 0)):=by
 have htl:=yP ts;simp only[EY,M.bU,M.N7];have hpl:(parts ts).length=ts.length:=by simp[parts]
 have hloop:=wC (b:=M.zo (parts ts) k op x y) (t:=((ts.length:Int),aU true (qU ts 0),encI (ends ts 0))) (λj=>((j:Int),aU true (qU (ts.take j) 0),encI (ends (ts.take j) 0))) ts.length
  (by
   intro j hj;obtain⟨t,ht⟩:∃t,ts[j]? =some t:=⟨ts[j],by simp[hj]⟩
   have hst:=Pm ht;have hp:=t.size_pos;have hr:(parts ts)[j]? =some [.sl false 5 (aU false (t.flat 0))]:=by simp[parts,ht]
   have c0:cSl 5 [D.sl false 5 (aU false (t.flat 0))] 0=some (aU false (t.flat 0)):=rfl;have hfl:(aU true (qU (ts.take j) 0)).length=sizes (ts.take j):=by rw[gV,uV]
   have hsh:M.xG (aU false (t.flat 0)) ((sizes (ts.take j):Nat):Int)=some (aU true (t.flat (sizes (ts.take j)))):=by
    rw[az3 (t.flat 0) false _ (by rw[t.flat_length];omega) (λn hn=> ?_)]
    ·rw[t.atz 0 (sizes (ts.take j))];congr 4<;>omega
    ·obtain⟨h1,h2⟩:=SI t 0 n hn;refine⟨aC,λe he=> ?_⟩;have:=h2 e he;omega
   have hrl:(aU true (t.flat (sizes (ts.take j)))).length=t.size:=by rw[gV,t.flat_length]
   have hel:(encI (ends (ts.take j) 0)).length=j:=by rw[jK,Iw,zlt];omega
   simp only[EY,M.zo,M.zn,hpl,dG,hr,aj,c0,hfl,hsh,hrl,hel,DJ,Bd];rw[zdt aC,aJ,bC aC,aJ,bC aC,aJ,bC aC,aJ,bC aC,aJ,bF aC aC,bF aC aC,akE ht,am3 ht,Gm,Nat.zero_add];simp[encI])
  (by simp only[EY,M.zo,M.zn,hpl];rw[Ac aC,aX,List.take_length]) 0 (Nat.zero_le _)
 have e0:aU true (qU (ts.take 0) 0)=[]:=rfl;have e1:encI (ends (ts.take 0) 0)=[]:=rfl;rw[agJ,e0,e1] at hloop;have Mc:M.DY (parts ts) k op x y (0,[],[])=some ((ts.length:Int),aU true (qU ts 0),encI (ends ts 0)):=hloop;rw[Mc,aj];simp only[Vu,aJ,gV,uV,Bd];rw[bC aC,aJ,bC aC,aJ,Tn.flat,Gm];rfl
def az4(o w:Bool)(ts:List Tn):au (ts.map λt=>[D.sl w 5 (aU o (t.flat 0))])=parts ts:=by rw[Wi,List.map_map];unfold parts;congr 1;funext t;simp[EK,D.fz,aV]
def bg(l:List Tk):ah (ay l)=true:=by simp[ah,ay,alf,D.flat]
abbrev txt(ns:List Tk):gW:=ns.map Tk.text
def shK(d:Int)(n:Nd):Nd:={n with kids:=n.kids.map λe=>i64.wrap (e+d)}
def awj(l:List Nd)(o:Bool)(d:Int)(hl:l.length<=1048576)(hk:∀n,n∈l->n.kids.length<=1048576):
  M.xG (aU o l) d=some (aU true (l.map (shK d))):=by
 simp only[M.xG,M.Le];have hloop:=wC (b:=M.xQ (aU o l) d) (t:=((l.length:Int),aU true (l.map (shK d)))) (λi=>((i:Int),aU true ((l.take i).map (shK d)))) l.length
  (by
   intro i hi;obtain⟨n,hn⟩:∃n,l[i]? =some n:=⟨l[i],by simp[hi]⟩
   have hkl:=hk n (zmg hn);have hin:=wC (b:=M.xO (aU o l) d (i:Int) (aU true ((l.take i).map (shK d))) n.kind n.op n.text n.other) (t:=((n.kids.length:Int),encI (n.kids.map λe=>i64.wrap (e+d)))) (λj=>((j:Int),encI ((n.kids.take j).map λe=>i64.wrap (e+d)))) n.kids.length
    (by
     intro j hj;obtain⟨e,he⟩:∃e,n.kids[j]? =some e:=⟨n.kids[j],by simp[hj]⟩
     simp only[EY,M.xO,M.xM,dG,oO,hn,Ir,aj,cN4,jK,BP,he,cI0,zaV,zlt,Bd];rw[zdt aC,aJ,bC aC,aJ,bC aC,aJ,bF (n:=(j:Int)+1) aC aC,qL he];simp[encI])
    (by simp only[EY,M.xO,M.xM,dG,oO,hn,Ir,aj,cN4,jK];rw[Ac aC,aX,List.take_length]) 0 (Nat.zero_le _)
   simp only[agJ,List.take_zero,List.map_nil] at hin;have hin':M.JK (aU o l) d (i:Int) (aU true ((l.take i).map (shK d))) n.kind n.op n.text n.other (0,[])=some ((n.kids.length:Int),encI (n.kids.map λe=>i64.wrap (e+d))):=hin;simp only[EY,M.xQ,M.xP,gV,dG,oO,hn,Ir,aj,cN0,cN1,cN2,cN3,cN4,hin',Vu,aJ,zaV,zlt,Bd];rw[zdt aC,aJ,bC aC,aJ,bC aC,aJ,bF aC aC,qL hn,List.map_append,Gm];rfl)
  (by simp only[EY,M.xQ,M.xP,gV];rw[Ac aC,aX,List.take_length]) 0 (Nat.zero_le _)
 simp only[agJ,List.take_zero,List.map_nil] at hloop;have Mc:M.JL (aU o l) d (0,[])=some ((l.length:Int),aU true (l.map (shK d))):=hloop;rw[Mc,aj]
def RB(R:List Nd)(b:Nat):Prop:=R.length<=b/\∀n,n∈R->n.kids.length<=100000
def RB.mono{R:List Nd}{a b:Nat}(h:RB R a)(hab:a<=b):RB R b:=⟨by have:=h.1;omega,h.2⟩
def RB.tree(t:Tn)(h:t.size<=100000):RB (t.flat 0) t.size:=⟨by rw[t.flat_length];omega,λn hn=>by have:=(SI t 0 n hn).1;omega⟩
def lens:List (List Nd)->Nat
 |[]=>0
 |R::P=>R.length+lens P
def uy(P:List (List Nd)):ak:=P.map λR=>[.sl false 5 (aU false R)]
def yZ:∀a b:List (List Nd),lens (a++b)=lens a+lens b
 |[],b=>by simp[lens]
 |R::a,b=>by rw[zca,lens,lens,yZ a b];omega
def aqT(k op:Int)(x y:aK)(kr:ak)(P:List (List Nd))(hl:lens P<=100000)(hn:P.length<=100000)(hk:∀R,R∈P->∀n,n∈R->n.kids.length<=100000):
  ∃R',M.bU k op x y kr (uy P)=some (aU true R')/\R'.length=lens P+1/\∀n,n∈R'->n.kids.length<=100000:=by
 have hloop:∀(Q pre:List (List Nd)) (A:List Nd) (B:List Int),P=pre++Q->A.length=lens pre->B.length=pre.length->(∀n,n∈A->n.kids.length<=100000)->
   ∃A' B',M.DY (uy P) k op x y ((pre.length:Int),aU true A,encI B)=some ((P.length:Int),aU true A',encI B')/\A'.length=lens P/\B'.length=P.length/\∀n,n∈A'->n.kids.length<=100000:=by
  intro Q;induction Q with
  |nil=>intro pre A B hP hA hB hkA;rw[List.append_nil] at hP;subst hP;refine⟨A,B, ?_,hA,hB,hkA⟩;refine aO ?_;simp only[EY,M.zo,M.zn,show(uy P).length=P.length by simp[uy]];rw[Ac aC,aX]
  |cons R Q ih=>
   intro pre A B hP hA hB hkA;have hPl:P.length=pre.length+(Q.length+1):=by rw[hP,DJ,Zr]
   have hPs:lens P=lens pre+(R.length+lens Q):=by rw[hP,yZ,lens]
   have hR:R∈P:=by rw[hP];simp
   have hg:(uy P)[pre.length]? =some [.sl false 5 (aU false R)]:=by rw[uy,List.getElem?_map,hP];simp
   have c0:cSl 5 [D.sl false 5 (aU false R)] 0=some (aU false R):=rfl;have hsh:=awj R false (A.length:Int) aC (λn hn=>by have:=hk R hR n hn;omega);have hb:M.zo (uy P) k op x y ((pre.length:Int),aU true A,encI B)=some (.inl (((pre++[R]).length:Int),aU true (A++R.map (shK (A.length:Int))),encI (B++[((A.length+R.length:Nat):Int) - 1]))):=by simp only[EY,M.zo,M.zn,show(uy P).length=P.length by simp[uy],dG,hg,aj,c0,gV,hsh,zaV,DJ,jK,Bd];rw[zdt aC,aJ,bC aC,aJ,bC aC,aJ,bC aC,aJ,bC aC,aJ,bF aC aC,bF aC aC,Gm];simp[encI]
   rw[M.DY,aZ hb];refine ih (pre++[R]) _ _ (by rw[hP];simp) ?_ ?_ ?_
   ·rw[DJ,zaV,hA,yZ,lens,lens];omega
   ·rw[DJ,DJ,hB];rfl
   ·intro n hn;rcases List.mem_append.1 hn with hn|hn
    ·exact hkA n hn
    ·obtain⟨n',h1,rfl⟩:=List.mem_map.1 hn;simp only[shK,zaV];exact hk R hR n' h1
 obtain⟨A',B',h1,h2,h3,h4⟩:=hloop P [] [] [] rfl rfl rfl (λn hn=>by cases hn);have h1':M.DY (uy P) k op x y (0,[],[])=some ((P.length:Int),aU true A',encI B'):=h1;refine⟨A'++[⟨k,op,x,y,B'⟩], ?_,by rw[DJ,Bd,h2], ?_⟩
 ·simp only[EY,M.bU,M.N7,h1',aj,Vu,aJ,gV,Bd];rw[bC aC,aJ,bC aC,aJ,Gm];rfl
 ·intro n hn;rcases List.mem_append.1 hn with hn|hn
  ·exact h4 n hn
  ·rw[List.mem_singleton] at hn;subst hn;show B'.length<=100000;omega
def yC(ts:List Tn):parts ts=uy (ts.map λt=>t.flat 0):=by simp[parts,uy]
variable {l:List Tk}
def iy(i:Nat)(b:Bool)(ns:List Tk):M.aN (ay l) (i:Int) b (ay ns)=some (bG l i,ay l,(i:Int),b,ay ns):=by
 simp only[M.aN,M.Qh,dZ,bg,aJ,bG]
 by_cases h:i<l.length
 ·rw[Ac aC,aX];obtain⟨t,ht⟩:∃t,l[i]? =some t:=⟨l[i],by simp[h]⟩
  simp only[dG,iE,ht,Ir,aj,cT0]
 ·rw[zdt aC,aJ,List.getElem?_eq_none aC]
def aof(hl:l.length<=3000){i:Nat}(h:i<l.length):i64.wrap ((i:Int)+1)=((i+1:Nat):Int):=by rw[bF aC aC];omega
def dO(l:List Tk)(i:Nat):Int:=match l[i]? with|some t=>t.at_|none=>0
def fM(hl:l.length<=3000){k:Int}{i:Nat}{ns:List Tk}(h:bG l i=k)(hk:k≠0):M.aI k (ay l) (i:Int) false (ay ns)=some (k,CG l i,dO l i,ay l,((i+1:Nat):Int),false,ay ns):=by
 have hlt:i<l.length:=eP (by rw[h];exact hk);obtain⟨t,ht⟩:∃t,l[i]? =some t:=⟨l[i],by simp[hlt]⟩
 have e1:t.kind=k:=by rw[bG,ht] at h;exact h
 have e:(bG l i==k)=true:=by rw[h];exact BEq.rfl
 simp only[M.aI,M.Hq,bg,aJ,aX,iy,aj,bne,e,zaT,dG,iE,ht,Ir,cT0,cT1,cT2,aof hl hlt,e1,CG,dO]
def wS{k:Int}{i:Nat}{ns:List Tk}(h:(bG l i==k)=false):M.aI k (ay l) (i:Int) false (ay ns)=some (0,[],0,ay l,(i:Int),true,ay ns):=by simp only[M.aI,M.Hq,bg,aJ,aX,iy,aj,bne,h,Bool.not_false]
def lN(k:Int)(i:Nat)(ns:List Tk):M.aI k (ay l) (i:Int) true (ay ns)=some (0,[],0,ay l,(i:Int),true,ay ns):=by simp only[M.aI,M.Hq,bg,aJ]
def aog(k:Int):M.uN k=some (isStep k):=by simp only[M.uN,M.Ox,isStep];cases k==51<;>rfl
def aQ8(k:Int):M.qh k=some (asF k):=by simp only[M.qh,M.FD,asF];cases k==3<;>cases k==4<;>cases k==6<;>cases k==7<;>cases k==8<;>cases k==32<;>cases k==68<;>rfl
def aoh(k:Int):M.sF k=some (Ip k):=by simp only[M.sF,M.Oy,Ip];cases k==0<;>cases k==1<;>cases k==2<;>cases k==37<;>rfl
def aoi(k:Int):M.ng k=some (zQ k):=by simp only[M.ng,M.Jf,zQ];cases k==62<;>cases k==53<;>rfl
def Y3(k:Int):M.sS k=some (Y1 k):=by simp only[M.sS,M.Lc,Y1];cases k==32<;>cases k==34<;>cases k==30<;>rfl
def Y4(k:Int):M.qG k=some (XC k):=by simp only[M.qG,M.JH,XC];cases k==33<;>cases k==35<;>cases k==31<;>rfl
def aXC(k:Int):M.pF k=some (abE k):=by simp only[M.pF,M.JJ,abE];cases k==1<;>cases k==5<;>rfl
def az5(t:Tn)(h:Bool)(hs:t.size<=100000):M.Dn (aU false (t.flat 0)) h=some (!h && abE t.kind):=by
 have hp:=t.size_pos;have hsk:=t.X3;have hr:(t.flat 0)[t.size - 1]? =some ⟨t.kind,t.op,t.text,t.other,Go.Vm.ends t.kids 0⟩:=by have:=Lies.root' (Lies.whole t);rw[show t.size - 1=0+sizes t.kids by omega];exact this
 simp only[EY,M.Dn,M.Tz,M.I4,M.Qi,gV,t.flat_length];cases h with
 |true=>rfl
 |false=>rw[show((t.size:Int)==0)=false by rw[Y6];omega,bF aC aC,show(t.size:Int) - 1=((t.size - 1:Nat):Int) by omega];simp only[aX,Bool.not_false,aJ,dG,oO,hr,Ir,aj,cN0,cN1,cN2,cN3,cN4,aXC,Bool.true_and]
def KU(hl:l.length<=3000)(i:Nat)(ns:List Tk)(hi:i<=l.length)(hn:ns.length<=i):
  ∃ns',txt ns'=(nl l i (txt ns)).2/\M.bZ (ay l) (i:Int) false (ay ns)=some (ay l,((nl l i (txt ns)).1:Int),false,ay ns'):=by
 have hstep:∀i (ns:List Tk),(b:Bool)->i<l.length->bG l i=1->M.vS (bif b then .inl (ay l,(i:Int),false,ay ns) else .inr (ay l,(i:Int),false,ay ns))=some (.inl (.inr (ay l,((i+1:Nat):Int),false,ay ns))):=by intro i ns b hlt hk;have h12:((1:Int)==2)=false:=rfl;cases b<;>simp only[EY,aJ,aX,M.vS,M.zl,Bool.not_false,bg,iy,aj,hk,aof hl hlt,BEq.rfl,h12]
 have hstep2:∀i (ns:List Tk),(b:Bool)->i<l.length->ns.length<=i->bG l i=2->∃t:Tk,t.text=CG l i/\M.vS (bif b then .inl (ay l,(i:Int),false,ay ns) else .inr (ay l,(i:Int),false,ay ns))=some (.inl (.inr (ay l,((i+1:Nat):Int),false,ay (ns++[t])))):=by
  intro i ns b hlt hni hk;obtain⟨t,ht⟩:∃t,l[i]? =some t:=⟨l[i],by simp[hlt]⟩
  have e2:CG l i=t.text:=by rw[CG,ht]
  have h21:((2:Int)==1)=false:=rfl;have hsn:ay ns++[[D.int .i64 t.kind,D.str t.text,D.int .i64 t.at_]]=ay (ns++[t]):=by simp[ay,alf]
  refine⟨t,e2.symm, ?_⟩;cases b<;>simp only[EY,aJ,aX,M.vS,M.zl,Bool.not_false,bg,iy,aj,hk,h21,BEq.rfl,aof hl hlt,dG,iE,ht,Ir,cT0,cT1,cT2,hsn,dZ,Bd]<;>
   rw[bC aC,aJ,bC aC,aJ]
 have aoe:∀i (ns:List Tk),(b:Bool)->(bG l i==1)=false->(bG l i==2)=false->M.vS (bif b then .inl (ay l,(i:Int),false,ay ns) else .inr (ay l,(i:Int),false,ay ns))=some (.inr (ay l,(i:Int),false,ay ns)):=by intro i ns b h1 h2;cases b<;>simp only[EY,aJ,aX,M.vS,M.zl,Bool.not_false,bg,iy,aj,h1,h2]
 have hloop:∀(k i:Nat) (ns:List Tk) (b:Bool),l.length - i<=k->i<=l.length->ns.length<=i->∃ns',txt ns'=(nl l i (txt ns)).2/\M.tq (bif b then .inl (ay l,(i:Int),false,ay ns) else .inr (ay l,(i:Int),false,ay ns))=some (ay l,((nl l i (txt ns)).1:Int),false,ay ns'):=by
  intro k;induction k with
  |zero=>
   intro i ns b hk hi hn;have e:bG l i=0:=by rw[bG,List.getElem?_eq_none aC]
   have h1:(bG l i==1)=false:=by rw[e];rfl
   have h2:(bG l i==2)=false:=by rw[e];rfl
   refine⟨ns, ?_, ?_⟩
   ·rw[Xh,h1,h2];rfl
   ·rw[M.tq,aO (aoe i ns b h1 h2),Xh,h1,h2];rfl
  |succ k ih=>
   intro i ns b hk hi hn;cases h1:bG l i==1 with
   |true=>
    have e:bG l i=1:=by rwa [beq_iff_eq] at h1
    have hlt:=dI h1 (by decide);obtain⟨ns',e1,e2⟩:=ih (i+1) ns false aC aC aC;refine⟨ns', ?_, ?_⟩
    ·rw[Xh,h1];exact e1
    ·rw[M.tq,aZ (hstep i ns b hlt e),Xh,h1];exact e2
   |false=>
    cases h2:bG l i==2 with
    |true=>
     have e:bG l i=2:=by rwa [beq_iff_eq] at h2
     have hlt:=dI h2 (by decide);obtain⟨t,et,hb⟩:=hstep2 i ns b hlt hn e;obtain⟨ns',e1,e2⟩:=ih (i+1) (ns++[t]) false aC aC (by rw[DJ,Bd];omega);rw[show txt (ns++[t])=txt ns++[CG l i] by rw[<-et];simp[txt]] at e1 e2;refine⟨ns', ?_, ?_⟩
     ·rw[Xh,h1,h2];exact e1
     ·rw[M.tq,aZ hb,Xh,h1,h2];exact e2
    |false=>
     refine⟨ns, ?_, ?_⟩
     ·rw[Xh,h1,h2];rfl
     ·rw[M.tq,aO (aoe i ns b h1 h2),Xh,h1,h2];rfl
 obtain⟨ns',e1,e2⟩:=hloop _ i ns true (zaU _) hi hn;simp only[aJ] at e2;refine⟨ns',e1, ?_⟩;simp only[M.bZ,M.JI,e2,aj,bg,aJ]
def Md(i:Nat)(ns:List Tk):M.bZ (ay l) (i:Int) true (ay ns)=some (ay l,(i:Int),true,ay ns):=by have:M.tq (.inl (ay l,(i:Int),true,ay ns))=some (ay l,(i:Int),true,ay ns):=aO rfl;simp only[M.bZ,M.JI,this,aj,bg,aJ]
abbrev TX:=Bool×ak×Bool×ak×Int×Bool×ak
abbrev TY:=Bool×ak×ak×Int×Bool×ak
def AX(l:List Tk)(i:Nat)(o:Option TX):PR Xp->Prop
 | .ok x j nt=>∃fl rows ns,au rows=aU false (x.1.flat 0)/\txt ns=nt/\o=some (fl,rows,x.2,ay l,(j:Int),false,ay ns)
 | .bad j=>∃fl rows hd ns R,i<=j/\j<=l.length/\ns.length<=l.length/\au rows=aU false R/\RB R (3 * (j - i))/\o=some (fl,rows,hd,ay l,(j:Int),true,ay ns)
 | .out=>True
def AY(l:List Tk)(i:Nat)(o:Option TY):PR (List Tn)->Prop
 | .ok L j nt=>∃fl ns,txt ns=nt/\o=some (fl,parts L,ay l,(j:Int),false,ay ns)
 | .bad j=>∃fl ns P,i<=j/\j<=l.length/\ns.length<=l.length/\lens P<=3 * (j - i)/\P.length<=8/\(∀R,R∈P->∀n,n∈R->n.kids.length<=100000)/\o=some (fl,uy P,ay l,(j:Int),true,ay ns)
 | .out=>True
variable {l:List Tk}
def AX.elim{β γ:Type}{Q:Option β->PR γ->Prop}{i:Nat}{o:Option TX}{p:PR Xp}(h:AX l i o p){f:TX->Option β}{g:Xp->Nat->gW->PR γ}(hout:∀o,Q o .out)
  (hbad:∀fl rows hd j ns R,i<=j->j<=l.length->ns.length<=l.length->au rows=aU false R->RB R (3 * (j - i))->Q (f (fl,rows,hd,ay l,((j:Nat):Int),true,ay ns)) (.bad j))
  (hok:∀x fl rows j ns,au rows=aU false (x.1.flat 0)->p=.ok x j (txt ns)->Q (f (fl,rows,x.2,ay l,(j:Int),false,ay ns)) (g x j (txt ns))):Q (o.bind f) (p.bind g):=by
 cases p with
 |ok x j nt=>obtain⟨fl,rows,ns,h1,rfl,rfl⟩:=h;exact hok x fl rows j ns h1 rfl
 |bad j=>obtain⟨fl,rows,hd,ns,R,h1,h2,h3,h4,h5,rfl⟩:=h;exact hbad fl rows hd j ns R h1 h2 h3 h4 h5
 |out=>exact hout _
def AY.elim{β γ:Type}{Q:Option β->PR γ->Prop}{i:Nat}{o:Option TY}{p:PR (List Tn)}(h:AY l i o p){f:TY->Option β}{g:List Tn->Nat->gW->PR γ}(hout:∀o,Q o .out)
  (hbad:∀fl j ns P,i<=j->j<=l.length->ns.length<=l.length->lens P<=3 * (j - i)->P.length<=8->(∀R,R∈P->∀n,n∈R->n.kids.length<=100000)->Q (f (fl,uy P,ay l,((j:Nat):Int),true,ay ns)) (.bad j))
  (hok:∀L fl j ns,p=.ok L j (txt ns)->Q (f (fl,parts L,ay l,(j:Int),false,ay ns)) (g L j (txt ns))):Q (o.bind f) (p.bind g):=by
 cases p with
 |ok L j nt=>obtain⟨fl,ns,rfl,rfl⟩:=h;exact hok L fl j ns rfl
 |bad j=>obtain⟨fl,ns,P,h1,h2,h3,h4,h5,h6,rfl⟩:=h;exact hbad fl j ns P h1 h2 h3 h4 h5 h6
 |out=>exact hout _
def AX.mk{x:Xp}{i j:Nat}{fl hd:Bool}{rows:ak}{ns:List Tk}(h:au rows=aU false (x.1.flat 0))(h':hd=x.2):AX l i (some (fl,rows,hd,ay l,(j:Int),false,ay ns)) (.ok x j (txt ns)):=by subst h';exact⟨_,_,_,h,rfl,rfl⟩
def AX.fO{i j:Nat}{fl hd:Bool}{rows:ak}{ns:List Tk}{R:List Nd}(h1:i<=j)(h2:j<=l.length)(h3:ns.length<=l.length)(h4:au rows=aU false R)(h5:RB R (3 * (j - i))):AX l i (some (fl,rows,hd,ay l,(j:Int),true,ay ns)) (.bad j):=⟨_,_,_,_,_,h1,h2,h3,h4,h5,rfl⟩
def AX.pass{i i':Nat}{o:Option TX}{p:PR Xp}(h:AX l i o p)(hi:i'<=i){f:TX->Option TX}
  (hf:∀fl rows hd c1 b ns,f (fl,rows,hd,ay l,c1,b,ay ns)=some (false,au rows,hd,ay l,c1,b,ay ns)):AX l i' (o.bind f) p:=by
 rw[<-PR.bind_ok p];refine AX.elim (Q:=AX l i') h (λ_=>trivial) (λfl rows hd j ns R h1 h2 h3 h4 h5=> ?_) (λx fl rows j ns hk _=> ?_)
 ·rw[hf];exact AX.fO aC h2 h3 (by rw[h4,aV]) (h5.mono aC)
 ·rw[hf];exact AX.mk (by rw[hk,aV]) rfl
def fzN{rows:ak}{R:List Nd}(h:au rows=aU false R):au (au rows)=aU false R:=by rw[h,aV]
def Df(P:List (List Nd)):au (uy P)=uy P:=by rw[uy,Wi,List.map_map];congr 1;funext R;simp[EK,D.fz,aV]
def aqU(k op:Int)(x y:aK)(kr:ak)(P:List (List Nd))(hl:lens P<=100000)(hn:P.length<=100000)(hk:∀R,R∈P->∀n,n∈R->n.kids.length<=100000):
  ∃R',M.dV k op x y kr (uy P)=some (false,aU false R',false)/\R'.length=lens P+1/\∀n,n∈R'->n.kids.length<=100000:=by
 obtain⟨R',h1,h2,h3⟩:=aqT k op x y kr P hl hn hk;exact⟨R',by simp only[M.dV,M.Lh,h1,aj,aV],h2,h3⟩
def agQ(k op:Int)(x y:aK)(kr:ak)(ts:List Tn)(h:sizes ts<=100000):M.dV k op x y kr (uy (ts.map λt=>t.flat 0))=some (false,aU false ((Tn.mk k op x y ts).flat 0),false):=by have:=EI k op x y kr ts aC;rw[yC] at this;simp only[M.dV,M.Lh,this,aj,aV]
def aGC(k op:Int)(x y:aK)(kr:ak)(ts:List Tn){R:List Nd}{b:Nat}(hR:RB R b)(hs:sizes ts+b<=90000):
  ∃R',M.dV k op x y kr (uy ((ts.map λt=>t.flat 0)++[R]))=some (false,aU false R',false)/\RB R' (sizes ts+b+1):=by
 have hlen:∀ts:List Tn,lens (ts.map λt=>t.flat 0)=sizes ts:=by
  intro ts;induction ts with
  |nil=>rfl
  |cons t ts ih=>rw[zmc,lens,sizes,t.flat_length,ih]
 have hsl:=yP ts;obtain⟨R',h1,h2,h3⟩:=aqU k op x y kr ((ts.map λt=>t.flat 0)++[R]) (by rw[yZ,hlen,lens,lens];have:=hR.1;omega) (by rw[DJ,zaV,Bd];omega) (by
  intro Q hQ n hn;rcases List.mem_append.1 hQ with hQ|hQ
  ·obtain⟨t,ht,rfl⟩:=List.mem_map.1 hQ;have:=(SI t 0 n hn).1;have:=agj ht;omega
  ·rw[List.mem_singleton] at hQ;subst hQ;exact hR.2 n hn)
 refine⟨R',h1, ?_,h3⟩;rw[h2,yZ,hlen,lens,lens];have:=hR.1;omega
def aie(lv:Nat)(p:Int)(p1 a b p4:Bool)(i:Nat)(ns:List Tk)(h3:3<=lv)(h10:lv<=10):M.mW (lv:Int) p p1 a b p4 (ay l) (i:Int) false (ay ns)=some (Ez lv b (bG l i),ay l,(i:Int),false,ay ns):=by
 simp only[M.mW,M.Qk,bg,aJ,aX,iy,aj,Bool.not_false,aQ8,Ez];generalize bG l i=k;cases h8:Nat.beq lv 8 with
 |true=>have e:=MB h8;subst e;rfl
 |false=>
  have e8:((lv:Int)==8)=false:=by have:=Nat.ne_of_beq_eq_false h8;rw[Y6];omega
  rw[e8,aX,aX];cases h0:k==0 with
  |true=>
   have e:k=0:=by rwa [beq_iff_eq] at h0
   subst e;have:(IQ 0==(lv:Int))=false:=by rw[Y6];show(0:Int)≠lv;omega
   simp only[this,Bool.false_and,bne,BEq.rfl,zaT,aX]
  |false=>
   cases h99:k==99 with
   |true=>
    have e:k=99:=by rwa [beq_iff_eq] at h99
    subst e;have:(IQ 99==(lv:Int))=false:=by have:=Nat.ne_of_beq_eq_false h8;rw[Y6];show(8:Int)≠lv;omega
    simp only[this,h0,Bool.false_and,bne,BEq.rfl,zaT,Bool.not_false,aX,aJ]
   |false=>
    simp only[bne,h0,h99,Bool.not_false,aJ,(SL _).2,aj];cases IQ k==(lv:Int) with
    |false=>rfl
    |true=>cases k==62<;>cases b<;>rfl
def Wp{lv:Nat}{b:Bool}{k:Int}(h:Nat.beq lv 7=false):Ez lv b k=Ez lv (b && Nat.beq lv 7) k:=by
 rw[h,Bool.and_false];unfold Ez;cases h8:Nat.beq lv 8 with
 |true=>rfl
 |false=>
  simp only[aX,Bool.false_and,Bool.not_false,Bool.and_true];cases hk:k==62 with
  |false=>simp
  |true=>
   have e:k=62:=by rwa [beq_iff_eq] at hk
   subst e;have:(IQ 62==(lv:Int))=false:=by have:=Nat.ne_of_beq_eq_false h;rw[Y6];show(7:Int)≠lv;omega
   rw[this];rfl
abbrev T7:=Int×ak×Int×Bool×ak×Bool×ak
def AZ(l:List Tk)(i:Nat)(o:Option T7):PR Xp->Prop
 | .ok x j nt=>∃cnt ns,txt ns=nt/\o=some (cnt,ay l,(j:Int),false,aU false (x.1.flat 0),x.2,ay ns)
 | .bad j=>∃cnt hd ns R,i<=j/\j<=l.length/\ns.length<=l.length/\RB R (3 * (j - i))/\o=some (cnt,ay l,(j:Int),true,aU false R,hd,ay ns)
 | .out=>True
def abX(hl:l.length<=3000){bd:T7->Option (T7⊕T7)}{lv:Nat}{a b:Bool}{f:ak->Int->Bool->ak->Option TX}(h3:3<=lv)(h10:lv<=10)
  (hstop:∀(cnt:Nat) (i:Nat) rows hd ns,cnt<3000->bd ((cnt:Int),ay l,(i:Int),true,rows,hd,ay ns)=some (.inr ((cnt:Int),ay l,(i:Int),true,rows,hd,ay ns)))
  (hend:∀(cnt:Nat) (i:Nat) rows hd ns,cnt<3000->Ez lv (b && Nat.beq lv 7) (bG l i)=false->bd ((cnt:Int),ay l,(i:Int),false,rows,hd,ay ns)=some (.inr ((cnt:Int),ay l,(i:Int),false,rows,hd,ay ns)))
  (hop:∀(cnt:Nat) (i:Nat) rows hd ns,cnt<3000->Ez lv (b && Nat.beq lv 7) (bG l i)=true->i<l.length->ns.length<=i->
   ∃U5,txt U5=(bif Nat.beq lv 8 then(i,txt ns) else bif Nat.ble lv 4 then nl l (i+1) (txt ns) else(i+1,txt ns)).2/\
   bd ((cnt:Int),ay l,(i:Int),false,rows,hd,ay ns)=(f (ay l) (((bif Nat.beq lv 8 then(i,txt ns) else bif Nat.ble lv 4 then nl l (i+1) (txt ns) else(i+1,txt ns)).1:Nat):Int) false (ay U5)).bind λr=>(M.dV 12 (bif Nat.beq lv 8 then 99 else bG l i) [] [] [] (au [[D.sl false 5 rows],[D.sl false 5 (au r.2.1)]])).bind λr'=>some (.inl (((cnt+1:Nat):Int),r.2.2.2.1,r.2.2.2.2.1,r.2.2.2.2.2.1,au r'.2.1,r'.2.2,r.2.2.2.2.2.2))):
  ∀n,(∀n',n'<=n->∀i ns,i<=l.length->ns.length<=i->AX l i (f (ay l) (i:Int) false (ay ns)) (ex l n' (lv+1) a b i (txt ns)))->
   ∀(i0 cnt:Nat) (x:Xp) (i:Nat) (ns:List Tk),cnt<i->i0<i->i<=l.length->ns.length<=i->x.1.size+2 * i0+1<=2 * i->AZ l i0 (gU bd ((cnt:Int),ay l,(i:Int),false,aU false (x.1.flat 0),x.2,ay ns)) (chP l n lv a b x i (txt ns))
 |0,_,_,_,_,_,_,_,_,_,_,_=>by rw[chP];trivial
 |n+1,hrec,i0,cnt,x,i,ns,hcnt,hi0,hi,hn,hsx=>by
  rw[chP];cases hc:Ez lv (b && Nat.beq lv 7) (bG l i) with
  |false=>rw[aO (hend cnt i _ _ ns aC hc)];exact⟨_,ns,rfl,rfl⟩
  |true=>
   have hlt:=eP (ND h3 hc);obtain⟨U5,et,hq⟩:=hop cnt i (aU false (x.1.flat 0)) x.2 ns aC hc hlt hn;have hqb:FN l i (txt ns).length (bif Nat.beq lv 8 then(i,txt ns) else bif Nat.ble lv 4 then nl l (i+1) (txt ns) else(i+1,txt ns)).1 (bif Nat.beq lv 8 then(i,txt ns) else bif Nat.ble lv 4 then nl l (i+1) (txt ns) else(i+1,txt ns)).2.length:=by
    cases Nat.beq lv 8<;>cases Nat.ble lv 4<;>simp only[aJ,aX]
    ·omega
    ·have:=EC (l:=l) (i:=i+1) (nt:=txt ns) aC;omega
    ·omega
    ·omega
   simp only[aJ];generalize (bif Nat.beq lv 8 then(i,txt ns) else bif Nat.ble lv 4 then nl l (i+1) (txt ns) else(i+1,txt ns))=q at hq hqb et|-;rw[<-et] at hqb|-;simp only[zaV] at hqb;have hr:=hrec n (Nat.le_succ n) q.1 U5 aC aC;have hs:=(sats l n).ex (lv+1) a b q.1 (txt U5) aC aC aC;generalize ex l n (lv+1) a b q.1 (txt U5)=p at hr hs|-;cases p with
   |ok y j m=>
    obtain⟨fl,rows,NG,h1,rfl,h2⟩:=hr;have hs':FE l q.1 (txt U5).length y.1.size j (txt NG).length:=hs;simp only[zaV] at hs';have hp2:sizes [x.1,y.1]=x.1.size+y.1.size:=by simp only[sizes,Nat.add_zero]
    have ho:=agQ 12 (bif Nat.beq lv 8 then 99 else bG l i) [] [] [] [x.1,y.1] aC;rw[h2,aj] at hq;simp only[h1,show au [[D.sl false 5 (aU false (x.1.flat 0))],[D.sl false 5 (aU false (y.1.flat 0))]]=uy ([x.1,y.1].map λt=>t.flat 0) from Df [x.1.flat 0,y.1.flat 0],ho,aj,aV] at hq;rw[aZ hq];exact abX hl h3 h10 hstop hend hop n (λn' h=>hrec n' aC) i0 (cnt+1) (Tn.mk 12 (bif Nat.beq lv 8 then 99 else bG l i) [] [] [x.1,y.1],false) j NG aC aC aC aC (by rw[size2];omega)
   |bad j=>
    obtain⟨fl,rows,hd,NG,R,g1,g2,g3,g4,g5,h2⟩:=hr;have hp1:sizes [x.1]=x.1.size:=by simp only[sizes,Nat.add_zero]
    obtain⟨R',h5,h6⟩:=aGC 12 (bif Nat.beq lv 8 then 99 else bG l i) [] [] [] [x.1] g5 aC;rw[h2,aj] at hq;simp only[g4,show au [[D.sl false 5 (aU false (x.1.flat 0))],[D.sl false 5 (aU false R)]]=uy (([x.1].map λt=>t.flat 0)++[R]) from Df [x.1.flat 0,R],h5,aj,aV] at hq;rw[aZ hq];have hcn:j<=3000:=aC;exact⟨_,_,NG,R',aC,g2,g3,h6.mono aC,aO (hstop (cnt+1) j _ _ NG aC)⟩
   |out=>trivial
variable {l:List Tk}
def AP.EN{β:Type}{o:Option TP}{j:Nat}(h:AP l o (.bad j)){f:TP->Option β}{R:Option β->Prop}
  (hb:∀k op x y fl ks tg nt,nt.length<=l.length->R (f (k,op,x,y,fl,ks,tg,ay l,(j:Int),true,encS nt))):R (o.bind f):=by
 obtain⟨k,op,x,y,fl,ks,tg,nt,h1,rfl⟩:=h;exact hb k op x y fl ks tg nt h1
def AP.fO{k op:Int}{x y:aK}{fl:Bool}{ks:ak}{tg:Bool}{j:Nat}{nt:gW}(hn:nt.length<=l.length):AP l (some (k,op,x,y,fl,ks,tg,ay l,(j:Int),true,encS nt)) (.bad j):=⟨_,_,_,_,_,_,_,_,hn,rfl⟩
def AP.mk{x:Xp}{k op:Int}{s s':aK}{fl:Bool}{ks:ak}{tg:Bool}{j:Nat}{nt:gW}(h1:k=x.1.kind)(h2:op=x.1.op)(h3:s=x.1.text)(h4:s'=x.1.other)(h5:au ks=dN false x.1.kids)(h6:tg=tgt x):
  AP l (some (k,op,s,s',fl,ks,tg,ay l,(j:Int),false,encS nt)) (.ok x j nt):=by
 subst h1 h2 h3 h4 h6;exact⟨_,_,h5,rfl⟩
def fzT(x:Tn)(w:Bool)(ks:ak)(h:au ks=dN false x.kids):EK [.int .i64 x.kind,.int .i64 x.op,.str x.text,.str x.other,.sl w 5 ks]=x.row false:=by simp only[EK,D.fz,h,an6]
def fz1{x:Tn}{w:Bool}{ks:ak}(h:au ks=dN false x.kids):au [[.int .i64 x.kind,.int .i64 x.op,.str x.text,.str x.other,.sl w 5 ks]]=dN false [x]:=by rw[au,fzT x w ks h];rfl
def fz2{x y:Tn}{w v:Bool}{ks kt:ak}(h:au ks=dN false x.kids)(h':au kt=dN false y.kids):
  au [[.int .i64 x.kind,.int .i64 x.op,.str x.text,.str x.other,.sl w 5 ks],[.int .i64 y.kind,.int .i64 y.op,.str y.text,.str y.other,.sl v 5 kt]]=dN false [x,y]:=by
 rw[au,fzT x w ks h,au,fzT y v kt h'];rfl
def fz3{x y z:Tn}{w v u:Bool}{ks kt ku:ak}(h:au ks=dN false x.kids)(h':au kt=dN false y.kids)(h'':au ku=dN false z.kids):
  au [[.int .i64 x.kind,.int .i64 x.op,.str x.text,.str x.other,.sl w 5 ks],[.int .i64 y.kind,.int .i64 y.op,.str y.text,.str y.other,.sl v 5 kt],[.int .i64 z.kind,.int .i64 z.op,.str z.text,.str z.other,.sl u 5 ku]]=dN false [x,y,z]:=by
 rw[au,fzT x w ks h,au,fzT y v kt h',au,fzT z u ku h''];rfl
def Og{ks:ak}{L:List Tn}(h:au ks=dN false L):au (au ks)=dN false L:=by rw[h,jf]
abbrev T10:=ak×Int×Bool×Int×Int×aK×aK×ak×Bool×ak
def aqV(m:Nat){i:Nat}{nt:gW}(hn:nt.length<=l.length):AP l (M.qR (m+1) (ay l) (i:Int) true (encS nt)) (.bad i):=by rw[M.Rx];simp only[M.qP,M.yN,M.yc,aJ,dY];exact AP.fO hn
def awk(m:Nat){i:Nat}{nt:gW}(hn:nt.length<=l.length):AP l (M.oJ (m+2) (ay l) (i:Int) true (encS nt)) (.bad i):=by rw[M.UU];simp only[M.uf,M.Aj,aJ,dY];exact AP.pass (aqV m hn) (by intros;simp only[dY,aJ])
def az6(m:Nat){i:Nat}{nt:gW}(hn:nt.length<=l.length):AP l (M.wu (m+3) (ay l) (i:Int) true (encS nt)) (.bad i):=by
 rw[M.VZ];simp only[M.vZ,M.Cc,zaT,aX,aJ,dY];refine AP.EN (R:=λo=>AP l o (.bad i)) (awk m hn) λk op x y fl ks tg nt hn=> ?_
 simp only[aJ,dY];exact AP.fO hn
def aC3(m:Nat){a b:Bool}{i:Nat}{nt:gW}(hn:nt.length<=l.length):AP l (M.yB (m+4) a b (ay l) (i:Int) true (encS nt)) (.bad i):=by
 rw[M.WW];simp only[M.yh,aJ,dY];refine AP.EN (R:=λo=>AP l o (.bad i)) (az6 m hn) λk op x y fl ks tg nt hn=> ?_
 simp only[aJ,dY];exact AP.fO hn
def awl(m:Nat){a b:Bool}{i:Nat}{nt:gW}(hn:nt.length<=l.length):AP l (M.kT (m+5) a b (ay l) (i:Int) true (encS nt)) (.bad i):=by rw[M.UW];simp only[M.ug,M.Am,M.wM,aJ,dY,fG,aj];exact AP.pass (aC3 m hn) (by intros;simp only[dY,aJ])
def aC4(m:Nat){a b:Bool}{i:Nat}{nt:gW}(hn:nt.length<=l.length):AP l (M.um (m+6) a b (ay l) (i:Int) true (encS nt)) (.bad i):=by
 rw[M.WY];simp only[M.yj,aJ,dY];refine AP.EN (R:=λo=>AP l o (.bad i)) (awl m hn) λk op x y fl ks tg nt hn=> ?_
 rw[show M.zF _ _ _ _ _ _ _ _ _=_ from aO rfl];simp only[aj,aJ,dY];exact AP.fO hn
def aC5(m:Nat){a b:Bool}{i:Nat}{nt:gW}(hn:nt.length<=l.length):AP l (M.qZ (m+7) a b (ay l) (i:Int) true (encS nt)) (.bad i):=by
 rw[M.WZ];simp only[M.yt,aJ,dY];refine AP.EN (R:=λo=>AP l o (.bad i)) (aC4 m hn) λk op x y fl ks tg nt hn=> ?_
 rw[show M.zG _ _ _ _ _ _ _ _ _=_ from aO rfl];simp only[aj,aJ,dY];exact AP.fO hn
def aC6(m:Nat){a b:Bool}{i:Nat}{nt:gW}(hn:nt.length<=l.length):AP l (M.uo (m+8) a b (ay l) (i:Int) true (encS nt)) (.bad i):=by
 rw[M.W9];simp only[M.yu,aJ,dY];refine AP.EN (R:=λo=>AP l o (.bad i)) (aC5 m hn) λk op x y fl ks tg nt hn=> ?_
 rw[show M.zH _ _ _ _ _ _ _ _ _=_ from aO rfl];simp only[aj,aJ,dY];exact AP.fO hn
def aqW(m:Nat){a b:Bool}{i:Nat}{nt:gW}(hn:nt.length<=l.length):AP l (M.ou (m+9) a b (ay l) (i:Int) true (encS nt)) (.bad i):=by
 rw[M.Ry];simp only[M.qQ,M.yw,aJ,dY];refine AP.EN (R:=λo=>AP l o (.bad i)) (aC6 m hn) λk op x y fl ks tg nt hn=> ?_
 simp only[aJ,dY];exact AP.fO hn
def awm(m:Nat){a b:Bool}{i:Nat}{nt:gW}(hn:nt.length<=l.length):AP l (M.kU (m+10) a b (ay l) (i:Int) true (encS nt)) (.bad i):=by
 rw[M.UY];simp only[M.uh,M.Au,aJ,dY];refine AP.EN (R:=λo=>AP l o (.bad i)) (aqW m hn) λk op x y fl ks tg nt hn=> ?_
 simp only[aJ,dY];exact AP.fO hn
def aGD(m:Nat){a b:Bool}{i:Nat}{nt:gW}(hn:nt.length<=l.length):AP l (M.wO (m+11) a b (ay l) (i:Int) true (encS nt)) (.bad i):=by
 rw[M.Yh];simp only[M.zI,M.FW,M.FX,M.FY,M.yx,zaT,aX,aJ,dY];refine AP.EN (R:=λo=>AP l o (.bad i)) (awm m hn) λk op x y fl ks tg nt hn=> ?_
 rw[show M.jo _ _ _=_ from aO rfl];simp only[aj,aJ,dY,jg,letE];exact AP.fO hn
def aC7(m:Nat){a b:Bool}{i:Nat}{nt:gW}(hn:nt.length<=l.length):AP l (M.uq (m+12) a b (ay l) (i:Int) true (encS nt)) (.bad i):=by
 rw[M.Xa];simp only[M.yA,aJ,dY];refine AP.EN (R:=λo=>AP l o (.bad i)) (aGD m hn) λk op x y fl ks tg nt hn=> ?_
 rw[show M.zJ _ _ _ _ _ _ _ _ _=_ from aO rfl];simp only[aj,aJ,dY];exact AP.fO hn
def aGE(m:Nat){a b:Bool}{i:Nat}{nt:gW}(hn:nt.length<=l.length):AP l (M.zL (m+13) a b (ay l) (i:Int) true (encS nt)) (.bad i):=by
 rw[M.Yi];simp only[M.zK,aJ,dY];refine AP.EN (R:=λo=>AP l o (.bad i)) (aC7 m hn) λk op x y fl ks tg nt hn=> ?_
 rw[show M.Bo _ _ _ _ _ _ _ _ _=_ from aO rfl];simp only[aj,aJ,dY];exact AP.fO hn
def az7(m:Nat){a b:Bool}{i:Nat}{nt:gW}(hn:nt.length<=l.length):AP l (M.rX (m+14) a b (ay l) (i:Int) true (encS nt)) (.bad i):=by
 rw[M.V3];simp only[M.wo,aJ,dY];refine AP.EN (R:=λo=>AP l o (.bad i)) (aGE m hn) λk op x y fl ks tg nt hn=> ?_
 simp only[aJ,dY];exact AP.fO hn
def asM(m:Nat){a b:Bool}{i:Nat}{nt:gW}(hn:nt.length<=l.length):AP l (M.iL (m+15) a b (ay l) (i:Int) true (encS nt)) (.bad i):=by
 rw[M.Ul];simp only[M.rV,aJ,dY];refine AP.EN (R:=λo=>AP l o (.bad i)) (az7 m hn) λk op x y fl ks tg nt hn=> ?_
 simp only[aJ,dY];exact AP.fO hn
def AC(l:List Tk)(o:Option T10):PR Xp->Prop
 | .ok x j nt=>∃ks,au ks=dN false x.1.kids/\o=some (ay l,(j:Int),false,x.1.kind,x.1.op,x.1.text,x.1.other,ks,tgt x,encS nt)
 | .bad j=>∃k op x y ks tg nt,nt.length<=l.length/\o=some (ay l,(j:Int),true,k,op,x,y,ks,tg,encS nt)
 | .out=>True
def AC.elim{o:Option T10}{p:PR Xp}(h:AC l o p){f:T10->Option TP}
  (hf:∀c1 b k op x y ks tg nt,f (ay l,c1,b,k,op,x,y,ks,tg,encS nt)=some (k,op,x,y,false,ks,tg,ay l,c1,b,encS nt)):AP l (o.bind f) p:=by
 cases p with
 |ok x j nt=>obtain⟨ks,h1,rfl⟩:=h;rw[aj,hf];exact AP.mk rfl rfl rfl rfl h1 rfl
 |bad j=>obtain⟨k,op,x,y,ks,tg,nt,h1,rfl⟩:=h;rw[aj,hf];exact AP.fO h1
 |out=>trivial
def SQ(hl:l.length<=1048576){bd:T10->Option (T10⊕T10)}{lv:Nat}{a b:Bool}{rec:Bool->Bool->ak->Int->Bool->ak->Option TP}(h3:3<=lv)(h10:lv<=10)
  (hstop:∀(i:Nat) k op x y ks tg nt,bd (ay l,(i:Int),true,k,op,x,y,ks,tg,encS nt)=some (.inr (ay l,(i:Int),true,k,op,x,y,ks,tg,encS nt)))
  (hend:∀(i:Nat) k op x y ks tg nt,Ez lv (b && Nat.beq lv 7) (bG l i)=false->bd (ay l,(i:Int),false,k,op,x,y,ks,tg,encS nt)=some (.inr (ay l,(i:Int),false,k,op,x,y,ks,tg,encS nt)))
  (hop:∀(i:Nat) k op x y ks tg nt,Ez lv (b && Nat.beq lv 7) (bG l i)=true->i<l.length->nt.length<=i->bd (ay l,(i:Int),false,k,op,x,y,ks,tg,encS nt)=
   (rec a b (ay l) (((bif Nat.beq lv 8 then(i,nt) else bif Nat.ble lv 4 then nl l (i+1) nt else(i+1,nt)).1:Nat):Int) false (encS (bif Nat.beq lv 8 then(i,nt) else bif Nat.ble lv 4 then nl l (i+1) nt else(i+1,nt)).2)).bind λr=>
    some (.inl (r.2.2.2.2.2.2.2.1,r.2.2.2.2.2.2.2.2.1,r.2.2.2.2.2.2.2.2.2.1,12,(bif Nat.beq lv 8 then 99 else bG l i),[],[],
     au [[D.int .i64 k,D.int .i64 op,D.str x,D.str y,D.sl false 5 ks],[D.int .i64 r.1,D.int .i64 r.2.1,D.str r.2.2.1,D.str r.2.2.2.1,D.sl false 5 (au r.2.2.2.2.2.1)]],false,r.2.2.2.2.2.2.2.2.2.2))):
  ∀n,(∀n',n'<=n->∀i nt,i<=l.length->nt.length<=i->AP l (rec a b (ay l) (i:Int) false (encS nt)) (ex l n' (lv+1) a b i nt))->
   ∀x i nt ks,i<=l.length->nt.length<=i->au ks=dN false x.1.kids->AC l (gU bd (ay l,(i:Int),false,x.1.kind,x.1.op,x.1.text,x.1.other,ks,tgt x,encS nt)) (chP l n lv a b x i nt)
 |0,_,_,_,_,_,_,_,_=>by rw[chP];trivial
 |n+1,hrec,x,i,nt,ks,hi,hn,hk=>by
  rw[chP];cases hc:Ez lv (b && Nat.beq lv 7) (bG l i) with
  |false=>rw[aO (hend i _ _ _ _ _ _ nt hc)];exact⟨ks,hk,rfl⟩
  |true=>
   have hlt:=eP (ND h3 hc);have hq:=hop i x.1.kind x.1.op x.1.text x.1.other ks (tgt x) nt hc hlt hn;have hqb:FN l i nt.length (bif Nat.beq lv 8 then(i,nt) else bif Nat.ble lv 4 then nl l (i+1) nt else(i+1,nt)).1 (bif Nat.beq lv 8 then(i,nt) else bif Nat.ble lv 4 then nl l (i+1) nt else(i+1,nt)).2.length:=by
    cases Nat.beq lv 8<;>cases Nat.ble lv 4<;>simp only[aJ,aX]
    ·omega
    ·have:=EC (l:=l) (i:=i+1) (nt:=nt) aC;omega
    ·omega
    ·omega
   simp only[aJ];generalize (bif Nat.beq lv 8 then(i,nt) else bif Nat.ble lv 4 then nl l (i+1) nt else(i+1,nt))=q at hq hqb|-;have hr:=hrec n (Nat.le_succ n) q.1 q.2 aC aC;have hs:=(sats l n).ex (lv+1) a b q.1 q.2 aC aC aC;generalize ex l n (lv+1) a b q.1 q.2=p at hr hs|-;cases p with
   |ok y j m=>obtain⟨fl,kt,h1,h2⟩:=hr;have hs':FE l q.1 q.2.length y.1.size j m.length:=hs;rw[h2,aj] at hq;rw[aZ hq];exact SQ hl h3 h10 hstop hend hop n (λn' h=>hrec n' aC) (Tn.mk 12 (bif Nat.beq lv 8 then 99 else bG l i) [] [] [x.1,y.1],false) j m _ aC aC (by rw[fz2 hk (Og h1),jf];rfl)
   |bad j=>obtain⟨k,op,x',y',fl,kt,tg,m,h1,h2⟩:=hr;rw[h2,aj] at hq;rw[aZ hq,aO (hstop j _ _ _ _ _ _ m)];exact⟨_,_,_,_,_,_,_,h1,rfl⟩
   |out=>trivial
variable {l:List Tk}
def afP{lv:Nat}{k:Int}(h:Nat.beq lv 8=false):Ez lv false k=(IQ k==(lv:Int)):=by rw[Ez,h];simp
def lv3(k:Int):(k==44)=(IQ k==3):=by
 cases h:k==44 with
 |true=>rw[IQ,h];rfl
 |false=>rw[IQ,h,aX];cases k==45<;>cases(k==67||k==46)<;>cases(k==63||(k==48||(k==47||(k==50||(k==62||k==49)))))<;>cases k==99<;>cases(k==55||k==56)<;>cases(k==57||(k==58||k==59))<;>cases k==60<;>rfl
def lv4(k:Int):(k==45)=(IQ k==4):=by
 cases h4:k==44 with
 |true=>
  have e:k=44:=by rwa [beq_iff_eq] at h4
  rw[e];rfl
 |false=>
  cases h:k==45 with
  |true=>rw[IQ,h4,h];rfl
  |false=>rw[IQ,h4,h,aX,aX];cases(k==67||k==46)<;>cases(k==63||(k==48||(k==47||(k==50||(k==62||k==49)))))<;>cases k==99<;>cases(k==55||k==56)<;>cases(k==57||(k==58||k==59))<;>cases k==60<;>rfl
structure RI(l:List Tk)(n m:Nat):Prop where
 e1:∀a b i nt,i<=l.length->nt.length<=i->AP l (M.iL m a b (ay l) (i:Int) false (encS nt)) (ex l n 1 a b i nt)
 e2:∀a b i nt,i<=l.length->nt.length<=i->AP l (M.rX m a b (ay l) (i:Int) false (encS nt)) (ex l n 2 a b i nt)
 e3:∀a b i nt,i<=l.length->nt.length<=i->AP l (M.zL m a b (ay l) (i:Int) false (encS nt)) (ex l n 3 a b i nt)
 e4:∀a b i nt,i<=l.length->nt.length<=i->AP l (M.uq m a b (ay l) (i:Int) false (encS nt)) (ex l n 4 a b i nt)
 e5:∀a b i nt,i<=l.length->nt.length<=i->AP l (M.wO m a b (ay l) (i:Int) false (encS nt)) (ex l n 5 a b i nt)
 e6:∀a b i nt,i<=l.length->nt.length<=i->AP l (M.kU m a b (ay l) (i:Int) false (encS nt)) (ex l n 6 a b i nt)
 e7:∀a b i nt,i<=l.length->nt.length<=i->AP l (M.ou m a b (ay l) (i:Int) false (encS nt)) (ex l n 7 a b i nt)
 e8:∀a b i nt,i<=l.length->nt.length<=i->AP l (M.uo m a b (ay l) (i:Int) false (encS nt)) (ex l n 8 a b i nt)
 e9:∀a b i nt,i<=l.length->nt.length<=i->AP l (M.qZ m a b (ay l) (i:Int) false (encS nt)) (ex l n 9 a b i nt)
 e10:∀a b i nt,i<=l.length->nt.length<=i->AP l (M.um m a b (ay l) (i:Int) false (encS nt)) (ex l n 10 a b i nt)
 e11:∀a b i nt,i<=l.length->nt.length<=i->AP l (M.kT m a b (ay l) (i:Int) false (encS nt)) (ex l n 11 a b i nt)
 e12:∀a b i nt,i<=l.length->nt.length<=i->AP l (M.yB m a b (ay l) (i:Int) false (encS nt)) (ex l n 12 a b i nt)
 e13:∀a b i nt,i<=l.length->nt.length<=i->AP l (M.wu m (ay l) (i:Int) false (encS nt)) (ex l n 13 a b i nt)
 e14:∀a b i nt,i<=l.length->nt.length<=i->AP l (M.oJ m (ay l) (i:Int) false (encS nt)) (ex l n 14 a b i nt)
 e15:∀a b i nt,i<=l.length->nt.length<=i->AP l (M.qR m (ay l) (i:Int) false (encS nt)) (ex l n 15 a b i nt)
 pre:∀i nt,i<l.length->nt.length<=i->AP l (M.rW m (ay l) (i:Int) false (encS nt)) (XD l n i nt)
 its:∀a b i nt,i<=l.length->nt.length<=i->AL l (M.mM m a b (ay l) (i:Int) false (encS nt)) (PK l n a b [] i nt)
def az8(hl:l.length<=1048576){m n:Nat}{i:Nat}{nt:gW}(h:AL l (M.mM m false false (ay l) (i:Int) false (encS nt)) (PK l n false false [] i nt))(hi:i<=l.length)(hn:nt.length<=i):
  AL l (M.jR (m+1) 35 (ay l) (i:Int) false (encS nt)) ((PK l n false false [] i nt).bind λL i nt=>(jD l 35 i nt).bind λ_ i nt=> .ok L i nt):=by
 rw[M.VY];have h3:((35:Int)==33)=false:=rfl;simp only[M.vX,M.BZ,dY,aJ,fG,aj,h3,aX,Bool.cond_self];refine AL.elim (R:=AL l) h (λ_=>trivial) (λfl ks j nt hn=> ?_) (λL fl j nt he=> ?_)
 ·simp only[dY,aJ,wV,aj];exact⟨_,_,_,hn,rfl⟩
 ·have hs:=iM (adS hi) he;simp only[dY,aJ];refine NU (R:=AL l) hl (by decide) ?_ (λ_ _=> ?_)
  ·simp only[dY,aJ];exact⟨_,_,_,aC,rfl⟩
  ·simp only[dY,aJ,jf];exact⟨_,rfl⟩
def az9(hl:l.length<=1048576){m n:Nat}{i:Nat}{nt:gW}(h:AL l (M.mM m false false (ay l) (i:Int) false (encS nt)) (PK l n false false [] i nt))(hi:i<=l.length)(hn:nt.length<=i):
  AL l (M.jR (m+1) 33 (ay l) (i:Int) false (encS nt)) (PN l (n+1) 33 i nt):=by
 rw[M.VY,PN];simp only[M.vX,M.BZ,dY,aJ,fG,aj,BEq.rfl];cases hc:bG l i==33 with
 |true=>have hlt:=dI hc (by decide);simp only[aJ,pX hl hlt];exact⟨_,rfl⟩
 |false=>
  simp only[aX];refine AL.elim (R:=AL l) h (λ_=>trivial) (λfl ks j nt hn=> ?_) (λL fl j nt he=> ?_)
  ·simp only[dY,aJ,wV,aj];exact⟨_,_,_,hn,rfl⟩
  ·have hs:=iM (adS hi) he;simp only[dY,aJ];refine NU (R:=AL l) hl (by decide) ?_ (λ_ _=> ?_)
   ·simp only[dY,aJ];exact⟨_,_,_,aC,rfl⟩
   ·simp only[dY,aJ,jf];exact⟨_,rfl⟩
def awn(l:List Tk)(n i:Nat)(nt:gW):PR Xp:=bif bG l (i+1)==34 then(PK l n false false [] (i+2) nt).bind λL j nt=>(jD l 35 j nt).bind λ_ j nt=> .ok (.mk 5 0 (CG l i) [] L,false) j nt else afN 1 l i nt
def aEw(hl:l.length<=1048576){m n:Nat}{i:Nat}{nt:gW}(h:∀i nt,i<=l.length->nt.length<=i->AL l (M.mM m false false (ay l) (i:Int) false (encS nt)) (PK l n false false [] i nt))(hi:i<l.length)(hn:nt.length<=i):
  AP l (M.tC (m+2) (ay l) (i:Int) false (encS nt)) (awn l n i nt):=by
 rw[M.YU,awn];simp only[M.tu,dY,aJ,NT hl hi,aj,fG];cases hc:bG l (i+1)==34 with
 |true=>
  have hlt:=dI hc (by decide);simp only[aJ,pX hl hlt];have hL:=az8 hl (h (i+2) nt aC aC) aC aC;have e:(PK l n false false [] (i+2) nt).bind (λL j nt=>(jD l 35 j nt).bind λ_ j nt=>PR.ok ((Tn.mk 5 0 (CG l i) [] L,false):Xp) j nt)=
    ((PK l n false false [] (i+2) nt).bind λL i nt=>(jD l 35 i nt).bind λ_ i nt=> .ok L i nt).bind λL j nt=> .ok ((Tn.mk 5 0 (CG l i) [] L,false):Xp) j nt:=by
   cases PK l n false false [] (i+2) nt with
   |ok L j m=>simp only[PR.bind];cases jD l 35 j m<;>rfl
   |bad j=>rfl
   |out=>rfl
  rw[e];refine AL.elim (R:=AP l) hL (λ_=>trivial) (λfl ks j nt hn=> ?_) (λL fl j nt he=> ?_)
  ·simp only[dY,aJ];exact AP.fO hn
  ·simp only[dY,aJ,jf];exact AP.mk rfl rfl rfl rfl (jf _ _) rfl
 |false=>simp only[aX];exact AP.mk rfl rfl rfl rfl rfl rfl
section
variable {n m:Nat} (hl:l.length<=1048576) (H:∀n',n'<=n->∀m',4 * n'+30<=m'->RI l n' m') (hm:4 * (n+1)+30<=m+1)
include hl H hm
theorem aQ9(a b:Bool)(i:Nat)(nt:gW)(hi:i<=l.length)(hn:nt.length<=i):AP l (M.iL (m+1) a b (ay l) (i:Int) false (encS nt)) (ex l (n+1) 1 a b i nt):=by
 have h:=H n (zaU _) m aC;rw[M.Ul];simp only[M.rV,dY,aJ,ex];refine AP.elim (R:=AP l) (h.e2 a b i nt hi hn) (λ_=>trivial) (λk op x y fl ks tg j nt hn=> ?_) (λx fl ks j nt hk he=> ?_)
 ·simp only[aJ,dY];exact AP.fO hn
 ·have hs:=iM (IU aC aC hi) he;simp only[aX,dY,aJ,fG,aj,(abC _).2];cases ht:tgt x with
  |false=>simp only[Bool.not_false,aJ,Bool.false_and,aX];exact AP.mk rfl rfl rfl rfl (Og hk) ht.symm
  |true=>
   simp only[zaT,aX,Bool.true_and];cases hc:ahJ (bG l j) with
   |false=>simp only[Bool.not_false,aJ,aX];exact AP.mk rfl rfl rfl rfl (Og hk) ht.symm
   |true=>
    have hlt:=eP (akI hc);simp only[zaT,aX,aJ,pX hl hlt];refine AP.elim (R:=AP l) (h.e1 a b (j+1) nt aC aC) (λ_=>trivial) (λk op x y fl ks tg j nt hn=> ?_) (λy fl' kt j' ZG hk' he'=> ?_)
    ·simp only[aJ,dY];exact AP.fO hn
    ·simp only[aJ,dY];exact AP.mk rfl rfl rfl rfl (fz2 (Og hk) (Og hk')) rfl
theorem aRa(a b:Bool)(i:Nat)(nt:gW)(hi:i<=l.length)(hn:nt.length<=i):AP l (M.rX (m+1) a b (ay l) (i:Int) false (encS nt)) (ex l (n+1) 2 a b i nt):=by
 have h:=H n (zaU _) m aC;rw[M.V3];simp only[M.wo,dY,aJ,ex];refine AP.elim (R:=AP l) (h.e3 a b i nt hi hn) (λ_=>trivial) (λk op x y fl ks tg j nt hn=> ?_) (λx fl ks j nt hk he=> ?_)
 ·simp only[aJ,dY];exact AP.fO hn
 ·have hs:=iM (IU aC aC hi) he;simp only[aX,dY,aJ,fG,aj,bne];cases hc:bG l j==65 with
  |false=>simp only[Bool.not_false,aJ,aX];exact AP.mk rfl rfl rfl rfl (Og hk) rfl
  |true=>
   have hlt:=dI hc (by decide);simp only[zaT,aX,aJ,pX hl hlt];refine AP.elim (R:=AP l) (h.e2 a b (j+1) nt aC aC) (λ_=>trivial) (λk op x y fl ks tg j nt hn=> ?_) (λy fl' kt j' ZG hk' he'=> ?_)
   ·simp only[aJ,dY,wV,aj];exact AP.fO hn
   ·have hs':=iM (IU aC aC aC) he';simp only[aJ,dY];refine NU (R:=AP l) hl (by decide) ?_ (λ_ _=> ?_)
    ·simp only[dY,aJ];exact AP.fO aC
    ·simp only[dY,aJ,aX];refine AP.elim (R:=AP l) (h.e2 a b (j'+1) ZG aC aC) (λ_=>trivial) (λk op x y fl ks tg j nt hn=> ?_) (λz aXD ku j'' aYA hk'' aXE=> ?_)
     ·simp only[aJ,dY];exact AP.fO hn
     ·simp only[aJ,dY];exact AP.mk rfl rfl rfl rfl (fz3 (Og hk) (Og hk') (Og hk'')) rfl
theorem aRb(a b:Bool)(i:Nat)(nt:gW)(hi:i<=l.length)(hn:nt.length<=i):AP l (M.zL (m+1) a b (ay l) (i:Int) false (encS nt)) (ex l (n+1) 3 a b i nt):=by
 have h:=H n (zaU _) m aC;rw[M.Yi];simp only[M.zK,dY,aJ,ex];refine AP.elim (R:=AP l) (h.e4 a b i nt hi hn) (λ_=>trivial) (λk op x y fl ks tg j nt hn=> ?_) (λx fl ks j nt hk he=> ?_)
 ·rw[show M.Bo _ _ _ _ _ _ _ _ _=_ from aO rfl];simp only[aj,aJ,dY];exact AP.fO hn
 ·have hs:=iM (IU aC aC hi) he;rw[M.Bo];refine AC.elim (SQ hl (lv:=3) (a:=a) (b:=b) (rec:=M.uq m) aC aC ?_ ?_ ?_ n (λn' hn' i nt hi hn=>(H n' hn' m aC).e4 a b i nt hi hn) x j nt _ aC aC (Og hk)) (by intros;simp only[aJ,dY])
  ·intros
   rfl
  ·intro i k op x y ks tg nt hc;have hb:(b && Nat.beq 3 7)=false:=Bool.and_false b;rw[hb] at hc;have hk:(bG l i==44)=false:=by rw[lv3];exact(afP (lv:=3) rfl).symm.trans hc
   simp only[M.NR,M.Ce,Bool.not_false,aJ,dY,fG,aj,hk,aX]
  ·intro i k op x y ks tg nt hc hlt hn;have hb:(b && Nat.beq 3 7)=false:=Bool.and_false b;rw[hb] at hc;have hk:(bG l i==44)=true:=by rw[lv3];exact(afP (lv:=3) rfl).symm.trans hc
   have hk':bG l i=44:=by rwa [beq_iff_eq] at hk
   simp only[M.NR,M.Ce,Bool.not_false,aJ,dY,fG,aj,hk,pX hl hlt,SN hl (i+1) nt aC aC,M.nY,M.Ei];rw[hk'];rfl
theorem aRc(a b:Bool)(i:Nat)(nt:gW)(hi:i<=l.length)(hn:nt.length<=i):AP l (M.uq (m+1) a b (ay l) (i:Int) false (encS nt)) (ex l (n+1) 4 a b i nt):=by
 have h:=H n (zaU _) m aC;rw[M.Xa];simp only[M.yA,dY,aJ,ex];refine AP.elim (R:=AP l) (h.e5 a b i nt hi hn) (λ_=>trivial) (λk op x y fl ks tg j nt hn=> ?_) (λx fl ks j nt hk he=> ?_)
 ·rw[show M.zJ _ _ _ _ _ _ _ _ _=_ from aO rfl];simp only[aj,aJ,dY];exact AP.fO hn
 ·have hs:=iM (IU aC aC hi) he;rw[M.zJ];refine AC.elim (SQ hl (lv:=4) (a:=a) (b:=b) (rec:=M.wO m) aC aC ?_ ?_ ?_ n (λn' hn' i nt hi hn=>(H n' hn' m aC).e5 a b i nt hi hn) x j nt _ aC aC (Og hk)) (by intros;simp only[aJ,dY])
  ·intros
   rfl
  ·intro i k op x y ks tg nt hc;have hb:(b && Nat.beq 4 7)=false:=Bool.and_false b;rw[hb] at hc;have hk:(bG l i==45)=false:=by rw[lv4];exact(afP (lv:=4) rfl).symm.trans hc
   simp only[M.LP,M.Aw,Bool.not_false,aJ,dY,fG,aj,hk,aX]
  ·intro i k op x y ks tg nt hc hlt hn;have hb:(b && Nat.beq 4 7)=false:=Bool.and_false b;rw[hb] at hc;have hk:(bG l i==45)=true:=by rw[lv4];exact(afP (lv:=4) rfl).symm.trans hc
   have hk':bG l i=45:=by rwa [beq_iff_eq] at hk
   simp only[M.LP,M.Aw,Bool.not_false,aJ,dY,fG,aj,hk,pX hl hlt,SN hl (i+1) nt aC aC,M.nY,M.Ei];rw[hk'];rfl
theorem aRd(a b:Bool)(i:Nat)(nt:gW)(hi:i<=l.length)(hn:nt.length<=i):AP l (M.uo (m+1) a b (ay l) (i:Int) false (encS nt)) (ex l (n+1) 8 a b i nt):=by
 have h:=H n (zaU _) m aC;rw[M.W9];simp only[M.yu,dY,aJ,ex];refine AP.elim (R:=AP l) (h.e9 a b i nt hi hn) (λ_=>trivial) (λk op x y fl ks tg j nt hn=> ?_) (λx fl ks j nt hk he=> ?_)
 ·rw[show M.zH _ _ _ _ _ _ _ _ _=_ from aO rfl];simp only[aj,aJ,dY];exact AP.fO hn
 ·have hs:=iM (IU aC aC hi) he;rw[M.zH];refine AC.elim (SQ hl (lv:=8) (a:=a) (b:=b) (rec:=M.qZ m) aC aC ?_ ?_ ?_ n (λn' hn' i nt hi hn=>(H n' hn' m aC).e9 a b i nt hi hn) x j nt _ aC aC (Og hk)) (by intros;simp only[aJ,dY])
  ·intros
   rfl
  ·intro i k op x y ks tg nt hc;have hb:(b && Nat.beq 8 7)=false:=Bool.and_false b;rw[hb] at hc;have hk:asF (bG l i)=false:=hc;simp only[M.LM,M.Ar,Bool.not_false,aJ,dY,fG,aj,aEv,hk,aX]
  ·intro i k op x y ks tg nt hc hlt hn;have hb:(b && Nat.beq 8 7)=false:=Bool.and_false b;rw[hb] at hc;have hk:asF (bG l i)=true:=hc;simp only[M.LM,M.Ar,Bool.not_false,aJ,dY,fG,aj,aEv,hk,M.nY,M.Ei];rfl
theorem aRe(a b:Bool)(i:Nat)(nt:gW)(hi:i<=l.length)(hn:nt.length<=i):AP l (M.qZ (m+1) a b (ay l) (i:Int) false (encS nt)) (ex l (n+1) 9 a b i nt):=by
 have h:=H n (zaU _) m aC;rw[M.WZ];simp only[M.yt,dY,aJ,ex];refine AP.elim (R:=AP l) (h.e10 a b i nt hi hn) (λ_=>trivial) (λk op x y fl ks tg j nt hn=> ?_) (λx fl ks j nt hk he=> ?_)
 ·rw[show M.zG _ _ _ _ _ _ _ _ _=_ from aO rfl];simp only[aj,aJ,dY];exact AP.fO hn
 ·have hs:=iM (IU aC aC hi) he;rw[M.zG];refine AC.elim (SQ hl (lv:=9) (a:=a) (b:=b) (rec:=M.um m) aC aC ?_ ?_ ?_ n (λn' hn' i nt hi hn=>(H n' hn' m aC).e10 a b i nt hi hn) x j nt _ aC aC (Og hk)) (by intros;simp only[aJ,dY])
  ·intros
   rfl
  ·intro i k op x y ks tg nt hc;have hb:(b && Nat.beq 9 7)=false:=Bool.and_false b;rw[hb] at hc;have hk:(IQ (bG l i)==9)=false:=(afP (lv:=9) rfl).symm.trans hc;simp only[M.LK,M.Aq,Bool.not_false,aJ,dY,fG,aj,(SL _).1,hk,aX]
  ·intro i k op x y ks tg nt hc hlt hn;have hb:(b && Nat.beq 9 7)=false:=Bool.and_false b;rw[hb] at hc;have hk:(IQ (bG l i)==9)=true:=(afP (lv:=9) rfl).symm.trans hc;simp only[M.LK,M.Aq,Bool.not_false,aJ,dY,fG,aj,(SL _).1,hk,pX hl hlt,M.nY,M.Ei];rfl
theorem aGF(a b:Bool)(i:Nat)(nt:gW)(hi:i<=l.length)(hn:nt.length<=i):AP l (M.um (m+1) a b (ay l) (i:Int) false (encS nt)) (ex l (n+1) 10 a b i nt):=by
 have h:=H n (zaU _) m aC;rw[M.WY];simp only[M.yj,dY,aJ,ex];refine AP.elim (R:=AP l) (h.e11 a b i nt hi hn) (λ_=>trivial) (λk op x y fl ks tg j nt hn=> ?_) (λx fl ks j nt hk he=> ?_)
 ·rw[show M.zF _ _ _ _ _ _ _ _ _=_ from aO rfl];simp only[aj,aJ,dY];exact AP.fO hn
 ·have hs:=iM (IU aC aC hi) he;rw[M.zF];refine AC.elim (SQ hl (lv:=10) (a:=a) (b:=b) (rec:=M.kT m) aC aC ?_ ?_ ?_ n (λn' hn' i nt hi hn=>(H n' hn' m aC).e11 a b i nt hi hn) x j nt _ aC aC (Og hk)) (by intros;simp only[aJ,dY])
  ·intros
   rfl
  ·intro i k op x y ks tg nt hc;have hb:(b && Nat.beq 10 7)=false:=Bool.and_false b;rw[hb] at hc;have hk:(IQ (bG l i)==10)=false:=(afP (lv:=10) rfl).symm.trans hc;simp only[M.LJ,M.Ap,Bool.not_false,aJ,dY,fG,aj,(SL _).1,hk,aX]
  ·intro i k op x y ks tg nt hc hlt hn;have hb:(b && Nat.beq 10 7)=false:=Bool.and_false b;rw[hb] at hc;have hk:(IQ (bG l i)==10)=true:=(afP (lv:=10) rfl).symm.trans hc;simp only[M.LJ,M.Ap,Bool.not_false,aJ,dY,fG,aj,(SL _).1,hk,pX hl hlt,M.nY,M.Ei];rfl
theorem aRf(a b:Bool)(i:Nat)(nt:gW)(hi:i<=l.length)(hn:nt.length<=i):AP l (M.kU (m+1) a b (ay l) (i:Int) false (encS nt)) (ex l (n+1) 6 a b i nt):=by
 have h:=H n (zaU _) m aC;rw[M.UY];simp only[M.uh,M.Au,dY,aJ,ex];refine AP.elim (R:=AP l) (h.e7 a b i nt hi hn) (λ_=>trivial) (λk op x y fl ks tg j nt hn=> ?_) (λx fl ks j nt hk he=> ?_)
 ·simp only[aJ,dY];exact AP.fO hn
 ·have hs:=iM (IU aC aC hi) he;simp only[aX,dY,aJ,fG,aj,bne,M.nY,M.Ei];have hgo:j<l.length->AP l ((M.ou m a b (ay l) ((j+1:Nat):Int) false (encS nt)).bind λr=>
    bif ah r.2.2.2.2.2.2.2.2.2.2 then some (12,bG l j,[],[],false,au [[D.int .i64 x.1.kind,D.int .i64 x.1.op,D.str x.1.text,D.str x.1.other,D.sl false 5 (au ks)],[D.int .i64 r.1,D.int .i64 r.2.1,D.str r.2.2.1,D.str r.2.2.2.1,D.sl false 5 (au r.2.2.2.2.2.1)]],false,
     r.2.2.2.2.2.2.2.1,r.2.2.2.2.2.2.2.2.1,r.2.2.2.2.2.2.2.2.2.1,r.2.2.2.2.2.2.2.2.2.2) else none) ((ex l n 7 a b (j+1) nt).bind λy j' nt=> .ok (.mk 12 (bG l j) [] [] [x.1,y.1],false) j' nt):=by
   intro hlt;refine AP.elim (R:=AP l) (h.e7 a b (j+1) nt aC aC) (λ_=>trivial) (λk op x y fl ks tg j nt hn=> ?_) (λy fl' kt j' ZG hk' he'=> ?_)
   ·simp only[aJ,dY];exact AP.fO hn
   ·simp only[aJ,dY];exact AP.mk rfl rfl rfl rfl (by rw[fz2 (Og hk) (Og hk'),jf];rfl) rfl
  cases hc:bG l j==67 with
  |true=>have hlt:=dI hc (by decide);simp only[zaT,aX,aJ,Bool.true_or,pX hl hlt];exact hgo hlt
  |false=>
   cases hc':bG l j==46 with
   |true=>have hlt:=dI hc' (by decide);simp only[zaT,Bool.not_false,aX,aJ,Bool.or_true,pX hl hlt];exact hgo hlt
   |false=>simp only[Bool.not_false,aX,aJ,Bool.or_false];exact AP.mk rfl rfl rfl rfl (Og hk) rfl
theorem aRg(a b:Bool)(i:Nat)(nt:gW)(hi:i<=l.length)(hn:nt.length<=i):AP l (M.ou (m+1) a b (ay l) (i:Int) false (encS nt)) (ex l (n+1) 7 a b i nt):=by
 have h:=H n (zaU _) m aC;rw[M.Ry];simp only[M.qQ,M.yw,dY,aJ,ex];refine AP.elim (R:=AP l) (h.e8 a b i nt hi hn) (λ_=>trivial) (λk op x y fl ks tg j nt hn=> ?_) (λx fl ks j nt hk he=> ?_)
 ·simp only[aJ,dY];exact AP.fO hn
 ·have hs:=iM (IU aC aC hi) he;simp only[aX,dY,aJ,fG,aj,bne,M.nY,M.Ei,(SL _).1];have hgo:j<l.length->AP l ((M.uo m a b (ay l) ((j+1:Nat):Int) false (encS nt)).bind λr=>
    bif ah r.2.2.2.2.2.2.2.2.2.2 then some (12,bG l j,[],[],false,au [[D.int .i64 x.1.kind,D.int .i64 x.1.op,D.str x.1.text,D.str x.1.other,D.sl false 5 (au ks)],[D.int .i64 r.1,D.int .i64 r.2.1,D.str r.2.2.1,D.str r.2.2.2.1,D.sl false 5 (au r.2.2.2.2.2.1)]],false,
     r.2.2.2.2.2.2.2.1,r.2.2.2.2.2.2.2.2.1,r.2.2.2.2.2.2.2.2.2.1,r.2.2.2.2.2.2.2.2.2.2) else none) ((ex l n 8 a b (j+1) nt).bind λy j' nt=> .ok (.mk 12 (bG l j) [] [] [x.1,y.1],false) j' nt):=by
   intro hlt;refine AP.elim (R:=AP l) (h.e8 a b (j+1) nt aC aC) (λ_=>trivial) (λk op x y fl ks tg j nt hn=> ?_) (λy fl' kt j' ZG hk' he'=> ?_)
   ·simp only[aJ,dY];exact AP.fO hn
   ·simp only[aJ,dY];exact AP.mk rfl rfl rfl rfl (by rw[fz2 (Og hk) (Og hk'),jf];rfl) rfl
  have e7:Ez 7 b (bG l j)=(IQ (bG l j)==7 && !(b && bG l j==62)):=rfl;rw[e7];cases hc:IQ (bG l j)==7 with
  |false=>simp only[Bool.not_false,aX,aJ,Bool.false_and];exact AP.mk rfl rfl rfl rfl (Og hk) rfl
  |true=>
   have hlt:j<l.length:=by
    refine eP λe=> ?_
    rw[e] at hc;exact absurd hc (by decide)
   simp only[zaT,aX,aJ,Bool.true_and,pX hl hlt];cases b with
   |false=>simp only[Bool.false_and,Bool.not_false,aJ,aX];exact hgo hlt
   |true=>
    simp only[Bool.true_and,aJ];cases hc':bG l j==62 with
    |true=>simp only[zaT,aX,aJ];exact AP.mk rfl rfl rfl rfl (Og hk) rfl
    |false=>simp only[Bool.not_false,aX,aJ];exact hgo hlt
theorem aGG(a b:Bool)(i:Nat)(nt:gW)(hi:i<=l.length)(hn:nt.length<=i):AP l (M.kT (m+1) a b (ay l) (i:Int) false (encS nt)) (ex l (n+1) 11 a b i nt):=by
 have h:=H n (zaU _) m aC;rw[M.UW];simp only[M.ug,M.Am,M.wM,dY,aJ,ex,fG,aj,aX,bne];have hgo:i<l.length->AP l ((M.kT m a b (ay l) ((i+1:Nat):Int) false (encS nt)).bind λr=>
   bif ah r.2.2.2.2.2.2.2.2.2.2 then some (11,bG l i,[],[],true,[[D.int .i64 r.1,D.int .i64 r.2.1,D.str r.2.2.1,D.str r.2.2.2.1,D.sl false 5 (au r.2.2.2.2.2.1)]],false,
    r.2.2.2.2.2.2.2.1,r.2.2.2.2.2.2.2.2.1,r.2.2.2.2.2.2.2.2.2.1,r.2.2.2.2.2.2.2.2.2.2) else none) ((ex l n 11 a b (i+1) nt).bind λx j nt=> .ok (.mk 11 (bG l i) [] [] [x.1],false) j nt):=by
  intro hlt;refine AP.elim (R:=AP l) (h.e11 a b (i+1) nt aC aC) (λ_=>trivial) (λk op x y fl ks tg j nt hn=> ?_) (λy fl' kt j' ZG hk' he'=> ?_)
  ·simp only[aJ,dY];exact AP.fO hn
  ·simp only[aJ,dY];exact AP.mk rfl rfl rfl rfl (fz1 (Og hk')) rfl
 cases h5:bG l i==55 with
 |true=>have hlt:=dI h5 (by decide);simp only[zaT,aX,aJ,Bool.true_or,pX hl hlt];exact hgo hlt
 |false=>
  cases h6:bG l i==56 with
  |true=>have hlt:=dI h6 (by decide);simp only[zaT,Bool.not_false,aX,aJ,Bool.true_or,Bool.or_true,pX hl hlt];exact hgo hlt
  |false=>
   cases h1:bG l i==61 with
   |true=>have hlt:=dI h1 (by decide);simp only[zaT,Bool.not_false,aX,aJ,Bool.true_or,Bool.or_true,pX hl hlt];exact hgo hlt
   |false=>simp only[Bool.not_false,aX,aJ,Bool.or_false];exact AP.pass (h.e12 a b i nt hi hn) (by intros;simp only[dY,aJ])
theorem aGH(a b:Bool)(i:Nat)(nt:gW)(hi:i<=l.length)(hn:nt.length<=i):AP l (M.yB (m+1) a b (ay l) (i:Int) false (encS nt)) (ex l (n+1) 12 a b i nt):=by
 have h:=H n (zaU _) m aC;rw[M.WW];simp only[M.yh,dY,aJ,ex];refine AP.elim (R:=AP l) (h.e13 a b i nt hi hn) (λ_=>trivial) (λk op x y fl ks tg j nt hn=> ?_) (λx fl ks j nt hk he=> ?_)
 ·simp only[aJ,dY];exact AP.fO hn
 ·have hs:=iM (IU aC aC hi) he;simp only[aX,dY,aJ,fG,aj,bne,M.nY,M.Ei];cases hc:bG l j==60 with
  |false=>simp only[Bool.not_false,aJ,aX];exact AP.mk rfl rfl rfl rfl (Og hk) rfl
  |true=>
   have hlt:=dI hc (by decide);simp only[zaT,aX,aJ,pX hl hlt];refine AP.elim (R:=AP l) (h.e11 a b (j+1) nt aC aC) (λ_=>trivial) (λk op x y fl ks tg j nt hn=> ?_) (λy fl' kt j' ZG hk' he'=> ?_)
   ·simp only[aJ,dY];exact AP.fO hn
   ·simp only[aJ,dY];exact AP.mk rfl rfl rfl rfl (by rw[fz2 (Og hk) (Og hk'),jf];rfl) rfl
theorem aGI(a b:Bool)(i:Nat)(nt:gW)(hi:i<=l.length)(hn:nt.length<=i):AP l (M.wu (m+1) (ay l) (i:Int) false (encS nt)) (ex l (n+1) 13 a b i nt):=by
 have h:=H n (zaU _) m aC;rw[M.VZ];simp only[M.vZ,M.Cc,dY,aJ,ex,Bool.not_false,fG,aj,asK];cases hc:isStep (bG l i) with
 |true=>have hlt:=eP (NC hc);simp only[aJ];exact AP.pass (h.pre i nt hlt hn) (by intros;simp only[dY,aJ])
 |false=>
  simp only[aX];refine AP.elim (R:=AP l) (h.e14 a b i nt hi hn) (λ_=>trivial) (λk op x y fl ks tg j nt hn=> ?_) (λx fl ks j nt hk he=> ?_)
  ·simp only[aJ,dY];exact AP.fO hn
  ·have hs:=iM (IU aC aC hi) he;simp only[aX,dY,aJ,fG,aj,asK];cases ht:tgt x with
   |false=>simp only[Bool.not_false,aJ,Bool.false_and,aX];exact AP.mk rfl rfl rfl rfl (Og hk) ht.symm
   |true=>
    simp only[zaT,aX,Bool.true_and];cases hc:isStep (bG l j) with
    |false=>simp only[Bool.not_false,aJ,aX];exact AP.mk rfl rfl rfl rfl (Og hk) ht.symm
    |true=>have hlt:=eP (NC hc);simp only[zaT,aX,aJ,pX hl hlt];exact AP.mk rfl rfl rfl rfl (fz1 (Og hk)) rfl
theorem aGJ(a b:Bool)(i:Nat)(nt:gW)(hi:i<=l.length)(hn:nt.length<=i):AP l (M.oJ (m+1) (ay l) (i:Int) false (encS nt)) (ex l (n+1) 14 a b i nt):=by
 have h:=H n (zaU _) m aC;rw[M.UU];simp only[M.uf,M.Aj,dY,aJ,aX,ex,fG,aj,bne];cases hc:bG l i==68 with
 |false=>simp only[Bool.not_false,aJ,aX];exact AP.pass (h.e15 a b i nt hi hn) (by intros;simp only[dY,aJ])
 |true=>
  have hlt:=dI hc (by decide);simp only[zaT,aX,aJ,pX hl hlt,fG,aj,asK];cases hs:isStep (bG l (i+1)) with
  |true=>
   have hlt':=eP (NC hs);simp only[aJ,dY];refine AP.elim (R:=AP l) (h.pre (i+1) nt hlt' aC) (λ_=>trivial) (λk op x y fl ks tg j nt hn=> ?_) (λy fl' kt j' ZG hk' he'=> ?_)
   ·simp only[aJ,dY];exact AP.fO hn
   ·simp only[aJ,dY];exact AP.mk rfl rfl rfl rfl (fz1 (Og hk')) rfl
  |false=>
   simp only[aX,aJ,dY];refine AP.elim (R:=AP l) (h.e14 a b (i+1) nt aC aC) (λ_=>trivial) (λk op x y fl ks tg j nt hn=> ?_) (λy fl' kt j' ZG hk' he'=> ?_)
   ·simp only[aJ,dY];exact AP.fO hn
   ·simp only[aJ,dY];exact AP.mk rfl rfl rfl rfl (fz1 (Og hk')) rfl
end
variable {l:List Tk}
def afQ{L:List Tn}{x:Tn}{ks:ak}(h:au ks=dN false x.kids):
  dN false L++[[D.int .i64 x.kind,D.int .i64 x.op,D.str x.text,D.str x.other,D.sl false 5 (au ks)]]=dN false (L++[x]):=by
 rw[Aa,h,<-an6];rfl
def itF(u:zas⊕zaL⊕zas):Option TL:=
 jg u (λt=>bif ah t.2.2.2.2 then some (true,t.2.2.2.1,t.1,t.2.1,t.2.2.1,t.2.2.2.2) else none) λu=>
  jg u (λt=>bif ah t.2.2.2 then some (true,t.2.2.1,t.1,t.2.1,true,t.2.2.2) else none) λu=>
  letE u λt=>bif ah t.2.2.2.2 then some (true,t.2.2.2.1,t.1,t.2.1,t.2.2.1,t.2.2.2.2) else none
def akM(hl:l.length<=1048576){m:Nat}{a b:Bool}:∀n,(∀n',n'<n->∀i nt,i<=l.length->nt.length<=i->AP l (M.iL m a b (ay l) (i:Int) false (encS nt)) (ex l n' 1 a b i nt))->
  ∀L i nt,L.length<6->i<=l.length->nt.length<=i->AL l ((M.wI (M.iL m) a b (ay l,(i:Int),false,dN false L,encS nt)).bind itF) (PK l n a b L i nt)
 |0,_,_,_,_,_,_,_=>by rw[PK];trivial
 |n+1,hrec,L,i,nt,hL,hi,hn=>by
  have hr:=hrec n (Nat.lt_succ_self n) i nt hi hn;have hs:=(sats l n).ex 1 a b i nt aC aC hi;rw[PK,M.wI];have hb:M.Jk (M.iL m) a b (ay l,(i:Int),false,dN false L,encS nt)=
    (M.iL m a b (ay l) (i:Int) false (encS nt)).bind λEO=>
    (bif((dN false L).length+[[D.int .i64 EO.1,D.int .i64 EO.2.1,D.str EO.2.2.1,D.str EO.2.2.2.1,D.sl false 5 (au EO.2.2.2.2.2.1)]].length) * 72|>.ble 140737488355328 then
    (bif((dN false L).length+[[D.int .i64 EO.1,D.int .i64 EO.2.1,D.str EO.2.2.1,D.str EO.2.2.2.1,D.sl false 5 (au EO.2.2.2.2.2.1)]].length).ble 140737488355328 then
     (bif EO.2.2.2.2.2.2.2.2.2.1 then
     (some (.inr (.inl ((EO.2.2.2.2.2.2.2.1,EO.2.2.2.2.2.2.2.2.1,EO.2.2.2.2.2.2.2.2.2.1,dN false L++[[D.int .i64 EO.1,D.int .i64 EO.2.1,D.str EO.2.2.1,D.str EO.2.2.2.1,D.sl false 5 (au EO.2.2.2.2.2.1)]],EO.2.2.2.2.2.2.2.2.2.2))))) else
     (bif ah EO.2.2.2.2.2.2.2.2.2.2 then
      ((M.aG EO.2.2.2.2.2.2.2.1 EO.2.2.2.2.2.2.2.2.1 EO.2.2.2.2.2.2.2.2.2.1 EO.2.2.2.2.2.2.2.2.2.2).bind λagR=>
      (bif agR.1 !=36 then
       (some (.inr (.inl ((agR.2.1,agR.2.2.1,agR.2.2.2.1,dN false L++[[D.int .i64 EO.1,D.int .i64 EO.2.1,D.str EO.2.2.1,D.str EO.2.2.2.1,D.sl false 5 (au EO.2.2.2.2.2.1)]],agR.2.2.2.2))))) else
       (bif((dN false L++[[D.int .i64 EO.1,D.int .i64 EO.2.1,D.str EO.2.2.1,D.str EO.2.2.2.1,D.sl false 5 (au EO.2.2.2.2.2.1)]]).length:Int)==6 then
       (some (.inr (.inr (.inl ((agR.2.1,agR.2.2.1,dN false L++[[D.int .i64 EO.1,D.int .i64 EO.2.1,D.str EO.2.2.1,D.str EO.2.2.2.1,D.sl false 5 (au EO.2.2.2.2.2.1)]],agR.2.2.2.2)))))) else
       (bif ah agR.2.2.2.2 then
        ((M.aT agR.2.1 (i64.wrap (agR.2.2.1+1)) agR.2.2.2.1 agR.2.2.2.2).bind λaC8=>
        (some (.inl ((aC8.1,aC8.2.1,aC8.2.2.1,dN false L++[[D.int .i64 EO.1,D.int .i64 EO.2.1,D.str EO.2.2.1,D.str EO.2.2.2.1,D.sl false 5 (au EO.2.2.2.2.2.1)]],aC8.2.2.2))))) else none)))) else none)) else none) else none):=by
   simp only[EY,M.Jk,M.C9,Bool.not_false,aJ,dY]
  generalize ex l n 1 a b i nt=p at hr hs|-;cases p with
  |out=>trivial
  |bad j=>obtain⟨k,op,x',y',fl,kt,tg,m',h1,h2⟩:=hr;rw[h2,aj] at hb;simp only[dR,Bd] at hb;rw[bC aC,aJ,bC aC,aJ,aJ] at hb;rw[aO hb,aj];simp only[itF,jg,dY,aJ];exact⟨_,_,_,h1,rfl⟩
  |ok x j m'=>
   obtain⟨fl,kt,h1,h2⟩:=hr;have hs':FE l i nt.length x.1.size j m'.length:=hs;rw[h2,aj] at hb;simp only[afQ h1,dR,Bd,DJ] at hb;rw[bC aC,aJ,bC aC,aJ,aX,dY,aJ,fG,aj] at hb;simp only[PR.bind];simp only[bne] at hb;cases hc:bG l j==36 with
   |false=>simp only[hc,Bool.not_false,aJ] at hb;rw[aO hb,aj];simp only[itF,jg,dY,aJ,aX];exact⟨_,rfl⟩
   |true=>
    have hlt:=dI hc (by decide);simp only[hc,zaT,aX,dY,aJ,pX hl hlt,SN hl (j+1) m' aC aC,aj] at hb;rw[aJ];cases h6:Nat.beq (L.length+1) 6 with
    |true=>
     have e:=MB h6;have e':(((L.length+1:Nat):Int)==6)=true:=by rw[e];rfl
     rw[e',aJ] at hb;rw[aO hb,aj,aJ];simp only[itF,jg,dY,aJ];exact⟨_,_,_,aC,rfl⟩
    |false=>
     have e:L.length+1≠6:=Nat.ne_of_beq_eq_false h6;have e':(((L.length+1:Nat):Int)==6)=false:=by rw[Y6];omega
     rw[e',aX] at hb;rw[aZ hb,aX];have hf:=EC (l:=l) (i:=j+1) (nt:=m') aC;exact akM hl n (λn' h=>hrec n' aC) (L++[x.1]) _ _ (by rw[DJ,Bd];omega) aC aC
section
variable {n m:Nat} (hl:l.length<=1048576) (H:∀n',n'<=n->∀m',4 * n'+30<=m'->RI l n' m') (hm:4 * (n+1)+30<=m+1)
include hl H hm
theorem aGK(a b:Bool)(i:Nat)(nt:gW)(hi:i<=l.length)(hn:nt.length<=i):AL l (M.mM (m+1) a b (ay l) (i:Int) false (encS nt)) (PK l (n+1) a b [] i nt):=by rw[M.aci];exact akM hl (n+1) (λn' hn' i nt hi hn=>(H n' aC m aC).e1 a b i nt hi hn) [] i nt (by decide) hi hn
theorem aXF(i:Nat)(nt:gW)(hi:i<=l.length)(hn:nt.length<=i):AP l (M.Az m (ay l) (i:Int) false (encS nt)) (bif bG l i==68||bG l i==6 then ex l n 14 false false i nt else .bad i):=by
 obtain⟨m2,rfl⟩:∃m2,m=m2+3:=⟨m - 3,aC⟩
 rw[M.aa3];simp only[M.wJ,M.uF,aX,dY,aJ,fG,aj];cases h8:bG l i==68 with
 |true=>simp only[aJ,Bool.true_or];exact AP.pass ((H n (zaU _) (m2+2) aC).e14 false false i nt hi hn) (by intros;simp only[dY,aJ])
 |false=>
  cases h6:bG l i==6 with
  |false=>simp only[aX,Bool.or_self,asL,aj,dY,aJ];exact AP.fO aC
  |true=>
   have hlt:=dI h6 (by decide);have e:bG l i=6:=by rwa [beq_iff_eq] at h6
   simp only[aJ,aX,Bool.false_or];refine AP.pass ?_ (by intros;simp only[dY,aJ]);cases n with
   |zero=>rw[ex];trivial
   |succ n1=>
    have e1:ex l (n1+1) 14 false false i nt=ex l n1 15 false false i nt:=by simp only[ex,h8,aX]
    rw[e1];cases n1 with
    |zero=>rw[ex];trivial
    |succ n2=>
     have h3:(bG l i==3)=false:=by rw[e];rfl
     have h4:(bG l i==4)=false:=by rw[e];rfl
     have h5:(bG l i==5)=false:=by rw[e];rfl
     have e2:ex l (n2+1) 15 false false i nt=awn l n2 i nt:=by simp only[ex,h3,h4,h5,h6,aX,aJ,awn]
     rw[e2];exact aEw hl (λi nt hi hn=>(H n2 aC m2 aC).its false false i nt hi hn) hlt hn
theorem aGL(i:Nat)(nt:gW)(hi:i<l.length)(hn:nt.length<=i):AP l (M.rW (m+1) (ay l) (i:Int) false (encS nt)) (XD l (n+1) i nt):=by
 rw[M.aa4,XD];simp only[M.wL,dY,aJ,fG,aj,pX hl hi];have e:(bif bG l (i+1)==68||bG l (i+1)==6 then(ex l n 14 false false (i+1) nt).bind λx j nt=> .ok (.mk 9 (bG l i) [] [] [x.1],false) j nt else .bad (i+1):PR Xp)=
   (bif bG l (i+1)==68||bG l (i+1)==6 then ex l n 14 false false (i+1) nt else .bad (i+1)).bind λx j nt=> .ok (.mk 9 (bG l i) [] [] [x.1],false) j nt:=by
  cases(bG l (i+1)==68||bG l (i+1)==6)<;>rfl
 rw[e];refine AP.elim (R:=AP l) (aXF hl H hm (i+1) nt aC aC) (λ_=>trivial) (λk op x y fl ks tg j nt hn=> ?_) (λy fl' kt j' ZG hk' he'=> ?_)
 ·simp only[aJ,dY];exact AP.fO hn
 ·simp only[aJ,dY];exact AP.mk rfl rfl rfl rfl (fz1 (Og hk')) rfl
theorem aAa(kd:Int)(hkd:abE kd=false)(i:Nat)(nt:gW)(hi:i<l.length)(hn:nt.length<=i):
  AP l ((M.aS 32 (ay l) ((i+1:Nat):Int) false (encS nt)).bind λr=>bif r.1 then(bif ah r.2.2.2.2 then(M.jR m 33 r.2.1 r.2.2.1 r.2.2.2.1 r.2.2.2.2).bind λr'=>bif ah r'.2.2.2.2.2 then some (kd,0,CG l i,[],false,au r'.2.1,false,r'.2.2.1,r'.2.2.2.1,r'.2.2.2.2.1,r'.2.2.2.2.2) else none else none)
   else(bif ah r.2.2.2.2 then some (kd,0,CG l i,[],true,[],false,r.2.1,r.2.2.1,r.2.2.2.1,r.2.2.2.2) else none))
   ((jD l 32 (i+1) nt).bind λ_ j nt=>(PN l n 33 j nt).bind λL j nt=> .ok (.mk kd 0 (CG l i) [] L,false) j nt):=by
 refine NU (R:=AP l) hl (by decide) ?_ (λ_ hlt=> ?_)
 ·simp only[dY,aJ,aX];exact AP.fO aC
 ·simp only[dY,aJ];obtain⟨m2,rfl⟩:∃m2,m=m2+3:=⟨m - 3,aC⟩
  cases n with
  |zero=>rw[PN];trivial
  |succ n1=>
   refine AL.elim (R:=AP l) (az9 hl ((H n1 aC (m2+2) aC).its false false (i+1+1) nt aC aC) aC aC) (λ_=>trivial) (λfl ks j nt hn=> ?_) (λL fl j nt he=> ?_)
   ·simp only[dY,aJ];exact AP.fO hn
   ·simp only[dY,aJ,jf];exact AP.mk rfl rfl rfl rfl (jf _ _) (by simp only[tgt,Tn.kind,hkd];rfl)
theorem aGM(a b:Bool)(i:Nat)(nt:gW)(hi:i<=l.length)(hn:nt.length<=i):AP l (M.qR (m+1) (ay l) (i:Int) false (encS nt)) (ex l (n+1) 15 a b i nt):=by
 have h:=H n (zaU _) m aC;rw[M.Rx];simp only[M.qP,M.yN,M.yc,dY,aJ,aX,ex,fG,aj];cases h3:bG l i==3 with
 |true=>have hlt:=dI h3 (by decide);simp only[aJ,NT hl hlt,aj,dY];exact AP.mk rfl rfl rfl rfl rfl rfl
 |false=>
 cases h4:bG l i==4 with
 |true=>have hlt:=dI h4 (by decide);simp only[aJ,aX,NT hl hlt,aj,dY];exact AP.mk rfl rfl rfl rfl rfl rfl
 |false=>
 cases h5:bG l i==5 with
 |true=>have hlt:=dI h5 (by decide);simp only[aJ,aX,NT hl hlt,aj,dY];exact AP.mk rfl rfl rfl rfl rfl rfl
 |false=>
 cases h6:bG l i==6 with
 |true=>
  have hlt:=dI h6 (by decide);simp only[aJ,aX];obtain⟨m2,rfl⟩:∃m2,m=m2+2:=⟨m - 2,aC⟩
  exact AP.pass (aEw hl (λi nt hi hn=>(H n (zaU _) m2 aC).its false false i nt hi hn) hlt hn) (by intros;simp only[dY,aJ])
 |false=>
 cases h7:bG l i==7 with
 |true=>
  have hlt:=dI h7 (by decide);have e:bG l i=7:=by rwa [beq_iff_eq] at h7
  have h8:(bG l i==8)=false:=by rw[e];rfl
  simp only[aJ,aX,NT hl hlt,aj,dY,h8,Bool.true_or,Bool.false_and];have:=aAa hl H hm 7 rfl i nt hlt hn;rw[e];exact this
 |false=>
 cases h8:bG l i==8 with
 |true=>
  have hlt:=dI h8 (by decide);have e:bG l i=8:=by rwa [beq_iff_eq] at h8
  simp only[aJ,aX,NT hl hlt,aj,dY,Bool.or_true,Bool.true_and];have hcall:=aAa hl H hm 8 rfl i nt hlt hn;cases hx:CG l i==[108,101,110,103,116,104] with
  |false=>simp only[aX,Bool.false_and];rw[e];exact hcall
  |true=>
   simp only[aJ,Bool.true_and,fG,aj,bne];cases h32:bG l (i+1)==32 with
   |false=>simp only[Bool.not_false,aJ,dY];exact AP.mk rfl rfl rfl rfl rfl rfl
   |true=>simp only[zaT,aX,dY,aJ];rw[e];exact hcall
 |false=>
 cases h32:bG l i==32 with
 |true=>
  have hlt:=dI h32 (by decide);simp only[aJ,aX,pX hl hlt,Bool.or_self];refine AP.elim (R:=AP l) (h.e1 false false (i+1) nt aC aC) (λ_=>trivial) (λk op x y fl ks tg j nt hn=> ?_) (λx fl ks j ZG hk he=> ?_)
  ·simp only[aJ,dY,wV,aj];exact AP.fO hn
  ·have hs:=iM (IU aC aC aC) he;simp only[dY,aJ];refine NU (R:=AP l) hl (by decide) ?_ (λ_ hlt=> ?_)
   ·simp only[dY,aJ];exact AP.fO aC
   ·simp only[dY,aJ];exact AP.mk rfl rfl rfl rfl (Og hk) rfl
 |false=>simp only[aX,Bool.or_self,asL,aj,dY,aJ];exact AP.fO aC
end
end Go.Proofs.YtoaeipkhadpbiaaGreatDoor
