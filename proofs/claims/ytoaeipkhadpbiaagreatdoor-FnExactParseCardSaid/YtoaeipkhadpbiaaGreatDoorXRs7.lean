import Derived.Test.YtoaeipkhadpbiaaGreatDoorXRs4
set_option linter.defProp false
namespace Go.Proofs.YtoaeipkhadpbiaaGreatDoor
set_option linter.unusedVariables false
set_option linter.unusedSimpArgs false
open Go Go.Vm
open Go.IntKind (i64)
variable {l:List Tk}
def LG(L:List Tn):ak (parts L)=parts L:=by rw[vZ];exact Ar _
def Ns(k:Int)(x:aJ):ak [[D.int .i64 k,D.int .i64 0,D.str x,D.str [],D.sl true 1 []]]=aW false ((Tn.mk k 0 x [] []).flat 0):=rfl
def aqX(hl:l.length<=3000)(k:Int){i:Nat}{ns:List Tk}(h:bD l i≠0):M.yj k (au l) (i:Int) false (au ns)=some (true,[[D.int .i64 k,D.int .i64 0,D.str (Bo l i),D.str [],D.sl true 1 []]],false,au l,((i+1:Nat):Int),false,au ns):=by
 have hlt:=dV h;obtain⟨t,ht⟩:∃t,l[i]? =some t:=⟨l[i],by simp[hlt]⟩
 have e:bD l i=t.kind:=by rw[bD,ht]
 simp only[M.yj,M.OE,dI,gq,ht,KZ,aj,cT0,aZ,aI,eU hl e (by rw[<-e];exact h)]
section
variable {n m:Nat} (hl:l.length<=3000)
include hl
theorem aD0(h:∀n',n'<n->∀i ns,i<=l.length->ns.length<=i->AX l i (M.bF m 1 false false false false (au l) (i:Int) false (au ns)) (ex l n' 1 false false i (txt ns))){i:Nat}{ns:List Tk}(h6:bD l i=6)(hn:ns.length<=i):
  AX l i (M.JA (m+2) (au l) (i:Int) false (au ns)) (auB l n i (txt ns)):=by
 have hlt:i<l.length:=dV (by rw[h6];decide);rw[M.aip,auB];simp only[M.FQ,aZ,aI,eU hl h6 (by decide),aj,fU,bne];cases hc:bD l (i+1)==34 with
 |false=>simp only[Bool.not_false,aI,aX];exact AX.mk (Ns _ _) rfl
 |true=>
  have hlt':=cZ hc (by decide);have e34:bD l (i+1)=34:=by rwa [beq_iff_eq] at hc
  simp only[zaN,aX,aI,eU hl e34 (by decide),aj,aZ];have e:(PU l n false false [] (i+2) (txt ns)).bind (λL j nt=>(iZ l 35 j nt).bind λ_ j nt=>PR.ok ((Tn.mk 5 0 (Bo l i) [] L,false):Xp) j nt)=
    (agH l n 35 (i+2) (txt ns)).bind λL j nt=> .ok ((Tn.mk 5 0 (Bo l i) [] L,false):Xp) j nt:=by
   rw[agH];cases PU l n false false [] (i+2) (txt ns) with
   |ok L j m=>simp only[PR.bind];cases iZ l 35 j m<;>rfl
   |bad j=>rfl
   |out=>rfl
  rw[e];refine AY.elim (Q:=AX l i) (aqU hl (e:=35) (by decide) h (i:=i+1+1) (ns:=ns) aB aB) (λ_=>trivial) (λfl j ns' P g1 g2 g3 g4 g5 g6=> ?_) (λL fl j ns' he=> ?_)
  ·obtain⟨R',e1,e2⟩:=adn 5 0 (Bo l i) [] [] (b:=3 * (j - (i+1+1))) g4 aB aB g6;simp only[Ar,e1,aj,aZ,aI,aT];exact AX.eX aB g2 g3 (aT _ _) (e2.mono aB)
  ·have hs:sizes L<=9000:=by
    rw[agH] at he;have:=gU (P:=λL _ _=>sizes L<=9000) (by
     rw[dW];refine bJ (acr (l:=l) aB) λL j m hL=> ?_
     rw[dW,wS];intro _;show sizes L<=9000;omega) he
    exact this
   have hmk:=EF 5 0 (Bo l i) [] [] L aB;simp only[LG,hmk,aj,aZ,aI,aT];exact AX.mk (aT _ _) rfl
theorem aAR{e:Int}(he:e≠0){i:Nat}{nt:gY}(hi:i<=l.length):(Rz l n e i nt).sat λL _ _=>sizes L<=9000:=
 bJ ((sats l n).lst e i nt he hi) λL j m h=>by omega
theorem aD1(h:∀n',n'<n->∀i ns,i<=l.length->ns.length<=i->AX l i (M.bF m 1 false false false false (au l) (i:Int) false (au ns)) (ex l n' 1 false false i (txt ns))){i:Nat}{ns:List Tk}(hi:i<=l.length)(hn:ns.length<=i):
  AY l i (M.mM (m+1) 33 0 (au l) (i:Int) false (au ns)) (Rz l n 33 i (txt ns)):=by
 cases n with
 |zero=>rw[Rz];trivial
 |succ n=>exact aDY hl (λn' hn'=>h n' aB) hi hn
theorem ayp(kd:Int)(h:∀n',n'<n->∀i ns,i<=l.length->ns.length<=i->AX l i (M.bF m 1 false false false false (au l) (i:Int) false (au ns)) (ex l n' 1 false false i (txt ns))){i:Nat}{ns:List Tk}(hi:i<l.length)(hn:ns.length<=i):
  AX l i ((M.aH 32 (au l) ((i+1:Nat):Int) false (au ns)).bind λaeV=>bif ah aeV.2.2.2.2.2.2 then
     (M.mM (m+1) 33 0 aeV.2.2.2.1 aeV.2.2.2.2.1 aeV.2.2.2.2.2.1 aeV.2.2.2.2.2.2).bind λaeW=>
        (M.bV kd 0 (Bo l i) [] [] (ak aeW.2.1)).bind λaC3=>
        (bif ah aeW.2.2.2.2.2 then
         some (false,ak aC3,false,aeW.2.2.1,aeW.2.2.2.1,aeW.2.2.2.2.1,aeW.2.2.2.2.2) else none) else none)
   ((iZ l 32 (i+1) (txt ns)).bind λ_ j nt=>(Rz l n 33 j nt).bind λL j nt=> .ok (.mk kd 0 (Bo l i) [] L,false) j nt):=by
 rw[iZ];cases hc:bD l (i+1)==32 with
 |false=>obtain⟨R',e1,e2⟩:=adn kd 0 (Bo l i) [] [] (P:=[]) (b:=0) (by simp[lens]) aB (by simp) KB.nil;have e1':M.bV kd 0 (Bo l i) [] [] (ak [])=some (aW true R'):=e1;simp only[uo hc,aj,aZ,aI,aX,aAO,e1',aT];exact AX.eX aB aB aB (aT _ _) (e2.mono aB)
 |true=>
  have hlt:=cZ hc (by decide);have e32:bD l (i+1)=32:=by rwa [beq_iff_eq] at hc
  simp only[eU hl e32 (by decide),aj,aZ,aI];refine AY.elim (Q:=AX l i) (aD1 hl h (i:=i+1+1) (ns:=ns) aB aB) (λ_=>trivial) (λfl j ns' P g1 g2 g3 g4 g5 g6=> ?_) (λL fl j ns' he=> ?_)
  ·obtain⟨R',e1,e2⟩:=adn kd 0 (Bo l i) [] [] (b:=3 * (j - (i+1+1))) g4 aB aB g6;simp only[Ar,e1,aj,aZ,aI,aT];exact AX.eX aB g2 g3 (aT _ _) (e2.mono aB)
  ·have hs:sizes L<=9000:=gU (aAR hl (by decide) aB) he;have hmk:=EF kd 0 (Bo l i) [] [] L aB;simp only[LG,hmk,aj,aZ,aI,aT];exact AX.mk (aT _ _) rfl
theorem ayq(H:∀n',n'<=n->∀m',4 * n'+20<=m'->RX l n' m')(hm:4 * n+22<=m)(a b:Bool)(i:Nat)(ns:List Tk)(hi:i<=l.length)(hn:ns.length<=i):AX l i (M.vF (m+1) (au l) (i:Int) false (au ns)) (ex l (n+1) 15 a b i (txt ns)):=by
 have h:=H n (zaO _) m aB;obtain⟨m2,rfl⟩:∃m2,m=m2+2:=⟨m - 2,aB⟩
 have aqY:∀n',n'<n->∀i ns,i<=l.length->ns.length<=i->AX l i (M.bF m2 1 false false false false (au l) (i:Int) false (au ns)) (ex l n' 1 false false i (txt ns)):=λn' hn' i ns hi hn=>(H n' aB m2 aB).a1 false false i ns hi hn
 rw[M.ad5];simp only[M.yY,aZ,aI,aX,ex,fU,aj];cases h3:bD l i==3 with
 |true=>
  have e:bD l i=3:=by rwa [beq_iff_eq] at h3
  simp only[aI,aqX hl 2 (show bD l i≠0 by rw[e];decide),aj,aZ,Ns];exact AX.mk (aT _ _) rfl
 |false=>
 cases h4:bD l i==4 with
 |true=>
  have e:bD l i=4:=by rwa [beq_iff_eq] at h4
  simp only[aI,aX,aqX hl 3 (show bD l i≠0 by rw[e];decide),aj,aZ,Ns];exact AX.mk (aT _ _) rfl
 |false=>
 cases h5:bD l i==5 with
 |true=>
  have e:bD l i=5:=by rwa [beq_iff_eq] at h5
  simp only[aI,aX,aqX hl 4 (show bD l i≠0 by rw[e];decide),aj,aZ,Ns];exact AX.mk (aT _ _) rfl
 |false=>
 cases h6:bD l i==6 with
 |true=>
  have e:bD l i=6:=by rwa [beq_iff_eq] at h6
  simp only[aI,aX];exact AX.pass (aD0 hl aqY e hn) (zaO i) (by intros;simp only[aZ,aI])
 |false=>
 cases h7:bD l i==7 with
 |true=>
  have e:bD l i=7:=by rwa [beq_iff_eq] at h7
  have hlt:=cZ h7 (by decide);have h8:(bD l i==8)=false:=by rw[e];rfl
  have w:((7:Int)==8)=false:=rfl;simp only[aI,aX,Bool.true_or,h8,Bool.false_and];refine AX.pass (i:=i) ?_ (zaO i) (by intros;simp only[aZ,aI]);rw[M.YA];simp only[M.BU,M.Dw,aZ,aI,fU,aj,eU hl rfl (show bD l i≠0 by rw[e];decide),w,aX];rw[e];exact ayp hl 7 aqY hlt hn
 |false=>
 cases h8:bD l i==8 with
 |true=>
  have e:bD l i=8:=by rwa [beq_iff_eq] at h8
  have hlt:=cZ h8 (by decide);have hcall:=ayp hl 8 aqY hlt hn;simp only[aI,aX,Bool.or_true,Bool.true_and];refine AX.pass (i:=i) ?_ (zaO i) (by intros;simp only[aZ,aI]);rw[M.YA];simp only[M.BU,M.Dw,aZ,aI,fU,aj,eU hl rfl (show bD l i≠0 by rw[e];decide),BEq.rfl,bne];rw[e];cases h32:bD l (i+1)==32 with
  |true=>simp only[zaN,aX,Bool.and_false];exact hcall
  |false=>
   simp only[Bool.not_false,aI,Bool.and_true];cases hx:Bo l i==[108,101,110,103,116,104] with
   |true=>simp only[aI];exact AX.mk (Ns _ _) rfl
   |false=>simp only[aX];exact hcall
 |false=>
 simp only[aX,Bool.or_self];cases h32:bD l i==32 with
 |false=>simp only[uo h32,M.jc,M.qK,aj,aZ,aI,aX,ayk,jW];exact AX.eX (R:=[]) (zaO i) hi aB rfl ⟨by simp,λn h=>by cases h⟩
 |true=>
  have e:bD l i=32:=by rwa [beq_iff_eq] at h32
  have hlt:=cZ h32 (by decide);simp only[eU hl e (by decide),M.jc,M.qK,aj,aZ,aI];refine AX.elim (Q:=AX l i) (h.a1 false false (i+1) ns aB aB) (λ_=>trivial) (λfl rows hd j ns R g1 g2 g3 g4 g5=> ?_) (λx fl rows j ns h1 he=> ?_)
  ·simp only[aZ,aI,jW,aj];exact AX.eX aB g2 g3 (fzN g4) (g5.mono aB)
  ·have hs:=gU (Gy aB aB aB) he;simp only[zaP] at hs;simp only[aZ,aI,iZ];cases hc:bD l j==33 with
   |true=>
    have e33:bD l j=33:=by rwa [beq_iff_eq] at hc
    simp only[eU hl e33 (by decide),aj,aZ,aI];exact AX.mk (by rw[h1,aT]) rfl
   |false=>simp only[uo hc,aj,aZ,aI,aX];exact AX.eX aB aB aB (fzN h1) ((RB.tree x.1 aB).mono aB)
theorem aAS(i:Nat)(ns:List Tk)(hi:i<=l.length):M.A8 (au l) (i:Int) false (au ns)=some (bD l i==32 && ahead (l.drop i) 0,au l,(i:Int),false,au ns):=by
 simp only[M.A8,M.MH,aX,aZ,aI,fU,aj,bne];cases h32:bD l i==32 with
 |false=>rfl
 |true=>
  have hlt:=cZ h32 (by decide);have e32:bD l i=32:=by rwa [beq_iff_eq] at h32
  simp only[zaN,aX,Bool.true_and];obtain⟨t,ht⟩:∃t,l[i]? =some t:=⟨l[i],by simp[hlt]⟩
  have ek:t.kind=32:=by rw[bD,ht] at e32;exact e32
  have hloop:∀(k j d:Nat),l.length - j<=k->1<=d->d<=j->j<=l.length->(∃u,M.oC (au l) (i:Int) false (au ns) ((d:Int),(j:Int))=some u/\(u=.inl (ahead (l.drop j) d)\/(∃p,u=.inr p)/\ahead (l.drop j) d=false)):=by
   intro k;induction k with
   |zero=>
    intro j d hk hd hdj hj;have:M.fP (au l) (i:Int) false (au ns) ((d:Int),(j:Int))=some (.inr (.inr ((d:Int),(j:Int)))):=by simp only[M.fP,M.jY,dQ];rw[zD aB,aX]
    exact⟨_,aN this,.inr ⟨⟨_,rfl⟩,by rw[List.drop_eq_nil_of_le aB,ahead]⟩⟩
   |succ k ih=>
    intro j d hk hd hdj hj
    by_cases hj':j<l.length
    ·obtain⟨u,hu⟩:∃u,l[j]? =some u:=⟨l[j],by simp[hj']⟩
     have hdec:decide ((j:Int)<(l.length:Int))=true:=by rw[zdt];omega
     have w1:i64.wrap ((j:Int)+1)=((j+1:Nat):Int):=by rw[bC aB aB];omega
     have w2:i64.wrap ((d:Int)+1)=((d+1:Nat):Int):=by rw[bC aB aB];omega
     have w3:i64.wrap ((d:Int) - 1)=((d - 1:Nat):Int):=by rw[bC aB aB];omega
     have z1:(((d+1:Nat):Int)==0)=false:=by rw[XB];omega
     have z2:(((d+1:Nat):Int)==1)=false:=by rw[XB];omega
     have z3:((d:Int)==0)=false:=by rw[XB];omega
     rw[WG hu,ahead];cases ho:Xw u.kind with
     |true=>
      have hs:VB u.kind=false:=by
       have:u.kind=32\/u.kind=34\/u.kind=30:=by simpa[Xw,Bool.or_eq_true] using ho
       rcases this with e|e|e<;>rw[e]<;>rfl
      have hb:M.fP (au l) (i:Int) false (au ns) ((d:Int),(j:Int))=some (.inl (((d+1:Nat):Int),((j+1:Nat):Int))):=by simp only[M.fP,M.jY,dQ,hdec,aI,dI,gq,hu,KZ,aj,cT0,Xy,ho,Xz,hs,aX,w1,w2,z1,z2]
      rw[M.oC,aY hb,aI];have:=ih (j+1) (d+1) aB aB aB aB;rw[show(((d+1:Nat):Int))=(d:Int)+1 by omega] at this|-;exact this
     |false=>
      rw[aX];cases hs:VB u.kind with
      |true=>
       have h36:(u.kind==36)=false:=by
        have:u.kind=33\/u.kind=35\/u.kind=31:=by simpa[VB,Bool.or_eq_true] using hs
        rcases this with e|e|e<;>rw[e]<;>rfl
       rw[aI]
       by_cases hd1:d=1
       ·subst hd1;have hb:M.fP (au l) (i:Int) false (au ns) (((1:Nat):Int),(j:Int))=some (.inr (.inl false)):=by have z0:(((1 - 1:Nat):Int)==0)=true:=rfl;simp only[M.fP,M.jY,dQ,hdec,aI,dI,gq,hu,KZ,aj,cT0,Xy,ho,Xz,hs,aX,w3,z0]
        exact⟨_,aN hb,.inl rfl⟩
       ·have z0:(((d - 1:Nat):Int)==0)=false:=by rw[XB];omega
        have hb:M.fP (au l) (i:Int) false (au ns) ((d:Int),(j:Int))=some (.inl (((d - 1:Nat):Int),((j+1:Nat):Int))):=by simp only[M.fP,M.jY,dQ,hdec,aI,dI,gq,hu,KZ,aj,cT0,Xy,ho,Xz,hs,aX,w1,w3,z0,h36,Bool.cond_self]
        rw[M.oC,aY hb,zD aB,aX];have:=ih (j+1) (d - 1) aB aB aB aB;rw[show(((d - 1:Nat):Int))=(d:Int) - 1 by omega] at this|-;exact this
      |false=>
       rw[aX,zD aB,aX];have hdd:(ahead (l.drop (j+1)) d)=ahead (l.drop (j+1)) d:=rfl;cases hd1:(d:Int)==1 with
       |false=>
        have hb:M.fP (au l) (i:Int) false (au ns) ((d:Int),(j:Int))=some (.inl ((d:Int),((j+1:Nat):Int))):=by simp only[M.fP,M.jY,dQ,hdec,aI,dI,gq,hu,KZ,aj,cT0,Xy,ho,Xz,hs,aX,w1,z3,hd1]
        rw[M.oC,aY hb,Bool.and_false,aX];exact ih (j+1) d aB aB aB aB
       |true=>
        rw[Bool.and_true];cases h36:u.kind==36 with
        |false=>
         have hb:M.fP (au l) (i:Int) false (au ns) ((d:Int),(j:Int))=some (.inl ((d:Int),((j+1:Nat):Int))):=by simp only[M.fP,M.jY,dQ,hdec,aI,dI,gq,hu,KZ,aj,cT0,Xy,ho,Xz,hs,aX,w1,z3,hd1,h36]
         rw[M.oC,aY hb,aX];exact ih (j+1) d aB aB aB aB
        |true=>
         have hb:M.fP (au l) (i:Int) false (au ns) ((d:Int),(j:Int))=some (.inr (.inl true)):=by simp only[M.fP,M.jY,dQ,hdec,aI,dI,gq,hu,KZ,aj,cT0,Xy,ho,Xz,hs,aX,z3,hd1,h36]
         exact⟨_,aN hb,.inl rfl⟩
    ·exact ih j d aB hd hdj hj
  have w1:i64.wrap ((i:Int)+1)=((i+1:Nat):Int):=by rw[bC aB aB];omega
  have hb0:M.fP (au l) (i:Int) false (au ns) (0,(i:Int))=some (.inl (((1:Nat):Int),((i+1:Nat):Int))):=by
   have o1:Xw 32=true:=rfl;have s1:VB 32=false:=rfl;have z1:(i64.wrap (0+1)==0)=false:=rfl;have z2:(i64.wrap (0+1)==1)=true:=rfl;have z3:((32:Int)==36)=false:=rfl;have hdec:decide ((i:Int)<(l.length:Int))=true:=by rw[zdt];omega
   simp only[M.fP,M.jY,dQ,hdec,aI,dI,gq,ht,KZ,aj,cT0,Xy,ek,o1,Xz,s1,aX,w1,z1,z2,z3];rfl
  obtain⟨u,hu1,hu2⟩:=hloop _ (i+1) 1 (zaO _) (zaO 1) aB aB;have hah:ahead (l.drop i) 0=ahead (l.drop (i+1)) 1:=by rw[WG ht,ahead,ek];rfl
  rw[M.oC] at hu1;rw[M.oC,aY hb0,hu1,aj,hah];rcases hu2 with rfl|⟨⟨p,rfl⟩,e⟩
  ·simp only[iO,aZ,aI];rfl
  ·have e':ahead (l.drop (i+1)) 1=false:=e;rw[e'];simp only[iO,letE,aZ,aI]
end
variable {l:List Tk}
abbrev W6:=ay×Int×Bool×ay×Bool×ay
def AW(l:List Tk)(i:Nat)(o:Option W6):PR Xp->Prop
 | .ok x j nt=>∃ns,txt ns=nt/\o=some (au l,(j:Int),false,aW false (x.1.flat 0),x.2,au ns)
 | .bad j=>∃hd ns R,i<=j/\j<=l.length/\ns.length<=l.length/\RB R (3 * (j - i))/\o=some (au l,(j:Int),true,aW false R,hd,au ns)
 | .out=>True
def AW.fin{i:Nat}{o:Option W6}{p:PR Xp}(h:AW l i o p):AX l i (o.bind λt=>bif ah t.2.2.2.2.2 then some (false,t.2.2.2.1,t.2.2.2.2.1,t.1,t.2.1,t.2.2.1,t.2.2.2.2.2) else none) p:=by
 cases p with
 |ok x j nt=>obtain⟨ns,rfl,rfl⟩:=h;simp only[aj,aZ,aI];exact AX.mk (aT _ _) rfl
 |bad j=>obtain⟨hd,ns,R,g1,g2,g3,g4,rfl⟩:=h;simp only[aj,aZ,aI];exact AX.eX g1 g2 g3 (aT _ _) g4
 |out=>trivial
def ayr(k op:Int)(x:aJ)(t:Tn)(h:t.size<=90000):M.dJ k op x [] [] (qW [t.flat 0])=some (false,aW false ((Tn.mk k op x [] [t]).flat 0),false):=afh k op x [] [] [t] (by simp only[sizes];omega)
def aD2(hl:l.length<=3000){f:Int->Int->ay->Int->Bool->ay->Option TY}{g:Int->Bool->Bool->Bool->Bool->ay->Int->Bool->ay->Option TX}{p:Int}{p1 a b p4:Bool}:
  ∀(n i0:Nat) (x:Xp) (i:Nat) (ns:List Tk),i0<i->i<=l.length->ns.length<=i->x.1.size+2 * i0+1<=2 * i->
   AW l i0 (M.ql f g p p1 a b p4 false (au l,(i:Int),false,aW false (x.1.flat 0),x.2,au ns)) (inP l n a x i (txt ns))
 |0,_,_,_,_,_,_,_,_=>by rw[inP];trivial
 |n+1,i0,x,i,ns,hi0,hi,hn,hx=>by
  rw[inP,M.ql];cases a with
  |true=>
   have hb:M.sD f g p p1 true b p4 false (au l,(i:Int),false,aW false (x.1.flat 0),x.2,au ns)=some (.inr (au l,(i:Int),false,aW false (x.1.flat 0),x.2,au ns)):=by simp only[M.sD,M.zy,Bool.not_false,zaN,aI,aX]
   rw[aN hb,zaN,Bool.and_false,aX];exact⟨ns,rfl,rfl⟩
  |false=>
   rw[Bool.not_false,Bool.and_true];cases hc:bD l i==24 with
   |false=>
    have hb:M.sD f g p p1 false b p4 false (au l,(i:Int),false,aW false (x.1.flat 0),x.2,au ns)=some (.inr (au l,(i:Int),false,aW false (x.1.flat 0),x.2,au ns)):=by simp only[M.sD,M.zy,Bool.not_false,aI,aX,aZ,fU,aj,hc]
    rw[aN hb,aX];exact⟨ns,rfl,rfl⟩
   |true=>
    have hlt:=cZ hc (by decide);have e24:bD l i=24:=by rwa [beq_iff_eq] at hc
    rw[aI,nameP];cases h6:bD l (i+1)==6 with
    |false=>
     have hb:M.sD f g p p1 false b p4 false (au l,(i:Int),false,aW false (x.1.flat 0),x.2,au ns)=some (.inl (au l,((i+1:Nat):Int),true,aW false ((Tn.mk 13 0 [] [] [x.1]).flat 0),false,au ns)):=by simp only[M.sD,M.zy,Bool.not_false,aI,aZ,fU,aj,hc,eU hl e24 (by decide),uo h6,agI,ayr 13 0 [] x.1 aB,aT]
     rw[aY hb];refine⟨_,ns,_,aB,aB,aB,(RB.tree (Tn.mk 13 0 [] [] [x.1]) (by rw[Uy];omega)).mono (by rw[Uy];omega),aN rfl⟩
    |true=>
     have hlt':=cZ h6 (by decide);have e6:bD l (i+1)=6:=by rwa [beq_iff_eq] at h6
     have hb:M.sD f g p p1 false b p4 false (au l,(i:Int),false,aW false (x.1.flat 0),x.2,au ns)=some (.inl (au l,((i+1+1:Nat):Int),false,aW false ((Tn.mk 13 0 (Bo l (i+1)) [] [x.1]).flat 0),false,au ns)):=by simp only[M.sD,M.zy,Bool.not_false,aI,aZ,fU,aj,hc,eU hl e24 (by decide),eU hl e6 (by decide),agI,ayr 13 0 (Bo l (i+1)) x.1 aB,aT]
     rw[aY hb];exact aD2 hl n i0 (.mk 13 0 (Bo l (i+1)) [] [x.1],false) (i+1+1) ns aB aB aB (by rw[Uy];omega)
section
variable {n m:Nat} (hl:l.length<=3000)
include hl
theorem auE(h:RX l n m)(p:Int)(p1 a b p4:Bool)(i:Nat)(ns:List Tk)(hi:i<=l.length)(hn:ns.length<=i):
  AX l i ((M.bF m 6 false a b false (au l) (i:Int) false (au ns)).bind λr=>(M.ql (M.mM m) (M.bF m) p p1 a b p4 false (r.2.2.2.1,r.2.2.2.2.1,r.2.2.2.2.2.1,ak r.2.1,r.2.2.1,r.2.2.2.2.2.2)).bind λt=>bif ah t.2.2.2.2.2 then some (false,t.2.2.2.1,t.2.2.2.2.1,t.1,t.2.1,t.2.2.1,t.2.2.2.2.2) else none)
   ((ex l n 6 a b i (txt ns)).bind λx i nt=>inP l n a x i nt):=by
 refine AX.elim (Q:=AX l i) (h.a6 a b i ns hi hn) (λ_=>trivial) (λfl rows hd j ns R g1 g2 g3 g4 g5=> ?_) (λx fl rows j ns h1 he=> ?_)
 ·rw[show M.ql _ _ _ _ _ _ _ _ _=_ from aN rfl];simp only[aj,aZ,aI];exact AX.eX g1 g2 g3 (fzN g4) g5
 ·have hs:=gU (Gy aB aB hi) he;simp only[zaP] at hs;simp only[h1];exact(aD2 hl n i x j ns aB aB aB aB).fin
theorem aL6(H:∀n',n'<=n->∀m',4 * n'+20<=m'->RX l n' m')(hm:4 * n+22<=m)(p:Int)(p1 a b p4:Bool)(i:Nat)(ns:List Tk)(hi:i<=l.length)(hn:ns.length<=i):AX l i (M.OH (m+1) p p1 a b p4 (au l) (i:Int) false (au ns)) (ex l (n+1) 5 a b i (txt ns)):=by
 have h:=H n (zaO _) m aB;have hbare:=auE hl h p p1 a b p4 i ns hi hn;rw[M.alZ];simp only[M.Ku,M.bP,M.fE,aZ,aI,ex,aj];cases a with
 |true=>simp only[zaN,aX,Bool.and_false,Bool.false_and];exact hbare
 |false=>
  simp only[Bool.not_false,aI,Bool.and_true,aAS hl i ns hi,aj,aZ];cases hc:(bD l i==32 && ahead (l.drop i) 0) with
  |false=>simp only[aX];exact hbare
  |true=>
   have hc':=hc;rw[Ji] at hc';have hlt:=cZ hc'.1 (by decide);have e32:bD l i=32:=by have:=hc'.1;rwa [beq_iff_eq] at this
   have hne:=ao5 e32 hc'.2;simp only[aI,eU hl e32 (by decide),aj,aZ];obtain⟨m1,rfl⟩:∃m1,m=m1+1:=⟨m - 1,aB⟩
   cases n with
   |zero=>rw[Rz];trivial
   |succ n1=>
    have hll:Rz l (n1+1) 33 (i+1) (txt ns)=agH l n1 33 (i+1) (txt ns):=by rw[Rz,hne];rfl
    rw[hll];have hli:=aqU hl (e:=33) (by decide) (n:=n1) (m:=m1) (i:=i+1) (ns:=ns) (λn' hn' i ns hi hn=>(H n' aB m1 aB).a1 false false i ns hi hn) aB aB;refine AY.elim (Q:=AX l i) hli (λ_=>trivial) (λfl j ns' P g1 g2 g3 g4 g5 g6=> ?_) (λL fl j ns' he=> ?_)
    ·obtain⟨R',e1,e2⟩:=adn 13 0 [] [] [] (b:=3 * (j - (i+1))) g4 aB aB g6;simp only[aZ,aI,jW,aj,Ar,e1,aT];rw[show M.ql _ _ _ _ _ _ _ _ _=_ from aN rfl];simp only[aj,aZ,aI];exact AX.eX aB g2 g3 (aT _ _) (e2.mono aB)
    ·have hs:i+1<j/\j<=l.length/\ns'.length+(i+1)<=ns.length+j/\sizes L+2 * (i+1)+1<=2 * j:=by rw[<-hll] at he;have:=gU ((sats l (n1+1)).lst 33 (i+1) (txt ns) (by decide) aB) he;simpa only[zaP] using this
     simp only[aZ,aI];rw[iZ];cases h24:bD l j==24 with
     |false=>obtain⟨R',e1,e2⟩:=adn 13 0 [] [] [] (P:=L.map λt=>t.flat 0) (b:=sizes L) (by rw[mP];omega) aB (by rw[zaP];have:=BI L;omega) (by have:=KB.trees (P:=[]) L aB KB.nil;rwa [List.append_nil] at this);rw[<-vZ] at e1;simp only[uo h24,aj,aZ,aI,jW,LG,e1,aT];rw[show M.ql _ _ _ _ _ _ _ _ _=_ from aN rfl];simp only[aj,aZ,aI];exact AX.eX aB aB aB (aT _ _) (e2.mono aB)
     |true=>
      have aSB:=cZ h24 (by decide);have e24:bD l j=24:=by rwa [beq_iff_eq] at h24
      simp only[eU hl e24 (by decide),aj,aZ,aI,PR.bind];rw[nameP];cases h6:bD l (j+1)==6 with
      |false=>obtain⟨R',e1,e2⟩:=adn 13 0 [] [] [] (P:=L.map λt=>t.flat 0) (b:=sizes L) (by rw[mP];omega) aB (by rw[zaP];have:=BI L;omega) (by have:=KB.trees (P:=[]) L aB KB.nil;rwa [List.append_nil] at this);rw[<-vZ] at e1;simp only[uo h6,aj,LG,e1,aT,aX];rw[show M.ql _ _ _ _ _ _ _ _ _=_ from aN rfl];simp only[aj,aZ,aI];exact AX.eX aB aB aB (aT _ _) (e2.mono aB)
      |true=>
       have aSf:=cZ h6 (by decide);have e6:bD l (j+1)=6:=by rwa [beq_iff_eq] at h6
       simp only[eU hl e6 (by decide),aj,LG,EF 13 0 (Bo l (j+1)) [] [] L aB,aT,aI];exact(aD2 hl (n1+1) i (.mk 13 0 (Bo l (j+1)) [] L,false) (j+1+1) ns' aB aB aB (by rw[RD];omega)).fin
omit hl in
theorem lv6(k:Int):(k==67||k==46)=(Gv k==((6:Nat):Int)):=by
 cases h4:k==44 with
 |true=>
  have e:k=44:=by rwa [beq_iff_eq] at h4
  rw[e];rfl
 |false=>
 cases h5:k==45 with
 |true=>
  have e:k=45:=by rwa [beq_iff_eq] at h5
  rw[e];rfl
 |false=>
 cases h6:(k==67||k==46) with
 |true=>rw[Gv,h4,h5,h6];rfl
 |false=>rw[Gv,h4,h5,h6,aX,aX,aX];cases(k==63||(k==48||(k==47||(k==50||(k==62||k==49)))))<;>cases k==99<;>cases(k==55||k==56)<;>cases(k==57||(k==58||k==59))<;>cases k==60<;>rfl
omit hl in
theorem agJ(lv:Int)(p:Int)(p1 a b p4:Bool)(i:Nat)(ns:List Tk):M.kS lv p p1 a b p4 (au l) (i:Int) true (au ns)=some (false,au l,(i:Int),true,au ns):=by simp only[M.kS,M.OC,aZ,aI,fU,aj,zaN,aX]
omit hl in
theorem AZ.fin{i:Nat}{o:Option T7}{p:PR Xp}(h:AZ l i o p):AX l i (o.bind λt=>bif ah t.2.2.2.2.2.2 then some (false,t.2.2.2.2.1,t.2.2.2.2.2.1,t.2.1,t.2.2.1,t.2.2.2.1,t.2.2.2.2.2.2) else none) p:=by
 cases p with
 |ok x j nt=>obtain⟨cnt,ns,rfl,rfl⟩:=h;simp only[aj,aZ,aI];exact AX.mk (aT _ _) rfl
 |bad j=>obtain⟨cnt,hd,ns,R,g1,g2,g3,g4,rfl⟩:=h;simp only[aj,aZ,aI];exact AX.eX g1 g2 g3 (aT _ _) g4
 |out=>trivial
theorem aD3(H:∀n',n'<=n->∀m',4 * n'+20<=m'->RX l n' m')(hm:4 * n+22<=m)(p:Int)(p1 a b p4:Bool)(i:Nat)(ns:List Tk)(hi:i<=l.length)(hn:ns.length<=i):AX l i (M.nZ (m+1) p p1 a b p4 3 3000 (au l) (i:Int) false (au ns)) (ex l (n+1) 3 a b i (txt ns)):=by
 have h:=H n (zaO _) m aB;have e1:M.tV 3=some 44:=rfl;have e2:M.qy 44=some (3,4):=rfl;have e3:i64.wrap ((3:Int)+1)=4:=rfl;have e4:decide ((3000:Int)>1)=true:=rfl;rw[M.zA];simp only[M.l9,M.oD,M.bP,M.fE,e1,e2,e3,e4,aj,aZ,aI,ex];have hlt:∀cnt:Nat,cnt<3000->decide ((cnt:Int)<3000)=true:=λcnt h=>by rw[zdt];omega
 refine AX.elim (Q:=AX l i) (h.a4 a b i ns hi hn) (λ_=>trivial) (λfl rows hd j ns R g1 g2 g3 g4 g5=> ?_) (λx fl rows j ns h1 he=> ?_)
 ·have hb:M.aU (M.bF m) 3 3000 4 p p1 a b p4 false (0,au l,(j:Int),true,ak rows,hd,au ns)=some (.inr (0,au l,(j:Int),true,ak rows,hd,au ns)):=by have e0:decide ((0:Int)<3000)=true:=rfl;simp only[M.aU,M.bU,M.bK,M.bM,e0,aI,aZ,agJ,aj,aX]
  rw[M.jA,aN hb];simp only[aj,aZ,aI];exact AX.eX g1 g2 g3 (fzN g4) g5
 ·have hs:=gU (Gy aB aB hi) he;simp only[zaP] at hs;simp only[h1];refine AZ.fin (aat hl (lv:=3) (a:=a) (b:=b) (f:=λc c1 c2 c3=>M.bF m 4 false a b false c c1 c2 c3) aB aB ?_ ?_ ?_ n (λn' hn' i ns hi hn=>(H n' hn' m aB).a4 a b i ns hi hn) i 0 x j ns aB aB aB aB aB)
  ·intro cnt i rows hd ns hc;simp only[M.aU,M.bU,M.bK,M.bM,hlt cnt hc,aI,aZ,agJ,aj,aX]
  ·intro cnt i rows hd ns hc hop;rw[<-Uz rfl] at hop;have his:=agG (l:=l) 3 p p1 a b p4 i ns aB aB;rw[hop] at his;have Sj:M.kS 3 p p1 a b p4 (au l) (i:Int) false (au ns)=some (false,au l,(i:Int),false,au ns):=his;simp only[M.aU,M.bU,M.bK,M.bM,hlt cnt hc,aI,aZ,Sj,aj,aX]
  ·intro cnt i rows hd ns hc hop agK hni;have hk0:=KW aB hop;rw[<-Uz rfl] at hop;have his:=agG (l:=l) 3 p p1 a b p4 i ns aB aB;rw[hop] at his;have Sj:M.kS 3 p p1 a b p4 (au l) (i:Int) false (au ns)=some (true,au l,(i:Int),false,au ns):=his;have w1:i64.wrap ((cnt:Int)+1)=((cnt+1:Nat):Int):=by rw[bC aB aB];omega
   obtain⟨SH,t1,hln⟩:=Jh hl (i+1) ns aB aB;refine⟨SH,t1, ?_⟩;simp only[M.aU,M.bU,M.bK,M.bM,hlt cnt hc,aI,aZ,Sj,aj,bne,show((3:Int)==8)=false from rfl,show((3:Int)==3)=true from rfl,show((3:Int)==4)=false from rfl,Bool.not_false,aX,fU,amn hl agK,hln,M.bP,M.fE,w1];rfl
theorem aD4(H:∀n',n'<=n->∀m',4 * n'+20<=m'->RX l n' m')(hm:4 * n+22<=m)(p:Int)(p1 a b p4:Bool)(i:Nat)(ns:List Tk)(hi:i<=l.length)(hn:ns.length<=i):AX l i (M.nZ (m+1) p p1 a b p4 4 3000 (au l) (i:Int) false (au ns)) (ex l (n+1) 4 a b i (txt ns)):=by
 have h:=H n (zaO _) m aB;have e1:M.tV 4=some 45:=rfl;have e2:M.qy 45=some (4,5):=rfl;have e3:i64.wrap ((4:Int)+1)=5:=rfl;have e4:decide ((3000:Int)>1)=true:=rfl;rw[M.zA];simp only[M.l9,M.oD,M.bP,M.fE,e1,e2,e3,e4,aj,aZ,aI,ex];have hlt:∀cnt:Nat,cnt<3000->decide ((cnt:Int)<3000)=true:=λcnt h=>by rw[zdt];omega
 refine AX.elim (Q:=AX l i) (h.a5 a b i ns hi hn) (λ_=>trivial) (λfl rows hd j ns R g1 g2 g3 g4 g5=> ?_) (λx fl rows j ns h1 he=> ?_)
 ·have hb:M.aU (M.bF m) 4 3000 5 p p1 a b p4 false (0,au l,(j:Int),true,ak rows,hd,au ns)=some (.inr (0,au l,(j:Int),true,ak rows,hd,au ns)):=by have e0:decide ((0:Int)<3000)=true:=rfl;simp only[M.aU,M.bU,M.bK,M.bM,e0,aI,aZ,agJ,aj,aX]
  rw[M.jA,aN hb];simp only[aj,aZ,aI];exact AX.eX g1 g2 g3 (fzN g4) g5
 ·have hs:=gU (Gy aB aB hi) he;simp only[zaP] at hs;simp only[h1];refine AZ.fin (aat hl (lv:=4) (a:=a) (b:=b) (f:=λc c1 c2 c3=>M.bF m 5 false a b false c c1 c2 c3) aB aB ?_ ?_ ?_ n (λn' hn' i ns hi hn=>(H n' hn' m aB).a5 a b i ns hi hn) i 0 x j ns aB aB aB aB aB)
  ·intro cnt i rows hd ns hc;simp only[M.aU,M.bU,M.bK,M.bM,hlt cnt hc,aI,aZ,agJ,aj,aX]
  ·intro cnt i rows hd ns hc hop;rw[<-Uz rfl] at hop;have his:=agG (l:=l) 4 p p1 a b p4 i ns aB aB;rw[hop] at his;have Sj:M.kS 4 p p1 a b p4 (au l) (i:Int) false (au ns)=some (false,au l,(i:Int),false,au ns):=his;simp only[M.aU,M.bU,M.bK,M.bM,hlt cnt hc,aI,aZ,Sj,aj,aX]
  ·intro cnt i rows hd ns hc hop agK hni;have hk0:=KW aB hop;rw[<-Uz rfl] at hop;have his:=agG (l:=l) 4 p p1 a b p4 i ns aB aB;rw[hop] at his;have Sj:M.kS 4 p p1 a b p4 (au l) (i:Int) false (au ns)=some (true,au l,(i:Int),false,au ns):=his;have w1:i64.wrap ((cnt:Int)+1)=((cnt+1:Nat):Int):=by rw[bC aB aB];omega
   obtain⟨SH,t1,hln⟩:=Jh hl (i+1) ns aB aB;refine⟨SH,t1, ?_⟩;simp only[M.aU,M.bU,M.bK,M.bM,hlt cnt hc,aI,aZ,Sj,aj,bne,show((4:Int)==8)=false from rfl,show((4:Int)==3)=false from rfl,show((4:Int)==4)=true from rfl,Bool.not_false,aX,fU,amn hl agK,hln,M.bP,M.fE,w1];rfl
theorem aD5(H:∀n',n'<=n->∀m',4 * n'+20<=m'->RX l n' m')(hm:4 * n+22<=m)(p:Int)(p1 a b p4:Bool)(i:Nat)(ns:List Tk)(hi:i<=l.length)(hn:ns.length<=i):AX l i (M.nZ (m+1) p p1 a b p4 8 3000 (au l) (i:Int) false (au ns)) (ex l (n+1) 8 a b i (txt ns)):=by
 have h:=H n (zaO _) m aB;have e1:M.tV 8=some 99:=rfl;have e2:M.qy 99=some (8,9):=rfl;have e3:i64.wrap ((8:Int)+1)=9:=rfl;have e4:decide ((3000:Int)>1)=true:=rfl;rw[M.zA];simp only[M.l9,M.oD,M.bP,M.fE,e1,e2,e3,e4,aj,aZ,aI,ex];have hlt:∀cnt:Nat,cnt<3000->decide ((cnt:Int)<3000)=true:=λcnt h=>by rw[zdt];omega
 refine AX.elim (Q:=AX l i) (h.a9 a b i ns hi hn) (λ_=>trivial) (λfl rows hd j ns R g1 g2 g3 g4 g5=> ?_) (λx fl rows j ns h1 he=> ?_)
 ·have hb:M.aU (M.bF m) 8 3000 9 p p1 a b p4 false (0,au l,(j:Int),true,ak rows,hd,au ns)=some (.inr (0,au l,(j:Int),true,ak rows,hd,au ns)):=by have e0:decide ((0:Int)<3000)=true:=rfl;simp only[M.aU,M.bU,M.bK,M.bM,e0,aI,aZ,agJ,aj,aX]
  rw[M.jA,aN hb];simp only[aj,aZ,aI];exact AX.eX g1 g2 g3 (fzN g4) g5
 ·have hs:=gU (Gy aB aB hi) he;simp only[zaP] at hs;simp only[h1];refine AZ.fin (aat hl (lv:=8) (a:=a) (b:=b) (f:=λc c1 c2 c3=>M.bF m 9 false a b false c c1 c2 c3) aB aB ?_ ?_ ?_ n (λn' hn' i ns hi hn=>(H n' hn' m aB).a9 a b i ns hi hn) i 0 x j ns aB aB aB aB aB)
  ·intro cnt i rows hd ns hc;simp only[M.aU,M.bU,M.bK,M.bM,hlt cnt hc,aI,aZ,agJ,aj,aX]
  ·intro cnt i rows hd ns hc hop;rw[<-Uz rfl] at hop;have his:=agG (l:=l) 8 p p1 a b p4 i ns aB aB;rw[hop] at his;have Sj:M.kS 8 p p1 a b p4 (au l) (i:Int) false (au ns)=some (false,au l,(i:Int),false,au ns):=his;simp only[M.aU,M.bU,M.bK,M.bM,hlt cnt hc,aI,aZ,Sj,aj,aX]
  ·intro cnt i rows hd ns hc hop agK hni;have hk0:=KW aB hop;rw[<-Uz rfl] at hop;have his:=agG (l:=l) 8 p p1 a b p4 i ns aB aB;rw[hop] at his;have Sj:M.kS 8 p p1 a b p4 (au l) (i:Int) false (au ns)=some (true,au l,(i:Int),false,au ns):=his;have w1:i64.wrap ((cnt:Int)+1)=((cnt+1:Nat):Int):=by rw[bC aB aB];omega
   refine⟨ns,rfl, ?_⟩;simp only[M.aU,M.bU,M.bK,M.bM,hlt cnt hc,aI,aZ,Sj,aj,bne,show((8:Int)==8)=true from rfl,show((8:Int)==3)=false from rfl,show((8:Int)==4)=false from rfl,zaN,aX,fU,M.bP,M.fE,w1];rfl
theorem aD6(H:∀n',n'<=n->∀m',4 * n'+20<=m'->RX l n' m')(hm:4 * n+22<=m)(p:Int)(p1 a b p4:Bool)(i:Nat)(ns:List Tk)(hi:i<=l.length)(hn:ns.length<=i):AX l i (M.nZ (m+1) p p1 a b p4 9 3000 (au l) (i:Int) false (au ns)) (ex l (n+1) 9 a b i (txt ns)):=by
 have h:=H n (zaO _) m aB;have e1:M.tV 9=some 55:=rfl;have e2:M.qy 55=some (9,10):=rfl;have e3:i64.wrap ((9:Int)+1)=10:=rfl;have e4:decide ((3000:Int)>1)=true:=rfl;rw[M.zA];simp only[M.l9,M.oD,M.bP,M.fE,e1,e2,e3,e4,aj,aZ,aI,ex];have hlt:∀cnt:Nat,cnt<3000->decide ((cnt:Int)<3000)=true:=λcnt h=>by rw[zdt];omega
 refine AX.elim (Q:=AX l i) (h.a10 a b i ns hi hn) (λ_=>trivial) (λfl rows hd j ns R g1 g2 g3 g4 g5=> ?_) (λx fl rows j ns h1 he=> ?_)
 ·have hb:M.aU (M.bF m) 9 3000 10 p p1 a b p4 false (0,au l,(j:Int),true,ak rows,hd,au ns)=some (.inr (0,au l,(j:Int),true,ak rows,hd,au ns)):=by have e0:decide ((0:Int)<3000)=true:=rfl;simp only[M.aU,M.bU,M.bK,M.bM,e0,aI,aZ,agJ,aj,aX]
  rw[M.jA,aN hb];simp only[aj,aZ,aI];exact AX.eX g1 g2 g3 (fzN g4) g5
 ·have hs:=gU (Gy aB aB hi) he;simp only[zaP] at hs;simp only[h1];refine AZ.fin (aat hl (lv:=9) (a:=a) (b:=b) (f:=λc c1 c2 c3=>M.bF m 10 false a b false c c1 c2 c3) aB aB ?_ ?_ ?_ n (λn' hn' i ns hi hn=>(H n' hn' m aB).a10 a b i ns hi hn) i 0 x j ns aB aB aB aB aB)
  ·intro cnt i rows hd ns hc;simp only[M.aU,M.bU,M.bK,M.bM,hlt cnt hc,aI,aZ,agJ,aj,aX]
  ·intro cnt i rows hd ns hc hop;rw[<-Uz rfl] at hop;have his:=agG (l:=l) 9 p p1 a b p4 i ns aB aB;rw[hop] at his;have Sj:M.kS 9 p p1 a b p4 (au l) (i:Int) false (au ns)=some (false,au l,(i:Int),false,au ns):=his;simp only[M.aU,M.bU,M.bK,M.bM,hlt cnt hc,aI,aZ,Sj,aj,aX]
  ·intro cnt i rows hd ns hc hop agK hni;have hk0:=KW aB hop;rw[<-Uz rfl] at hop;have his:=agG (l:=l) 9 p p1 a b p4 i ns aB aB;rw[hop] at his;have Sj:M.kS 9 p p1 a b p4 (au l) (i:Int) false (au ns)=some (true,au l,(i:Int),false,au ns):=his;have w1:i64.wrap ((cnt:Int)+1)=((cnt+1:Nat):Int):=by rw[bC aB aB];omega
   refine⟨ns,rfl, ?_⟩;simp only[M.aU,M.bU,M.bK,M.bM,hlt cnt hc,aI,aZ,Sj,aj,bne,show((9:Int)==8)=false from rfl,show((9:Int)==3)=false from rfl,show((9:Int)==4)=false from rfl,Bool.not_false,aX,fU,amn hl agK,M.bP,M.fE,w1];rfl
theorem aAT(H:∀n',n'<=n->∀m',4 * n'+20<=m'->RX l n' m')(hm:4 * n+22<=m)(p:Int)(p1 a b p4:Bool)(i:Nat)(ns:List Tk)(hi:i<=l.length)(hn:ns.length<=i):AX l i (M.nZ (m+1) p p1 a b p4 10 3000 (au l) (i:Int) false (au ns)) (ex l (n+1) 10 a b i (txt ns)):=by
 have h:=H n (zaO _) m aB;have e1:M.tV 10=some 57:=rfl;have e2:M.qy 57=some (10,11):=rfl;have e3:i64.wrap ((10:Int)+1)=11:=rfl;have e4:decide ((3000:Int)>1)=true:=rfl;rw[M.zA];simp only[M.l9,M.oD,M.bP,M.fE,e1,e2,e3,e4,aj,aZ,aI,ex];have hlt:∀cnt:Nat,cnt<3000->decide ((cnt:Int)<3000)=true:=λcnt h=>by rw[zdt];omega
 refine AX.elim (Q:=AX l i) (h.a11 a b i ns hi hn) (λ_=>trivial) (λfl rows hd j ns R g1 g2 g3 g4 g5=> ?_) (λx fl rows j ns h1 he=> ?_)
 ·have hb:M.aU (M.bF m) 10 3000 11 p p1 a b p4 false (0,au l,(j:Int),true,ak rows,hd,au ns)=some (.inr (0,au l,(j:Int),true,ak rows,hd,au ns)):=by have e0:decide ((0:Int)<3000)=true:=rfl;simp only[M.aU,M.bU,M.bK,M.bM,e0,aI,aZ,agJ,aj,aX]
  rw[M.jA,aN hb];simp only[aj,aZ,aI];exact AX.eX g1 g2 g3 (fzN g4) g5
 ·have hs:=gU (Gy aB aB hi) he;simp only[zaP] at hs;simp only[h1];refine AZ.fin (aat hl (lv:=10) (a:=a) (b:=b) (f:=λc c1 c2 c3=>M.bF m 11 false a b false c c1 c2 c3) aB aB ?_ ?_ ?_ n (λn' hn' i ns hi hn=>(H n' hn' m aB).a11 a b i ns hi hn) i 0 x j ns aB aB aB aB aB)
  ·intro cnt i rows hd ns hc;simp only[M.aU,M.bU,M.bK,M.bM,hlt cnt hc,aI,aZ,agJ,aj,aX]
  ·intro cnt i rows hd ns hc hop;rw[<-Uz rfl] at hop;have his:=agG (l:=l) 10 p p1 a b p4 i ns aB aB;rw[hop] at his;have Sj:M.kS 10 p p1 a b p4 (au l) (i:Int) false (au ns)=some (false,au l,(i:Int),false,au ns):=his;simp only[M.aU,M.bU,M.bK,M.bM,hlt cnt hc,aI,aZ,Sj,aj,aX]
  ·intro cnt i rows hd ns hc hop agK hni;have hk0:=KW aB hop;rw[<-Uz rfl] at hop;have his:=agG (l:=l) 10 p p1 a b p4 i ns aB aB;rw[hop] at his;have Sj:M.kS 10 p p1 a b p4 (au l) (i:Int) false (au ns)=some (true,au l,(i:Int),false,au ns):=his;have w1:i64.wrap ((cnt:Int)+1)=((cnt+1:Nat):Int):=by rw[bC aB aB];omega
   refine⟨ns,rfl, ?_⟩;simp only[M.aU,M.bU,M.bK,M.bM,hlt cnt hc,aI,aZ,Sj,aj,bne,show((10:Int)==8)=false from rfl,show((10:Int)==3)=false from rfl,show((10:Int)==4)=false from rfl,Bool.not_false,aX,fU,amn hl agK,M.bP,M.fE,w1];rfl
theorem aD7(h:RX l n m)(p:Int)(p1 a b p4:Bool)(i:Nat)(ns:List Tk)(hi:i<=l.length)(hn:ns.length<=i):AX l i (M.nZ (m+1) p p1 a b p4 6 1 (au l) (i:Int) false (au ns)) (ex l (n+1) 6 a b i (txt ns)):=by
 have e1:M.tV 6=some 67:=rfl;have e2:M.qy 67=some (7,7):=rfl;have e4:decide ((1:Int)>1)=false:=rfl;have e0:decide ((0:Int)<1)=true:=rfl;have e5:decide ((1:Int)<1)=false:=rfl;have e6:i64.wrap ((0:Int)+1)=1:=rfl;rw[M.zA];simp only[M.l9,M.oD,M.bP,M.fE,e1,e2,e4,aj,aZ,aI,aX,ex];refine AX.elim (Q:=AX l i) (h.a7 a b i ns hi hn) (λ_=>trivial) (λfl rows hd j ns R g1 g2 g3 g4 g5=> ?_) (λx fl rows j ns h1 he=> ?_)
 ·have hb:M.aU (M.bF m) 6 1 7 p p1 a b p4 false (0,au l,(j:Int),true,ak rows,hd,au ns)=some (.inr (0,au l,(j:Int),true,ak rows,hd,au ns)):=by simp only[M.aU,M.bU,M.bK,M.bM,e0,aI,aZ,agJ,aj,aX]
  rw[M.jA,aN hb];simp only[aj,aZ,aI];exact AX.eX g1 g2 g3 (fzN g4) g5
 ·have hs:=gU (Gy aB aB hi) he;simp only[zaP] at hs;simp only[h1];have his:=agG (l:=l) 6 p p1 a b p4 j ns aB aB;have Sj:M.kS 6 p p1 a b p4 (au l) (j:Int) false (au ns)=some (Df 6 b (bD l j),au l,(j:Int),false,au ns):=his;have hpl:(bD l j==67||bD l j==46)=Df 6 b (bD l j):=by rw[Uz rfl,show(b && Nat.beq 6 7)=false from Bool.and_false b,aes rfl];exact lv6 _
  rw[hpl];cases hop:Df 6 b (bD l j) with
  |false=>
   have hb:M.aU (M.bF m) 6 1 7 p p1 a b p4 false (0,au l,(j:Int),false,aW false (x.1.flat 0),x.2,au ns)=some (.inr (0,au l,(j:Int),false,aW false (x.1.flat 0),x.2,au ns)):=by simp only[M.aU,M.bU,M.bK,M.bM,e0,aI,aZ,Sj,hop,aj,aX]
   rw[M.jA,aN hb];simp only[aj,aZ,aI,aX];exact AX.mk (aT _ _) rfl
  |true=>
   have agK:=dV (KW (lv:=6) aB hop);have hb:M.aU (M.bF m) 6 1 7 p p1 a b p4 false (0,au l,(j:Int),false,aW false (x.1.flat 0),x.2,au ns)=(M.bF m 7 false a b false (au l) ((j+1:Nat):Int) false (au ns)).bind λr=>(M.dJ 12 (bD l j) [] [] [] (ak [[D.sl false 5 (aW false (x.1.flat 0))],[D.sl false 5 (ak r.2.1)]])).bind λr'=>some (.inl (1,r.2.2.2.1,r.2.2.2.2.1,r.2.2.2.2.2.1,ak r'.2.1,r'.2.2,r.2.2.2.2.2.2)):=by simp only[M.aU,M.bU,M.bK,M.bM,e0,aI,aZ,Sj,hop,aj,bne,show((6:Int)==8)=false from rfl,show((6:Int)==3)=false from rfl,show((6:Int)==4)=false from rfl,Bool.not_false,aX,fU,amn hl agK,M.bP,M.fE,e6]
   have hr:=h.a7 a b (j+1) ns aB aB;have zW:=Gy (l:=l) (n:=n) (lv:=7) (a:=a) (b:=b) (i:=j+1) (ns:=ns) aB aB aB;simp only[aI];rw[M.jA];generalize ex l n 7 a b (j+1) (txt ns)=q at hr zW|-;cases q with
   |out=>trivial
   |bad j2=>
    obtain⟨fl',rows',hd',ns',R,g1,g2,g3,g4,g5,h2⟩:=hr;obtain⟨R',e7,e8⟩:=afj 12 (bD l j) [] [] [] (P:=[x.1.flat 0,R]) (b:=x.1.size+3 * (j2 - (j+1))) (by simp only[lens,Tn.flat_length];have:=g5.1;omega) aB (by simp) (KB.tree aB (KB.cons g5.2 KB.nil));simp only[h2,aj,g4,aqV,e7,aT] at hb;have hb2:M.aU (M.bF m) 6 1 7 p p1 a b p4 false (1,au l,(j2:Int),true,aW false R',false,au ns')=some (.inr (1,au l,(j2:Int),true,aW false R',false,au ns')):=by simp only[M.aU,M.bU,M.bK,M.bM,e5,aX]
    rw[aY hb,aN hb2];simp only[aj,aZ,aI];exact AX.eX aB g2 g3 (aT _ _) (e8.mono aB)
   |ok y j2 m2=>
    obtain⟨fl',rows',ns',h3,rfl,h2⟩:=hr;have hs2:FE l (j+1) ns.length y.1.size j2 (txt ns').length:=zW;have ho:=afh 12 (bD l j) [] [] [] [x.1,y.1] (by simp only[sizes];omega);have ho':M.dJ 12 (bD l j) [] [] [] (qW [x.1.flat 0,y.1.flat 0])=some (false,aW false ((Tn.mk 12 (bD l j) [] [] [x.1,y.1]).flat 0),false):=ho;simp only[h2,aj,h3,aqV,ho',aT] at hb;have hb2:M.aU (M.bF m) 6 1 7 p p1 a b p4 false (1,au l,(j2:Int),false,aW false ((Tn.mk 12 (bD l j) [] [] [x.1,y.1]).flat 0),false,au ns')=some (.inr (1,au l,(j2:Int),false,aW false ((Tn.mk 12 (bD l j) [] [] [x.1,y.1]).flat 0),false,au ns')):=by simp only[M.aU,M.bU,M.bK,M.bM,e5,aX]
    rw[aY hb,aN hb2];simp only[aj,aZ,aI];exact AX.mk (aT _ _) rfl
theorem aD8(h:RX l n m)(p:Int)(p1 a b p4:Bool)(i:Nat)(ns:List Tk)(hi:i<=l.length)(hn:ns.length<=i):AX l i (M.nZ (m+1) p p1 a b p4 7 1 (au l) (i:Int) false (au ns)) (ex l (n+1) 7 a b i (txt ns)):=by
 have e1:M.tV 7=some 63:=rfl;have e2:M.qy 63=some (8,8):=rfl;have e4:decide ((1:Int)>1)=false:=rfl;have e0:decide ((0:Int)<1)=true:=rfl;have e5:decide ((1:Int)<1)=false:=rfl;have e6:i64.wrap ((0:Int)+1)=1:=rfl;rw[M.zA];simp only[M.l9,M.oD,M.bP,M.fE,e1,e2,e4,aj,aZ,aI,aX,ex];refine AX.elim (Q:=AX l i) (h.a8 a b i ns hi hn) (λ_=>trivial) (λfl rows hd j ns R g1 g2 g3 g4 g5=> ?_) (λx fl rows j ns h1 he=> ?_)
 ·have hb:M.aU (M.bF m) 7 1 8 p p1 a b p4 false (0,au l,(j:Int),true,ak rows,hd,au ns)=some (.inr (0,au l,(j:Int),true,ak rows,hd,au ns)):=by simp only[M.aU,M.bU,M.bK,M.bM,e0,aI,aZ,agJ,aj,aX]
  rw[M.jA,aN hb];simp only[aj,aZ,aI];exact AX.eX g1 g2 g3 (fzN g4) g5
 ·have hs:=gU (Gy aB aB hi) he;simp only[zaP] at hs;simp only[h1];have his:=agG (l:=l) 7 p p1 a b p4 j ns aB aB;have Sj:M.kS 7 p p1 a b p4 (au l) (j:Int) false (au ns)=some (Df 7 b (bD l j),au l,(j:Int),false,au ns):=his;cases hop:Df 7 b (bD l j) with
  |false=>
   have hb:M.aU (M.bF m) 7 1 8 p p1 a b p4 false (0,au l,(j:Int),false,aW false (x.1.flat 0),x.2,au ns)=some (.inr (0,au l,(j:Int),false,aW false (x.1.flat 0),x.2,au ns)):=by simp only[M.aU,M.bU,M.bK,M.bM,e0,aI,aZ,Sj,hop,aj,aX]
   rw[M.jA,aN hb];simp only[aj,aZ,aI,aX];exact AX.mk (aT _ _) rfl
  |true=>
   have agK:=dV (KW (lv:=7) aB hop);have hb:M.aU (M.bF m) 7 1 8 p p1 a b p4 false (0,au l,(j:Int),false,aW false (x.1.flat 0),x.2,au ns)=(M.bF m 8 false a b false (au l) ((j+1:Nat):Int) false (au ns)).bind λr=>(M.dJ 12 (bD l j) [] [] [] (ak [[D.sl false 5 (aW false (x.1.flat 0))],[D.sl false 5 (ak r.2.1)]])).bind λr'=>some (.inl (1,r.2.2.2.1,r.2.2.2.2.1,r.2.2.2.2.2.1,ak r'.2.1,r'.2.2,r.2.2.2.2.2.2)):=by simp only[M.aU,M.bU,M.bK,M.bM,e0,aI,aZ,Sj,hop,aj,bne,show((7:Int)==8)=false from rfl,show((7:Int)==3)=false from rfl,show((7:Int)==4)=false from rfl,Bool.not_false,aX,fU,amn hl agK,M.bP,M.fE,e6]
   have hr:=h.a8 a b (j+1) ns aB aB;have zW:=Gy (l:=l) (n:=n) (lv:=8) (a:=a) (b:=b) (i:=j+1) (ns:=ns) aB aB aB;simp only[aI];rw[M.jA];generalize ex l n 8 a b (j+1) (txt ns)=q at hr zW|-;cases q with
   |out=>trivial
   |bad j2=>
    obtain⟨fl',rows',hd',ns',R,g1,g2,g3,g4,g5,h2⟩:=hr;obtain⟨R',e7,e8⟩:=afj 12 (bD l j) [] [] [] (P:=[x.1.flat 0,R]) (b:=x.1.size+3 * (j2 - (j+1))) (by simp only[lens,Tn.flat_length];have:=g5.1;omega) aB (by simp) (KB.tree aB (KB.cons g5.2 KB.nil));simp only[h2,aj,g4,aqV,e7,aT] at hb;have hb2:M.aU (M.bF m) 7 1 8 p p1 a b p4 false (1,au l,(j2:Int),true,aW false R',false,au ns')=some (.inr (1,au l,(j2:Int),true,aW false R',false,au ns')):=by simp only[M.aU,M.bU,M.bK,M.bM,e5,aX]
    rw[aY hb,aN hb2];simp only[aj,aZ,aI];exact AX.eX aB g2 g3 (aT _ _) (e8.mono aB)
   |ok y j2 m2=>
    obtain⟨fl',rows',ns',h3,rfl,h2⟩:=hr;have hs2:FE l (j+1) ns.length y.1.size j2 (txt ns').length:=zW;have ho:=afh 12 (bD l j) [] [] [] [x.1,y.1] (by simp only[sizes];omega);have ho':M.dJ 12 (bD l j) [] [] [] (qW [x.1.flat 0,y.1.flat 0])=some (false,aW false ((Tn.mk 12 (bD l j) [] [] [x.1,y.1]).flat 0),false):=ho;simp only[h2,aj,h3,aqV,ho',aT] at hb;have hb2:M.aU (M.bF m) 7 1 8 p p1 a b p4 false (1,au l,(j2:Int),false,aW false ((Tn.mk 12 (bD l j) [] [] [x.1,y.1]).flat 0),false,au ns')=some (.inr (1,au l,(j2:Int),false,aW false ((Tn.mk 12 (bD l j) [] [] [x.1,y.1]).flat 0),false,au ns')):=by simp only[M.aU,M.bU,M.bK,M.bM,e5,aX]
    rw[aY hb,aN hb2];simp only[aj,aZ,aI];exact AX.mk (aT _ _) rfl
end
def rx(hl:l.length<=3000):∀N n,n<=N->∀m,4 * n+20<=m->RX l n m:=by
 intro N;induction N with
 |zero=>intro n hn m hm;obtain rfl:n=0:=aB;exact⟨λ_ _ _ _ _ _=>by rw[ex];trivial,λ_ _ _ _ _ _=>by rw[ex];trivial,λ_ _ _ _ _ _=>by rw[ex];trivial,λ_ _ _ _ _ _=>by rw[ex];trivial,λ_ _ _ _ _ _=>by rw[ex];trivial,λ_ _ _ _ _ _=>by rw[ex];trivial,λ_ _ _ _ _ _=>by rw[ex];trivial,λ_ _ _ _ _ _=>by rw[ex];trivial,λ_ _ _ _ _ _=>by rw[ex];trivial,λ_ _ _ _ _ _=>by rw[ex];trivial,λ_ _ _ _ _ _=>by rw[ex];trivial,λ_ _ _ _ _ _=>by rw[ex];trivial,λ_ _ _ _ _ _=>by rw[ex];trivial,λ_ _ _ _ _ _=>by rw[ex];trivial,λ_ _ _ _ _ _=>by rw[ex];trivial,λ_ _ _ _ _ _ _ _ _=>by rw[ex];trivial,λ_ _ _ _ _ _=>by rw[ex];trivial,λ_ _ _ _ _ _ _ _ _ _=>by rw[ZX];trivial⟩
 |succ N ih=>
  intro n hn m hm;cases n with
  |zero=>exact ih 0 aB m hm
  |succ n=>
   obtain⟨m,rfl⟩:∃m',m=m'+2:=⟨m - 2,aB⟩
   have H:∀n',n'<=n->∀m',4 * n'+20<=m'->RX l n' m':=λn' h=>ih n' aB
   have h:=H n (zaO _) m aB;have h1:=H n (zaO _) (m+1) aB;have hm1:1<=m:=aB;have hm2:4 * n+22<=m:=aB;refine⟨?_, ?_, ?_, ?_, ?_, ?_, ?_, ?_, ?_, ?_, ?_, ?_, ?_, ?_, ?_,λp p1 a b p4 i ns hi hn=>aym hl h1 p p1 a b p4 i ns hi hn,λa b i ns hi hn=>ayq hl H aB a b i ns hi hn,λp p1 a b p4 i ns hi hn hst=>aDZ hl h1 aB p p1 a b p4 i ns hi hn hst⟩
   ·intro a b i ns hi hn;rw[M.lU];simp only[M.jm,M.iC,aX,aZ,aI,show((1:Int)==1)=true from rfl];exact AX.pass (auD hl h 1 false a b false i ns hi hn) (zaO i) (by intros;simp only[aZ,aI])
   ·intro a b i ns hi hn;rw[M.lU];simp only[M.jm,M.iC,aX,aZ,aI,show((2:Int)==1)=false from rfl,show((2:Int)==2)=true from rfl];exact AX.pass (aAP hl h hm1 2 false a b false i ns hi hn) (zaO i) (by intros;simp only[aZ,aI])
   ·intro a b i ns hi hn;rw[M.lU];simp only[M.jm,M.iC,aX,aZ,aI,show((3:Int)==1)=false from rfl,show((3:Int)==2)=false from rfl,show((3:Int)==5)=false from rfl,show((3:Int)==6)=false from rfl,show((3:Int)==7)=false from rfl,show((3:Int)==3)=true from rfl];exact AX.pass (aD3 hl H hm2 3 false a b false i ns hi hn) (zaO i) (by intros;simp only[aZ,aI])
   ·intro a b i ns hi hn;rw[M.lU];simp only[M.jm,M.iC,aX,aZ,aI,show((4:Int)==1)=false from rfl,show((4:Int)==2)=false from rfl,show((4:Int)==5)=false from rfl,show((4:Int)==6)=false from rfl,show((4:Int)==7)=false from rfl,show((4:Int)==3)=false from rfl,show((4:Int)==4)=true from rfl];exact AX.pass (aD4 hl H hm2 4 false a b false i ns hi hn) (zaO i) (by intros;simp only[aZ,aI])
   ·intro a b i ns hi hn;rw[M.lU];simp only[M.jm,M.iC,aX,aZ,aI,show((5:Int)==1)=false from rfl,show((5:Int)==2)=false from rfl,show((5:Int)==5)=true from rfl];exact AX.pass (aL6 hl H hm2 5 false a b false i ns hi hn) (zaO i) (by intros;simp only[aZ,aI])
   ·intro a b i ns hi hn;rw[M.lU];simp only[M.jm,M.iC,aX,aZ,aI,show((6:Int)==1)=false from rfl,show((6:Int)==2)=false from rfl,show((6:Int)==5)=false from rfl,show((6:Int)==6)=true from rfl];exact AX.pass (aD7 hl h 6 false a b false i ns hi hn) (zaO i) (by intros;simp only[aZ,aI])
   ·intro a b i ns hi hn;rw[M.lU];simp only[M.jm,M.iC,aX,aZ,aI,show((7:Int)==1)=false from rfl,show((7:Int)==2)=false from rfl,show((7:Int)==5)=false from rfl,show((7:Int)==6)=false from rfl,show((7:Int)==7)=true from rfl];exact AX.pass (aD8 hl h 7 false a b false i ns hi hn) (zaO i) (by intros;simp only[aZ,aI])
   ·intro a b i ns hi hn;rw[M.lU];simp only[M.jm,M.iC,aX,aZ,aI,show((8:Int)==1)=false from rfl,show((8:Int)==2)=false from rfl,show((8:Int)==5)=false from rfl,show((8:Int)==6)=false from rfl,show((8:Int)==7)=false from rfl,show((8:Int)==3)=false from rfl,show((8:Int)==4)=false from rfl,show((8:Int)==8)=true from rfl];exact AX.pass (aD5 hl H hm2 8 false a b false i ns hi hn) (zaO i) (by intros;simp only[aZ,aI])
   ·intro a b i ns hi hn;rw[M.lU];simp only[M.jm,M.iC,aX,aZ,aI,show((9:Int)==1)=false from rfl,show((9:Int)==2)=false from rfl,show((9:Int)==5)=false from rfl,show((9:Int)==6)=false from rfl,show((9:Int)==7)=false from rfl,show((9:Int)==3)=false from rfl,show((9:Int)==4)=false from rfl,show((9:Int)==8)=false from rfl,show((9:Int)==9)=true from rfl];exact AX.pass (aD6 hl H hm2 9 false a b false i ns hi hn) (zaO i) (by intros;simp only[aZ,aI])
   ·intro a b i ns hi hn;rw[M.lU];simp only[M.jm,M.iC,aX,aZ,aI,show((10:Int)==1)=false from rfl,show((10:Int)==2)=false from rfl,show((10:Int)==5)=false from rfl,show((10:Int)==6)=false from rfl,show((10:Int)==7)=false from rfl,show((10:Int)==3)=false from rfl,show((10:Int)==4)=false from rfl,show((10:Int)==8)=false from rfl,show((10:Int)==9)=false from rfl,show((10:Int)==10)=true from rfl];exact AX.pass (aAT hl H hm2 10 false a b false i ns hi hn) (zaO i) (by intros;simp only[aZ,aI])
   ·intro a b i ns hi hn;rw[M.lU];simp only[M.jm,M.iC,aX,aZ,aI,show((11:Int)==1)=false from rfl,show((11:Int)==2)=false from rfl,show((11:Int)==5)=false from rfl,show((11:Int)==6)=false from rfl,show((11:Int)==7)=false from rfl,show((11:Int)==3)=false from rfl,show((11:Int)==4)=false from rfl,show((11:Int)==8)=false from rfl,show((11:Int)==9)=false from rfl,show((11:Int)==10)=false from rfl,show((11:Int)==11)=true from rfl];exact AX.pass (ayn hl h 11 false a b false i ns hi hn) (zaO i) (by intros;simp only[aZ,aI])
   ·intro a b i ns hi hn;rw[M.lU];simp only[M.jm,M.iC,aX,aZ,aI,show((12:Int)==1)=false from rfl,show((12:Int)==2)=false from rfl,show((12:Int)==5)=false from rfl,show((12:Int)==6)=false from rfl,show((12:Int)==7)=false from rfl,show((12:Int)==3)=false from rfl,show((12:Int)==4)=false from rfl,show((12:Int)==8)=false from rfl,show((12:Int)==9)=false from rfl,show((12:Int)==10)=false from rfl,show((12:Int)==11)=false from rfl,show((12:Int)==12)=true from rfl];exact AX.pass (aym hl h 12 false a b false i ns hi hn) (zaO i) (by intros;simp only[aZ,aI])
   ·intro a b i ns hi hn;rw[M.lU];simp only[M.jm,M.iC,aX,aZ,aI,show((13:Int)==1)=false from rfl,show((13:Int)==2)=false from rfl,show((13:Int)==5)=false from rfl,show((13:Int)==6)=false from rfl,show((13:Int)==7)=false from rfl,show((13:Int)==3)=false from rfl,show((13:Int)==4)=false from rfl,show((13:Int)==8)=false from rfl,show((13:Int)==9)=false from rfl,show((13:Int)==10)=false from rfl,show((13:Int)==11)=false from rfl,show((13:Int)==12)=false from rfl,show((13:Int)==13)=true from rfl];exact AX.pass (aAQ hl h 13 false a b false i ns hi hn) (zaO i) (by intros;simp only[aZ,aI])
   ·intro a b i ns hi hn;rw[M.lU];simp only[M.jm,M.iC,aX,aZ,aI,show((14:Int)==1)=false from rfl,show((14:Int)==2)=false from rfl,show((14:Int)==5)=false from rfl,show((14:Int)==6)=false from rfl,show((14:Int)==7)=false from rfl,show((14:Int)==3)=false from rfl,show((14:Int)==4)=false from rfl,show((14:Int)==8)=false from rfl,show((14:Int)==9)=false from rfl,show((14:Int)==10)=false from rfl,show((14:Int)==11)=false from rfl,show((14:Int)==12)=false from rfl,show((14:Int)==13)=false from rfl,show((14:Int)==14)=true from rfl];exact AX.pass (ayo hl h 14 false a b false i ns hi hn) (zaO i) (by intros;simp only[aZ,aI])
   ·intro a b i ns hi hn;rw[M.lU];simp only[M.jm,M.iC,aX,aZ,aI,show((15:Int)==1)=false from rfl,show((15:Int)==2)=false from rfl,show((15:Int)==5)=false from rfl,show((15:Int)==6)=false from rfl,show((15:Int)==7)=false from rfl,show((15:Int)==3)=false from rfl,show((15:Int)==4)=false from rfl,show((15:Int)==8)=false from rfl,show((15:Int)==9)=false from rfl,show((15:Int)==10)=false from rfl,show((15:Int)==11)=false from rfl,show((15:Int)==12)=false from rfl,show((15:Int)==13)=false from rfl,show((15:Int)==14)=false from rfl];exact AX.pass (ayq hl H hm2 a b i ns hi hn) (zaO i) (by intros;simp only[aZ,aI])
def RX.of(hl:l.length<=3000)(n:Nat){m:Nat}(hm:4 * n+20<=m):RX l n m:=rx hl n n (zaO _) m hm
variable {l:List Tk}
structure RS(l:List Tk)(n m:Nat):Prop where
 st:∀i nt,i<=l.length->nt.length<=i->AT l (M.jE m (au l) (i:Int) false (encS nt)) (stP l n i nt)
 blk:∀i nt,i<=l.length->nt.length<=i->AT l (M.lY m (au l) (i:Int) false (encS nt)) (Lu l n i nt)
 body:∀i nt,i<=l.length->nt.length<=i->AT l (M.jZ m (au l) (i:Int) false (encS nt)) (Dh l n i nt)
def Qx:∀a b:ay,ak (a++b)=ak a++ak b
 |[],b=>rfl
 |r::a,b=>by rw[zca,ak,ak,Qx a b];rfl
def aev:∀(r:List Tk) (i:Nat) (nt:gY),∃u,(aaN r i nt).2=nt++u
 |[],i,nt=>⟨[],by rw[aaN,List.append_nil]⟩
 |t::r,i,nt=>by
  rw[aaN];cases(t.kind==1||t.kind==37)<;>cases t.kind==2<;>simp only[aI,aX]
  ·exact⟨[],(List.append_nil _).symm⟩
  ·obtain⟨u,h⟩:=aev r (i+1) (nt++[t.text]);exact⟨[t.text]++u,by rw[h,Nu]⟩
  ·exact aev r (i+1) nt
  ·exact aev r (i+1) nt
def UA(m:Nat){i:Nat}{nt:gY}(hn:nt.length<=l.length):AT l (M.jZ (m+1) (au l) (i:Int) true (encS nt)) (.bad i):=by rw[M.Ut];simp only[LJ,M.tH,dP,aI,H6,aj];exact AT.eX hn
def aAU(hl:l.length<=1048576)(m:Nat){i:Nat}{nt:gY}(hn:nt.length<=l.length):AT l (M.lY (m+1) (au l) (i:Int) true (encS nt)) (.bad i):=by rw[M.SE];simp only[M.qP,dP,aI,uw,aj,aiZ];rw[show M.pW _ _=_ from aN rfl];simp only[aj,iO,dP,aI,uw,Dk (l:=l) _ _ nt aB,iW,dM,Dj];rw[bG aB,aI,bG aB,aI];exact AT.eX (Nat.zero_le _)
section
variable {n m:Nat} (hl:l.length<=1048576) (H:∀n',n'<=n->∀m',3 * n'+10<=m'->RS l n' m') (hm:3 * (n+1)+10<=m+1)
include hl H hm
theorem aAV(i:Nat)(nt:gY)(hi:i<=l.length)(hn:nt.length<=i):AT l (M.jZ (m+1) (au l) (i:Int) false (encS nt)) (Dh l (n+1) i nt):=by
 have h:=H n (zaO _) m aB;have hf:=Di (l:=l) (nt:=nt) hi;rw[M.Ut];simp only[LJ,M.tH,dP,aI,Qv hl i nt hi hn,aj,aX,eH,Dh];generalize nl l i nt=q at hf|-;cases h30:bD l q.1==30 with
 |true=>simp only[aI];exact AT.pass (h.blk q.1 q.2 aB aB) (by intros;simp only[dP,aI])
 |false=>
  simp only[aX,Dk (l:=l) _ _ q.2 aB,aj,cOw,dP,aI,eH];cases h37:bD l q.1==37 with
  |true=>have hlt:=cZ h37 (by decide);simp only[aI,nD hl hlt];exact AT.mk rfl rfl rfl rfl (iW _ _)
  |false=>
   simp only[aX];refine AT.elim (R:=AT l) (h.st q.1 [] aB (Nat.zero_le _)) (λ_=>trivial) (λk op x y fl ks j nt hn=> ?_) (λx fl ks j nt hk he=> ?_)
   ·simp only[dM,Dj,zf,dP,aI];rw[bG aB,aI,bG aB,aI];exact AT.eX hn
   ·simp only[dM,Dj,zf,dP,aI];rw[bG aB,aI,bG aB,aI];exact AT.mk rfl rfl rfl rfl (by rw[Qx,iW,fz1 (L6 hk)];exact(Aq _ _ _).symm)
def ifP(l:List Tk)(n i:Nat)(nt:gY):PR Tn:=(Ve l n i nt).bind λx i nt=>(Dh l n i nt).bind λy i nt=>bif bD l (sep l i nt).1==14 then(Dh l n ((sep l i nt).1+1) (sep l i nt).2).bind λz i nt=> .ok (.mk 28 0 [] [] [x,y,z]) i nt else .ok (.mk 28 0 [] [] [x,y]) i nt
theorem auF(i:Nat)(nt:gY)(hi:i<=l.length)(hn:nt.length<=i):AT l (M.yS m (au l) (i:Int) false (encS nt)) (ifP l n i nt):=by
 obtain⟨m2,rfl⟩:∃m2,m=m2+1+1:=⟨m - 2,aB⟩
 have h:=H n (zaO _) (m2+1) aB;rw[M.ZL,ifP];simp only[M.um,dP,aI];have hbad:∀{k op:Int} {x y:aJ} {fl:Bool} {ks:ay} {k' op':Int} {x' y':aJ} {ks':ay} {j:Nat} {nt:gY},nt.length<=l.length->
   AT l (some (28,0,[],[],true,[[D.int .i64 k,D.int .i64 op,D.str x,D.str y,D.sl false 5 ks],[D.int .i64 k',D.int .i64 op',D.str x',D.str y',D.sl false 5 ks']],au l,(j:Int),true,encS nt)) (.bad j):=λhn=>AT.eX hn
 refine AT.elim (R:=AT l) (aqT hl n hi hn) (λ_=>trivial) (λk op x y fl ks j nt hn=> ?_) (λx fl ks j nt hk he=> ?_)
 ·simp only[dP,aI];refine AT.Dp (R:=λo=>AT l o (.bad j)) (UA m2 hn) λk op x y fl ks nt hn=> ?_
  simp only[dP,aI,aiZ,aj,zaN,aX];exact AT.eX hn
 ·have hs:=gU (QZ hi) he;simp only[dP,aI];refine AT.elim (R:=AT l) (h.body j nt aB aB) (λ_=>trivial) (λk op x y fl ks j nt hn=> ?_) (λy fl' kt j2 nt2 hk' he'=> ?_)
  ·simp only[dP,aI,aiZ,aj,zaN,aX];exact AT.eX hn
  ·have hs':=gU ((P9 l n).body j nt aB) he';have hf:=Qs (l:=l) (i:=j2) (nt:=nt2) aB;obtain⟨u,hu⟩:=aev (l.drop j2) j2 nt2;have hu':(sep l j2 nt2).2=nt2++u:=hu;simp only[dP,aI,ale hl j2 nt2 aB aB,aj,aX,eH,bne];cases h14:bD l (sep l j2 nt2).1==14 with
   |false=>
    simp only[Bool.not_false,aI,aX,lnS];have e1:(decide (0<=(nt2.length:Int)) && decide ((nt2.length:Int)<=((sep l j2 nt2).2.length:Int)))=true:=by rw[hu',Au,zdt aB,zdt aB];rfl
    have e2:List.take (nt2.length:Int).toNat (encS (sep l j2 nt2).2)=encS nt2:=by rw[hu',ztn,encS,encS,<-List.map_take];congr 1;simp
    rw[e1,aI,e2,dP,aI];exact AT.mk rfl rfl rfl rfl (fz2 (L6 hk) (L6 hk'))
   |true=>
    have hlt:=cZ h14 (by decide);simp only[zaN,aX,aI,nD hl hlt];refine AT.elim (R:=AT l) (h.body _ _ aB aB) (λ_=>trivial) (λk op x y fl ks j nt hn=> ?_) (λz aRJ ku j3 nt3 hk'' aRK=> ?_)
    ·simp only[dP,aI];exact AT.eX hn
    ·simp only[dP,aI];exact AT.mk rfl rfl rfl rfl (fz3 (L6 hk) (L6 hk') (L6 hk''))
def ays(l:List Tk)(n i:Nat)(nt:gY):PR Tn:=(JV l n 37 true i nt).bind λx i nt=>(iZ l 37 i nt).bind λ_ i nt=>(JV l n 37 false (nl l i nt).1 (nl l i nt).2).bind λy i nt=>(iZ l 37 i nt).bind λ_ i nt=>(JV l n 33 false (nl l i nt).1 (nl l i nt).2).bind λz i nt=>(iZ l 33 i nt).bind λ_ i nt=>(Dh l n i nt).bind λw i nt=> .ok (.mk 31 0 [] [] [x,y,z,w]) i nt
omit hl H hm in
theorem fz4{x y z u:Tn}{kx ky kz ku:ay}(h:ak kx=dN false x.kids)(h':ak ky=dN false y.kids)(h'':ak kz=dN false z.kids)(h3:ak ku=dN false u.kids):
  ak [[.int .i64 x.kind,.int .i64 x.op,.str x.text,.str x.other,.sl false 5 kx],[.int .i64 y.kind,.int .i64 y.op,.str y.text,.str y.other,.sl false 5 ky],[.int .i64 z.kind,.int .i64 z.op,.str z.text,.str z.other,.sl false 5 kz],[.int .i64 u.kind,.int .i64 u.op,.str u.text,.str u.other,.sl false 5 ku]]=dN false [x,y,z,u]:=by
 rw[ak,fzT x _ kx h,ak,fzT y _ ky h',ak,fzT z _ kz h'',ak,fzT u _ ku h3];rfl
omit hl H hm in
theorem aL7(m2:Nat){j:Nat}{nt:gY}(hn:nt.length<=l.length):AT l ((M.eY 37 true false (au l) (j:Int) true (encS nt)).bind λQl=>
       (bif ah Ql.2.2.2.2.2.2.2.2.2 then
        ((M.aP 37 Ql.2.2.2.2.2.2.1 Ql.2.2.2.2.2.2.2.1 Ql.2.2.2.2.2.2.2.2.1 Ql.2.2.2.2.2.2.2.2.2).bind λYy=>
        (bif ah Yy.2.2.2.2 then
         ((M.aQ Yy.2.1 Yy.2.2.1 Yy.2.2.2.1 Yy.2.2.2.2).bind λYz=>
         (bif ah Yz.2.2.2 then
          ((M.eY 37 false false Yz.1 Yz.2.1 Yz.2.2.1 Yz.2.2.2).bind λSX=>
          (bif ah SX.2.2.2.2.2.2.2.2.2 then
           ((M.aP 37 SX.2.2.2.2.2.2.1 SX.2.2.2.2.2.2.2.1 SX.2.2.2.2.2.2.2.2.1 SX.2.2.2.2.2.2.2.2.2).bind λai2=>
           (bif ah ai2.2.2.2.2 then
            ((M.aQ ai2.2.1 ai2.2.2.1 ai2.2.2.2.1 ai2.2.2.2.2).bind λai3=>
            (bif ah ai3.2.2.2 then
             ((M.eY 33 false false ai3.1 ai3.2.1 ai3.2.2.1 ai3.2.2.2).bind λVD=>
             (bif ah VD.2.2.2.2.2.2.2.2.2 then
              ((M.aP 33 VD.2.2.2.2.2.2.1 VD.2.2.2.2.2.2.2.1 VD.2.2.2.2.2.2.2.2.1 VD.2.2.2.2.2.2.2.2.2).bind λai4=>
              (bif ah ai4.2.2.2.2 then
               ((M.jZ (m2+1) ai4.2.1 ai4.2.2.1 ai4.2.2.2.1 ai4.2.2.2.2).bind λQm=>
               (bif ah Qm.2.2.2.2.2.2.2.2.2 then
                some (31,0,[],[],true,[[D.int .i64 Ql.1,D.int .i64 Ql.2.1,D.str Ql.2.2.1,D.str Ql.2.2.2.1,D.sl false 5 (ak Ql.2.2.2.2.2.1)],[D.int .i64 SX.1,D.int .i64 SX.2.1,D.str SX.2.2.1,D.str SX.2.2.2.1,D.sl false 5 (ak SX.2.2.2.2.2.1)],[D.int .i64 VD.1,D.int .i64 VD.2.1,D.str VD.2.2.1,D.str VD.2.2.2.1,D.sl false 5 (ak VD.2.2.2.2.2.1)],[D.int .i64 Qm.1,D.int .i64 Qm.2.1,D.str Qm.2.2.1,D.str Qm.2.2.2.1,D.sl false 5 (ak Qm.2.2.2.2.2.1)]],Qm.2.2.2.2.2.2.1,Qm.2.2.2.2.2.2.2.1,Qm.2.2.2.2.2.2.2.2.1,Qm.2.2.2.2.2.2.2.2.2) else none)) else none)) else none)) else none)) else none)) else none)) else none)) else none)) else none)) (.bad j):=by
 refine AT.Dp (R:=λo=>AT l o (.bad j)) (Tt 37 true false hn) λk op x y fl ks nt hn=> ?_
 simp only[dP,aI,uw,aj,H6];refine AT.Dp (R:=λo=>AT l o (.bad j)) (Tt 37 false false hn) λk op x y fl ks nt hn=> ?_
 simp only[dP,aI,uw,aj,H6];refine AT.Dp (R:=λo=>AT l o (.bad j)) (Tt 33 false false hn) λk op x y fl ks nt hn=> ?_
 simp only[dP,aI,uw,aj,H6];refine AT.Dp (R:=λo=>AT l o (.bad j)) (UA m2 hn) λk op x y fl ks nt hn=> ?_
 simp only[dP,aI];exact AT.eX hn
theorem aL8(m2:Nat)(hm2:m=m2+1+1)(i:Nat)(nt:gY)(hi:i<=l.length)(hn:nt.length<=i):AT l ((M.eY 37 true false (au l) (i:Int) false (encS nt)).bind λQl=>
       (bif ah Ql.2.2.2.2.2.2.2.2.2 then
        ((M.aP 37 Ql.2.2.2.2.2.2.1 Ql.2.2.2.2.2.2.2.1 Ql.2.2.2.2.2.2.2.2.1 Ql.2.2.2.2.2.2.2.2.2).bind λYy=>
        (bif ah Yy.2.2.2.2 then
         ((M.aQ Yy.2.1 Yy.2.2.1 Yy.2.2.2.1 Yy.2.2.2.2).bind λYz=>
         (bif ah Yz.2.2.2 then
          ((M.eY 37 false false Yz.1 Yz.2.1 Yz.2.2.1 Yz.2.2.2).bind λSX=>
          (bif ah SX.2.2.2.2.2.2.2.2.2 then
           ((M.aP 37 SX.2.2.2.2.2.2.1 SX.2.2.2.2.2.2.2.1 SX.2.2.2.2.2.2.2.2.1 SX.2.2.2.2.2.2.2.2.2).bind λai2=>
           (bif ah ai2.2.2.2.2 then
            ((M.aQ ai2.2.1 ai2.2.2.1 ai2.2.2.2.1 ai2.2.2.2.2).bind λai3=>
            (bif ah ai3.2.2.2 then
             ((M.eY 33 false false ai3.1 ai3.2.1 ai3.2.2.1 ai3.2.2.2).bind λVD=>
             (bif ah VD.2.2.2.2.2.2.2.2.2 then
              ((M.aP 33 VD.2.2.2.2.2.2.1 VD.2.2.2.2.2.2.2.1 VD.2.2.2.2.2.2.2.2.1 VD.2.2.2.2.2.2.2.2.2).bind λai4=>
              (bif ah ai4.2.2.2.2 then
               ((M.jZ (m2+1) ai4.2.1 ai4.2.2.1 ai4.2.2.2.1 ai4.2.2.2.2).bind λQm=>
               (bif ah Qm.2.2.2.2.2.2.2.2.2 then
                some (31,0,[],[],true,[[D.int .i64 Ql.1,D.int .i64 Ql.2.1,D.str Ql.2.2.1,D.str Ql.2.2.2.1,D.sl false 5 (ak Ql.2.2.2.2.2.1)],[D.int .i64 SX.1,D.int .i64 SX.2.1,D.str SX.2.2.1,D.str SX.2.2.2.1,D.sl false 5 (ak SX.2.2.2.2.2.1)],[D.int .i64 VD.1,D.int .i64 VD.2.1,D.str VD.2.2.1,D.str VD.2.2.2.1,D.sl false 5 (ak VD.2.2.2.2.2.1)],[D.int .i64 Qm.1,D.int .i64 Qm.2.1,D.str Qm.2.2.1,D.str Qm.2.2.2.1,D.sl false 5 (ak Qm.2.2.2.2.2.1)]],Qm.2.2.2.2.2.2.1,Qm.2.2.2.2.2.2.2.1,Qm.2.2.2.2.2.2.2.2.1,Qm.2.2.2.2.2.2.2.2.2) else none)) else none)) else none)) else none)) else none)) else none)) else none)) else none)) else none)) (ays l n i nt):=by
 have h:=H n (zaO _) (m2+1) aB;rw[ays];refine AT.elim (R:=AT l) (ams hl n 37 true hi hn) (λ_=>trivial) (λk op x y fl ks j nt hn=> ?_) (λx fx kx j nt hx ex=> ?_)
 ·simp only[dP,aI,uw,aj,H6];refine AT.Dp (R:=λo=>AT l o (.bad j)) (Tt 37 false false hn) λk op x y fl ks nt hn=> ?_
  simp only[dP,aI,uw,aj,H6];refine AT.Dp (R:=λo=>AT l o (.bad j)) (Tt 33 false false hn) λk op x y fl ks nt hn=> ?_
  simp only[dP,aI,uw,aj,H6];refine AT.Dp (R:=λo=>AT l o (.bad j)) (UA m2 hn) λk op x y fl ks nt hn=> ?_
  simp only[dP,aI];exact AT.eX hn
 have s1:=gU (PN hi) ex;simp only[dP,aI];refine LD (R:=AT l) hl (by decide) ?_ (λ_ hlt=> ?_)
 ·simp only[dP,aI,H6,aj];have hn:nt.length<=l.length:=aB;refine AT.Dp (R:=λo=>AT l o (.bad j)) (Tt 37 false false hn) λk op x y fl ks nt hn=> ?_
  simp only[dP,aI,uw,aj,H6];refine AT.Dp (R:=λo=>AT l o (.bad j)) (Tt 33 false false hn) λk op x y fl ks nt hn=> ?_
  simp only[dP,aI,uw,aj,H6];refine AT.Dp (R:=λo=>AT l o (.bad j)) (UA m2 hn) λk op x y fl ks nt hn=> ?_
  simp only[dP,aI];exact AT.eX hn
 have g1:=Di (l:=l) (i:=j+1) (nt:=nt) aB;simp only[dP,aI,Qv hl (j+1) nt aB aB,aj];refine AT.elim (R:=AT l) (ams hl n 37 false aB aB) (λ_=>trivial) (λk op x y fl ks j nt hn=> ?_) (λy fy ky j nt hy ey=> ?_)
 ·simp only[dP,aI,uw,aj,H6];refine AT.Dp (R:=λo=>AT l o (.bad j)) (Tt 33 false false hn) λk op x y fl ks nt hn=> ?_
  simp only[dP,aI,uw,aj,H6];refine AT.Dp (R:=λo=>AT l o (.bad j)) (UA m2 hn) λk op x y fl ks nt hn=> ?_
  simp only[dP,aI];exact AT.eX hn
 have s2:=gU (PN aB) ey;simp only[dP,aI];refine LD (R:=AT l) hl (by decide) ?_ (λ_ hlt=> ?_)
 ·simp only[dP,aI,H6,aj];have hn:nt.length<=l.length:=aB;refine AT.Dp (R:=λo=>AT l o (.bad j)) (Tt 33 false false hn) λk op x y fl ks nt hn=> ?_
  simp only[dP,aI,uw,aj,H6];refine AT.Dp (R:=λo=>AT l o (.bad j)) (UA m2 hn) λk op x y fl ks nt hn=> ?_
  simp only[dP,aI];exact AT.eX hn
 have g2:=Di (l:=l) (i:=j+1) (nt:=nt) aB;simp only[dP,aI,Qv hl (j+1) nt aB aB,aj];refine AT.elim (R:=AT l) (ams hl n 33 false aB aB) (λ_=>trivial) (λk op x y fl ks j nt hn=> ?_) (λz fz kz j nt hz ez=> ?_)
 ·simp only[dP,aI,uw,aj];refine AT.Dp (R:=λo=>AT l o (.bad j)) (UA m2 hn) λk op x y fl ks nt hn=> ?_
  simp only[dP,aI];exact AT.eX hn
 have s3:=gU (PN aB) ez;simp only[dP,aI];refine LD (R:=AT l) hl (by decide) ?_ (λ_ hlt=> ?_)
 ·simp only[dP,aI];have hn:nt.length<=l.length:=aB;refine AT.Dp (R:=λo=>AT l o (.bad j)) (UA m2 hn) λk op x y fl ks nt hn=> ?_
  simp only[dP,aI];exact AT.eX hn
 simp only[dP,aI];refine AT.elim (R:=AT l) (h.body _ _ aB aB) (λ_=>trivial) (λk op x y fl ks j nt hn=> ?_) (λw fw kw j nt hw ew=> ?_)
 ·simp only[dP,aI];exact AT.eX hn
 ·simp only[dP,aI];exact AT.mk rfl rfl rfl rfl (fz4 (L6 hx) (L6 hy) (L6 hz) (L6 hw))
def lpP(l:List Tk)(n i:Nat)(nt:gY):PR Tn:=(iZ l 32 i nt).bind λ_ i nt=>(bif bD l i==6 && bD l (i+1)==24 then(nameP l (i+2) nt).bind λs j nt=>(iZ l 33 j nt).bind λ_ j nt=>(Dh l n j nt).bind λy j nt=> .ok (.mk 32 0 (Bo l i) s [y]) j nt else ays l n i nt)
theorem aAW(i:Nat)(nt:gY)(hi:i<=l.length)(hn:nt.length<=i):AT l (M.CS m (au l) (i:Int) false (encS nt)) (lpP l n i nt):=by
 obtain⟨m2,hm2⟩:∃m2,m=m2+1+1:=⟨m - 2,aB⟩
 subst hm2;have h:=H n (zaO _) (m2+1) aB;rw[M.adg,lpP];simp only[M.xU,M.wu,dP,aI];refine LD (R:=AT l) hl (by decide) ?_ (λ_ hlt=> ?_)
 ·simp only[zaN,aX,dP,aI];exact aL7 m2 aB
 ·simp only[Bool.not_false,aI,dP,eH,aj,dQ];have amu:=aL8 hl H hm m2 rfl (i+1) nt aB aB;cases h6:bD l (i+1)==6 with
  |false=>simp only[aX,Bool.false_and];exact amu
  |true=>
   have aD9:=cZ h6 (by decide);simp only[aI,nD hl aD9,Bool.true_and]
   by_cases hb:i+1+1<l.length
   ·obtain⟨t,ht⟩:∃t,l[i+1+1]? =some t:=⟨l[i+1+1],by simp[hb]⟩
    have e1:bD l (i+1+1)=t.kind:=by rw[bD,ht]
    rw[zdt aB,aI];simp only[dI,gq,ht,KZ,aj,cT0,e1];cases h24:t.kind==24 with
    |false=>simp only[aX];exact amu
    |true=>
     have n1:M.bI (au l) ((i+1:Nat):Int) false (encS nt)=some (Bo l (i+1),au l,((i+1+1:Nat):Int),false,encS nt):=by simp only[M.bI,M.iI,dP,aI,aX,eH,aj,bne,h6,zaN,LC hl aD9]
     have n2:M.aP 24 (au l) ((i+1+1:Nat):Int) false (encS nt)=some (true,au l,((i+1+1+1:Nat):Int),false,encS nt):=by simp only[M.aP,M.sV,dP,aI,aX,eH,aj,bne,e1,h24,zaN,nD hl hb]
     simp only[aI,n1,n2,aj,dP];refine ax5 (R:=AT l) hl ?_ (λ_ hlt=> ?_)
     ·simp only[dP,aI,uw,aj];refine AT.Dp (R:=λo=>AT l o (.bad (i+1+1+1))) (UA m2 aB) λk op x y fl ks nt hn=> ?_
      simp only[dP,aI];exact AT.eX hn
     ·simp only[dP,aI];refine LD (R:=AT l) hl (by decide) ?_ (λ_ hlt=> ?_)
      ·simp only[dP,aI];refine AT.Dp (R:=λo=>AT l o (.bad (i+1+1+1+1))) (UA m2 aB) λk op x y fl ks nt hn=> ?_
       simp only[dP,aI];exact AT.eX hn
      ·simp only[dP,aI];refine AT.elim (R:=AT l) (h.body _ _ aB aB) (λ_=>trivial) (λk op x y fl ks j nt hn=> ?_) (λw fw kw j nt hw ew=> ?_)
       ·simp only[dP,aI];exact AT.eX hn
       ·simp only[dP,aI];exact AT.mk rfl rfl rfl rfl (fz1 (L6 hw))
   ·have e0:bD l (i+1+1)=0:=by rw[bD,List.getElem?_eq_none aB]
    rw[zD aB,aX,e0];exact amu
end
variable {l:List Tk}
def K1(R:List Nd):Prop:=∀n,n∈R->n.kids.length<=100000
def K1.nil:K1 []:=λn h=>by cases h
def AS(l:List Tk)(i n0:Nat)(o:Option TY):PR Tn->Prop
 | .ok t j nt=>∃fl rows ns,ak rows=aW false (t.flat 0)/\txt ns=nt/\o=some (fl,rows,au l,(j:Int),false,au ns)
 | .bad j=>∃fl rows ns R,i<=j/\j<=l.length/\ns.length<=l.length/\ak rows=aW false R/\R.length+ns.length<=9 * (j - i)+n0+l.length+4/\K1 R/\o=some (fl,rows,au l,(j:Int),true,au ns)
 | .out=>True
def AS.elim{β γ:Type}{Q:Option β->PR γ->Prop}{i n0:Nat}{o:Option TY}{p:PR Tn}(h:AS l i n0 o p){f:TY->Option β}{g:Tn->Nat->gY->PR γ}(hout:∀o,Q o .out)
  (hbad:∀fl rows j ns R,i<=j->j<=l.length->ns.length<=l.length->ak rows=aW false R->R.length+ns.length<=9 * (j - i)+n0+l.length+4->K1 R->Q (f (fl,rows,au l,((j:Nat):Int),true,au ns)) (.bad j))
  (hok:∀x fl rows j ns,ak rows=aW false (x.flat 0)->p=.ok x j (txt ns)->Q (f (fl,rows,au l,(j:Int),false,au ns)) (g x j (txt ns))):Q (o.bind f) (p.bind g):=by
 cases p with
 |ok x j nt=>obtain⟨fl,rows,ns,h1,rfl,rfl⟩:=h;exact hok x fl rows j ns h1 rfl
 |bad j=>obtain⟨fl,rows,ns,R,h1,h2,h3,h4,h5,h6,rfl⟩:=h;exact hbad fl rows j ns R h1 h2 h3 h4 h5 h6
 |out=>exact hout _
def AS.mk{x:Tn}{i n0 j:Nat}{fl:Bool}{rows:ay}{ns:List Tk}(h:ak rows=aW false (x.flat 0)):AS l i n0 (some (fl,rows,au l,(j:Int),false,au ns)) (.ok x j (txt ns)):=⟨_,_,_,h,rfl,rfl⟩
def AS.eX{i n0 j:Nat}{fl:Bool}{rows:ay}{ns:List Tk}{R:List Nd}(h1:i<=j)(h2:j<=l.length)(h3:ns.length<=l.length)(h4:ak rows=aW false R)(h5:R.length+ns.length<=9 * (j - i)+n0+l.length+4)(h6:K1 R):
  AS l i n0 (some (fl,rows,au l,(j:Int),true,au ns)) (.bad j):=⟨_,_,_,_,h1,h2,h3,h4,h5,h6,rfl⟩
def AS.pass{i i' n0 n0':Nat}{o:Option TY}{p:PR Tn}(h:AS l i n0 o p)(hi:i'<=i)(hn:9 * i'+n0<=9 * i+n0'){f:TY->Option TY}
  (hf:∀fl rows c1 b ns,f (fl,rows,au l,c1,b,au ns)=some (false,ak rows,au l,c1,b,au ns)):AS l i' n0' (o.bind f) p:=by
 rw[<-PR.bind_ok p];refine AS.elim (Q:=AS l i' n0') h (λ_=>trivial) (λfl rows j ns R h1 h2 h3 h4 h5 h6=> ?_) (λx fl rows j ns hk _=> ?_)
 ·rw[hf];exact AS.eX aB h2 h3 (fzN h4) aB h6
 ·rw[hf];exact AS.mk (fzN hk)
def AX.lim{i:Nat}{o o':Option TX}{p:PR Xp}(h:AX l i o p)(hof:∀r,o=some r->o'=some r):AX l i o' p:=by
 cases p with
 |ok x j nt=>obtain⟨fl,rows,ns,h1,h2,h3⟩:=h;exact⟨fl,rows,ns,h1,h2,hof _ h3⟩
 |bad j=>obtain⟨fl,rows,hd,ns,R,h1,h2,h3,h4,h5,h6⟩:=h;exact⟨fl,rows,hd,ns,R,h1,h2,h3,h4,h5,hof _ h6⟩
 |out=>trivial
def AS.lim{i n0:Nat}{o o':Option TY}{p:PR Tn}(h:AS l i n0 o p)(hof:∀r,o=some r->o'=some r):AS l i n0 o' p:=by
 cases p with
 |ok x j nt=>obtain⟨fl,rows,ns,h1,h2,h3⟩:=h;exact⟨fl,rows,ns,h1,h2,hof _ h3⟩
 |bad j=>obtain⟨fl,rows,ns,R,h1,h2,h3,h4,h5,h6,h7⟩:=h;exact⟨fl,rows,ns,R,h1,h2,h3,h4,h5,h6,hof _ h7⟩
 |out=>trivial
def AY.lim{i:Nat}{o o':Option TY}{p:PR (List Tn)}(h:AY l i o p)(hof:∀r,o=some r->o'=some r):AY l i o' p:=by
 cases p with
 |ok L j nt=>obtain⟨fl,ns,h1,h2⟩:=h;exact⟨fl,ns,h1,hof _ h2⟩
 |bad j=>obtain⟨fl,ns,P,h1,h2,h3,h4,h5,h6,h7⟩:=h;exact⟨fl,ns,P,h1,h2,h3,h4,h5,h6,hof _ h7⟩
 |out=>trivial
section
variable (hl:l.length<=3000)
include hl
theorem at1(n:Nat)(a b:Bool){i:Nat}{ns:List Tk}(hi:i<=l.length)(hn:ns.length<=i):AX l i (M.dX 1 false a b false (au l) (i:Int) false (au ns)) (ex l n 1 a b i (txt ns)):=
 ((RX.of hl n (zaO _)).a1 a b i ns hi hn).lim λr h=>M.Vx h
theorem at9(n:Nat)(a b:Bool){i:Nat}{ns:List Tk}(hi:i<=l.length)(hn:ns.length<=i):AX l i (M.dX 9 false a b false (au l) (i:Int) false (au ns)) (ex l n 9 a b i (txt ns)):=
 ((RX.of hl n (zaO _)).a9 a b i ns hi hn).lim λr h=>M.Vx h
theorem aL9(n:Nat){i:Nat}{ns:List Tk}(hi:i<=l.length)(hn:ns.length<=i):AY l i (M.lT 35 1 (au l) (i:Int) false (au ns)) (agH l n 35 i (txt ns)):=
 (aqU hl (m:=4 * n+20) (by decide) (λn' hn' i ns hi hn=>(RX.of hl n' aB).a1 false false i ns hi hn) hi hn).lim λr h=>M.XE h
end
def atB(p:Int)(p1 p2 p3 p4:Bool)(i:Nat)(ns:List Tk):M.dX p p1 p2 p3 p4 (au l) (i:Int) true (au ns)=some (true,[],false,au l,(i:Int),true,au ns):=M.Vx (ayk 0 p p1 p2 p3 p4 i ns)
def aEa(i:Nat)(ns:List Tk):M.lT 35 1 (au l) (i:Int) true (au ns)=some (true,[],au l,(i:Int),true,au ns):=by refine M.XE (n:=1) ?_;rw[M.OJ];have h10:((1:Int)==0)=false:=rfl;simp only[M.vC,M.su,h10,aX];rw[show M.wE _ _=_ from aN rfl];simp only[aj,iO,letE,aZ,aI,jW]
def aaO(k op:Int)(x y:aJ)(P:List (List Nd)){b:Nat}(hb:lens P<=b)(hl:b<=90000)(hn:P.length<=100000)(hk:KB P):
  ∃R',M.dR k op x y [] (qW P)=some (false,aW false R')/\M.bV k op x y [] (qW P)=some (aW true R')/\R'.length<=b+1/\K1 R':=by
 obtain⟨R',h1,h2⟩:=adn k op x y [] hb hl hn hk;exact⟨R',by simp only[M.dR,M.JC,h1,aj,aT],h1,h2.1,h2.2⟩
def ayt(k op:Int)(x y:aJ)(ts:List Tn)(h:sizes ts<=100000):M.dR k op x y [] (parts ts)=some (false,aW false ((Tn.mk k op x y ts).flat 0)):=by simp only[M.dR,M.JC,EF k op x y [] ts aB,aj,aT]
def aau(hl:l.length<=3000){i q n0 nq:Nat}{k op:Int}{x x':aJ}(ts:List Tn){o:Option TY}{p:PR Tn}(h:AS l q nq o p)(hq:i<=q)(hn0:nq<=4000)(hs:sizes ts+9 * i+nq+1<=9 * q+n0)(hts:sizes ts<=30000)(zW:p.sat λx j m=>x.size<=30000):
  AS l i n0 (o.bind λr=>(M.dR k op x x' [] (ak (parts ts++[[D.sl false 5 (ak r.2.1)]]))).bind λr'=>
   bif ah r.2.2.2.2.2 then some (false,ak r'.2,r.2.2.1,r.2.2.2.1,r.2.2.2.2.1,r.2.2.2.2.2) else none)
   (p.bind λy j nt=> .ok (.mk k op x x' (ts++[y])) j nt):=by
 have hlen:(ts.map λt=>t.flat 0).length<=sizes ts:=by rw[zaP];exact BI ts
 cases p with
 |out=>trivial
 |bad j=>obtain⟨fl,rows,ns,R,g1,g2,g3,g4,g5,g6,rfl⟩:=h;obtain⟨R',e1,_,e2,e3⟩:=aaO k op x x' ((ts.map λt=>t.flat 0)++[R]) (b:=sizes ts+R.length) (by rw[wU,mP,lens,lens];omega) aB (by rw[Au,zf];omega) (KB.trees ts aB (KB.cons g6 KB.nil));simp only[aj,Ob g4,Ar,e1,aZ,aI,aT];exact AS.eX aB g2 g3 (aT _ _) aB e3
 |ok y j m=>obtain⟨fl,rows,ns,h1,rfl,rfl⟩:=h;have hs':y.size<=30000:=zW;have ho:=ayt k op x x' (ts++[y]) (by rw[sizes1];omega);simp only[aj,H7 h1,LG,ho,aZ,aI,aT];exact AS.mk (aT _ _)
def asl(hl:l.length<=3000){i q n0:Nat}{k op:Int}{x x':aJ}(ts:List Tn){o:Option TX}{p:PR Xp}(h:AX l q o p)(hq:i<=q)(hs:sizes ts+9 * i+1<=9 * q+n0+4)(hts:sizes ts<=30000)(zW:p.sat λx j m=>x.1.size<=30000):
  AS l i n0 (o.bind λr=>(M.dR k op x x' [] (ak (parts ts++[[D.sl false 5 (ak r.2.1)]]))).bind λr'=>
   bif ah r.2.2.2.2.2.2 then some (false,ak r'.2,r.2.2.2.1,r.2.2.2.2.1,r.2.2.2.2.2.1,r.2.2.2.2.2.2) else none)
   (p.bind λy j nt=> .ok (.mk k op x x' (ts++[y.1])) j nt):=by
 have hlen:(ts.map λt=>t.flat 0).length<=sizes ts:=by rw[zaP];exact BI ts
 cases p with
 |out=>trivial
 |bad j=>obtain⟨fl,rows,hd,ns,R,g1,g2,g3,g4,g5,rfl⟩:=h;have g51:=g5.1;obtain⟨R',e1,_,e2,e3⟩:=aaO k op x x' ((ts.map λt=>t.flat 0)++[R]) (b:=sizes ts+R.length) (by rw[wU,mP,lens,lens];omega) aB (by rw[Au,zf];omega) (KB.trees ts aB (KB.cons g5.2 KB.nil));simp only[aj,Ob g4,Ar,e1,aZ,aI,aT];exact AS.eX aB g2 g3 (aT _ _) aB e3
 |ok y j m=>obtain⟨fl,rows,ns,h1,rfl,rfl⟩:=h;have hs':y.1.size<=30000:=zW;have ho:=ayt k op x x' (ts++[y.1]) (by rw[sizes1];omega);simp only[aj,H7 h1,LG,ho,aZ,aI,aT];exact AS.mk (aT _ _)
def aBX(hl:l.length<=3000){n lv i:Nat}{a b:Bool}{nt:gY}(h1:1<=lv)(h2:lv<=15)(hi:i<=l.length):(ex l n lv a b i nt).sat λx j m=>x.1.size<=30000:=bJ ((sats l n).ex lv a b i nt h1 h2 hi) λx j m h=>by omega
def asn(i:Nat)(b:Bool)(ns:List Tk):M.ni (au l) (i:Int) b (au ns)=some (au l,(i:Int),b|| !(Gj (bD l i)),au ns):=by simp only[M.ni,M.QJ,aZ,aI,fU,aj,amq];cases b<;>cases Gj (bD l i)<;>rfl
def aso(i:Nat)(ns:List Tk):M.mW (au l) (i:Int) true (au ns)=some (false,[],au l,(i:Int),true,au ns):=by simp only[M.mW,M.Ij,M.jc,M.qK,aZ,aI,jW,aj,atB];rfl
def amv(hl:l.length<=3000)(n:Nat){i:Nat}{ns:List Tk}(hi:i<=l.length)(hn:ns.length<=i):AS l i ns.length (M.mW (au l) (i:Int) false (au ns)) (Ve l n i (txt ns)):=by
 simp only[M.mW,M.Ij,M.jc,M.qK,aZ,aI,aj,Ve];rw[iZ];cases hc:bD l i==32 with
 |false=>simp only[uo hc,aj,aZ,aI,aX,atB,jW];exact AS.eX (R:=[]) (zaO i) hi aB rfl (by simp;omega) K1.nil
 |true=>
  have hlt:=cZ hc (by decide);have e:bD l i=32:=by rwa [beq_iff_eq] at hc
  simp only[eU hl e (by decide),aj,aZ,aI,PR.bind];refine AX.elim (Q:=AS l i ns.length) (at1 hl n false false aB aB) (λ_=>trivial) (λfl rows hd j ns' R g1 g2 g3 g4 g5=> ?_) (λx fl rows j ns' h1 he=> ?_)
  ·have g51:=g5.1;simp only[aZ,aI,jW,aj];exact AS.eX aB g2 g3 (fzN g4) aB g5.2
  ·have hs:=gU (Gy aB aB aB) he;simp only[zaP] at hs;simp only[aZ,aI,iZ];cases hc2:bD l j==33 with
   |false=>simp only[uo hc2,aj,aZ,aI,aX];exact AS.eX (R:=x.1.flat 0) aB aB aB (fzN h1) (by rw[x.1.flat_length];omega) (WH _ aB)
   |true=>
    have e2:bD l j=33:=by rwa [beq_iff_eq] at hc2
    simp only[eU hl e2 (by decide),aj,aZ,aI];exact AS.mk (fzN h1)
def aqZ(e:Int)(p:Int)(p1 p2 p3 p4:Bool)(i:Nat)(ns:List Tk):∃fl rows R,M.lq e p p1 p2 p3 p4 (au l) (i:Int) true (au ns)=some (fl,rows,au l,(i:Int),true,au ns)/\ak rows=aW false R/\R.length<=1/\K1 R:=by
 simp only[M.lq,M.JD,aZ,aI,fU,aj,atB];cases bD l i==e with
 |true=>exact⟨_,_,(Tn.mk 16 0 [] [] []).flat 0,rfl,Ns 16 [],by rw[Tn.flat_length];rw[Vg];exact zaO 1,WH _ (by rw[Vg];omega)⟩
 |false=>exact⟨_,_,[],rfl,rfl,by simp,K1.nil⟩
def aq0(hl:l.length<=3000)(n:Nat)(e:Int)(a:Bool){i:Nat}{ns:List Tk}(hi:i<=l.length)(hn:ns.length<=i):AS l i ns.length (M.lq e 1 false a false false (au l) (i:Int) false (au ns)) (JV l n e a i (txt ns)):=by
 simp only[M.lq,M.JD,aZ,aI,fU,aj,JV];cases bD l i==e with
 |true=>exact AS.mk (Ns 16 [])
 |false=>
  simp only[aX];refine AX.elim (Q:=AS l i ns.length) (at1 hl n a false hi hn) (λ_=>trivial) (λfl rows hd j ns' R g1 g2 g3 g4 g5=> ?_) (λx fl rows j ns' h1 he=> ?_)
  ·have g51:=g5.1;simp only[aZ,aI];exact AS.eX aB g2 g3 (fzN g4) aB g5.2
  ·simp only[aZ,aI];exact AS.mk (fzN h1)
def amw(hl:l.length<=3000)(i:Nat)(ns:List Tk)(hi:i<=l.length)(hn:ns.length<=i):
  ∃ns',txt ns'=(sep l i (txt ns)).2/\M.kD (au l) (i:Int) false (au ns)=some (au l,((sep l i (txt ns)).1:Int),false,au ns'):=by
 have hloop:∀k i (ns:List Tk),l.length - i<=k->i<=l.length->ns.length<=i->∃ns',txt ns'=(sep l i (txt ns)).2/\
   ((M.bT (au l) (i:Int) false (au ns)).bind λr=>M.zx (r.1,r.2.1,r.2.2.1,r.2.2.2))=some (au l,((sep l i (txt ns)).1:Int),false,au ns'):=by
  intro k;induction k with
  |zero=>
   intro i ns hk hi hn;obtain⟨SH,t1,h1⟩:=Jh hl i ns hi hn;have hf:=Di (l:=l) (nt:=txt ns) hi;have e0:bD l (nl l i (txt ns)).1=0:=by rw[bD,List.getElem?_eq_none aB]
   have e:sep l i (txt ns)=nl l i (txt ns):=by rw[aml,e0];rfl
   refine⟨SH,by rw[e,t1], ?_⟩;have hb:M.uV (au l,((nl l i (txt ns)).1:Int),false,au SH)=some (.inr (au l,((nl l i (txt ns)).1:Int),false,au SH)):=by have h0:((0:Int)==37)=false:=rfl;simp only[M.uV,M.yX,Bool.not_false,aI,aZ,fU,aj,e0,h0,aX]
   rw[h1,aj,e,M.zx,aN hb]
  |succ k ih=>
   intro i ns hk hi hn;obtain⟨SH,t1,h1⟩:=Jh hl i ns hi hn;have hf:=Di (l:=l) (nt:=txt ns) hi;rw[<-t1] at hf;simp only[zaP] at hf;rw[h1,aj,M.zx,aml];cases h37:bD l (nl l i (txt ns)).1==37 with
   |false=>
    have hb:M.uV (au l,((nl l i (txt ns)).1:Int),false,au SH)=some (.inr (au l,((nl l i (txt ns)).1:Int),false,au SH)):=by simp only[M.uV,M.yX,Bool.not_false,aI,aZ,fU,aj,h37,aX]
    rw[aN hb];exact⟨SH,t1,rfl⟩
   |true=>
    have hlt:=cZ h37 (by decide);have e37:bD l (nl l i (txt ns)).1=37:=by rwa [beq_iff_eq] at h37
    obtain⟨KX,t2,h2⟩:=ih ((nl l i (txt ns)).1+1) SH aB aB aB;obtain⟨ns3,t3,h3⟩:=Jh hl ((nl l i (txt ns)).1+1) SH aB aB;rw[h3,aj] at h2;have hb:M.uV (au l,((nl l i (txt ns)).1:Int),false,au SH)=some (.inl (au l,((nl l ((nl l i (txt ns)).1+1) (txt SH)).1:Int),false,au ns3)):=by simp only[M.uV,M.yX,Bool.not_false,aI,aZ,fU,aj,h37,eU hl e37 (by decide),h3]
    rw[aY hb,aI,<-t1];exact⟨KX,t2,h2⟩
 obtain⟨ns',e1,e2⟩:=hloop _ i ns (zaO _) hi hn;refine⟨ns',e1, ?_⟩;simp only[M.kD,M.Jt,aZ,aI];obtain⟨SH,t1,h1⟩:=Jh hl i ns hi hn;rw[h1,aj] at e2|-;rw[e2,aj];simp only[aZ,aI]
def amx(i:Nat)(ns:List Tk):M.kD (au l) (i:Int) true (au ns)=some (au l,(i:Int),true,au ns):=by have:M.zx (au l,(i:Int),true,au ns)=some (au l,(i:Int),true,au ns):=aN rfl;simp only[M.kD,M.Jt,aZ,aI,JW,aj,this]
def Qa(ns:List Tk):ay:=ns.map λt=>[D.sl true 5 [[D.int .i64 34,D.int .i64 0,D.str t.text,D.str [],D.sl true 1 []]]]
def Z8:∀ns:List Tk,ak (Qa ns)=parts (ES (txt ns))
 |[]=>rfl
 |t::ns=>by have h:Qa (t::ns)=[D.sl true 5 [[D.int .i64 34,D.int .i64 0,D.str t.text,D.str [],D.sl true 1 []]]]::Qa ns:=rfl;rw[h,ak,Z8 ns];rfl
def Tv(c1:Int)(b:Bool)(ns:List Tk)(hn:ns.length<=1048576):M.mV (au l) c1 b (au ns)=some (true,Qa ns,au l,c1,b,au []):=by
 have hloop:=qX (b:=M.GV (au l) c1 b (au ns)) (t:=((ns.length:Int),Qa ns)) (λj=>((j:Int),Qa (ns.take j))) ns.length
  (by
   intro j hj;obtain⟨t,ht⟩:∃t,ns[j]? =some t:=⟨ns[j],by simp⟩
   have h2:Qa (ns.take (j+1))=Qa (ns.take j)++[[D.sl true 5 [[D.int .i64 34,D.int .i64 0,D.str t.text,D.str [],D.sl true 1 []]]]]:=by rw[uH ht,Qa,List.map_append];rfl
   have h3:(Qa (ns.take j)).length=j:=by rw[Qa,zaP,zlt];omega
   simp only[LJ,M.GV,M.BP,dQ];rw[zdt aB,aI];simp only[dI,gq,ht,KZ,aj,ztn,cT1,h3,zf];rw[bG aB,aI,bG aB,aI,bC aB aB,h2];rfl)
  (by simp only[LJ,M.GV,M.BP,dQ];rw[zD aB,aX,List.take_length]) 0 (Nat.zero_le _)
 have NP:M.Kt (au l) c1 b (au ns) (0,[])=some ((ns.length:Int),Qa ns):=hloop;simp only[M.mV,M.MF,NP,aj];rfl
def aEb(rows:ay):aeA 1 [D.sl true 1 rows] 0=some rows:=rfl
def afk(ns:List Tk):(Qa ns).length=ns.length:=by rw[Qa,zaP]
def ayu(i:Nat)(ns:List Tk)(hl:l.length<=3000)(hi:i<=l.length):M.qA (au l) (i:Int) true (au ns)=some (false,au l,(i:Int),true,au ns):=by
 have hloop:∀k j,l.length - j<=k->j<=l.length->∃v,M.zB (au l) (i:Int) true (au ns) (j:Int)=some v:=by
  intro k;induction k with
  |zero=>intro j hk hj;exact⟨_,aN (by simp only[M.vH,M.vG,dQ];rw[zD aB,aX])⟩
  |succ k ih=>
   intro j hk hj
   by_cases hlt:j<l.length
   ·obtain⟨t,ht⟩:∃t,l[j]? =some t:=⟨l[j],by simp[hlt]⟩
    have w:i64.wrap ((j:Int)+1)=((j+1:Nat):Int):=by rw[bC aB aB];omega
    have hdec:decide ((j:Int)<(l.length:Int))=true:=by rw[zdt];omega
    have hb:M.vH (au l) (i:Int) true (au ns) (j:Int)=bif t.kind==1 then some (.inl ((j+1:Nat):Int)) else bif t.kind==2 then some (.inl ((j+1:Nat):Int)) else bif t.kind==37 then some (.inl ((j+1:Nat):Int)) else some (.inr (j:Int)):=by simp only[M.vH,M.vG,dQ,hdec,aI,dI,gq,ht,KZ,aj,cT0,w]
    rw[M.zB];cases h1:t.kind==1 with
    |true=>rw[h1,aI] at hb;rw[aY hb];exact ih (j+1) aB aB
    |false=>
     cases h2:t.kind==2 with
     |true=>rw[h1,h2,aX,aI] at hb;rw[aY hb];exact ih (j+1) aB aB
     |false=>
      cases h3:t.kind==37 with
      |true=>rw[h1,h2,h3,aX,aX,aI] at hb;rw[aY hb];exact ih (j+1) aB aB
      |false=>rw[h1,h2,h3,aX,aX,aX] at hb;exact⟨_,aN hb⟩
   ·exact ih j aB hj
 obtain⟨v,hv⟩:=hloop _ i (zaO _) hi;simp only[M.qA,M.Cb,hv,aj,aI,aZ]
def aEc(hl:l.length<=3000)(i:Nat)(ns:List Tk)(hi:i<=l.length)(hn:ns.length<=i):
  (bD l (sep l i (txt ns)).1==14)=true/\(∃ns',txt ns'=(sep l i (txt ns)).2/\M.qA (au l) (i:Int) false (au ns)=some (true,au l,(((sep l i (txt ns)).1+1:Nat):Int),false,au ns'))\/
  (bD l (sep l i (txt ns)).1==14)=false/\M.qA (au l) (i:Int) false (au ns)=some (false,au l,(i:Int),false,au ns):=by
 have hloop:∀k j (nt:gY),l.length - j<=k->j<=l.length->M.zB (au l) (i:Int) false (au ns) (j:Int)=some ((sep l j nt).1:Int):=by
  intro k;induction k with
  |zero=>
   intro j nt hk hj;have e0:bD l j=0:=by rw[bD,List.getElem?_eq_none aB]
   rw[aiY,e0];exact aN (by simp only[M.vH,M.vG,dQ];rw[zD aB,aX];rfl)
  |succ k ih=>
   intro j nt hk hj
   by_cases hlt:j<l.length
   ·obtain⟨t,ht⟩:∃t,l[j]? =some t:=⟨l[j],by simp[hlt]⟩
    have ek:bD l j=t.kind:=by rw[bD,ht]
    have w:i64.wrap ((j:Int)+1)=((j+1:Nat):Int):=by rw[bC aB aB];omega
    have hdec:decide ((j:Int)<(l.length:Int))=true:=by rw[zdt];omega
    have hb:M.vH (au l) (i:Int) false (au ns) (j:Int)=bif t.kind==1 then some (.inl ((j+1:Nat):Int)) else bif t.kind==2 then some (.inl ((j+1:Nat):Int)) else bif t.kind==37 then some (.inl ((j+1:Nat):Int)) else some (.inr (j:Int)):=by simp only[M.vH,M.vG,dQ,hdec,aI,dI,gq,ht,KZ,aj,cT0,w]
    rw[M.zB,aiY,ek];cases h1:t.kind==1 with
    |true=>rw[h1,aI] at hb;rw[aY hb,Bool.true_or,aI];exact ih (j+1) nt aB aB
    |false=>
     rw[Bool.false_or];cases h2:t.kind==2 with
     |true=>
      have h3:(t.kind==37)=false:=by
       have:t.kind=2:=by rwa [beq_iff_eq] at h2
       rw[this];rfl
      rw[h1,h2,aX,aI] at hb;rw[aY hb,h3,aX,aI];exact ih (j+1) _ aB aB
     |false=>
      cases h3:t.kind==37 with
      |true=>rw[h1,h2,h3,aX,aX,aI] at hb;rw[aY hb,aI];exact ih (j+1) nt aB aB
      |false=>rw[h1,h2,h3,aX,aX,aX] at hb;rw[aN hb,aX,aX]
   ·exact ih j nt aB hj
 have hv:=hloop _ i (txt ns) (zaO _) hi;obtain⟨ns',t1,hsp⟩:=amw hl i ns hi hn;have hf:=Qs (l:=l) (nt:=txt ns) hi
 by_cases hlt:(sep l i (txt ns)).1<l.length
 ·obtain⟨t,ht⟩:∃t,l[(sep l i (txt ns)).1]? =some t:=⟨l[(sep l i (txt ns)).1],by simp[hlt]⟩
  have ek:bD l (sep l i (txt ns)).1=t.kind:=by rw[bD,ht]
  cases h14:t.kind==14 with
  |true=>
   have e14:bD l (sep l i (txt ns)).1=14:=by rw[ek];rwa [beq_iff_eq] at h14
   refine .inl ⟨by rw[ek,h14],ns',t1, ?_⟩;simp only[M.qA,M.Cb,hv,aj,aX,dQ];rw[zD aB,aX];simp only[dI,gq,ht,KZ,aj,cT0,bne,h14,zaN,aX,aZ,aI,hsp,eU hl e14 (by decide)]
  |false=>refine .inr ⟨by rw[ek,h14], ?_⟩;simp only[M.qA,M.Cb,hv,aj,aX,dQ];rw[zD aB,aX];simp only[dI,gq,ht,KZ,aj,cT0,bne,h14,Bool.not_false,aI,aZ]
 ·have e0:bD l (sep l i (txt ns)).1=0:=by rw[bD,List.getElem?_eq_none aB]
  refine .inr ⟨by rw[e0];rfl, ?_⟩;simp only[M.qA,M.Cb,hv,aj,aX,dQ];rw[zdt aB,aI];simp only[aZ,aI]
end Go.Proofs.YtoaeipkhadpbiaaGreatDoor
