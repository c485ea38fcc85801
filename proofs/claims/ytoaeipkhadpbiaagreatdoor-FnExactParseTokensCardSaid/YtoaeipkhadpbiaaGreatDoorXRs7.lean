import Derived.Test.YtoaeipkhadpbiaaGreatDoorXRs4
set_option linter.defProp false
namespace Go.Proofs.YtoaeipkhadpbiaaGreatDoor
set_option linter.unusedVariables false
set_option linter.unusedSimpArgs false
open Go Go.Vm
open Go.IntKind (i64)
variable {l:List Tk}
def JL(L:List Tn):ak (parts L)=parts L:=by rw[uI];exact zu _
def KU(k:Int)(x:aP):ak [[D.int .i64 k,D.int .i64 0,D.str x,D.str [],D.sl true 1 []]]=aV false ((Tn.mk k 0 x [] []).flat 0):=rfl
def arZ(hl:l.length<=3000)(k:Int){i:Nat}{ns:List Tk}(h:bC l i≠0):M.wX k (au l) (i:Int) false (au ns)=some (true,[[D.int .i64 k,D.int .i64 0,D.str (zK l i),D.str [],D.sl true 1 []]],false,au l,((i+1:Nat):Int),false,au ns):=by
 have hlt:=dX h;obtain⟨t,ht⟩:∃t,l[i]? =some t:=⟨l[i],by simp[hlt]⟩
 have e:bC l i=t.kind:=by rw[bC,ht]
 simp only[M.wX,M.ML,dM,fK,ht,Hg,aj,VJ,aW,aI,fB hl e (by rw[<-e];exact h)]
section
variable {n m:Nat} (hl:l.length<=3000)
include hl
theorem aFD(h:∀n',n'<n->∀i ns,i<=l.length->ns.length<=i->AX l i (M.bG m 1 false false false false (au l) (i:Int) false (au ns)) (ex l n' 1 false false i (txt ns))){i:Nat}{ns:List Tk}(h6:bC l i=6)(hn:ns.length<=i):
  AX l i (M.Ic (m+2) (au l) (i:Int) false (au ns)) (avU l n i (txt ns)):=by
 have hlt:i<l.length:=dX (by rw[h6];decide);rw[M.aiO,avU];simp only[M.D5,aW,aI,fB hl h6 (by decide),aj,gu,bne];cases hc:bC l (i+1)==34 with
 |false=>simp only[Bool.not_false,aI,bH];exact AX.mk (KU _ _) rfl
 |true=>
  have hlt':=cO hc (by decide);have e34:bC l (i+1)=34:=by rwa [beq_iff_eq] at hc
  simp only[zaM,bH,aI,fB hl e34 (by decide),aj,aW];have e:(NQ l n false false [] (i+2) (txt ns)).bind (λL j nt=>(iV l 35 j nt).bind λ_ j nt=>PR.ok ((Tn.mk 5 0 (zK l i) [] L,false):Xp) j nt)=
    (ag4 l n 35 (i+2) (txt ns)).bind λL j nt=> .ok ((Tn.mk 5 0 (zK l i) [] L,false):Xp) j nt:=by
   rw[ag4];cases NQ l n false false [] (i+2) (txt ns) with
   |ok L j m=>simp only[PR.bind];cases iV l 35 j m<;>rfl
   |bad j=>rfl
   |out=>rfl
  rw[e];refine AY.elim (Q:=AX l i) (arW hl (e:=35) (by decide) h (i:=i+1+1) (ns:=ns) aB aB) (λ_=>trivial) (λfl j ns' P g1 g2 g3 g4 g5 g6=> ?_) (λL fl j ns' he=> ?_)
  ·obtain⟨R',e1,e2⟩:=adI 5 0 (zK l i) [] [] (b:=3 * (j - (i+1+1))) g4 aB aB g6;simp only[zu,e1,aj,aW,aI,aS];exact AX.fC aB g2 g3 (aS _ _) (e2.mono aB)
  ·have hs:sizes L<=9000:=by
    rw[ag4] at he;have:=gY (P:=λL _ _=>sizes L<=9000) (by
     rw[dY];refine bP (acN (l:=l) aB) λL j m hL=> ?_
     rw[dY,vF];intro _;show sizes L<=9000;omega) he
    exact this
   have hmk:=Dc 5 0 (zK l i) [] [] L aB;simp only[JL,hmk,aj,aW,aI,aS];exact AX.mk (aS _ _) rfl
theorem aCF{e:Int}(he:e≠0){i:Nat}{nt:iw}(hi:i<=l.length):(PV l n e i nt).sat λL _ _=>sizes L<=9000:=
 bP ((sats l n).lst e i nt he hi) λL j m h=>by omega
theorem aFE(h:∀n',n'<n->∀i ns,i<=l.length->ns.length<=i->AX l i (M.bG m 1 false false false false (au l) (i:Int) false (au ns)) (ex l n' 1 false false i (txt ns))){i:Nat}{ns:List Tk}(hi:i<=l.length)(hn:ns.length<=i):
  AY l i (M.lT (m+1) 33 0 (au l) (i:Int) false (au ns)) (PV l n 33 i (txt ns)):=by
 cases n with
 |zero=>rw[PV];trivial
 |succ n=>exact aFB hl (λn' hn'=>h n' aB) hi hn
theorem aAi(kd:Int)(h:∀n',n'<n->∀i ns,i<=l.length->ns.length<=i->AX l i (M.bG m 1 false false false false (au l) (i:Int) false (au ns)) (ex l n' 1 false false i (txt ns))){i:Nat}{ns:List Tk}(hi:i<l.length)(hn:ns.length<=i):
  AX l i ((M.aG 32 (au l) ((i+1:Nat):Int) false (au ns)).bind λaiF=>bif ah aiF.2.2.2.2.2.2 then
     (M.lT (m+1) 33 0 aiF.2.2.2.1 aiF.2.2.2.2.1 aiF.2.2.2.2.2.1 aiF.2.2.2.2.2.2).bind λafm=>
        (M.aX kd 0 (zK l i) [] [] (ak afm.2.1)).bind λaEA=>
        (bif ah afm.2.2.2.2.2 then
         some (false,ak aEA,false,afm.2.2.1,afm.2.2.2.1,afm.2.2.2.2.1,afm.2.2.2.2.2) else none) else none)
   ((iV l 32 (i+1) (txt ns)).bind λ_ j nt=>(PV l n 33 j nt).bind λL j nt=> .ok (.mk kd 0 (zK l i) [] L,false) j nt):=by
 rw[iV];cases hc:bC l (i+1)==32 with
 |false=>obtain⟨R',e1,e2⟩:=adI kd 0 (zK l i) [] [] (P:=[]) (b:=0) (by simp[lens]) aB (by simp) KB.nil;have e1':M.aX kd 0 (zK l i) [] [] (ak [])=some (aV true R'):=e1;simp only[sF hc,aj,aW,aI,bH,aCC,e1',aS];exact AX.fC aB aB aB (aS _ _) (e2.mono aB)
 |true=>
  have hlt:=cO hc (by decide);have e32:bC l (i+1)=32:=by rwa [beq_iff_eq] at hc
  simp only[fB hl e32 (by decide),aj,aW,aI];refine AY.elim (Q:=AX l i) (aFE hl h (i:=i+1+1) (ns:=ns) aB aB) (λ_=>trivial) (λfl j ns' P g1 g2 g3 g4 g5 g6=> ?_) (λL fl j ns' he=> ?_)
  ·obtain⟨R',e1,e2⟩:=adI kd 0 (zK l i) [] [] (b:=3 * (j - (i+1+1))) g4 aB aB g6;simp only[zu,e1,aj,aW,aI,aS];exact AX.fC aB g2 g3 (aS _ _) (e2.mono aB)
  ·have hs:sizes L<=9000:=gY (aCF hl (by decide) aB) he;have hmk:=Dc kd 0 (zK l i) [] [] L aB;simp only[JL,hmk,aj,aW,aI,aS];exact AX.mk (aS _ _) rfl
theorem aAj(H:∀n',n'<=n->∀m',4 * n'+20<=m'->RX l n' m')(hm:4 * n+22<=m)(a b:Bool)(i:Nat)(ns:List Tk)(hi:i<=l.length)(hn:ns.length<=i):AX l i (M.uh (m+1) (au l) (i:Int) false (au ns)) (ex l (n+1) 15 a b i (txt ns)):=by
 have h:=H n (zaN _) m aB;obtain⟨m2,rfl⟩:∃m2,m=m2+2:=⟨m - 2,aB⟩
 have ar0:∀n',n'<n->∀i ns,i<=l.length->ns.length<=i->AX l i (M.bG m2 1 false false false false (au l) (i:Int) false (au ns)) (ex l n' 1 false false i (txt ns)):=λn' hn' i ns hi hn=>(H n' aB m2 aB).a1 false false i ns hi hn
 rw[M.aep];simp only[M.yg,aW,aI,bH,ex,gu,aj];cases h3:bC l i==3 with
 |true=>
  have e:bC l i=3:=by rwa [beq_iff_eq] at h3
  simp only[aI,arZ hl 2 (show bC l i≠0 by rw[e];decide),aj,aW,KU];exact AX.mk (aS _ _) rfl
 |false=>
 cases h4:bC l i==4 with
 |true=>
  have e:bC l i=4:=by rwa [beq_iff_eq] at h4
  simp only[aI,bH,arZ hl 3 (show bC l i≠0 by rw[e];decide),aj,aW,KU];exact AX.mk (aS _ _) rfl
 |false=>
 cases h5:bC l i==5 with
 |true=>
  have e:bC l i=5:=by rwa [beq_iff_eq] at h5
  simp only[aI,bH,arZ hl 4 (show bC l i≠0 by rw[e];decide),aj,aW,KU];exact AX.mk (aS _ _) rfl
 |false=>
 cases h6:bC l i==6 with
 |true=>
  have e:bC l i=6:=by rwa [beq_iff_eq] at h6
  simp only[aI,bH];exact AX.pass (aFD hl ar0 e hn) (zaN i) (by intros;simp only[aW,aI])
 |false=>
 cases h7:bC l i==7 with
 |true=>
  have e:bC l i=7:=by rwa [beq_iff_eq] at h7
  have hlt:=cO h7 (by decide);have h8:(bC l i==8)=false:=by rw[e];rfl
  have w:((7:Int)==8)=false:=rfl;simp only[aI,bH,Bool.true_or,h8,Bool.false_and];refine AX.pass (i:=i) ?_ (zaN i) (by intros;simp only[aW,aI]);rw[M.Wx];simp only[M.Ah,aW,aI,gu,aj,fB hl rfl (show bC l i≠0 by rw[e];decide),w,bH];rw[e];exact aAi hl 7 ar0 hlt hn
 |false=>
 cases h8:bC l i==8 with
 |true=>
  have e:bC l i=8:=by rwa [beq_iff_eq] at h8
  have hlt:=cO h8 (by decide);have hcall:=aAi hl 8 ar0 hlt hn;simp only[aI,bH,Bool.or_true,Bool.true_and];refine AX.pass (i:=i) ?_ (zaN i) (by intros;simp only[aW,aI]);rw[M.Wx];simp only[M.Ah,aW,aI,gu,aj,fB hl rfl (show bC l i≠0 by rw[e];decide),BEq.rfl,bne];rw[e];cases h32:bC l (i+1)==32 with
  |true=>simp only[zaM,bH,Bool.and_false];exact hcall
  |false=>
   simp only[Bool.not_false,aI,Bool.and_true];cases hx:zK l i==[108,101,110,103,116,104] with
   |true=>simp only[aI];exact AX.mk (KU _ _) rfl
   |false=>simp only[bH];exact hcall
 |false=>
 simp only[bH,Bool.or_self];cases h32:bC l i==32 with
 |false=>simp only[sF h32,M.ig,M.pU,aj,aW,aI,bH,aAd,jO];exact AX.fC (R:=[]) (zaN i) hi aB rfl ⟨by simp,λn h=>by cases h⟩
 |true=>
  have e:bC l i=32:=by rwa [beq_iff_eq] at h32
  have hlt:=cO h32 (by decide);simp only[fB hl e (by decide),M.ig,M.pU,aj,aW,aI];refine AX.elim (Q:=AX l i) (h.a1 false false (i+1) ns aB aB) (λ_=>trivial) (λfl rows hd j ns R g1 g2 g3 g4 g5=> ?_) (λx fl rows j ns h1 he=> ?_)
  ·simp only[aW,aI,jO,aj];exact AX.fC aB g2 g3 (fzN g4) (g5.mono aB)
  ·have hs:=gY (EK aB aB aB) he;simp only[zaO] at hs;simp only[aW,aI,iV];cases hc:bC l j==33 with
   |true=>
    have e33:bC l j=33:=by rwa [beq_iff_eq] at hc
    simp only[fB hl e33 (by decide),aj,aW,aI];exact AX.mk (by rw[h1,aS]) rfl
   |false=>simp only[sF hc,aj,aW,aI,bH];exact AX.fC aB aB aB (fzN h1) ((RB.tree x.1 aB).mono aB)
theorem aCG(i:Nat)(ns:List Tk)(hi:i<=l.length):M.zC (au l) (i:Int) false (au ns)=some (bC l i==32 && ahead (l.drop i) 0,au l,(i:Int),false,au ns):=by
 simp only[M.zC,M.KC,bH,aW,aI,gu,aj,bne];cases h32:bC l i==32 with
 |false=>rfl
 |true=>
  have hlt:=cO h32 (by decide);have e32:bC l i=32:=by rwa [beq_iff_eq] at h32
  simp only[zaM,bH,Bool.true_and];obtain⟨t,ht⟩:∃t,l[i]? =some t:=⟨l[i],by simp[hlt]⟩
  have ek:t.kind=32:=by rw[bC,ht] at e32;exact e32
  have hloop:∀(k j d:Nat),l.length - j<=k->1<=d->d<=j->j<=l.length->(∃u,M.nM (au l) (i:Int) false (au ns) ((d:Int),(j:Int))=some u/\(u=.inl (ahead (l.drop j) d)\/(∃p,u=.inr p)/\ahead (l.drop j) d=false)):=by
   intro k;induction k with
   |zero=>
    intro j d hk hd hdj hj;have:M.fZ (au l) (i:Int) false (au ns) ((d:Int),(j:Int))=some (.inr (.inr ((d:Int),(j:Int)))):=by simp only[M.fZ,M.jQ,dh];rw[Bq aB,bH]
    exact⟨_,aO this,.inr ⟨⟨_,rfl⟩,by rw[List.drop_eq_nil_of_le aB,ahead]⟩⟩
   |succ k ih=>
    intro j d hk hd hdj hj
    by_cases hj':j<l.length
    ·obtain⟨u,hu⟩:∃u,l[j]? =some u:=⟨l[j],by simp[hj']⟩
     have hdec:decide ((j:Int)<(l.length:Int))=true:=by rw[zdt];omega
     have w1:i64.wrap ((j:Int)+1)=((j+1:Nat):Int):=by rw[bT aB aB];omega
     have w2:i64.wrap ((d:Int)+1)=((d+1:Nat):Int):=by rw[bT aB aB];omega
     have w3:i64.wrap ((d:Int) - 1)=((d - 1:Nat):Int):=by rw[bT aB aB];omega
     have z1:(((d+1:Nat):Int)==0)=false:=by rw[zbn];omega
     have z2:(((d+1:Nat):Int)==1)=false:=by rw[zbn];omega
     have z3:((d:Int)==0)=false:=by rw[zbn];omega
     rw[Uz hu,ahead];cases ho:Vg u.kind with
     |true=>
      have hs:TB u.kind=false:=by
       have:u.kind=32\/u.kind=34\/u.kind=30:=by simpa[Vg,Bool.or_eq_true] using ho
       rcases this with e|e|e<;>rw[e]<;>rfl
      have hb:M.fZ (au l) (i:Int) false (au ns) ((d:Int),(j:Int))=some (.inl (((d+1:Nat):Int),((j+1:Nat):Int))):=by simp only[M.fZ,M.jQ,dh,hdec,aI,dM,fK,hu,Hg,aj,VJ,Vj,ho,Vk,hs,bH,w1,w2,z1,z2]
      rw[M.nM,bD hb,aI];have:=ih (j+1) (d+1) aB aB aB aB;rw[show(((d+1:Nat):Int))=(d:Int)+1 by omega] at this|-;exact this
     |false=>
      rw[bH];cases hs:TB u.kind with
      |true=>
       have h36:(u.kind==36)=false:=by
        have:u.kind=33\/u.kind=35\/u.kind=31:=by simpa[TB,Bool.or_eq_true] using hs
        rcases this with e|e|e<;>rw[e]<;>rfl
       rw[aI]
       by_cases hd1:d=1
       ·subst hd1;have hb:M.fZ (au l) (i:Int) false (au ns) (((1:Nat):Int),(j:Int))=some (.inr (.inl false)):=by have z0:(((1 - 1:Nat):Int)==0)=true:=rfl;simp only[M.fZ,M.jQ,dh,hdec,aI,dM,fK,hu,Hg,aj,VJ,Vj,ho,Vk,hs,bH,w3,z0]
        exact⟨_,aO hb,.inl rfl⟩
       ·have z0:(((d - 1:Nat):Int)==0)=false:=by rw[zbn];omega
        have hb:M.fZ (au l) (i:Int) false (au ns) ((d:Int),(j:Int))=some (.inl (((d - 1:Nat):Int),((j+1:Nat):Int))):=by simp only[M.fZ,M.jQ,dh,hdec,aI,dM,fK,hu,Hg,aj,VJ,Vj,ho,Vk,hs,bH,w1,w3,z0,h36,Bool.cond_self]
        rw[M.nM,bD hb,Bq aB,bH];have:=ih (j+1) (d - 1) aB aB aB aB;rw[show(((d - 1:Nat):Int))=(d:Int) - 1 by omega] at this|-;exact this
      |false=>
       rw[bH,Bq aB,bH];have hdd:(ahead (l.drop (j+1)) d)=ahead (l.drop (j+1)) d:=rfl;cases hd1:(d:Int)==1 with
       |false=>
        have hb:M.fZ (au l) (i:Int) false (au ns) ((d:Int),(j:Int))=some (.inl ((d:Int),((j+1:Nat):Int))):=by simp only[M.fZ,M.jQ,dh,hdec,aI,dM,fK,hu,Hg,aj,VJ,Vj,ho,Vk,hs,bH,w1,z3,hd1]
        rw[M.nM,bD hb,Bool.and_false,bH];exact ih (j+1) d aB aB aB aB
       |true=>
        rw[Bool.and_true];cases h36:u.kind==36 with
        |false=>
         have hb:M.fZ (au l) (i:Int) false (au ns) ((d:Int),(j:Int))=some (.inl ((d:Int),((j+1:Nat):Int))):=by simp only[M.fZ,M.jQ,dh,hdec,aI,dM,fK,hu,Hg,aj,VJ,Vj,ho,Vk,hs,bH,w1,z3,hd1,h36]
         rw[M.nM,bD hb,bH];exact ih (j+1) d aB aB aB aB
        |true=>
         have hb:M.fZ (au l) (i:Int) false (au ns) ((d:Int),(j:Int))=some (.inr (.inl true)):=by simp only[M.fZ,M.jQ,dh,hdec,aI,dM,fK,hu,Hg,aj,VJ,Vj,ho,Vk,hs,bH,z3,hd1,h36]
         exact⟨_,aO hb,.inl rfl⟩
    ·exact ih j d aB hd hdj hj
  have w1:i64.wrap ((i:Int)+1)=((i+1:Nat):Int):=by rw[bT aB aB];omega
  have hb0:M.fZ (au l) (i:Int) false (au ns) (0,(i:Int))=some (.inl (((1:Nat):Int),((i+1:Nat):Int))):=by
   have o1:Vg 32=true:=rfl;have s1:TB 32=false:=rfl;have z1:(i64.wrap (0+1)==0)=false:=rfl;have z2:(i64.wrap (0+1)==1)=true:=rfl;have z3:((32:Int)==36)=false:=rfl;have hdec:decide ((i:Int)<(l.length:Int))=true:=by rw[zdt];omega
   simp only[M.fZ,M.jQ,dh,hdec,aI,dM,fK,ht,Hg,aj,VJ,Vj,ek,o1,Vk,s1,bH,w1,z1,z2,z3];rfl
  obtain⟨u,hu1,hu2⟩:=hloop _ (i+1) 1 (zaN _) (zaN 1) aB aB;have hah:ahead (l.drop i) 0=ahead (l.drop (i+1)) 1:=by rw[Uz ht,ahead,ek];rfl
  rw[M.nM] at hu1;rw[M.nM,bD hb0,hu1,aj,hah];rcases hu2 with rfl|⟨⟨p,rfl⟩,e⟩
  ·simp only[iD,aW,aI];rfl
  ·have e':ahead (l.drop (i+1)) 1=false:=e;rw[e'];simp only[iD,letE,aW,aI]
end
variable {l:List Tk}
abbrev W6:=aA×Int×Bool×aA×Bool×aA
def AW(l:List Tk)(i:Nat)(o:Option W6):PR Xp->Prop
 | .ok x j nt=>∃ns,txt ns=nt/\o=some (au l,(j:Int),false,aV false (x.1.flat 0),x.2,au ns)
 | .bad j=>∃hd ns R,i<=j/\j<=l.length/\ns.length<=l.length/\RB R (3 * (j - i))/\o=some (au l,(j:Int),true,aV false R,hd,au ns)
 | .out=>True
def AW.fin{i:Nat}{o:Option W6}{p:PR Xp}(h:AW l i o p):AX l i (o.bind λt=>bif ah t.2.2.2.2.2 then some (false,t.2.2.2.1,t.2.2.2.2.1,t.1,t.2.1,t.2.2.1,t.2.2.2.2.2) else none) p:=by
 cases p with
 |ok x j nt=>obtain⟨ns,rfl,rfl⟩:=h;simp only[aj,aW,aI];exact AX.mk (aS _ _) rfl
 |bad j=>obtain⟨hd,ns,R,g1,g2,g3,g4,rfl⟩:=h;simp only[aj,aW,aI];exact AX.fC g1 g2 g3 (aS _ _) g4
 |out=>trivial
def aAk(k op:Int)(x:aP)(t:Tn)(h:t.size<=90000):M.dn k op x [] [] (qo [t.flat 0])=some (false,aV false ((Tn.mk k op x [] [t]).flat 0),false):=afF k op x [] [] [t] (by simp only[sizes];omega)
def aFF(hl:l.length<=3000){f:Int->Int->aA->Int->Bool->aA->Option TY}{g:Int->Bool->Bool->Bool->Bool->aA->Int->Bool->aA->Option TX}{p:Int}{p1 a b p4:Bool}:
  ∀(n i0:Nat) (x:Xp) (i:Nat) (ns:List Tk),i0<i->i<=l.length->ns.length<=i->x.1.size+2 * i0+1<=2 * i->
   AW l i0 (M.oV f g p p1 a b p4 false (au l,(i:Int),false,aV false (x.1.flat 0),x.2,au ns)) (inP l n a x i (txt ns))
 |0,_,_,_,_,_,_,_,_=>by rw[inP];trivial
 |n+1,i0,x,i,ns,hi0,hi,hn,hx=>by
  rw[inP,M.oV];cases a with
  |true=>
   have hb:M.qQ f g p p1 true b p4 false (au l,(i:Int),false,aV false (x.1.flat 0),x.2,au ns)=some (.inr (au l,(i:Int),false,aV false (x.1.flat 0),x.2,au ns)):=by simp only[M.qQ,M.yH,Bool.not_false,zaM,aI,bH]
   rw[aO hb,zaM,Bool.and_false,bH];exact⟨ns,rfl,rfl⟩
  |false=>
   rw[Bool.not_false,Bool.and_true];cases hc:bC l i==24 with
   |false=>
    have hb:M.qQ f g p p1 false b p4 false (au l,(i:Int),false,aV false (x.1.flat 0),x.2,au ns)=some (.inr (au l,(i:Int),false,aV false (x.1.flat 0),x.2,au ns)):=by simp only[M.qQ,M.yH,Bool.not_false,aI,bH,aW,gu,aj,hc]
    rw[aO hb,bH];exact⟨ns,rfl,rfl⟩
   |true=>
    have hlt:=cO hc (by decide);have e24:bC l i=24:=by rwa [beq_iff_eq] at hc
    rw[aI,nameP];cases h6:bC l (i+1)==6 with
    |false=>
     have hb:M.qQ f g p p1 false b p4 false (au l,(i:Int),false,aV false (x.1.flat 0),x.2,au ns)=some (.inl (au l,((i+1:Nat):Int),true,aV false ((Tn.mk 13 0 [] [] [x.1]).flat 0),false,au ns)):=by simp only[M.qQ,M.yH,Bool.not_false,aI,aW,gu,aj,hc,fB hl e24 (by decide),sF h6,ag5,aAk 13 0 [] x.1 aB,aS]
     rw[bD hb];refine⟨_,ns,_,aB,aB,aB,(RB.tree (Tn.mk 13 0 [] [] [x.1]) (by rw[RH];omega)).mono (by rw[RH];omega),aO rfl⟩
    |true=>
     have hlt':=cO h6 (by decide);have e6:bC l (i+1)=6:=by rwa [beq_iff_eq] at h6
     have hb:M.qQ f g p p1 false b p4 false (au l,(i:Int),false,aV false (x.1.flat 0),x.2,au ns)=some (.inl (au l,((i+1+1:Nat):Int),false,aV false ((Tn.mk 13 0 (zK l (i+1)) [] [x.1]).flat 0),false,au ns)):=by simp only[M.qQ,M.yH,Bool.not_false,aI,aW,gu,aj,hc,fB hl e24 (by decide),fB hl e6 (by decide),ag5,aAk 13 0 (zK l (i+1)) x.1 aB,aS]
     rw[bD hb];exact aFF hl n i0 (.mk 13 0 (zK l (i+1)) [] [x.1],false) (i+1+1) ns aB aB aB (by rw[RH];omega)
section
variable {n m:Nat} (hl:l.length<=3000)
include hl
theorem avX(h:RX l n m)(p:Int)(p1 a b p4:Bool)(i:Nat)(ns:List Tk)(hi:i<=l.length)(hn:ns.length<=i):
  AX l i ((M.bG m 6 false a b false (au l) (i:Int) false (au ns)).bind λr=>(M.oV (M.lT m) (M.bG m) p p1 a b p4 false (r.2.2.2.1,r.2.2.2.2.1,r.2.2.2.2.2.1,ak r.2.1,r.2.2.1,r.2.2.2.2.2.2)).bind λt=>bif ah t.2.2.2.2.2 then some (false,t.2.2.2.1,t.2.2.2.2.1,t.1,t.2.1,t.2.2.1,t.2.2.2.2.2) else none)
   ((ex l n 6 a b i (txt ns)).bind λx i nt=>inP l n a x i nt):=by
 refine AX.elim (Q:=AX l i) (h.a6 a b i ns hi hn) (λ_=>trivial) (λfl rows hd j ns R g1 g2 g3 g4 g5=> ?_) (λx fl rows j ns h1 he=> ?_)
 ·rw[show M.oV _ _ _ _ _ _ _ _ _=_ from aO rfl];simp only[aj,aW,aI];exact AX.fC g1 g2 g3 (fzN g4) g5
 ·have hs:=gY (EK aB aB hi) he;simp only[zaO] at hs;simp only[h1];exact(aFF hl n i x j ns aB aB aB aB).fin
theorem aMM(H:∀n',n'<=n->∀m',4 * n'+20<=m'->RX l n' m')(hm:4 * n+22<=m)(p:Int)(p1 a b p4:Bool)(i:Nat)(ns:List Tk)(hi:i<=l.length)(hn:ns.length<=i):AX l i (M.MO (m+1) p p1 a b p4 (au l) (i:Int) false (au ns)) (ex l (n+1) 5 a b i (txt ns)):=by
 have h:=H n (zaN _) m aB;have hbare:=avX hl h p p1 a b p4 i ns hi hn;rw[M.amr];simp only[M.I8,M.bF,M.fG,aW,aI,ex,aj];cases a with
 |true=>simp only[zaM,bH,Bool.and_false,Bool.false_and];exact hbare
 |false=>
  simp only[Bool.not_false,aI,Bool.and_true,aCG hl i ns hi,aj,aW];cases hc:(bC l i==32 && ahead (l.drop i) 0) with
  |false=>simp only[bH];exact hbare
  |true=>
   have hc':=hc;rw[Jw] at hc';have hlt:=cO hc'.1 (by decide);have e32:bC l i=32:=by have:=hc'.1;rwa [beq_iff_eq] at this
   have hne:=apP e32 hc'.2;simp only[aI,fB hl e32 (by decide),aj,aW];obtain⟨m1,rfl⟩:∃m1,m=m1+1:=⟨m - 1,aB⟩
   cases n with
   |zero=>rw[PV];trivial
   |succ n1=>
    have hll:PV l (n1+1) 33 (i+1) (txt ns)=ag4 l n1 33 (i+1) (txt ns):=by rw[PV,hne];rfl
    rw[hll];have hli:=arW hl (e:=33) (by decide) (n:=n1) (m:=m1) (i:=i+1) (ns:=ns) (λn' hn' i ns hi hn=>(H n' aB m1 aB).a1 false false i ns hi hn) aB aB;refine AY.elim (Q:=AX l i) hli (λ_=>trivial) (λfl j ns' P g1 g2 g3 g4 g5 g6=> ?_) (λL fl j ns' he=> ?_)
    ·obtain⟨R',e1,e2⟩:=adI 13 0 [] [] [] (b:=3 * (j - (i+1))) g4 aB aB g6;simp only[aW,aI,jO,aj,zu,e1,aS];rw[show M.oV _ _ _ _ _ _ _ _ _=_ from aO rfl];simp only[aj,aW,aI];exact AX.fC aB g2 g3 (aS _ _) (e2.mono aB)
    ·have hs:i+1<j/\j<=l.length/\ns'.length+(i+1)<=ns.length+j/\sizes L+2 * (i+1)+1<=2 * j:=by rw[<-hll] at he;have:=gY ((sats l (n1+1)).lst 33 (i+1) (txt ns) (by decide) aB) he;simpa only[zaO] using this
     simp only[aW,aI];rw[iV];cases h24:bC l j==24 with
     |false=>obtain⟨R',e1,e2⟩:=adI 13 0 [] [] [] (P:=L.map λt=>t.flat 0) (b:=sizes L) (by rw[lW];omega) aB (by rw[zaO];have:=zV L;omega) (by have:=KB.trees (P:=[]) L aB KB.nil;rwa [List.append_nil] at this);rw[<-uI] at e1;simp only[sF h24,aj,aW,aI,jO,JL,e1,aS];rw[show M.oV _ _ _ _ _ _ _ _ _=_ from aO rfl];simp only[aj,aW,aI];exact AX.fC aB aB aB (aS _ _) (e2.mono aB)
     |true=>
      have aT7:=cO h24 (by decide);have e24:bC l j=24:=by rwa [beq_iff_eq] at h24
      simp only[fB hl e24 (by decide),aj,aW,aI,PR.bind];rw[nameP];cases h6:bC l (j+1)==6 with
      |false=>obtain⟨R',e1,e2⟩:=adI 13 0 [] [] [] (P:=L.map λt=>t.flat 0) (b:=sizes L) (by rw[lW];omega) aB (by rw[zaO];have:=zV L;omega) (by have:=KB.trees (P:=[]) L aB KB.nil;rwa [List.append_nil] at this);rw[<-uI] at e1;simp only[sF h6,aj,JL,e1,aS,bH];rw[show M.oV _ _ _ _ _ _ _ _ _=_ from aO rfl];simp only[aj,aW,aI];exact AX.fC aB aB aB (aS _ _) (e2.mono aB)
      |true=>
       have aTM:=cO h6 (by decide);have e6:bC l (j+1)=6:=by rwa [beq_iff_eq] at h6
       simp only[fB hl e6 (by decide),aj,JL,Dc 13 0 (zK l (j+1)) [] [] L aB,aS,aI];exact(aFF hl (n1+1) i (.mk 13 0 (zK l (j+1)) [] L,false) (j+1+1) ns' aB aB aB (by rw[PW];omega)).fin
omit hl in
theorem lv6(k:Int):(k==67||k==46)=(EH k==((6:Nat):Int)):=by
 cases h4:k==44 with
 |true=>have e:k=44:=(by rwa [beq_iff_eq] at h4);rw[e];rfl
 |false=>
 cases h5:k==45 with
 |true=>have e:k=45:=(by rwa [beq_iff_eq] at h5);rw[e];rfl
 |false=>
 cases h6:(k==67||k==46) with
 |true=>rw[EH,h4,h5,h6];rfl
 |false=>rw[EH,h4,h5,h6,bH,bH,bH];cases(k==63||(k==48||(k==47||(k==50||(k==62||k==49)))))<;>cases k==99<;>cases(k==55||k==56)<;>cases(k==57||(k==58||k==59))<;>cases k==60<;>rfl
omit hl in
theorem ag6(lv:Int)(p:Int)(p1 a b p4:Bool)(i:Nat)(ns:List Tk):M.kK lv p p1 a b p4 (au l) (i:Int) true (au ns)=some (false,au l,(i:Int),true,au ns):=by simp only[M.kK,M.MJ,aW,aI,gu,aj,zaM,bH]
omit hl in
theorem AZ.fin{i:Nat}{o:Option T7}{p:PR Xp}(h:AZ l i o p):AX l i (o.bind λt=>bif ah t.2.2.2.2.2.2 then some (false,t.2.2.2.2.1,t.2.2.2.2.2.1,t.2.1,t.2.2.1,t.2.2.2.1,t.2.2.2.2.2.2) else none) p:=by
 cases p with
 |ok x j nt=>obtain⟨cnt,ns,rfl,rfl⟩:=h;simp only[aj,aW,aI];exact AX.mk (aS _ _) rfl
 |bad j=>obtain⟨cnt,hd,ns,R,g1,g2,g3,g4,rfl⟩:=h;simp only[aj,aW,aI];exact AX.fC g1 g2 g3 (aS _ _) g4
 |out=>trivial
theorem aFG(H:∀n',n'<=n->∀m',4 * n'+20<=m'->RX l n' m')(hm:4 * n+22<=m)(p:Int)(p1 a b p4:Bool)(i:Nat)(ns:List Tk)(hi:i<=l.length)(hn:ns.length<=i):AX l i (M.nG (m+1) p p1 a b p4 3 3000 (au l) (i:Int) false (au ns)) (ex l (n+1) 3 a b i (txt ns)):=by
 have h:=H n (zaN _) m aB;have e1:M.rQ 3=some 44:=rfl;have e2:M.o7 44=some (3,4):=rfl;have e3:i64.wrap ((3:Int)+1)=4:=rfl;have e4:decide ((3000:Int)>1)=true:=rfl;rw[M.yI];simp only[M.lK,M.bF,M.fG,e1,e2,e3,e4,aj,aW,aI,ex];have hlt:∀cnt:Nat,cnt<3000->decide ((cnt:Int)<3000)=true:=λcnt h=>by rw[zdt];omega
 refine AX.elim (Q:=AX l i) (h.a4 a b i ns hi hn) (λ_=>trivial) (λfl rows hd j ns R g1 g2 g3 g4 g5=> ?_) (λx fl rows j ns h1 he=> ?_)
 ·have hb:M.aU (M.bG m) 3 3000 4 p p1 a b p4 false (0,au l,(j:Int),true,ak rows,hd,au ns)=some (.inr (0,au l,(j:Int),true,ak rows,hd,au ns)):=by have e0:decide ((0:Int)<3000)=true:=rfl;simp only[M.aU,M.bV,e0,aI,aW,ag6,aj,bH]
  rw[M.je,aO hb];simp only[aj,aW,aI];exact AX.fC g1 g2 g3 (fzN g4) g5
 ·have hs:=gY (EK aB aB hi) he;simp only[zaO] at hs;simp only[h1];refine AZ.fin (ZG hl (lv:=3) (a:=a) (b:=b) (f:=λc c1 c2 c3=>M.bG m 4 false a b false c c1 c2 c3) aB aB ?_ ?_ ?_ n (λn' hn' i ns hi hn=>(H n' hn' m aB).a4 a b i ns hi hn) i 0 x j ns aB aB aB aB aB)
  ·intro cnt i rows hd ns hc;simp only[M.aU,M.bV,hlt cnt hc,aI,aW,ag6,aj,bH]
  ·intro cnt i rows hd ns hc hop;rw[<-RJ rfl] at hop;have his:=ag3 (l:=l) 3 p p1 a b p4 i ns aB aB;rw[hop] at his;have Qe:M.kK 3 p p1 a b p4 (au l) (i:Int) false (au ns)=some (false,au l,(i:Int),false,au ns):=his;simp only[M.aU,M.bV,hlt cnt hc,aI,aW,Qe,aj,bH]
  ·intro cnt i rows hd ns hc hop ag7 hni;have hk0:=Jt aB hop;rw[<-RJ rfl] at hop;have his:=ag3 (l:=l) 3 p p1 a b p4 i ns aB aB;rw[hop] at his;have Qe:M.kK 3 p p1 a b p4 (au l) (i:Int) false (au ns)=some (true,au l,(i:Int),false,au ns):=his;have w1:i64.wrap ((cnt:Int)+1)=((cnt+1:Nat):Int):=by rw[bT aB aB];omega
   obtain⟨Qs,t1,hln⟩:=Hf hl (i+1) ns aB aB;refine⟨Qs,t1, ?_⟩;simp only[M.aU,M.bV,hlt cnt hc,aI,aW,Qe,aj,bne,show((3:Int)==8)=false from rfl,show((3:Int)==3)=true from rfl,show((3:Int)==4)=false from rfl,Bool.not_false,bH,gu,amW hl ag7,hln,M.bF,M.fG,w1];rfl
theorem aFH(H:∀n',n'<=n->∀m',4 * n'+20<=m'->RX l n' m')(hm:4 * n+22<=m)(p:Int)(p1 a b p4:Bool)(i:Nat)(ns:List Tk)(hi:i<=l.length)(hn:ns.length<=i):AX l i (M.nG (m+1) p p1 a b p4 4 3000 (au l) (i:Int) false (au ns)) (ex l (n+1) 4 a b i (txt ns)):=by
 have h:=H n (zaN _) m aB;have e1:M.rQ 4=some 45:=rfl;have e2:M.o7 45=some (4,5):=rfl;have e3:i64.wrap ((4:Int)+1)=5:=rfl;have e4:decide ((3000:Int)>1)=true:=rfl;rw[M.yI];simp only[M.lK,M.bF,M.fG,e1,e2,e3,e4,aj,aW,aI,ex];have hlt:∀cnt:Nat,cnt<3000->decide ((cnt:Int)<3000)=true:=λcnt h=>by rw[zdt];omega
 refine AX.elim (Q:=AX l i) (h.a5 a b i ns hi hn) (λ_=>trivial) (λfl rows hd j ns R g1 g2 g3 g4 g5=> ?_) (λx fl rows j ns h1 he=> ?_)
 ·have hb:M.aU (M.bG m) 4 3000 5 p p1 a b p4 false (0,au l,(j:Int),true,ak rows,hd,au ns)=some (.inr (0,au l,(j:Int),true,ak rows,hd,au ns)):=by have e0:decide ((0:Int)<3000)=true:=rfl;simp only[M.aU,M.bV,e0,aI,aW,ag6,aj,bH]
  rw[M.je,aO hb];simp only[aj,aW,aI];exact AX.fC g1 g2 g3 (fzN g4) g5
 ·have hs:=gY (EK aB aB hi) he;simp only[zaO] at hs;simp only[h1];refine AZ.fin (ZG hl (lv:=4) (a:=a) (b:=b) (f:=λc c1 c2 c3=>M.bG m 5 false a b false c c1 c2 c3) aB aB ?_ ?_ ?_ n (λn' hn' i ns hi hn=>(H n' hn' m aB).a5 a b i ns hi hn) i 0 x j ns aB aB aB aB aB)
  ·intro cnt i rows hd ns hc;simp only[M.aU,M.bV,hlt cnt hc,aI,aW,ag6,aj,bH]
  ·intro cnt i rows hd ns hc hop;rw[<-RJ rfl] at hop;have his:=ag3 (l:=l) 4 p p1 a b p4 i ns aB aB;rw[hop] at his;have Qe:M.kK 4 p p1 a b p4 (au l) (i:Int) false (au ns)=some (false,au l,(i:Int),false,au ns):=his;simp only[M.aU,M.bV,hlt cnt hc,aI,aW,Qe,aj,bH]
  ·intro cnt i rows hd ns hc hop ag7 hni;have hk0:=Jt aB hop;rw[<-RJ rfl] at hop;have his:=ag3 (l:=l) 4 p p1 a b p4 i ns aB aB;rw[hop] at his;have Qe:M.kK 4 p p1 a b p4 (au l) (i:Int) false (au ns)=some (true,au l,(i:Int),false,au ns):=his;have w1:i64.wrap ((cnt:Int)+1)=((cnt+1:Nat):Int):=by rw[bT aB aB];omega
   obtain⟨Qs,t1,hln⟩:=Hf hl (i+1) ns aB aB;refine⟨Qs,t1, ?_⟩;simp only[M.aU,M.bV,hlt cnt hc,aI,aW,Qe,aj,bne,show((4:Int)==8)=false from rfl,show((4:Int)==3)=false from rfl,show((4:Int)==4)=true from rfl,Bool.not_false,bH,gu,amW hl ag7,hln,M.bF,M.fG,w1];rfl
theorem aFI(H:∀n',n'<=n->∀m',4 * n'+20<=m'->RX l n' m')(hm:4 * n+22<=m)(p:Int)(p1 a b p4:Bool)(i:Nat)(ns:List Tk)(hi:i<=l.length)(hn:ns.length<=i):AX l i (M.nG (m+1) p p1 a b p4 8 3000 (au l) (i:Int) false (au ns)) (ex l (n+1) 8 a b i (txt ns)):=by
 have h:=H n (zaN _) m aB;have e1:M.rQ 8=some 99:=rfl;have e2:M.o7 99=some (8,9):=rfl;have e3:i64.wrap ((8:Int)+1)=9:=rfl;have e4:decide ((3000:Int)>1)=true:=rfl;rw[M.yI];simp only[M.lK,M.bF,M.fG,e1,e2,e3,e4,aj,aW,aI,ex];have hlt:∀cnt:Nat,cnt<3000->decide ((cnt:Int)<3000)=true:=λcnt h=>by rw[zdt];omega
 refine AX.elim (Q:=AX l i) (h.a9 a b i ns hi hn) (λ_=>trivial) (λfl rows hd j ns R g1 g2 g3 g4 g5=> ?_) (λx fl rows j ns h1 he=> ?_)
 ·have hb:M.aU (M.bG m) 8 3000 9 p p1 a b p4 false (0,au l,(j:Int),true,ak rows,hd,au ns)=some (.inr (0,au l,(j:Int),true,ak rows,hd,au ns)):=by have e0:decide ((0:Int)<3000)=true:=rfl;simp only[M.aU,M.bV,e0,aI,aW,ag6,aj,bH]
  rw[M.je,aO hb];simp only[aj,aW,aI];exact AX.fC g1 g2 g3 (fzN g4) g5
 ·have hs:=gY (EK aB aB hi) he;simp only[zaO] at hs;simp only[h1];refine AZ.fin (ZG hl (lv:=8) (a:=a) (b:=b) (f:=λc c1 c2 c3=>M.bG m 9 false a b false c c1 c2 c3) aB aB ?_ ?_ ?_ n (λn' hn' i ns hi hn=>(H n' hn' m aB).a9 a b i ns hi hn) i 0 x j ns aB aB aB aB aB)
  ·intro cnt i rows hd ns hc;simp only[M.aU,M.bV,hlt cnt hc,aI,aW,ag6,aj,bH]
  ·intro cnt i rows hd ns hc hop;rw[<-RJ rfl] at hop;have his:=ag3 (l:=l) 8 p p1 a b p4 i ns aB aB;rw[hop] at his;have Qe:M.kK 8 p p1 a b p4 (au l) (i:Int) false (au ns)=some (false,au l,(i:Int),false,au ns):=his;simp only[M.aU,M.bV,hlt cnt hc,aI,aW,Qe,aj,bH]
  ·intro cnt i rows hd ns hc hop ag7 hni;have hk0:=Jt aB hop;rw[<-RJ rfl] at hop;have his:=ag3 (l:=l) 8 p p1 a b p4 i ns aB aB;rw[hop] at his;have Qe:M.kK 8 p p1 a b p4 (au l) (i:Int) false (au ns)=some (true,au l,(i:Int),false,au ns):=his;have w1:i64.wrap ((cnt:Int)+1)=((cnt+1:Nat):Int):=by rw[bT aB aB];omega
   refine⟨ns,rfl, ?_⟩;simp only[M.aU,M.bV,hlt cnt hc,aI,aW,Qe,aj,bne,show((8:Int)==8)=true from rfl,show((8:Int)==3)=false from rfl,show((8:Int)==4)=false from rfl,zaM,bH,gu,M.bF,M.fG,w1];rfl
theorem aFJ(H:∀n',n'<=n->∀m',4 * n'+20<=m'->RX l n' m')(hm:4 * n+22<=m)(p:Int)(p1 a b p4:Bool)(i:Nat)(ns:List Tk)(hi:i<=l.length)(hn:ns.length<=i):AX l i (M.nG (m+1) p p1 a b p4 9 3000 (au l) (i:Int) false (au ns)) (ex l (n+1) 9 a b i (txt ns)):=by
 have h:=H n (zaN _) m aB;have e1:M.rQ 9=some 55:=rfl;have e2:M.o7 55=some (9,10):=rfl;have e3:i64.wrap ((9:Int)+1)=10:=rfl;have e4:decide ((3000:Int)>1)=true:=rfl;rw[M.yI];simp only[M.lK,M.bF,M.fG,e1,e2,e3,e4,aj,aW,aI,ex];have hlt:∀cnt:Nat,cnt<3000->decide ((cnt:Int)<3000)=true:=λcnt h=>by rw[zdt];omega
 refine AX.elim (Q:=AX l i) (h.a10 a b i ns hi hn) (λ_=>trivial) (λfl rows hd j ns R g1 g2 g3 g4 g5=> ?_) (λx fl rows j ns h1 he=> ?_)
 ·have hb:M.aU (M.bG m) 9 3000 10 p p1 a b p4 false (0,au l,(j:Int),true,ak rows,hd,au ns)=some (.inr (0,au l,(j:Int),true,ak rows,hd,au ns)):=by have e0:decide ((0:Int)<3000)=true:=rfl;simp only[M.aU,M.bV,e0,aI,aW,ag6,aj,bH]
  rw[M.je,aO hb];simp only[aj,aW,aI];exact AX.fC g1 g2 g3 (fzN g4) g5
 ·have hs:=gY (EK aB aB hi) he;simp only[zaO] at hs;simp only[h1];refine AZ.fin (ZG hl (lv:=9) (a:=a) (b:=b) (f:=λc c1 c2 c3=>M.bG m 10 false a b false c c1 c2 c3) aB aB ?_ ?_ ?_ n (λn' hn' i ns hi hn=>(H n' hn' m aB).a10 a b i ns hi hn) i 0 x j ns aB aB aB aB aB)
  ·intro cnt i rows hd ns hc;simp only[M.aU,M.bV,hlt cnt hc,aI,aW,ag6,aj,bH]
  ·intro cnt i rows hd ns hc hop;rw[<-RJ rfl] at hop;have his:=ag3 (l:=l) 9 p p1 a b p4 i ns aB aB;rw[hop] at his;have Qe:M.kK 9 p p1 a b p4 (au l) (i:Int) false (au ns)=some (false,au l,(i:Int),false,au ns):=his;simp only[M.aU,M.bV,hlt cnt hc,aI,aW,Qe,aj,bH]
  ·intro cnt i rows hd ns hc hop ag7 hni;have hk0:=Jt aB hop;rw[<-RJ rfl] at hop;have his:=ag3 (l:=l) 9 p p1 a b p4 i ns aB aB;rw[hop] at his;have Qe:M.kK 9 p p1 a b p4 (au l) (i:Int) false (au ns)=some (true,au l,(i:Int),false,au ns):=his;have w1:i64.wrap ((cnt:Int)+1)=((cnt+1:Nat):Int):=by rw[bT aB aB];omega
   refine⟨ns,rfl, ?_⟩;simp only[M.aU,M.bV,hlt cnt hc,aI,aW,Qe,aj,bne,show((9:Int)==8)=false from rfl,show((9:Int)==3)=false from rfl,show((9:Int)==4)=false from rfl,Bool.not_false,bH,gu,amW hl ag7,M.bF,M.fG,w1];rfl
theorem aCH(H:∀n',n'<=n->∀m',4 * n'+20<=m'->RX l n' m')(hm:4 * n+22<=m)(p:Int)(p1 a b p4:Bool)(i:Nat)(ns:List Tk)(hi:i<=l.length)(hn:ns.length<=i):AX l i (M.nG (m+1) p p1 a b p4 10 3000 (au l) (i:Int) false (au ns)) (ex l (n+1) 10 a b i (txt ns)):=by
 have h:=H n (zaN _) m aB;have e1:M.rQ 10=some 57:=rfl;have e2:M.o7 57=some (10,11):=rfl;have e3:i64.wrap ((10:Int)+1)=11:=rfl;have e4:decide ((3000:Int)>1)=true:=rfl;rw[M.yI];simp only[M.lK,M.bF,M.fG,e1,e2,e3,e4,aj,aW,aI,ex];have hlt:∀cnt:Nat,cnt<3000->decide ((cnt:Int)<3000)=true:=λcnt h=>by rw[zdt];omega
 refine AX.elim (Q:=AX l i) (h.a11 a b i ns hi hn) (λ_=>trivial) (λfl rows hd j ns R g1 g2 g3 g4 g5=> ?_) (λx fl rows j ns h1 he=> ?_)
 ·have hb:M.aU (M.bG m) 10 3000 11 p p1 a b p4 false (0,au l,(j:Int),true,ak rows,hd,au ns)=some (.inr (0,au l,(j:Int),true,ak rows,hd,au ns)):=by have e0:decide ((0:Int)<3000)=true:=rfl;simp only[M.aU,M.bV,e0,aI,aW,ag6,aj,bH]
  rw[M.je,aO hb];simp only[aj,aW,aI];exact AX.fC g1 g2 g3 (fzN g4) g5
 ·have hs:=gY (EK aB aB hi) he;simp only[zaO] at hs;simp only[h1];refine AZ.fin (ZG hl (lv:=10) (a:=a) (b:=b) (f:=λc c1 c2 c3=>M.bG m 11 false a b false c c1 c2 c3) aB aB ?_ ?_ ?_ n (λn' hn' i ns hi hn=>(H n' hn' m aB).a11 a b i ns hi hn) i 0 x j ns aB aB aB aB aB)
  ·intro cnt i rows hd ns hc;simp only[M.aU,M.bV,hlt cnt hc,aI,aW,ag6,aj,bH]
  ·intro cnt i rows hd ns hc hop;rw[<-RJ rfl] at hop;have his:=ag3 (l:=l) 10 p p1 a b p4 i ns aB aB;rw[hop] at his;have Qe:M.kK 10 p p1 a b p4 (au l) (i:Int) false (au ns)=some (false,au l,(i:Int),false,au ns):=his;simp only[M.aU,M.bV,hlt cnt hc,aI,aW,Qe,aj,bH]
  ·intro cnt i rows hd ns hc hop ag7 hni;have hk0:=Jt aB hop;rw[<-RJ rfl] at hop;have his:=ag3 (l:=l) 10 p p1 a b p4 i ns aB aB;rw[hop] at his;have Qe:M.kK 10 p p1 a b p4 (au l) (i:Int) false (au ns)=some (true,au l,(i:Int),false,au ns):=his;have w1:i64.wrap ((cnt:Int)+1)=((cnt+1:Nat):Int):=by rw[bT aB aB];omega
   refine⟨ns,rfl, ?_⟩;simp only[M.aU,M.bV,hlt cnt hc,aI,aW,Qe,aj,bne,show((10:Int)==8)=false from rfl,show((10:Int)==3)=false from rfl,show((10:Int)==4)=false from rfl,Bool.not_false,bH,gu,amW hl ag7,M.bF,M.fG,w1];rfl
theorem aFK(h:RX l n m)(p:Int)(p1 a b p4:Bool)(i:Nat)(ns:List Tk)(hi:i<=l.length)(hn:ns.length<=i):AX l i (M.nG (m+1) p p1 a b p4 6 1 (au l) (i:Int) false (au ns)) (ex l (n+1) 6 a b i (txt ns)):=by
 have e1:M.rQ 6=some 67:=rfl;have e2:M.o7 67=some (7,7):=rfl;have e4:decide ((1:Int)>1)=false:=rfl;have e0:decide ((0:Int)<1)=true:=rfl;have e5:decide ((1:Int)<1)=false:=rfl;have e6:i64.wrap ((0:Int)+1)=1:=rfl;rw[M.yI];simp only[M.lK,M.bF,M.fG,e1,e2,e4,aj,aW,aI,bH,ex];refine AX.elim (Q:=AX l i) (h.a7 a b i ns hi hn) (λ_=>trivial) (λfl rows hd j ns R g1 g2 g3 g4 g5=> ?_) (λx fl rows j ns h1 he=> ?_)
 ·have hb:M.aU (M.bG m) 6 1 7 p p1 a b p4 false (0,au l,(j:Int),true,ak rows,hd,au ns)=some (.inr (0,au l,(j:Int),true,ak rows,hd,au ns)):=by simp only[M.aU,M.bV,e0,aI,aW,ag6,aj,bH]
  rw[M.je,aO hb];simp only[aj,aW,aI];exact AX.fC g1 g2 g3 (fzN g4) g5
 ·have hs:=gY (EK aB aB hi) he;simp only[zaO] at hs;simp only[h1];have his:=ag3 (l:=l) 6 p p1 a b p4 j ns aB aB;have Qe:M.kK 6 p p1 a b p4 (au l) (j:Int) false (au ns)=some (Bg 6 b (bC l j),au l,(j:Int),false,au ns):=his;have hpl:(bC l j==67||bC l j==46)=Bg 6 b (bC l j):=by rw[RJ rfl,show(b && Nat.beq 6 7)=false from Bool.and_false b,aeU rfl];exact lv6 _
  rw[hpl];cases hop:Bg 6 b (bC l j) with
  |false=>
   have hb:M.aU (M.bG m) 6 1 7 p p1 a b p4 false (0,au l,(j:Int),false,aV false (x.1.flat 0),x.2,au ns)=some (.inr (0,au l,(j:Int),false,aV false (x.1.flat 0),x.2,au ns)):=by simp only[M.aU,M.bV,e0,aI,aW,Qe,hop,aj,bH]
   rw[M.je,aO hb];simp only[aj,aW,aI,bH];exact AX.mk (aS _ _) rfl
  |true=>
   have ag7:=dX (Jt (lv:=6) aB hop);have hb:M.aU (M.bG m) 6 1 7 p p1 a b p4 false (0,au l,(j:Int),false,aV false (x.1.flat 0),x.2,au ns)=(M.bG m 7 false a b false (au l) ((j+1:Nat):Int) false (au ns)).bind λr=>(M.dn 12 (bC l j) [] [] [] (ak [[D.sl false 5 (aV false (x.1.flat 0))],[D.sl false 5 (ak r.2.1)]])).bind λr'=>some (.inl (1,r.2.2.2.1,r.2.2.2.2.1,r.2.2.2.2.2.1,ak r'.2.1,r'.2.2,r.2.2.2.2.2.2)):=by simp only[M.aU,M.bV,e0,aI,aW,Qe,hop,aj,bne,show((6:Int)==8)=false from rfl,show((6:Int)==3)=false from rfl,show((6:Int)==4)=false from rfl,Bool.not_false,bH,gu,amW hl ag7,M.bF,M.fG,e6]
   have hr:=h.a7 a b (j+1) ns aB aB;have y5:=EK (l:=l) (n:=n) (lv:=7) (a:=a) (b:=b) (i:=j+1) (ns:=ns) aB aB aB;simp only[aI];rw[M.je];generalize ex l n 7 a b (j+1) (txt ns)=q at hr y5|-;cases q with
   |out=>trivial
   |bad j2=>
    obtain⟨fl',rows',hd',ns',R,g1,g2,g3,g4,g5,h2⟩:=hr;obtain⟨R',e7,e8⟩:=afH 12 (bC l j) [] [] [] (P:=[x.1.flat 0,R]) (b:=x.1.size+3 * (j2 - (j+1))) (by simp only[lens,Tn.flat_length];have:=g5.1;omega) aB (by simp) (KB.tree aB (KB.cons g5.2 KB.nil));simp only[h2,aj,g4,arX,e7,aS] at hb;have hb2:M.aU (M.bG m) 6 1 7 p p1 a b p4 false (1,au l,(j2:Int),true,aV false R',false,au ns')=some (.inr (1,au l,(j2:Int),true,aV false R',false,au ns')):=by simp only[M.aU,M.bV,e5,bH]
    rw[bD hb,aO hb2];simp only[aj,aW,aI];exact AX.fC aB g2 g3 (aS _ _) (e8.mono aB)
   |ok y j2 m2=>
    obtain⟨fl',rows',ns',h3,rfl,h2⟩:=hr;have hs2:FE l (j+1) ns.length y.1.size j2 (txt ns').length:=y5;have ho:=afF 12 (bC l j) [] [] [] [x.1,y.1] (by simp only[sizes];omega);have ho':M.dn 12 (bC l j) [] [] [] (qo [x.1.flat 0,y.1.flat 0])=some (false,aV false ((Tn.mk 12 (bC l j) [] [] [x.1,y.1]).flat 0),false):=ho;simp only[h2,aj,h3,arX,ho',aS] at hb;have hb2:M.aU (M.bG m) 6 1 7 p p1 a b p4 false (1,au l,(j2:Int),false,aV false ((Tn.mk 12 (bC l j) [] [] [x.1,y.1]).flat 0),false,au ns')=some (.inr (1,au l,(j2:Int),false,aV false ((Tn.mk 12 (bC l j) [] [] [x.1,y.1]).flat 0),false,au ns')):=by simp only[M.aU,M.bV,e5,bH]
    rw[bD hb,aO hb2];simp only[aj,aW,aI];exact AX.mk (aS _ _) rfl
theorem aFL(h:RX l n m)(p:Int)(p1 a b p4:Bool)(i:Nat)(ns:List Tk)(hi:i<=l.length)(hn:ns.length<=i):AX l i (M.nG (m+1) p p1 a b p4 7 1 (au l) (i:Int) false (au ns)) (ex l (n+1) 7 a b i (txt ns)):=by
 have e1:M.rQ 7=some 63:=rfl;have e2:M.o7 63=some (8,8):=rfl;have e4:decide ((1:Int)>1)=false:=rfl;have e0:decide ((0:Int)<1)=true:=rfl;have e5:decide ((1:Int)<1)=false:=rfl;have e6:i64.wrap ((0:Int)+1)=1:=rfl;rw[M.yI];simp only[M.lK,M.bF,M.fG,e1,e2,e4,aj,aW,aI,bH,ex];refine AX.elim (Q:=AX l i) (h.a8 a b i ns hi hn) (λ_=>trivial) (λfl rows hd j ns R g1 g2 g3 g4 g5=> ?_) (λx fl rows j ns h1 he=> ?_)
 ·have hb:M.aU (M.bG m) 7 1 8 p p1 a b p4 false (0,au l,(j:Int),true,ak rows,hd,au ns)=some (.inr (0,au l,(j:Int),true,ak rows,hd,au ns)):=by simp only[M.aU,M.bV,e0,aI,aW,ag6,aj,bH]
  rw[M.je,aO hb];simp only[aj,aW,aI];exact AX.fC g1 g2 g3 (fzN g4) g5
 ·have hs:=gY (EK aB aB hi) he;simp only[zaO] at hs;simp only[h1];have his:=ag3 (l:=l) 7 p p1 a b p4 j ns aB aB;have Qe:M.kK 7 p p1 a b p4 (au l) (j:Int) false (au ns)=some (Bg 7 b (bC l j),au l,(j:Int),false,au ns):=his;cases hop:Bg 7 b (bC l j) with
  |false=>
   have hb:M.aU (M.bG m) 7 1 8 p p1 a b p4 false (0,au l,(j:Int),false,aV false (x.1.flat 0),x.2,au ns)=some (.inr (0,au l,(j:Int),false,aV false (x.1.flat 0),x.2,au ns)):=by simp only[M.aU,M.bV,e0,aI,aW,Qe,hop,aj,bH]
   rw[M.je,aO hb];simp only[aj,aW,aI,bH];exact AX.mk (aS _ _) rfl
  |true=>
   have ag7:=dX (Jt (lv:=7) aB hop);have hb:M.aU (M.bG m) 7 1 8 p p1 a b p4 false (0,au l,(j:Int),false,aV false (x.1.flat 0),x.2,au ns)=(M.bG m 8 false a b false (au l) ((j+1:Nat):Int) false (au ns)).bind λr=>(M.dn 12 (bC l j) [] [] [] (ak [[D.sl false 5 (aV false (x.1.flat 0))],[D.sl false 5 (ak r.2.1)]])).bind λr'=>some (.inl (1,r.2.2.2.1,r.2.2.2.2.1,r.2.2.2.2.2.1,ak r'.2.1,r'.2.2,r.2.2.2.2.2.2)):=by simp only[M.aU,M.bV,e0,aI,aW,Qe,hop,aj,bne,show((7:Int)==8)=false from rfl,show((7:Int)==3)=false from rfl,show((7:Int)==4)=false from rfl,Bool.not_false,bH,gu,amW hl ag7,M.bF,M.fG,e6]
   have hr:=h.a8 a b (j+1) ns aB aB;have y5:=EK (l:=l) (n:=n) (lv:=8) (a:=a) (b:=b) (i:=j+1) (ns:=ns) aB aB aB;simp only[aI];rw[M.je];generalize ex l n 8 a b (j+1) (txt ns)=q at hr y5|-;cases q with
   |out=>trivial
   |bad j2=>
    obtain⟨fl',rows',hd',ns',R,g1,g2,g3,g4,g5,h2⟩:=hr;obtain⟨R',e7,e8⟩:=afH 12 (bC l j) [] [] [] (P:=[x.1.flat 0,R]) (b:=x.1.size+3 * (j2 - (j+1))) (by simp only[lens,Tn.flat_length];have:=g5.1;omega) aB (by simp) (KB.tree aB (KB.cons g5.2 KB.nil));simp only[h2,aj,g4,arX,e7,aS] at hb;have hb2:M.aU (M.bG m) 7 1 8 p p1 a b p4 false (1,au l,(j2:Int),true,aV false R',false,au ns')=some (.inr (1,au l,(j2:Int),true,aV false R',false,au ns')):=by simp only[M.aU,M.bV,e5,bH]
    rw[bD hb,aO hb2];simp only[aj,aW,aI];exact AX.fC aB g2 g3 (aS _ _) (e8.mono aB)
   |ok y j2 m2=>
    obtain⟨fl',rows',ns',h3,rfl,h2⟩:=hr;have hs2:FE l (j+1) ns.length y.1.size j2 (txt ns').length:=y5;have ho:=afF 12 (bC l j) [] [] [] [x.1,y.1] (by simp only[sizes];omega);have ho':M.dn 12 (bC l j) [] [] [] (qo [x.1.flat 0,y.1.flat 0])=some (false,aV false ((Tn.mk 12 (bC l j) [] [] [x.1,y.1]).flat 0),false):=ho;simp only[h2,aj,h3,arX,ho',aS] at hb;have hb2:M.aU (M.bG m) 7 1 8 p p1 a b p4 false (1,au l,(j2:Int),false,aV false ((Tn.mk 12 (bC l j) [] [] [x.1,y.1]).flat 0),false,au ns')=some (.inr (1,au l,(j2:Int),false,aV false ((Tn.mk 12 (bC l j) [] [] [x.1,y.1]).flat 0),false,au ns')):=by simp only[M.aU,M.bV,e5,bH]
    rw[bD hb,aO hb2];simp only[aj,aW,aI];exact AX.mk (aS _ _) rfl
end
def rx(hl:l.length<=3000):∀N n,n<=N->∀m,4 * n+20<=m->RX l n m:=by
 intro N;induction N with
 |zero=>intro n hn m hm;obtain rfl:n=0:=aB;exact⟨λ_ _ _ _ _ _=>by rw[ex];trivial,λ_ _ _ _ _ _=>by rw[ex];trivial,λ_ _ _ _ _ _=>by rw[ex];trivial,λ_ _ _ _ _ _=>by rw[ex];trivial,λ_ _ _ _ _ _=>by rw[ex];trivial,λ_ _ _ _ _ _=>by rw[ex];trivial,λ_ _ _ _ _ _=>by rw[ex];trivial,λ_ _ _ _ _ _=>by rw[ex];trivial,λ_ _ _ _ _ _=>by rw[ex];trivial,λ_ _ _ _ _ _=>by rw[ex];trivial,λ_ _ _ _ _ _=>by rw[ex];trivial,λ_ _ _ _ _ _=>by rw[ex];trivial,λ_ _ _ _ _ _=>by rw[ex];trivial,λ_ _ _ _ _ _=>by rw[ex];trivial,λ_ _ _ _ _ _=>by rw[ex];trivial,λ_ _ _ _ _ _ _ _ _=>by rw[ex];trivial,λ_ _ _ _ _ _=>by rw[ex];trivial,λ_ _ _ _ _ _ _ _ _ _=>by rw[Zi];trivial⟩
 |succ N ih=>
  intro n hn m hm;cases n with
  |zero=>exact ih 0 aB m hm
  |succ n=>
   obtain⟨m,rfl⟩:∃m',m=m'+2:=⟨m - 2,aB⟩
   have H:∀n',n'<=n->∀m',4 * n'+20<=m'->RX l n' m':=λn' h=>ih n' aB
   have h:=H n (zaN _) m aB;have h1:=H n (zaN _) (m+1) aB;have hm1:1<=m:=aB;have hm2:4 * n+22<=m:=aB;refine⟨?_, ?_, ?_, ?_, ?_, ?_, ?_, ?_, ?_, ?_, ?_, ?_, ?_, ?_, ?_,λp p1 a b p4 i ns hi hn=>aAf hl h1 p p1 a b p4 i ns hi hn,λa b i ns hi hn=>aAj hl H aB a b i ns hi hn,λp p1 a b p4 i ns hi hn hst=>aFC hl h1 aB p p1 a b p4 i ns hi hn hst⟩
   ·intro a b i ns hi hn;rw[M.lG];simp only[M.ji,bH,aW,aI,show((1:Int)==1)=true from rfl];exact AX.pass (avW hl h 1 false a b false i ns hi hn) (zaN i) (by intros;simp only[aW,aI])
   ·intro a b i ns hi hn;rw[M.lG];simp only[M.ji,bH,aW,aI,show((2:Int)==1)=false from rfl,show((2:Int)==2)=true from rfl];exact AX.pass (aCD hl h hm1 2 false a b false i ns hi hn) (zaN i) (by intros;simp only[aW,aI])
   ·intro a b i ns hi hn;rw[M.lG];simp only[M.ji,bH,aW,aI,show((3:Int)==1)=false from rfl,show((3:Int)==2)=false from rfl,show((3:Int)==5)=false from rfl,show((3:Int)==6)=false from rfl,show((3:Int)==7)=false from rfl,show((3:Int)==3)=true from rfl];exact AX.pass (aFG hl H hm2 3 false a b false i ns hi hn) (zaN i) (by intros;simp only[aW,aI])
   ·intro a b i ns hi hn;rw[M.lG];simp only[M.ji,bH,aW,aI,show((4:Int)==1)=false from rfl,show((4:Int)==2)=false from rfl,show((4:Int)==5)=false from rfl,show((4:Int)==6)=false from rfl,show((4:Int)==7)=false from rfl,show((4:Int)==3)=false from rfl,show((4:Int)==4)=true from rfl];exact AX.pass (aFH hl H hm2 4 false a b false i ns hi hn) (zaN i) (by intros;simp only[aW,aI])
   ·intro a b i ns hi hn;rw[M.lG];simp only[M.ji,bH,aW,aI,show((5:Int)==1)=false from rfl,show((5:Int)==2)=false from rfl,show((5:Int)==5)=true from rfl];exact AX.pass (aMM hl H hm2 5 false a b false i ns hi hn) (zaN i) (by intros;simp only[aW,aI])
   ·intro a b i ns hi hn;rw[M.lG];simp only[M.ji,bH,aW,aI,show((6:Int)==1)=false from rfl,show((6:Int)==2)=false from rfl,show((6:Int)==5)=false from rfl,show((6:Int)==6)=true from rfl];exact AX.pass (aFK hl h 6 false a b false i ns hi hn) (zaN i) (by intros;simp only[aW,aI])
   ·intro a b i ns hi hn;rw[M.lG];simp only[M.ji,bH,aW,aI,show((7:Int)==1)=false from rfl,show((7:Int)==2)=false from rfl,show((7:Int)==5)=false from rfl,show((7:Int)==6)=false from rfl,show((7:Int)==7)=true from rfl];exact AX.pass (aFL hl h 7 false a b false i ns hi hn) (zaN i) (by intros;simp only[aW,aI])
   ·intro a b i ns hi hn;rw[M.lG];simp only[M.ji,bH,aW,aI,show((8:Int)==1)=false from rfl,show((8:Int)==2)=false from rfl,show((8:Int)==5)=false from rfl,show((8:Int)==6)=false from rfl,show((8:Int)==7)=false from rfl,show((8:Int)==3)=false from rfl,show((8:Int)==4)=false from rfl,show((8:Int)==8)=true from rfl];exact AX.pass (aFI hl H hm2 8 false a b false i ns hi hn) (zaN i) (by intros;simp only[aW,aI])
   ·intro a b i ns hi hn;rw[M.lG];simp only[M.ji,bH,aW,aI,show((9:Int)==1)=false from rfl,show((9:Int)==2)=false from rfl,show((9:Int)==5)=false from rfl,show((9:Int)==6)=false from rfl,show((9:Int)==7)=false from rfl,show((9:Int)==3)=false from rfl,show((9:Int)==4)=false from rfl,show((9:Int)==8)=false from rfl,show((9:Int)==9)=true from rfl];exact AX.pass (aFJ hl H hm2 9 false a b false i ns hi hn) (zaN i) (by intros;simp only[aW,aI])
   ·intro a b i ns hi hn;rw[M.lG];simp only[M.ji,bH,aW,aI,show((10:Int)==1)=false from rfl,show((10:Int)==2)=false from rfl,show((10:Int)==5)=false from rfl,show((10:Int)==6)=false from rfl,show((10:Int)==7)=false from rfl,show((10:Int)==3)=false from rfl,show((10:Int)==4)=false from rfl,show((10:Int)==8)=false from rfl,show((10:Int)==9)=false from rfl,show((10:Int)==10)=true from rfl];exact AX.pass (aCH hl H hm2 10 false a b false i ns hi hn) (zaN i) (by intros;simp only[aW,aI])
   ·intro a b i ns hi hn;rw[M.lG];simp only[M.ji,bH,aW,aI,show((11:Int)==1)=false from rfl,show((11:Int)==2)=false from rfl,show((11:Int)==5)=false from rfl,show((11:Int)==6)=false from rfl,show((11:Int)==7)=false from rfl,show((11:Int)==3)=false from rfl,show((11:Int)==4)=false from rfl,show((11:Int)==8)=false from rfl,show((11:Int)==9)=false from rfl,show((11:Int)==10)=false from rfl,show((11:Int)==11)=true from rfl];exact AX.pass (aAg hl h 11 false a b false i ns hi hn) (zaN i) (by intros;simp only[aW,aI])
   ·intro a b i ns hi hn;rw[M.lG];simp only[M.ji,bH,aW,aI,show((12:Int)==1)=false from rfl,show((12:Int)==2)=false from rfl,show((12:Int)==5)=false from rfl,show((12:Int)==6)=false from rfl,show((12:Int)==7)=false from rfl,show((12:Int)==3)=false from rfl,show((12:Int)==4)=false from rfl,show((12:Int)==8)=false from rfl,show((12:Int)==9)=false from rfl,show((12:Int)==10)=false from rfl,show((12:Int)==11)=false from rfl,show((12:Int)==12)=true from rfl];exact AX.pass (aAf hl h 12 false a b false i ns hi hn) (zaN i) (by intros;simp only[aW,aI])
   ·intro a b i ns hi hn;rw[M.lG];simp only[M.ji,bH,aW,aI,show((13:Int)==1)=false from rfl,show((13:Int)==2)=false from rfl,show((13:Int)==5)=false from rfl,show((13:Int)==6)=false from rfl,show((13:Int)==7)=false from rfl,show((13:Int)==3)=false from rfl,show((13:Int)==4)=false from rfl,show((13:Int)==8)=false from rfl,show((13:Int)==9)=false from rfl,show((13:Int)==10)=false from rfl,show((13:Int)==11)=false from rfl,show((13:Int)==12)=false from rfl,show((13:Int)==13)=true from rfl];exact AX.pass (aCE hl h 13 false a b false i ns hi hn) (zaN i) (by intros;simp only[aW,aI])
   ·intro a b i ns hi hn;rw[M.lG];simp only[M.ji,bH,aW,aI,show((14:Int)==1)=false from rfl,show((14:Int)==2)=false from rfl,show((14:Int)==5)=false from rfl,show((14:Int)==6)=false from rfl,show((14:Int)==7)=false from rfl,show((14:Int)==3)=false from rfl,show((14:Int)==4)=false from rfl,show((14:Int)==8)=false from rfl,show((14:Int)==9)=false from rfl,show((14:Int)==10)=false from rfl,show((14:Int)==11)=false from rfl,show((14:Int)==12)=false from rfl,show((14:Int)==13)=false from rfl,show((14:Int)==14)=true from rfl];exact AX.pass (aAh hl h 14 false a b false i ns hi hn) (zaN i) (by intros;simp only[aW,aI])
   ·intro a b i ns hi hn;rw[M.lG];simp only[M.ji,bH,aW,aI,show((15:Int)==1)=false from rfl,show((15:Int)==2)=false from rfl,show((15:Int)==5)=false from rfl,show((15:Int)==6)=false from rfl,show((15:Int)==7)=false from rfl,show((15:Int)==3)=false from rfl,show((15:Int)==4)=false from rfl,show((15:Int)==8)=false from rfl,show((15:Int)==9)=false from rfl,show((15:Int)==10)=false from rfl,show((15:Int)==11)=false from rfl,show((15:Int)==12)=false from rfl,show((15:Int)==13)=false from rfl,show((15:Int)==14)=false from rfl];exact AX.pass (aAj hl H hm2 a b i ns hi hn) (zaN i) (by intros;simp only[aW,aI])
def RX.of(hl:l.length<=3000)(n:Nat){m:Nat}(hm:4 * n+20<=m):RX l n m:=rx hl n n (zaN _) m hm
variable {l:List Tk}
structure RS(l:List Tk)(n m:Nat):Prop where
 st:∀i nt,i<=l.length->nt.length<=i->AT l (M.jy m (au l) (i:Int) false (encS nt)) (stP l n i nt)
 blk:∀i nt,i<=l.length->nt.length<=i->AT l (M.lI m (au l) (i:Int) false (encS nt)) (JI l n i nt)
 body:∀i nt,i<=l.length->nt.length<=i->AT l (M.jS m (au l) (i:Int) false (encS nt)) (Bh l n i nt)
def OD:∀a b:aA,ak (a++b)=ak a++ak b
 |[],b=>rfl
 |r::a,b=>by rw[zca,ak,ak,OD a b];rfl
def aeW:∀(r:List Tk) (i:Nat) (nt:iw),∃u,(Z5 r i nt).2=nt++u
 |[],i,nt=>⟨[],by rw[Z5,List.append_nil]⟩
 |t::r,i,nt=>by
  rw[Z5];cases(t.kind==1||t.kind==37)<;>cases t.kind==2<;>simp only[aI,bH]
  ·exact⟨[],(List.append_nil _).symm⟩
  ·obtain⟨u,h⟩:=aeW r (i+1) (nt++[t.text]);exact⟨[t.text]++u,by rw[h,KW]⟩
  ·exact aeW r (i+1) nt
  ·exact aeW r (i+1) nt
def RN(m:Nat){i:Nat}{nt:iw}(hn:nt.length<=l.length):AT l (M.jS (m+1) (au l) (i:Int) true (encS nt)) (.bad i):=by rw[M.RF];simp only[Em,M.rM,dR,aI,FT,aj];exact AT.fC hn
def aCI(hl:l.length<=1048576)(m:Nat){i:Nat}{nt:iw}(hn:nt.length<=l.length):AT l (M.lI (m+1) (au l) (i:Int) true (encS nt)) (.bad i):=by rw[M.Qq];simp only[M.qh,dR,aI,sG,aj,ajr];rw[show M.oN _ _=_ from aO rfl];simp only[aj,iD,dR,aI,sG,Bo (l:=l) _ _ nt aB,iT,dI,Bl];rw[bK aB,aI,bK aB,aI];exact AT.fC (Nat.zero_le _)
section
variable {n m:Nat} (hl:l.length<=1048576) (H:∀n',n'<=n->∀m',3 * n'+10<=m'->RS l n' m') (hm:3 * (n+1)+10<=m+1)
include hl H hm
theorem aCJ(i:Nat)(nt:iw)(hi:i<=l.length)(hn:nt.length<=i):AT l (M.jS (m+1) (au l) (i:Int) false (encS nt)) (Bh l (n+1) i nt):=by
 have h:=H n (zaN _) m aB;have hf:=Bj (l:=l) (nt:=nt) hi;rw[M.RF];simp only[Em,M.rM,dR,aI,OB hl i nt hi hn,aj,bH,eU,Bh];generalize nl l i nt=q at hf|-;cases h30:bC l q.1==30 with
 |true=>simp only[aI];exact AT.pass (h.blk q.1 q.2 aB aB) (by intros;simp only[dR,aI])
 |false=>
  simp only[bH,Bo (l:=l) _ _ q.2 aB,aj,cOw,dR,aI,eU];cases h37:bC l q.1==37 with
  |true=>have hlt:=cO h37 (by decide);simp only[aI,mM hl hlt];exact AT.mk rfl rfl rfl rfl (iT _ _)
  |false=>
   simp only[bH];refine AT.elim (R:=AT l) (h.st q.1 [] aB (Nat.zero_le _)) (λ_=>trivial) (λk op x y fl ks j nt hn=> ?_) (λx fl ks j nt hk he=> ?_)
   ·simp only[dI,Bl,y7,dR,aI];rw[bK aB,aI,bK aB,aI];exact AT.fC hn
   ·simp only[dI,Bl,y7,dR,aI];rw[bK aB,aI,bK aB,aI];exact AT.mk rfl rfl rfl rfl (by rw[OD,iT,fz1 (J8 hk)];exact(zq _ _ _).symm)
def ifP(l:List Tk)(n i:Nat)(nt:iw):PR Tn:=(SN l n i nt).bind λx i nt=>(Bh l n i nt).bind λy i nt=>bif bC l (sep l i nt).1==14 then(Bh l n ((sep l i nt).1+1) (sep l i nt).2).bind λz i nt=> .ok (.mk 28 0 [] [] [x,y,z]) i nt else .ok (.mk 28 0 [] [] [x,y]) i nt
theorem avY(i:Nat)(nt:iw)(hi:i<=l.length)(hn:nt.length<=i):AT l (M.xX m (au l) (i:Int) false (encS nt)) (ifP l n i nt):=by
 obtain⟨m2,rfl⟩:∃m2,m=m2+1+1:=⟨m - 2,aB⟩
 have h:=H n (zaN _) (m2+1) aB;rw[M.Za,ifP];simp only[M.sD,dR,aI];have hbad:∀{k op:Int} {x y:aP} {fl:Bool} {ks:aA} {k' op':Int} {x' y':aP} {ks':aA} {j:Nat} {nt:iw},nt.length<=l.length->
   AT l (some (28,0,[],[],true,[[D.int .i64 k,D.int .i64 op,D.str x,D.str y,D.sl false 5 ks],[D.int .i64 k',D.int .i64 op',D.str x',D.str y',D.sl false 5 ks']],au l,(j:Int),true,encS nt)) (.bad j):=λhn=>AT.fC hn
 refine AT.elim (R:=AT l) (arV hl n hi hn) (λ_=>trivial) (λk op x y fl ks j nt hn=> ?_) (λx fl ks j nt hk he=> ?_)
 ·simp only[dR,aI];refine AT.BA (R:=λo=>AT l o (.bad j)) (RN m2 hn) λk op x y fl ks nt hn=> ?_
  simp only[dR,aI,ajr,aj,zaM,bH];exact AT.fC hn
 ·have hs:=gY (O8 hi) he;simp only[dR,aI];refine AT.elim (R:=AT l) (h.body j nt aB aB) (λ_=>trivial) (λk op x y fl ks j nt hn=> ?_) (λy fl' kt j2 nt2 hk' he'=> ?_)
  ·simp only[dR,aI,ajr,aj,zaM,bH];exact AT.fC hn
  ·have hs':=gY ((N9 l n).body j nt aB) he';have hf:=Oz (l:=l) (i:=j2) (nt:=nt2) aB;obtain⟨u,hu⟩:=aeW (l.drop j2) j2 nt2;have hu':(sep l j2 nt2).2=nt2++u:=hu;simp only[dR,aI,alK hl j2 nt2 aB aB,aj,bH,eU,bne];cases h14:bC l (sep l j2 nt2).1==14 with
   |false=>
    simp only[Bool.not_false,aI,bH,lnS];have e1:(decide (0<=(nt2.length:Int)) && decide ((nt2.length:Int)<=((sep l j2 nt2).2.length:Int)))=true:=by rw[hu',zT,zdt aB,zdt aB];rfl
    have e2:List.take (nt2.length:Int).toNat (encS (sep l j2 nt2).2)=encS nt2:=by rw[hu',ztn,encS,encS,<-List.map_take];congr 1;simp
    rw[e1,aI,e2,dR,aI];exact AT.mk rfl rfl rfl rfl (fz2 (J8 hk) (J8 hk'))
   |true=>
    have hlt:=cO h14 (by decide);simp only[zaM,bH,aI,mM hl hlt];refine AT.elim (R:=AT l) (h.body _ _ aB aB) (λ_=>trivial) (λk op x y fl ks j nt hn=> ?_) (λz aTg ku j3 nt3 hk'' aTh=> ?_)
    ·simp only[dR,aI];exact AT.fC hn
    ·simp only[dR,aI];exact AT.mk rfl rfl rfl rfl (fz3 (J8 hk) (J8 hk') (J8 hk''))
def aAl(l:List Tk)(n i:Nat)(nt:iw):PR Tn:=(IB l n 37 true i nt).bind λx i nt=>(iV l 37 i nt).bind λ_ i nt=>(IB l n 37 false (nl l i nt).1 (nl l i nt).2).bind λy i nt=>(iV l 37 i nt).bind λ_ i nt=>(IB l n 33 false (nl l i nt).1 (nl l i nt).2).bind λz i nt=>(iV l 33 i nt).bind λ_ i nt=>(Bh l n i nt).bind λw i nt=> .ok (.mk 31 0 [] [] [x,y,z,w]) i nt
omit hl H hm in
theorem fz4{x y z u:Tn}{kx ky kz ku:aA}(h:ak kx=dO false x.kids)(h':ak ky=dO false y.kids)(h'':ak kz=dO false z.kids)(h3:ak ku=dO false u.kids):
  ak [[.int .i64 x.kind,.int .i64 x.op,.str x.text,.str x.other,.sl false 5 kx],[.int .i64 y.kind,.int .i64 y.op,.str y.text,.str y.other,.sl false 5 ky],[.int .i64 z.kind,.int .i64 z.op,.str z.text,.str z.other,.sl false 5 kz],[.int .i64 u.kind,.int .i64 u.op,.str u.text,.str u.other,.sl false 5 ku]]=dO false [x,y,z,u]:=by
 rw[ak,fzT x _ kx h,ak,fzT y _ ky h',ak,fzT z _ kz h'',ak,fzT u _ ku h3];rfl
omit hl H hm in
theorem aMN(m2:Nat){j:Nat}{nt:iw}(hn:nt.length<=l.length):AT l ((M.dH 37 true false (au l) (j:Int) true (encS nt)).bind λOo=>
       (bif ah Oo.2.2.2.2.2.2.2.2.2 then
        ((M.aJ 37 Oo.2.2.2.2.2.2.1 Oo.2.2.2.2.2.2.2.1 Oo.2.2.2.2.2.2.2.2.1 Oo.2.2.2.2.2.2.2.2.2).bind λWq=>
        (bif ah Wq.2.2.2.2 then
         ((M.aN Wq.2.1 Wq.2.2.1 Wq.2.2.2.1 Wq.2.2.2.2).bind λWs=>
         (bif ah Ws.2.2.2 then
          ((M.dH 37 false false Ws.1 Ws.2.1 Ws.2.2.1 Ws.2.2.2).bind λQB=>
          (bif ah QB.2.2.2.2.2.2.2.2.2 then
           ((M.aJ 37 QB.2.2.2.2.2.2.1 QB.2.2.2.2.2.2.2.1 QB.2.2.2.2.2.2.2.2.1 QB.2.2.2.2.2.2.2.2.2).bind λWu=>
           (bif ah Wu.2.2.2.2 then
            ((M.aN Wu.2.1 Wu.2.2.1 Wu.2.2.2.1 Wu.2.2.2.2).bind λWv=>
            (bif ah Wv.2.2.2 then
             ((M.dH 33 false false Wv.1 Wv.2.1 Wv.2.2.1 Wv.2.2.2).bind λOq=>
             (bif ah Oq.2.2.2.2.2.2.2.2.2 then
              ((M.aJ 33 Oq.2.2.2.2.2.2.1 Oq.2.2.2.2.2.2.2.1 Oq.2.2.2.2.2.2.2.2.1 Oq.2.2.2.2.2.2.2.2.2).bind λaen=>
              (bif ah aen.2.2.2.2 then
               ((M.jS (m2+1) aen.2.1 aen.2.2.1 aen.2.2.2.1 aen.2.2.2.2).bind λOt=>
               (bif ah Ot.2.2.2.2.2.2.2.2.2 then
                some (31,0,[],[],true,[[D.int .i64 Oo.1,D.int .i64 Oo.2.1,D.str Oo.2.2.1,D.str Oo.2.2.2.1,D.sl false 5 (ak Oo.2.2.2.2.2.1)],[D.int .i64 QB.1,D.int .i64 QB.2.1,D.str QB.2.2.1,D.str QB.2.2.2.1,D.sl false 5 (ak QB.2.2.2.2.2.1)],[D.int .i64 Oq.1,D.int .i64 Oq.2.1,D.str Oq.2.2.1,D.str Oq.2.2.2.1,D.sl false 5 (ak Oq.2.2.2.2.2.1)],[D.int .i64 Ot.1,D.int .i64 Ot.2.1,D.str Ot.2.2.1,D.str Ot.2.2.2.1,D.sl false 5 (ak Ot.2.2.2.2.2.1)]],Ot.2.2.2.2.2.2.1,Ot.2.2.2.2.2.2.2.1,Ot.2.2.2.2.2.2.2.2.1,Ot.2.2.2.2.2.2.2.2.2) else none)) else none)) else none)) else none)) else none)) else none)) else none)) else none)) else none)) (.bad j):=by
 refine AT.BA (R:=λo=>AT l o (.bad j)) (QH 37 true false hn) λk op x y fl ks nt hn=> ?_
 simp only[dR,aI,sG,aj,FT];refine AT.BA (R:=λo=>AT l o (.bad j)) (QH 37 false false hn) λk op x y fl ks nt hn=> ?_
 simp only[dR,aI,sG,aj,FT];refine AT.BA (R:=λo=>AT l o (.bad j)) (QH 33 false false hn) λk op x y fl ks nt hn=> ?_
 simp only[dR,aI,sG,aj,FT];refine AT.BA (R:=λo=>AT l o (.bad j)) (RN m2 hn) λk op x y fl ks nt hn=> ?_
 simp only[dR,aI];exact AT.fC hn
theorem aMO(m2:Nat)(hm2:m=m2+1+1)(i:Nat)(nt:iw)(hi:i<=l.length)(hn:nt.length<=i):AT l ((M.dH 37 true false (au l) (i:Int) false (encS nt)).bind λOo=>
       (bif ah Oo.2.2.2.2.2.2.2.2.2 then
        ((M.aJ 37 Oo.2.2.2.2.2.2.1 Oo.2.2.2.2.2.2.2.1 Oo.2.2.2.2.2.2.2.2.1 Oo.2.2.2.2.2.2.2.2.2).bind λWq=>
        (bif ah Wq.2.2.2.2 then
         ((M.aN Wq.2.1 Wq.2.2.1 Wq.2.2.2.1 Wq.2.2.2.2).bind λWs=>
         (bif ah Ws.2.2.2 then
          ((M.dH 37 false false Ws.1 Ws.2.1 Ws.2.2.1 Ws.2.2.2).bind λQB=>
          (bif ah QB.2.2.2.2.2.2.2.2.2 then
           ((M.aJ 37 QB.2.2.2.2.2.2.1 QB.2.2.2.2.2.2.2.1 QB.2.2.2.2.2.2.2.2.1 QB.2.2.2.2.2.2.2.2.2).bind λWu=>
           (bif ah Wu.2.2.2.2 then
            ((M.aN Wu.2.1 Wu.2.2.1 Wu.2.2.2.1 Wu.2.2.2.2).bind λWv=>
            (bif ah Wv.2.2.2 then
             ((M.dH 33 false false Wv.1 Wv.2.1 Wv.2.2.1 Wv.2.2.2).bind λOq=>
             (bif ah Oq.2.2.2.2.2.2.2.2.2 then
              ((M.aJ 33 Oq.2.2.2.2.2.2.1 Oq.2.2.2.2.2.2.2.1 Oq.2.2.2.2.2.2.2.2.1 Oq.2.2.2.2.2.2.2.2.2).bind λaen=>
              (bif ah aen.2.2.2.2 then
               ((M.jS (m2+1) aen.2.1 aen.2.2.1 aen.2.2.2.1 aen.2.2.2.2).bind λOt=>
               (bif ah Ot.2.2.2.2.2.2.2.2.2 then
                some (31,0,[],[],true,[[D.int .i64 Oo.1,D.int .i64 Oo.2.1,D.str Oo.2.2.1,D.str Oo.2.2.2.1,D.sl false 5 (ak Oo.2.2.2.2.2.1)],[D.int .i64 QB.1,D.int .i64 QB.2.1,D.str QB.2.2.1,D.str QB.2.2.2.1,D.sl false 5 (ak QB.2.2.2.2.2.1)],[D.int .i64 Oq.1,D.int .i64 Oq.2.1,D.str Oq.2.2.1,D.str Oq.2.2.2.1,D.sl false 5 (ak Oq.2.2.2.2.2.1)],[D.int .i64 Ot.1,D.int .i64 Ot.2.1,D.str Ot.2.2.1,D.str Ot.2.2.2.1,D.sl false 5 (ak Ot.2.2.2.2.2.1)]],Ot.2.2.2.2.2.2.1,Ot.2.2.2.2.2.2.2.1,Ot.2.2.2.2.2.2.2.2.1,Ot.2.2.2.2.2.2.2.2.2) else none)) else none)) else none)) else none)) else none)) else none)) else none)) else none)) else none)) (aAl l n i nt):=by
 have h:=H n (zaN _) (m2+1) aB;rw[aAl];refine AT.elim (R:=AT l) (am0 hl n 37 true hi hn) (λ_=>trivial) (λk op x y fl ks j nt hn=> ?_) (λx fx kx j nt hx ex=> ?_)
 ·simp only[dR,aI,sG,aj,FT];refine AT.BA (R:=λo=>AT l o (.bad j)) (QH 37 false false hn) λk op x y fl ks nt hn=> ?_
  simp only[dR,aI,sG,aj,FT];refine AT.BA (R:=λo=>AT l o (.bad j)) (QH 33 false false hn) λk op x y fl ks nt hn=> ?_
  simp only[dR,aI,sG,aj,FT];refine AT.BA (R:=λo=>AT l o (.bad j)) (RN m2 hn) λk op x y fl ks nt hn=> ?_
  simp only[dR,aI];exact AT.fC hn
 have s1:=gY (NP hi) ex;simp only[dR,aI];refine JK (R:=AT l) hl (by decide) ?_ (λ_ hlt=> ?_)
 ·simp only[dR,aI,FT,aj];have hn:nt.length<=l.length:=aB;refine AT.BA (R:=λo=>AT l o (.bad j)) (QH 37 false false hn) λk op x y fl ks nt hn=> ?_
  simp only[dR,aI,sG,aj,FT];refine AT.BA (R:=λo=>AT l o (.bad j)) (QH 33 false false hn) λk op x y fl ks nt hn=> ?_
  simp only[dR,aI,sG,aj,FT];refine AT.BA (R:=λo=>AT l o (.bad j)) (RN m2 hn) λk op x y fl ks nt hn=> ?_
  simp only[dR,aI];exact AT.fC hn
 have g1:=Bj (l:=l) (i:=j+1) (nt:=nt) aB;simp only[dR,aI,OB hl (j+1) nt aB aB,aj];refine AT.elim (R:=AT l) (am0 hl n 37 false aB aB) (λ_=>trivial) (λk op x y fl ks j nt hn=> ?_) (λy fy ky j nt hy ey=> ?_)
 ·simp only[dR,aI,sG,aj,FT];refine AT.BA (R:=λo=>AT l o (.bad j)) (QH 33 false false hn) λk op x y fl ks nt hn=> ?_
  simp only[dR,aI,sG,aj,FT];refine AT.BA (R:=λo=>AT l o (.bad j)) (RN m2 hn) λk op x y fl ks nt hn=> ?_
  simp only[dR,aI];exact AT.fC hn
 have s2:=gY (NP aB) ey;simp only[dR,aI];refine JK (R:=AT l) hl (by decide) ?_ (λ_ hlt=> ?_)
 ·simp only[dR,aI,FT,aj];have hn:nt.length<=l.length:=aB;refine AT.BA (R:=λo=>AT l o (.bad j)) (QH 33 false false hn) λk op x y fl ks nt hn=> ?_
  simp only[dR,aI,sG,aj,FT];refine AT.BA (R:=λo=>AT l o (.bad j)) (RN m2 hn) λk op x y fl ks nt hn=> ?_
  simp only[dR,aI];exact AT.fC hn
 have g2:=Bj (l:=l) (i:=j+1) (nt:=nt) aB;simp only[dR,aI,OB hl (j+1) nt aB aB,aj];refine AT.elim (R:=AT l) (am0 hl n 33 false aB aB) (λ_=>trivial) (λk op x y fl ks j nt hn=> ?_) (λz fz kz j nt hz ez=> ?_)
 ·simp only[dR,aI,sG,aj];refine AT.BA (R:=λo=>AT l o (.bad j)) (RN m2 hn) λk op x y fl ks nt hn=> ?_
  simp only[dR,aI];exact AT.fC hn
 have s3:=gY (NP aB) ez;simp only[dR,aI];refine JK (R:=AT l) hl (by decide) ?_ (λ_ hlt=> ?_)
 ·simp only[dR,aI];have hn:nt.length<=l.length:=aB;refine AT.BA (R:=λo=>AT l o (.bad j)) (RN m2 hn) λk op x y fl ks nt hn=> ?_
  simp only[dR,aI];exact AT.fC hn
 simp only[dR,aI];refine AT.elim (R:=AT l) (h.body _ _ aB aB) (λ_=>trivial) (λk op x y fl ks j nt hn=> ?_) (λw fw kw j nt hw ew=> ?_)
 ·simp only[dR,aI];exact AT.fC hn
 ·simp only[dR,aI];exact AT.mk rfl rfl rfl rfl (fz4 (J8 hx) (J8 hy) (J8 hz) (J8 hw))
def lpP(l:List Tk)(n i:Nat)(nt:iw):PR Tn:=(iV l 32 i nt).bind λ_ i nt=>(bif bC l i==6 && bC l (i+1)==24 then(nameP l (i+2) nt).bind λs j nt=>(iV l 33 j nt).bind λ_ j nt=>(Bh l n j nt).bind λy j nt=> .ok (.mk 32 0 (zK l i) s [y]) j nt else aAl l n i nt)
theorem aCK(i:Nat)(nt:iw)(hi:i<=l.length)(hn:nt.length<=i):AT l (M.A8 m (au l) (i:Int) false (encS nt)) (lpP l n i nt):=by
 obtain⟨m2,hm2⟩:∃m2,m=m2+1+1:=⟨m - 2,aB⟩
 subst hm2;have h:=H n (zaN _) (m2+1) aB;rw[M.adE,lpP];simp only[M.wI,dR,aI];refine JK (R:=AT l) hl (by decide) ?_ (λ_ hlt=> ?_)
 ·simp only[zaM,bH,dR,aI];exact aMN m2 aB
 ·simp only[Bool.not_false,aI,dR,eU,aj,dh];have am1:=aMO hl H hm m2 rfl (i+1) nt aB aB;cases h6:bC l (i+1)==6 with
  |false=>simp only[bH,Bool.false_and];exact am1
  |true=>
   have aFM:=cO h6 (by decide);simp only[aI,mM hl aFM,Bool.true_and]
   by_cases hb:i+1+1<l.length
   ·obtain⟨t,ht⟩:∃t,l[i+1+1]? =some t:=⟨l[i+1+1],by simp[hb]⟩
    have e1:bC l (i+1+1)=t.kind:=by rw[bC,ht]
    rw[zdt aB,aI];simp only[dM,fK,ht,Hg,aj,VJ,e1];cases h24:t.kind==24 with
    |false=>simp only[bH];exact am1
    |true=>
     have n1:M.bM (au l) ((i+1:Nat):Int) false (encS nt)=some (zK l (i+1),au l,((i+1+1:Nat):Int),false,encS nt):=by simp only[M.bM,M.iL,dR,aI,bH,eU,aj,bne,h6,zaM,JJ hl aFM]
     have n2:M.aJ 24 (au l) ((i+1+1:Nat):Int) false (encS nt)=some (true,au l,((i+1+1+1:Nat):Int),false,encS nt):=by simp only[M.aJ,M.rD,dR,aI,bH,eU,aj,bne,e1,h24,zaM,mM hl hb]
     simp only[aI,n1,n2,aj,dR];refine azY (R:=AT l) hl ?_ (λ_ hlt=> ?_)
     ·simp only[dR,aI,sG,aj];refine AT.BA (R:=λo=>AT l o (.bad (i+1+1+1))) (RN m2 aB) λk op x y fl ks nt hn=> ?_
      simp only[dR,aI];exact AT.fC hn
     ·simp only[dR,aI];refine JK (R:=AT l) hl (by decide) ?_ (λ_ hlt=> ?_)
      ·simp only[dR,aI];refine AT.BA (R:=λo=>AT l o (.bad (i+1+1+1+1))) (RN m2 aB) λk op x y fl ks nt hn=> ?_
       simp only[dR,aI];exact AT.fC hn
      ·simp only[dR,aI];refine AT.elim (R:=AT l) (h.body _ _ aB aB) (λ_=>trivial) (λk op x y fl ks j nt hn=> ?_) (λw fw kw j nt hw ew=> ?_)
       ·simp only[dR,aI];exact AT.fC hn
       ·simp only[dR,aI];exact AT.mk rfl rfl rfl rfl (fz1 (J8 hw))
   ·have e0:bC l (i+1+1)=0:=by rw[bC,List.getElem?_eq_none aB]
    rw[Bq aB,bH,e0];exact am1
end
variable {l:List Tk}
def K1(R:List Nd):Prop:=∀n,n∈R->n.kids.length<=100000
def K1.nil:K1 []:=λn h=>by cases h
def AS(l:List Tk)(i n0:Nat)(o:Option TY):PR Tn->Prop
 | .ok t j nt=>∃fl rows ns,ak rows=aV false (t.flat 0)/\txt ns=nt/\o=some (fl,rows,au l,(j:Int),false,au ns)
 | .bad j=>∃fl rows ns R,i<=j/\j<=l.length/\ns.length<=l.length/\ak rows=aV false R/\R.length+ns.length<=9 * (j - i)+n0+l.length+4/\K1 R/\o=some (fl,rows,au l,(j:Int),true,au ns)
 | .out=>True
def AS.elim{β γ:Type}{Q:Option β->PR γ->Prop}{i n0:Nat}{o:Option TY}{p:PR Tn}(h:AS l i n0 o p){f:TY->Option β}{g:Tn->Nat->iw->PR γ}(hout:∀o,Q o .out)
  (hbad:∀fl rows j ns R,i<=j->j<=l.length->ns.length<=l.length->ak rows=aV false R->R.length+ns.length<=9 * (j - i)+n0+l.length+4->K1 R->Q (f (fl,rows,au l,((j:Nat):Int),true,au ns)) (.bad j))
  (hok:∀x fl rows j ns,ak rows=aV false (x.flat 0)->p=.ok x j (txt ns)->Q (f (fl,rows,au l,(j:Int),false,au ns)) (g x j (txt ns))):Q (o.bind f) (p.bind g):=by
 cases p with
 |ok x j nt=>obtain⟨fl,rows,ns,h1,rfl,rfl⟩:=h;exact hok x fl rows j ns h1 rfl
 |bad j=>obtain⟨fl,rows,ns,R,h1,h2,h3,h4,h5,h6,rfl⟩:=h;exact hbad fl rows j ns R h1 h2 h3 h4 h5 h6
 |out=>exact hout _
def AS.mk{x:Tn}{i n0 j:Nat}{fl:Bool}{rows:aA}{ns:List Tk}(h:ak rows=aV false (x.flat 0)):AS l i n0 (some (fl,rows,au l,(j:Int),false,au ns)) (.ok x j (txt ns)):=⟨_,_,_,h,rfl,rfl⟩
def AS.fC{i n0 j:Nat}{fl:Bool}{rows:aA}{ns:List Tk}{R:List Nd}(h1:i<=j)(h2:j<=l.length)(h3:ns.length<=l.length)(h4:ak rows=aV false R)(h5:R.length+ns.length<=9 * (j - i)+n0+l.length+4)(h6:K1 R):
  AS l i n0 (some (fl,rows,au l,(j:Int),true,au ns)) (.bad j):=⟨_,_,_,_,h1,h2,h3,h4,h5,h6,rfl⟩
def AS.pass{i i' n0 n0':Nat}{o:Option TY}{p:PR Tn}(h:AS l i n0 o p)(hi:i'<=i)(hn:9 * i'+n0<=9 * i+n0'){f:TY->Option TY}
  (hf:∀fl rows c1 b ns,f (fl,rows,au l,c1,b,au ns)=some (false,ak rows,au l,c1,b,au ns)):AS l i' n0' (o.bind f) p:=by
 rw[<-PR.bind_ok p];refine AS.elim (Q:=AS l i' n0') h (λ_=>trivial) (λfl rows j ns R h1 h2 h3 h4 h5 h6=> ?_) (λx fl rows j ns hk _=> ?_)
 ·rw[hf];exact AS.fC aB h2 h3 (fzN h4) aB h6
 ·rw[hf];exact AS.mk (fzN hk)
def AX.lim{i:Nat}{o o':Option TX}{p:PR Xp}(h:AX l i o p)(hof:∀r,o=some r->o'=some r):AX l i o' p:=by
 cases p with
 |ok x j nt=>obtain⟨fl,rows,ns,h1,h2,h3⟩:=h;exact⟨fl,rows,ns,h1,h2,hof _ h3⟩
 |bad j=>obtain⟨fl,rows,hd,ns,R,h1,h2,h3,h4,h5,h6⟩:=h;exact⟨fl,rows,hd,ns,R,h1,h2,h3,h4,h5,hof _ h6⟩
 |out=>trivial
def AS.lim{i n0:Nat}{o o':Option TY}{p:PR Tn}(h:AS l i n0 o p)(hof:∀r,o=some r->o'=some r):AS l i n0 o' p:=by
 cases p with
 |ok x j nt=>obtain⟨fl,rows,ns,h1,h2,h3⟩:=h;exact⟨fl,rows,ns,h1,h2,hof _ h3⟩
 |bad j=>obtain⟨fl,rows,ns,R,h1,h2,h3,h4,h5,h6,h7⟩:=h;exact⟨fl,rows,ns,R,h1,h2,h3,h4,h5,h6,hof _ h7⟩
 |out=>trivial
def AY.lim{i:Nat}{o o':Option TY}{p:PR (List Tn)}(h:AY l i o p)(hof:∀r,o=some r->o'=some r):AY l i o' p:=by
 cases p with
 |ok L j nt=>obtain⟨fl,ns,h1,h2⟩:=h;exact⟨fl,ns,h1,hof _ h2⟩
 |bad j=>obtain⟨fl,ns,P,h1,h2,h3,h4,h5,h6,h7⟩:=h;exact⟨fl,ns,P,h1,h2,h3,h4,h5,h6,hof _ h7⟩
 |out=>trivial
section
variable (hl:l.length<=3000)
include hl
theorem at1(n:Nat)(a b:Bool){i:Nat}{ns:List Tk}(hi:i<=l.length)(hn:ns.length<=i):AX l i (M.dQ 1 false a b false (au l) (i:Int) false (au ns)) (ex l n 1 a b i (txt ns)):=
 ((RX.of hl n (zaN _)).a1 a b i ns hi hn).lim λr h=>M.Tv h
theorem at9(n:Nat)(a b:Bool){i:Nat}{ns:List Tk}(hi:i<=l.length)(hn:ns.length<=i):AX l i (M.dQ 9 false a b false (au l) (i:Int) false (au ns)) (ex l n 9 a b i (txt ns)):=
 ((RX.of hl n (zaN _)).a9 a b i ns hi hn).lim λr h=>M.Tv h
theorem aMP(n:Nat){i:Nat}{ns:List Tk}(hi:i<=l.length)(hn:ns.length<=i):AY l i (M.lF 35 1 (au l) (i:Int) false (au ns)) (ag4 l n 35 i (txt ns)):=
 (arW hl (m:=4 * n+20) (by decide) (λn' hn' i ns hi hn=>(RX.of hl n' aB).a1 false false i ns hi hn) hi hn).lim λr h=>M.Vr h
end
def atB(p:Int)(p1 p2 p3 p4:Bool)(i:Nat)(ns:List Tk):M.dQ p p1 p2 p3 p4 (au l) (i:Int) true (au ns)=some (true,[],false,au l,(i:Int),true,au ns):=M.Tv (aAd 0 p p1 p2 p3 p4 i ns)
def aFN(i:Nat)(ns:List Tk):M.lF 35 1 (au l) (i:Int) true (au ns)=some (true,[],au l,(i:Int),true,au ns):=by refine M.Vr (n:=1) ?_;rw[M.MQ];have h10:((1:Int)==0)=false:=rfl;simp only[M.ug,h10,bH];rw[show M.uT _ _=_ from aO rfl];simp only[aj,iD,letE,aW,aI,jO]
def Z7(k op:Int)(x y:aP)(P:List (List Nd)){b:Nat}(hb:lens P<=b)(hl:b<=90000)(hn:P.length<=100000)(hk:KB P):
  ∃R',M.dG k op x y [] (qo P)=some (false,aV false R')/\M.aX k op x y [] (qo P)=some (aV true R')/\R'.length<=b+1/\K1 R':=by
 obtain⟨R',h1,h2⟩:=adI k op x y [] hb hl hn hk;exact⟨R',by simp only[M.dG,M.Ig,h1,aj,aS],h1,h2.1,h2.2⟩
def aAm(k op:Int)(x y:aP)(ts:List Tn)(h:sizes ts<=100000):M.dG k op x y [] (parts ts)=some (false,aV false ((Tn.mk k op x y ts).flat 0)):=by simp only[M.dG,M.Ig,Dc k op x y [] ts aB,aj,aS]
def ZH(hl:l.length<=3000){i q n0 nq:Nat}{k op:Int}{x x':aP}(ts:List Tn){o:Option TY}{p:PR Tn}(h:AS l q nq o p)(hq:i<=q)(hn0:nq<=4000)(hs:sizes ts+9 * i+nq+1<=9 * q+n0)(hts:sizes ts<=30000)(y5:p.sat λx j m=>x.size<=30000):
  AS l i n0 (o.bind λr=>(M.dG k op x x' [] (ak (parts ts++[[D.sl false 5 (ak r.2.1)]]))).bind λr'=>
   bif ah r.2.2.2.2.2 then some (false,ak r'.2,r.2.2.1,r.2.2.2.1,r.2.2.2.2.1,r.2.2.2.2.2) else none)
   (p.bind λy j nt=> .ok (.mk k op x x' (ts++[y])) j nt):=by
 have hlen:(ts.map λt=>t.flat 0).length<=sizes ts:=by rw[zaO];exact zV ts
 cases p with
 |out=>trivial
 |bad j=>obtain⟨fl,rows,ns,R,g1,g2,g3,g4,g5,g6,rfl⟩:=h;obtain⟨R',e1,_,e2,e3⟩:=Z7 k op x x' ((ts.map λt=>t.flat 0)++[R]) (b:=sizes ts+R.length) (by rw[vG,lW,lens,lens];omega) aB (by rw[zT,y7];omega) (KB.trees ts aB (KB.cons g6 KB.nil));simp only[aj,LK g4,zu,e1,aW,aI,aS];exact AS.fC aB g2 g3 (aS _ _) aB e3
 |ok y j m=>obtain⟨fl,rows,ns,h1,rfl,rfl⟩:=h;have hs':y.size<=30000:=y5;have ho:=aAm k op x x' (ts++[y]) (by rw[sizes1];omega);simp only[aj,FU h1,JL,ho,aW,aI,aS];exact AS.mk (aS _ _)
def atc(hl:l.length<=3000){i q n0:Nat}{k op:Int}{x x':aP}(ts:List Tn){o:Option TX}{p:PR Xp}(h:AX l q o p)(hq:i<=q)(hs:sizes ts+9 * i+1<=9 * q+n0+4)(hts:sizes ts<=30000)(y5:p.sat λx j m=>x.1.size<=30000):
  AS l i n0 (o.bind λr=>(M.dG k op x x' [] (ak (parts ts++[[D.sl false 5 (ak r.2.1)]]))).bind λr'=>
   bif ah r.2.2.2.2.2.2 then some (false,ak r'.2,r.2.2.2.1,r.2.2.2.2.1,r.2.2.2.2.2.1,r.2.2.2.2.2.2) else none)
   (p.bind λy j nt=> .ok (.mk k op x x' (ts++[y.1])) j nt):=by
 have hlen:(ts.map λt=>t.flat 0).length<=sizes ts:=by rw[zaO];exact zV ts
 cases p with
 |out=>trivial
 |bad j=>obtain⟨fl,rows,hd,ns,R,g1,g2,g3,g4,g5,rfl⟩:=h;have g51:=g5.1;obtain⟨R',e1,_,e2,e3⟩:=Z7 k op x x' ((ts.map λt=>t.flat 0)++[R]) (b:=sizes ts+R.length) (by rw[vG,lW,lens,lens];omega) aB (by rw[zT,y7];omega) (KB.trees ts aB (KB.cons g5.2 KB.nil));simp only[aj,LK g4,zu,e1,aW,aI,aS];exact AS.fC aB g2 g3 (aS _ _) aB e3
 |ok y j m=>obtain⟨fl,rows,ns,h1,rfl,rfl⟩:=h;have hs':y.1.size<=30000:=y5;have ho:=aAm k op x x' (ts++[y.1]) (by rw[sizes1];omega);simp only[aj,FU h1,JL,ho,aW,aI,aS];exact AS.mk (aS _ _)
def aDs(hl:l.length<=3000){n lv i:Nat}{a b:Bool}{nt:iw}(h1:1<=lv)(h2:lv<=15)(hi:i<=l.length):(ex l n lv a b i nt).sat λx j m=>x.1.size<=30000:=bP ((sats l n).ex lv a b i nt h1 h2 hi) λx j m h=>by omega
def atd(i:Nat)(b:Bool)(ns:List Tk):M.lu (au l) (i:Int) b (au ns)=some (au l,(i:Int),b|| !(Ei (bC l i)),au ns):=by simp only[M.lu,M.OV,aW,aI,gu,aj,amY];cases b<;>cases Ei (bC l i)<;>rfl
def ate(i:Nat)(ns:List Tk):M.l9 (au l) (i:Int) true (au ns)=some (false,[],au l,(i:Int),true,au ns):=by simp only[M.l9,M.F8,M.ig,M.pU,aW,aI,jO,aj,atB];rfl
def am2(hl:l.length<=3000)(n:Nat){i:Nat}{ns:List Tk}(hi:i<=l.length)(hn:ns.length<=i):AS l i ns.length (M.l9 (au l) (i:Int) false (au ns)) (SN l n i (txt ns)):=by
 simp only[M.l9,M.F8,M.ig,M.pU,aW,aI,aj,SN];rw[iV];cases hc:bC l i==32 with
 |false=>simp only[sF hc,aj,aW,aI,bH,atB,jO];exact AS.fC (R:=[]) (zaN i) hi aB rfl (by simp;omega) K1.nil
 |true=>
  have hlt:=cO hc (by decide);have e:bC l i=32:=by rwa [beq_iff_eq] at hc
  simp only[fB hl e (by decide),aj,aW,aI,PR.bind];refine AX.elim (Q:=AS l i ns.length) (at1 hl n false false aB aB) (λ_=>trivial) (λfl rows hd j ns' R g1 g2 g3 g4 g5=> ?_) (λx fl rows j ns' h1 he=> ?_)
  ·have g51:=g5.1;simp only[aW,aI,jO,aj];exact AS.fC aB g2 g3 (fzN g4) aB g5.2
  ·have hs:=gY (EK aB aB aB) he;simp only[zaO] at hs;simp only[aW,aI,iV];cases hc2:bC l j==33 with
   |false=>simp only[sF hc2,aj,aW,aI,bH];exact AS.fC (R:=x.1.flat 0) aB aB aB (fzN h1) (by rw[x.1.flat_length];omega) (UA _ aB)
   |true=>
    have e2:bC l j=33:=by rwa [beq_iff_eq] at hc2
    simp only[fB hl e2 (by decide),aj,aW,aI];exact AS.mk (fzN h1)
def ar1(e:Int)(p:Int)(p1 p2 p3 p4:Bool)(i:Nat)(ns:List Tk):∃fl rows R,M.gW e p p1 p2 p3 p4 (au l) (i:Int) true (au ns)=some (fl,rows,au l,(i:Int),true,au ns)/\ak rows=aV false R/\R.length<=1/\K1 R:=by
 simp only[M.gW,M.Ih,aW,aI,gu,aj,atB];cases bC l i==e with
 |true=>exact⟨_,_,(Tn.mk 16 0 [] [] []).flat 0,rfl,KU 16 [],by rw[Tn.flat_length];rw[SS];exact zaN 1,UA _ (by rw[SS];omega)⟩
 |false=>exact⟨_,_,[],rfl,rfl,by simp,K1.nil⟩
def ar2(hl:l.length<=3000)(n:Nat)(e:Int)(a:Bool){i:Nat}{ns:List Tk}(hi:i<=l.length)(hn:ns.length<=i):AS l i ns.length (M.gW e 1 false a false false (au l) (i:Int) false (au ns)) (IB l n e a i (txt ns)):=by
 simp only[M.gW,M.Ih,aW,aI,gu,aj,IB];cases bC l i==e with
 |true=>exact AS.mk (KU 16 [])
 |false=>
  simp only[bH];refine AX.elim (Q:=AS l i ns.length) (at1 hl n a false hi hn) (λ_=>trivial) (λfl rows hd j ns' R g1 g2 g3 g4 g5=> ?_) (λx fl rows j ns' h1 he=> ?_)
  ·have g51:=g5.1;simp only[aW,aI];exact AS.fC aB g2 g3 (fzN g4) aB g5.2
  ·simp only[aW,aI];exact AS.mk (fzN h1)
def am3(hl:l.length<=3000)(i:Nat)(ns:List Tk)(hi:i<=l.length)(hn:ns.length<=i):
  ∃ns',txt ns'=(sep l i (txt ns)).2/\M.jT (au l) (i:Int) false (au ns)=some (au l,((sep l i (txt ns)).1:Int),false,au ns'):=by
 have hloop:∀k i (ns:List Tk),l.length - i<=k->i<=l.length->ns.length<=i->∃ns',txt ns'=(sep l i (txt ns)).2/\
   ((M.aT (au l) (i:Int) false (au ns)).bind λr=>M.yG (r.1,r.2.1,r.2.2.1,r.2.2.2))=some (au l,((sep l i (txt ns)).1:Int),false,au ns'):=by
  intro k;induction k with
  |zero=>
   intro i ns hk hi hn;obtain⟨Qs,t1,h1⟩:=Hf hl i ns hi hn;have hf:=Bj (l:=l) (nt:=txt ns) hi;have e0:bC l (nl l i (txt ns)).1=0:=by rw[bC,List.getElem?_eq_none aB]
   have e:sep l i (txt ns)=nl l i (txt ns):=by rw[amU,e0];rfl
   refine⟨Qs,by rw[e,t1], ?_⟩;have hb:M.tN (au l,((nl l i (txt ns)).1:Int),false,au Qs)=some (.inr (au l,((nl l i (txt ns)).1:Int),false,au Qs)):=by have h0:((0:Int)==37)=false:=rfl;simp only[M.tN,M.yc,Bool.not_false,aI,aW,gu,aj,e0,h0,bH]
   rw[h1,aj,e,M.yG,aO hb]
  |succ k ih=>
   intro i ns hk hi hn;obtain⟨Qs,t1,h1⟩:=Hf hl i ns hi hn;have hf:=Bj (l:=l) (nt:=txt ns) hi;rw[<-t1] at hf;simp only[zaO] at hf;rw[h1,aj,M.yG,amU];cases h37:bC l (nl l i (txt ns)).1==37 with
   |false=>
    have hb:M.tN (au l,((nl l i (txt ns)).1:Int),false,au Qs)=some (.inr (au l,((nl l i (txt ns)).1:Int),false,au Qs)):=by simp only[M.tN,M.yc,Bool.not_false,aI,aW,gu,aj,h37,bH]
    rw[aO hb];exact⟨Qs,t1,rfl⟩
   |true=>
    have hlt:=cO h37 (by decide);have e37:bC l (nl l i (txt ns)).1=37:=by rwa [beq_iff_eq] at h37
    obtain⟨Ju,t2,h2⟩:=ih ((nl l i (txt ns)).1+1) Qs aB aB aB;obtain⟨ns3,t3,h3⟩:=Hf hl ((nl l i (txt ns)).1+1) Qs aB aB;rw[h3,aj] at h2;have hb:M.tN (au l,((nl l i (txt ns)).1:Int),false,au Qs)=some (.inl (au l,((nl l ((nl l i (txt ns)).1+1) (txt Qs)).1:Int),false,au ns3)):=by simp only[M.tN,M.yc,Bool.not_false,aI,aW,gu,aj,h37,fB hl e37 (by decide),h3]
    rw[bD hb,aI,<-t1];exact⟨Ju,t2,h2⟩
 obtain⟨ns',e1,e2⟩:=hloop _ i ns (zaN _) hi hn;refine⟨ns',e1, ?_⟩;simp only[M.jT,M.H6,aW,aI];obtain⟨Qs,t1,h1⟩:=Hf hl i ns hi hn;rw[h1,aj] at e2|-;rw[e2,aj];simp only[aW,aI]
def am4(i:Nat)(ns:List Tk):M.jT (au l) (i:Int) true (au ns)=some (au l,(i:Int),true,au ns):=by have:M.yG (au l,(i:Int),true,au ns)=some (au l,(i:Int),true,au ns):=aO rfl;simp only[M.jT,M.H6,aW,aI,IC,aj,this]
def Oa(ns:List Tk):aA:=ns.map λt=>[D.sl true 5 [[D.int .i64 34,D.int .i64 0,D.str t.text,D.str [],D.sl true 1 []]]]
def Zn:∀ns:List Tk,ak (Oa ns)=parts (Dq (txt ns))
 |[]=>rfl
 |t::ns=>by have h:Oa (t::ns)=[D.sl true 5 [[D.int .i64 34,D.int .i64 0,D.str t.text,D.str [],D.sl true 1 []]]]::Oa ns:=rfl;rw[h,ak,Zn ns];rfl
def QI(c1:Int)(b:Bool)(ns:List Tk)(hn:ns.length<=1048576):M.lZ (au l) c1 b (au ns)=some (true,Oa ns,au l,c1,b,au []):=by
 have hloop:=og (b:=M.E8 (au l) c1 b (au ns)) (t:=((ns.length:Int),Oa ns)) (λj=>((j:Int),Oa (ns.take j))) ns.length
  (by
   intro j hj;obtain⟨t,ht⟩:∃t,ns[j]? =some t:=⟨ns[j],by simp⟩
   have h2:Oa (ns.take (j+1))=Oa (ns.take j)++[[D.sl true 5 [[D.int .i64 34,D.int .i64 0,D.str t.text,D.str [],D.sl true 1 []]]]]:=by rw[sV ht,Oa,List.map_append];rfl
   have h3:(Oa (ns.take j)).length=j:=by rw[Oa,zaO,zlt];omega
   simp only[Em,M.E8,M.Ae,dh];rw[zdt aB,aI];simp only[dM,fK,ht,Hg,aj,ztn,cT1,h3,y7];rw[bK aB,aI,bK aB,aI,bT aB aB,h2];rfl)
  (by simp only[Em,M.E8,M.Ae,dh];rw[Bq aB,bH,List.take_length]) 0 (Nat.zero_le _)
 have Lp:M.I7 (au l) c1 b (au ns) (0,[])=some ((ns.length:Int),Oa ns):=hloop;simp only[M.lZ,M.Kz,Lp,aj];rfl
def aFO(rows:aA):adL 1 [D.sl true 1 rows] 0=some rows:=rfl
def afI(ns:List Tk):(Oa ns).length=ns.length:=by rw[Oa,zaO]
def aAn(i:Nat)(ns:List Tk)(hl:l.length<=3000)(hi:i<=l.length):M.o8 (au l) (i:Int) true (au ns)=some (false,au l,(i:Int),true,au ns):=by
 have hloop:∀k j,l.length - j<=k->j<=l.length->∃v,M.yJ (au l) (i:Int) true (au ns) (j:Int)=some v:=by
  intro k;induction k with
  |zero=>intro j hk hj;exact⟨_,aO (by simp only[M.um,M.uj,dh];rw[Bq aB,bH])⟩
  |succ k ih=>
   intro j hk hj
   by_cases hlt:j<l.length
   ·obtain⟨t,ht⟩:∃t,l[j]? =some t:=⟨l[j],by simp[hlt]⟩
    have w:i64.wrap ((j:Int)+1)=((j+1:Nat):Int):=by rw[bT aB aB];omega
    have hdec:decide ((j:Int)<(l.length:Int))=true:=by rw[zdt];omega
    have hb:M.um (au l) (i:Int) true (au ns) (j:Int)=bif t.kind==1 then some (.inl ((j+1:Nat):Int)) else bif t.kind==2 then some (.inl ((j+1:Nat):Int)) else bif t.kind==37 then some (.inl ((j+1:Nat):Int)) else some (.inr (j:Int)):=by simp only[M.um,M.uj,dh,hdec,aI,dM,fK,ht,Hg,aj,VJ,w]
    rw[M.yJ];cases h1:t.kind==1 with
    |true=>rw[h1,aI] at hb;rw[bD hb];exact ih (j+1) aB aB
    |false=>
     cases h2:t.kind==2 with
     |true=>rw[h1,h2,bH,aI] at hb;rw[bD hb];exact ih (j+1) aB aB
     |false=>
      cases h3:t.kind==37 with
      |true=>rw[h1,h2,h3,bH,bH,aI] at hb;rw[bD hb];exact ih (j+1) aB aB
      |false=>rw[h1,h2,h3,bH,bH,bH] at hb;exact⟨_,aO hb⟩
   ·exact ih j aB hj
 obtain⟨v,hv⟩:=hloop _ i (zaN _) hi;simp only[M.o8,M.Ak,hv,aj,aI,aW]
def aFP(hl:l.length<=3000)(i:Nat)(ns:List Tk)(hi:i<=l.length)(hn:ns.length<=i):
  (bC l (sep l i (txt ns)).1==14)=true/\(∃ns',txt ns'=(sep l i (txt ns)).2/\M.o8 (au l) (i:Int) false (au ns)=some (true,au l,(((sep l i (txt ns)).1+1:Nat):Int),false,au ns'))\/
  (bC l (sep l i (txt ns)).1==14)=false/\M.o8 (au l) (i:Int) false (au ns)=some (false,au l,(i:Int),false,au ns):=by
 have hloop:∀k j (nt:iw),l.length - j<=k->j<=l.length->M.yJ (au l) (i:Int) false (au ns) (j:Int)=some ((sep l j nt).1:Int):=by
  intro k;induction k with
  |zero=>
   intro j nt hk hj;have e0:bC l j=0:=by rw[bC,List.getElem?_eq_none aB]
   rw[ajq,e0];exact aO (by simp only[M.um,M.uj,dh];rw[Bq aB,bH];rfl)
  |succ k ih=>
   intro j nt hk hj
   by_cases hlt:j<l.length
   ·obtain⟨t,ht⟩:∃t,l[j]? =some t:=⟨l[j],by simp[hlt]⟩
    have ek:bC l j=t.kind:=by rw[bC,ht]
    have w:i64.wrap ((j:Int)+1)=((j+1:Nat):Int):=by rw[bT aB aB];omega
    have hdec:decide ((j:Int)<(l.length:Int))=true:=by rw[zdt];omega
    have hb:M.um (au l) (i:Int) false (au ns) (j:Int)=bif t.kind==1 then some (.inl ((j+1:Nat):Int)) else bif t.kind==2 then some (.inl ((j+1:Nat):Int)) else bif t.kind==37 then some (.inl ((j+1:Nat):Int)) else some (.inr (j:Int)):=by simp only[M.um,M.uj,dh,hdec,aI,dM,fK,ht,Hg,aj,VJ,w]
    rw[M.yJ,ajq,ek];cases h1:t.kind==1 with
    |true=>rw[h1,aI] at hb;rw[bD hb,Bool.true_or,aI];exact ih (j+1) nt aB aB
    |false=>
     rw[Bool.false_or];cases h2:t.kind==2 with
     |true=>
      have h3:(t.kind==37)=false:=by
       have:t.kind=2:=by rwa [beq_iff_eq] at h2
       rw[this];rfl
      rw[h1,h2,bH,aI] at hb;rw[bD hb,h3,bH,aI];exact ih (j+1) _ aB aB
     |false=>
      cases h3:t.kind==37 with
      |true=>rw[h1,h2,h3,bH,bH,aI] at hb;rw[bD hb,aI];exact ih (j+1) nt aB aB
      |false=>rw[h1,h2,h3,bH,bH,bH] at hb;rw[aO hb,bH,bH]
   ·exact ih j nt aB hj
 have hv:=hloop _ i (txt ns) (zaN _) hi;obtain⟨ns',t1,hsp⟩:=am3 hl i ns hi hn;have hf:=Oz (l:=l) (nt:=txt ns) hi
 by_cases hlt:(sep l i (txt ns)).1<l.length
 ·obtain⟨t,ht⟩:∃t,l[(sep l i (txt ns)).1]? =some t:=⟨l[(sep l i (txt ns)).1],by simp[hlt]⟩
  have ek:bC l (sep l i (txt ns)).1=t.kind:=by rw[bC,ht]
  cases h14:t.kind==14 with
  |true=>
   have e14:bC l (sep l i (txt ns)).1=14:=by rw[ek];rwa [beq_iff_eq] at h14
   refine .inl ⟨by rw[ek,h14],ns',t1, ?_⟩;simp only[M.o8,M.Ak,hv,aj,bH,dh];rw[Bq aB,bH];simp only[dM,fK,ht,Hg,aj,VJ,bne,h14,zaM,bH,aW,aI,hsp,fB hl e14 (by decide)]
  |false=>refine .inr ⟨by rw[ek,h14], ?_⟩;simp only[M.o8,M.Ak,hv,aj,bH,dh];rw[Bq aB,bH];simp only[dM,fK,ht,Hg,aj,VJ,bne,h14,Bool.not_false,aI,aW]
 ·have e0:bC l (sep l i (txt ns)).1=0:=by rw[bC,List.getElem?_eq_none aB]
  refine .inr ⟨by rw[e0];rfl, ?_⟩;simp only[M.o8,M.Ak,hv,aj,bH,dh];rw[zdt aB,aI];simp only[aW,aI]
end Go.Proofs.YtoaeipkhadpbiaaGreatDoor
