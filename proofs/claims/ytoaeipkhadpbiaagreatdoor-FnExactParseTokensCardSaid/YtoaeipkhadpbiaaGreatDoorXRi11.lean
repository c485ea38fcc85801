import Derived.Test.YtoaeipkhadpbiaaGreatDoorXRs7
set_option linter.defProp false
namespace Go.Proofs.YtoaeipkhadpbiaaGreatDoor
set_option linter.unusedVariables false
set_option linter.unusedSimpArgs false
open Go Go.Vm
open Go.IntKind (i64)
variable {l:List Tk}
def aAo(hl:l.length<=3000)(n:Nat)(k:Int){i:Nat}{ns:List Tk}(h:bC l i≠0)(hn:ns.length<=i):AS l i ns.length (M.nU k true (au l) (i:Int) false (au ns)) (acM l n k i (txt ns)):=by
 have hlt:=dX h;simp only[M.nU,M.Ii,M.ig,M.pU,aW,aI,gu,aj,fB hl rfl h,zaM,bH,amY,acM];cases Ei (bC l (i+1)) with
 |true=>exact AS.mk (KU k [])
 |false=>simp only[bH];exact atc hl [] (at1 hl n false false (i:=i+1) (ns:=ns) aB aB) aB (by simp only[sizes];omega) (by simp[sizes]) (aDs hl aB aB aB)
def ar4(hl:l.length<=3000)(k:Int){i:Nat}{ns:List Tk}(h:bC l i≠0)(n0:Nat):AS l i n0 (M.nU k false (au l) (i:Int) false (au ns)) (.ok (.mk k 0 [] [] []) (i+1) (txt ns)):=by simp only[M.nU,M.Ii,aW,aI,gu,aj,fB hl rfl h,Bool.not_false];exact AS.mk (KU k [])
def aCL(hl:l.length<=3000){n i:Nat}{nt:iw}{e:Int}(hi:i<=l.length):(ag4 l n e i nt).sat λL _ _=>sizes L<=9000:=by
 rw[ag4,dY];refine bP (acN (l:=l) hi) λL j m hL=> ?_
 rw[dY,vF];intro _;show sizes L<=9000;omega
def aMQ(hl:l.length<=3000)(n:Nat){i:Nat}{ns:List Tk}(h:bC l i=23)(hn:ns.length<=i):AS l i ns.length (M.xE (au l) (i:Int) false (au ns)) (amN l n i (txt ns)):=by
 have hlt:i<l.length:=dX (by rw[h];decide);simp only[M.xE,M.Ja,aW,aI,fB hl h (by decide),aj,amN];rw[nameP];cases h6:bC l (i+1)==6 with
 |false=>
  simp only[sF h6,aW,aI,gu,aj,bne,bH,jO,aFN];cases bC l (i+1)==34 with
  |false=>simp only[Bool.not_false,aI];exact AS.fC (R:=(Tn.mk 27 0 [] [] []).flat 0) aB aB aB (KU 27 []) (by rw[Tn.flat_length,SS];omega) (UA _ (by rw[SS];omega))
  |true=>obtain⟨R',_,e1,e2,e3⟩:=Z7 27 0 [] [] [] (b:=0) (by simp[lens]) aB (by simp) KB.nil;have e1':M.aX 27 0 [] [] [] (ak [])=some (aV true R'):=e1;simp only[zaM,bH,e1',aj,aW,aI,aS];exact AS.fC aB aB aB (aS _ _) aB e3
 |true=>
  have aFM:=cO h6 (by decide);have e6:bC l (i+1)=6:=by rwa [beq_iff_eq] at h6
  simp only[fB hl e6 (by decide),aW,aI,gu,aj,bne,PR.bind];cases hc:bC l (i+1+1)==34 with
  |false=>simp only[Bool.not_false,aI,bH];exact AS.mk (KU 27 _)
  |true=>
   have hlt':=cO hc (by decide);have e34:bC l (i+1+1)=34:=by rwa [beq_iff_eq] at hc
   simp only[zaM,bH,aI,fB hl e34 (by decide),aj,aW];have e:(NQ l n false false [] (i+1+1+1) (txt ns)).bind (λL j nt=>(iV l 35 j nt).bind λ_ j nt=>PR.ok (Tn.mk 27 0 (zK l (i+1)) [] L) j nt)=
     (ag4 l n 35 (i+1+1+1) (txt ns)).bind λL j nt=> .ok (Tn.mk 27 0 (zK l (i+1)) [] L) j nt:=by
    rw[ag4];cases NQ l n false false [] (i+1+1+1) (txt ns) with
    |ok L j m=>simp only[PR.bind];cases iV l 35 j m<;>rfl
    |bad j=>rfl
    |out=>rfl
   show AS l i ns.length _ ((NQ l n false false [] (i+1+1+1) (txt ns)).bind (λL j nt=>(iV l 35 j nt).bind λ_ j nt=>PR.ok (Tn.mk 27 0 (zK l (i+1)) [] L) j nt));rw[e];refine AY.elim (Q:=AS l i ns.length) (aMP hl n (i:=i+1+1+1) (ns:=ns) aB aB) (λ_=>trivial) (λfl j ns' P g1 g2 g3 g4 g5 g6=> ?_) (λL fl j ns' he=> ?_)
   ·obtain⟨R',_,e1,e2,e3⟩:=Z7 27 0 (zK l (i+1)) [] P (b:=3 * (j - (i+1+1+1))) g4 aB aB g6;simp only[zu,e1,aj,aW,aI,aS];exact AS.fC aB g2 g3 (aS _ _) aB e3
   ·have hs:sizes L<=9000:=gY (aCL hl aB) he;have hmk:=Dc 27 0 (zK l (i+1)) [] [] L aB;simp only[JL,hmk,aj,aW,aI,aS];exact AS.mk (aS _ _)
def adJ(l:List Tk):Prop:=∀i,wO (bC l i)=true->M.mV (bC l i)=some (zK l i)
noncomputable def prT(op:Int)(c:aA)(c1:Int)(c2:Bool)(rows:aA)(c3:aA):Option TY:=
 (bif ah c3 then
 ((M.aK c c1 c2 c3).bind λFb=>
 (bif !Fb.2.2.2.1 then
 ((M.jo Fb.1).bind λaEI=>
 (bif aEI then
 (bif ah Fb.2.2.2.2 then
 ((M.aG Fb.1 Fb.2.1 Fb.2.2.1 Fb.2.2.2.1 Fb.2.2.2.2).bind λaiW=>
 ((M.mV Fb.1).bind λaEJ=>
 (bif ah aiW.2.2.2.2.2.2 then
 ((M.dQ 9 false false false false aiW.2.2.2.1 aiW.2.2.2.2.1 aiW.2.2.2.2.2.1 aiW.2.2.2.2.2.2).bind λadr=>
 (bif((rows.length+[[D.sl false 5 (ak adr.2.1)]].length) * 24).ble 140737488355328 then
 (bif(rows.length+[[D.sl false 5 (ak adr.2.1)]].length).ble 140737488355328 then
 ((M.aX 21 op [] aEJ [] (ak (rows++[[D.sl false 5 (ak adr.2.1)]]))).bind λaEK=>
 (bif ah adr.2.2.2.2.2.2 then
 (some ((false,ak aEK,adr.2.2.2.1,adr.2.2.2.2.1,adr.2.2.2.2.2.1,adr.2.2.2.2.2.2))) else none)) else none) else none)) else none))) else none) else
 ((M.aX 21 op [] [] [] (ak rows)).bind λaEL=>
 (bif ah Fb.2.2.2.2 then
 (some ((false,ak aEL,Fb.2.1,Fb.2.2.1,Fb.2.2.2.1,Fb.2.2.2.2))) else none)))) else
 ((M.aX 21 op [] [] [] (ak rows)).bind λaEM=>
 (bif ah Fb.2.2.2.2 then
 (some ((false,ak aEM,Fb.2.1,Fb.2.2.1,Fb.2.2.2.1,Fb.2.2.2.2))) else none)))) else none)
def aAp(hl:l.length<=3000)(hx:adJ l)(n:Nat)(op:Int){i n0:Nat}{L:List Tn}{j:Nat}{ns:List Tk}(hij:i<j)(hj:j<=l.length)(hn:ns.length<=j)(hL:sizes L+2 * i<=2 * j)(h6:L.length<=6):
  AS l i n0 (prT op (au l) (j:Int) false (parts L) (au ns)) (bif wO (bC l j) then(ex l n 9 false false (j+1) (txt ns)).bind λx k nt=> .ok (.mk 21 op [] (zK l j) (L++[x.1])) k nt else .ok (.mk 21 op [] [] L) j (txt ns)):=by
 simp only[prT,aW,aI,gu,aj,Bool.not_false,amZ];cases hs:wO (bC l j) with
 |false=>simp only[bH,JL,Dc 21 op [] [] [] L aB,aj,aS];exact AS.mk (aS _ _)
 |true=>
  have hlt:=dX (Zl hs);simp only[aI,fB hl rfl (Zl hs),aj,hx j hs,aW];refine AX.elim (Q:=AS l i n0) (at9 hl n false false (i:=j+1) (ns:=ns) aB aB) (λ_=>trivial) (λfl rows hd j2 ns' R g1 g2 g3 g4 g5=> ?_) (λx fl rows j2 ns' h1 he=> ?_)
  ·have g51:=g5.1;obtain⟨R',_,e1,e2,e3⟩:=Z7 21 op [] (zK l j) ((L.map λt=>t.flat 0)++[R]) (b:=sizes L+R.length) (by rw[vG,lW,lens,lens];omega) aB (by rw[zT,zaO,y7];omega) (KB.trees L aB (KB.cons g5.2 KB.nil));simp only[oq,y7];rw[bK aB,aI,bK aB,aI];simp only[LK g4,zu,e1,aj,aW,aI,aS];exact AS.fC aB g2 g3 (aS _ _) aB e3
  ·have hs2:=gY (EK aB aB aB) he;simp only[zaO] at hs2;simp only[oq,y7];rw[bK aB,aI,bK aB,aI];simp only[FU h1,JL,Dc 21 op [] (zK l j) [] (L++[x.1]) (by rw[sizes1];omega),aj,aW,aI,aS];exact AS.mk (aS _ _)
def atf(hl:l.length<=3000)(op:Int){i n0:Nat}{P:List (List Nd)}{j:Nat}{ns:List Tk}(g1:i<=j)(g2:j<=l.length)(g3:ns.length<=l.length)(g4:lens P<=3 * (j - i))(g5:P.length<=8)(g6:KB P):
  AS l i n0 (prT op (au l) (j:Int) true (qo P) (au ns)) (.bad j):=by
 obtain⟨R',_,e1,e2,e3⟩:=Z7 21 op [] [] P (b:=3 * (j - i)) g4 aB aB g6;simp only[prT,aW,aI,gu,aj,zaM,bH,zu,e1,aS];exact AS.fC aB g2 g3 (aS _ _) aB e3
abbrev S5:=aA×Int×Bool×aA×aA
def AJ(l:List Tk)(i:Nat)(o:Option (S5⊕S5)):PR (List Tn)->Prop
 | .ok L j nt=>∃ns,txt ns=nt/\o=some (.inl (au l,(j:Int),false,parts L,au ns))
 | .bad j=>∃ns P u,i<=j/\j<=l.length/\ns.length<=l.length/\lens P<=3 * (j - i)/\P.length<=8/\KB P/\o=some u/\(u=.inl (au l,(j:Int),true,qo P,au ns)\/u=.inr (au l,(j:Int),true,qo P,au ns))
 | .out=>True
def aAq(hl:l.length<=3000)(op:Int)(hop:op=1\/op=0):
  ∀(n i0:Nat) (L:List Tn) (i:Nat) (ns:List Tk),(op=1\/0<L.length\/Ei (bC l i)=false/\wO (bC l i)=false)->
    L.length<6->i0<=i->i<=l.length->ns.length<=i->sizes L+2 * i0<=2 * i->AJ l i0 (M.vV 21 op [] [] (au l,(i:Int),false,parts L,au ns)) (NQ l n false true L i (txt ns))
 |0,_,_,_,_,_,_,_,_,_,_=>by rw[NQ];trivial
 |n+1,i0,L,i,ns,hc0,hL,hi0,hi,hn,hsz=>by
  rw[NQ,M.vV];have hb:M.ru 21 op [] [] (au l,(i:Int),false,parts L,au ns)=(M.dQ 1 false false true false (au l) (i:Int) false (au ns)).bind λJC=>
    (bif(((parts L).length+[[D.sl false 5 (ak JC.2.1)]].length) * 24).ble 140737488355328 then
     (bif((parts L).length+[[D.sl false 5 (ak JC.2.1)]].length).ble 140737488355328 then
     (bif ah JC.2.2.2.2.2.2 then
      ((M.aK JC.2.2.2.1 JC.2.2.2.2.1 JC.2.2.2.2.2.1 JC.2.2.2.2.2.2).bind λuf=>
      (bif uf.1 !=36 then
       (some (.inr (.inl ((uf.2.1,uf.2.2.1,uf.2.2.2.1,parts L++[[D.sl false 5 (ak JC.2.1)]],uf.2.2.2.2))))) else
       (bif((parts L++[[D.sl false 5 (ak JC.2.1)]]).length:Int)==6 then
       (bif ah uf.2.2.2.2 then
        ((M.aG 36 uf.2.1 uf.2.2.1 true uf.2.2.2.2).bind λRj=>
        (bif ah Rj.2.2.2.2.2.2 then
         ((M.aT Rj.2.2.2.1 Rj.2.2.2.2.1 Rj.2.2.2.2.2.1 Rj.2.2.2.2.2.2).bind λU5=>
         (some (.inl ((U5.1,U5.2.1,U5.2.2.1,parts L++[[D.sl false 5 (ak JC.2.1)]],U5.2.2.2))))) else none)) else none) else
       (bif ah uf.2.2.2.2 then
        ((M.aG 36 uf.2.1 uf.2.2.1 uf.2.2.2.1 uf.2.2.2.2).bind λRk=>
        (bif ah Rk.2.2.2.2.2.2 then
         ((M.aT Rk.2.2.2.1 Rk.2.2.2.2.1 Rk.2.2.2.2.2.1 Rk.2.2.2.2.2.2).bind λU6=>
         (some (.inl ((U6.1,U6.2.1,U6.2.2.1,parts L++[[D.sl false 5 (ak JC.2.1)]],U6.2.2.2))))) else none)) else none)))) else none) else none) else none):=by
   by_cases h1:op=1
   ·subst h1;simp only[Em,M.ru,M.qZ,Bool.not_false,aI,aW,aj,BEq.rfl]
   ·have h0:op=0:=aB;subst h0;have w:((0:Int)==1)=false:=rfl
    by_cases hL0:0<L.length
    ·have hd:decide (((parts L).length:Int)>0)=true:=by rw[zdt];rw[oq];omega
     simp only[Em,M.ru,M.qZ,Bool.not_false,aI,bH,aW,aj,w,hd]
    ·have hd:decide (((parts L).length:Int)>0)=false:=by rw[Bq];rw[oq];omega
     have hes:Ei (bC l i)=false/\wO (bC l i)=false:=by
      rcases hc0 with h|h|h
      ·exact absurd h h1
      ·exact absurd h hL0
      ·exact h
     simp only[Em,M.ru,M.qZ,Bool.not_false,aI,bH,aW,aj,w,hd,gu,amY,hes.1,amZ,hes.2]
  have hr:=at1 hl n false true hi hn;have y5:=(sats l n).ex 1 false true i (txt ns) aB aB hi;generalize ex l n 1 false true i (txt ns)=p at hr y5|-;cases p with
  |out=>trivial
  |bad j=>
   obtain⟨fl,rows,hd,ns',R,g1,g2,g3,g4,g5,h2⟩:=hr;have hP:lens ((L.map λt=>t.flat 0)++[R])<=3 * (j - i0):=by rw[vG,lW,lens,lens];have:=g5.1;omega
   have hKB:KB ((L.map λt=>t.flat 0)++[R]):=KB.trees L aB (KB.cons g5.2 KB.nil);have hlen:((L.map λt=>t.flat 0)++[R]).length<=8:=by rw[zT,zaO,y7];omega
   rw[h2,aj] at hb;simp only[LK g4,oq,y7,aW,aI,gu,aj,bne,jO,IC] at hb;rw[bK aB,aI,bK aB,aI] at hb;simp only[PR.bind];cases hc:bC l j==36 with
   |false=>simp only[hc,Bool.not_false,aI] at hb;exact⟨ns',_,_,aB,g2,g3,hP,hlen,hKB,aO hb,.inl rfl⟩
   |true=>simp only[hc,zaM,bH,Bool.cond_self] at hb;rw[bD hb];exact⟨ns',_,_,aB,g2,g3,hP,hlen,hKB,aO rfl,.inr rfl⟩
  |ok x j m=>
   obtain⟨fl,rows,ns',h1,rfl,h2⟩:=hr;have hs':FE l i (txt ns).length x.1.size j (txt ns').length:=y5;simp only[zaO] at hs';rw[h2,aj] at hb;simp only[FU h1,oq,y7,zT,aW,aI,gu,aj,bne] at hb;rw[bK aB,aI,bK aB,aI] at hb;simp only[PR.bind];cases hc:bC l j==36 with
   |false=>simp only[hc,Bool.not_false,aI] at hb;rw[aO hb];exact⟨ns',rfl,rfl⟩
   |true=>
    have hlt:=cO hc (by decide);have e36:bC l j=36:=by rwa [beq_iff_eq] at hc
    simp only[hc,zaM,bH] at hb;simp only[aI];cases h6:Nat.beq (L.length+1) 6 with
    |true=>
     have e:=Bv h6;have e':(((L.length+1:Nat):Int)==6)=true:=by rw[e];rfl
     simp only[e',aI,jO,IC,aj,aW] at hb;rw[bD hb];refine⟨ns',(L++[x.1]).map λt=>t.flat 0,.inr _,aB,aB,aB, ?_, ?_, ?_,aO rfl,.inr (by rw[uI])⟩
     ·rw[lW,sizes1];omega
     ·rw[zaO,zT,y7];omega
     ·have:=KB.trees (P:=[]) (L++[x.1]) (by rw[sizes1];omega) KB.nil
      rwa [List.append_nil] at this
    |false=>
     have hne:L.length+1≠6:=Nat.ne_of_beq_eq_false h6;have e':(((L.length+1:Nat):Int)==6)=false:=by rw[zbn];omega
     obtain⟨Ju,t2,hln⟩:=Hf hl (j+1) ns' aB aB;have hf:=Bj (l:=l) (i:=j+1) (nt:=txt ns') aB;simp only[e',bH,fB hl e36 (by decide),aj,aW,aI,hln] at hb;rw[bD hb,bH,<-t2];rw[<-t2] at hf;simp only[zaO] at hf;exact aAq hl op hop n i0 (L++[x.1]) _ Ju (.inr (.inl (by rw[zT,y7];omega))) (by rw[zT,y7];omega) aB aB aB (by rw[sizes1];omega)
def aAr(hl:l.length<=3000)(hx:adJ l)(n:Nat)(op:Int){i:Nat}{ns:List Tk}(hi:i<l.length)(hn:ns.length<=i){o:Option (S5⊕S5)}(h:AJ l (i+1) o (NQ l n false true [] (i+1) (txt ns))):
  AS l i ns.length (o.bind λu=>iD u (λt=>prT op t.1 t.2.1 t.2.2.1 t.2.2.2.1 t.2.2.2.2) λu=>letE u λt=>prT op t.1 t.2.1 t.2.2.1 t.2.2.2.1 t.2.2.2.2)
   ((NQ l n false true [] (i+1) (txt ns)).bind λL j nt=>bif wO (bC l j) then(ex l n 9 false false (j+1) nt).bind λx k nt=> .ok (.mk 21 op [] (zK l j) (L++[x.1])) k nt else .ok (.mk 21 op [] [] L) j nt):=by
 have y5:=acN (l:=l) (n:=n) (a:=false) (b:=true) (i:=i+1) (nt:=txt ns) aB;have hsh:=Zm (l:=l) (a:=false) (b:=true) n [] (i+1) (txt ns) (by decide);generalize NQ l n false true [] (i+1) (txt ns)=p at h y5 hsh|-;cases p with
 |out=>trivial
 |bad j=>
  obtain⟨ns',P,u,g1,g2,g3,g4,g5,g6,rfl,rfl|rfl⟩:=h
  ·exact atf hl op aB g2 g3 aB g5 g6
  ·exact atf hl op aB g2 g3 aB g5 g6
 |ok L j m=>obtain⟨ns',rfl,rfl⟩:=h;have hs':FE l (i+1) (txt ns).length (sizes L) j (txt ns').length:=y5;have h6:L.length<=6:=hsh;simp only[zaO] at hs';exact aAp hl hx n op aB aB aB aB h6
def aDt(hl:l.length<=3000)(hx:adJ l)(n:Nat){i:Nat}{ns:List Tk}(hk:bC l i=25\/bC l i=26)(hn:ns.length<=i):AS l i ns.length (M.sS (au l) (i:Int) false (au ns)) (ag2 l n i (txt ns)):=by
 have hlt:i<l.length:=dX (by rcases hk with h|h<;>rw[h]<;>decide);have hk0:bC l i≠0:=by rcases hk with h|h<;>rw[h]<;>decide
 rcases hk with h|h
 ·have w2:((25:Int)==26)=false:=rfl;have w3:(25:Int) - 25=0:=rfl;have wk:(bC l i==26)=false:=by rw[h];rfl
  simp only[Em,M.sS,M.Gf,aW,aI,gu,aj,h,fB hl h (by decide),w2,bH,ag2,w3,Bool.false_or]
  by_cases hes:Ei (bC l (i+1))=false/\wO (bC l (i+1))=false
  ·rw[hes.1,hes.2];simp only[Bool.or_self,Bool.not_false,aI];exact aAr hl hx n 0 hlt hn (aAq hl 0 (.inr rfl) n (i+1) [] (i+1) ns (.inr (.inr hes)) (by decide) (zaN _) aB aB (by rw[sizes0];omega))
  ·have hor:(Ei (bC l (i+1))||wO (bC l (i+1)))=true:=by
    cases h1:Ei (bC l (i+1)) with
    |true=>rfl
    |false=>
     cases h2:wO (bC l (i+1)) with
     |true=>rfl
     |false=>exact absurd ⟨h1,h2⟩ hes
   rw[hor];have hb:M.ru 21 0 [] [] (au l,((i+1:Nat):Int),false,[],au ns)=some (.inr (.inr (au l,((i+1:Nat):Int),false,[],au ns))):=by
    have w:((0:Int)==1)=false:=rfl;have hd:decide (((([]:aA).length:Nat):Int)>0)=false:=rfl;simp only[Em,M.ru,M.qZ,Bool.not_false,aI,bH,aW,aj,w,hd,gu,amY,amZ];cases h1:Ei (bC l (i+1)) with
    |true=>rfl
    |false=>rw[h1,Bool.false_or] at hor;simp only[Bool.not_false,aI,hor,zaM,bH]
   rw[M.vV,aO hb];simp only[zaM,bH,aj,iD,letE,PR.bind];exact aAp hl hx n 0 (L:=[]) aB aB aB (by rw[sizes0];omega) (by decide)
 ·have w3:(26:Int) - 25=1:=rfl;have wk:(bC l i==26)=true:=by rw[h];rfl
  simp only[Em,M.sS,M.Gf,aW,aI,gu,aj,h,fB hl h (by decide),ag2,w3,BEq.rfl,Bool.true_or];exact aAr hl hx n 1 hlt hn (aAq hl 1 (.inl rfl) n (i+1) [] (i+1) ns (.inl rfl) (by decide) (zaN _) aB aB (by rw[sizes0];omega))
variable {l:List Tk}
def BB(l:List Tk)(i:Nat)(ns:List Tk)(b:Nat)(o:Option TY):Prop:=∃fl rows ns' R,o=some (fl,rows,au l,(i:Int),true,au ns')/\ak rows=aV false R/\R.length+ns'.length<=ns.length+b/\K1 R/\ns'.length<=ns.length
def BB.as{i i0 n0 b:Nat}{ns:List Tk}{o:Option TY}(h:BB l i ns b o)(h1:i0<=i)(h2:i<=l.length)(h3:ns.length<=l.length)(h4:ns.length+b<=9 * (i - i0)+n0+l.length+4):AS l i0 n0 o (.bad i):=by obtain⟨fl,rows,ns',R,rfl,g1,g2,g3,g4⟩:=h;exact AS.fC h1 h2 aB g1 aB g3
def BB.elim{β:Type}{i b:Nat}{ns:List Tk}{o:Option TY}(h:BB l i ns b o){f:TY->Option β}{Q:Option β->Prop}
  (hb:∀fl rows ns' R,ak rows=aV false R->R.length+ns'.length<=ns.length+b->K1 R->ns'.length<=ns.length->Q (f (fl,rows,au l,(i:Int),true,au ns'))):Q (o.bind f):=by
 obtain⟨fl,rows,ns',R,rfl,g1,g2,g3,g4⟩:=h;exact hb fl rows ns' R g1 g2 g3 g4
def aTj(A B C E:List Nd):ak [[D.sl false 5 (aV false A)],[D.sl false 5 (aV false B)],[D.sl false 5 (aV false C)],[D.sl false 5 (aV false E)]]=qo [A,B,C,E]:=zu [A,B,C,E]
def fin1(k op:Int)(x y:aP){A:List Nd}(hA:K1 A)(h:A.length<=80000):∃R',M.dG k op x y [] (ak [[D.sl false 5 (aV false A)]])=some (false,aV false R')/\R'.length<=A.length+1/\K1 R':=by obtain⟨R',e1,_,e2,e3⟩:=Z7 k op x y [A] (b:=A.length) (by simp only[lens];omega) aB (by simp) (KB.cons hA KB.nil);exact⟨R',by rw[ag5];exact e1,e2,e3⟩
def fin2(k op:Int)(x y:aP){A B:List Nd}(hA:K1 A)(hB:K1 B)(h:A.length+B.length<=80000):∃R',M.dG k op x y [] (ak [[D.sl false 5 (aV false A)],[D.sl false 5 (aV false B)]])=some (false,aV false R')/\R'.length<=A.length+B.length+1/\K1 R':=by obtain⟨R',e1,_,e2,e3⟩:=Z7 k op x y [A,B] (b:=A.length+B.length) (by simp only[lens];omega) aB (by simp) (KB.cons hA (KB.cons hB KB.nil));exact⟨R',by rw[arX];exact e1,e2,e3⟩
def aTk(k op:Int)(x y:aP){A B C E:List Nd}(hA:K1 A)(hB:K1 B)(hC:K1 C)(hE:K1 E)(h:A.length+B.length+C.length+E.length<=80000):
  ∃R',M.dG k op x y [] (ak [[D.sl false 5 (aV false A)],[D.sl false 5 (aV false B)],[D.sl false 5 (aV false C)],[D.sl false 5 (aV false E)]])=some (false,aV false R')/\R'.length<=A.length+B.length+C.length+E.length+1/\K1 R':=by
 obtain⟨R',e1,_,e2,e3⟩:=Z7 k op x y [A,B,C,E] (b:=A.length+B.length+C.length+E.length) (by simp only[lens];omega) aB (by simp) (KB.cons hA (KB.cons hB (KB.cons hC (KB.cons hE KB.nil))));exact⟨R',by rw[aTj];exact e1,e2,e3⟩
def K1.tree(t:Tn)(h:t.size<=100000):K1 (t.flat 0):=UA t h
def aCM(m:Nat)(i:Nat)(ns:List Tk):BB l i ns 1 (M.oI (m+1) (au l) (i:Int) true (au ns)):=by rw[M.WJ];simp only[M.Ap,aI,aW];exact⟨_,_,ns,(Tn.mk 22 0 [] [] []).flat 0,rfl,KU 22 [],by rw[Tn.flat_length,SS];omega,K1.tree _ (by rw[SS];omega),zaN _⟩
def Zo(ns:List Tk):ak (ak (Oa ns))=parts (Dq (txt ns)):=by rw[Zn,JL]
def SY(ns:List Tk):(Dq (txt ns)).length=ns.length:=by rw[Bl,zaO]
def Ej(ns:List Tk):sizes (Dq (txt ns))=ns.length:=by rw[ZF,zaO]
def aju(m:Nat)(i:Nat)(ns:List Tk)(hn:ns.length<=3000):BB l i ns 1 (M.qR (m+1) (au l) (i:Int) true (au ns)):=by
 have hb:M.rC (M.oI m) (au l,(i:Int),true,[],au ns)=some (.inr (au l,(i:Int),true,parts (Dq (txt ns)),au [])):=by simp only[Em,M.rC,M.vX,aW,aI,am4,aj,QI (l:=l) _ _ ns aB,Zo,List.nil_append,zln,oq,SY];rw[bK aB,aI,bK aB,aI]
 have hmk:=Dc 33 0 [] [] [] (Dq (txt ns)) (by rw[Ej];omega);rw[M.Vs];simp only[M.yK,aW,aI,jO,aj];rw[M.vY,aO hb];simp only[aj,aW,aI,jO,JL,hmk,aS];exact⟨_,_,[],_,rfl,aS _ _,by rw[Tn.flat_length,PW,Ej];simp,K1.tree _ (by rw[PW,Ej];omega),by simp⟩
def am5(m:Nat)(i:Nat)(ns:List Tk)(hn:ns.length<=3000):BB l i ns 2 (M.nH (m+2) (au l) (i:Int) true (au ns)):=by
 have hmk:=Dc 33 0 [] [] [] (Dq (txt ns)) (by rw[Ej];omega);rw[M.WI];simp only[Em,M.Aj,aW,aI,IC,aj,gu,jO,QI (l:=l) _ _ ns aB,aFO];cases bC l i==30 with
 |true=>
  simp only[aI];refine(aju m i ns hn).elim (Q:=BB l i ns 2) λfl rows ns' R g1 g2 g3 g4=> ?_
  simp only[aW,aI];exact⟨_,_,ns',R,rfl,fzN g1,aB,g3,g4⟩
 |false=>
  cases bC l i==37 with
  |true=>simp only[aI,bH,Zn,hmk,aj,aS];exact⟨_,_,[],_,rfl,aS _ _,by rw[Tn.flat_length,PW,Ej];simp,K1.tree _ (by rw[PW,Ej];omega),by simp⟩
  |false=>
   simp only[bH];refine(aCM m i ([]:List Tk)).elim (Q:=BB l i ns 2) λfl rows ns' R g1 g2 g3 g4=> ?_
   obtain⟨R',_,e1,e2,e3⟩:=Z7 33 0 [] [] (((Dq (txt ns)).map λt=>t.flat 0)++[R]) (b:=ns.length+R.length) (by rw[vG,lW,Ej,lens,lens];omega) (by simp at g2;omega) (by rw[zT,zaO,y7,SY];omega) (KB.trees _ (by rw[Ej];omega) (KB.cons g3 KB.nil));simp only[afI,y7];rw[bK aB,aI,bK aB,aI,OD,Zn,show ak [[D.sl false 5 (ak rows)]]=qo [R] by rw[g1];exact ag5 R,uI,show qo ((Dq (txt ns)).map λt=>t.flat 0)++qo [R]=qo (((Dq (txt ns)).map λt=>t.flat 0)++[R]) by simp[qo],e1];simp only[aj,aW,aI,aS];simp only[zln,Nat.zero_add] at g2 g4;exact⟨_,_,ns',R',rfl,aS _ _,aB,e3,aB⟩
noncomputable def apT(body:aA->Int->Bool->aA->Option TY)(ra rb rc:aA)(c:aA)(c1:Int)(c2:Bool)(c3:aA):Option TY:=
 (bif ah c3 then
 ((M.aG 33 c c1 c2 c3).bind λRn=>
 (bif ah Rn.2.2.2.2.2.2 then
 ((body Rn.2.2.2.1 Rn.2.2.2.2.1 Rn.2.2.2.2.2.1 Rn.2.2.2.2.2.2).bind λOu=>
 ((M.dG 31 0 [] [] [] (ak [[D.sl false 5 (ak ra)],[D.sl false 5 (ak rb)],[D.sl false 5 (ak rc)],[D.sl false 5 (ak Ou.2.1)]])).bind λarz=>
 (bif ah Ou.2.2.2.2.2 then
 (some ((false,ak arz.2,Ou.2.2.1,Ou.2.2.2.1,Ou.2.2.2.2.1,Ou.2.2.2.2.2))) else none))) else none)) else none)
noncomputable def am6(body:aA->Int->Bool->aA->Option TY)(ra rb:aA)(c:aA)(c1:Int)(c2:Bool)(c3:aA):Option TY:=
 (bif ah c3 then
 ((M.aG 37 c c1 c2 c3).bind λWA=>
 (bif ah WA.2.2.2.2.2.2 then
 ((M.aT WA.2.2.2.1 WA.2.2.2.2.1 WA.2.2.2.2.2.1 WA.2.2.2.2.2.2).bind λWB=>
 (M.ig.bind λWC=>
 (bif ah WB.2.2.2 then
 ((M.gW 33 WC.1 WC.2.1 WC.2.2.1 WC.2.2.2.1 WC.2.2.2.2 WB.1 WB.2.1 WB.2.2.1 WB.2.2.2).bind λUh=>
 (bif ah Uh.2.2.2.2.2 then
 ((M.aG 33 Uh.2.2.1 Uh.2.2.2.1 Uh.2.2.2.2.1 Uh.2.2.2.2.2).bind λRn=>
 (bif ah Rn.2.2.2.2.2.2 then
 ((body Rn.2.2.2.1 Rn.2.2.2.2.1 Rn.2.2.2.2.2.1 Rn.2.2.2.2.2.2).bind λOu=>
 ((M.dG 31 0 [] [] [] (ak [[D.sl false 5 (ak ra)],[D.sl false 5 (ak rb)],[D.sl false 5 (ak Uh.2.1)],[D.sl false 5 (ak Ou.2.1)]])).bind λarz=>
 (bif ah Ou.2.2.2.2.2 then
 (some ((false,ak arz.2,Ou.2.2.1,Ou.2.2.2.1,Ou.2.2.2.2.1,Ou.2.2.2.2.2))) else none))) else none)) else none)) else none))) else none)) else none)
noncomputable def forA(body:aA->Int->Bool->aA->Option TY)(ra:aA)(c:aA)(c1:Int)(c2:Bool)(c3:aA):Option TY:=
 (bif ah c3 then
 ((M.aG 37 c c1 c2 c3).bind λaiQ=>
 (bif ah aiQ.2.2.2.2.2.2 then
 ((M.aT aiQ.2.2.2.1 aiQ.2.2.2.2.1 aiQ.2.2.2.2.2.1 aiQ.2.2.2.2.2.2).bind λaiR=>
 (M.ig.bind λaiS=>
 (bif ah aiR.2.2.2 then
 ((M.gW 37 aiS.1 aiS.2.1 aiS.2.2.1 aiS.2.2.2.1 aiS.2.2.2.2 aiR.1 aiR.2.1 aiR.2.2.1 aiR.2.2.2).bind λafs=>
 (bif ah afs.2.2.2.2.2 then
 ((M.aG 37 afs.2.2.1 afs.2.2.2.1 afs.2.2.2.2.1 afs.2.2.2.2.2).bind λWA=>
 (bif ah WA.2.2.2.2.2.2 then
 ((M.aT WA.2.2.2.1 WA.2.2.2.2.1 WA.2.2.2.2.2.1 WA.2.2.2.2.2.2).bind λWB=>
 (M.ig.bind λWC=>
 (bif ah WB.2.2.2 then
 ((M.gW 33 WC.1 WC.2.1 WC.2.2.1 WC.2.2.2.1 WC.2.2.2.2 WB.1 WB.2.1 WB.2.2.1 WB.2.2.2).bind λUh=>
 (bif ah Uh.2.2.2.2.2 then
 ((M.aG 33 Uh.2.2.1 Uh.2.2.2.1 Uh.2.2.2.2.1 Uh.2.2.2.2.2).bind λRn=>
 (bif ah Rn.2.2.2.2.2.2 then
 ((body Rn.2.2.2.1 Rn.2.2.2.2.1 Rn.2.2.2.2.2.1 Rn.2.2.2.2.2.2).bind λOu=>
 ((M.dG 31 0 [] [] [] (ak [[D.sl false 5 (ak ra)],[D.sl false 5 (ak afs.2.1)],[D.sl false 5 (ak Uh.2.1)],[D.sl false 5 (ak Ou.2.1)]])).bind λarz=>
 (bif ah Ou.2.2.2.2.2 then
 (some ((false,ak arz.2,Ou.2.2.1,Ou.2.2.2.1,Ou.2.2.2.2.1,Ou.2.2.2.2.2))) else none))) else none)) else none)) else none))) else none)) else none)) else none))) else none)) else none)
section
variable {body:aA->Int->Bool->aA->Option TY} (hbb:∀i (ns:List Tk),ns.length<=3000->BB l i ns 2 (body (au l) (i:Int) true (au ns)))
include hbb
theorem ar5{ra rb rc:aA}{A B C:List Nd}(hA:ak ra=aV false A)(hB:ak rb=aV false B)(hC:ak rc=aV false C)(kA:K1 A)(kB:K1 B)(kC:K1 C)(hs:A.length+B.length+C.length<=70000){i:Nat}{ns:List Tk}(hn:ns.length<=3000):
  BB l i ns (A.length+B.length+C.length+3) (apT body ra rb rc (au l) (i:Int) true (au ns)):=by
 simp only[apT,aW,aI,jO,aj];refine(hbb i ns hn).elim (Q:=BB l i ns (A.length+B.length+C.length+3)) λfl rows ns' R g1 g2 g3 g4=> ?_
 obtain⟨R',e1,e2,e3⟩:=aTk 31 0 [] [] kA kB kC g3 aB;simp only[hA,hB,hC,g1,e1,aj,aW,aI,aS];exact⟨_,_,ns',R',rfl,aS _ _,aB,e3,g4⟩
theorem ar6{ra rb:aA}{A B:List Nd}(hA:ak ra=aV false A)(hB:ak rb=aV false B)(kA:K1 A)(kB:K1 B)(hs:A.length+B.length<=69000){i:Nat}{ns:List Tk}(hn:ns.length<=3000):
  BB l i ns (A.length+B.length+4) (am6 body ra rb (au l) (i:Int) true (au ns)):=by
 simp only[am6,aW,aI,jO,aj,IC,M.ig,M.pU];obtain⟨fl,rc,C,e1,e2,e3,e4⟩:=ar1 (l:=l) 33 1 false false false false i ns;rw[e1];simp only[aj,aW,aI];have hC:=ar5 hbb hA hB e2 kA kB e4 aB (i:=i) hn;simp only[apT,aW,aI] at hC;obtain⟨fl',rows,ns',R,h1,h2,h3,h4,h5⟩:=hC;exact⟨fl',rows,ns',R,h1,h2,aB,h4,h5⟩
theorem ar7{ra:aA}{A:List Nd}(hA:ak ra=aV false A)(kA:K1 A)(hs:A.length<=68000){i:Nat}{ns:List Tk}(hn:ns.length<=3000):
  BB l i ns (A.length+5) (forA body ra (au l) (i:Int) true (au ns)):=by
 simp only[forA,aW,aI,jO,aj,IC,M.ig,M.pU];obtain⟨fl,rb,B,e1,e2,e3,e4⟩:=ar1 (l:=l) 37 1 false false false false i ns;rw[e1];simp only[aj,aW,aI];have hC:=ar6 hbb hA e2 kA e4 aB (i:=i) hn;simp only[am6,aW,aI] at hC;obtain⟨fl',rows,ns',R,h1,h2,h3,h4,h5⟩:=hC;exact⟨fl',rows,ns',R,h1,h2,aB,h4,h5⟩
end
section
variable {n m:Nat} (hl:l.length<=3000) {body:aA->Int->Bool->aA->Option TY}
 (hbb:∀i (ns:List Tk),ns.length<=3000->BB l i ns 2 (body (au l) (i:Int) true (au ns)))
 (hbo:∀i (ns:List Tk),i<=l.length->ns.length<=i->AS l i (ns.length+1) (body (au l) (i:Int) false (au ns)) (Bh l n i (txt ns)))
include hl hbb hbo
omit hbb hbo in
theorem atg{i:Nat}{nt:iw}(hi:i<=l.length)(hn:nt.length<=i):(Bh l n i nt).sat λx j m=>x.size<=30000:=bP ((N9 l n).body i nt hi) λx j m h=>by omega
theorem aFQ{ra rb rc:aA}{x y z:Tn}(hA:ak ra=aV false (x.flat 0))(hB:ak rb=aV false (y.flat 0))(hC:ak rc=aV false (z.flat 0)){i i0 n0:Nat}{ns:List Tk}(h0:i0<=i)(hi:i<=l.length)(hn:ns.length<=i)
  (hs:x.size+y.size+z.size+9 * i0+ns.length<=9 * i+n0+1) (h3:x.size+y.size+z.size<=30000):
  AS l i0 n0 (apT body ra rb rc (au l) (i:Int) false (au ns)) ((iV l 33 i (txt ns)).bind λ_ i nt=>(Bh l n i nt).bind λw i nt=> .ok (.mk 31 0 [] [] [x,y,z,w]) i nt):=by
 simp only[apT,aW,aI];rw[iV];cases hc:bC l i==33 with
 |false=>have hb:=ar5 hbb hA hB hC (K1.tree x aB) (K1.tree y aB) (K1.tree z aB) (by simp only[Tn.flat_length];omega) (i:=i) (ns:=ns) aB;simp only[Tn.flat_length] at hb;simp only[apT,aW,aI,jO] at hb;simp only[sF hc,bH];exact hb.as aB hi aB aB
 |true=>
  have hlt:=cO hc (by decide);have e:bC l i=33:=by rwa [beq_iff_eq] at hc
  simp only[fB hl e (by decide),aj,aW,aI,PR.bind,hA,hB,hC];exact ZH hl [x,y,z] (hbo (i+1) ns aB aB) aB aB (by simp only[sizes];omega) (by simp only[sizes];omega) (atg hl aB (by rw[zaO];omega))
theorem aFR{ra rb:aA}{x y:Tn}(hA:ak ra=aV false (x.flat 0))(hB:ak rb=aV false (y.flat 0)){i i0 n0:Nat}{ns:List Tk}(h0:i0<i)(hi:i<=l.length)(hn:ns.length<=i)
  (hs:x.size+y.size+9 * i0+ns.length+6<=9 * i+n0) (h3:x.size+y.size<=20000):
  AS l i0 n0 (am6 body ra rb (au l) (i:Int) false (au ns)) ((iV l 37 i (txt ns)).bind λ_ i nt=>(IB l n 33 false (nl l i nt).1 (nl l i nt).2).bind λz i nt=>(iV l 33 i nt).bind λ_ i nt=>(Bh l n i nt).bind λw i nt=> .ok (.mk 31 0 [] [] [x,y,z,w]) i nt):=by
 rw[iV];cases hc:bC l i==37 with
 |false=>have hb:=ar6 hbb hA hB (K1.tree x aB) (K1.tree y aB) (by simp only[Tn.flat_length];omega) (i:=i) (ns:=ns) aB;simp only[Tn.flat_length] at hb;simp only[am6,aW,aI,jO] at hb;simp only[am6,aW,aI,sF hc,bH];exact hb.as aB hi aB aB
 |true=>
  have hlt:=cO hc (by decide);have e:bC l i=37:=by rwa [beq_iff_eq] at hc
  obtain⟨Qs,t1,hln⟩:=Hf hl (i+1) ns aB aB;have hf:=Bj (l:=l) (i:=i+1) (nt:=txt ns) aB;simp only[am6,aW,aI,fB hl e (by decide),aj,hln,M.ig,M.pU,PR.bind];rw[<-t1] at hf|-;simp only[zaO] at hf;refine AS.elim (Q:=AS l i0 n0) (ar2 hl n 33 false aB aB) (λ_=>trivial) (λfl rc j Ju R g1 g2 g3 g4 g5 g6=> ?_) (λz fl rc j Ju hz ez=> ?_)
  ·have hb:=ar5 hbb hA hB g4 (K1.tree x aB) (K1.tree y aB) g6 (by simp only[Tn.flat_length];omega) (i:=j) (ns:=Ju) aB;simp only[Tn.flat_length,apT,aW,aI] at hb;simp only[aW,aI];exact hb.as aB g2 g3 aB
  ·have s2:=gY (NP aB) ez;simp only[zaO] at s2;have hh:=aFQ hl hbb hbo hA hB hz (i:=j) (i0:=i0) (n0:=n0) (ns:=Ju) aB aB aB aB aB;simp only[apT,aW,aI] at hh;simp only[aW,aI];exact hh
theorem aFS{ra:aA}{x:Tn}(hA:ak ra=aV false (x.flat 0)){i i0 n0:Nat}{ns:List Tk}(h0:i0<i)(hi:i<=l.length)(hn:ns.length<=i)
  (hs:x.size+9 * i0+ns.length+6<=9 * i+n0) (h3:x.size<=10000):
  AS l i0 n0 (forA body ra (au l) (i:Int) false (au ns)) ((iV l 37 i (txt ns)).bind λ_ i nt=>(IB l n 37 false (nl l i nt).1 (nl l i nt).2).bind λy i nt=>(iV l 37 i nt).bind λ_ i nt=>(IB l n 33 false (nl l i nt).1 (nl l i nt).2).bind λz i nt=>(iV l 33 i nt).bind λ_ i nt=>(Bh l n i nt).bind λw i nt=> .ok (.mk 31 0 [] [] [x,y,z,w]) i nt):=by
 rw[iV];cases hc:bC l i==37 with
 |false=>have hb:=ar7 hbb hA (K1.tree x aB) (by simp only[Tn.flat_length];omega) (i:=i) (ns:=ns) aB;simp only[Tn.flat_length] at hb;simp only[forA,aW,aI,jO] at hb;simp only[forA,aW,aI,sF hc,bH];exact hb.as aB hi aB aB
 |true=>
  have hlt:=cO hc (by decide);have e:bC l i=37:=by rwa [beq_iff_eq] at hc
  obtain⟨Qs,t1,hln⟩:=Hf hl (i+1) ns aB aB;have hf:=Bj (l:=l) (i:=i+1) (nt:=txt ns) aB;simp only[forA,aW,aI,fB hl e (by decide),aj,hln,M.ig,M.pU,PR.bind];rw[<-t1] at hf|-;simp only[zaO] at hf;refine AS.elim (Q:=AS l i0 n0) (ar2 hl n 37 false aB aB) (λ_=>trivial) (λfl rc j Ju R g1 g2 g3 g4 g5 g6=> ?_) (λz fl rc j Ju hz ez=> ?_)
  ·have hb:=ar6 hbb hA g4 (K1.tree x aB) g6 (by simp only[Tn.flat_length];omega) (i:=j) (ns:=Ju) aB;simp only[Tn.flat_length,am6,aW,aI] at hb;simp only[aW,aI];exact hb.as aB g2 g3 aB
  ·have s2:=gY (NP aB) ez;simp only[zaO] at s2;have hh:=aFR hl hbb hbo hA hz (i:=j) (i0:=i0) (n0:=n0) (ns:=Ju) aB aB aB aB aB;simp only[am6,aW,aI] at hh;simp only[aW,aI];exact hh
theorem aMR{i i0 n0:Nat}{ns:List Tk}(h0:i0+1<=i)(hi:i<=l.length)(hn:ns.length<=i)(hs:9 * i0+ns.length+9<=9 * i+n0):
  AS l i0 n0 ((M.gW 37 1 false true false false (au l) (i:Int) false (au ns)).bind λr=>forA body r.2.1 r.2.2.1 r.2.2.2.1 r.2.2.2.2.1 r.2.2.2.2.2) (aAl l n i (txt ns)):=by
 rw[aAl];refine AS.elim (Q:=AS l i0 n0) (ar2 hl n 37 true hi hn) (λ_=>trivial) (λfl rc j Ju R g1 g2 g3 g4 g5 g6=> ?_) (λz fl rc j Ju hz ez=> ?_)
 ·exact(ar7 hbb g4 g6 aB (i:=j) (ns:=Ju) aB).as aB g2 g3 aB
 ·have s2:=gY (NP hi) ez;simp only[zaO] at s2;exact aFS hl hbb hbo hz aB aB aB aB aB
end
variable {l:List Tk}
abbrev B1:=aA×Int×Bool×Int×Int×aP×aP×Int×Int×aP×aP×aA
abbrev B2:=aA×Int×Bool×Int×Int×aP×aP×Int×Int×aP×aP×aA×aA
def b1(l:List Tk)(i:Nat)(b:Bool)(nt:iw):B1:=(au l,(i:Int),b,0,0,[],[],33,0,[],[],encS nt)
def b2(l:List Tk)(i:Nat)(b:Bool)(nt:iw)(rows:aA):B2:=(au l,(i:Int),b,0,0,[],[],33,0,[],[],encS nt,rows)
def ar8(hl:l.length<=1048576){k:Int}(hk:k≠0){i:Nat}{nt:iw}(h:bC l i=k):M.aJ k (au l) (i:Int) false (encS nt)=some (true,au l,((i+1:Nat):Int),false,encS nt):=by
 have hlt:i<l.length:=dX (by rw[h];exact hk);have e:(bC l i==k)=true:=by rw[h];exact BEq.rfl
 simp only[M.aJ,M.rD,dR,aI,bH,eU,aj,bne,e,zaM,mM hl hlt]
def AB(l:List Tk)(o:Option (B1⊕B2)):PR (List Tn)->Prop
 | .ok L' j VI=>∃L0 i0 nt0 u,o=some u/\(u=.inl (b1 l i0 false nt0)/\L0=[]\/u=.inr (b2 l i0 false nt0 (dO false L0)))/\L'=L0++Dq nt0/\j=i0+1/\VI=[]/\bC l i0=31/\nt0.length<=i0/\L0.length<=2 * l.length
 | .bad j=>∃u nt0,o=some u/\nt0.length<=l.length/\(u=.inl (b1 l j true nt0)\/∃rows:aA,rows.length<=4 * l.length+4/\u=.inr (b2 l j true nt0 rows))
 | .out=>True
def aAs(hl:l.length<=1048576){i:Nat}{nt:iw}(h:bC l i=0)(hi:i<=l.length)(hn:nt.length<=i):AT l (M.kZ (au l) (i:Int) false (encS nt)) (.bad i):=by
 have e:ex l 20 1 false false i nt=.bad i:=atb (.inl h) nt 1 (by decide) (by decide) 20 false false (by decide);have ha:=ajt hl 20 false false hi hn;rw[e] at ha;have hz:∀k:Int,k≠0->(bC l i==k)=false:=λk h0=>by rw[zbn,h];exact λe=>h0 e.symm
 simp only[M.kZ,M.xW,dR,aI,eU,aj,hz 25 (by decide),hz 26 (by decide),hz 20 (by decide),hz 18 (by decide),hz 19 (by decide),hz 21 (by decide),hz 22 (by decide),hz 23 (by decide),bH];refine AP.BA (R:=λo=>AT l o (.bad i)) ha λk op x y fl ks tg nt hn=> ?_
 simp only[dR,aI];exact AT.fC hn
def aCN(hl:l.length<=1048576)(m:Nat){i:Nat}{nt:iw}(h:bC l i=0)(hi:i<=l.length)(hn:nt.length<=i):AT l (M.jy (m+1) (au l) (i:Int) false (encS nt)) (.bad i):=by
 have hz:∀k:Int,k≠0->(bC l i==k)=false:=λk h0=>by rw[zbn,h];exact λe=>h0 e.symm
 rw[M.LH];simp only[M.lV,dR,aI,eU,aj,hz 30 (by decide),hz 13 (by decide),hz 15 (by decide),hz 17 (by decide),hz 16 (by decide),bH];refine AT.BA (R:=λo=>AT l o (.bad i)) (aAs hl h hi hn) λk op x y fl ks nt hn=> ?_
 simp only[zaM,bH,dR,aI];exact AT.fC hn
def apU(hl:l.length<=1048576){f:aA->Int->Bool->aA->Option TT}(hf0:∀i,bC l i=0->i<=l.length->AT l (f (au l) (i:Int) false (encS [])) (.bad i)):
  ∀n,(∀n',n'<n->∀i nt,i<=l.length->nt.length<=i->AT l (f (au l) (i:Int) false (encS nt)) (stP l n' i nt))->
   ∀(L:List Tn) (i:Nat) (nt:iw) (s:B1⊕B2),(s=.inl (b1 l (sep l i nt).1 false (sep l i nt).2)/\L=[]\/s=.inr (b2 l (sep l i nt).1 false (sep l i nt).2 (dO false L)))->i<=l.length->nt.length<=i->L.length+nt.length<=2 * i->
   AB l (M.oN f s) (VH l n L i nt)
 |0,_,_,_,_,_,_,_,_,_=>by rw[VH];trivial
 |n+1,hst,L,i,nt,s,hs,hi,hn,hL=>by
  have hq:=Oz (l:=l) (i:=i) (nt:=nt) hi;simp only[VH];generalize hqe:sep l i nt=q at hs hq|-;rw[M.oN];cases h31:bC l q.1==31 with
  |true=>
   have hlt:=cO h31 (by decide);have e31:bC l q.1=31:=by rwa [beq_iff_eq] at h31
   refine⟨L,q.1,q.2,s, ?_,hs,rfl,rfl,rfl,e31,aB,aB⟩;rcases hs with⟨rfl,rfl⟩|rfl<;>refine aO ?_<;>
    simp only[Em,M.pJ,M.pG,b1,b2,Bool.not_false,aI,dR,eU,aj,bne,h31,zaM,bH]
  |false=>
   have hb:M.pJ f s=(f (au l) (q.1:Int) false (encS [])).bind λr=>
     bif(((dO false (L++Dq q.2)).length+[[D.int .i64 r.1,D.int .i64 r.2.1,D.str r.2.2.1,D.str r.2.2.2.1,D.sl false 5 (ak r.2.2.2.2.2.1)]].length) * 72).ble 140737488355328 then
      (bif((dO false (L++Dq q.2)).length+[[D.int .i64 r.1,D.int .i64 r.2.1,D.str r.2.2.1,D.str r.2.2.2.1,D.sl false 5 (ak r.2.2.2.2.2.1)]].length).ble 140737488355328 then
      (bif ah r.2.2.2.2.2.2.2.2.2 then
       ((M.bQ r.2.2.2.2.2.2.1 r.2.2.2.2.2.2.2.1 r.2.2.2.2.2.2.2.2.1 r.2.2.2.2.2.2.2.2.2).bind λr'=>
       (some (.inl (.inr ((r'.1,r'.2.1,r'.2.2.1,0,0,[],[],33,0,[],[],r'.2.2.2,dO false (L++Dq q.2)++[[D.int .i64 r.1,D.int .i64 r.2.1,D.str r.2.2.1,D.str r.2.2.2.1,D.sl false 5 (ak r.2.2.2.2.2.1)]]):B2))))) else none) else none) else none:=by
    have hc:=Bo (l:=l) (q.1:Int) false q.2 aB;have hlen:(L.length+q.2.length) * 72<=140737488355328:=aB;rcases hs with⟨rfl,rfl⟩|rfl
    ·simp only[Em,M.pJ,M.pG,b1,Bool.not_false,aI,dR,eU,aj,bne,h31,hc,iT,List.nil_append];rw[show(dO false (Dq q.2)).length=q.2.length by rw[dI,Bl],bK aB,aI,bK aB,aI]
    ·simp only[Em,M.pJ,M.pG,b2,Bool.not_false,aI,dR,eU,aj,bne,h31,hc,iT,<-zq];rw[show(dO false L).length+(dO false (Dq q.2)).length=L.length+q.2.length by rw[dI,dI,Bl],bK aB,aI,bK aB,aI]
   rw[bH];have hbad:∀{j:Nat},AT l (f (au l) (q.1:Int) false (encS [])) (.bad j)->AB l (gV (M.pJ f) s) (.bad j):=by intro j hj;obtain⟨k,op,x,y,fl,ks,VI,h1,h2⟩:=hj;rw[h2,aj] at hb;simp only[dI,zT,Bl,y7,dR,aI,ajr,aj] at hb;rw[bK aB,aI,bK aB,aI] at hb;rw[bD hb];refine⟨_,VI,aO rfl,h1,.inr ⟨_, ?_,rfl⟩⟩;simp only[zT,dI,Bl,y7];omega
   cases h0:bC l q.1==0 with
   |true=>
    have e0:bC l q.1=0:=by rwa [beq_iff_eq] at h0
    exact hbad (hf0 q.1 e0 aB)
   |false=>
    rw[bH];have hr:=hst n (Nat.lt_succ_self n) q.1 [] aB (Nat.zero_le _);have y5:=(N9 l n).st q.1 [] aB;generalize stP l n q.1 []=p at hr y5|-;cases p with
    |out=>trivial
    |bad j=>exact hbad hr
    |ok x j m'=>obtain⟨fl,kt,h1,h2⟩:=hr;have aAt:FS l q.1 ([]:iw).length x.size j m'.length:=y5;rw[zln] at aAt;rw[h2,aj] at hb;simp only[aeV h1,dI,zT,Bl,y7,dR,aI,alK hl j m' aB aB,aj] at hb;rw[bK aB,aI,bK aB,aI] at hb;rw[bD hb];refine apU hl hf0 n (λn' h=>hst n' aB) ((L++Dq q.2)++[x]) j m' _ (.inr rfl) aB aB ?_;simp only[zT,Bl,y7];omega
section
variable {n m:Nat} (hl:l.length<=1048576) (H:∀n',n'<=n->∀m',3 * n'+10<=m'->RS l n' m') (hm:3 * (n+1)+10<=m+1)
include hl H hm
theorem aFT(i:Nat)(nt:iw)(hi:i<=l.length)(hn:nt.length<=i):AT l (M.lI (m+1) (au l) (i:Int) false (encS nt)) (JI l (n+1) i nt):=by
 obtain⟨m2,rfl⟩:∃m2,m=m2+1:=⟨m - 1,aB⟩
 rw[M.Qq,JI];simp only[M.qh,dR,aI];refine JK (R:=AT l) hl (by decide) ?_ (λ_ hlt=> ?_)
 ·simp only[dR,aI,ajr,aj];rw[show M.oN _ _=_ from aO rfl];simp only[aj,iD,dR,aI,sG,Bo (l:=l) _ _ nt aB,iT,dI,Bl];rw[bK aB,aI,bK aB,aI];exact AT.fC (Nat.zero_le _)
 ·simp only[dR,aI,alK hl (i+1) nt aB aB,aj];have hloop:=apU hl (f:=M.jy (m2+1)) (λi h0 hi=>aCN hl m2 h0 hi (Nat.zero_le _)) n (λn' h i nt hi hn=>(H n' aB (m2+1) aB).st i nt hi hn) [] (i+1) nt (.inl (b1 l (sep l (i+1) nt).1 false (sep l (i+1) nt).2)) (.inl ⟨rfl,rfl⟩) aB aB (by rw[zln];omega);generalize VH l n [] (i+1) nt=p at hloop|-;rw[b1] at hloop;cases p with
  |out=>trivial
  |bad j=>
   obtain⟨u,nt0,h1,h2,h3⟩:=hloop;rw[h1,aj];rcases h3 with rfl|⟨rows,h4,rfl⟩
   ·simp only[b1,iD,dR,aI,sG,aj,Bo (l:=l) _ _ nt0 aB,iT,dI,Bl];rw[bK aB,aI,bK aB,aI];exact AT.fC (Nat.zero_le _)
   ·simp only[b2,iD,letE,dR,aI,sG,aj,Bo (l:=l) _ _ nt0 aB,iT,dI,Bl];rw[bK aB,aI,bK aB,aI];exact AT.fC (Nat.zero_le _)
  |ok L' j VI=>
   obtain⟨L0,i0,nt0,u,h1,h2,rfl,rfl,rfl,h31,h4,h5⟩:=hloop;have hlt0:i0<l.length:=dX (by rw[h31];decide);rw[h1,aj];rcases h2 with⟨rfl,rfl⟩|rfl
   ·simp only[b1,iD,dR,aI,ar8 hl (by decide) h31,aj,Bo (l:=l) _ _ nt0 aB,iT,dI,Bl];rw[bK aB,aI,bK aB,aI];exact AT.mk rfl rfl rfl rfl (iT _ _)
   ·simp only[b2,iD,letE,dR,aI,ar8 hl (by decide) h31,aj,Bo (l:=l) _ _ nt0 aB,iT,dI,Bl,<-zq];rw[bK aB,aI,bK aB,aI];exact AT.mk rfl rfl rfl rfl (iT _ _)
theorem aMS(i:Nat)(nt:iw)(hi:i<=l.length)(hn:nt.length<=i):AT l (M.jy (m+1) (au l) (i:Int) false (encS nt)) (stP l (n+1) i nt):=by
 have h:=H n (zaN _) m aB;have hbr:=avY hl H hm;have hlp:=aCK hl H hm;obtain⟨m2,rfl⟩:∃m2,m=m2+1:=⟨m - 1,aB⟩
 rw[M.LH];simp only[M.lV,dR,aI,eU,aj,stP];cases h30:bC l i==30 with
 |true=>simp only[aI];exact AT.pass (h.blk i nt hi hn) (by intros;simp only[dR,aI])
 |false=>
 cases h13:bC l i==13 with
 |true=>have hlt:=cO h13 (by decide);simp only[aI,bH,mM hl hlt];exact AT.pass (hbr (i+1) nt aB aB) (by intros;simp only[dR,aI])
 |false=>
 cases h15:bC l i==15 with
 |true=>
  have hlt:=cO h15 (by decide);simp only[aI,bH,mM hl hlt];refine AT.elim (R:=AT l) (arV hl n aB aB) (λ_=>trivial) (λk op x y fl ks j nt hn=> ?_) (λx fx kx j nt hx ex=> ?_)
  ·simp only[dR,aI];refine AT.BA (R:=λo=>AT l o (.bad j)) (RN m2 hn) λk op x y fl ks nt hn=> ?_
   simp only[dR,aI];exact AT.fC hn
  ·have s1:=gY (O8 aB) ex;simp only[dR,aI];refine AT.elim (R:=AT l) (h.body j nt aB aB) (λ_=>trivial) (λk op x y fl ks j nt hn=> ?_) (λy fy ky j nt hy ey=> ?_)
   ·simp only[dR,aI];exact AT.fC hn
   ·simp only[dR,aI];exact AT.mk rfl rfl rfl rfl (fz2 (J8 hx) (J8 hy))
 |false=>
 cases h17:bC l i==17 with
 |true=>
  have hlt:=cO h17 (by decide);simp only[aI,bH,mM hl hlt];refine AT.elim (R:=AT l) (h.body (i+1) nt aB aB) (λ_=>trivial) (λk op x y fl ks j nt hn=> ?_) (λx fx kx j nt hx ex=> ?_)
  ·simp only[dR,aI,ajr,sG,aj];refine AT.BA (R:=λo=>AT l o (.bad j)) (aAa hn) λk op x y fl ks nt hn=> ?_
   simp only[zaM,bH,dR,aI];exact AT.fC hn
  ·have s1:=gY ((N9 l n).body (i+1) _ aB) ex;have hf:=Oz (l:=l) (i:=j) (nt:=nt) aB;simp only[dR,aI,alK hl j nt aB aB,aj];refine JK (R:=AT l) hl (by decide) ?_ (λ_ hlt=> ?_)
   ·simp only[dR,aI];refine AT.BA (R:=λo=>AT l o (.bad (sep l j nt).1)) (aAa aB) λk op x y fl ks nt hn=> ?_
    simp only[zaM,bH,dR,aI];exact AT.fC hn
   ·simp only[dR,aI];refine AT.elim (R:=AT l) (arV hl n aB aB) (λ_=>trivial) (λk op x y fl ks j nt hn=> ?_) (λy fy ky j2 nt2 hy ey=> ?_)
    ·simp only[zaM,bH,dR,aI];exact AT.fC hn
    ·have s2:=gY (O8 aB) ey;simp only[Bool.not_false,aI,dR,arU,aj];exact az9 rfl rfl rfl rfl (fz2 (J8 hx) (J8 hy)) aB
 |false=>
 cases h16:bC l i==16 with
 |true=>have hlt:=cO h16 (by decide);simp only[aI,bH,mM hl hlt];exact AT.pass (hlp (i+1) nt aB aB) (by intros;simp only[dR,aI])
 |false=>
  simp only[bH];have hs:=aMI hl n hi hn λk hk h=>aMJ hl n (dX (by rw[<-hk];rcases h with rfl|rfl<;>decide)) hn k hk h
  refine AT.elim (R:=AT l) hs (λ_=>trivial) (λk op x y fl ks j nt hn=> ?_) (λx fx kx j nt hx ex=> ?_)
  ·simp only[zaM,bH,dR,aI];exact AT.fC hn
  ·have s1:=gY (arN hi) ex;simp only[Bool.not_false,aI,dR,arU,aj];exact az9 rfl rfl rfl rfl (J8 hx) aB
end
def rs(hl:l.length<=1048576):∀N n,n<=N->∀m,3 * n+10<=m->RS l n m:=by
 intro N;induction N with
 |zero=>intro n hn m hm;obtain rfl:n=0:=aB;exact⟨λ_ _ _ _=>by rw[stP];trivial,λ_ _ _ _=>by rw[JI];trivial,λ_ _ _ _=>by rw[Bh];trivial⟩
 |succ N ih=>
  intro n hn m hm;cases n with
  |zero=>exact ih 0 aB m hm
  |succ n=>
   cases m with
   |zero=>omega
   |succ m=>
    have H:∀n',n'<=n->∀m',3 * n'+10<=m'->RS l n' m':=λn' h=>ih n' aB
    exact⟨aMS hl H hm,aFT hl H hm,aCJ hl H hm⟩
def RS.of(hl:l.length<=1048576)(n:Nat){m:Nat}(hm:3 * n+10<=m):RS l n m:=rs hl n n (zaN _) m hm
def apV(hl:l.length<=1048576)(n:Nat){i:Nat}{nt:iw}(hi:i<=l.length)(hn:nt.length<=i):AT l (M.bJ (au l) (i:Int) false (encS nt)) (JI l n i nt):=
 AT.lim ((RS.of hl n (zaN _)).blk i nt hi hn) λr h=>M.PL h
def ath(hl:l.length<=1048576){i:Nat}{nt:iw}(hn:nt.length<=l.length):AT l (M.bJ (au l) (i:Int) true (encS nt)) (.bad i):=
 AT.lim (aCI hl 0 hn) λr h=>M.PL h
variable {l:List Tk}
structure RT(l:List Tk)(n m:Nat):Prop where
 st:∀i ns,i<=l.length->ns.length<=i->AS l i ns.length (M.oI m (au l) (i:Int) false (au ns)) (stP l n i (txt ns))
 blk:∀i ns,i<=l.length->ns.length<=i->AS l i ns.length (M.qR m (au l) (i:Int) false (au ns)) (JI l n i (txt ns))
 body:∀i ns,i<=l.length->ns.length<=i->AS l i (ns.length+1) (M.nH m (au l) (i:Int) false (au ns)) (Bh l n i (txt ns))
def aFU{body:aA->Int->Bool->aA->Option TY}(hbb:∀i (ns:List Tk),ns.length<=3000->BB l i ns 2 (body (au l) (i:Int) true (au ns)))(i:Nat)(ns:List Tk)(hn:ns.length<=3000):
  BB l i ns 6 ((M.gW 37 1 false true false false (au l) (i:Int) true (au ns)).bind λr=>forA body r.2.1 r.2.2.1 r.2.2.2.1 r.2.2.2.2.1 r.2.2.2.2.2):=by
 obtain⟨fl,ra,A,e1,e2,e3,e4⟩:=ar1 (l:=l) 37 1 false true false false i ns;rw[e1,aj];obtain⟨fl',rows,ns',R,h1,h2,h3,h4,h5⟩:=ar7 hbb e2 e4 aB (i:=i) hn;exact⟨fl',rows,ns',R,h1,h2,aB,h4,h5⟩
def AK(l:List Tk)(i n0:Nat)(o:Option S5):PR (List Tn)->Prop
 | .ok L j nt=>∃j0,j=j0+1/\bC l j0=31/\nt=[]/\o=some (au l,(j0:Int),false,parts L,au [])
 | .bad j=>∃b ns P,i<=j/\j<=l.length/\ns.length<=l.length/\(b=true\/(bC l j==31)=false)/\lens P+ns.length<=9 * (j - i)+n0+l.length+4/\P.length<=40000/\KB P/\o=some (au l,(j:Int),b,qo P,au ns)
 | .out=>True
def UC(a b:List Tn):parts a++parts b=parts (a++b):=by simp[parts]
def aAu(hl:l.length<=3000){f:aA->Int->Bool->aA->Option TY}:
  ∀n,(∀n',n'<n->∀i ns,i<=l.length->ns.length<=i->AS l i ns.length (f (au l) (i:Int) false (au ns)) (stP l n' i (txt ns)))->
   ∀(i0 n0:Nat) (L:List Tn) (i:Nat) (ns:List Tk),i0<=i->i<=l.length->ns.length<=i->n0<=3000->sizes L+ns.length+6 * i0<=n0+6 * i->
    AK l i0 n0 (M.vY f (au l,(i:Int),false,parts L,au ns)) (VH l n L i (txt ns))
 |0,_,_,_,_,_,_,_,_,_,_,_=>by rw[VH];trivial
 |n+1,hst,i0,n0,L,i,ns,hi0,hi,hn,hn0,hsz=>by
  obtain⟨Qs,t1,hsp⟩:=am3 hl i ns hi hn;have hq:=Oz (l:=l) (nt:=txt ns) hi;have hLl:=zV L;simp only[VH];generalize hqe:sep l i (txt ns)=q at hq hsp t1|-;rw[<-t1] at hq;simp only[zaO] at hq;have hcm:ak (ak (Oa Qs))=parts (Dq q.2):=by rw[Zo,t1]
  have hcl:(Dq q.2).length=Qs.length:=by rw[<-t1,SY]
  have hcs:sizes (Dq q.2)=Qs.length:=by rw[<-t1,Ej]
  rw[M.vY];have hb:M.rC f (au l,(i:Int),false,parts L,au ns)=
    bif bC l q.1==31 then some (.inr (au l,(q.1:Int),false,parts (L++Dq q.2),au [])) else bif bC l q.1==0 then some (.inr (au l,(q.1:Int),false,parts (L++Dq q.2),au [])) else
     (f (au l) (q.1:Int) false (au [])).bind λr=>bif(((parts (L++Dq q.2)).length+[[D.sl false 5 (ak r.2.1)]].length) * 24).ble 140737488355328 then
      (bif((parts (L++Dq q.2)).length+[[D.sl false 5 (ak r.2.1)]].length).ble 140737488355328 then
       some (.inl (r.2.2.1,r.2.2.2.1,r.2.2.2.2.1,parts (L++Dq q.2)++[[D.sl false 5 (ak r.2.1)]],r.2.2.2.2.2)) else none) else none:=by
   simp only[Em,M.rC,M.vX,aW,aI,hsp,aj,QI (l:=l) _ _ Qs aB,hcm,UC,bH,gu];rw[show(parts L).length+(parts (Dq q.2)).length=L.length+Qs.length by rw[oq,oq,hcl],bK aB,aI,bK aB,aI]
  cases h31:bC l q.1==31 with
  |true=>rw[h31,aI] at hb;rw[aO hb,aI];exact⟨q.1,rfl,by rwa [beq_iff_eq] at h31,rfl,rfl⟩
  |false=>
   rw[h31,bH] at hb;rw[bH];cases h0:bC l q.1==0 with
   |true=>
    rw[h0,aI] at hb;rw[aO hb,aI];refine⟨false,[],(L++Dq q.2).map λt=>t.flat 0,aB,aB,by simp,.inr h31, ?_, ?_, ?_,by rw[uI]⟩
    ·rw[lW,mQ,hcs];simp only[zln];omega
    ·rw[zaO,zT,hcl];omega
    ·have:=KB.trees (P:=[]) (L++Dq q.2) (by rw[mQ,hcs];omega) KB.nil
     rwa [List.append_nil] at this
   |false=>
    rw[h0,bH] at hb;rw[bH];have hr:=hst n (Nat.lt_succ_self n) q.1 [] aB (Nat.zero_le _);have y5:=(N9 l n).st q.1 [] aB;have e0:txt ([]:List Tk)=[]:=rfl;rw[e0] at hr;generalize stP l n q.1 []=p at hr y5|-;cases p with
    |out=>trivial
    |bad j=>
     obtain⟨fl,rows,Ju,R,g1,g2,g3,g4,g5,g6,h2⟩:=hr;simp only[zln] at g5;rw[h2,aj] at hb;have hPL:(((L++Dq q.2).map λt=>t.flat 0)++[R]).length<=30000:=by rw[zT,zaO,zT,hcl,y7];omega
     simp only[LK g4,oq,zT,hcl,y7] at hb;rw[bK aB,aI,bK aB,aI] at hb;rw[bD hb];have hKB:KB (((L++Dq q.2).map λt=>t.flat 0)++[R]):=KB.trees _ (by rw[mQ,hcs];omega) (KB.cons g6 KB.nil);have hb2:M.rC f (au l,(j:Int),true,qo (((L++Dq q.2).map λt=>t.flat 0)++[R]),au Ju)=some (.inr (au l,(j:Int),true,qo ((((L++Dq q.2).map λt=>t.flat 0)++[R])++(Dq (txt Ju)).map λt=>t.flat 0),au [])):=by simp only[Em,M.rC,M.vX,aW,aI,am4,aj,QI (l:=l) _ _ Ju aB,Zo];rw[show(qo (((L++Dq q.2).map λt=>t.flat 0)++[R])).length+(parts (Dq (txt Ju))).length=(((L++Dq q.2).map λt=>t.flat 0)++[R]).length+Ju.length by rw[aAc,oq,SY],bK aB,aI,bK aB,aI,uI];simp[qo]
     refine⟨true,[],_,aB,g2,by simp,.inl rfl, ?_, ?_, ?_,aO hb2⟩
     ·rw[vG,vG,lW,lW,mQ,hcs,Ej,lens,lens];simp only[zln];omega
     ·rw[zT,zaO,SY];omega
     ·intro Q hQ;rcases List.mem_append.1 hQ with hQ|hQ
      ·exact hKB Q hQ
      ·have:=KB.trees (P:=[]) (Dq (txt Ju)) (by rw[Ej];omega) KB.nil;rw[List.append_nil] at this;exact this Q hQ
    |ok x j m'=>obtain⟨fl,rows,Ju,h1,rfl,h2⟩:=hr;have hs':FS l q.1 ([]:iw).length x.size j (txt Ju).length:=y5;simp only[zaO,zln] at hs';rw[h2,aj] at hb;simp only[FU h1,oq,zT,hcl,y7] at hb;rw[bK aB,aI,bK aB,aI] at hb;rw[bD hb];exact aAu hl n (λn' h=>hst n' aB) i0 n0 ((L++Dq q.2)++[x]) j Ju aB aB aB hn0 (by rw[sizes1,mQ,hcs];omega)
section
variable {n m:Nat} (hl:l.length<=3000) (H:∀n',n'<=n->∀m',4 * n'+10<=m'->RT l n' m') (hm:4 * n+13<=m)
include hl H hm
theorem aFV(i:Nat)(ns:List Tk)(hi:i<=l.length)(hn:ns.length<=i):AS l i ns.length (M.qR (m+1) (au l) (i:Int) false (au ns)) (JI l (n+1) i (txt ns)):=by
 have hbs:=aju (l:=l) m i ns aB;rw[M.Vs] at hbs|-;simp only[M.yK,aW,aI] at hbs|-;rw[JI,iV];cases hc:bC l i==30 with
 |false=>rw[jO] at hbs;rw[sF hc];exact hbs.as (zaN i) hi aB aB
 |true=>
  have hlt:=cO hc (by decide);have e30:bC l i=30:=by rwa [beq_iff_eq] at hc
  simp only[fB hl e30 (by decide),aj,aI,PR.bind];have hloop:=aAu hl (f:=M.oI m) n (λn' h i ns hi hn=>(H n' aB m aB).st i ns hi hn) (i+1) ns.length [] (i+1) ns (zaN _) aB aB aB (by rw[sizes0];omega);have y5:=(N9 l n).lines [] (i+1) (txt ns) aB;show AS l i ns.length ((M.vY (M.oI m) (au l,((i+1:Nat):Int),false,parts [],au ns)).bind _) ((VH l n [] (i+1) (txt ns)).bind λL i nt=> .ok (.mk 33 0 [] [] L) i nt);generalize VH l n [] (i+1) (txt ns)=p at hloop y5|-;cases p with
  |out=>trivial
  |bad j=>
   obtain⟨b,ns',P,g1,g2,g3,g4,g5,g6,g7,g8⟩:=hloop;obtain⟨R',_,e1,e2,e3⟩:=Z7 33 0 [] [] P (b:=lens P) (zaN _) aB aB g7;have htk:M.aG 31 (au l) (j:Int) b (au ns')=some (0,[],0,au l,(j:Int),true,au ns'):=by
    rcases g4 with rfl|g4
    ·exact jO 31 j ns'
    ·cases b with
     |true=>exact jO 31 j ns'
     |false=>exact sF g4
   rw[g8];simp only[aj,aW,aI,htk,zu,e1,aS];exact AS.fC aB g2 g3 (aS _ _) aB e3
  |ok L j nt=>obtain⟨j0,rfl,h31,rfl,g8⟩:=hloop;have hs':i+1<j0+1/\FN l (i+1) (txt ns).length (j0+1) ([]:iw).length/\sizes L+([]:iw).length+6 * (i+1)<=sizes ([]:List Tn)+(txt ns).length+6 * (j0+1):=y5;simp only[zaO,zln,sizes0] at hs';rw[g8];simp only[aj,aW,aI,fB hl h31 (by decide),JL,Dc 33 0 [] [] [] L aB,aS];exact AS.mk (ns:=[]) (aS _ _)
theorem aCO(i:Nat)(ns:List Tk)(hi:i<=l.length)(hn:ns.length<=i):AS l i (ns.length+1) (M.nH (m+1) (au l) (i:Int) false (au ns)) (Bh l (n+1) i (txt ns)):=by
 have h:=H n (zaN _) m aB;obtain⟨Qs,t1,hln⟩:=Hf hl i ns hi hn;have hf:=Bj (l:=l) (nt:=txt ns) hi;rw[M.WI];simp only[Em,M.Aj,aW,aI,hln,aj,gu,Bh];generalize nl l i (txt ns)=q at hf t1|-;rw[<-t1] at hf;simp only[zaO] at hf;have hcl:(Dq q.2).length=Qs.length:=by rw[<-t1,SY]
 have hcs:sizes (Dq q.2)=Qs.length:=by rw[<-t1,Ej]
 have hnr:ak (Oa Qs)=parts (Dq q.2):=by rw[Zn,t1]
 cases h30:bC l q.1==30 with
 |true=>simp only[aI];rw[<-t1];exact AS.pass (h.blk q.1 Qs aB aB) aB aB (by intros;simp only[aW,aI])
 |false=>
  simp only[bH];cases h37:bC l q.1==37 with
  |true=>
   have hlt:=cO h37 (by decide);have e37:bC l q.1=37:=by rwa [beq_iff_eq] at h37
   simp only[aI,fB hl e37 (by decide),aj,aW,QI (l:=l) _ _ Qs aB,aFO,hnr,Dc 33 0 [] [] [] (Dq q.2) aB,aS];exact AS.mk (ns:=[]) (aS _ _)
  |false=>
   simp only[bH,QI (l:=l) _ _ Qs aB,aj,aFO,aW,aI];have hr:=h.st q.1 [] aB (Nat.zero_le _);have e0:txt ([]:List Tk)=[]:=rfl;rw[e0] at hr;refine AS.elim (Q:=AS l i (ns.length+1)) hr (λ_=>trivial) (λfl rows j Ju R g1 g2 g3 g4 g5 g6=> ?_) (λx fl rows j Ju h1 he=> ?_)
   ·simp only[zln] at g5;obtain⟨R',_,e1,e2,e3⟩:=Z7 33 0 [] [] (((Dq q.2).map λt=>t.flat 0)++[R]) (b:=Qs.length+R.length) (by rw[vG,lW,hcs,lens,lens];omega) aB (by rw[zT,zaO,y7,hcl];omega) (KB.trees _ aB (KB.cons g6 KB.nil));simp only[afI,y7];rw[bK aB,aI,bK aB,aI,OD,hnr,show ak [[D.sl false 5 (ak rows)]]=qo [R] by rw[g4];exact ag5 R,uI,show qo ((Dq q.2).map λt=>t.flat 0)++qo [R]=qo (((Dq q.2).map λt=>t.flat 0)++[R]) by simp[qo],e1];simp only[aj,aW,aI,aS];exact AS.fC aB g2 g3 (aS _ _) aB e3
   ·have hs:=gY ((N9 l n).st q.1 [] aB) he;simp only[zaO,zln] at hs;simp only[afI,y7];rw[bK aB,aI,bK aB,aI,OD,hnr,show ak [[D.sl false 5 (ak rows)]]=parts [x] by rw[h1];exact ag5 _,UC];simp only[Dc 33 0 [] [] [] (Dq q.2++[x]) (by rw[sizes1];omega),aj,aW,aI,aS];exact AS.mk (aS _ _)
theorem aMT(i:Nat)(ns:List Tk)(h13:bC l i=13)(hn:ns.length<=i):AS l i ns.length (M.MS m (au l) (i:Int) false (au ns)) (ifP l n (i+1) (txt ns)):=by
 obtain⟨m2,rfl⟩:∃m2,m=m2+2+1:=⟨m - 3,aB⟩
 have h:=H n (zaN _) (m2+2) aB;have hi:i<l.length:=dX (by rw[h13];decide);rw[M.amu,ifP];simp only[M.I9,aW,aI,fB hl h13 (by decide),aj];refine AS.elim (Q:=AS l i ns.length) (am2 hl n aB aB) (λ_=>trivial) (λfl rows j Ju R g1 g2 g3 g4 g5 g6=> ?_) (λx fl rows j Ju h1 he=> ?_)
 ·simp only[aW,aI];refine(am5 m2 j Ju aB).elim (Q:=λo=>AS l i ns.length o (.bad j)) λfl' rows' ns3 R2 k1 k2 k3 k4=> ?_
  obtain⟨R',e1,e2,e3⟩:=fin2 28 0 [] [] g6 k3 aB;simp only[aW,aI,aAn j ns3 hl g2,aj,Bool.not_false,g4,k1,e1,aS];exact AS.fC aB g2 aB (aS _ _) aB e3
 ·have s1:=gY (O8 aB) he;simp only[zaO] at s1;simp only[aW,aI];refine AS.elim (Q:=AS l i ns.length) (h.body j Ju aB aB) (λ_=>trivial) (λfl' rows' j2 ns3 R g1 g2 g3 g4 g5 g6=> ?_) (λy fl' rows' j2 ns3 h2 he2=> ?_)
  ·obtain⟨R',e1,e2,e3⟩:=fin2 28 0 [] [] (K1.tree x aB) g6 (by rw[Tn.flat_length];omega);rw[Tn.flat_length] at e2;simp only[aW,aI,aAn j2 ns3 hl g2,aj,Bool.not_false,h1,g4,e1,aS];exact AS.fC aB g2 aB (aS _ _) aB e3
  ·have s2:=gY ((N9 l n).body j (txt Ju) aB) he2;simp only[zaO] at s2;have hf:=Oz (l:=l) (i:=j2) (nt:=txt ns3) aB;simp only[aW,aI];rcases aFP hl j2 ns3 aB aB with⟨h14,ns4,t4,hel⟩|⟨h14,hel⟩
   ·have hlt:=cO h14 (by decide);rw[hel,h14];simp only[aj,zaM,bH,aI,aW,h1,h2];rw[<-t4] at hf|-;simp only[zaO] at hf;exact ZH hl [x,y] (h.body _ ns4 aB aB) aB aB (by simp only[sizes];omega) (by simp only[sizes];omega) (atg hl aB (by rw[zaO];omega))
   ·rw[hel,h14];have ho:=aAm 28 0 [] [] [x,y] (by simp only[sizes];omega);have ho':M.dG 28 0 [] [] [] (ak [[D.sl false 5 (aV false (x.flat 0))],[D.sl false 5 (aV false (y.flat 0))]])=some (false,aV false ((Tn.mk 28 0 [] [] [x,y]).flat 0)):=by rw[arX];exact ho
    simp only[aj,Bool.not_false,aI,bH,aW,h1,h2,ho',aS];exact AS.mk (aS _ _)
theorem aFW(i:Nat)(ns:List Tk)(h16:bC l i=16)(hn:ns.length<=i):AS l i ns.length (M.JY m (au l) (i:Int) false (au ns)) (lpP l n (i+1) (txt ns)):=by
 obtain⟨m2,rfl⟩:∃m2,m=m2+2+1:=⟨m - 3,aB⟩
 have h:=H n (zaN _) (m2+2) aB;have hi:i<l.length:=dX (by rw[h16];decide);have hbb:∀i (ns:List Tk),ns.length<=3000->BB l i ns 2 (M.nH (m2+2) (au l) (i:Int) true (au ns)):=λi ns hn=>am5 m2 i ns hn
 rw[M.aj1,lpP];simp only[M.Gq,aW,aI,fB hl h16 (by decide),aj];rw[iV];cases h32:bC l (i+1)==32 with
 |false=>simp only[sF h32,aj,zaM,bH,aW,aI];exact(aFU hbb (i+1) ns aB).as aB aB aB aB
 |true=>
  have hlt:=cO h32 (by decide);have e32:bC l (i+1)=32:=by rwa [beq_iff_eq] at h32
  have am1:=aMR (n:=n) hl hbb (λi ns hi hn=>h.body i ns hi hn) (i:=i+1+1) (i0:=i) (n0:=ns.length) (ns:=ns) aB aB aB aB;simp only[fB hl e32 (by decide),aj,Bool.not_false,aI,dh,PR.bind];have wn:∀j:Nat,j<=3001->i64.wrap ((j:Int)+1)=((j+1:Nat):Int):=λj hj=>by rw[bT aB aB];omega
  rw[wn (i+1+1) aB]
  by_cases hb:i+1+1+1<l.length
  ·obtain⟨t,ht⟩:∃t,l[i+1+1]? =some t:=⟨l[i+1+1],by simp[show i+1+1<l.length by omega]⟩
   obtain⟨u,hu⟩:∃u,l[i+1+1+1]? =some u:=⟨l[i+1+1+1],by simp[hb]⟩
   have et:bC l (i+1+1)=t.kind:=by rw[bC,ht]
   have eu:bC l (i+1+1+1)=u.kind:=by rw[bC,hu]
   rw[zdt aB,aI];simp only[dM,fK,ht,hu,Hg,aj,VJ,et,eu,aW,aI];cases h6:t.kind==6 with
   |false=>simp only[bH,Bool.false_and];exact am1
   |true=>
    simp only[aI,Bool.true_and];cases h24:u.kind==24 with
    |false=>simp only[bH];exact am1
    |true=>
     have e6:bC l (i+1+1)=6:=by rw[et];rwa [beq_iff_eq] at h6
     have e24:bC l (i+1+1+1)=24:=by rw[eu];rwa [beq_iff_eq] at h24
     simp only[aI,fB hl e6 (by decide),fB hl e24 (by decide),aj,aW];have aMU:∀(j:Nat) (o:aP),i+4<=j->j<=l.length->AS l i ns.length ((M.nH (m2+2) (au l) (j:Int) true (au ns)).bind λafq=>(M.dG 32 0 (zK l (i+1+1)) o [] (ak [[D.sl false 5 (ak afq.2.1)]])).bind λaEH=>bif ah afq.2.2.2.2.2 then some (false,ak aEH.2,afq.2.2.1,afq.2.2.2.1,afq.2.2.2.2.1,afq.2.2.2.2.2) else none) (.bad j):=by
      intro j o hj1 hj2;refine(hbb j ns aB).elim (Q:=λo=>AS l i ns.length o (.bad j)) λfl rows ns' R g1 g2 g3 g4=> ?_
      obtain⟨R',e1,e2,e3⟩:=fin1 32 0 (zK l (i+1+1)) o g3 aB;simp only[g1,e1,aj,aW,aI,aS];exact AS.fC aB hj2 aB (aS _ _) aB e3
     rw[nameP];cases h62:bC l (i+1+1+2)==6 with
     |false=>have aTl:(bC l (i+1+1+1+1)==6)=false:=h62;simp only[sF aTl,jO,aj,aW,aI,bH];exact aMU _ _ aB aB
     |true=>
      have aTN:=cO h62 (by decide);have e62:bC l (i+1+1+1+1)=6:=by rwa [beq_iff_eq] at h62
      simp only[fB hl e62 (by decide),aj,aW,aI,PR.bind];rw[iV];cases h33:bC l (i+1+1+2+1)==33 with
      |false=>have aTm:(bC l (i+1+1+1+1+1)==33)=false:=h33;simp only[sF aTm,aj,aW,aI,bH];exact aMU _ _ aB aB
      |true=>
       have aTO:=cO h33 (by decide);have e33:bC l (i+1+1+1+1+1)=33:=by rwa [beq_iff_eq] at h33
       simp only[fB hl e33 (by decide),aj,aW,aI];exact ZH hl [] (h.body (i+1+1+1+1+1+1) ns aB aB) aB aB (by simp only[sizes];omega) (by simp[sizes]) (atg hl aB (by rw[zaO];omega))
  ·have e0:bC l (i+1+1+1)=0:=by rw[bC,List.getElem?_eq_none aB]
   rw[Bq aB,bH,e0];simp only[aW,aI,show((0:Int)==24)=false from rfl,Bool.and_false,bH];exact am1
end
def PR.bind_assoc{α β γ:Type}(p:PR α)(f:α->Nat->iw->PR β)(g:β->Nat->iw->PR γ):(p.bind f).bind g=p.bind λx i nt=>(f x i nt).bind g:=by cases p<;>rfl
variable {l:List Tk}
def doQ(l:List Tk)(n i:Nat)(nt:iw):PR Tn:=(Bh l n (i+1) nt).bind λx i nt=>(iV l 15 (sep l i nt).1 (sep l i nt).2).bind λ_ i nt=>(SN l n i nt).bind λy i nt=> .ok (.mk 30 0 [] [] [x,y]) i nt
def aMV(hl:l.length<=3000){n i:Nat}{nt:iw}(hi:i<=l.length):(SN l n i nt).sat λx j m=>x.size<=30000:=bP (O8 (l:=l) hi) λx j m h=>by omega
def aFX(hl:l.length<=3000){i n0:Nat}{o:Option TY}{p:PR Tn}(h:AS l i n0 o p)(hs:p.sat λx j m=>i<=j/\j<=l.length/\m.length<=l.length/\x.size+m.length<=9 * (j - i)+n0/\x.size<=100000):
  AS l i n0 (o.bind λr=>bif ah r.2.2.2.2.2 then(M.lu r.2.2.1 r.2.2.2.1 r.2.2.2.2.1 r.2.2.2.2.2).bind λr'=>bif ah r'.2.2.2 then some (false,ak r.2.1,r'.1,r'.2.1,r'.2.2.1,r'.2.2.2) else none else none)
   (p.bind λx j nt=>endP l x j nt):=by
 refine AS.elim (Q:=AS l i n0) h (λ_=>trivial) (λfl rows j ns R h1 h2 h3 h4 h5 h6=> ?_) (λx fl rows j ns hk he=> ?_)
 ·simp only[aW,aI,atd,aj,Bool.true_or];exact AS.fC h1 h2 h3 (fzN h4) h5 h6
 ·have hs':=gY hs he;simp only[zaO] at hs';simp only[aW,aI,atd,aj,Bool.false_or,endP];cases Ei (bC l j) with
  |true=>exact AS.mk (fzN hk)
  |false=>exact AS.fC hs'.1 hs'.2.1 hs'.2.2.1 (fzN hk) (by rw[Tn.flat_length];omega) (K1.tree x hs'.2.2.2.2)
section
variable {n m:Nat} (hl:l.length<=3000) (H:∀n',n'<=n->∀m',4 * n'+10<=m'->RT l n' m') (hm:4 * n+13<=m)
include hl H hm
theorem aMW(i:Nat)(ns:List Tk)(h17:bC l i=17)(hn:ns.length<=i):AS l i ns.length (M.zQ m (au l) (i:Int) false (au ns)) (doQ l n i (txt ns)):=by
 obtain⟨m2,rfl⟩:∃m2,m=m2+2+1:=⟨m - 3,aB⟩
 have h:=H n (zaN _) (m2+2) aB;have hi:i<l.length:=dX (by rw[h17];decide);rw[M.Ui,doQ];simp only[M.vW,aW,aI,gu,aj,h17,show((17:Int)==25)=false from rfl,show((17:Int)==26)=false from rfl,show((17:Int)==20)=false from rfl,show((17:Int)==18)=false from rfl,
  show((17:Int)==19)=false from rfl,show((17:Int)==21)=false from rfl,show((17:Int)==22)=false from rfl,show((17:Int)==23)=false from rfl,show((17:Int)==17)=true from rfl,bH,fB hl h17 (by decide)]
 refine AS.elim (Q:=AS l i ns.length) (h.body (i+1) ns aB aB) (λ_=>trivial) (λfl rows j Ju R g1 g2 g3 g4 g5 g6=> ?_) (λx fl rows j Ju h1 he=> ?_)
 ·obtain⟨R',e1,e2,e3⟩:=fin2 30 0 [] [] g6 K1.nil (by simp;omega);have e1':M.dG 30 0 [] [] [] (ak [[D.sl false 5 (aV false R)],[D.sl false 5 (ak [])]])=some (false,aV false R'):=e1;simp only[zln] at e2;simp only[aW,aI,am4,aj,jO,ate,g4,e1',aS];exact AS.fC aB g2 g3 (aS _ _) aB e3
 ·have s1:=gY ((N9 l n).body (i+1) (txt ns) aB) he;simp only[zaO] at s1;obtain⟨Qs,t1,hsp⟩:=am3 hl j Ju aB aB;have hf:=Oz (l:=l) (i:=j) (nt:=txt Ju) aB;simp only[aW,aI,hsp,aj];generalize sep l j (txt Ju)=q at hf t1|-;rw[<-t1] at hf|-;simp only[zaO] at hf;rw[iV];cases h15:bC l q.1==15 with
  |false=>obtain⟨R',e1,e2,e3⟩:=fin2 30 0 [] [] (K1.tree x aB) K1.nil (by rw[Tn.flat_length];simp;omega);have e1':M.dG 30 0 [] [] [] (ak [[D.sl false 5 (aV false (x.flat 0))],[D.sl false 5 (ak [])]])=some (false,aV false R'):=e1;simp only[zln,Tn.flat_length] at e2;simp only[sF h15,aj,aW,aI,ate,h1,e1',aS];exact AS.fC aB aB aB (aS _ _) aB e3
  |true=>
   have hlt:=cO h15 (by decide);have e15:bC l q.1=15:=by rwa [beq_iff_eq] at h15
   simp only[fB hl e15 (by decide),aj,aW,aI,h1,PR.bind];exact ZH hl [x] (am2 hl n aB aB) aB aB (by simp only[sizes];omega) (by simp only[sizes];omega) (aMV hl aB)
theorem avZ(hx:adJ l)(i:Nat)(ns:List Tk)(hi:i<=l.length)(hn:ns.length<=i):AS l i ns.length (M.zQ m (au l) (i:Int) false (au ns)) (bif bC l i==17 then doQ l n i (txt ns) else aj8 l n i (txt ns)):=by
 have hdo:=aMW hl H hm i ns;obtain⟨m2,rfl⟩:∃m2,m=m2+2+1:=⟨m - 3,aB⟩
 cases e17:bC l i==17 with
 |true=>exact hdo (by rwa [beq_iff_eq] at e17) hn
 |false=>
  clear hdo;rw[M.Ui,aj8];simp only[M.vW,aW,aI,bH,gu,aj];have hp:∀{o:Option TY} {p:PR Tn},AS l i ns.length o p->AS l i ns.length (o.bind λr=>bif ah r.2.2.2.2.2 then some (false,ak r.2.1,r.2.2.1,r.2.2.2.1,r.2.2.2.2.1,r.2.2.2.2.2) else none) p:=
   λh=>AS.pass h (zaN _) aB (by intros;simp only[aW,aI])
  have hz:∀{k:Int},(bC l i==k)=true->k≠0->bC l i≠0:=λh h0=>by
   rw[beq_iff_eq] at h
   rwa [h]
  cases e25:bC l i==25 with
  |true=>exact hp (aDt hl hx n (.inl (by rwa [beq_iff_eq] at e25)) hn)
  |false=>
  cases e26:bC l i==26 with
  |true=>exact hp (aDt hl hx n (.inr (by rwa [beq_iff_eq] at e26)) hn)
  |false=>
  simp only[Bool.or_self,bH];cases e20:bC l i==20 with
  |true=>exact hp (ar4 hl 22 (hz e20 (by decide)) _)
  |false=>
  cases e18:bC l i==18 with
  |true=>exact hp (ar4 hl 25 (hz e18 (by decide)) _)
  |false=>
  cases e19:bC l i==19 with
  |true=>exact hp (ar4 hl 26 (hz e19 (by decide)) _)
  |false=>
  cases e21:bC l i==21 with
  |true=>exact hp (aAo hl n 23 (hz e21 (by decide)) hn)
  |false=>
  cases e22:bC l i==22 with
  |true=>exact hp (aAo hl n 24 (hz e22 (by decide)) hn)
  |false=>
  cases e23:bC l i==23 with
  |true=>exact hp (aMQ hl n (by rwa [beq_iff_eq] at e23) hn)
  |false=>simp only[e17,bH,M.ig,M.pU,aj];exact atc hl [] (at1 hl n false false hi hn) (zaN _) (by simp only[sizes];omega) (by simp[sizes]) (aDs hl (by decide) (by decide) hi)
theorem aMX(hx:adJ l)(i:Nat)(ns:List Tk)(hi:i<=l.length)(hn:ns.length<=i):AS l i ns.length (M.oI (m+1) (au l) (i:Int) false (au ns)) (stP l (n+1) i (txt ns)):=by
 have hif:=aMT hl H hm i ns;have am1:=aFW hl H hm i ns;have hsi:=avZ hl H hm hx i ns hi hn;have h:=H n (zaN _) m aB;obtain⟨m2,rfl⟩:∃m2,m=m2+2:=⟨m - 2,aB⟩
 rw[M.WJ,stP];simp only[M.Ap,aW,aI,bH,gu,aj];have hp:∀{o:Option TY} {p:PR Tn},AS l i ns.length o p->AS l i ns.length (o.bind λr=>bif ah r.2.2.2.2.2 then some (false,ak r.2.1,r.2.2.1,r.2.2.2.1,r.2.2.2.2.1,r.2.2.2.2.2) else none) p:=
  λh=>AS.pass h (zaN _) aB (by intros;simp only[aW,aI])
 by_cases e13:bC l i=13
 ·have hq:=hp (hif e13 hn);simp only[e13,show((13:Int)==30)=false from rfl,show((13:Int)==13)=true from rfl,bH,aI];exact hq
 have f13:(bC l i==13)=false:=by rwa [zbn]
 simp only[f13,bH]
 by_cases e15:bC l i=15
 ·have hlt:i<l.length:=dX (by rw[e15];decide);simp only[e15,show((15:Int)==30)=false from rfl,show((15:Int)==15)=true from rfl,bH,aI,fB hl e15 (by decide),aj,aW];refine AS.elim (Q:=AS l i ns.length) (am2 hl n aB aB) (λ_=>trivial) (λfl rows j Ju R g1 g2 g3 g4 g5 g6=> ?_) (λx fl rows j Ju h1 he=> ?_)
  ·simp only[aW,aI];refine(am5 m2 j Ju aB).elim (Q:=λo=>AS l i ns.length o (.bad j)) λfl' rows' ns3 R2 k1 k2 k3 k4=> ?_
   obtain⟨R',e1,e2,e3⟩:=fin2 29 0 [] [] g6 k3 aB;simp only[aW,aI,g4,k1,aj,e1,aS];exact AS.fC aB g2 aB (aS _ _) aB e3
  ·have s1:=gY (O8 aB) he;simp only[zaO] at s1;simp only[aW,aI,h1];exact ZH hl [x] (h.body j Ju aB aB) aB aB (by simp only[sizes];omega) (by simp only[sizes];omega) (atg hl aB (by rw[zaO];omega))
 have f15:(bC l i==15)=false:=by rwa [zbn]
 simp only[f15,bH]
 by_cases e16:bC l i=16
 ·have hq:=hp (am1 e16 hn);simp only[e16,show((16:Int)==30)=false from rfl,show((16:Int)==16)=true from rfl,show((16:Int)==17)=false from rfl,bH,aI];exact hq
 have f16:(bC l i==16)=false:=by rwa [zbn]
 simp only[f16,bH]
 by_cases e30:bC l i=30
 ·have hq:=hp (h.blk i ns hi hn);simp only[e30,show((30:Int)==30)=true from rfl,bH,aI];exact hq
 have f30:(bC l i==30)=false:=by rwa [zbn]
 simp only[f30,bH];have hss:(bif bC l i==17 then doQ l n i (txt ns) else aj8 l n i (txt ns)).sat λx j m=>i<=j/\j<=l.length/\m.length<=l.length/\x.size+m.length<=9 * (j - i)+ns.length/\x.size<=100000:=by
  cases e17:bC l i==17 with
  |false=>
   refine bP (arN (l:=l) hi) λx j m h=> ?_
   simp only[zaO] at h;omega
  |true=>
   have hlt:=cO e17 (by decide);simp only[aI,doQ];rw[dY];refine bP ((N9 l n).body (i+1) (txt ns) aB) λx j m h1=> ?_
   simp only[zaO] at h1;have hf:=Oz (l:=l) (i:=j) (nt:=m) aB;rw[dY,vF];intro hk;have hk':=dX (l:=l) (i:=(sep l j m).1) (by rw[hk];decide);rw[dY];refine bP (O8 (l:=l) aB) λy j2 m2 h2=> ?_
   show _/\_;simp only[Tn.size,sizes];omega
 have hq:=aFX hl hsi hss;cases e17:bC l i==17 with
 |true=>rw[e17] at hq;simp only[aI,doQ,PR.bind_assoc] at hq|-;exact hq
 |false=>rw[e17] at hq;simp only[bH] at hq|-;exact hq
end
def rt0(m:Nat):RT l 0 m where
 st:=λi ns _ _=>by rw[stP];trivial
 blk:=λi ns _ _=>by rw[JI];trivial
 body:=λi ns _ _=>by rw[Bh];trivial
def rt(hl:l.length<=3000)(hx:adJ l):∀N n,n<=N->∀m,4 * n+10<=m->RT l n m:=by
 intro N;induction N with
 |zero=>intro n hn m hm;obtain rfl:n=0:=aB;exact rt0 m
 |succ N ih=>
  intro n hn m hm;cases n with
  |zero=>exact rt0 m
  |succ n=>
   obtain⟨m',rfl⟩:∃m',m=m'+1:=⟨m - 1,aB⟩
   have H:∀n',n'<=n->∀m',4 * n'+10<=m'->RT l n' m':=λn' h=>ih n' aB
   exact⟨aMX hl H aB hx,aFV hl H aB,aCO hl H aB⟩
def RT.of(hl:l.length<=3000)(hx:adJ l)(n:Nat){m:Nat}(hm:4 * n+10<=m):RT l n m:=rt hl hx n n (zaN _) m hm
def ati(hl:l.length<=3000)(hx:adJ l)(n:Nat){i:Nat}{ns:List Tk}(hi:i<=l.length)(hn:ns.length<=i):AS l i ns.length (M.eF (au l) (i:Int) false (au ns)) (JI l n i (txt ns)):=
 AS.lim ((RT.of hl hx n (zaN _)).blk i ns hi hn) λr h=>M.Uj h
def aFY(i:Nat)(ns:List Tk)(hn:ns.length<=3000):BB l i ns 1 (M.eF (au l) (i:Int) true (au ns)):=
 let⟨fl,rows,ns',R,h1,h2,h3,h4,h5⟩:=aju 0 i ns hn
 ⟨fl,rows,ns',R,M.Uj h1,h2,h3,h4,h5⟩
variable {l:List Tk}
abbrev G2:=aA×Int×Bool×Int×Int×aP×aP×Int×Int×aP×aP×aA×aA
abbrev G3:=aA×Int×Int×Int×aP×aP×Int×Int×aP×aP×aA×aA
abbrev GO:=G2⊕B1⊕G3⊕G2
def g2(l:List Tk)(x:aP)(i:Nat)(b:Bool)(nt:iw)(rows:aA):G2:=(au l,(i:Int),b,0,0,[],[],44,0,x,[],encS nt,rows)
def g3(l:List Tk)(x:aP)(i:Nat)(nt:iw)(rows:aA):G3:=(au l,(i:Int),0,0,[],[],44,0,x,[],encS nt,rows)
def AQ(l:List Tk)(x:aP)(o:Option GO):PR (List Tn)->Prop
 | .ok L' j VI=>o=some (.inl (g2 l x j false VI (dO true L')))
 | .bad j=>∃VI rows,VI.length<=l.length/\rows.length<=8/\(o=some (.inl (g2 l x j true VI rows))\/o=some (.inr (.inr (.inl (g3 l x j VI rows)))))
 | .out=>True
def ajv(hl:l.length<=1048576){i:Nat}{nt:iw}(h:(bC l i==6)=true):M.bM (au l) (i:Int) false (encS nt)=some (zK l i,au l,((i+1:Nat):Int),false,encS nt):=by simp only[M.bM,M.iL,dR,aI,bH,eU,aj,bne,h,zaM,JJ hl (cO h (by decide))]
def aAv{i:Nat}{nt:iw}(h:(bC l i==6)=false):M.bM (au l) (i:Int) false (encS nt)=some ([],au l,(i:Int),true,encS nt):=by simp only[M.bM,M.iL,dR,aI,bH,eU,aj,bne,h,Bool.not_false]
def aeX(L:List Tn)(s:aP):dO true L++[[D.int .i64 1,D.int .i64 0,D.str s,D.str [],D.sl true 5 []]]=dO true (L++[.mk 1 0 s [] []]):=by rw[zq];rfl
def apW(hl:l.length<=1048576)(x:aP):∀(n:Nat) (L:List Tn) (i:Nat) (nt:iw),L.length<6->i<=l.length->nt.length<=i->AQ l x (M.jA (.inr (g2 l x i false nt (dO true L)))) (EI l n L i nt)
 |0,_,_,_,_,_,_=>by rw[EI];trivial
 |n+1,L,i,nt,hL,hi,hn=>by
  rw[EI,M.jA,nameP];cases h6:bC l i==6 with
  |false=>
   have hb:M.dZ (.inr (g2 l x i false nt (dO true L)))=some (.inr (.inl (g2 l x i true nt (dO true (L++[.mk 1 0 [] [] []]))))):=by simp only[Em,M.dZ,M.iG,g2,Bool.not_false,aI,dR,aAv h6,aj,aeX,dI,y7];rw[bK aB,aI,bK aB,aI]
   rw[aO hb];exact⟨nt,_,aB,by rw[dI,zT,y7];omega,.inl rfl⟩
  |true=>
   have hlt:=cO h6 (by decide);simp only[aI,PR.bind];cases hc:bC l (i+1)==36 with
   |false=>
    have hb:M.dZ (.inr (g2 l x i false nt (dO true L)))=some (.inr (.inl (g2 l x (i+1) false nt (dO true (L++[.mk 1 0 (zK l i) [] []]))))):=by simp only[Em,M.dZ,M.iG,g2,Bool.not_false,aI,bH,dR,ajv hl h6,aj,aeX,dI,y7,eU,bne,hc];rw[bK aB,aI,bK aB,aI]
    rw[aO hb];rfl
   |true=>
    have hlt':=cO hc (by decide);simp only[aI];cases hs:Nat.beq (L.length+1) 6 with
    |true=>
     have e:=Bv hs;have e':(((L.length+1:Nat):Int)==6)=true:=by rw[e];rfl
     have hb:M.dZ (.inr (g2 l x i false nt (dO true L)))=some (.inr (.inr (.inr (.inl (g3 l x (i+1) nt (dO true (L++[.mk 1 0 (zK l i) [] []]))))))):=by simp only[Em,M.dZ,M.iG,g2,g3,Bool.not_false,zaM,aI,bH,dR,ajv hl h6,aj,aeX,dI,y7,zT,eU,bne,hc,e'];rw[bK aB,aI,bK aB,aI]
     rw[aO hb];exact⟨nt,_,aB,by rw[dI,zT,y7];omega,.inr rfl⟩
    |false=>
     have e:L.length+1≠6:=Nat.ne_of_beq_eq_false hs;have e':(((L.length+1:Nat):Int)==6)=false:=by rw[zbn];omega
     have hf:=Bj (l:=l) (i:=i+1+1) (nt:=nt) aB;have hb:M.dZ (.inr (g2 l x i false nt (dO true L)))=some (.inl (.inr (g2 l x (nl l (i+1+1) nt).1 false (nl l (i+1+1) nt).2 (dO true (L++[.mk 1 0 (zK l i) [] []]))))):=by simp only[Em,M.dZ,M.iG,g2,Bool.not_false,zaM,aI,bH,dR,ajv hl h6,aj,aeX,dI,y7,zT,eU,bne,hc,e',mM hl hlt',OB hl (i+1+1) nt aB aB];rw[bK aB,aI,bK aB,aI]
     rw[bD hb];exact apW hl x n _ _ _ (by rw[zT,y7];omega) aB aB
def av1(hl:l.length<=1048576)(x:aP)(n:Nat){i:Nat}{nt:iw}(hi:i<=l.length)(hn:nt.length<=i):
  AQ l x (M.jA (.inl (true,au l,(i:Int),false,0,0,[],[],44,0,x,[],encS nt))) (EI l n [] i nt):=by
 cases n with
 |zero=>rw[EI];trivial
 |succ n=>
  have hrow:∀s:aP,[[D.int .i64 1,D.int .i64 0,D.str s,D.str [],D.sl true 5 []]]=dO true ([]++[Tn.mk 1 0 s [] []]):=λs=>rfl
  rw[EI,M.jA,nameP];cases h6:bC l i==6 with
  |false=>
   have hb:M.dZ (.inl (true,au l,(i:Int),false,0,0,[],[],44,0,x,[],encS nt))=some (.inr (.inl (g2 l x i true nt (dO true ([]++[.mk 1 0 [] [] []]))))):=by simp only[Em,M.dZ,M.iG,g2,Bool.not_false,aI,dR,aAv h6,aj,hrow]
   rw[aO hb];exact⟨nt,_,aB,by rw[dI];decide,.inl rfl⟩
  |true=>
   have hlt:=cO h6 (by decide);simp only[aI,PR.bind];cases hc:bC l (i+1)==36 with
   |false=>
    have hb:M.dZ (.inl (true,au l,(i:Int),false,0,0,[],[],44,0,x,[],encS nt))=some (.inr (.inl (g2 l x (i+1) false nt (dO true ([]++[.mk 1 0 (zK l i) [] []]))))):=by simp only[Em,M.dZ,M.iG,g2,Bool.not_false,aI,bH,dR,ajv hl h6,aj,hrow,eU,bne,hc]
    rw[aO hb];rfl
   |true=>
    have hlt':=cO hc (by decide);have hf:=Bj (l:=l) (i:=i+1+1) (nt:=nt) aB;have hb:M.dZ (.inl (true,au l,(i:Int),false,0,0,[],[],44,0,x,[],encS nt))=some (.inl (.inr (g2 l x (nl l (i+1+1) nt).1 false (nl l (i+1+1) nt).2 (dO true ([]++[.mk 1 0 (zK l i) [] []]))))):=by simp only[Em,M.dZ,M.iG,g2,Bool.not_false,zaM,aI,bH,dR,ajv hl h6,aj,hrow,eU,bne,hc,mM hl hlt',OB hl (i+1+1) nt aB aB]
    rw[bD hb];exact apW hl x n _ _ _ (by simp) aB aB
def alL:∀(n:Nat) (L:List Tn) (i:Nat) (nt:iw),L.length<6->(EI l n L i nt).sat λL' _ _=>L'.length<=6
 |0,_,_,_,_=>by rw[EI];trivial
 |n+1,L,i,nt,hL=>by
  rw[EI,dY,Uy];intro _;rw[eY];refine⟨λ_=> ?_,λ_=> ?_⟩
  ·rw[eY];refine⟨λ_=>trivial,λh=> ?_⟩;have:=Nat.ne_of_beq_eq_false h;exact alL n _ _ _ (by rw[zT,y7];omega)
  ·show(L++[_]).length<=6;rw[zT,y7];omega
noncomputable def fnC(x:aP)(c:aA)(c1:Int)(c2:Bool)(c3:aA):Option TT:=
 ((M.aJ 32 c c1 c2 c3).bind λWE=>
 (bif !WE.2.2.2.1 then
 (bif ah WE.2.2.2.2 then
 ((M.aC WE.2.1 WE.2.2.1 WE.2.2.2.1 WE.2.2.2.2).bind λZL=>
 (bif ZL.1 !=33 then
 ((M.jA (.inl ((true,ZL.2.1,ZL.2.2.1,ZL.2.2.2.1,0,0,[],[],44,0,x,[],ZL.2.2.2.2)))).bind λaTn=>
 iD aTn (λag8=>
 (bif ah ag8.2.2.2.2.2.2.2.2.2.2.2.1 then
 ((M.aJ 33 ag8.1 ag8.2.1 ag8.2.2.1 ag8.2.2.2.2.2.2.2.2.2.2.2.1).bind λarA=>
 (bif ah arA.2.2.2.2 then
 ((M.aN arA.2.1 arA.2.2.1 arA.2.2.2.1 arA.2.2.2.2).bind λagU=>
 (bif ah agU.2.2.2 then
 ((M.bJ agU.1 agU.2.1 agU.2.2.1 agU.2.2.2).bind λPv=>
 (bif((ag8.2.2.2.2.2.2.2.2.2.2.2.2.length+[[D.int IntKind.i64 Pv.1,D.int IntKind.i64 Pv.2.1,D.str Pv.2.2.1,D.str Pv.2.2.2.1,D.sl false 5 (ak Pv.2.2.2.2.2.1)]].length) * 72).ble 140737488355328 then
 (bif(ag8.2.2.2.2.2.2.2.2.2.2.2.2.length+[[D.int IntKind.i64 Pv.1,D.int IntKind.i64 Pv.2.1,D.str Pv.2.2.1,D.str Pv.2.2.2.1,D.sl false 5 (ak Pv.2.2.2.2.2.1)]].length).ble 140737488355328 then
 (bif ah Pv.2.2.2.2.2.2.2.2.2 then
 (some ((ag8.2.2.2.2.2.2.2.1,ag8.2.2.2.2.2.2.2.2.1,ag8.2.2.2.2.2.2.2.2.2.1,ag8.2.2.2.2.2.2.2.2.2.2.1,true,ag8.2.2.2.2.2.2.2.2.2.2.2.2++[[D.int IntKind.i64 Pv.1,D.int IntKind.i64 Pv.2.1,D.str Pv.2.2.1,D.str Pv.2.2.2.1,D.sl false 5 (ak Pv.2.2.2.2.2.1)]],Pv.2.2.2.2.2.2.1,Pv.2.2.2.2.2.2.2.1,Pv.2.2.2.2.2.2.2.2.1,Pv.2.2.2.2.2.2.2.2.2))) else none) else none) else none)) else none)) else none)) else none)) λaTo=>
 iD aTo (λam7=>
 (bif ah am7.2.2.2.2.2.2.2.2.2.2.2 then
 ((M.aJ 33 am7.1 am7.2.1 am7.2.2.1 am7.2.2.2.2.2.2.2.2.2.2.2).bind λaiT=>
 (bif ah aiT.2.2.2.2 then
 ((M.aN aiT.2.1 aiT.2.2.1 aiT.2.2.2.1 aiT.2.2.2.2).bind λagV=>
 (bif ah agV.2.2.2 then
 ((M.bJ agV.1 agV.2.1 agV.2.2.1 agV.2.2.2).bind λZM=>
 (bif ah ZM.2.2.2.2.2.2.2.2.2 then
 (some ((am7.2.2.2.2.2.2.2.1,am7.2.2.2.2.2.2.2.2.1,am7.2.2.2.2.2.2.2.2.2.1,am7.2.2.2.2.2.2.2.2.2.2.1,true,[[D.int IntKind.i64 ZM.1,D.int IntKind.i64 ZM.2.1,D.str ZM.2.2.1,D.str ZM.2.2.2.1,D.sl false 5 (ak ZM.2.2.2.2.2.1)]],ZM.2.2.2.2.2.2.1,ZM.2.2.2.2.2.2.2.1,ZM.2.2.2.2.2.2.2.2.1,ZM.2.2.2.2.2.2.2.2.2))) else none)) else none)) else none)) else none)) λaTp=>
 iD aTp (λajw=>
 (bif ah ajw.2.2.2.2.2.2.2.2.2.2.1 then
 ((M.aJ 33 ajw.1 ajw.2.1 true ajw.2.2.2.2.2.2.2.2.2.2.1).bind λaiU=>
 (bif ah aiU.2.2.2.2 then
 ((M.aN aiU.2.1 aiU.2.2.1 aiU.2.2.2.1 aiU.2.2.2.2).bind λagW=>
 (bif ah agW.2.2.2 then
 ((M.bJ agW.1 agW.2.1 agW.2.2.1 agW.2.2.2).bind λPx=>
 (bif((ajw.2.2.2.2.2.2.2.2.2.2.2.length+[[D.int IntKind.i64 Px.1,D.int IntKind.i64 Px.2.1,D.str Px.2.2.1,D.str Px.2.2.2.1,D.sl false 5 (ak Px.2.2.2.2.2.1)]].length) * 72).ble 140737488355328 then
 (bif(ajw.2.2.2.2.2.2.2.2.2.2.2.length+[[D.int IntKind.i64 Px.1,D.int IntKind.i64 Px.2.1,D.str Px.2.2.1,D.str Px.2.2.2.1,D.sl false 5 (ak Px.2.2.2.2.2.1)]].length).ble 140737488355328 then
 (bif ah Px.2.2.2.2.2.2.2.2.2 then
 (some ((ajw.2.2.2.2.2.2.1,ajw.2.2.2.2.2.2.2.1,ajw.2.2.2.2.2.2.2.2.1,ajw.2.2.2.2.2.2.2.2.2.1,true,ajw.2.2.2.2.2.2.2.2.2.2.2++[[D.int IntKind.i64 Px.1,D.int IntKind.i64 Px.2.1,D.str Px.2.2.1,D.str Px.2.2.2.1,D.sl false 5 (ak Px.2.2.2.2.2.1)]],Px.2.2.2.2.2.2.1,Px.2.2.2.2.2.2.2.1,Px.2.2.2.2.2.2.2.2.1,Px.2.2.2.2.2.2.2.2.2))) else none) else none) else none)) else none)) else none)) else none)) λaTq=>
 letE aTq λag9=>
 (bif ah ag9.2.2.2.2.2.2.2.2.2.2.2.1 then
 ((M.aJ 33 ag9.1 ag9.2.1 ag9.2.2.1 ag9.2.2.2.2.2.2.2.2.2.2.2.1).bind λarB=>
 (bif ah arB.2.2.2.2 then
 ((M.aN arB.2.1 arB.2.2.1 arB.2.2.2.1 arB.2.2.2.2).bind λagY=>
 (bif ah agY.2.2.2 then
 ((M.bJ agY.1 agY.2.1 agY.2.2.1 agY.2.2.2).bind λOv=>
 (bif((ag9.2.2.2.2.2.2.2.2.2.2.2.2.length+[[D.int IntKind.i64 Ov.1,D.int IntKind.i64 Ov.2.1,D.str Ov.2.2.1,D.str Ov.2.2.2.1,D.sl false 5 (ak Ov.2.2.2.2.2.1)]].length) * 72).ble 140737488355328 then
 (bif(ag9.2.2.2.2.2.2.2.2.2.2.2.2.length+[[D.int IntKind.i64 Ov.1,D.int IntKind.i64 Ov.2.1,D.str Ov.2.2.1,D.str Ov.2.2.2.1,D.sl false 5 (ak Ov.2.2.2.2.2.1)]].length).ble 140737488355328 then
 (bif ah Ov.2.2.2.2.2.2.2.2.2 then
 (some ((ag9.2.2.2.2.2.2.2.1,ag9.2.2.2.2.2.2.2.2.1,ag9.2.2.2.2.2.2.2.2.2.1,ag9.2.2.2.2.2.2.2.2.2.2.1,true,ag9.2.2.2.2.2.2.2.2.2.2.2.2++[[D.int IntKind.i64 Ov.1,D.int IntKind.i64 Ov.2.1,D.str Ov.2.2.1,D.str Ov.2.2.2.1,D.sl false 5 (ak Ov.2.2.2.2.2.1)]],Ov.2.2.2.2.2.2.1,Ov.2.2.2.2.2.2.2.1,Ov.2.2.2.2.2.2.2.2.1,Ov.2.2.2.2.2.2.2.2.2))) else none) else none) else none)) else none)) else none)) else none)) else
 (bif ah ZL.2.2.2.2 then
 ((M.aJ 33 ZL.2.1 ZL.2.2.1 ZL.2.2.2.1 ZL.2.2.2.2).bind λqN=>
 (bif ah qN.2.2.2.2 then
 ((M.aN qN.2.1 qN.2.2.1 qN.2.2.2.1 qN.2.2.2.2).bind λWG=>
 (bif ah WG.2.2.2 then
 ((M.bJ WG.1 WG.2.1 WG.2.2.1 WG.2.2.2).bind λWH=>
 (bif ah WH.2.2.2.2.2.2.2.2.2 then
 (some ((44,0,x,[],true,[[D.int IntKind.i64 WH.1,D.int IntKind.i64 WH.2.1,D.str WH.2.2.1,D.str WH.2.2.2.1,D.sl false 5 (ak WH.2.2.2.2.2.1)]],WH.2.2.2.2.2.2.1,WH.2.2.2.2.2.2.2.1,WH.2.2.2.2.2.2.2.2.1,WH.2.2.2.2.2.2.2.2.2))) else none)) else none)) else none)) else none))) else none) else
 (bif ah WE.2.2.2.2 then
 ((M.aJ 33 WE.2.1 WE.2.2.1 WE.2.2.2.1 WE.2.2.2.2).bind λajV=>
 (bif ah ajV.2.2.2.2 then
 ((M.aN ajV.2.1 ajV.2.2.1 ajV.2.2.2.1 ajV.2.2.2.2).bind λagX=>
 (bif ah agX.2.2.2 then
 ((M.bJ agX.1 agX.2.1 agX.2.2.1 agX.2.2.2).bind λQc=>
 (bif ah Qc.2.2.2.2.2.2.2.2.2 then
 (some ((44,0,x,[],true,[[D.int IntKind.i64 Qc.1,D.int IntKind.i64 Qc.2.1,D.str Qc.2.2.1,D.str Qc.2.2.2.1,D.sl false 5 (ak Qc.2.2.2.2.2.1)]],Qc.2.2.2.2.2.2.1,Qc.2.2.2.2.2.2.2.1,Qc.2.2.2.2.2.2.2.2.1,Qc.2.2.2.2.2.2.2.2.2))) else none)) else none)) else none)) else none)))
def fpP(l:List Tk)(n:Nat)(x:aP)(j:Nat)(nt:iw):PR Tn:=(iV l 32 j nt).bind λ_ j nt=>(bif bC l j==33 then .ok [] j nt else EI l n [] j nt).bind λL j nt=>(iV l 33 j nt).bind λ_ j nt=>(JI l n (nl l j nt).1 (nl l j nt).2).bind λb j nt=> .ok (.mk 44 0 x [] (L++[b])) j nt
def aDu(hl:l.length<=1048576)(n:Nat)(x:aP){i:Nat}{nt:iw}(hi:i<=l.length)(hn:nt.length<=i):AT l (fnC x (au l) (i:Int) false (encS nt)) (fpP l n x i nt):=by
 rw[fnC,fpP];refine JK (R:=AT l) hl (by decide) ?_ (λ_ hlt=> ?_)
 ·simp only[zaM,bH,dR,aI,sG,aj,FT];refine AT.BA (R:=λo=>AT l o (.bad i)) (ath hl aB) λk op x y fl ks nt hn=> ?_
  simp only[dR,aI];exact AT.fC hn
 ·simp only[Bool.not_false,aI,dR,eU,aj,bne];cases h33:bC l (i+1)==33 with
  |true=>
   simp only[zaM,bH,dR,aI,PR.bind];have e33:bC l (i+1)=33:=by rwa [beq_iff_eq] at h33
   have hlt':=cO h33 (by decide);have hf:=Bj (l:=l) (i:=i+1+1) (nt:=nt) aB;simp only[iV,h33,aI,ar8 hl (by decide) e33,aj,dR,OB hl (i+1+1) nt aB aB];refine AT.elim (R:=AT l) (apV hl n aB aB) (λ_=>trivial) (λk op x y fl ks j nt hn=> ?_) (λb fb kb j nt hb eb=> ?_)
   ·simp only[dR,aI];exact AT.fC hn
   ·simp only[dR,aI];exact AT.mk rfl rfl rfl rfl (fz1 (J8 hb))
  |false=>
   simp only[Bool.not_false,aI,bH];have hp:=av1 hl x n (i:=i+1) (nt:=nt) aB aB;have y5:=ahr (l:=l) n [] (i+1) nt aB;have h6:(EI l n [] (i+1) nt).sat λL _ _=>L.length<=6:=alL n [] (i+1) nt (by decide)
   generalize EI l n [] (i+1) nt=p at hp y5 h6|-;cases p with
   |out=>trivial
   |bad j=>
    obtain⟨VI,rows,h1,h2,h3|h3⟩:=hp
    ·rw[h3,aj];simp only[g2,iD,dR,aI,sG,aj,FT];refine AT.BA (R:=λo=>AT l o (.bad j)) (ath hl h1) λk op x y fl ks nt hn=> ?_
     simp only[y7,dR,aI];rw[bK aB,aI,bK aB,aI];exact AT.fC hn
    ·rw[h3,aj];simp only[g3,iD,dR,aI,sG,aj,FT];refine AT.BA (R:=λo=>AT l o (.bad j)) (ath hl h1) λk op x y fl ks nt hn=> ?_
     simp only[y7,dR,aI];rw[bK aB,aI,bK aB,aI];exact AT.fC hn
   |ok L j m=>
    have hp':_=_:=hp;have hs':i+1<j/\FN l (i+1) nt.length j m.length/\sizes L+m.length+6 * (i+1)<=sizes ([]:List Tn)+nt.length+6 * j:=y5;have h6':L.length<=6:=h6;rw[hp',aj];simp only[g2,iD,dR,aI,PR.bind];refine JK (R:=AT l) hl (by decide) ?_ (λ_ hlt=> ?_)
    ·simp only[dR,aI,FT,aj];refine AT.BA (R:=λo=>AT l o (.bad j)) (ath hl aB) λk op x y fl ks nt hn=> ?_
     simp only[y7,dI,dR,aI];rw[bK aB,aI,bK aB,aI];exact AT.fC hn
    ·have hf:=Bj (l:=l) (i:=j+1) (nt:=m) aB;simp only[dR,aI,OB hl (j+1) m aB aB,aj];refine AT.elim (R:=AT l) (apV hl n aB aB) (λ_=>trivial) (λk op x y fl ks j nt hn=> ?_) (λb fb kb j nt hb eb=> ?_)
     ·simp only[y7,dI,dR,aI];rw[bK aB,aI,bK aB,aI];exact AT.fC hn
     ·simp only[y7,dI,dR,aI];rw[bK aB,aI,bK aB,aI];exact AT.mk rfl rfl rfl rfl (by rw[OD,iT,fz1 (J8 hb)];exact(zq _ _ _).symm)
def aMY(hl:l.length<=1048576)(n:Nat){i:Nat}{nt:iw}(hi:i<=l.length)(hn:nt.length<=i):AT l (M.mG (au l) (i:Int) false (encS nt)) (amO l n i nt):=by
 simp only[Em,M.mG,M.zn,dR,aI,eU,aj,bne,amO];cases h6:bC l i==6 with
 |true=>have hlt:=cO h6 (by decide);simp only[zaM,bH,dR,aI,JJ hl hlt,aj,Bool.true_or];exact aDu hl n (zK l i) aB aB
 |false=>
  simp only[Bool.not_false,aI,Bool.false_or];cases h7:bC l i==7 with
  |true=>have hlt:=cO h7 (by decide);simp only[zaM,bH,dR,aI,JJ hl hlt,aj];exact aDu hl n (zK l i) aB aB
  |false=>simp only[Bool.not_false,aI,bH,dR];exact AT.fC aB
def aAw{k op:Int}{s s':aP}{fl:Bool}{ks:aA}{x:Tn}{j:Nat}{nt:iw}(h1:k=x.kind)(h2:op=x.op)(h3:s=x.text)(h4:s'=x.other)(h5:ak ks=dO false x.kids)(hn:nt.length<=l.length):
  AT l ((M.fP (au l) (j:Int) false (encS nt)).bind λr=>bif ah r.2.2.2 then some (k,op,s,s',fl,ks,r.1,r.2.1,r.2.2.1,r.2.2.2) else none) (endP l x j nt):=by
 rw[arU,aj];simp only[dR,aI];exact az9 h1 h2 h3 h4 h5 hn
def am8(hl:l.length<=1048576)(n:Nat)(k op:Int){i:Nat}{nt:iw}(hi:i<=l.length)(hn:nt.length<=i):
  AT l ((M.bJ (au l) (i:Int) false (encS nt)).bind λr=>bif ah r.2.2.2.2.2.2.2.2.2 then some (k,op,[],[],true,[[D.int .i64 r.1,D.int .i64 r.2.1,D.str r.2.2.1,D.str r.2.2.2.1,D.sl false 5 (ak r.2.2.2.2.2.1)]],r.2.2.2.2.2.2.1,r.2.2.2.2.2.2.2.1,r.2.2.2.2.2.2.2.2.1,r.2.2.2.2.2.2.2.2.2) else none)
   ((JI l n i nt).bind λb i nt=> .ok (.mk k op [] [] [b]) i nt):=by
 refine AT.elim (R:=AT l) (apV hl n hi hn) (λ_=>trivial) (λk op x y fl ks j nt hn=> ?_) (λb fb kb j nt hb eb=> ?_)
 ·simp only[dR,aI];exact AT.fC hn
 ·simp only[dR,aI];exact AT.mk rfl rfl rfl rfl (fz1 (J8 hb))
def aAx(hl:l.length<=1048576)(n:Nat){i:Nat}{nt:iw}(hi:i<=l.length)(hn:nt.length<=i):AT l (M.kN (au l) (i:Int) false (encS nt)) (Ux l n i nt):=by
 simp only[M.kN,M.FH,dR,aI,eU,aj,Ux];cases h10:bC l i==10 with
 |true=>have hlt:=cO h10 (by decide);simp only[aI,mM hl hlt];exact am8 hl n 40 0 aB aB
 |false=>
 cases h11:bC l i==11 with
 |true=>have hlt:=cO h11 (by decide);simp only[aI,bH,mM hl hlt];exact am8 hl n 41 0 aB aB
 |false=>
 cases h12:bC l i==12 with
 |true=>have hlt:=cO h12 (by decide);simp only[aI,bH,mM hl hlt];exact AT.pass (aMY hl n aB aB) (by intros;simp only[dR,aI])
 |false=>
 cases h30:bC l i==30 with
 |true=>simp only[aI,bH];exact am8 hl n 42 2 hi hn
 |false=>
 simp only[bH];refine AP.elim (R:=AT l) (ajt hl n false false hi hn) (λ_=>trivial) (λk op x y fl ks tg j nt hn=> ?_) (λx fx kx j nt hx ex=> ?_)
 ·simp only[zaM,bH,dR,aI];exact AT.fC hn
 ·have s1:=gY (EJ aB aB hi) ex;simp only[Bool.not_false,aI,dR,eU,aj];cases h36:bC l j==36 with
  |false=>
   simp only[bH,PR.bind];cases hb:bC l j==30 with
   |false=>simp only[bH];exact aAw rfl rfl rfl rfl (fz1 (J8 hx)) aB
   |true=>
    simp only[aI];refine AT.elim (R:=AT l) (apV hl n aB aB) (λ_=>trivial) (λk op x y fl ks j nt hn=> ?_) (λb fb kb j nt hb eb=> ?_)
    ·simp only[dR,aI];exact AT.fC hn
    ·simp only[dR,aI];exact AT.mk rfl rfl rfl rfl (by rw[OD,fz1 (J8 hx),fz1 (J8 hb)];rfl)
  |true=>
   have hlt:=cO h36 (by decide);have hf:=Bj (l:=l) (i:=j+1) (nt:=nt) aB;simp only[aI,mM hl hlt,OB hl (j+1) nt aB aB,aj,dR];have e:∀p:PR Xp,((p.bind λy i nt=>PR.ok ((43:Int),[x.1,y.1]) i nt).bind λq i nt=>bif bC l i==30 then(JI l n i nt).bind λb i nt=>PR.ok (Tn.mk q.1 3 [] [] (q.2++[b])) i nt else endP l (Tn.mk q.1 1 [] [] q.2) i nt)=
     p.bind λy i nt=>bif bC l i==30 then(JI l n i nt).bind λb i nt=>PR.ok (Tn.mk 43 3 [] [] ([x.1,y.1]++[b])) i nt else endP l (Tn.mk 43 1 [] [] [x.1,y.1]) i nt:=by
    intro p;cases p<;>rfl
   rw[e];refine AP.elim (R:=AT l) (ajt hl n false false aB aB) (λ_=>trivial) (λk op x y fl ks tg j nt hn=> ?_) (λy fy ky j nt hy ey=> ?_)
   ·simp only[zaM,bH,dR,aI];exact AT.fC hn
   ·have s2:=gY (EJ aB aB aB) ey;simp only[Bool.not_false,aI,dR,eU,aj];cases hb:bC l j==30 with
    |false=>simp only[bH];exact aAw rfl rfl rfl rfl (by rw[OD,fz1 (J8 hx),fz1 (J8 hy)];rfl) aB
    |true=>
     simp only[aI];refine AT.elim (R:=AT l) (apV hl n aB aB) (λ_=>trivial) (λk op x y fl ks j nt hn=> ?_) (λb fb kb j nt hb eb=> ?_)
     ·simp only[dR,aI];exact AT.fC hn
     ·simp only[dR,aI];exact AT.mk rfl rfl rfl rfl (by rw[OD,OD,fz1 (J8 hx),fz1 (J8 hy),fz1 (J8 hb)];rfl)
def av2(hl:l.length<=1048576){i:Nat}{nt:iw}(h:bC l i=31)(hi:i<=l.length)(hn:nt.length<=i):AT l (M.kN (au l) (i:Int) false (encS nt)) (.bad i):=by
 have e:Ux l 20 i nt=.bad i:=by
  have e:ex l 20 1 false false i nt=.bad i:=atb (.inr h) nt 1 (by decide) (by decide) 20 false false (by decide);have h1:(bC l i==10)=false:=by rw[h];rfl
  have h2:(bC l i==11)=false:=by rw[h];rfl
  have h3:(bC l i==12)=false:=by rw[h];rfl
  have h4:(bC l i==30)=false:=by rw[h];rfl
  simp only[Ux,h1,h2,h3,h4,bH,e];rfl
 have:=aAx hl 20 hi hn
 rwa [e] at this
end Go.Proofs.YtoaeipkhadpbiaaGreatDoor
