import Derived.Test.YtoaeipkhadpbiaaGreatDoorXRs7
set_option linter.defProp false
namespace Go.Proofs.YtoaeipkhadpbiaaGreatDoor
set_option linter.unusedVariables false
set_option linter.unusedSimpArgs false
open Go Go.Vm
open Go.IntKind (i64)
variable {l:List Tk}
def ayv(hl:l.length<=3000)(n:Nat)(k:Int){i:Nat}{ns:List Tk}(h:bD l i≠0)(hn:ns.length<=i):AS l i ns.length (M.oN k true (au l) (i:Int) false (au ns)) (aco l n k i (txt ns)):=by
 have hlt:=dV h;simp only[M.oN,M.JE,M.jc,M.qK,aZ,aI,fU,aj,eU hl rfl h,zaN,aX,amq,aco];cases Gj (bD l (i+1)) with
 |true=>exact AS.mk (Ns k [])
 |false=>simp only[aX];exact asl hl [] (at1 hl n false false (i:=i+1) (ns:=ns) aB aB) aB (by simp only[sizes];omega) (by simp[sizes]) (aBX hl aB aB aB)
def aq1(hl:l.length<=3000)(k:Int){i:Nat}{ns:List Tk}(h:bD l i≠0)(n0:Nat):AS l i n0 (M.oN k false (au l) (i:Int) false (au ns)) (.ok (.mk k 0 [] [] []) (i+1) (txt ns)):=by simp only[M.oN,M.JE,aZ,aI,fU,aj,eU hl rfl h,Bool.not_false];exact AS.mk (Ns k [])
def aAX(hl:l.length<=3000){n i:Nat}{nt:gY}{e:Int}(hi:i<=l.length):(agH l n e i nt).sat λL _ _=>sizes L<=9000:=by
 rw[agH,dW];refine bJ (acr (l:=l) hi) λL j m hL=> ?_
 rw[dW,wS];intro _;show sizes L<=9000;omega
def aMa(hl:l.length<=3000)(n:Nat){i:Nat}{ns:List Tk}(h:bD l i=23)(hn:ns.length<=i):AS l i ns.length (M.yC (au l) (i:Int) false (au ns)) (ame l n i (txt ns)):=by
 have hlt:i<l.length:=dV (by rw[h];decide);simp only[M.yC,M.Kw,aZ,aI,eU hl h (by decide),aj,ame];rw[nameP];cases h6:bD l (i+1)==6 with
 |false=>
  simp only[uo h6,aZ,aI,fU,aj,bne,aX,jW,aEa];cases bD l (i+1)==34 with
  |false=>simp only[Bool.not_false,aI];exact AS.eX (R:=(Tn.mk 27 0 [] [] []).flat 0) aB aB aB (Ns 27 []) (by rw[Tn.flat_length,Vg];omega) (WH _ (by rw[Vg];omega))
  |true=>obtain⟨R',_,e1,e2,e3⟩:=aaO 27 0 [] [] [] (b:=0) (by simp[lens]) aB (by simp) KB.nil;have e1':M.bV 27 0 [] [] [] (ak [])=some (aW true R'):=e1;simp only[zaN,aX,e1',aj,aZ,aI,aT];exact AS.eX aB aB aB (aT _ _) aB e3
 |true=>
  have aD9:=cZ h6 (by decide);have e6:bD l (i+1)=6:=by rwa [beq_iff_eq] at h6
  simp only[eU hl e6 (by decide),aZ,aI,fU,aj,bne,PR.bind];cases hc:bD l (i+1+1)==34 with
  |false=>simp only[Bool.not_false,aI,aX];exact AS.mk (Ns 27 _)
  |true=>
   have hlt':=cZ hc (by decide);have e34:bD l (i+1+1)=34:=by rwa [beq_iff_eq] at hc
   simp only[zaN,aX,aI,eU hl e34 (by decide),aj,aZ];have e:(PU l n false false [] (i+1+1+1) (txt ns)).bind (λL j nt=>(iZ l 35 j nt).bind λ_ j nt=>PR.ok (Tn.mk 27 0 (Bo l (i+1)) [] L) j nt)=
     (agH l n 35 (i+1+1+1) (txt ns)).bind λL j nt=> .ok (Tn.mk 27 0 (Bo l (i+1)) [] L) j nt:=by
    rw[agH];cases PU l n false false [] (i+1+1+1) (txt ns) with
    |ok L j m=>simp only[PR.bind];cases iZ l 35 j m<;>rfl
    |bad j=>rfl
    |out=>rfl
   show AS l i ns.length _ ((PU l n false false [] (i+1+1+1) (txt ns)).bind (λL j nt=>(iZ l 35 j nt).bind λ_ j nt=>PR.ok (Tn.mk 27 0 (Bo l (i+1)) [] L) j nt));rw[e];refine AY.elim (Q:=AS l i ns.length) (aL9 hl n (i:=i+1+1+1) (ns:=ns) aB aB) (λ_=>trivial) (λfl j ns' P g1 g2 g3 g4 g5 g6=> ?_) (λL fl j ns' he=> ?_)
   ·obtain⟨R',_,e1,e2,e3⟩:=aaO 27 0 (Bo l (i+1)) [] P (b:=3 * (j - (i+1+1+1))) g4 aB aB g6;simp only[Ar,e1,aj,aZ,aI,aT];exact AS.eX aB g2 g3 (aT _ _) aB e3
   ·have hs:sizes L<=9000:=gU (aAX hl aB) he;have hmk:=EF 27 0 (Bo l (i+1)) [] [] L aB;simp only[LG,hmk,aj,aZ,aI,aT];exact AS.mk (aT _ _)
def ado(l:List Tk):Prop:=∀i,xY (bD l i)=true->M.qw (bD l i)=some (Bo l i)
noncomputable def prT(op:Int)(c:ay)(c1:Int)(c2:Bool)(rows:ay)(c3:ay):Option TY:=
 (bif ah c3 then
 ((M.aK c c1 c2 c3).bind λGY=>
 (bif !GY.2.2.2.1 then
 ((M.kV GY.1).bind λaDb=>
 (bif aDb then
 (bif ah GY.2.2.2.2 then
 ((M.aH GY.1 GY.2.1 GY.2.2.1 GY.2.2.2.1 GY.2.2.2.2).bind λaiw=>
 ((M.qw GY.1).bind λaDc=>
 (bif ah aiw.2.2.2.2.2.2 then
 ((M.dX 9 false false false false aiw.2.2.2.1 aiw.2.2.2.2.1 aiw.2.2.2.2.2.1 aiw.2.2.2.2.2.2).bind λYF=>
 (bif((rows.length+[[D.sl false 5 (ak YF.2.1)]].length) * 24).ble 140737488355328 then
 (bif(rows.length+[[D.sl false 5 (ak YF.2.1)]].length).ble 140737488355328 then
 ((M.bV 21 op [] aDc [] (ak (rows++[[D.sl false 5 (ak YF.2.1)]]))).bind λaDd=>
 (bif ah YF.2.2.2.2.2.2 then
 (some ((false,ak aDd,YF.2.2.2.1,YF.2.2.2.2.1,YF.2.2.2.2.2.1,YF.2.2.2.2.2.2))) else none)) else none) else none)) else none))) else none) else
 ((M.bV 21 op [] [] [] (ak rows)).bind λaDe=>
 (bif ah GY.2.2.2.2 then
 (some ((false,ak aDe,GY.2.1,GY.2.2.1,GY.2.2.2.1,GY.2.2.2.2))) else none)))) else
 ((M.bV 21 op [] [] [] (ak rows)).bind λaDf=>
 (bif ah GY.2.2.2.2 then
 (some ((false,ak aDf,GY.2.1,GY.2.2.1,GY.2.2.2.1,GY.2.2.2.2))) else none)))) else none)
def ayw(hl:l.length<=3000)(hx:ado l)(n:Nat)(op:Int){i n0:Nat}{L:List Tn}{j:Nat}{ns:List Tk}(hij:i<j)(hj:j<=l.length)(hn:ns.length<=j)(hL:sizes L+2 * i<=2 * j)(h6:L.length<=6):
  AS l i n0 (prT op (au l) (j:Int) false (parts L) (au ns)) (bif xY (bD l j) then(ex l n 9 false false (j+1) (txt ns)).bind λx k nt=> .ok (.mk 21 op [] (Bo l j) (L++[x.1])) k nt else .ok (.mk 21 op [] [] L) j (txt ns)):=by
 simp only[prT,aZ,aI,fU,aj,Bool.not_false,amr];cases hs:xY (bD l j) with
 |false=>simp only[aX,LG,EF 21 op [] [] [] L aB,aj,aT];exact AS.mk (aT _ _)
 |true=>
  have hlt:=dV (Z5 hs);simp only[aI,eU hl rfl (Z5 hs),aj,hx j hs,aZ];refine AX.elim (Q:=AS l i n0) (at9 hl n false false (i:=j+1) (ns:=ns) aB aB) (λ_=>trivial) (λfl rows hd j2 ns' R g1 g2 g3 g4 g5=> ?_) (λx fl rows j2 ns' h1 he=> ?_)
  ·have g51:=g5.1;obtain⟨R',_,e1,e2,e3⟩:=aaO 21 op [] (Bo l j) ((L.map λt=>t.flat 0)++[R]) (b:=sizes L+R.length) (by rw[wU,mP,lens,lens];omega) aB (by rw[Au,zaP,zf];omega) (KB.trees L aB (KB.cons g5.2 KB.nil));simp only[oW,zf];rw[bG aB,aI,bG aB,aI];simp only[Ob g4,Ar,e1,aj,aZ,aI,aT];exact AS.eX aB g2 g3 (aT _ _) aB e3
  ·have hs2:=gU (Gy aB aB aB) he;simp only[zaP] at hs2;simp only[oW,zf];rw[bG aB,aI,bG aB,aI];simp only[H7 h1,LG,EF 21 op [] (Bo l j) [] (L++[x.1]) (by rw[sizes1];omega),aj,aZ,aI,aT];exact AS.mk (aT _ _)
def asq(hl:l.length<=3000)(op:Int){i n0:Nat}{P:List (List Nd)}{j:Nat}{ns:List Tk}(g1:i<=j)(g2:j<=l.length)(g3:ns.length<=l.length)(g4:lens P<=3 * (j - i))(g5:P.length<=8)(g6:KB P):
  AS l i n0 (prT op (au l) (j:Int) true (qW P) (au ns)) (.bad j):=by
 obtain⟨R',_,e1,e2,e3⟩:=aaO 21 op [] [] P (b:=3 * (j - i)) g4 aB aB g6;simp only[prT,aZ,aI,fU,aj,zaN,aX,Ar,e1,aT];exact AS.eX aB g2 g3 (aT _ _) aB e3
abbrev S5:=ay×Int×Bool×ay×ay
def AJ(l:List Tk)(i:Nat)(o:Option (S5⊕S5)):PR (List Tn)->Prop
 | .ok L j nt=>∃ns,txt ns=nt/\o=some (.inl (au l,(j:Int),false,parts L,au ns))
 | .bad j=>∃ns P u,i<=j/\j<=l.length/\ns.length<=l.length/\lens P<=3 * (j - i)/\P.length<=8/\KB P/\o=some u/\(u=.inl (au l,(j:Int),true,qW P,au ns)\/u=.inr (au l,(j:Int),true,qW P,au ns))
 | .out=>True
def ayx(hl:l.length<=3000)(op:Int)(hop:op=1\/op=0):
  ∀(n i0:Nat) (L:List Tn) (i:Nat) (ns:List Tk),(op=1\/0<L.length\/Gj (bD l i)=false/\xY (bD l i)=false)->
    L.length<6->i0<=i->i<=l.length->ns.length<=i->sizes L+2 * i0<=2 * i->AJ l i0 (M.xA 21 op [] [] (au l,(i:Int),false,parts L,au ns)) (PU l n false true L i (txt ns))
 |0,_,_,_,_,_,_,_,_,_,_=>by rw[PU];trivial
 |n+1,i0,L,i,ns,hc0,hL,hi0,hi,hn,hsz=>by
  rw[PU,M.xA];have hb:M.sS 21 op [] [] (au l,(i:Int),false,parts L,au ns)=(M.dX 1 false false true false (au l) (i:Int) false (au ns)).bind λLl=>
    (bif(((parts L).length+[[D.sl false 5 (ak Ll.2.1)]].length) * 24).ble 140737488355328 then
     (bif((parts L).length+[[D.sl false 5 (ak Ll.2.1)]].length).ble 140737488355328 then
     (bif ah Ll.2.2.2.2.2.2 then
      ((M.aK Ll.2.2.2.1 Ll.2.2.2.2.1 Ll.2.2.2.2.2.1 Ll.2.2.2.2.2.2).bind λvk=>
      (bif vk.1 !=36 then
       (some (.inr (.inl ((vk.2.1,vk.2.2.1,vk.2.2.2.1,parts L++[[D.sl false 5 (ak Ll.2.1)]],vk.2.2.2.2))))) else
       (bif((parts L++[[D.sl false 5 (ak Ll.2.1)]]).length:Int)==6 then
       (bif ah vk.2.2.2.2 then
        ((M.aH 36 vk.2.1 vk.2.2.1 true vk.2.2.2.2).bind λUh=>
        (bif ah Uh.2.2.2.2.2.2 then
         ((M.bT Uh.2.2.2.1 Uh.2.2.2.2.1 Uh.2.2.2.2.2.1 Uh.2.2.2.2.2.2).bind λXg=>
         (some (.inl ((Xg.1,Xg.2.1,Xg.2.2.1,parts L++[[D.sl false 5 (ak Ll.2.1)]],Xg.2.2.2))))) else none)) else none) else
       (bif ah vk.2.2.2.2 then
        ((M.aH 36 vk.2.1 vk.2.2.1 vk.2.2.2.1 vk.2.2.2.2).bind λUi=>
        (bif ah Ui.2.2.2.2.2.2 then
         ((M.bT Ui.2.2.2.1 Ui.2.2.2.2.1 Ui.2.2.2.2.2.1 Ui.2.2.2.2.2.2).bind λXh=>
         (some (.inl ((Xh.1,Xh.2.1,Xh.2.2.1,parts L++[[D.sl false 5 (ak Ll.2.1)]],Xh.2.2.2))))) else none)) else none)))) else none) else none) else none):=by
   by_cases h1:op=1
   ·subst h1;simp only[M.sS,M.sQ,M.oH,Bool.not_false,aI,aZ,aj,BEq.rfl]
   ·have h0:op=0:=aB;subst h0;have w:((0:Int)==1)=false:=rfl
    by_cases hL0:0<L.length
    ·have hd:decide (((parts L).length:Int)>0)=true:=by rw[zdt];rw[oW];omega
     simp only[M.sS,M.sQ,M.oH,Bool.not_false,aI,aX,aZ,aj,w,hd]
    ·have hd:decide (((parts L).length:Int)>0)=false:=by rw[zD];rw[oW];omega
     have hes:Gj (bD l i)=false/\xY (bD l i)=false:=by
      rcases hc0 with h|h|h
      ·exact absurd h h1
      ·exact absurd h hL0
      ·exact h
     simp only[M.sS,M.sQ,M.oH,Bool.not_false,aI,aX,aZ,aj,w,hd,fU,amq,hes.1,amr,hes.2]
  have hr:=at1 hl n false true hi hn;have zW:=(sats l n).ex 1 false true i (txt ns) aB aB hi;generalize ex l n 1 false true i (txt ns)=p at hr zW|-;cases p with
  |out=>trivial
  |bad j=>
   obtain⟨fl,rows,hd,ns',R,g1,g2,g3,g4,g5,h2⟩:=hr;have hP:lens ((L.map λt=>t.flat 0)++[R])<=3 * (j - i0):=by rw[wU,mP,lens,lens];have:=g5.1;omega
   have hKB:KB ((L.map λt=>t.flat 0)++[R]):=KB.trees L aB (KB.cons g5.2 KB.nil);have hlen:((L.map λt=>t.flat 0)++[R]).length<=8:=by rw[Au,zaP,zf];omega
   rw[h2,aj] at hb;simp only[Ob g4,oW,zf,aZ,aI,fU,aj,bne,jW,JW] at hb;rw[bG aB,aI,bG aB,aI] at hb;simp only[PR.bind];cases hc:bD l j==36 with
   |false=>simp only[hc,Bool.not_false,aI] at hb;exact⟨ns',_,_,aB,g2,g3,hP,hlen,hKB,aN hb,.inl rfl⟩
   |true=>simp only[hc,zaN,aX,Bool.cond_self] at hb;rw[aY hb];exact⟨ns',_,_,aB,g2,g3,hP,hlen,hKB,aN rfl,.inr rfl⟩
  |ok x j m=>
   obtain⟨fl,rows,ns',h1,rfl,h2⟩:=hr;have hs':FE l i (txt ns).length x.1.size j (txt ns').length:=zW;simp only[zaP] at hs';rw[h2,aj] at hb;simp only[H7 h1,oW,zf,Au,aZ,aI,fU,aj,bne] at hb;rw[bG aB,aI,bG aB,aI] at hb;simp only[PR.bind];cases hc:bD l j==36 with
   |false=>simp only[hc,Bool.not_false,aI] at hb;rw[aN hb];exact⟨ns',rfl,rfl⟩
   |true=>
    have hlt:=cZ hc (by decide);have e36:bD l j=36:=by rwa [beq_iff_eq] at hc
    simp only[hc,zaN,aX] at hb;simp only[aI];cases h6:Nat.beq (L.length+1) 6 with
    |true=>
     have e:=Dl h6;have e':(((L.length+1:Nat):Int)==6)=true:=by rw[e];rfl
     simp only[e',aI,jW,JW,aj,aZ] at hb;rw[aY hb];refine⟨ns',(L++[x.1]).map λt=>t.flat 0,.inr _,aB,aB,aB, ?_, ?_, ?_,aN rfl,.inr (by rw[vZ])⟩
     ·rw[mP,sizes1];omega
     ·rw[zaP,Au,zf];omega
     ·have:=KB.trees (P:=[]) (L++[x.1]) (by rw[sizes1];omega) KB.nil
      rwa [List.append_nil] at this
    |false=>
     have hne:L.length+1≠6:=Nat.ne_of_beq_eq_false h6;have e':(((L.length+1:Nat):Int)==6)=false:=by rw[XB];omega
     obtain⟨KX,t2,hln⟩:=Jh hl (j+1) ns' aB aB;have hf:=Di (l:=l) (i:=j+1) (nt:=txt ns') aB;simp only[e',aX,eU hl e36 (by decide),aj,aZ,aI,hln] at hb;rw[aY hb,aX,<-t2];rw[<-t2] at hf;simp only[zaP] at hf;exact ayx hl op hop n i0 (L++[x.1]) _ KX (.inr (.inl (by rw[Au,zf];omega))) (by rw[Au,zf];omega) aB aB aB (by rw[sizes1];omega)
def ayy(hl:l.length<=3000)(hx:ado l)(n:Nat)(op:Int){i:Nat}{ns:List Tk}(hi:i<l.length)(hn:ns.length<=i){o:Option (S5⊕S5)}(h:AJ l (i+1) o (PU l n false true [] (i+1) (txt ns))):
  AS l i ns.length (o.bind λu=>iO u (λt=>prT op t.1 t.2.1 t.2.2.1 t.2.2.2.1 t.2.2.2.2) λu=>letE u λt=>prT op t.1 t.2.1 t.2.2.1 t.2.2.2.1 t.2.2.2.2)
   ((PU l n false true [] (i+1) (txt ns)).bind λL j nt=>bif xY (bD l j) then(ex l n 9 false false (j+1) nt).bind λx k nt=> .ok (.mk 21 op [] (Bo l j) (L++[x.1])) k nt else .ok (.mk 21 op [] [] L) j nt):=by
 have zW:=acr (l:=l) (n:=n) (a:=false) (b:=true) (i:=i+1) (nt:=txt ns) aB;have hsh:=Z7 (l:=l) (a:=false) (b:=true) n [] (i+1) (txt ns) (by decide);generalize PU l n false true [] (i+1) (txt ns)=p at h zW hsh|-;cases p with
 |out=>trivial
 |bad j=>
  obtain⟨ns',P,u,g1,g2,g3,g4,g5,g6,rfl,rfl|rfl⟩:=h
  ·exact asq hl op aB g2 g3 aB g5 g6
  ·exact asq hl op aB g2 g3 aB g5 g6
 |ok L j m=>obtain⟨ns',rfl,rfl⟩:=h;have hs':FE l (i+1) (txt ns).length (sizes L) j (txt ns').length:=zW;have h6:L.length<=6:=hsh;simp only[zaP] at hs';exact ayw hl hx n op aB aB aB aB h6
def aBY(hl:l.length<=3000)(hx:ado l)(n:Nat){i:Nat}{ns:List Tk}(hk:bD l i=25\/bD l i=26)(hn:ns.length<=i):AS l i ns.length (M.uG (au l) (i:Int) false (au ns)) (agF l n i (txt ns)):=by
 have hlt:i<l.length:=dV (by rcases hk with h|h<;>rw[h]<;>decide);have hk0:bD l i≠0:=by rcases hk with h|h<;>rw[h]<;>decide
 rcases hk with h|h
 ·have w2:((25:Int)==26)=false:=rfl;have w3:(25:Int) - 25=0:=rfl;have wk:(bD l i==26)=false:=by rw[h];rfl
  simp only[M.uG,M.Il,M.FY,M.FZ,aZ,aI,fU,aj,h,eU hl h (by decide),w2,aX,agF,w3,Bool.false_or]
  by_cases hes:Gj (bD l (i+1))=false/\xY (bD l (i+1))=false
  ·rw[hes.1,hes.2];simp only[Bool.or_self,Bool.not_false,aI];exact ayy hl hx n 0 hlt hn (ayx hl 0 (.inr rfl) n (i+1) [] (i+1) ns (.inr (.inr hes)) (by decide) (zaO _) aB aB (by rw[sizes0];omega))
  ·have hor:(Gj (bD l (i+1))||xY (bD l (i+1)))=true:=by
    cases h1:Gj (bD l (i+1)) with
    |true=>rfl
    |false=>
     cases h2:xY (bD l (i+1)) with
     |true=>rfl
     |false=>exact absurd ⟨h1,h2⟩ hes
   rw[hor];have hb:M.sS 21 0 [] [] (au l,((i+1:Nat):Int),false,[],au ns)=some (.inr (.inr (au l,((i+1:Nat):Int),false,[],au ns))):=by
    have w:((0:Int)==1)=false:=rfl;have hd:decide (((([]:ay).length:Nat):Int)>0)=false:=rfl;simp only[M.sS,M.sQ,M.oH,Bool.not_false,aI,aX,aZ,aj,w,hd,fU,amq,amr];cases h1:Gj (bD l (i+1)) with
    |true=>rfl
    |false=>rw[h1,Bool.false_or] at hor;simp only[Bool.not_false,aI,hor,zaN,aX]
   rw[M.xA,aN hb];simp only[zaN,aX,aj,iO,letE,PR.bind];exact ayw hl hx n 0 (L:=[]) aB aB aB (by rw[sizes0];omega) (by decide)
 ·have w3:(26:Int) - 25=1:=rfl;have wk:(bD l i==26)=true:=by rw[h];rfl
  simp only[M.uG,M.Il,M.FY,M.FZ,aZ,aI,fU,aj,h,eU hl h (by decide),agF,w3,BEq.rfl,Bool.true_or];exact ayy hl hx n 1 hlt hn (ayx hl 1 (.inl rfl) n (i+1) [] (i+1) ns (.inl rfl) (by decide) (zaO _) aB aB (by rw[sizes0];omega))
variable {l:List Tk}
def BB(l:List Tk)(i:Nat)(ns:List Tk)(b:Nat)(o:Option TY):Prop:=∃fl rows ns' R,o=some (fl,rows,au l,(i:Int),true,au ns')/\ak rows=aW false R/\R.length+ns'.length<=ns.length+b/\K1 R/\ns'.length<=ns.length
def BB.as{i i0 n0 b:Nat}{ns:List Tk}{o:Option TY}(h:BB l i ns b o)(h1:i0<=i)(h2:i<=l.length)(h3:ns.length<=l.length)(h4:ns.length+b<=9 * (i - i0)+n0+l.length+4):AS l i0 n0 o (.bad i):=by obtain⟨fl,rows,ns',R,rfl,g1,g2,g3,g4⟩:=h;exact AS.eX h1 h2 aB g1 aB g3
def BB.elim{β:Type}{i b:Nat}{ns:List Tk}{o:Option TY}(h:BB l i ns b o){f:TY->Option β}{Q:Option β->Prop}
  (hb:∀fl rows ns' R,ak rows=aW false R->R.length+ns'.length<=ns.length+b->K1 R->ns'.length<=ns.length->Q (f (fl,rows,au l,(i:Int),true,au ns'))):Q (o.bind f):=by
 obtain⟨fl,rows,ns',R,rfl,g1,g2,g3,g4⟩:=h;exact hb fl rows ns' R g1 g2 g3 g4
def aRM(A B C E:List Nd):ak [[D.sl false 5 (aW false A)],[D.sl false 5 (aW false B)],[D.sl false 5 (aW false C)],[D.sl false 5 (aW false E)]]=qW [A,B,C,E]:=Ar [A,B,C,E]
def fin1(k op:Int)(x y:aJ){A:List Nd}(hA:K1 A)(h:A.length<=80000):∃R',M.dR k op x y [] (ak [[D.sl false 5 (aW false A)]])=some (false,aW false R')/\R'.length<=A.length+1/\K1 R':=by obtain⟨R',e1,_,e2,e3⟩:=aaO k op x y [A] (b:=A.length) (by simp only[lens];omega) aB (by simp) (KB.cons hA KB.nil);exact⟨R',by rw[agI];exact e1,e2,e3⟩
def fin2(k op:Int)(x y:aJ){A B:List Nd}(hA:K1 A)(hB:K1 B)(h:A.length+B.length<=80000):∃R',M.dR k op x y [] (ak [[D.sl false 5 (aW false A)],[D.sl false 5 (aW false B)]])=some (false,aW false R')/\R'.length<=A.length+B.length+1/\K1 R':=by obtain⟨R',e1,_,e2,e3⟩:=aaO k op x y [A,B] (b:=A.length+B.length) (by simp only[lens];omega) aB (by simp) (KB.cons hA (KB.cons hB KB.nil));exact⟨R',by rw[aqV];exact e1,e2,e3⟩
def aRN(k op:Int)(x y:aJ){A B C E:List Nd}(hA:K1 A)(hB:K1 B)(hC:K1 C)(hE:K1 E)(h:A.length+B.length+C.length+E.length<=80000):
  ∃R',M.dR k op x y [] (ak [[D.sl false 5 (aW false A)],[D.sl false 5 (aW false B)],[D.sl false 5 (aW false C)],[D.sl false 5 (aW false E)]])=some (false,aW false R')/\R'.length<=A.length+B.length+C.length+E.length+1/\K1 R':=by
 obtain⟨R',e1,_,e2,e3⟩:=aaO k op x y [A,B,C,E] (b:=A.length+B.length+C.length+E.length) (by simp only[lens];omega) aB (by simp) (KB.cons hA (KB.cons hB (KB.cons hC (KB.cons hE KB.nil))));exact⟨R',by rw[aRM];exact e1,e2,e3⟩
def K1.tree(t:Tn)(h:t.size<=100000):K1 (t.flat 0):=WH t h
def aAY(m:Nat)(i:Nat)(ns:List Tk):BB l i ns 1 (M.pG (m+1) (au l) (i:Int) true (au ns)):=by rw[M.YJ];simp only[M.Ce,aI,aZ];exact⟨_,_,ns,(Tn.mk 22 0 [] [] []).flat 0,rfl,Ns 22 [],by rw[Tn.flat_length,Vg];omega,K1.tree _ (by rw[Vg];omega),zaO _⟩
def Z9(ns:List Tk):ak (ak (Qa ns))=parts (ES (txt ns)):=by rw[Z8,LG]
def Vk(ns:List Tk):(ES (txt ns)).length=ns.length:=by rw[Dj,zaP]
def Gl(ns:List Tk):sizes (ES (txt ns))=ns.length:=by rw[aas,zaP]
def ai5(m:Nat)(i:Nat)(ns:List Tk)(hn:ns.length<=3000):BB l i ns 1 (M.sF (m+1) (au l) (i:Int) true (au ns)):=by
 have hb:M.sU (M.pG m) (au l,(i:Int),true,[],au ns)=some (.inr (au l,(i:Int),true,parts (ES (txt ns)),au [])):=by simp only[LJ,M.sU,M.xC,aZ,aI,amx,aj,Tv (l:=l) _ _ ns aB,Z9,List.nil_append,zln,oW,Vk];rw[bG aB,aI,bG aB,aI]
 have hmk:=EF 33 0 [] [] [] (ES (txt ns)) (by rw[Gl];omega);rw[M.XF];simp only[M.zC,aZ,aI,jW,aj];rw[M.xE,aN hb];simp only[aj,aZ,aI,jW,LG,hmk,aT];exact⟨_,_,[],_,rfl,aT _ _,by rw[Tn.flat_length,RD,Gl];simp,K1.tree _ (by rw[RD,Gl];omega),by simp⟩
def amy(m:Nat)(i:Nat)(ns:List Tk)(hn:ns.length<=3000):BB l i ns 2 (M.og (m+2) (au l) (i:Int) true (au ns)):=by
 have hmk:=EF 33 0 [] [] [] (ES (txt ns)) (by rw[Gl];omega);rw[M.YI];simp only[LJ,M.BZ,aZ,aI,JW,aj,fU,jW,Tv (l:=l) _ _ ns aB,aEb];cases bD l i==30 with
 |true=>
  simp only[aI];refine(ai5 m i ns hn).elim (Q:=BB l i ns 2) λfl rows ns' R g1 g2 g3 g4=> ?_
  simp only[aZ,aI];exact⟨_,_,ns',R,rfl,fzN g1,aB,g3,g4⟩
 |false=>
  cases bD l i==37 with
  |true=>simp only[aI,aX,Z8,hmk,aj,aT];exact⟨_,_,[],_,rfl,aT _ _,by rw[Tn.flat_length,RD,Gl];simp,K1.tree _ (by rw[RD,Gl];omega),by simp⟩
  |false=>
   simp only[aX];refine(aAY m i ([]:List Tk)).elim (Q:=BB l i ns 2) λfl rows ns' R g1 g2 g3 g4=> ?_
   obtain⟨R',_,e1,e2,e3⟩:=aaO 33 0 [] [] (((ES (txt ns)).map λt=>t.flat 0)++[R]) (b:=ns.length+R.length) (by rw[wU,mP,Gl,lens,lens];omega) (by simp at g2;omega) (by rw[Au,zaP,zf,Vk];omega) (KB.trees _ (by rw[Gl];omega) (KB.cons g3 KB.nil));simp only[afk,zf];rw[bG aB,aI,bG aB,aI,Qx,Z8,show ak [[D.sl false 5 (ak rows)]]=qW [R] by rw[g1];exact agI R,vZ,show qW ((ES (txt ns)).map λt=>t.flat 0)++qW [R]=qW (((ES (txt ns)).map λt=>t.flat 0)++[R]) by simp[qW],e1];simp only[aj,aZ,aI,aT];simp only[zln,Nat.zero_add] at g2 g4;exact⟨_,_,ns',R',rfl,aT _ _,aB,e3,aB⟩
noncomputable def ao9(body:ay->Int->Bool->ay->Option TY)(ra rb rc:ay)(c:ay)(c1:Int)(c2:Bool)(c3:ay):Option TY:=
 (bif ah c3 then
 ((M.aH 33 c c1 c2 c3).bind λUk=>
 (bif ah Uk.2.2.2.2.2.2 then
 ((body Uk.2.2.2.1 Uk.2.2.2.2.1 Uk.2.2.2.2.2.1 Uk.2.2.2.2.2.2).bind λQn=>
 ((M.dR 31 0 [] [] [] (ak [[D.sl false 5 (ak ra)],[D.sl false 5 (ak rb)],[D.sl false 5 (ak rc)],[D.sl false 5 (ak Qn.2.1)]])).bind λaqD=>
 (bif ah Qn.2.2.2.2.2 then
 (some ((false,ak aqD.2,Qn.2.2.1,Qn.2.2.2.1,Qn.2.2.2.2.1,Qn.2.2.2.2.2))) else none))) else none)) else none)
noncomputable def amA(body:ay->Int->Bool->ay->Option TY)(ra rb:ay)(c:ay)(c1:Int)(c2:Bool)(c3:ay):Option TY:=
 (bif ah c3 then
 ((M.aH 37 c c1 c2 c3).bind λYC=>
 (bif ah YC.2.2.2.2.2.2 then
 ((M.bT YC.2.2.2.1 YC.2.2.2.2.1 YC.2.2.2.2.2.1 YC.2.2.2.2.2.2).bind λYD=>
 (M.jc.bind λYE=>
 (bif ah YD.2.2.2 then
 ((M.lq 33 YE.1 YE.2.1 YE.2.2.1 YE.2.2.2.1 YE.2.2.2.2 YD.1 YD.2.1 YD.2.2.1 YD.2.2.2).bind λV6=>
 (bif ah V6.2.2.2.2.2 then
 ((M.aH 33 V6.2.2.1 V6.2.2.2.1 V6.2.2.2.2.1 V6.2.2.2.2.2).bind λUk=>
 (bif ah Uk.2.2.2.2.2.2 then
 ((body Uk.2.2.2.1 Uk.2.2.2.2.1 Uk.2.2.2.2.2.1 Uk.2.2.2.2.2.2).bind λQn=>
 ((M.dR 31 0 [] [] [] (ak [[D.sl false 5 (ak ra)],[D.sl false 5 (ak rb)],[D.sl false 5 (ak V6.2.1)],[D.sl false 5 (ak Qn.2.1)]])).bind λaqD=>
 (bif ah Qn.2.2.2.2.2 then
 (some ((false,ak aqD.2,Qn.2.2.1,Qn.2.2.2.1,Qn.2.2.2.2.1,Qn.2.2.2.2.2))) else none))) else none)) else none)) else none))) else none)) else none)
noncomputable def forA(body:ay->Int->Bool->ay->Option TY)(ra:ay)(c:ay)(c1:Int)(c2:Bool)(c3:ay):Option TY:=
 (bif ah c3 then
 ((M.aH 37 c c1 c2 c3).bind λair=>
 (bif ah air.2.2.2.2.2.2 then
 ((M.bT air.2.2.2.1 air.2.2.2.2.1 air.2.2.2.2.2.1 air.2.2.2.2.2.2).bind λais=>
 (M.jc.bind λaiu=>
 (bif ah ais.2.2.2 then
 ((M.lq 37 aiu.1 aiu.2.1 aiu.2.2.1 aiu.2.2.2.1 aiu.2.2.2.2 ais.1 ais.2.1 ais.2.2.1 ais.2.2.2).bind λae1=>
 (bif ah ae1.2.2.2.2.2 then
 ((M.aH 37 ae1.2.2.1 ae1.2.2.2.1 ae1.2.2.2.2.1 ae1.2.2.2.2.2).bind λYC=>
 (bif ah YC.2.2.2.2.2.2 then
 ((M.bT YC.2.2.2.1 YC.2.2.2.2.1 YC.2.2.2.2.2.1 YC.2.2.2.2.2.2).bind λYD=>
 (M.jc.bind λYE=>
 (bif ah YD.2.2.2 then
 ((M.lq 33 YE.1 YE.2.1 YE.2.2.1 YE.2.2.2.1 YE.2.2.2.2 YD.1 YD.2.1 YD.2.2.1 YD.2.2.2).bind λV6=>
 (bif ah V6.2.2.2.2.2 then
 ((M.aH 33 V6.2.2.1 V6.2.2.2.1 V6.2.2.2.2.1 V6.2.2.2.2.2).bind λUk=>
 (bif ah Uk.2.2.2.2.2.2 then
 ((body Uk.2.2.2.1 Uk.2.2.2.2.1 Uk.2.2.2.2.2.1 Uk.2.2.2.2.2.2).bind λQn=>
 ((M.dR 31 0 [] [] [] (ak [[D.sl false 5 (ak ra)],[D.sl false 5 (ak ae1.2.1)],[D.sl false 5 (ak V6.2.1)],[D.sl false 5 (ak Qn.2.1)]])).bind λaqD=>
 (bif ah Qn.2.2.2.2.2 then
 (some ((false,ak aqD.2,Qn.2.2.1,Qn.2.2.2.1,Qn.2.2.2.2.1,Qn.2.2.2.2.2))) else none))) else none)) else none)) else none))) else none)) else none)) else none))) else none)) else none)
section
variable {body:ay->Int->Bool->ay->Option TY} (hbb:∀i (ns:List Tk),ns.length<=3000->BB l i ns 2 (body (au l) (i:Int) true (au ns)))
include hbb
theorem aq2{ra rb rc:ay}{A B C:List Nd}(hA:ak ra=aW false A)(hB:ak rb=aW false B)(hC:ak rc=aW false C)(kA:K1 A)(kB:K1 B)(kC:K1 C)(hs:A.length+B.length+C.length<=70000){i:Nat}{ns:List Tk}(hn:ns.length<=3000):
  BB l i ns (A.length+B.length+C.length+3) (ao9 body ra rb rc (au l) (i:Int) true (au ns)):=by
 simp only[ao9,aZ,aI,jW,aj];refine(hbb i ns hn).elim (Q:=BB l i ns (A.length+B.length+C.length+3)) λfl rows ns' R g1 g2 g3 g4=> ?_
 obtain⟨R',e1,e2,e3⟩:=aRN 31 0 [] [] kA kB kC g3 aB;simp only[hA,hB,hC,g1,e1,aj,aZ,aI,aT];exact⟨_,_,ns',R',rfl,aT _ _,aB,e3,g4⟩
theorem aq3{ra rb:ay}{A B:List Nd}(hA:ak ra=aW false A)(hB:ak rb=aW false B)(kA:K1 A)(kB:K1 B)(hs:A.length+B.length<=69000){i:Nat}{ns:List Tk}(hn:ns.length<=3000):
  BB l i ns (A.length+B.length+4) (amA body ra rb (au l) (i:Int) true (au ns)):=by
 simp only[amA,aZ,aI,jW,aj,JW,M.jc,M.qK];obtain⟨fl,rc,C,e1,e2,e3,e4⟩:=aqZ (l:=l) 33 1 false false false false i ns;rw[e1];simp only[aj,aZ,aI];have hC:=aq2 hbb hA hB e2 kA kB e4 aB (i:=i) hn;simp only[ao9,aZ,aI] at hC;obtain⟨fl',rows,ns',R,h1,h2,h3,h4,h5⟩:=hC;exact⟨fl',rows,ns',R,h1,h2,aB,h4,h5⟩
theorem aq4{ra:ay}{A:List Nd}(hA:ak ra=aW false A)(kA:K1 A)(hs:A.length<=68000){i:Nat}{ns:List Tk}(hn:ns.length<=3000):
  BB l i ns (A.length+5) (forA body ra (au l) (i:Int) true (au ns)):=by
 simp only[forA,aZ,aI,jW,aj,JW,M.jc,M.qK];obtain⟨fl,rb,B,e1,e2,e3,e4⟩:=aqZ (l:=l) 37 1 false false false false i ns;rw[e1];simp only[aj,aZ,aI];have hC:=aq3 hbb hA e2 kA e4 aB (i:=i) hn;simp only[amA,aZ,aI] at hC;obtain⟨fl',rows,ns',R,h1,h2,h3,h4,h5⟩:=hC;exact⟨fl',rows,ns',R,h1,h2,aB,h4,h5⟩
end
section
variable {n m:Nat} (hl:l.length<=3000) {body:ay->Int->Bool->ay->Option TY}
 (hbb:∀i (ns:List Tk),ns.length<=3000->BB l i ns 2 (body (au l) (i:Int) true (au ns)))
 (hbo:∀i (ns:List Tk),i<=l.length->ns.length<=i->AS l i (ns.length+1) (body (au l) (i:Int) false (au ns)) (Dh l n i (txt ns)))
include hl hbb hbo
omit hbb hbo in
theorem asr{i:Nat}{nt:gY}(hi:i<=l.length)(hn:nt.length<=i):(Dh l n i nt).sat λx j m=>x.size<=30000:=bJ ((P9 l n).body i nt hi) λx j m h=>by omega
theorem aEd{ra rb rc:ay}{x y z:Tn}(hA:ak ra=aW false (x.flat 0))(hB:ak rb=aW false (y.flat 0))(hC:ak rc=aW false (z.flat 0)){i i0 n0:Nat}{ns:List Tk}(h0:i0<=i)(hi:i<=l.length)(hn:ns.length<=i)
  (hs:x.size+y.size+z.size+9 * i0+ns.length<=9 * i+n0+1) (h3:x.size+y.size+z.size<=30000):
  AS l i0 n0 (ao9 body ra rb rc (au l) (i:Int) false (au ns)) ((iZ l 33 i (txt ns)).bind λ_ i nt=>(Dh l n i nt).bind λw i nt=> .ok (.mk 31 0 [] [] [x,y,z,w]) i nt):=by
 simp only[ao9,aZ,aI];rw[iZ];cases hc:bD l i==33 with
 |false=>have hb:=aq2 hbb hA hB hC (K1.tree x aB) (K1.tree y aB) (K1.tree z aB) (by simp only[Tn.flat_length];omega) (i:=i) (ns:=ns) aB;simp only[Tn.flat_length] at hb;simp only[ao9,aZ,aI,jW] at hb;simp only[uo hc,aX];exact hb.as aB hi aB aB
 |true=>
  have hlt:=cZ hc (by decide);have e:bD l i=33:=by rwa [beq_iff_eq] at hc
  simp only[eU hl e (by decide),aj,aZ,aI,PR.bind,hA,hB,hC];exact aau hl [x,y,z] (hbo (i+1) ns aB aB) aB aB (by simp only[sizes];omega) (by simp only[sizes];omega) (asr hl aB (by rw[zaP];omega))
theorem aEe{ra rb:ay}{x y:Tn}(hA:ak ra=aW false (x.flat 0))(hB:ak rb=aW false (y.flat 0)){i i0 n0:Nat}{ns:List Tk}(h0:i0<i)(hi:i<=l.length)(hn:ns.length<=i)
  (hs:x.size+y.size+9 * i0+ns.length+6<=9 * i+n0) (h3:x.size+y.size<=20000):
  AS l i0 n0 (amA body ra rb (au l) (i:Int) false (au ns)) ((iZ l 37 i (txt ns)).bind λ_ i nt=>(JV l n 33 false (nl l i nt).1 (nl l i nt).2).bind λz i nt=>(iZ l 33 i nt).bind λ_ i nt=>(Dh l n i nt).bind λw i nt=> .ok (.mk 31 0 [] [] [x,y,z,w]) i nt):=by
 rw[iZ];cases hc:bD l i==37 with
 |false=>have hb:=aq3 hbb hA hB (K1.tree x aB) (K1.tree y aB) (by simp only[Tn.flat_length];omega) (i:=i) (ns:=ns) aB;simp only[Tn.flat_length] at hb;simp only[amA,aZ,aI,jW] at hb;simp only[amA,aZ,aI,uo hc,aX];exact hb.as aB hi aB aB
 |true=>
  have hlt:=cZ hc (by decide);have e:bD l i=37:=by rwa [beq_iff_eq] at hc
  obtain⟨SH,t1,hln⟩:=Jh hl (i+1) ns aB aB;have hf:=Di (l:=l) (i:=i+1) (nt:=txt ns) aB;simp only[amA,aZ,aI,eU hl e (by decide),aj,hln,M.jc,M.qK,PR.bind];rw[<-t1] at hf|-;simp only[zaP] at hf;refine AS.elim (Q:=AS l i0 n0) (aq0 hl n 33 false aB aB) (λ_=>trivial) (λfl rc j KX R g1 g2 g3 g4 g5 g6=> ?_) (λz fl rc j KX hz ez=> ?_)
  ·have hb:=aq2 hbb hA hB g4 (K1.tree x aB) (K1.tree y aB) g6 (by simp only[Tn.flat_length];omega) (i:=j) (ns:=KX) aB;simp only[Tn.flat_length,ao9,aZ,aI] at hb;simp only[aZ,aI];exact hb.as aB g2 g3 aB
  ·have s2:=gU (PN aB) ez;simp only[zaP] at s2;have hh:=aEd hl hbb hbo hA hB hz (i:=j) (i0:=i0) (n0:=n0) (ns:=KX) aB aB aB aB aB;simp only[ao9,aZ,aI] at hh;simp only[aZ,aI];exact hh
theorem aEf{ra:ay}{x:Tn}(hA:ak ra=aW false (x.flat 0)){i i0 n0:Nat}{ns:List Tk}(h0:i0<i)(hi:i<=l.length)(hn:ns.length<=i)
  (hs:x.size+9 * i0+ns.length+6<=9 * i+n0) (h3:x.size<=10000):
  AS l i0 n0 (forA body ra (au l) (i:Int) false (au ns)) ((iZ l 37 i (txt ns)).bind λ_ i nt=>(JV l n 37 false (nl l i nt).1 (nl l i nt).2).bind λy i nt=>(iZ l 37 i nt).bind λ_ i nt=>(JV l n 33 false (nl l i nt).1 (nl l i nt).2).bind λz i nt=>(iZ l 33 i nt).bind λ_ i nt=>(Dh l n i nt).bind λw i nt=> .ok (.mk 31 0 [] [] [x,y,z,w]) i nt):=by
 rw[iZ];cases hc:bD l i==37 with
 |false=>have hb:=aq4 hbb hA (K1.tree x aB) (by simp only[Tn.flat_length];omega) (i:=i) (ns:=ns) aB;simp only[Tn.flat_length] at hb;simp only[forA,aZ,aI,jW] at hb;simp only[forA,aZ,aI,uo hc,aX];exact hb.as aB hi aB aB
 |true=>
  have hlt:=cZ hc (by decide);have e:bD l i=37:=by rwa [beq_iff_eq] at hc
  obtain⟨SH,t1,hln⟩:=Jh hl (i+1) ns aB aB;have hf:=Di (l:=l) (i:=i+1) (nt:=txt ns) aB;simp only[forA,aZ,aI,eU hl e (by decide),aj,hln,M.jc,M.qK,PR.bind];rw[<-t1] at hf|-;simp only[zaP] at hf;refine AS.elim (Q:=AS l i0 n0) (aq0 hl n 37 false aB aB) (λ_=>trivial) (λfl rc j KX R g1 g2 g3 g4 g5 g6=> ?_) (λz fl rc j KX hz ez=> ?_)
  ·have hb:=aq3 hbb hA g4 (K1.tree x aB) g6 (by simp only[Tn.flat_length];omega) (i:=j) (ns:=KX) aB;simp only[Tn.flat_length,amA,aZ,aI] at hb;simp only[aZ,aI];exact hb.as aB g2 g3 aB
  ·have s2:=gU (PN aB) ez;simp only[zaP] at s2;have hh:=aEe hl hbb hbo hA hz (i:=j) (i0:=i0) (n0:=n0) (ns:=KX) aB aB aB aB aB;simp only[amA,aZ,aI] at hh;simp only[aZ,aI];exact hh
theorem aMb{i i0 n0:Nat}{ns:List Tk}(h0:i0+1<=i)(hi:i<=l.length)(hn:ns.length<=i)(hs:9 * i0+ns.length+9<=9 * i+n0):
  AS l i0 n0 ((M.lq 37 1 false true false false (au l) (i:Int) false (au ns)).bind λr=>forA body r.2.1 r.2.2.1 r.2.2.2.1 r.2.2.2.2.1 r.2.2.2.2.2) (ays l n i (txt ns)):=by
 rw[ays];refine AS.elim (Q:=AS l i0 n0) (aq0 hl n 37 true hi hn) (λ_=>trivial) (λfl rc j KX R g1 g2 g3 g4 g5 g6=> ?_) (λz fl rc j KX hz ez=> ?_)
 ·exact(aq4 hbb g4 g6 aB (i:=j) (ns:=KX) aB).as aB g2 g3 aB
 ·have s2:=gU (PN hi) ez;simp only[zaP] at s2;exact aEf hl hbb hbo hz aB aB aB aB aB
end
variable {l:List Tk}
abbrev B1:=ay×Int×Bool×Int×Int×aJ×aJ×Int×Int×aJ×aJ×ay
abbrev B2:=ay×Int×Bool×Int×Int×aJ×aJ×Int×Int×aJ×aJ×ay×ay
def b1(l:List Tk)(i:Nat)(b:Bool)(nt:gY):B1:=(au l,(i:Int),b,0,0,[],[],33,0,[],[],encS nt)
def b2(l:List Tk)(i:Nat)(b:Bool)(nt:gY)(rows:ay):B2:=(au l,(i:Int),b,0,0,[],[],33,0,[],[],encS nt,rows)
def aq5(hl:l.length<=1048576){k:Int}(hk:k≠0){i:Nat}{nt:gY}(h:bD l i=k):M.aP k (au l) (i:Int) false (encS nt)=some (true,au l,((i+1:Nat):Int),false,encS nt):=by
 have hlt:i<l.length:=dV (by rw[h];exact hk);have e:(bD l i==k)=true:=by rw[h];exact BEq.rfl
 simp only[M.aP,M.sV,dP,aI,aX,eH,aj,bne,e,zaN,nD hl hlt]
def AB(l:List Tk)(o:Option (B1⊕B2)):PR (List Tn)->Prop
 | .ok L' j X7=>∃L0 i0 nt0 u,o=some u/\(u=.inl (b1 l i0 false nt0)/\L0=[]\/u=.inr (b2 l i0 false nt0 (dN false L0)))/\L'=L0++ES nt0/\j=i0+1/\X7=[]/\bD l i0=31/\nt0.length<=i0/\L0.length<=2 * l.length
 | .bad j=>∃u nt0,o=some u/\nt0.length<=l.length/\(u=.inl (b1 l j true nt0)\/∃rows:ay,rows.length<=4 * l.length+4/\u=.inr (b2 l j true nt0 rows))
 | .out=>True
def ayz(hl:l.length<=1048576){i:Nat}{nt:gY}(h:bD l i=0)(hi:i<=l.length)(hn:nt.length<=i):AT l (M.lI (au l) (i:Int) false (encS nt)) (.bad i):=by
 have e:ex l 20 1 false false i nt=.bad i:=asj (.inl h) nt 1 (by decide) (by decide) 20 false false (by decide);have ha:=ai1 hl 20 false false hi hn;rw[e] at ha;have hz:∀k:Int,k≠0->(bD l i==k)=false:=λk h0=>by rw[XB,h];exact λe=>h0 e.symm
 simp only[M.lI,M.yR,M.wL,M.wM,M.wO,M.wP,M.wQ,M.wR,dP,aI,eH,aj,hz 25 (by decide),hz 26 (by decide),hz 20 (by decide),hz 18 (by decide),hz 19 (by decide),hz 21 (by decide),hz 22 (by decide),hz 23 (by decide),aX];refine AP.Dp (R:=λo=>AT l o (.bad i)) ha λk op x y fl ks tg nt hn=> ?_
 simp only[dP,aI];exact AT.eX hn
def aAZ(hl:l.length<=1048576)(m:Nat){i:Nat}{nt:gY}(h:bD l i=0)(hi:i<=l.length)(hn:nt.length<=i):AT l (M.jE (m+1) (au l) (i:Int) false (encS nt)) (.bad i):=by
 have hz:∀k:Int,k≠0->(bD l i==k)=false:=λk h0=>by rw[XB,h];exact λe=>h0 e.symm
 rw[M.NZ];simp only[M.mO,M.lJ,dP,aI,eH,aj,hz 30 (by decide),hz 13 (by decide),hz 15 (by decide),hz 17 (by decide),hz 16 (by decide),aX];refine AT.Dp (R:=λo=>AT l o (.bad i)) (ayz hl h hi hn) λk op x y fl ks nt hn=> ?_
 simp only[zaN,aX,dP,aI];exact AT.eX hn
def apa(hl:l.length<=1048576){f:ay->Int->Bool->ay->Option TT}(hf0:∀i,bD l i=0->i<=l.length->AT l (f (au l) (i:Int) false (encS [])) (.bad i)):
  ∀n,(∀n',n'<n->∀i nt,i<=l.length->nt.length<=i->AT l (f (au l) (i:Int) false (encS nt)) (stP l n' i nt))->
   ∀(L:List Tn) (i:Nat) (nt:gY) (s:B1⊕B2),(s=.inl (b1 l (sep l i nt).1 false (sep l i nt).2)/\L=[]\/s=.inr (b2 l (sep l i nt).1 false (sep l i nt).2 (dN false L)))->i<=l.length->nt.length<=i->L.length+nt.length<=2 * i->
   AB l (M.pW f s) (X6 l n L i nt)
 |0,_,_,_,_,_,_,_,_,_=>by rw[X6];trivial
 |n+1,hst,L,i,nt,s,hs,hi,hn,hL=>by
  have hq:=Qs (l:=l) (i:=i) (nt:=nt) hi;simp only[X6];generalize hqe:sep l i nt=q at hs hq|-;rw[M.pW];cases h31:bD l q.1==31 with
  |true=>
   have hlt:=cZ h31 (by decide);have e31:bD l q.1=31:=by rwa [beq_iff_eq] at h31
   refine⟨L,q.1,q.2,s, ?_,hs,rfl,rfl,rfl,e31,aB,aB⟩;rcases hs with⟨rfl,rfl⟩|rfl<;>refine aN ?_<;>
    simp only[LJ,M.qH,M.qG,b1,b2,Bool.not_false,aI,dP,eH,aj,bne,h31,zaN,aX]
  |false=>
   have hb:M.qH f s=(f (au l) (q.1:Int) false (encS [])).bind λr=>
     bif(((dN false (L++ES q.2)).length+[[D.int .i64 r.1,D.int .i64 r.2.1,D.str r.2.2.1,D.str r.2.2.2.1,D.sl false 5 (ak r.2.2.2.2.2.1)]].length) * 72).ble 140737488355328 then
      (bif((dN false (L++ES q.2)).length+[[D.int .i64 r.1,D.int .i64 r.2.1,D.str r.2.2.1,D.str r.2.2.2.1,D.sl false 5 (ak r.2.2.2.2.2.1)]].length).ble 140737488355328 then
      (bif ah r.2.2.2.2.2.2.2.2.2 then
       ((M.bZ r.2.2.2.2.2.2.1 r.2.2.2.2.2.2.2.1 r.2.2.2.2.2.2.2.2.1 r.2.2.2.2.2.2.2.2.2).bind λr'=>
       (some (.inl (.inr ((r'.1,r'.2.1,r'.2.2.1,0,0,[],[],33,0,[],[],r'.2.2.2,dN false (L++ES q.2)++[[D.int .i64 r.1,D.int .i64 r.2.1,D.str r.2.2.1,D.str r.2.2.2.1,D.sl false 5 (ak r.2.2.2.2.2.1)]]):B2))))) else none) else none) else none:=by
    have hc:=Dk (l:=l) (q.1:Int) false q.2 aB;have hlen:(L.length+q.2.length) * 72<=140737488355328:=aB;rcases hs with⟨rfl,rfl⟩|rfl
    ·simp only[LJ,M.qH,M.qG,b1,Bool.not_false,aI,dP,eH,aj,bne,h31,hc,iW,List.nil_append];rw[show(dN false (ES q.2)).length=q.2.length by rw[dM,Dj],bG aB,aI,bG aB,aI]
    ·simp only[LJ,M.qH,M.qG,b2,Bool.not_false,aI,dP,eH,aj,bne,h31,hc,iW,<-Aq];rw[show(dN false L).length+(dN false (ES q.2)).length=L.length+q.2.length by rw[dM,dM,Dj],bG aB,aI,bG aB,aI]
   rw[aX];have hbad:∀{j:Nat},AT l (f (au l) (q.1:Int) false (encS [])) (.bad j)->AB l (fQ (M.qH f) s) (.bad j):=by intro j hj;obtain⟨k,op,x,y,fl,ks,X7,h1,h2⟩:=hj;rw[h2,aj] at hb;simp only[dM,Au,Dj,zf,dP,aI,aiZ,aj] at hb;rw[bG aB,aI,bG aB,aI] at hb;rw[aY hb];refine⟨_,X7,aN rfl,h1,.inr ⟨_, ?_,rfl⟩⟩;simp only[Au,dM,Dj,zf];omega
   cases h0:bD l q.1==0 with
   |true=>
    have e0:bD l q.1=0:=by rwa [beq_iff_eq] at h0
    exact hbad (hf0 q.1 e0 aB)
   |false=>
    rw[aX];have hr:=hst n (Nat.lt_succ_self n) q.1 [] aB (Nat.zero_le _);have zW:=(P9 l n).st q.1 [] aB;generalize stP l n q.1 []=p at hr zW|-;cases p with
    |out=>trivial
    |bad j=>exact hbad hr
    |ok x j m'=>obtain⟨fl,kt,h1,h2⟩:=hr;have ayA:FS l q.1 ([]:gY).length x.size j m'.length:=zW;rw[zln] at ayA;rw[h2,aj] at hb;simp only[aeu h1,dM,Au,Dj,zf,dP,aI,ale hl j m' aB aB,aj] at hb;rw[bG aB,aI,bG aB,aI] at hb;rw[aY hb];refine apa hl hf0 n (λn' h=>hst n' aB) ((L++ES q.2)++[x]) j m' _ (.inr rfl) aB aB ?_;simp only[Au,Dj,zf];omega
section
variable {n m:Nat} (hl:l.length<=1048576) (H:∀n',n'<=n->∀m',3 * n'+10<=m'->RS l n' m') (hm:3 * (n+1)+10<=m+1)
include hl H hm
theorem aEg(i:Nat)(nt:gY)(hi:i<=l.length)(hn:nt.length<=i):AT l (M.lY (m+1) (au l) (i:Int) false (encS nt)) (Lu l (n+1) i nt):=by
 obtain⟨m2,rfl⟩:∃m2,m=m2+1:=⟨m - 1,aB⟩
 rw[M.SE,Lu];simp only[M.qP,dP,aI];refine LD (R:=AT l) hl (by decide) ?_ (λ_ hlt=> ?_)
 ·simp only[dP,aI,aiZ,aj];rw[show M.pW _ _=_ from aN rfl];simp only[aj,iO,dP,aI,uw,Dk (l:=l) _ _ nt aB,iW,dM,Dj];rw[bG aB,aI,bG aB,aI];exact AT.eX (Nat.zero_le _)
 ·simp only[dP,aI,ale hl (i+1) nt aB aB,aj];have hloop:=apa hl (f:=M.jE (m2+1)) (λi h0 hi=>aAZ hl m2 h0 hi (Nat.zero_le _)) n (λn' h i nt hi hn=>(H n' aB (m2+1) aB).st i nt hi hn) [] (i+1) nt (.inl (b1 l (sep l (i+1) nt).1 false (sep l (i+1) nt).2)) (.inl ⟨rfl,rfl⟩) aB aB (by rw[zln];omega);generalize X6 l n [] (i+1) nt=p at hloop|-;rw[b1] at hloop;cases p with
  |out=>trivial
  |bad j=>
   obtain⟨u,nt0,h1,h2,h3⟩:=hloop;rw[h1,aj];rcases h3 with rfl|⟨rows,h4,rfl⟩
   ·simp only[b1,iO,dP,aI,uw,aj,Dk (l:=l) _ _ nt0 aB,iW,dM,Dj];rw[bG aB,aI,bG aB,aI];exact AT.eX (Nat.zero_le _)
   ·simp only[b2,iO,letE,dP,aI,uw,aj,Dk (l:=l) _ _ nt0 aB,iW,dM,Dj];rw[bG aB,aI,bG aB,aI];exact AT.eX (Nat.zero_le _)
  |ok L' j X7=>
   obtain⟨L0,i0,nt0,u,h1,h2,rfl,rfl,rfl,h31,h4,h5⟩:=hloop;have hlt0:i0<l.length:=dV (by rw[h31];decide);rw[h1,aj];rcases h2 with⟨rfl,rfl⟩|rfl
   ·simp only[b1,iO,dP,aI,aq5 hl (by decide) h31,aj,Dk (l:=l) _ _ nt0 aB,iW,dM,Dj];rw[bG aB,aI,bG aB,aI];exact AT.mk rfl rfl rfl rfl (iW _ _)
   ·simp only[b2,iO,letE,dP,aI,aq5 hl (by decide) h31,aj,Dk (l:=l) _ _ nt0 aB,iW,dM,Dj,<-Aq];rw[bG aB,aI,bG aB,aI];exact AT.mk rfl rfl rfl rfl (iW _ _)
theorem aMc(i:Nat)(nt:gY)(hi:i<=l.length)(hn:nt.length<=i):AT l (M.jE (m+1) (au l) (i:Int) false (encS nt)) (stP l (n+1) i nt):=by
 have h:=H n (zaO _) m aB;have hbr:=auF hl H hm;have hlp:=aAW hl H hm;obtain⟨m2,rfl⟩:∃m2,m=m2+1:=⟨m - 1,aB⟩
 rw[M.NZ];simp only[M.mO,M.lJ,dP,aI,eH,aj,stP];cases h30:bD l i==30 with
 |true=>simp only[aI];exact AT.pass (h.blk i nt hi hn) (by intros;simp only[dP,aI])
 |false=>
 cases h13:bD l i==13 with
 |true=>have hlt:=cZ h13 (by decide);simp only[aI,aX,nD hl hlt];exact AT.pass (hbr (i+1) nt aB aB) (by intros;simp only[dP,aI])
 |false=>
 cases h15:bD l i==15 with
 |true=>
  have hlt:=cZ h15 (by decide);simp only[aI,aX,nD hl hlt];refine AT.elim (R:=AT l) (aqT hl n aB aB) (λ_=>trivial) (λk op x y fl ks j nt hn=> ?_) (λx fx kx j nt hx ex=> ?_)
  ·simp only[dP,aI];refine AT.Dp (R:=λo=>AT l o (.bad j)) (UA m2 hn) λk op x y fl ks nt hn=> ?_
   simp only[dP,aI];exact AT.eX hn
  ·have s1:=gU (QZ aB) ex;simp only[dP,aI];refine AT.elim (R:=AT l) (h.body j nt aB aB) (λ_=>trivial) (λk op x y fl ks j nt hn=> ?_) (λy fy ky j nt hy ey=> ?_)
   ·simp only[dP,aI];exact AT.eX hn
   ·simp only[dP,aI];exact AT.mk rfl rfl rfl rfl (fz2 (L6 hx) (L6 hy))
 |false=>
 cases h17:bD l i==17 with
 |true=>
  have hlt:=cZ h17 (by decide);simp only[aI,aX,nD hl hlt];refine AT.elim (R:=AT l) (h.body (i+1) nt aB aB) (λ_=>trivial) (λk op x y fl ks j nt hn=> ?_) (λx fx kx j nt hx ex=> ?_)
  ·simp only[dP,aI,aiZ,uw,aj];refine AT.Dp (R:=λo=>AT l o (.bad j)) (ayh hn) λk op x y fl ks nt hn=> ?_
   simp only[zaN,aX,dP,aI];exact AT.eX hn
  ·have s1:=gU ((P9 l n).body (i+1) _ aB) ex;have hf:=Qs (l:=l) (i:=j) (nt:=nt) aB;simp only[dP,aI,ale hl j nt aB aB,aj];refine LD (R:=AT l) hl (by decide) ?_ (λ_ hlt=> ?_)
   ·simp only[dP,aI];refine AT.Dp (R:=λo=>AT l o (.bad (sep l j nt).1)) (ayh aB) λk op x y fl ks nt hn=> ?_
    simp only[zaN,aX,dP,aI];exact AT.eX hn
   ·simp only[dP,aI];refine AT.elim (R:=AT l) (aqT hl n aB aB) (λ_=>trivial) (λk op x y fl ks j nt hn=> ?_) (λy fy ky j2 nt2 hy ey=> ?_)
    ·simp only[zaN,aX,dP,aI];exact AT.eX hn
    ·have s2:=gU (QZ aB) ey;simp only[Bool.not_false,aI,dP,aqS,aj];exact ayg rfl rfl rfl rfl (fz2 (L6 hx) (L6 hy)) aB
 |false=>
 cases h16:bD l i==16 with
 |true=>have hlt:=cZ h16 (by decide);simp only[aI,aX,nD hl hlt];exact AT.pass (hlp (i+1) nt aB aB) (by intros;simp only[dP,aI])
 |false=>
  simp only[aX];have hs:=aL2 hl n hi hn λk hk h=>aL3 hl n (dV (by rw[<-hk];rcases h with rfl|rfl<;>decide)) hn k hk h
  refine AT.elim (R:=AT l) hs (λ_=>trivial) (λk op x y fl ks j nt hn=> ?_) (λx fx kx j nt hx ex=> ?_)
  ·simp only[zaN,aX,dP,aI];exact AT.eX hn
  ·have s1:=gU (aqM hi) ex;simp only[Bool.not_false,aI,dP,aqS,aj];exact ayg rfl rfl rfl rfl (L6 hx) aB
end
def rs(hl:l.length<=1048576):∀N n,n<=N->∀m,3 * n+10<=m->RS l n m:=by
 intro N;induction N with
 |zero=>intro n hn m hm;obtain rfl:n=0:=aB;exact⟨λ_ _ _ _=>by rw[stP];trivial,λ_ _ _ _=>by rw[Lu];trivial,λ_ _ _ _=>by rw[Dh];trivial⟩
 |succ N ih=>
  intro n hn m hm;cases n with
  |zero=>exact ih 0 aB m hm
  |succ n=>
   cases m with
   |zero=>omega
   |succ m=>
    have H:∀n',n'<=n->∀m',3 * n'+10<=m'->RS l n' m':=λn' h=>ih n' aB
    exact⟨aMc hl H hm,aEg hl H hm,aAV hl H hm⟩
def RS.of(hl:l.length<=1048576)(n:Nat){m:Nat}(hm:3 * n+10<=m):RS l n m:=rs hl n n (zaO _) m hm
def apb(hl:l.length<=1048576)(n:Nat){i:Nat}{nt:gY}(hi:i<=l.length)(hn:nt.length<=i):AT l (M.dA (au l) (i:Int) false (encS nt)) (Lu l n i nt):=
 AT.lim ((RS.of hl n (zaO _)).blk i nt hi hn) λr h=>M.Rt h
def asu(hl:l.length<=1048576){i:Nat}{nt:gY}(hn:nt.length<=l.length):AT l (M.dA (au l) (i:Int) true (encS nt)) (.bad i):=
 AT.lim (aAU hl 0 hn) λr h=>M.Rt h
variable {l:List Tk}
structure RT(l:List Tk)(n m:Nat):Prop where
 st:∀i ns,i<=l.length->ns.length<=i->AS l i ns.length (M.pG m (au l) (i:Int) false (au ns)) (stP l n i (txt ns))
 blk:∀i ns,i<=l.length->ns.length<=i->AS l i ns.length (M.sF m (au l) (i:Int) false (au ns)) (Lu l n i (txt ns))
 body:∀i ns,i<=l.length->ns.length<=i->AS l i (ns.length+1) (M.og m (au l) (i:Int) false (au ns)) (Dh l n i (txt ns))
def aEh{body:ay->Int->Bool->ay->Option TY}(hbb:∀i (ns:List Tk),ns.length<=3000->BB l i ns 2 (body (au l) (i:Int) true (au ns)))(i:Nat)(ns:List Tk)(hn:ns.length<=3000):
  BB l i ns 6 ((M.lq 37 1 false true false false (au l) (i:Int) true (au ns)).bind λr=>forA body r.2.1 r.2.2.1 r.2.2.2.1 r.2.2.2.2.1 r.2.2.2.2.2):=by
 obtain⟨fl,ra,A,e1,e2,e3,e4⟩:=aqZ (l:=l) 37 1 false true false false i ns;rw[e1,aj];obtain⟨fl',rows,ns',R,h1,h2,h3,h4,h5⟩:=aq4 hbb e2 e4 aB (i:=i) hn;exact⟨fl',rows,ns',R,h1,h2,aB,h4,h5⟩
def AK(l:List Tk)(i n0:Nat)(o:Option S5):PR (List Tn)->Prop
 | .ok L j nt=>∃j0,j=j0+1/\bD l j0=31/\nt=[]/\o=some (au l,(j0:Int),false,parts L,au [])
 | .bad j=>∃b ns P,i<=j/\j<=l.length/\ns.length<=l.length/\(b=true\/(bD l j==31)=false)/\lens P+ns.length<=9 * (j - i)+n0+l.length+4/\P.length<=40000/\KB P/\o=some (au l,(j:Int),b,qW P,au ns)
 | .out=>True
def WI(a b:List Tn):parts a++parts b=parts (a++b):=by simp[parts]
def ayB(hl:l.length<=3000){f:ay->Int->Bool->ay->Option TY}:
  ∀n,(∀n',n'<n->∀i ns,i<=l.length->ns.length<=i->AS l i ns.length (f (au l) (i:Int) false (au ns)) (stP l n' i (txt ns)))->
   ∀(i0 n0:Nat) (L:List Tn) (i:Nat) (ns:List Tk),i0<=i->i<=l.length->ns.length<=i->n0<=3000->sizes L+ns.length+6 * i0<=n0+6 * i->
    AK l i0 n0 (M.xE f (au l,(i:Int),false,parts L,au ns)) (X6 l n L i (txt ns))
 |0,_,_,_,_,_,_,_,_,_,_,_=>by rw[X6];trivial
 |n+1,hst,i0,n0,L,i,ns,hi0,hi,hn,hn0,hsz=>by
  obtain⟨SH,t1,hsp⟩:=amw hl i ns hi hn;have hq:=Qs (l:=l) (nt:=txt ns) hi;have hLl:=BI L;simp only[X6];generalize hqe:sep l i (txt ns)=q at hq hsp t1|-;rw[<-t1] at hq;simp only[zaP] at hq;have hcm:ak (ak (Qa SH))=parts (ES q.2):=by rw[Z9,t1]
  have hcl:(ES q.2).length=SH.length:=by rw[<-t1,Vk]
  have hcs:sizes (ES q.2)=SH.length:=by rw[<-t1,Gl]
  rw[M.xE];have hb:M.sU f (au l,(i:Int),false,parts L,au ns)=
    bif bD l q.1==31 then some (.inr (au l,(q.1:Int),false,parts (L++ES q.2),au [])) else bif bD l q.1==0 then some (.inr (au l,(q.1:Int),false,parts (L++ES q.2),au [])) else
     (f (au l) (q.1:Int) false (au [])).bind λr=>bif(((parts (L++ES q.2)).length+[[D.sl false 5 (ak r.2.1)]].length) * 24).ble 140737488355328 then
      (bif((parts (L++ES q.2)).length+[[D.sl false 5 (ak r.2.1)]].length).ble 140737488355328 then
       some (.inl (r.2.2.1,r.2.2.2.1,r.2.2.2.2.1,parts (L++ES q.2)++[[D.sl false 5 (ak r.2.1)]],r.2.2.2.2.2)) else none) else none:=by
   simp only[LJ,M.sU,M.xC,aZ,aI,hsp,aj,Tv (l:=l) _ _ SH aB,hcm,WI,aX,fU];rw[show(parts L).length+(parts (ES q.2)).length=L.length+SH.length by rw[oW,oW,hcl],bG aB,aI,bG aB,aI]
  cases h31:bD l q.1==31 with
  |true=>rw[h31,aI] at hb;rw[aN hb,aI];exact⟨q.1,rfl,by rwa [beq_iff_eq] at h31,rfl,rfl⟩
  |false=>
   rw[h31,aX] at hb;rw[aX];cases h0:bD l q.1==0 with
   |true=>
    rw[h0,aI] at hb;rw[aN hb,aI];refine⟨false,[],(L++ES q.2).map λt=>t.flat 0,aB,aB,by simp,.inr h31, ?_, ?_, ?_,by rw[vZ]⟩
    ·rw[mP,nI,hcs];simp only[zln];omega
    ·rw[zaP,Au,hcl];omega
    ·have:=KB.trees (P:=[]) (L++ES q.2) (by rw[nI,hcs];omega) KB.nil
     rwa [List.append_nil] at this
   |false=>
    rw[h0,aX] at hb;rw[aX];have hr:=hst n (Nat.lt_succ_self n) q.1 [] aB (Nat.zero_le _);have zW:=(P9 l n).st q.1 [] aB;have e0:txt ([]:List Tk)=[]:=rfl;rw[e0] at hr;generalize stP l n q.1 []=p at hr zW|-;cases p with
    |out=>trivial
    |bad j=>
     obtain⟨fl,rows,KX,R,g1,g2,g3,g4,g5,g6,h2⟩:=hr;simp only[zln] at g5;rw[h2,aj] at hb;have hPL:(((L++ES q.2).map λt=>t.flat 0)++[R]).length<=30000:=by rw[Au,zaP,Au,hcl,zf];omega
     simp only[Ob g4,oW,Au,hcl,zf] at hb;rw[bG aB,aI,bG aB,aI] at hb;rw[aY hb];have hKB:KB (((L++ES q.2).map λt=>t.flat 0)++[R]):=KB.trees _ (by rw[nI,hcs];omega) (KB.cons g6 KB.nil);have hb2:M.sU f (au l,(j:Int),true,qW (((L++ES q.2).map λt=>t.flat 0)++[R]),au KX)=some (.inr (au l,(j:Int),true,qW ((((L++ES q.2).map λt=>t.flat 0)++[R])++(ES (txt KX)).map λt=>t.flat 0),au [])):=by simp only[LJ,M.sU,M.xC,aZ,aI,amx,aj,Tv (l:=l) _ _ KX aB,Z9];rw[show(qW (((L++ES q.2).map λt=>t.flat 0)++[R])).length+(parts (ES (txt KX))).length=(((L++ES q.2).map λt=>t.flat 0)++[R]).length+KX.length by rw[ayj,oW,Vk],bG aB,aI,bG aB,aI,vZ];simp[qW]
     refine⟨true,[],_,aB,g2,by simp,.inl rfl, ?_, ?_, ?_,aN hb2⟩
     ·rw[wU,wU,mP,mP,nI,hcs,Gl,lens,lens];simp only[zln];omega
     ·rw[Au,zaP,Vk];omega
     ·intro Q hQ;rcases List.mem_append.1 hQ with hQ|hQ
      ·exact hKB Q hQ
      ·have:=KB.trees (P:=[]) (ES (txt KX)) (by rw[Gl];omega) KB.nil;rw[List.append_nil] at this;exact this Q hQ
    |ok x j m'=>obtain⟨fl,rows,KX,h1,rfl,h2⟩:=hr;have hs':FS l q.1 ([]:gY).length x.size j (txt KX).length:=zW;simp only[zaP,zln] at hs';rw[h2,aj] at hb;simp only[H7 h1,oW,Au,hcl,zf] at hb;rw[bG aB,aI,bG aB,aI] at hb;rw[aY hb];exact ayB hl n (λn' h=>hst n' aB) i0 n0 ((L++ES q.2)++[x]) j KX aB aB aB hn0 (by rw[sizes1,nI,hcs];omega)
section
variable {n m:Nat} (hl:l.length<=3000) (H:∀n',n'<=n->∀m',4 * n'+10<=m'->RT l n' m') (hm:4 * n+13<=m)
include hl H hm
theorem aEi(i:Nat)(ns:List Tk)(hi:i<=l.length)(hn:ns.length<=i):AS l i ns.length (M.sF (m+1) (au l) (i:Int) false (au ns)) (Lu l (n+1) i (txt ns)):=by
 have hbs:=ai5 (l:=l) m i ns aB;rw[M.XF] at hbs|-;simp only[M.zC,aZ,aI] at hbs|-;rw[Lu,iZ];cases hc:bD l i==30 with
 |false=>rw[jW] at hbs;rw[uo hc];exact hbs.as (zaO i) hi aB aB
 |true=>
  have hlt:=cZ hc (by decide);have e30:bD l i=30:=by rwa [beq_iff_eq] at hc
  simp only[eU hl e30 (by decide),aj,aI,PR.bind];have hloop:=ayB hl (f:=M.pG m) n (λn' h i ns hi hn=>(H n' aB m aB).st i ns hi hn) (i+1) ns.length [] (i+1) ns (zaO _) aB aB aB (by rw[sizes0];omega);have zW:=(P9 l n).lines [] (i+1) (txt ns) aB;show AS l i ns.length ((M.xE (M.pG m) (au l,((i+1:Nat):Int),false,parts [],au ns)).bind _) ((X6 l n [] (i+1) (txt ns)).bind λL i nt=> .ok (.mk 33 0 [] [] L) i nt);generalize X6 l n [] (i+1) (txt ns)=p at hloop zW|-;cases p with
  |out=>trivial
  |bad j=>
   obtain⟨b,ns',P,g1,g2,g3,g4,g5,g6,g7,g8⟩:=hloop;obtain⟨R',_,e1,e2,e3⟩:=aaO 33 0 [] [] P (b:=lens P) (zaO _) aB aB g7;have htk:M.aH 31 (au l) (j:Int) b (au ns')=some (0,[],0,au l,(j:Int),true,au ns'):=by
    rcases g4 with rfl|g4
    ·exact jW 31 j ns'
    ·cases b with
     |true=>exact jW 31 j ns'
     |false=>exact uo g4
   rw[g8];simp only[aj,aZ,aI,htk,Ar,e1,aT];exact AS.eX aB g2 g3 (aT _ _) aB e3
  |ok L j nt=>obtain⟨j0,rfl,h31,rfl,g8⟩:=hloop;have hs':i+1<j0+1/\FN l (i+1) (txt ns).length (j0+1) ([]:gY).length/\sizes L+([]:gY).length+6 * (i+1)<=sizes ([]:List Tn)+(txt ns).length+6 * (j0+1):=zW;simp only[zaP,zln,sizes0] at hs';rw[g8];simp only[aj,aZ,aI,eU hl h31 (by decide),LG,EF 33 0 [] [] [] L aB,aT];exact AS.mk (ns:=[]) (aT _ _)
theorem aA0(i:Nat)(ns:List Tk)(hi:i<=l.length)(hn:ns.length<=i):AS l i (ns.length+1) (M.og (m+1) (au l) (i:Int) false (au ns)) (Dh l (n+1) i (txt ns)):=by
 have h:=H n (zaO _) m aB;obtain⟨SH,t1,hln⟩:=Jh hl i ns hi hn;have hf:=Di (l:=l) (nt:=txt ns) hi;rw[M.YI];simp only[LJ,M.BZ,aZ,aI,hln,aj,fU,Dh];generalize nl l i (txt ns)=q at hf t1|-;rw[<-t1] at hf;simp only[zaP] at hf;have hcl:(ES q.2).length=SH.length:=by rw[<-t1,Vk]
 have hcs:sizes (ES q.2)=SH.length:=by rw[<-t1,Gl]
 have hnr:ak (Qa SH)=parts (ES q.2):=by rw[Z8,t1]
 cases h30:bD l q.1==30 with
 |true=>simp only[aI];rw[<-t1];exact AS.pass (h.blk q.1 SH aB aB) aB aB (by intros;simp only[aZ,aI])
 |false=>
  simp only[aX];cases h37:bD l q.1==37 with
  |true=>
   have hlt:=cZ h37 (by decide);have e37:bD l q.1=37:=by rwa [beq_iff_eq] at h37
   simp only[aI,eU hl e37 (by decide),aj,aZ,Tv (l:=l) _ _ SH aB,aEb,hnr,EF 33 0 [] [] [] (ES q.2) aB,aT];exact AS.mk (ns:=[]) (aT _ _)
  |false=>
   simp only[aX,Tv (l:=l) _ _ SH aB,aj,aEb,aZ,aI];have hr:=h.st q.1 [] aB (Nat.zero_le _);have e0:txt ([]:List Tk)=[]:=rfl;rw[e0] at hr;refine AS.elim (Q:=AS l i (ns.length+1)) hr (λ_=>trivial) (λfl rows j KX R g1 g2 g3 g4 g5 g6=> ?_) (λx fl rows j KX h1 he=> ?_)
   ·simp only[zln] at g5;obtain⟨R',_,e1,e2,e3⟩:=aaO 33 0 [] [] (((ES q.2).map λt=>t.flat 0)++[R]) (b:=SH.length+R.length) (by rw[wU,mP,hcs,lens,lens];omega) aB (by rw[Au,zaP,zf,hcl];omega) (KB.trees _ aB (KB.cons g6 KB.nil));simp only[afk,zf];rw[bG aB,aI,bG aB,aI,Qx,hnr,show ak [[D.sl false 5 (ak rows)]]=qW [R] by rw[g4];exact agI R,vZ,show qW ((ES q.2).map λt=>t.flat 0)++qW [R]=qW (((ES q.2).map λt=>t.flat 0)++[R]) by simp[qW],e1];simp only[aj,aZ,aI,aT];exact AS.eX aB g2 g3 (aT _ _) aB e3
   ·have hs:=gU ((P9 l n).st q.1 [] aB) he;simp only[zaP,zln] at hs;simp only[afk,zf];rw[bG aB,aI,bG aB,aI,Qx,hnr,show ak [[D.sl false 5 (ak rows)]]=parts [x] by rw[h1];exact agI _,WI];simp only[EF 33 0 [] [] [] (ES q.2++[x]) (by rw[sizes1];omega),aj,aZ,aI,aT];exact AS.mk (aT _ _)
theorem aMd(i:Nat)(ns:List Tk)(h13:bD l i=13)(hn:ns.length<=i):AS l i ns.length (M.OM m (au l) (i:Int) false (au ns)) (ifP l n (i+1) (txt ns)):=by
 obtain⟨m2,rfl⟩:∃m2,m=m2+2+1:=⟨m - 3,aB⟩
 have h:=H n (zaO _) (m2+2) aB;have hi:i<l.length:=dV (by rw[h13];decide);rw[M.al1,ifP];simp only[M.Kv,aZ,aI,eU hl h13 (by decide),aj];refine AS.elim (Q:=AS l i ns.length) (amv hl n aB aB) (λ_=>trivial) (λfl rows j KX R g1 g2 g3 g4 g5 g6=> ?_) (λx fl rows j KX h1 he=> ?_)
 ·simp only[aZ,aI];refine(amy m2 j KX aB).elim (Q:=λo=>AS l i ns.length o (.bad j)) λfl' rows' ns3 R2 k1 k2 k3 k4=> ?_
  obtain⟨R',e1,e2,e3⟩:=fin2 28 0 [] [] g6 k3 aB;simp only[aZ,aI,ayu j ns3 hl g2,aj,Bool.not_false,g4,k1,e1,aT];exact AS.eX aB g2 aB (aT _ _) aB e3
 ·have s1:=gU (QZ aB) he;simp only[zaP] at s1;simp only[aZ,aI];refine AS.elim (Q:=AS l i ns.length) (h.body j KX aB aB) (λ_=>trivial) (λfl' rows' j2 ns3 R g1 g2 g3 g4 g5 g6=> ?_) (λy fl' rows' j2 ns3 h2 he2=> ?_)
  ·obtain⟨R',e1,e2,e3⟩:=fin2 28 0 [] [] (K1.tree x aB) g6 (by rw[Tn.flat_length];omega);rw[Tn.flat_length] at e2;simp only[aZ,aI,ayu j2 ns3 hl g2,aj,Bool.not_false,h1,g4,e1,aT];exact AS.eX aB g2 aB (aT _ _) aB e3
  ·have s2:=gU ((P9 l n).body j (txt KX) aB) he2;simp only[zaP] at s2;have hf:=Qs (l:=l) (i:=j2) (nt:=txt ns3) aB;simp only[aZ,aI];rcases aEc hl j2 ns3 aB aB with⟨h14,ns4,t4,hel⟩|⟨h14,hel⟩
   ·have hlt:=cZ h14 (by decide);rw[hel,h14];simp only[aj,zaN,aX,aI,aZ,h1,h2];rw[<-t4] at hf|-;simp only[zaP] at hf;exact aau hl [x,y] (h.body _ ns4 aB aB) aB aB (by simp only[sizes];omega) (by simp only[sizes];omega) (asr hl aB (by rw[zaP];omega))
   ·rw[hel,h14];have ho:=ayt 28 0 [] [] [x,y] (by simp only[sizes];omega);have ho':M.dR 28 0 [] [] [] (ak [[D.sl false 5 (aW false (x.flat 0))],[D.sl false 5 (aW false (y.flat 0))]])=some (false,aW false ((Tn.mk 28 0 [] [] [x,y]).flat 0)):=by rw[aqV];exact ho
    simp only[aj,Bool.not_false,aI,aX,aZ,h1,h2,ho',aT];exact AS.mk (aT _ _)
theorem aEj(i:Nat)(ns:List Tk)(h16:bD l i=16)(hn:ns.length<=i):AS l i ns.length (M.LV m (au l) (i:Int) false (au ns)) (lpP l n (i+1) (txt ns)):=by
 obtain⟨m2,rfl⟩:∃m2,m=m2+2+1:=⟨m - 3,aB⟩
 have h:=H n (zaO _) (m2+2) aB;have hi:i<l.length:=dV (by rw[h16];decide);have hbb:∀i (ns:List Tk),ns.length<=3000->BB l i ns 2 (M.og (m2+2) (au l) (i:Int) true (au ns)):=λi ns hn=>amy m2 i ns hn
 rw[M.ajH,lpP];simp only[M.IB,M.FX,aZ,aI,eU hl h16 (by decide),aj];rw[iZ];cases h32:bD l (i+1)==32 with
 |false=>simp only[uo h32,aj,zaN,aX,aZ,aI];exact(aEh hbb (i+1) ns aB).as aB aB aB aB
 |true=>
  have hlt:=cZ h32 (by decide);have e32:bD l (i+1)=32:=by rwa [beq_iff_eq] at h32
  have amu:=aMb (n:=n) hl hbb (λi ns hi hn=>h.body i ns hi hn) (i:=i+1+1) (i0:=i) (n0:=ns.length) (ns:=ns) aB aB aB aB;simp only[eU hl e32 (by decide),aj,Bool.not_false,aI,dQ,PR.bind];have wn:∀j:Nat,j<=3001->i64.wrap ((j:Int)+1)=((j+1:Nat):Int):=λj hj=>by rw[bC aB aB];omega
  rw[wn (i+1+1) aB]
  by_cases hb:i+1+1+1<l.length
  ·obtain⟨t,ht⟩:∃t,l[i+1+1]? =some t:=⟨l[i+1+1],by simp[show i+1+1<l.length by omega]⟩
   obtain⟨u,hu⟩:∃u,l[i+1+1+1]? =some u:=⟨l[i+1+1+1],by simp[hb]⟩
   have et:bD l (i+1+1)=t.kind:=by rw[bD,ht]
   have eu:bD l (i+1+1+1)=u.kind:=by rw[bD,hu]
   rw[zdt aB,aI];simp only[dI,gq,ht,hu,KZ,aj,cT0,et,eu,aZ,aI];cases h6:t.kind==6 with
   |false=>simp only[aX,Bool.false_and];exact amu
   |true=>
    simp only[aI,Bool.true_and];cases h24:u.kind==24 with
    |false=>simp only[aX];exact amu
    |true=>
     have e6:bD l (i+1+1)=6:=by rw[et];rwa [beq_iff_eq] at h6
     have e24:bD l (i+1+1+1)=24:=by rw[eu];rwa [beq_iff_eq] at h24
     simp only[aI,eU hl e6 (by decide),eU hl e24 (by decide),aj,aZ];have aMe:∀(j:Nat) (o:aJ),i+4<=j->j<=l.length->AS l i ns.length ((M.og (m2+2) (au l) (j:Int) true (au ns)).bind λae2=>(M.dR 32 0 (Bo l (i+1+1)) o [] (ak [[D.sl false 5 (ak ae2.2.1)]])).bind λaDa=>bif ah ae2.2.2.2.2.2 then some (false,ak aDa.2,ae2.2.2.1,ae2.2.2.2.1,ae2.2.2.2.2.1,ae2.2.2.2.2.2) else none) (.bad j):=by
      intro j o hj1 hj2;refine(hbb j ns aB).elim (Q:=λo=>AS l i ns.length o (.bad j)) λfl rows ns' R g1 g2 g3 g4=> ?_
      obtain⟨R',e1,e2,e3⟩:=fin1 32 0 (Bo l (i+1+1)) o g3 aB;simp only[g1,e1,aj,aZ,aI,aT];exact AS.eX aB hj2 aB (aT _ _) aB e3
     rw[nameP];cases h62:bD l (i+1+1+2)==6 with
     |false=>have aRO:(bD l (i+1+1+1+1)==6)=false:=h62;simp only[uo aRO,jW,aj,aZ,aI,aX];exact aMe _ _ aB aB
     |true=>
      have aSg:=cZ h62 (by decide);have e62:bD l (i+1+1+1+1)=6:=by rwa [beq_iff_eq] at h62
      simp only[eU hl e62 (by decide),aj,aZ,aI,PR.bind];rw[iZ];cases h33:bD l (i+1+1+2+1)==33 with
      |false=>have aRP:(bD l (i+1+1+1+1+1)==33)=false:=h33;simp only[uo aRP,aj,aZ,aI,aX];exact aMe _ _ aB aB
      |true=>
       have aSh:=cZ h33 (by decide);have e33:bD l (i+1+1+1+1+1)=33:=by rwa [beq_iff_eq] at h33
       simp only[eU hl e33 (by decide),aj,aZ,aI];exact aau hl [] (h.body (i+1+1+1+1+1+1) ns aB aB) aB aB (by simp only[sizes];omega) (by simp[sizes]) (asr hl aB (by rw[zaP];omega))
  ·have e0:bD l (i+1+1+1)=0:=by rw[bD,List.getElem?_eq_none aB]
   rw[zD aB,aX,e0];simp only[aZ,aI,show((0:Int)==24)=false from rfl,Bool.and_false,aX];exact amu
end
def PR.bind_assoc{α β γ:Type}(p:PR α)(f:α->Nat->gY->PR β)(g:β->Nat->gY->PR γ):(p.bind f).bind g=p.bind λx i nt=>(f x i nt).bind g:=by cases p<;>rfl
variable {l:List Tk}
def doQ(l:List Tk)(n i:Nat)(nt:gY):PR Tn:=(Dh l n (i+1) nt).bind λx i nt=>(iZ l 15 (sep l i nt).1 (sep l i nt).2).bind λ_ i nt=>(Ve l n i nt).bind λy i nt=> .ok (.mk 30 0 [] [] [x,y]) i nt
def aMf(hl:l.length<=3000){n i:Nat}{nt:gY}(hi:i<=l.length):(Ve l n i nt).sat λx j m=>x.size<=30000:=bJ (QZ (l:=l) hi) λx j m h=>by omega
def aEk(hl:l.length<=3000){i n0:Nat}{o:Option TY}{p:PR Tn}(h:AS l i n0 o p)(hs:p.sat λx j m=>i<=j/\j<=l.length/\m.length<=l.length/\x.size+m.length<=9 * (j - i)+n0/\x.size<=100000):
  AS l i n0 (o.bind λr=>bif ah r.2.2.2.2.2 then(M.ni r.2.2.1 r.2.2.2.1 r.2.2.2.2.1 r.2.2.2.2.2).bind λr'=>bif ah r'.2.2.2 then some (false,ak r.2.1,r'.1,r'.2.1,r'.2.2.1,r'.2.2.2) else none else none)
   (p.bind λx j nt=>endP l x j nt):=by
 refine AS.elim (Q:=AS l i n0) h (λ_=>trivial) (λfl rows j ns R h1 h2 h3 h4 h5 h6=> ?_) (λx fl rows j ns hk he=> ?_)
 ·simp only[aZ,aI,asn,aj,Bool.true_or];exact AS.eX h1 h2 h3 (fzN h4) h5 h6
 ·have hs':=gU hs he;simp only[zaP] at hs';simp only[aZ,aI,asn,aj,Bool.false_or,endP];cases Gj (bD l j) with
  |true=>exact AS.mk (fzN hk)
  |false=>exact AS.eX hs'.1 hs'.2.1 hs'.2.2.1 (fzN hk) (by rw[Tn.flat_length];omega) (K1.tree x hs'.2.2.2.2)
section
variable {n m:Nat} (hl:l.length<=3000) (H:∀n',n'<=n->∀m',4 * n'+10<=m'->RT l n' m') (hm:4 * n+13<=m)
include hl H hm
theorem aMg(i:Nat)(ns:List Tk)(h17:bD l i=17)(hn:ns.length<=i):AS l i ns.length (M.BD m (au l) (i:Int) false (au ns)) (doQ l n i (txt ns)):=by
 obtain⟨m2,rfl⟩:∃m2,m=m2+2+1:=⟨m - 3,aB⟩
 have h:=H n (zaO _) (m2+2) aB;have hi:i<l.length:=dV (by rw[h17];decide);rw[M.V7,doQ];simp only[M.xB,aZ,aI,fU,aj,h17,show((17:Int)==25)=false from rfl,show((17:Int)==26)=false from rfl,show((17:Int)==20)=false from rfl,show((17:Int)==18)=false from rfl,
  show((17:Int)==19)=false from rfl,show((17:Int)==21)=false from rfl,show((17:Int)==22)=false from rfl,show((17:Int)==23)=false from rfl,show((17:Int)==17)=true from rfl,aX,eU hl h17 (by decide)]
 refine AS.elim (Q:=AS l i ns.length) (h.body (i+1) ns aB aB) (λ_=>trivial) (λfl rows j KX R g1 g2 g3 g4 g5 g6=> ?_) (λx fl rows j KX h1 he=> ?_)
 ·obtain⟨R',e1,e2,e3⟩:=fin2 30 0 [] [] g6 K1.nil (by simp;omega);have e1':M.dR 30 0 [] [] [] (ak [[D.sl false 5 (aW false R)],[D.sl false 5 (ak [])]])=some (false,aW false R'):=e1;simp only[zln] at e2;simp only[aZ,aI,amx,aj,jW,aso,g4,e1',aT];exact AS.eX aB g2 g3 (aT _ _) aB e3
 ·have s1:=gU ((P9 l n).body (i+1) (txt ns) aB) he;simp only[zaP] at s1;obtain⟨SH,t1,hsp⟩:=amw hl j KX aB aB;have hf:=Qs (l:=l) (i:=j) (nt:=txt KX) aB;simp only[aZ,aI,hsp,aj];generalize sep l j (txt KX)=q at hf t1|-;rw[<-t1] at hf|-;simp only[zaP] at hf;rw[iZ];cases h15:bD l q.1==15 with
  |false=>obtain⟨R',e1,e2,e3⟩:=fin2 30 0 [] [] (K1.tree x aB) K1.nil (by rw[Tn.flat_length];simp;omega);have e1':M.dR 30 0 [] [] [] (ak [[D.sl false 5 (aW false (x.flat 0))],[D.sl false 5 (ak [])]])=some (false,aW false R'):=e1;simp only[zln,Tn.flat_length] at e2;simp only[uo h15,aj,aZ,aI,aso,h1,e1',aT];exact AS.eX aB aB aB (aT _ _) aB e3
  |true=>
   have hlt:=cZ h15 (by decide);have e15:bD l q.1=15:=by rwa [beq_iff_eq] at h15
   simp only[eU hl e15 (by decide),aj,aZ,aI,h1,PR.bind];exact aau hl [x] (amv hl n aB aB) aB aB (by simp only[sizes];omega) (by simp only[sizes];omega) (aMf hl aB)
theorem auG(hx:ado l)(i:Nat)(ns:List Tk)(hi:i<=l.length)(hn:ns.length<=i):AS l i ns.length (M.BD m (au l) (i:Int) false (au ns)) (bif bD l i==17 then doQ l n i (txt ns) else ajN l n i (txt ns)):=by
 have hdo:=aMg hl H hm i ns;obtain⟨m2,rfl⟩:∃m2,m=m2+2+1:=⟨m - 3,aB⟩
 cases e17:bD l i==17 with
 |true=>exact hdo (by rwa [beq_iff_eq] at e17) hn
 |false=>
  clear hdo;rw[M.V7,ajN];simp only[M.xB,aZ,aI,aX,fU,aj];have hp:∀{o:Option TY} {p:PR Tn},AS l i ns.length o p->AS l i ns.length (o.bind λr=>bif ah r.2.2.2.2.2 then some (false,ak r.2.1,r.2.2.1,r.2.2.2.1,r.2.2.2.2.1,r.2.2.2.2.2) else none) p:=
   λh=>AS.pass h (zaO _) aB (by intros;simp only[aZ,aI])
  have hz:∀{k:Int},(bD l i==k)=true->k≠0->bD l i≠0:=λh h0=>by
   rw[beq_iff_eq] at h
   rwa [h]
  cases e25:bD l i==25 with
  |true=>exact hp (aBY hl hx n (.inl (by rwa [beq_iff_eq] at e25)) hn)
  |false=>
  cases e26:bD l i==26 with
  |true=>exact hp (aBY hl hx n (.inr (by rwa [beq_iff_eq] at e26)) hn)
  |false=>
  simp only[Bool.or_self,aX];cases e20:bD l i==20 with
  |true=>exact hp (aq1 hl 22 (hz e20 (by decide)) _)
  |false=>
  cases e18:bD l i==18 with
  |true=>exact hp (aq1 hl 25 (hz e18 (by decide)) _)
  |false=>
  cases e19:bD l i==19 with
  |true=>exact hp (aq1 hl 26 (hz e19 (by decide)) _)
  |false=>
  cases e21:bD l i==21 with
  |true=>exact hp (ayv hl n 23 (hz e21 (by decide)) hn)
  |false=>
  cases e22:bD l i==22 with
  |true=>exact hp (ayv hl n 24 (hz e22 (by decide)) hn)
  |false=>
  cases e23:bD l i==23 with
  |true=>exact hp (aMa hl n (by rwa [beq_iff_eq] at e23) hn)
  |false=>simp only[e17,aX,M.jc,M.qK,aj];exact asl hl [] (at1 hl n false false hi hn) (zaO _) (by simp only[sizes];omega) (by simp[sizes]) (aBX hl (by decide) (by decide) hi)
theorem aMh(hx:ado l)(i:Nat)(ns:List Tk)(hi:i<=l.length)(hn:ns.length<=i):AS l i ns.length (M.pG (m+1) (au l) (i:Int) false (au ns)) (stP l (n+1) i (txt ns)):=by
 have hif:=aMd hl H hm i ns;have amu:=aEj hl H hm i ns;have hsi:=auG hl H hm hx i ns hi hn;have h:=H n (zaO _) m aB;obtain⟨m2,rfl⟩:∃m2,m=m2+2:=⟨m - 2,aB⟩
 rw[M.YJ,stP];simp only[M.Ce,aZ,aI,aX,fU,aj];have hp:∀{o:Option TY} {p:PR Tn},AS l i ns.length o p->AS l i ns.length (o.bind λr=>bif ah r.2.2.2.2.2 then some (false,ak r.2.1,r.2.2.1,r.2.2.2.1,r.2.2.2.2.1,r.2.2.2.2.2) else none) p:=
  λh=>AS.pass h (zaO _) aB (by intros;simp only[aZ,aI])
 by_cases e13:bD l i=13
 ·have hq:=hp (hif e13 hn);simp only[e13,show((13:Int)==30)=false from rfl,show((13:Int)==13)=true from rfl,aX,aI];exact hq
 have f13:(bD l i==13)=false:=by rwa [XB]
 simp only[f13,aX]
 by_cases e15:bD l i=15
 ·have hlt:i<l.length:=dV (by rw[e15];decide);simp only[e15,show((15:Int)==30)=false from rfl,show((15:Int)==15)=true from rfl,aX,aI,eU hl e15 (by decide),aj,aZ];refine AS.elim (Q:=AS l i ns.length) (amv hl n aB aB) (λ_=>trivial) (λfl rows j KX R g1 g2 g3 g4 g5 g6=> ?_) (λx fl rows j KX h1 he=> ?_)
  ·simp only[aZ,aI];refine(amy m2 j KX aB).elim (Q:=λo=>AS l i ns.length o (.bad j)) λfl' rows' ns3 R2 k1 k2 k3 k4=> ?_
   obtain⟨R',e1,e2,e3⟩:=fin2 29 0 [] [] g6 k3 aB;simp only[aZ,aI,g4,k1,aj,e1,aT];exact AS.eX aB g2 aB (aT _ _) aB e3
  ·have s1:=gU (QZ aB) he;simp only[zaP] at s1;simp only[aZ,aI,h1];exact aau hl [x] (h.body j KX aB aB) aB aB (by simp only[sizes];omega) (by simp only[sizes];omega) (asr hl aB (by rw[zaP];omega))
 have f15:(bD l i==15)=false:=by rwa [XB]
 simp only[f15,aX]
 by_cases e16:bD l i=16
 ·have hq:=hp (amu e16 hn);simp only[e16,show((16:Int)==30)=false from rfl,show((16:Int)==16)=true from rfl,show((16:Int)==17)=false from rfl,aX,aI];exact hq
 have f16:(bD l i==16)=false:=by rwa [XB]
 simp only[f16,aX]
 by_cases e30:bD l i=30
 ·have hq:=hp (h.blk i ns hi hn);simp only[e30,show((30:Int)==30)=true from rfl,aX,aI];exact hq
 have f30:(bD l i==30)=false:=by rwa [XB]
 simp only[f30,aX];have hss:(bif bD l i==17 then doQ l n i (txt ns) else ajN l n i (txt ns)).sat λx j m=>i<=j/\j<=l.length/\m.length<=l.length/\x.size+m.length<=9 * (j - i)+ns.length/\x.size<=100000:=by
  cases e17:bD l i==17 with
  |false=>
   refine bJ (aqM (l:=l) hi) λx j m h=> ?_
   simp only[zaP] at h;omega
  |true=>
   have hlt:=cZ e17 (by decide);simp only[aI,doQ];rw[dW];refine bJ ((P9 l n).body (i+1) (txt ns) aB) λx j m h1=> ?_
   simp only[zaP] at h1;have hf:=Qs (l:=l) (i:=j) (nt:=m) aB;rw[dW,wS];intro hk;have hk':=dV (l:=l) (i:=(sep l j m).1) (by rw[hk];decide);rw[dW];refine bJ (QZ (l:=l) aB) λy j2 m2 h2=> ?_
   show _/\_;simp only[Tn.size,sizes];omega
 have hq:=aEk hl hsi hss;cases e17:bD l i==17 with
 |true=>rw[e17] at hq;simp only[aI,doQ,PR.bind_assoc] at hq|-;exact hq
 |false=>rw[e17] at hq;simp only[aX] at hq|-;exact hq
end
def rt0(m:Nat):RT l 0 m where
 st:=λi ns _ _=>by rw[stP];trivial
 blk:=λi ns _ _=>by rw[Lu];trivial
 body:=λi ns _ _=>by rw[Dh];trivial
def rt(hl:l.length<=3000)(hx:ado l):∀N n,n<=N->∀m,4 * n+10<=m->RT l n m:=by
 intro N;induction N with
 |zero=>intro n hn m hm;obtain rfl:n=0:=aB;exact rt0 m
 |succ N ih=>
  intro n hn m hm;cases n with
  |zero=>exact rt0 m
  |succ n=>
   obtain⟨m',rfl⟩:∃m',m=m'+1:=⟨m - 1,aB⟩
   have H:∀n',n'<=n->∀m',4 * n'+10<=m'->RT l n' m':=λn' h=>ih n' aB
   exact⟨aMh hl H aB hx,aEi hl H aB,aA0 hl H aB⟩
def RT.of(hl:l.length<=3000)(hx:ado l)(n:Nat){m:Nat}(hm:4 * n+10<=m):RT l n m:=rt hl hx n n (zaO _) m hm
def asv(hl:l.length<=3000)(hx:ado l)(n:Nat){i:Nat}{ns:List Tk}(hi:i<=l.length)(hn:ns.length<=i):AS l i ns.length (M.fZ (au l) (i:Int) false (au ns)) (Lu l n i (txt ns)):=
 AS.lim ((RT.of hl hx n (zaO _)).blk i ns hi hn) λr h=>M.V8 h
def aEl(i:Nat)(ns:List Tk)(hn:ns.length<=3000):BB l i ns 1 (M.fZ (au l) (i:Int) true (au ns)):=
 let⟨fl,rows,ns',R,h1,h2,h3,h4,h5⟩:=ai5 0 i ns hn
 ⟨fl,rows,ns',R,M.V8 h1,h2,h3,h4,h5⟩
variable {l:List Tk}
abbrev G2:=ay×Int×Bool×Int×Int×aJ×aJ×Int×Int×aJ×aJ×ay×ay
abbrev G3:=ay×Int×Int×Int×aJ×aJ×Int×Int×aJ×aJ×ay×ay
abbrev GO:=G2⊕B1⊕G3⊕G2
def g2(l:List Tk)(x:aJ)(i:Nat)(b:Bool)(nt:gY)(rows:ay):G2:=(au l,(i:Int),b,0,0,[],[],44,0,x,[],encS nt,rows)
def g3(l:List Tk)(x:aJ)(i:Nat)(nt:gY)(rows:ay):G3:=(au l,(i:Int),0,0,[],[],44,0,x,[],encS nt,rows)
def AQ(l:List Tk)(x:aJ)(o:Option GO):PR (List Tn)->Prop
 | .ok L' j X7=>o=some (.inl (g2 l x j false X7 (dN true L')))
 | .bad j=>∃X7 rows,X7.length<=l.length/\rows.length<=8/\(o=some (.inl (g2 l x j true X7 rows))\/o=some (.inr (.inr (.inl (g3 l x j X7 rows)))))
 | .out=>True
def ai6(hl:l.length<=1048576){i:Nat}{nt:gY}(h:(bD l i==6)=true):M.bI (au l) (i:Int) false (encS nt)=some (Bo l i,au l,((i+1:Nat):Int),false,encS nt):=by simp only[M.bI,M.iI,dP,aI,aX,eH,aj,bne,h,zaN,LC hl (cZ h (by decide))]
def ayC{i:Nat}{nt:gY}(h:(bD l i==6)=false):M.bI (au l) (i:Int) false (encS nt)=some ([],au l,(i:Int),true,encS nt):=by simp only[M.bI,M.iI,dP,aI,aX,eH,aj,bne,h,Bool.not_false]
def aew(L:List Tn)(s:aJ):dN true L++[[D.int .i64 1,D.int .i64 0,D.str s,D.str [],D.sl true 5 []]]=dN true (L++[.mk 1 0 s [] []]):=by rw[Aq];rfl
def apc(hl:l.length<=1048576)(x:aJ):∀(n:Nat) (L:List Tn) (i:Nat) (nt:gY),L.length<6->i<=l.length->nt.length<=i->AQ l x (M.kH (.inr (g2 l x i false nt (dN true L)))) (Gw l n L i nt)
 |0,_,_,_,_,_,_=>by rw[Gw];trivial
 |n+1,L,i,nt,hL,hi,hn=>by
  rw[Gw,M.kH,nameP];cases h6:bD l i==6 with
  |false=>
   have hb:M.dY (.inr (g2 l x i false nt (dN true L)))=some (.inr (.inl (g2 l x i true nt (dN true (L++[.mk 1 0 [] [] []]))))):=by simp only[LJ,M.dY,M.iD,g2,Bool.not_false,aI,dP,ayC h6,aj,aew,dM,zf];rw[bG aB,aI,bG aB,aI]
   rw[aN hb];exact⟨nt,_,aB,by rw[dM,Au,zf];omega,.inl rfl⟩
  |true=>
   have hlt:=cZ h6 (by decide);simp only[aI,PR.bind];cases hc:bD l (i+1)==36 with
   |false=>
    have hb:M.dY (.inr (g2 l x i false nt (dN true L)))=some (.inr (.inl (g2 l x (i+1) false nt (dN true (L++[.mk 1 0 (Bo l i) [] []]))))):=by simp only[LJ,M.dY,M.iD,g2,Bool.not_false,aI,aX,dP,ai6 hl h6,aj,aew,dM,zf,eH,bne,hc];rw[bG aB,aI,bG aB,aI]
    rw[aN hb];rfl
   |true=>
    have hlt':=cZ hc (by decide);simp only[aI];cases hs:Nat.beq (L.length+1) 6 with
    |true=>
     have e:=Dl hs;have e':(((L.length+1:Nat):Int)==6)=true:=by rw[e];rfl
     have hb:M.dY (.inr (g2 l x i false nt (dN true L)))=some (.inr (.inr (.inr (.inl (g3 l x (i+1) nt (dN true (L++[.mk 1 0 (Bo l i) [] []]))))))):=by simp only[LJ,M.dY,M.iD,g2,g3,Bool.not_false,zaN,aI,aX,dP,ai6 hl h6,aj,aew,dM,zf,Au,eH,bne,hc,e'];rw[bG aB,aI,bG aB,aI]
     rw[aN hb];exact⟨nt,_,aB,by rw[dM,Au,zf];omega,.inr rfl⟩
    |false=>
     have e:L.length+1≠6:=Nat.ne_of_beq_eq_false hs;have e':(((L.length+1:Nat):Int)==6)=false:=by rw[XB];omega
     have hf:=Di (l:=l) (i:=i+1+1) (nt:=nt) aB;have hb:M.dY (.inr (g2 l x i false nt (dN true L)))=some (.inl (.inr (g2 l x (nl l (i+1+1) nt).1 false (nl l (i+1+1) nt).2 (dN true (L++[.mk 1 0 (Bo l i) [] []]))))):=by simp only[LJ,M.dY,M.iD,g2,Bool.not_false,zaN,aI,aX,dP,ai6 hl h6,aj,aew,dM,zf,Au,eH,bne,hc,e',nD hl hlt',Qv hl (i+1+1) nt aB aB];rw[bG aB,aI,bG aB,aI]
     rw[aY hb];exact apc hl x n _ _ _ (by rw[Au,zf];omega) aB aB
def auH(hl:l.length<=1048576)(x:aJ)(n:Nat){i:Nat}{nt:gY}(hi:i<=l.length)(hn:nt.length<=i):
  AQ l x (M.kH (.inl (true,au l,(i:Int),false,0,0,[],[],44,0,x,[],encS nt))) (Gw l n [] i nt):=by
 cases n with
 |zero=>rw[Gw];trivial
 |succ n=>
  have hrow:∀s:aJ,[[D.int .i64 1,D.int .i64 0,D.str s,D.str [],D.sl true 5 []]]=dN true ([]++[Tn.mk 1 0 s [] []]):=λs=>rfl
  rw[Gw,M.kH,nameP];cases h6:bD l i==6 with
  |false=>
   have hb:M.dY (.inl (true,au l,(i:Int),false,0,0,[],[],44,0,x,[],encS nt))=some (.inr (.inl (g2 l x i true nt (dN true ([]++[.mk 1 0 [] [] []]))))):=by simp only[LJ,M.dY,M.iD,g2,Bool.not_false,aI,dP,ayC h6,aj,hrow]
   rw[aN hb];exact⟨nt,_,aB,by rw[dM];decide,.inl rfl⟩
  |true=>
   have hlt:=cZ h6 (by decide);simp only[aI,PR.bind];cases hc:bD l (i+1)==36 with
   |false=>
    have hb:M.dY (.inl (true,au l,(i:Int),false,0,0,[],[],44,0,x,[],encS nt))=some (.inr (.inl (g2 l x (i+1) false nt (dN true ([]++[.mk 1 0 (Bo l i) [] []]))))):=by simp only[LJ,M.dY,M.iD,g2,Bool.not_false,aI,aX,dP,ai6 hl h6,aj,hrow,eH,bne,hc]
    rw[aN hb];rfl
   |true=>
    have hlt':=cZ hc (by decide);have hf:=Di (l:=l) (i:=i+1+1) (nt:=nt) aB;have hb:M.dY (.inl (true,au l,(i:Int),false,0,0,[],[],44,0,x,[],encS nt))=some (.inl (.inr (g2 l x (nl l (i+1+1) nt).1 false (nl l (i+1+1) nt).2 (dN true ([]++[.mk 1 0 (Bo l i) [] []]))))):=by simp only[LJ,M.dY,M.iD,g2,Bool.not_false,zaN,aI,aX,dP,ai6 hl h6,aj,hrow,eH,bne,hc,nD hl hlt',Qv hl (i+1+1) nt aB aB]
    rw[aY hb];exact apc hl x n _ _ _ (by simp) aB aB
def alf:∀(n:Nat) (L:List Tn) (i:Nat) (nt:gY),L.length<6->(Gw l n L i nt).sat λL' _ _=>L'.length<=6
 |0,_,_,_,_=>by rw[Gw];trivial
 |n+1,L,i,nt,hL=>by
  rw[Gw,dW,WE];intro _;rw[eP];refine⟨λ_=> ?_,λ_=> ?_⟩
  ·rw[eP];refine⟨λ_=>trivial,λh=> ?_⟩;have:=Nat.ne_of_beq_eq_false h;exact alf n _ _ _ (by rw[Au,zf];omega)
  ·show(L++[_]).length<=6;rw[Au,zf];omega
noncomputable def fnC(x:aJ)(c:ay)(c1:Int)(c2:Bool)(c3:ay):Option TT:=
 ((M.aP 32 c c1 c2 c3).bind λai7=>
 (bif !ai7.2.2.2.1 then
 (bif ah ai7.2.2.2.2 then
 ((M.aF ai7.2.1 ai7.2.2.1 ai7.2.2.2.1 ai7.2.2.2.2).bind λajO=>
 (bif ajO.1 !=33 then
 ((M.kH (.inl ((true,ajO.2.1,ajO.2.2.1,ajO.2.2.2.1,0,0,[],[],44,0,x,[],ajO.2.2.2.2)))).bind λaRQ=>
 iO aRQ (λagL=>
 (bif ah agL.2.2.2.2.2.2.2.2.2.2.2.1 then
 ((M.aP 33 agL.1 agL.2.1 agL.2.2.1 agL.2.2.2.2.2.2.2.2.2.2.2.1).bind λayD=>
 (bif ah ayD.2.2.2.2 then
 ((M.aQ ayD.2.1 ayD.2.2.1 ayD.2.2.2.1 ayD.2.2.2.2).bind λayE=>
 (bif ah ayE.2.2.2 then
 ((M.dA ayE.1 ayE.2.1 ayE.2.2.1 ayE.2.2.2).bind λWJ=>
 (bif((agL.2.2.2.2.2.2.2.2.2.2.2.2.length+[[D.int IntKind.i64 WJ.1,D.int IntKind.i64 WJ.2.1,D.str WJ.2.2.1,D.str WJ.2.2.2.1,D.sl false 5 (ak WJ.2.2.2.2.2.1)]].length) * 72).ble 140737488355328 then
 (bif(agL.2.2.2.2.2.2.2.2.2.2.2.2.length+[[D.int IntKind.i64 WJ.1,D.int IntKind.i64 WJ.2.1,D.str WJ.2.2.1,D.str WJ.2.2.2.1,D.sl false 5 (ak WJ.2.2.2.2.2.1)]].length).ble 140737488355328 then
 (bif ah WJ.2.2.2.2.2.2.2.2.2 then
 (some ((agL.2.2.2.2.2.2.2.1,agL.2.2.2.2.2.2.2.2.1,agL.2.2.2.2.2.2.2.2.2.1,agL.2.2.2.2.2.2.2.2.2.2.1,true,agL.2.2.2.2.2.2.2.2.2.2.2.2++[[D.int IntKind.i64 WJ.1,D.int IntKind.i64 WJ.2.1,D.str WJ.2.2.1,D.str WJ.2.2.2.1,D.sl false 5 (ak WJ.2.2.2.2.2.1)]],WJ.2.2.2.2.2.2.1,WJ.2.2.2.2.2.2.2.1,WJ.2.2.2.2.2.2.2.2.1,WJ.2.2.2.2.2.2.2.2.2))) else none) else none) else none)) else none)) else none)) else none)) λaRR=>
 iO aRR (λamB=>
 (bif ah amB.2.2.2.2.2.2.2.2.2.2.2 then
 ((M.aP 33 amB.1 amB.2.1 amB.2.2.1 amB.2.2.2.2.2.2.2.2.2.2.2).bind λayF=>
 (bif ah ayF.2.2.2.2 then
 ((M.aQ ayF.2.1 ayF.2.2.1 ayF.2.2.2.1 ayF.2.2.2.2).bind λayG=>
 (bif ah ayG.2.2.2 then
 ((M.dA ayG.1 ayG.2.1 ayG.2.2.1 ayG.2.2.2).bind λajP=>
 (bif ah ajP.2.2.2.2.2.2.2.2.2 then
 (some ((amB.2.2.2.2.2.2.2.1,amB.2.2.2.2.2.2.2.2.1,amB.2.2.2.2.2.2.2.2.2.1,amB.2.2.2.2.2.2.2.2.2.2.1,true,[[D.int IntKind.i64 ajP.1,D.int IntKind.i64 ajP.2.1,D.str ajP.2.2.1,D.str ajP.2.2.2.1,D.sl false 5 (ak ajP.2.2.2.2.2.1)]],ajP.2.2.2.2.2.2.1,ajP.2.2.2.2.2.2.2.1,ajP.2.2.2.2.2.2.2.2.1,ajP.2.2.2.2.2.2.2.2.2))) else none)) else none)) else none)) else none)) λaRS=>
 iO aRS (λai8=>
 (bif ah ai8.2.2.2.2.2.2.2.2.2.2.1 then
 ((M.aP 33 ai8.1 ai8.2.1 true ai8.2.2.2.2.2.2.2.2.2.2.1).bind λayH=>
 (bif ah ayH.2.2.2.2 then
 ((M.aQ ayH.2.1 ayH.2.2.1 ayH.2.2.2.1 ayH.2.2.2.2).bind λayI=>
 (bif ah ayI.2.2.2 then
 ((M.dA ayI.1 ayI.2.1 ayI.2.2.1 ayI.2.2.2).bind λWL=>
 (bif((ai8.2.2.2.2.2.2.2.2.2.2.2.length+[[D.int IntKind.i64 WL.1,D.int IntKind.i64 WL.2.1,D.str WL.2.2.1,D.str WL.2.2.2.1,D.sl false 5 (ak WL.2.2.2.2.2.1)]].length) * 72).ble 140737488355328 then
 (bif(ai8.2.2.2.2.2.2.2.2.2.2.2.length+[[D.int IntKind.i64 WL.1,D.int IntKind.i64 WL.2.1,D.str WL.2.2.1,D.str WL.2.2.2.1,D.sl false 5 (ak WL.2.2.2.2.2.1)]].length).ble 140737488355328 then
 (bif ah WL.2.2.2.2.2.2.2.2.2 then
 (some ((ai8.2.2.2.2.2.2.1,ai8.2.2.2.2.2.2.2.1,ai8.2.2.2.2.2.2.2.2.1,ai8.2.2.2.2.2.2.2.2.2.1,true,ai8.2.2.2.2.2.2.2.2.2.2.2++[[D.int IntKind.i64 WL.1,D.int IntKind.i64 WL.2.1,D.str WL.2.2.1,D.str WL.2.2.2.1,D.sl false 5 (ak WL.2.2.2.2.2.1)]],WL.2.2.2.2.2.2.1,WL.2.2.2.2.2.2.2.1,WL.2.2.2.2.2.2.2.2.1,WL.2.2.2.2.2.2.2.2.2))) else none) else none) else none)) else none)) else none)) else none)) λaRT=>
 letE aRT λagM=>
 (bif ah agM.2.2.2.2.2.2.2.2.2.2.2.1 then
 ((M.aP 33 agM.1 agM.2.1 agM.2.2.1 agM.2.2.2.2.2.2.2.2.2.2.2.1).bind λayJ=>
 (bif ah ayJ.2.2.2.2 then
 ((M.aQ ayJ.2.1 ayJ.2.2.1 ayJ.2.2.2.1 ayJ.2.2.2.2).bind λagA=>
 (bif ah agA.2.2.2 then
 ((M.dA agA.1 agA.2.1 agA.2.2.1 agA.2.2.2).bind λQo=>
 (bif((agM.2.2.2.2.2.2.2.2.2.2.2.2.length+[[D.int IntKind.i64 Qo.1,D.int IntKind.i64 Qo.2.1,D.str Qo.2.2.1,D.str Qo.2.2.2.1,D.sl false 5 (ak Qo.2.2.2.2.2.1)]].length) * 72).ble 140737488355328 then
 (bif(agM.2.2.2.2.2.2.2.2.2.2.2.2.length+[[D.int IntKind.i64 Qo.1,D.int IntKind.i64 Qo.2.1,D.str Qo.2.2.1,D.str Qo.2.2.2.1,D.sl false 5 (ak Qo.2.2.2.2.2.1)]].length).ble 140737488355328 then
 (bif ah Qo.2.2.2.2.2.2.2.2.2 then
 (some ((agM.2.2.2.2.2.2.2.1,agM.2.2.2.2.2.2.2.2.1,agM.2.2.2.2.2.2.2.2.2.1,agM.2.2.2.2.2.2.2.2.2.2.1,true,agM.2.2.2.2.2.2.2.2.2.2.2.2++[[D.int IntKind.i64 Qo.1,D.int IntKind.i64 Qo.2.1,D.str Qo.2.2.1,D.str Qo.2.2.2.1,D.sl false 5 (ak Qo.2.2.2.2.2.1)]],Qo.2.2.2.2.2.2.1,Qo.2.2.2.2.2.2.2.1,Qo.2.2.2.2.2.2.2.2.1,Qo.2.2.2.2.2.2.2.2.2))) else none) else none) else none)) else none)) else none)) else none)) else
 (bif ah ajO.2.2.2.2 then
 ((M.aP 33 ajO.2.1 ajO.2.2.1 ajO.2.2.2.1 ajO.2.2.2.2).bind λrU=>
 (bif ah rU.2.2.2.2 then
 ((M.aQ rU.2.1 rU.2.2.1 rU.2.2.2.1 rU.2.2.2.2).bind λYG=>
 (bif ah YG.2.2.2 then
 ((M.dA YG.1 YG.2.1 YG.2.2.1 YG.2.2.2).bind λYH=>
 (bif ah YH.2.2.2.2.2.2.2.2.2 then
 (some ((44,0,x,[],true,[[D.int IntKind.i64 YH.1,D.int IntKind.i64 YH.2.1,D.str YH.2.2.1,D.str YH.2.2.2.1,D.sl false 5 (ak YH.2.2.2.2.2.1)]],YH.2.2.2.2.2.2.1,YH.2.2.2.2.2.2.2.1,YH.2.2.2.2.2.2.2.2.1,YH.2.2.2.2.2.2.2.2.2))) else none)) else none)) else none)) else none))) else none) else
 (bif ah ai7.2.2.2.2 then
 ((M.aP 33 ai7.2.1 ai7.2.2.1 ai7.2.2.2.1 ai7.2.2.2.2).bind λajB=>
 (bif ah ajB.2.2.2.2 then
 ((M.aQ ajB.2.1 ajB.2.2.1 ajB.2.2.2.1 ajB.2.2.2.2).bind λXj=>
 (bif ah Xj.2.2.2 then
 ((M.dA Xj.1 Xj.2.1 Xj.2.2.1 Xj.2.2.2).bind λRZ=>
 (bif ah RZ.2.2.2.2.2.2.2.2.2 then
 (some ((44,0,x,[],true,[[D.int IntKind.i64 RZ.1,D.int IntKind.i64 RZ.2.1,D.str RZ.2.2.1,D.str RZ.2.2.2.1,D.sl false 5 (ak RZ.2.2.2.2.2.1)]],RZ.2.2.2.2.2.2.1,RZ.2.2.2.2.2.2.2.1,RZ.2.2.2.2.2.2.2.2.1,RZ.2.2.2.2.2.2.2.2.2))) else none)) else none)) else none)) else none)))
def fpP(l:List Tk)(n:Nat)(x:aJ)(j:Nat)(nt:gY):PR Tn:=(iZ l 32 j nt).bind λ_ j nt=>(bif bD l j==33 then .ok [] j nt else Gw l n [] j nt).bind λL j nt=>(iZ l 33 j nt).bind λ_ j nt=>(Lu l n (nl l j nt).1 (nl l j nt).2).bind λb j nt=> .ok (.mk 44 0 x [] (L++[b])) j nt
def aBZ(hl:l.length<=1048576)(n:Nat)(x:aJ){i:Nat}{nt:gY}(hi:i<=l.length)(hn:nt.length<=i):AT l (fnC x (au l) (i:Int) false (encS nt)) (fpP l n x i nt):=by
 rw[fnC,fpP];refine LD (R:=AT l) hl (by decide) ?_ (λ_ hlt=> ?_)
 ·simp only[zaN,aX,dP,aI,uw,aj,H6];refine AT.Dp (R:=λo=>AT l o (.bad i)) (asu hl aB) λk op x y fl ks nt hn=> ?_
  simp only[dP,aI];exact AT.eX hn
 ·simp only[Bool.not_false,aI,dP,eH,aj,bne];cases h33:bD l (i+1)==33 with
  |true=>
   simp only[zaN,aX,dP,aI,PR.bind];have e33:bD l (i+1)=33:=by rwa [beq_iff_eq] at h33
   have hlt':=cZ h33 (by decide);have hf:=Di (l:=l) (i:=i+1+1) (nt:=nt) aB;simp only[iZ,h33,aI,aq5 hl (by decide) e33,aj,dP,Qv hl (i+1+1) nt aB aB];refine AT.elim (R:=AT l) (apb hl n aB aB) (λ_=>trivial) (λk op x y fl ks j nt hn=> ?_) (λb fb kb j nt hb eb=> ?_)
   ·simp only[dP,aI];exact AT.eX hn
   ·simp only[dP,aI];exact AT.mk rfl rfl rfl rfl (fz1 (L6 hb))
  |false=>
   simp only[Bool.not_false,aI,aX];have hp:=auH hl x n (i:=i+1) (nt:=nt) aB aB;have zW:=ag2 (l:=l) n [] (i+1) nt aB;have h6:(Gw l n [] (i+1) nt).sat λL _ _=>L.length<=6:=alf n [] (i+1) nt (by decide)
   generalize Gw l n [] (i+1) nt=p at hp zW h6|-;cases p with
   |out=>trivial
   |bad j=>
    obtain⟨X7,rows,h1,h2,h3|h3⟩:=hp
    ·rw[h3,aj];simp only[g2,iO,dP,aI,uw,aj,H6];refine AT.Dp (R:=λo=>AT l o (.bad j)) (asu hl h1) λk op x y fl ks nt hn=> ?_
     simp only[zf,dP,aI];rw[bG aB,aI,bG aB,aI];exact AT.eX hn
    ·rw[h3,aj];simp only[g3,iO,dP,aI,uw,aj,H6];refine AT.Dp (R:=λo=>AT l o (.bad j)) (asu hl h1) λk op x y fl ks nt hn=> ?_
     simp only[zf,dP,aI];rw[bG aB,aI,bG aB,aI];exact AT.eX hn
   |ok L j m=>
    have hp':_=_:=hp;have hs':i+1<j/\FN l (i+1) nt.length j m.length/\sizes L+m.length+6 * (i+1)<=sizes ([]:List Tn)+nt.length+6 * j:=zW;have h6':L.length<=6:=h6;rw[hp',aj];simp only[g2,iO,dP,aI,PR.bind];refine LD (R:=AT l) hl (by decide) ?_ (λ_ hlt=> ?_)
    ·simp only[dP,aI,H6,aj];refine AT.Dp (R:=λo=>AT l o (.bad j)) (asu hl aB) λk op x y fl ks nt hn=> ?_
     simp only[zf,dM,dP,aI];rw[bG aB,aI,bG aB,aI];exact AT.eX hn
    ·have hf:=Di (l:=l) (i:=j+1) (nt:=m) aB;simp only[dP,aI,Qv hl (j+1) m aB aB,aj];refine AT.elim (R:=AT l) (apb hl n aB aB) (λ_=>trivial) (λk op x y fl ks j nt hn=> ?_) (λb fb kb j nt hb eb=> ?_)
     ·simp only[zf,dM,dP,aI];rw[bG aB,aI,bG aB,aI];exact AT.eX hn
     ·simp only[zf,dM,dP,aI];rw[bG aB,aI,bG aB,aI];exact AT.mk rfl rfl rfl rfl (by rw[Qx,iW,fz1 (L6 hb)];exact(Aq _ _ _).symm)
def aMi(hl:l.length<=1048576)(n:Nat){i:Nat}{nt:gY}(hi:i<=l.length)(hn:nt.length<=i):AT l (M.nC (au l) (i:Int) false (encS nt)) (amf l n i nt):=by
 simp only[M.nC,M.Ai,M.CU,M.CV,M.y8,dP,aI,eH,aj,bne,amf];cases h6:bD l i==6 with
 |true=>have hlt:=cZ h6 (by decide);simp only[zaN,aX,dP,aI,LC hl hlt,aj,Bool.true_or];exact aBZ hl n (Bo l i) aB aB
 |false=>
  simp only[Bool.not_false,aI,Bool.false_or];cases h7:bD l i==7 with
  |true=>have hlt:=cZ h7 (by decide);simp only[zaN,aX,dP,aI,LC hl hlt,aj];exact aBZ hl n (Bo l i) aB aB
  |false=>simp only[Bool.not_false,aI,aX,dP];exact AT.eX aB
def ayK{k op:Int}{s s':aJ}{fl:Bool}{ks:ay}{x:Tn}{j:Nat}{nt:gY}(h1:k=x.kind)(h2:op=x.op)(h3:s=x.text)(h4:s'=x.other)(h5:ak ks=dN false x.kids)(hn:nt.length<=l.length):
  AT l ((M.iU (au l) (j:Int) false (encS nt)).bind λr=>bif ah r.2.2.2 then some (k,op,s,s',fl,ks,r.1,r.2.1,r.2.2.1,r.2.2.2) else none) (endP l x j nt):=by
 rw[aqS,aj];simp only[dP,aI];exact ayg h1 h2 h3 h4 h5 hn
def amC(hl:l.length<=1048576)(n:Nat)(k op:Int){i:Nat}{nt:gY}(hi:i<=l.length)(hn:nt.length<=i):
  AT l ((M.dA (au l) (i:Int) false (encS nt)).bind λr=>bif ah r.2.2.2.2.2.2.2.2.2 then some (k,op,[],[],true,[[D.int .i64 r.1,D.int .i64 r.2.1,D.str r.2.2.1,D.str r.2.2.2.1,D.sl false 5 (ak r.2.2.2.2.2.1)]],r.2.2.2.2.2.2.1,r.2.2.2.2.2.2.2.1,r.2.2.2.2.2.2.2.2.1,r.2.2.2.2.2.2.2.2.2) else none)
   ((Lu l n i nt).bind λb i nt=> .ok (.mk k op [] [] [b]) i nt):=by
 refine AT.elim (R:=AT l) (apb hl n hi hn) (λ_=>trivial) (λk op x y fl ks j nt hn=> ?_) (λb fb kb j nt hb eb=> ?_)
 ·simp only[dP,aI];exact AT.eX hn
 ·simp only[dP,aI];exact AT.mk rfl rfl rfl rfl (fz1 (L6 hb))
def ayL(hl:l.length<=1048576)(n:Nat){i:Nat}{nt:gY}(hi:i<=l.length)(hn:nt.length<=i):AT l (M.kW (au l) (i:Int) false (encS nt)) (WC l n i nt):=by
 simp only[M.kW,M.Hq,M.Fa,M.Fb,dP,aI,eH,aj,WC];cases h10:bD l i==10 with
 |true=>have hlt:=cZ h10 (by decide);simp only[aI,nD hl hlt];exact amC hl n 40 0 aB aB
 |false=>
 cases h11:bD l i==11 with
 |true=>have hlt:=cZ h11 (by decide);simp only[aI,aX,nD hl hlt];exact amC hl n 41 0 aB aB
 |false=>
 cases h12:bD l i==12 with
 |true=>have hlt:=cZ h12 (by decide);simp only[aI,aX,nD hl hlt];exact AT.pass (aMi hl n aB aB) (by intros;simp only[dP,aI])
 |false=>
 cases h30:bD l i==30 with
 |true=>simp only[aI,aX];exact amC hl n 42 2 hi hn
 |false=>
 simp only[aX];refine AP.elim (R:=AT l) (ai1 hl n false false hi hn) (λ_=>trivial) (λk op x y fl ks tg j nt hn=> ?_) (λx fx kx j nt hx ex=> ?_)
 ·simp only[zaN,aX,dP,aI];exact AT.eX hn
 ·have s1:=gU (Gx aB aB hi) ex;simp only[Bool.not_false,aI,dP,eH,aj];cases h36:bD l j==36 with
  |false=>
   simp only[aX,PR.bind];cases hb:bD l j==30 with
   |false=>simp only[aX];exact ayK rfl rfl rfl rfl (fz1 (L6 hx)) aB
   |true=>
    simp only[aI];refine AT.elim (R:=AT l) (apb hl n aB aB) (λ_=>trivial) (λk op x y fl ks j nt hn=> ?_) (λb fb kb j nt hb eb=> ?_)
    ·simp only[dP,aI];exact AT.eX hn
    ·simp only[dP,aI];exact AT.mk rfl rfl rfl rfl (by rw[Qx,fz1 (L6 hx),fz1 (L6 hb)];rfl)
  |true=>
   have hlt:=cZ h36 (by decide);have hf:=Di (l:=l) (i:=j+1) (nt:=nt) aB;simp only[aI,nD hl hlt,Qv hl (j+1) nt aB aB,aj,dP];have e:∀p:PR Xp,((p.bind λy i nt=>PR.ok ((43:Int),[x.1,y.1]) i nt).bind λq i nt=>bif bD l i==30 then(Lu l n i nt).bind λb i nt=>PR.ok (Tn.mk q.1 3 [] [] (q.2++[b])) i nt else endP l (Tn.mk q.1 1 [] [] q.2) i nt)=
     p.bind λy i nt=>bif bD l i==30 then(Lu l n i nt).bind λb i nt=>PR.ok (Tn.mk 43 3 [] [] ([x.1,y.1]++[b])) i nt else endP l (Tn.mk 43 1 [] [] [x.1,y.1]) i nt:=by
    intro p;cases p<;>rfl
   rw[e];refine AP.elim (R:=AT l) (ai1 hl n false false aB aB) (λ_=>trivial) (λk op x y fl ks tg j nt hn=> ?_) (λy fy ky j nt hy ey=> ?_)
   ·simp only[zaN,aX,dP,aI];exact AT.eX hn
   ·have s2:=gU (Gx aB aB aB) ey;simp only[Bool.not_false,aI,dP,eH,aj];cases hb:bD l j==30 with
    |false=>simp only[aX];exact ayK rfl rfl rfl rfl (by rw[Qx,fz1 (L6 hx),fz1 (L6 hy)];rfl) aB
    |true=>
     simp only[aI];refine AT.elim (R:=AT l) (apb hl n aB aB) (λ_=>trivial) (λk op x y fl ks j nt hn=> ?_) (λb fb kb j nt hb eb=> ?_)
     ·simp only[dP,aI];exact AT.eX hn
     ·simp only[dP,aI];exact AT.mk rfl rfl rfl rfl (by rw[Qx,Qx,fz1 (L6 hx),fz1 (L6 hy),fz1 (L6 hb)];rfl)
def auI(hl:l.length<=1048576){i:Nat}{nt:gY}(h:bD l i=31)(hi:i<=l.length)(hn:nt.length<=i):AT l (M.kW (au l) (i:Int) false (encS nt)) (.bad i):=by
 have e:WC l 20 i nt=.bad i:=by
  have e:ex l 20 1 false false i nt=.bad i:=asj (.inr h) nt 1 (by decide) (by decide) 20 false false (by decide);have h1:(bD l i==10)=false:=by rw[h];rfl
  have h2:(bD l i==11)=false:=by rw[h];rfl
  have h3:(bD l i==12)=false:=by rw[h];rfl
  have h4:(bD l i==30)=false:=by rw[h];rfl
  simp only[WC,h1,h2,h3,h4,aX,e];rfl
 have:=ayL hl 20 hi hn
 rwa [e] at this
end Go.Proofs.YtoaeipkhadpbiaaGreatDoor
