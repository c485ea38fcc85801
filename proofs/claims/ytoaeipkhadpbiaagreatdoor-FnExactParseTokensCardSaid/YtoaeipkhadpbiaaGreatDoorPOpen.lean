import Derived.Test.YtoaeipkhadpbiaaGreatDoorXRi11
import Derived.Test.YtoaeipkhadpbiaaGreatDoorXAdv
import Derived.Test.YtoaeipkhadpbiaaGreatDoorXRi2
import Derived.Shelf.Small.Strs
import Derived.Shelf.Strings.Search1
import Derived.Shelf.Strings.Search2
import Derived.Shelf.Strings.Search3
import Derived.Shelf.LaysM
import Derived.Shelf.Strings.Shaped
import Derived.Test.YtoaeipkhadpbiaaGreatDoorProg
import Derived.Test.YtoaeipkhadpbiaaGreatDoorPPrim
import Derived.Test.YtoaeipkhadpbiaaGreatDoorVm4
import Derived.Test.YtoaeipkhadpbiaaGreatDoorPForms5
import Derived.Test.YtoaeipkhadpbiaaGreatDoorRows
set_option linter.defProp false
namespace Go.Proofs.YtoaeipkhadpbiaaGreatDoor
set_option linter.unusedVariables false
set_option linter.unusedSimpArgs false
open Go Go.Vm
open Go.IntKind (i64)
variable {l:List Tk}
def lf(s:aP):Tn:=.mk 1 0 s [] []
def JM(ss:List (aP)):aA:=ss.map λs=>[D.sl true 5 [[D.int .i64 1,D.int .i64 0,D.str s,D.str [],D.sl true 1 []]]]
def RP(ss:List (aP)):(JM ss).length=ss.length:=by rw[JM,zaO]
def aht:∀ss:List (aP),ak (JM ss)=parts (ss.map lf)
 |[]=>rfl
 |s::ss=>by have h:JM (s::ss)=[D.sl true 5 [[D.int .i64 1,D.int .i64 0,D.str s,D.str [],D.sl true 1 []]]]::JM ss:=rfl;rw[h,ak,aht ss];rfl
def alM(ss:List (aP))(s:aP):JM ss++[[D.sl true 5 [[D.int .i64 1,D.int .i64 0,D.str s,D.str [],D.sl true 1 []]]]]=JM (ss++[s]):=by simp[JM]
def UD:∀ss:List (aP),sizes (ss.map lf)=ss.length
 |[]=>rfl
 |s::ss=>by rw[zmc,sizes,UD ss,lf];simp[Tn.size,sizes];omega
def AIt(l:List Tk)(o:Option TY):PR Tn->Prop
 | .ok t j nt=>∃fl rows ns,ak rows=aV false (t.flat 0)/\txt ns=nt/\o=some (fl,rows,au l,(j:Int),false,au ns)
 | .bad j=>∃fl rows ns,j<=l.length/\ns.length<=l.length/\o=some (fl,rows,au l,(j:Int),true,au ns)
 | .out=>True
def AS.ait{i n0:Nat}{o:Option TY}{p:PR Tn}(h:AS l i n0 o p):AIt l o p:=by
 cases p with
 |ok x j m=>exact h
 |out=>trivial
 |bad j=>obtain⟨fl,rows,ns,R,h1,h2,h3,h4,h5,h6,h7⟩:=h;exact⟨fl,rows,ns,h2,h3,h7⟩
def AIt.mk{x:Tn}{j:Nat}{fl:Bool}{rows:aA}{ns:List Tk}(h:ak rows=aV false (x.flat 0)):AIt l (some (fl,rows,au l,(j:Int),false,au ns)) (.ok x j (txt ns)):=⟨_,_,_,h,rfl,rfl⟩
def AIt.fC{j:Nat}{fl:Bool}{rows:aA}{ns:List Tk}(h2:j<=l.length)(h3:ns.length<=l.length):AIt l (some (fl,rows,au l,(j:Int),true,au ns)) (.bad j):=⟨_,_,_,h2,h3,rfl⟩
def AIt.pass{o:Option TY}{p:PR Tn}(h:AIt l o p):AIt l (o.bind λr=>bif ah r.2.2.2.2.2 then some (false,ak r.2.1,r.2.2.1,r.2.2.2.1,r.2.2.2.2.1,r.2.2.2.2.2) else none) p:=by
 cases p with
 |out=>trivial
 |bad j=>obtain⟨fl,rows,ns,h1,h2,rfl⟩:=h;simp only[aj,aW,aI];exact AIt.fC h1 h2
 |ok x j m=>obtain⟨fl,rows,ns,h1,rfl,rfl⟩:=h;simp only[aj,aW,aI];exact AIt.mk (fzN h1)
noncomputable def fnS(x:aP)(c:aA)(c1:Int)(c2:Bool)(c3:aA):Option TY:=
 ((M.aG 32 c c1 c2 c3).bind λamv=>
 ((M.jf x ((amv.2.2.2.1,amv.2.2.2.2.1,amv.2.2.2.2.2.1,[],amv.2.2.2.2.2.2))).bind λaEP=>
 iD aEP (λads=>
 (bif ah ads.2.2.2.2 then
 ((M.aG 33 ads.1 ads.2.1 ads.2.2.1 ads.2.2.2.2).bind λWL=>
 (bif ah WL.2.2.2.2.2.2 then
 ((M.aT WL.2.2.2.1 WL.2.2.2.2.1 WL.2.2.2.2.2.1 WL.2.2.2.2.2.2).bind λWM=>
 (bif ah WM.2.2.2 then
 ((M.eF WM.1 WM.2.1 WM.2.2.1 WM.2.2.2).bind λQD=>
 (bif((ads.2.2.2.1.length+[[D.sl false 5 (ak QD.2.1)]].length) * 24).ble 140737488355328 then
 (bif(ads.2.2.2.1.length+[[D.sl false 5 (ak QD.2.1)]].length).ble 140737488355328 then
 ((M.aX 44 0 x [] [] (ak (ads.2.2.2.1++[[D.sl false 5 (ak QD.2.1)]]))).bind λay1=>
 (bif ah QD.2.2.2.2.2 then
 (some ((false,ak ay1,QD.2.2.1,QD.2.2.2.1,QD.2.2.2.2.1,QD.2.2.2.2.2))) else none)) else none) else none)) else none)) else none)) else none)) λaEQ=>
 letE aEQ λadt=>
 (bif ah adt.2.2.2.2 then
 ((M.aG 33 adt.1 adt.2.1 adt.2.2.1 adt.2.2.2.2).bind λai0=>
 (bif ah ai0.2.2.2.2.2.2 then
 ((M.aT ai0.2.2.2.1 ai0.2.2.2.2.1 ai0.2.2.2.2.2.1 ai0.2.2.2.2.2.2).bind λai1=>
 (bif ah ai1.2.2.2 then
 ((M.eF ai1.1 ai1.2.1 ai1.2.2.1 ai1.2.2.2).bind λadu=>
 (bif((adt.2.2.2.1.length+[[D.sl false 5 (ak adu.2.1)]].length) * 24).ble 140737488355328 then
 (bif(adt.2.2.2.1.length+[[D.sl false 5 (ak adu.2.1)]].length).ble 140737488355328 then
 ((M.aX 44 0 x [] [] (ak (adt.2.2.2.1++[[D.sl false 5 (ak adu.2.1)]]))).bind λaER=>
 (bif ah adu.2.2.2.2.2 then
 (some ((false,ak aER,adu.2.2.1,adu.2.2.2.1,adu.2.2.2.2.1,adu.2.2.2.2.2))) else none)) else none) else none)) else none)) else none)) else none)))
noncomputable def fnT(x:aP)(c:aA)(c1:Int)(c2:Bool)(rows c3:aA):Option TY:=
 (bif ah c3 then
 ((M.aG 33 c c1 c2 c3).bind λWL=>
 (bif ah WL.2.2.2.2.2.2 then
 ((M.aT WL.2.2.2.1 WL.2.2.2.2.1 WL.2.2.2.2.2.1 WL.2.2.2.2.2.2).bind λWM=>
 (bif ah WM.2.2.2 then
 ((M.eF WM.1 WM.2.1 WM.2.2.1 WM.2.2.2).bind λQD=>
 (bif((rows.length+[[D.sl false 5 (ak QD.2.1)]].length) * 24).ble 140737488355328 then
 (bif(rows.length+[[D.sl false 5 (ak QD.2.1)]].length).ble 140737488355328 then
 ((M.aX 44 0 x [] [] (ak (rows++[[D.sl false 5 (ak QD.2.1)]]))).bind λay1=>
 (bif ah QD.2.2.2.2.2 then
 (some ((false,ak ay1,QD.2.2.1,QD.2.2.2.1,QD.2.2.2.2.1,QD.2.2.2.2.2))) else none)) else none) else none)) else none)) else none)) else none)
def AV(l:List Tk)(o:Option (S5⊕S5)):PR (List Tn)->Prop
 | .ok L j nt=>∃ns ss u,L=ss.map lf/\ss.length<=8/\txt ns=nt/\o=some u/\(u=.inl (au l,(j:Int),false,JM ss,au ns)\/u=.inr (au l,(j:Int),false,JM ss,au ns))
 | .bad j=>∃ns ss u,j<=l.length/\ns.length<=l.length/\ss.length<=8/\o=some u/\(u=.inl (au l,(j:Int),true,JM ss,au ns)\/u=.inr (au l,(j:Int),true,JM ss,au ns))
 | .out=>True
def aAy(hl:l.length<=3000)(x:aP):
  ∀(n:Nat) (ss:List (aP)) (i:Nat) (ns:List Tk),(0<ss.length\/(bC l i==33)=false)->ss.length<6->i<=l.length->ns.length<=i->
   AV l (M.jf x (au l,(i:Int),false,JM ss,au ns)) (EI l n (ss.map lf) i (txt ns))
 |0,_,_,_,_,_,_,_=>by rw[EI];trivial
 |n+1,ss,i,ns,hc0,hL,hi,hn=>by
  rw[EI,M.jf,nameP];have hb:M.mY x (au l,(i:Int),false,JM ss,au ns)=(M.aG 6 (au l) (i:Int) false (au ns)).bind λr=>
    bif(((JM ss).length+[[D.sl true 5 [[D.int IntKind.i64 1,D.int IntKind.i64 0,D.str r.2.1,D.str [],D.sl true 1 []]]]].length) * 24).ble 140737488355328 then
     (bif((JM ss).length+[[D.sl true 5 [[D.int IntKind.i64 1,D.int IntKind.i64 0,D.str r.2.1,D.str [],D.sl true 1 []]]]].length).ble 140737488355328 then
     (bif ah r.2.2.2.2.2.2 then
      ((M.aK r.2.2.2.1 r.2.2.2.2.1 r.2.2.2.2.2.1 r.2.2.2.2.2.2).bind λuf=>
      (bif uf.1 !=36 then
       (some (.inr (.inl ((uf.2.1,uf.2.2.1,uf.2.2.2.1,JM ss++[[D.sl true 5 [[D.int IntKind.i64 1,D.int IntKind.i64 0,D.str r.2.1,D.str [],D.sl true 1 []]]]],uf.2.2.2.2))))) else
       (bif((JM ss++[[D.sl true 5 [[D.int IntKind.i64 1,D.int IntKind.i64 0,D.str r.2.1,D.str [],D.sl true 1 []]]]]).length:Int)==6 then
       (bif ah uf.2.2.2.2 then
        ((M.aG 36 uf.2.1 uf.2.2.1 true uf.2.2.2.2).bind λRj=>
        (bif ah Rj.2.2.2.2.2.2 then
         ((M.aT Rj.2.2.2.1 Rj.2.2.2.2.1 Rj.2.2.2.2.2.1 Rj.2.2.2.2.2.2).bind λU5=>
         (some (.inl ((U5.1,U5.2.1,U5.2.2.1,JM ss++[[D.sl true 5 [[D.int IntKind.i64 1,D.int IntKind.i64 0,D.str r.2.1,D.str [],D.sl true 1 []]]]],U5.2.2.2))))) else none)) else none) else
       (bif ah uf.2.2.2.2 then
        ((M.aG 36 uf.2.1 uf.2.2.1 uf.2.2.2.1 uf.2.2.2.2).bind λRk=>
        (bif ah Rk.2.2.2.2.2.2 then
         ((M.aT Rk.2.2.2.1 Rk.2.2.2.2.1 Rk.2.2.2.2.2.1 Rk.2.2.2.2.2.2).bind λU6=>
         (some (.inl ((U6.1,U6.2.1,U6.2.2.1,JM ss++[[D.sl true 5 [[D.int IntKind.i64 1,D.int IntKind.i64 0,D.str r.2.1,D.str [],D.sl true 1 []]]]],U6.2.2.2))))) else none)) else none)))) else none) else none) else none:=by
   by_cases hL0:0<ss.length
   ·have hd:decide (((JM ss).length:Int)>0)=true:=by rw[zdt];rw[RP];omega
    simp only[Em,M.mY,M.mX,Bool.not_false,aI,bH,aW,aj,hd]
   ·have hd:decide (((JM ss).length:Int)>0)=false:=by rw[Bq];rw[RP];omega
    have hk:(bC l i==33)=false:=by
     rcases hc0 with h|h
     ·exact absurd h hL0
     ·exact h
    have hk':(bC l i !=33)=true:=by rw[bne,hk];rfl
    simp only[Em,M.mY,M.mX,Bool.not_false,aI,bH,aW,aj,hd,gu,hk']
  cases h6:bC l i==6 with
  |false=>
   have hend:∀ss',M.mY x (au l,(i:Int),true,JM ss',au ns)=some (.inr (.inr (au l,(i:Int),true,JM ss',au ns))):=λss'=>by simp only[Em,M.mY,M.mX,zaM,bH]
   simp only[sF h6,aj,alM,RP,y7,zT,aW,aI,gu,bne,jO,IC] at hb;rw[bK aB,aI,bK aB,aI] at hb;cases hc:bC l i==36 with
   |false=>simp only[hc,Bool.not_false,aI] at hb;exact⟨ns,ss++[[]],_,hi,aB,by rw[zT,y7];omega,aO hb,.inl rfl⟩
   |true=>simp only[hc,zaM,bH,Bool.cond_self] at hb;rw[bD hb];exact⟨ns,ss++[[]],_,hi,aB,by rw[zT,y7];omega,aO (hend _),.inr rfl⟩
  |true=>
   have hlt:=cO h6 (by decide);have e6:bC l i=6:=by rwa [beq_iff_eq] at h6
   simp only[fB hl e6 (by decide),aj,alM,RP,y7,zT,aW,aI,gu,bne] at hb;rw[bK aB,aI,bK aB,aI] at hb;simp only[aI,PR.bind,zaO,show∀s,ss.map lf++[Tn.mk 1 0 s [] []]=(ss++[s]).map lf from λs=>by rw[List.map_append];rfl];cases hc:bC l (i+1)==36 with
   |false=>simp only[hc,Bool.not_false,aI] at hb;exact⟨ns,ss++[zK l i],_,rfl,by rw[zT,y7];omega,rfl,aO hb,.inl rfl⟩
   |true=>
    have hlt':=cO hc (by decide);have e36:bC l (i+1)=36:=by rwa [beq_iff_eq] at hc
    simp only[hc,zaM,bH] at hb;simp only[aI];cases hs:Nat.beq (ss.length+1) 6 with
    |true=>
     have e:=Bv hs;have e':(((ss.length+1:Nat):Int)==6)=true:=by rw[e];rfl
     simp only[e',aI,jO,IC,aj,aW] at hb;rw[bD hb];refine⟨ns,ss++[zK l i],_,aB,aB,by rw[zT,y7];omega,aO ?_,.inr rfl⟩;simp only[Em,M.mY,M.mX,zaM,bH]
    |false=>
     have hne:ss.length+1≠6:=Nat.ne_of_beq_eq_false hs;have e':(((ss.length+1:Nat):Int)==6)=false:=by rw[zbn];omega
     obtain⟨Ju,t2,hln⟩:=Hf hl (i+1+1) ns aB aB;have hf:=Bj (l:=l) (i:=i+1+1) (nt:=txt ns) aB;simp only[e',bH,fB hl e36 (by decide),aj,aW,aI,hln] at hb;rw[bD hb,bH,<-t2];rw[<-t2] at hf;simp only[zaO] at hf;exact aAy hl x n (ss++[zK l i]) _ Ju (.inl (by rw[zT,y7];omega)) (by rw[zT,y7];omega) aB aB
def am9(hl:l.length<=3000)(x:aP){ss:List (aP)}(hs:ss.length<=8){j:Nat}{ns:List Tk}(h2:j<=l.length)(h3:ns.length<=l.length):AIt l (fnT x (au l) (j:Int) true (JM ss) (au ns)) (.bad j):=by
 simp only[fnT,aW,aI,jO,IC,aj];obtain⟨fl,rows,ns',R,g1,g2,g3,g4,g5⟩:=aFY (l:=l) j ns aB;obtain⟨R',_,e1,e2,e3⟩:=Z7 44 0 x [] (((ss.map lf).map λt=>t.flat 0)++[R]) (b:=8+R.length) (by rw[vG,lW,UD,lens,lens];omega) aB (by rw[zT,zaO,zaO,y7];omega) (KB.trees _ (by rw[UD];omega) (KB.cons g4 KB.nil));have e:ak (JM ss++[[D.sl false 5 (ak rows)]])=qo (((ss.map lf).map λt=>t.flat 0)++[R]):=by rw[OD,aht,show ak [[D.sl false 5 (ak rows)]]=qo [R] by rw[g2];exact ag5 R,uI];simp[qo]
 simp only[g1,aj,e,e1,aW,aI,RP,y7];rw[bK aB,aI,bK aB,aI];exact AIt.fC h2 aB
def aAz(hl:l.length<=3000)(hx:adJ l)(n:Nat)(x:aP){ss:List (aP)}(hs:ss.length<=8){j:Nat}{ns:List Tk}(h2:j<=l.length)(h3:ns.length<=j):
  AIt l (fnT x (au l) (j:Int) false (JM ss) (au ns)) ((iV l 33 j (txt ns)).bind λ_ j nt=>(JI l n (nl l j nt).1 (nl l j nt).2).bind λb j nt=> .ok (.mk 44 0 x [] (ss.map lf++[b])) j nt):=by
 rw[iV];cases hc:bC l j==33 with
 |false=>have hb:=am9 hl x hs h2 (ns:=ns) aB;simp only[fnT,aW,aI,sF hc,jO,aj] at hb|-;exact hb
 |true=>
  have hlt:=cO hc (by decide);have e33:bC l j=33:=by rwa [beq_iff_eq] at hc
  obtain⟨Ju,t2,hln⟩:=Hf hl (j+1) ns aB aB;have hf:=Bj (l:=l) (i:=j+1) (nt:=txt ns) aB;simp only[fnT,aW,aI,fB hl e33 (by decide),hln,aj,PR.bind];generalize nl l (j+1) (txt ns)=q at hf t2|-;rw[<-t2] at hf|-;simp only[zaO] at hf;have y5:=(N9 l n).blk q.1 (txt Ju) aB;refine AS.elim (Q:=AIt l) (ati hl hx n (i:=q.1) (ns:=Ju) aB aB) (λ_=>trivial) (λfl rows j' ns3 R g1 g2 g3 g4 g5 g6=> ?_) (λb fl rows j' ns3 h1 he=> ?_)
  ·obtain⟨R',_,e1,e2,e3⟩:=Z7 44 0 x [] (((ss.map lf).map λt=>t.flat 0)++[R]) (b:=8+R.length) (by rw[vG,lW,UD,lens,lens];omega) aB (by rw[zT,zaO,zaO,y7];omega) (KB.trees _ (by rw[UD];omega) (KB.cons g6 KB.nil));have e:ak (JM ss++[[D.sl false 5 (ak rows)]])=qo (((ss.map lf).map λt=>t.flat 0)++[R]):=by rw[OD,aht,show ak [[D.sl false 5 (ak rows)]]=qo [R] by rw[g4];exact ag5 R,uI];simp[qo]
   simp only[e,e1,aj,aW,aI,RP,y7];rw[bK aB,aI,bK aB,aI];exact AIt.fC g2 g3
  ·have hs':=gY y5 he;simp only[zaO] at hs';have e:ak (JM ss++[[D.sl false 5 (ak rows)]])=parts (ss.map lf++[b]):=by rw[OD,aht,show ak [[D.sl false 5 (ak rows)]]=parts [b] by rw[h1];exact ag5 _,UC]
   simp only[e,Dc 44 0 x [] [] (ss.map lf++[b]) (by rw[sizes1,UD];omega),aj,aW,aI,RP,y7];rw[bK aB,aI,bK aB,aI];exact AIt.mk (fzN (aS _ _))
def aDv(hl:l.length<=3000)(x:aP){j:Nat}{ns:List Tk}(h2:j<=l.length)(h3:ns.length<=l.length):AIt l (fnS x (au l) (j:Int) true (au ns)) (.bad j):=by
 have hend:M.jf x (au l,(j:Int),true,JM [],au ns)=some (.inr (au l,(j:Int),true,JM [],au ns)):=by rw[M.jf];refine aO ?_;simp only[Em,M.mY,M.mX,zaM,bH]
 have hend':M.jf x (au l,(j:Int),true,[],au ns)=some (.inr (au l,(j:Int),true,JM [],au ns)):=hend;unfold fnS;rw[jO];simp only[aj,hend',iD,letE];exact am9 hl x (ss:=[]) (by decide) h2 h3
def aDw(hl:l.length<=3000)(hx:adJ l)(n:Nat)(x:aP){i:Nat}{ns:List Tk}(hi:i<=l.length)(hn:ns.length<=i):
  AIt l (fnS x (au l) (i:Int) false (au ns)) ((iV l 32 i (txt ns)).bind λ_ j nt=>(bif bC l j==33 then .ok [] j nt else EI l n [] j nt).bind λL j nt=>(iV l 33 j nt).bind λ_ j nt=>(JI l n (nl l j nt).1 (nl l j nt).2).bind λb j nt=> .ok (.mk 44 0 x [] (L++[b])) j nt):=by
 rw[iV];cases hc:bC l i==32 with
 |false=>have hb:=aDv hl x hi (ns:=ns) aB;simp only[fnS,sF hc,jO,aj] at hb|-;exact hb
 |true=>
  have hlt:=cO hc (by decide);have e32:bC l i=32:=by rwa [beq_iff_eq] at hc
  simp only[fnS,fB hl e32 (by decide),aj,aI,PR.bind];cases h33:bC l (i+1)==33 with
  |true=>
   have hend:M.jf x (au l,((i+1:Nat):Int),false,[],au ns)=some (.inr (au l,((i+1:Nat):Int),false,JM [],au ns)):=by
    rw[M.jf];refine aO ?_;have hk':(bC l (i+1) !=33)=false:=by rw[bne,h33];rfl
    simp only[Em,M.mY,M.mX,Bool.not_false,aI,zln,show decide (((0:Nat):Int)>0)=false from rfl,bH,aW,gu,aj,hk'];rfl
   simp only[hend,aj,iD,letE,aI,PR.bind];exact aAz hl hx n x (ss:=[]) (by decide) aB aB
  |false=>
   have hpl:=aAy hl x n [] (i+1) ns (.inr h33) (by decide) aB aB;have y5:=ahr (l:=l) n [] (i+1) (txt ns) aB;simp only[bH];generalize ho:M.jf x (au l,((i+1:Nat):Int),false,[],au ns)=o;have hpl':AV l o (EI l n [] (i+1) (txt ns)):=by rw[<-ho];exact hpl
   clear hpl;generalize EI l n [] (i+1) (txt ns)=p at hpl' y5|-;cases p with
   |out=>trivial
   |bad j=>
    obtain⟨ns',ss,u,g1,g2,g3,rfl,g4⟩:=hpl';have hb:=am9 hl x g3 g1 g2;rcases g4 with rfl|rfl
    ·simp only[aj,iD,letE];exact hb
    ·simp only[aj,iD,letE];exact hb
   |ok L j nt=>
    obtain⟨ns',ss,u,rfl,g3,rfl,rfl,g4⟩:=hpl';have hs':i+1<j/\FN l (i+1) (txt ns).length j (txt ns').length/\sizes (ss.map lf)+(txt ns').length+6 * (i+1)<=sizes ([]:List Tn)+(txt ns).length+6 * j:=y5;simp only[zaO] at hs';have hb:=aAz hl hx n x g3 (j:=j) (ns:=ns') aB aB;rcases g4 with rfl|rfl
    ·simp only[aj,iD,letE,PR.bind];exact hb
    ·simp only[aj,iD,letE,PR.bind];exact hb
def aMZ(hl:l.length<=3000)(hx:adJ l)(n:Nat){i:Nat}{ns:List Tk}(h12:bC l i=12)(hn:ns.length<=i):AIt l (M.BR (au l) (i:Int) false (au ns)) (amO l n (i+1) (txt ns)):=by
 have hlt:i<l.length:=dX (by rw[h12];decide);rw[amO];have hw:i64.wrap (((i+1+1:Nat):Int) - 1)=((i+1:Nat):Int):=by rw[bT aB aB];omega
 have hnm:∀k:Int,k≠0->bC l (i+1)=k->(idx (au l) ((i+1:Nat):Int)).bind (λrow=>cStr row 1)=some (zK l (i+1)):=λk hk e=>by
  have hlt':i+1<l.length:=dX (by rw[e];exact hk);obtain⟨t,ht⟩:∃t,l[i+1]? =some t:=⟨l[i+1],by simp[hlt']⟩
  simp only[dM,fK,ht,Hg,aj,cT1,zK]
 have hrow:∀k:Int,k≠0->bC l (i+1)=k->∃row,idx (au l) ((i+1:Nat):Int)=some row/\cStr row 1=some (zK l (i+1)):=λk hk e=>by
  have hlt':i+1<l.length:=dX (by rw[e];exact hk);obtain⟨t,ht⟩:∃t,l[i+1]? =some t:=⟨l[i+1],by simp[hlt']⟩
  exact⟨_,by rw[dM,fK,ht];rfl,by simp only[cT1,zK,ht]⟩
 simp only[Em,M.BR,M.MV,aW,aI,fB hl h12 (by decide),aj,gu,bne]
 by_cases h7:bC l (i+1)=7
 ·obtain⟨row,r1,r2⟩:=hrow 7 (by decide) h7;simp only[h7,show((7:Int)==7)=true from rfl,show((7:Int)==6)=false from rfl,zaM,bH,Bool.false_or,aI,fB hl h7 (by decide),aj,Bool.not_false,hw,r1,r2,aW];exact aDw hl hx n (zK l (i+1)) (by have:=dX (l:=l) (i:=i+1) (by rw[h7];decide);omega) aB
 ·have f7:(bC l (i+1)==7)=false:=by rwa [zbn]
  simp only[f7,Bool.not_false,aI,Bool.or_false];cases h6:bC l (i+1)==6 with
  |true=>
   have e6:bC l (i+1)=6:=by rwa [beq_iff_eq] at h6
   obtain⟨row,r1,r2⟩:=hrow 6 (by decide) e6;simp only[aI,fB hl e6 (by decide),aj,Bool.not_false,hw,r1,r2,aW];exact aDw hl hx n (zK l (i+1)) (by have:=dX (l:=l) (i:=i+1) (by rw[e6];decide);omega) aB
  |false=>simp only[bH,sF h6,aj,zaM,aW,aI];exact aDv hl [] aB aB
variable {l:List Tk}
def as6(hl:l.length<=3000){i n0:Nat}{k op:Int}(ts:List Tn){o:Option TY}{p:PR Tn}(h:AS l i n0 o p)(hn0:n0<=4000)(hts:sizes ts<=30000)(y5:p.sat λx j m=>x.size<=30000):
  AIt l (o.bind λr=>(M.aX k op [] [] [] (ak (parts ts++[[D.sl false 5 (ak r.2.1)]]))).bind λr'=>
   bif ah r.2.2.2.2.2 then some (false,ak r',r.2.2.1,r.2.2.2.1,r.2.2.2.2.1,r.2.2.2.2.2) else none)
   (p.bind λy j nt=> .ok (.mk k op [] [] (ts++[y])) j nt):=by
 have hlen:(ts.map λt=>t.flat 0).length<=sizes ts:=by rw[zaO];exact zV ts
 cases p with
 |out=>trivial
 |bad j=>obtain⟨fl,rows,ns,R,g1,g2,g3,g4,g5,g6,rfl⟩:=h;obtain⟨R',_,e1,e2,e3⟩:=Z7 k op [] [] ((ts.map λt=>t.flat 0)++[R]) (b:=sizes ts+R.length) (by rw[vG,lW,lens,lens];omega) aB (by rw[zT,y7];omega) (KB.trees ts aB (KB.cons g6 KB.nil));simp only[aj,LK g4,zu,e1,aW,aI,aS];exact AIt.fC g2 g3
 |ok y j m=>obtain⟨fl,rows,ns,h1,rfl,rfl⟩:=h;have hs':y.size<=30000:=y5;simp only[aj,FU h1,JL,Dc k op [] [] [] (ts++[y]) (by rw[sizes1];omega),aW,aI,aS];exact AIt.mk (aS _ _)
def aM0{k op:Int}{ts:List Tn}(hts:sizes ts<=30000){j:Nat}{ns:List Tk}(hj:j<=l.length)(hn:ns.length<=l.length):
  AIt l ((M.lu (au l) (j:Int) false (au ns)).bind λr=>(M.aX k op [] [] [] (ak (parts ts))).bind λr'=>bif ah r.2.2.2 then some (false,ak r',r.1,r.2.1,r.2.2.1,r.2.2.2) else none) (endP l (.mk k op [] [] ts) j (txt ns)):=by
 simp only[atd,aj,JL,Dc k op [] [] [] ts aB,aW,aI,aS,Bool.false_or,endP];cases Ei (bC l j) with
 |true=>exact AIt.mk (aS _ _)
 |false=>exact AIt.fC hj hn
def aM1{k op:Int}{P:List (List Nd)}(h1:lens P<=90000)(h2:P.length<=100000)(h3:KB P){j:Nat}{ns:List Tk}(hj:j<=l.length)(hn:ns.length<=l.length):
  AIt l ((M.lu (au l) (j:Int) true (au ns)).bind λr=>(M.aX k op [] [] [] (qo P)).bind λr'=>bif ah r.2.2.2 then some (false,ak r',r.1,r.2.1,r.2.2.1,r.2.2.2) else none) (.bad j):=by
 obtain⟨R',_,e1,e2,e3⟩:=Z7 k op [] [] P (zaN _) h1 h2 h3;simp only[atd,aj,e1,aW,aI,Bool.true_or];exact AIt.fC hj hn
def ar9(hl:l.length<=3000){n i:Nat}{nt:iw}(hi:i<=l.length)(hn:nt.length<=i):(JI l n i nt).sat λx j m=>x.size<=30000:=bP ((N9 l n).blk i nt hi) λx j m h=>by omega
def aFZ(hl:l.length<=3000)(hx:adJ l)(n:Nat){i:Nat}{ns:List Tk}(hi:i<=l.length)(hn:ns.length<=i):AIt l (M.wZ (au l) (i:Int) false (au ns)) (Ux l n i (txt ns)):=by
 have hblk:∀(k op:Int) {j:Nat} {ns:List Tk},j<=l.length->ns.length<=j->AIt l ((M.eF (au l) (j:Int) false (au ns)).bind λr=>(M.dG k op [] [] [] (ak [[D.sl false 5 (ak r.2.1)]])).bind λr'=>bif ah r.2.2.2.2.2 then some (false,ak r'.2,r.2.2.1,r.2.2.2.1,r.2.2.2.2.1,r.2.2.2.2.2) else none) ((JI l n j (txt ns)).bind λb i nt=> .ok (.mk k op [] [] [b]) i nt):=λk op j ns hj hn=>(ZH (i:=j) (n0:=ns.length+1) hl [] (ati hl hx n hj hn) (zaN _) aB (by simp only[sizes];omega) (by simp[sizes]) (ar9 hl hj (by rw[zaO];omega))).ait
 simp only[M.wZ,M.MW,aW,aI,gu,aj,Ux]
 by_cases e10:bC l i=10
 ·have hlt:i<l.length:=dX (by rw[e10];decide);simp only[e10,show((10:Int)==10)=true from rfl,aI,fB hl e10 (by decide),aj,aW,show i64.wrap (i64.wrap (40+10) - 10)=40 from by decide];exact hblk 40 0 aB aB
 have f10:(bC l i==10)=false:=by rwa [zbn]
 simp only[f10,bH]
 by_cases e11:bC l i=11
 ·have hlt:i<l.length:=dX (by rw[e11];decide);simp only[e11,show((11:Int)==11)=true from rfl,aI,fB hl e11 (by decide),aj,aW,show i64.wrap (i64.wrap (40+11) - 10)=41 from by decide];exact hblk 41 0 aB aB
 have f11:(bC l i==11)=false:=by rwa [zbn]
 simp only[f11,bH]
 by_cases e12:bC l i=12
 ·have hfun:=(aMZ hl hx n e12 hn).pass;simp only[e12,show((12:Int)==12)=true from rfl,aI];exact hfun
 have f12:(bC l i==12)=false:=by rwa [zbn]
 simp only[f12,bH];cases h30:bC l i==30 with
 |true=>simp only[aI];exact hblk 42 2 hi hn
 |false=>
 simp only[bH,M.ig,M.pU,aj];refine AX.elim (Q:=AIt l) (at1 hl n false false hi hn) (λ_=>trivial) (λfl rows hd j ns' R g1 g2 g3 g4 g5=> ?_) (λx fl rows j Ju h1 he=> ?_)
 ·have g51:=g5.1;have hb:=aM1 (l:=l) (k:=42) (op:=1) (P:=[R]) (by rw[lens,lens];omega) (by simp) (KB.cons g5.2 KB.nil) g2 g3;simp only[zaM,bH,aW,aI,g4,ag5];exact hb
 ·have s1:=gY (EJ aB aB hi) he;simp only[zaO] at s1;simp only[Bool.not_false,aI,aW,gu,aj,h1];cases h36:bC l j==36 with
  |false=>
   simp only[bH,PR.bind];cases hb:bC l j==30 with
   |false=>exact aM0 (ts:=[x.1]) (by simp only[sizes];omega) aB aB
   |true=>exact as6 hl [x.1] (ati hl hx n aB aB) aB (by simp only[sizes];omega) (ar9 hl aB (by rw[zaO];omega))
  |true=>
   have hlt:=cO h36 (by decide);have e36:bC l j=36:=by rwa [beq_iff_eq] at h36
   obtain⟨ns3,t3,hln⟩:=Hf hl (j+1) Ju aB aB;have hf:=Bj (l:=l) (i:=j+1) (nt:=txt Ju) aB;simp only[aI,fB hl e36 (by decide),aj,aW,hln];generalize nl l (j+1) (txt Ju)=q at hf t3|-;rw[<-t3] at hf|-;simp only[zaO] at hf;rw[PR.bind_assoc];refine AX.elim (Q:=AIt l) (at1 hl n false false aB aB) (λ_=>trivial) (λfl rows hd j' ns' R g1 g2 g3 g4 g5=> ?_) (λy fl rows j' ns4 h2 he2=> ?_)
   ·have g51:=g5.1;have hb:=aM1 (l:=l) (k:=43) (op:=1) (P:=[x.1.flat 0,R]) (by rw[lens,lens,lens,Tn.flat_length];omega) (by simp) (KB.tree aB (KB.cons g5.2 KB.nil)) g2 g3;simp only[zaM,bH,aW,aI,g4,show∀A B:List Nd,ak ([[D.sl false 5 (aV false A)]]++[[D.sl false 5 (aV false B)]])=qo [A,B] from λA B=>arX A B];exact hb
   ·have s2:=gY (EJ aB aB aB) he2;simp only[zaO] at s2;simp only[Bool.not_false,aI,aW,gu,aj,h2,PR.bind];cases hb:bC l j'==30 with
    |false=>exact aM0 (ts:=[x.1,y.1]) (by simp only[sizes];omega) aB aB
    |true=>exact as6 hl [x.1,y.1] (ati hl hx n aB aB) aB (by simp only[sizes];omega) (ar9 hl aB (by rw[zaO];omega))
variable {l:List Tk}
abbrev U1:=aA×Int×Int×aA×Int×Bool×aA
abbrev U2:=aA×Int×Int×aA×Int×Bool×aA×aA
abbrev U3:=aA×Int×Int×aA×Int×aA×aA
def AF(l:List Tk)(o:Option (U2⊕U3)):PR (List Tn)->Prop
 | .ok L j nt=>o=some (.inl (au l,0,0,au l,(j:Int),false,parts L,au []))/\j<=l.length/\sizes L<=6 * j
 | .bad j=>j<=l.length/\∃u rows ns,o=some u/\(u=.inl (au l,0,0,au l,(j:Int),true,rows,ns)\/u=.inr (au l,0,0,au l,(j:Int),rows,ns))
 | .out=>True
def atj(hl:l.length<=3000)(hx:adJ l):
  ∀n,∀(L:List Tn) (i:Nat) (ns:List Tk) (s:U1⊕U2),(s=.inl (au l,0,0,au l,(i:Int),false,parts L)/\ns=[]\/s=.inr (au l,0,0,au l,(i:Int),false,parts L,au ns))->
   i<=l.length->ns.length<=i->sizes L+ns.length<=6 * i->AF l (M.yO s) (SQ l n L i (txt ns))
 |0,_,_,_,_,_,_,_,_=>by rw[SQ];trivial
 |n+1,L,i,ns,s,hs,hi,hn,hsz=>by
  obtain⟨Qs,t1,hsp⟩:=am3 hl i ns hi hn;have hq:=Oz (l:=l) (nt:=txt ns) hi;have hLl:=zV L;simp only[SQ];generalize hqe:sep l i (txt ns)=q at hq hsp t1|-;rw[<-t1] at hq;simp only[zaO] at hq;have hcm:ak (ak (Oa Qs))=parts (Dq q.2):=by rw[Zo,t1]
  have hcl:(Dq q.2).length=Qs.length:=by rw[<-t1,SY]
  have hcs:sizes (Dq q.2)=Qs.length:=by rw[<-t1,Ej]
  rw[M.yO];have hb:M.qw s=
    bif bC l q.1==0 then some (.inr (.inl (au l,0,0,au l,(q.1:Int),false,parts (L++Dq q.2),au []))) else bif bC l q.1==31 then some (.inr (.inr (au l,0,0,au l,(q.1:Int),parts (L++Dq q.2),au []))) else
     (M.wZ (au l) (q.1:Int) false (au [])).bind λr=>bif(((parts (L++Dq q.2)).length+[[D.sl false 5 (ak r.2.1)]].length) * 24).ble 140737488355328 then
      (bif((parts (L++Dq q.2)).length+[[D.sl false 5 (ak r.2.1)]].length).ble 140737488355328 then
       some (.inl (.inr (au l,0,0,r.2.2.1,r.2.2.2.1,r.2.2.2.2.1,parts (L++Dq q.2)++[[D.sl false 5 (ak r.2.1)]],r.2.2.2.2.2))) else none) else none:=by
   have hlen:(parts L).length+(parts (Dq q.2)).length=L.length+Qs.length:=by rw[oq,oq,hcl]
   rcases hs with⟨rfl,rfl⟩|rfl
   ·have hsp':M.jT (au l) (i:Int) false []=some (au l,(q.1:Int),false,au Qs):=hsp;simp only[Em,M.qw,M.qp,aW,aI,hsp',aj,QI (l:=l) _ _ Qs aB,hcm,UC,bH,gu];rw[hlen,bK aB,aI,bK aB,aI]
   ·simp only[Em,M.qw,M.qp,aW,aI,hsp,aj,QI (l:=l) _ _ Qs aB,hcm,UC,bH,gu];rw[hlen,bK aB,aI,bK aB,aI]
  cases h0:bC l q.1==0 with
  |true=>rw[h0,aI] at hb;rw[aO hb,aI];exact⟨rfl,aB,by rw[mQ,hcs];omega⟩
  |false=>
   rw[h0,bH] at hb;rw[bH];cases h31:bC l q.1==31 with
   |true=>rw[h31,aI] at hb;rw[aO hb,aI];exact⟨aB,_,_,_,rfl,.inr rfl⟩
   |false=>
    rw[h31,bH] at hb;rw[bH];have hr:=aFZ hl hx n (i:=q.1) (ns:=[]) aB (Nat.zero_le _);have y5:=as8 (l:=l) (n:=n) (i:=q.1) (nt:=[]) aB;have e0:txt ([]:List Tk)=[]:=rfl;rw[e0] at hr;generalize Ux l n q.1 []=p at hr y5|-;cases p with
    |out=>trivial
    |bad j=>
     obtain⟨fl,rows,Ju,g1,g2,h2⟩:=hr;rw[h2,aj] at hb;simp only[oq,zT,hcl,y7] at hb;rw[bK aB,aI,bK aB,aI] at hb;rw[bD hb];refine⟨g1, ?_⟩;have hb2:M.qw (.inr (au l,0,0,au l,(j:Int),true,parts (L++Dq q.2)++[[D.sl false 5 (ak rows)]],au Ju))=some (.inr (.inl (au l,0,0,au l,(j:Int),true,(parts (L++Dq q.2)++[[D.sl false 5 (ak rows)]])++parts (Dq (txt Ju)),au []))):=by simp only[Em,M.qw,M.qp,aW,aI,am4,aj,QI (l:=l) _ _ Ju aB,Zo];rw[show(parts (L++Dq q.2)++[[D.sl false 5 (ak rows)]]).length+(parts (Dq (txt Ju))).length=L.length+Qs.length+1+Ju.length by rw[zT,oq,zT,hcl,y7,oq,SY],bK aB,aI,bK aB,aI]
     exact⟨_,_,_,aO hb2,.inl rfl⟩
    |ok x j m'=>obtain⟨fl,rows,Ju,h1,rfl,h2⟩:=hr;have hs':FS l q.1 ([]:iw).length x.size j (txt Ju).length:=y5;simp only[zaO,zln] at hs';rw[h2,aj] at hb;simp only[FU h1,oq,zT,hcl,y7] at hb;rw[bK aB,aI,bK aB,aI] at hb;rw[bD hb];exact atj hl hx n ((L++Dq q.2)++[x]) j Ju _ (.inr rfl) aB aB (by rw[sizes1,mQ,hcs];omega)
noncomputable def aM2(rows:aA):Option (Bool×aA×Int×Int):=
 (M.zh rows).bind λr=>bif r.1 !=0 then some (true,[],r.1,r.2) else some (false,rows,r.1,r.2)
def AG(l:List Tk)(o:Option (Bool×aA×Int×Int)):PR (List Tn)->Prop
 | .ok L _ _=>o=aM2 (aV false ((Tn.mk 45 0 [] [] L).flat 0))/\sizes L<=18000
 | .bad j=>j<=l.length/\o=(M.qI (au l) (j:Int) 3).bind λr=>some (true,[],r.1,r.2)
 | .out=>True
def aCP(hl:l.length<=3000)(hx:adJ l)(h0:M.wV (au l)=some true){k:Int}(h1:M.BQ (au l)=some k)(hk:k<0)(n:Nat):AG l (M.lN (au l)) (SQ l n [] 0 []):=by
 have hloop:=atj hl hx n [] 0 [] (.inl (au l,0,0,au l,0,false,[])) (.inl ⟨rfl,rfl⟩) (Nat.zero_le _) (zaN _) (zaN _);have e0:txt ([]:List Tk)=[]:=rfl;rw[e0] at hloop;simp only[M.lN,M.wu,h0,h1,aj,zaM,bH];rw[Bq aB,bH];generalize SQ l n [] 0 []=p at hloop|-;cases p with
 |out=>trivial
 |bad j=>
  obtain⟨hj,u,rows,ns,h2,h3⟩:=hloop;rw[h2,aj];refine⟨hj, ?_⟩;rcases h3 with rfl|rfl
  ·simp only[iD,aI]
  ·simp only[iD,letE]
 |ok L j nt=>obtain⟨h2,hj,h3⟩:=hloop;rw[h2,aj];refine⟨?_,aB⟩;simp only[iD,bH,JL,Dc 45 0 [] [] [] L aB,aj,aS];rfl
variable {l:List Tk}
abbrev P1:=aA×Int×Int×aA×Int×Bool×Int×Int×aP×aP×aA
abbrev P2:=aA×Int×Int×aA×Int×Bool×Int×Int×aP×aP×aA×aA
def p1(l:List Tk)(i:Nat)(b:Bool)(nt:iw):P1:=(au l,0,0,au l,(i:Int),b,45,0,[],[],encS nt)
def p2(l:List Tk)(i:Nat)(b:Bool)(nt:iw)(rows:aA):P2:=(au l,0,0,au l,(i:Int),b,45,0,[],[],encS nt,rows)
def AD(l:List Tk)(o:Option (P1⊕P2)):PR (List Tn)->Prop
 | .ok L' j VI=>∃L0 i0 nt0 u,o=some u/\(u=.inl (p1 l i0 false nt0)/\L0=[]\/u=.inr (p2 l i0 false nt0 (dO false L0)))/\L'=L0++Dq nt0/\nt0.length<=l.length/\L0.length<=2 * l.length
 | .bad j=>∃u nt0,o=some u/\(u=.inl (p1 l j true nt0)\/∃rows:aA,u=.inr (p2 l j true nt0 rows))
 | .out=>True
def alN(hl:l.length<=1048576)(hk:∀i,i<l.length->bC l i≠0):
  ∀n,∀(L:List Tn) (i:Nat) (nt:iw) (s:P1⊕P2),(s=.inl (p1 l (sep l i nt).1 false (sep l i nt).2)/\L=[]\/s=.inr (p2 l (sep l i nt).1 false (sep l i nt).2 (dO false L)))->i<=l.length->nt.length<=i->L.length+nt.length<=2 * i->
   AD l (M.yX s) (SQ l n L i nt)
 |0,_,_,_,_,_,_,_,_=>by rw[SQ];trivial
 |n+1,L,i,nt,s,hs,hi,hn,hL=>by
  have hq:=Oz (l:=l) (i:=i) (nt:=nt) hi;simp only[SQ];generalize hqe:sep l i nt=q at hs hq|-;rw[M.yX];cases h0:bC l q.1==0 with
  |true=>
   have e0:bC l q.1=0:=by rwa [beq_iff_eq] at h0
   have hge:¬q.1<l.length:=λh=>hk q.1 h e0
   refine⟨L,q.1,q.2,s, ?_,hs,rfl,aB,aB⟩;rcases hs with⟨rfl,rfl⟩|rfl<;>refine aO ?_<;>simp only[Em,M.qA,M.qy,p1,p2,Bool.not_false,aI,dh]<;>
    rw[Bq aB,bH]
  |false=>
   have hlt:q.1<l.length:=dX (by rwa [zbn] at h0);have hb:M.qA s=(M.kN (au l) (q.1:Int) false (encS [])).bind λr=>
     bif(((dO false (L++Dq q.2)).length+[[D.int .i64 r.1,D.int .i64 r.2.1,D.str r.2.2.1,D.str r.2.2.2.1,D.sl false 5 (ak r.2.2.2.2.2.1)]].length) * 72).ble 140737488355328 then
      (bif((dO false (L++Dq q.2)).length+[[D.int .i64 r.1,D.int .i64 r.2.1,D.str r.2.2.1,D.str r.2.2.2.1,D.sl false 5 (ak r.2.2.2.2.2.1)]].length).ble 140737488355328 then
      (bif ah r.2.2.2.2.2.2.2.2.2 then
       ((M.bQ r.2.2.2.2.2.2.1 r.2.2.2.2.2.2.2.1 r.2.2.2.2.2.2.2.2.1 r.2.2.2.2.2.2.2.2.2).bind λr'=>
       (some (.inl (.inr ((au l,0,0,r'.1,r'.2.1,r'.2.2.1,45,0,[],[],r'.2.2.2,dO false (L++Dq q.2)++[[D.int .i64 r.1,D.int .i64 r.2.1,D.str r.2.2.1,D.str r.2.2.2.1,D.sl false 5 (ak r.2.2.2.2.2.1)]]):P2))))) else none) else none) else none:=by
    have hc:=Bo (l:=l) (q.1:Int) false q.2 aB;have hlen:(L.length+q.2.length) * 72<=140737488355328:=aB;rcases hs with⟨rfl,rfl⟩|rfl
    ·simp only[Em,M.qA,M.qy,p1,Bool.not_false,aI,dh];rw[zdt aB,aI];simp only[aI,dR,aj,hc,iT,List.nil_append];rw[show(dO false (Dq q.2)).length=q.2.length by rw[dI,Bl],bK aB,aI,bK aB,aI]
    ·simp only[Em,M.qA,M.qy,p2,Bool.not_false,aI,dh];rw[zdt aB,aI];simp only[aI,dR,aj,hc,iT,<-zq];rw[show(dO false L).length+(dO false (Dq q.2)).length=L.length+q.2.length by rw[dI,dI,Bl],bK aB,aI,bK aB,aI]
   rw[bH];have hbad:∀{j:Nat},AT l (M.kN (au l) (q.1:Int) false (encS [])) (.bad j)->AD l (gV M.qA s) (.bad j):=by intro j hj;obtain⟨k,op,x,y,fl,ks,VI,h1,h2⟩:=hj;rw[h2,aj] at hb;simp only[dI,zT,Bl,y7,dR,aI,ajr,aj] at hb;rw[bK aB,aI,bK aB,aI] at hb;rw[bD hb];exact⟨_,VI,aO rfl,.inr ⟨_,rfl⟩⟩
   cases h31:bC l q.1==31 with
   |true=>
    have e31:bC l q.1=31:=by rwa [beq_iff_eq] at h31
    exact hbad (av2 hl e31 aB (Nat.zero_le _))
   |false=>
    rw[bH];have hr:=aAx hl n (i:=q.1) (nt:=[]) aB (Nat.zero_le _);have y5:=as8 (l:=l) (n:=n) (i:=q.1) (nt:=[]) aB;generalize Ux l n q.1 []=p at hr y5|-;cases p with
    |out=>trivial
    |bad j=>exact hbad hr
    |ok x j m'=>obtain⟨fl,kt,h1,h2⟩:=hr;have aAt:FS l q.1 ([]:iw).length x.size j m'.length:=y5;rw[zln] at aAt;rw[h2,aj] at hb;simp only[aeV h1,dI,zT,Bl,y7,dR,aI,alK hl j m' aB aB,aj] at hb;rw[bK aB,aI,bK aB,aI] at hb;rw[bD hb];refine alN hl hk n ((L++Dq q.2)++[x]) j m' _ (.inr rfl) aB aB ?_;simp only[zT,Bl,y7];omega
noncomputable def aCQ(rows:aA):Option (aA×Int×Int):=
 (M.tH 45 0 [] [] rows).bind λr=>bif !bif r.1==0 then bif r.2==0 then true else false else false then some ([],r.1,r.2) else
  (M.oH 45 0 [] [] rows).bind λr'=>bif[[D.sl true 5 r']].all wP then some (r',0,0) else none
def AE(l:List Tk)(o:Option (aA×Int×Int)):PR (List Tn)->Prop
 | .ok L _ _=>o=aCQ (dO false L)
 | .bad j=>o=(M.nV (au l) (j:Int)).bind λr=>some ([],3,r)
 | .out=>True
def aCR(hl:l.length<=1048576)(hk:∀i,i<l.length->bC l i≠0)(h0:M.tC (au l)=some (0,0))(n:Nat):AE l (M.jr (au l)) (SQ l n [] 0 []):=by
 have hloop:=alN hl hk n [] 0 [] (.inl (p1 l (sep l 0 []).1 false (sep l 0 []).2)) (.inl ⟨rfl,rfl⟩) (Nat.zero_le _) (zaN _) (zaN _);have hsep:=alK hl 0 [] (Nat.zero_le _) (zaN _);have aM3:M.bQ (au l) 0 false []=some (au l,((sep l 0 []).1:Int),false,encS (sep l 0 []).2):=hsep;simp only[M.jr,M.wL,h0,aj,show((0:Int)==0)=true from rfl,aI,zaM,bH,aM3];generalize sep l 0 []=q at hloop;rw[p1] at hloop;generalize SQ l n [] 0 []=p at hloop|-;cases p with
 |out=>trivial
 |bad j=>
  obtain⟨u,nt0,h1,h3⟩:=hloop;rw[h1,aj];show _=(M.nV (au l) (j:Int)).bind λr=>some ([],3,r)
  rcases h3 with rfl|⟨rows,rfl⟩
  ·simp only[p1,iD,aI]
  ·simp only[p2,iD,letE,aI]
 |ok L' j VI=>
  obtain⟨L0,i0,nt0,u,h1,h2,rfl,h4,h5⟩:=hloop;rw[h1,aj];show _=aCQ _;rcases h2 with⟨rfl,rfl⟩|rfl
  ·simp only[p1,iD,bH,dR,aI,aj,Bo (l:=l) _ _ nt0 aB,iT,dI,Bl];rw[bK aB,aI,bK aB,aI];rfl
  ·simp only[p2,iD,letE,bH,dR,aI,aj,Bo (l:=l) _ _ nt0 aB,iT,dI,Bl,<-zq];rw[bK aB,aI,bK aB,aI];rfl
def aAA(w:Bool)(t:Tn):kJ .i64 (t.row w) 0=some t.kind/\kJ .i64 (t.row w) 1=some t.op/\cStr (t.row w) 2=some t.text/\cStr (t.row w) 3=some t.other/\cSl 5 (t.row w) 4=some (dO w t.kids):=by rw[arJ];exact⟨rfl,rfl,rfl,rfl,rfl⟩
def alO{w:Bool}{ks:List Tn}{j:Nat}{t:Tn}(h:ks[j]? =some t):(dO w ks)[j]? =some (t.row w):=by rw[Uf,List.getElem?_map,h];rfl
def atl(w:Bool):∀(f:Nat) (t:Tn) (a b:Int) (c d:aP),t.size<=f->t.size<=1048576->M.kP f a b c d (dO w t.kids)=some (t.size:Int)
 |0,t,_,_,_,_,hf,_=>by have:=t.size_pos;omega
 |f+1,.mk k op x y ks,a,b,c,d,hf,hs=>by
  rw[Tn.size] at hf hs;have hkl:=zV ks;simp only[M.kP,M.Ed,Tn.kids,dI];have hloop:=og (b:=M.DI (M.kP f) (dO w ks) (ks.length:Int)) (t:=(((1+sizes ks:Nat):Int),(ks.length:Int))) (λj=>(((1+sizes (ks.take j):Nat):Int),(j:Int))) ks.length
   (by
    intro j hj;obtain⟨t,ht⟩:∃t,ks[j]? =some t:=⟨ks[j],by simp⟩
    have hst:=RG ht;obtain⟨r0,r1,r2,r3,r4⟩:=aAA w t;have hrec:=atl w f t t.kind t.op t.text t.other aB aB;simp only[Em,M.DI,M.yV,dM,alO ht,aj,r0,r1,r2,r3,r4,hrec];rw[zdt aB,aI,bT aB aB,bT aB aB,List.take_add_one,ht,Option.toList_some,sizes1];congr 3;omega)
   (by simp only[Em,M.DI,M.yV];rw[Bq aB,bH,List.take_length]) 0 (Nat.zero_le _)
  have Lp:M.GZ (M.kP f) (dO w ks) (ks.length:Int) (1,0)=_:=hloop;rw[Lp,aj,Tn.size,Nat.add_comm]
def dF:Nat->Tn->Int
 |0,_=>0
 |f+1,t=>mx 0 (t.kids.map (dF f))+1
def apX:∀f t,0<=dF f t/\dF f t<=f
 |0,t=>by simp[dF]
 |f+1,t=>by have:=aeS (f:Int) (t.kids.map (dF f)) 0 aB (λx hx=>by obtain⟨k,_,rfl⟩:=List.mem_map.1 hx;exact(apX f k).2);rw[dF];omega
def apY(w:Bool):∀(f:Nat) (t:Tn) (a b:Int) (c d:aP),t.size<=f->f<=1048576->M.jL f a b c d (dO w t.kids)=some (dF f t)
 |0,t,_,_,_,_,hf,_=>by have:=t.size_pos;omega
 |f+1,.mk k op x y ks,a,b,c,d,hf,hs=>by
  rw[Tn.size] at hf;have hkl:=zV ks;have hdr:=apX (f+1) (.mk k op x y ks);simp only[M.jL,M.CX,Tn.kids,dI];have hloop:=og (b:=M.CW (M.jL f) (dO w ks) (ks.length:Int)) (t:=(mx 0 (ks.map (dF f)),(ks.length:Int))) (λj=>(mx 0 ((ks.take j).map (dF f)),(j:Int))) ks.length
   (by
    intro j hj;obtain⟨t,ht⟩:∃t,ks[j]? =some t:=⟨ks[j],by simp⟩
    have hst:=RG ht;obtain⟨r0,r1,r2,r3,r4⟩:=aAA w t;have hrec:=apY w f t t.kind t.op t.text t.other aB aB;simp only[Em,M.CW,M.xY,dM,alO ht,aj,r0,r1,r2,r3,r4,hrec];rw[zdt aB,aI,bT aB aB,List.take_add_one,ht,Option.toList_some,List.map_append,zmc,List.map_nil,amL];rfl)
   (by simp only[Em,M.CW,M.xY];rw[Bq aB,bH,List.take_length]) 0 (Nat.zero_le _)
  have Lp:M.FI (M.jL f) (dO w ks) (ks.length:Int) (0,0)=_:=hloop;rw[Lp,aj];rw[dF] at hdr|-;simp only[Tn.kids] at hdr|-;rw[bT aB aB]
def apZ{l:List Nd}:∀(f:Nat) (t:Tn) (b:Nat),Lies l b t->dep l f (b+sizes t.kids)=dF f t
 |0,_,_,_=>rfl
 |f+1,.mk k op x y ks,b,h=>by
  rw[dep,dF];congr 2;rw[afC (Lies.root' h)];simp only[Tn.kids];refine List.ext_getElem? λj=> ?_
  rw[List.getElem?_map,List.getElem?_map]
  by_cases hj:j<ks.length
  ·obtain⟨t,ht⟩:∃t,ks[j]? =some t:=⟨ks[j],by simp⟩
   rw[aCc ht,ht];simp only[Hg,ztn];rw[apZ f t _ (Lies.aFd h ht)]
  ·have e:(Go.Vm.ends ks b).length=ks.length:=by rw[Go.Vm.Pn]
   rw[List.getElem?_eq_none aB,List.getElem?_eq_none aB];rfl
def aAB(t:Tn)(h:t.size<=400):Q7 (t.flat 0)=true:=by have hp:=t.size_pos;obtain⟨u,h1,h2⟩:=t.aij 0;rw[Q7,Hy,Om,t.flat_length,if_pos ⟨hp,h⟩,agn];simp only[h1];rw[List.getElem?_append_right aB,h2,Nat.sub_self];rfl
def asa{t:Tn}(hs:t.size<=1048576)(o w:Bool):∃k,M.zh (aV o (t.flat 0))=some (k,0)/\M.tH t.kind t.op t.text t.other (dO w t.kids)=some (k,0):=by
 have a1:=M.aeK (atl w t.size t t.kind t.op t.text t.other (zaN _) hs);have a2:=M.adG (apY w t.size t t.kind t.op t.text t.other (zaN _) hs);simp only[M.zh,M.Nh,M.tH,M.NC,gG,t.flat_length,a1,aj]
 by_cases h4:t.size<=400
 ·rw[Bq aB,bH,bH,ag1 _ o (by rw[t.flat_length];omega) (λn hn=>by have:=(QK t 0 n hn).1;omega),depth,aAB t h4,if_pos rfl,t.flat_length,a2,aj,aj];have hk:=t.aff;have e:=apZ t.size t 0 (Lies.whole t);rw[show 0+sizes t.kids=t.size - 1 by omega] at e;rw[e];cases decide (dF t.size t>40) with
  |true=>exact⟨4,rfl,rfl⟩
  |false=>exact⟨0,rfl,rfl⟩
 ·rw[zdt aB];exact⟨1,rfl,rfl⟩
def Zp(k:Int):Bool:=k==3||(k==4||(k==5||(k==6||(k==8||(k==33||(k==35||(k==51||(k==52||false))))))))
def alP(k:Int):M.aY k=some (Zp k)/\M.aZ k=some (Zp k):=by simp only[M.aY,M.E5,M.aZ,M.Fh,Zp];cases k==3<;>first|exact⟨rfl,rfl⟩|(cases k==4<;>first|exact⟨rfl,rfl⟩|(cases k==5<;>first|exact⟨rfl,rfl⟩|(cases k==6<;>first|exact⟨rfl,rfl⟩|(cases k==8<;>first|exact⟨rfl,rfl⟩|(cases k==33<;>first|exact⟨rfl,rfl⟩|(cases k==35<;>first|exact⟨rfl,rfl⟩|(cases k==51<;>first|exact⟨rfl,rfl⟩|(cases k==52<;>exact⟨rfl,rfl⟩))))))))
def gd(A k7 n32 k2 n1 k5 e k58 k41:Bool):Bool:=A &&((!k7||n32) &&((!k2||n1) &&((!k5|| !e) &&((!k58||e) &&(!k41||e)))))
def n32:List Tk->Bool
 |[]=>false
 |u::_=>u.kind==32
def n1(z:Bool):List Tk->Bool
 |[]=>true
 |u::_=>u.kind==1||(z && u.kind==0)
def gT(z:Bool)(b:Int)(t:Tk)(r:List Tk):Bool:=gd (NM t.kind t.text) (t.kind==7) (n32 r) (t.kind==2) (n1 z r) (t.kind==5) (Zp b) (t.kind==58) (t.kind==41)
def aeY(z:Bool):Int->List Tk->Bool
 |_,[]=>true
 |b,t::r=>gT z b t r && aeY z t.kind r
def aM4(s:aP):NM 0 s=false:=by
 cases s with
 |nil=>rfl
 |cons c s=>rfl
def aAC:∀(l:List Tk) (b:Int),aeY true b l=aeY false b l
 |[],_=>rfl
 |t::r,b=>by
  rw[aeY,aeY,aAC r];cases r with
  |nil=>rfl
  |cons u r=>
   cases h:u.kind==0 with
   |true=>
    have e:u.kind=0:=by rwa [beq_iff_eq] at h
    have:aeY false t.kind (u::r)=false:=by rw[aeY,gT,e,aM4];rfl
    rw[this,Bool.and_false,Bool.and_false]
   |false=>rw[gT,gT,n1,n1,h];rfl
section
variable {l:List Tk} (hl:l.length<=3000) (hf:∀t,t∈l->I64 t.kind/\t.text.length<=1048576)
include hl hf
theorem av3{i:Nat}{t:Tk}(ht:l[i]? =some t)(b:Int):M.Ad (au l) (b,(i:Int))=some (bif gT false b t (l.drop (i+1)) then .inl (t.kind,((i+1:Nat):Int)) else .inr (.inl ())):=by
 have hi:=(Vo.1 ht).1;have hft:=hf t (zmg ht);have hw:i64.wrap ((i:Int)+1)=((i+1:Nat):Int):=by rw[bT aB aB];omega
 have hT:=(ajh t.kind t.text t.at_ hft.2 hft.1).1;have hE:=(alP b).1;simp only[M.Ad,M.Ac,dh,hw];rw[zdt aB,aI]
 by_cases h2:i+1<l.length
 ·obtain⟨u,hu⟩:∃u,l[i+1]? =some u:=⟨l[i+1],by simp[h2]⟩
  have hd:l.drop (i+1)=u::l.drop (i+2):=by rw[List.drop_eq_getElem_cons h2];rw[List.getElem?_eq_getElem h2] at hu;rw[Option.some.inj hu]
  rw[hd,gT,n32,n1,zdt aB,aI];simp only[dM,fK,ht,hu,Hg,aj,VJ,cT1,cT2,hT,hE,bne,aI];cases NM t.kind t.text<;>cases t.kind==7<;>cases u.kind==32<;>cases t.kind==2<;>cases u.kind==1<;>cases t.kind==5<;>cases Zp b<;>cases t.kind==58<;>cases t.kind==41<;>rfl
 ·have hd:l.drop (i+1)=[]:=List.drop_of_length_le aB;rw[hd,gT,n32,n1,Bq aB,bH];simp only[dM,fK,ht,Hg,aj,VJ,cT1,cT2,hT,hE,bne,bH];cases NM t.kind t.text<;>cases t.kind==7<;>cases t.kind==2<;>cases t.kind==5<;>cases Zp b<;>cases t.kind==58<;>cases t.kind==41<;>rfl
theorem av4{i:Nat}{t:Tk}(ht:l[i]? =some t)(b:Int):M.Az (au l) (au l) (l.length:Int) (b,(i:Int))=some (bif gT true b t (l.drop (i+1)) then .inl (t.kind,((i+1:Nat):Int)) else .inr (.inl ())):=by
 have hi:=(Vo.1 ht).1;have hft:=hf t (zmg ht);have hw:i64.wrap ((i:Int)+1)=((i+1:Nat):Int):=by rw[bT aB aB];omega
 have hT:=(ajh t.kind t.text t.at_ hft.2 hft.1).2;have hE:=(alP b).2;simp only[M.Az,M.Aw,dh,hw];rw[zdt aB,aI];simp only[dM,fK,ht,Hg,aj,VJ,cT1,cT2]
 by_cases h2:i+1<l.length
 ·obtain⟨u,hu⟩:∃u,l[i+1]? =some u:=⟨l[i+1],by simp[h2]⟩
  have hd:l.drop (i+1)=u::l.drop (i+2):=by rw[List.drop_eq_getElem_cons h2];rw[List.getElem?_eq_getElem h2] at hu;rw[Option.some.inj hu]
  rw[hd,gT,n32,n1,zdt aB,aI];simp only[hu,Hg,aj,VJ,cT1,cT2,hT,hE,bne,aI,Bool.true_and];cases NM t.kind t.text<;>cases t.kind==7<;>cases u.kind==32<;>cases t.kind==2<;>cases u.kind==1<;>cases u.kind==0<;>cases t.kind==5<;>cases Zp b<;>cases t.kind==58<;>cases t.kind==41<;>rfl
 ·have hd:l.drop (i+1)=[]:=List.drop_of_length_le aB;rw[hd,gT,n32,n1,Bq aB,bH];simp only[hT,hE,aj,bne,bH];cases NM t.kind t.text<;>cases t.kind==7<;>cases t.kind==2<;>cases t.kind==5<;>cases Zp b<;>cases t.kind==58<;>cases t.kind==41<;>rfl
end
def afJ{l:List Tk}{z:Bool}{B:Int×Int->Option ((Int×Int)⊕(Unit⊕(Int×Int)))}(hb:∀(i:Nat) (t:Tk) (b:Int),l[i]? =some t->B (b,(i:Int))=some (bif gT z b t (l.drop (i+1)) then .inl (t.kind,((i+1:Nat):Int)) else .inr (.inl ())))
  (he:∀b,B (b,(l.length:Int))=some (.inr (.inr (b,(l.length:Int))))):∀(n i:Nat) (b:Int),l.length - i=n->i<=l.length->∃b',gV B (b,(i:Int))=some (bif aeY z b (l.drop i) then .inr (b',(l.length:Int)) else .inl ())
 |0,i,b,hn,hi=>by obtain rfl:i=l.length:=aB;rw[List.drop_length,aeY];exact⟨b,aO (he b)⟩
 |n+1,i,b,hn,hi=>by
  have h2:i<l.length:=aB;obtain⟨t,ht⟩:∃t,l[i]? =some t:=⟨l[i],by simp[h2]⟩
  have hd:l.drop i=t::l.drop (i+1):=by rw[List.drop_eq_getElem_cons h2];rw[List.getElem?_eq_getElem h2] at ht;rw[Option.some.inj ht]
  have h:=hb i t b ht;rw[hd,aeY];cases hg:gT z b t (l.drop (i+1)) with
  |false=>rw[hg,bH] at h;exact⟨0,aO h⟩
  |true=>rw[hg,aI] at h;obtain⟨b',h'⟩:=afJ hb he n (i+1) t.kind aB aB;exact⟨b',by rw[bD h,h',Bool.true_and]⟩
def Vl(l:List Tk):Bool:=decide (l.length<=3000) && aeY false 0 l
def ap0(l:List Tk)(hl:l.length<=1048576)(hf:∀t,t∈l->I64 t.kind/\t.text.length<=1048576):M.wV (au l)=some (Vl l)/\M.zD (au l)=some (Vl l):=by
 simp only[M.wV,M.Kw,M.zD,M.KJ,dh,Vl]
 by_cases h3:l.length<=3000
 ·rw[Bq aB,bH,bH,zdt h3,Bool.true_and];obtain⟨b1,h1⟩:=afJ (l:=l) (z:=false) (B:=M.Ad (au l)) (λi t b ht=>av3 h3 hf ht b) (λb=>by simp only[M.Ad,M.Ac,dh];rw[Bq aB,bH]) l.length 0 0 aB (Nat.zero_le _);obtain⟨b2,h2⟩:=afJ (l:=l) (z:=true) (B:=M.Az (au l) (au l) (l.length:Int)) (λi t b ht=>av4 h3 hf ht b) (λb=>by simp only[M.Az,M.Aw];rw[Bq aB,bH]) l.length 0 0 aB (Nat.zero_le _);rw[Zf,List.drop_zero] at h1 h2;rw[aAC] at h2;rw[M.I5,M.Jg,h1,h2];cases aeY false 0 l<;>exact⟨rfl,rfl⟩
 ·rw[zdt aB,aI,aI,Bq h3];exact⟨rfl,rfl⟩
def ajx{z:Bool}:∀(l:List Tk) (b:Int),aeY z b l=true->∀t,t∈l->NM t.kind t.text=true
 |[],_,_,t,h=>by cases h
 |u::r,b,h,t,ht=>by
  rw[aeY,Jw] at h;rcases List.mem_cons.1 ht with rfl|ht
  ·have:=h.1;rw[gT,gd,Jw] at this;exact this.1
  ·exact ajx r _ h.2 t ht
def asb{l:List Tk}(h:Vl l=true):∀i,i<l.length->bC l i≠0:=λi hi e=>by
 rw[Vl,Jw] at h;obtain⟨t,ht⟩:∃t,l[i]? =some t:=⟨l[i],by simp[hi]⟩
 have:=ajx l 0 h.2 t (zmg ht);rw[bC,ht] at e;have e':t.kind=0:=e;rw[e',aM4] at this;cases this
def aCS{l:List Tk}(h:Vl l=true):adJ l:=λi hs=>by
 rw[Vl,Jw] at h;have hk0:bC l i≠0:=λe=>by rw[e] at hs;cases hs
 have hi:=dX hk0;obtain⟨t,ht⟩:∃t,l[i]? =some t:=⟨l[i],by simp[hi]⟩
 have hok:=ajx l 0 h.2 t (zmg ht);have e1:bC l i=t.kind:=by rw[bC,ht]
 have e2:zK l i=t.text:=by rw[zK,ht]
 rw[e1] at hs|-;rw[e2];have hk:t.kind=62\/t.kind=53\/t.kind=64:=by rw[wO] at hs;simp only[Bool.or_eq_true,beq_iff_eq] at hs;exact hs
 have hr:I64 t.kind:=by rcases hk with e|e|e<;>rw[e]<;>exact⟨by decide,by decide⟩
 rw[(ajg t.kind hr).1];rw[NM] at hok;cases hn:t.text==[] with
 |true=>rw[hn] at hok;cases hok
 |false=>
  rw[hn,bH] at hok;have hsp:(t.text==spell t.kind)=true:=by rcases hk with e|e|e<;>rw[e] at hok|-<;>exact hok
  rw[beq_iff_eq] at hsp;rw[hsp]
def aha(k:Int):Bool:=k==32||(k==34||k==30)
def aj9(k:Int):Bool:=k==33||(k==35||k==31)
def aAD(k:Int):M.oZ k=some (aha k)/\M.yD k=some (aha k):=by simp only[M.oZ,M.HY,M.yD,M.Ns,aha];cases k==32<;>first|exact⟨rfl,rfl⟩|(cases k==34<;>exact⟨rfl,rfl⟩)
def aAE(k:Int):M.nJ k=some (aj9 k)/\M.yE k=some (aj9 k):=by simp only[M.nJ,M.FX,M.yE,M.Nu,aj9];cases k==33<;>first|exact⟨rfl,rfl⟩|(cases k==35<;>exact⟨rfl,rfl⟩)
def aAF{k:Int}(h:aha k=true):aj9 k=false:=by rw[aha] at h;simp only[Bool.or_eq_true,beq_iff_eq] at h;rcases h with e|e|e<;>rw[e]<;>rfl
def nst(d k:Int):Int:=bif aha k then d+1 else bif aj9 k then(bif decide (d - 1<0) then 0 else d - 1) else d
def alQ:Int->Nat->List Tk->Option Nat
 |_,_,[]=>none
 |d,i,t::r=>bif decide (nst d t.kind>40) then some i else alQ (nst d t.kind) (i+1) r
def aDx{d k:Int}(h:aha k=true):nst d k=d+1:=by rw[nst,h];rfl
def aDy{d k:Int}(h:aha k=false)(h2:aj9 k=true):nst d k=(bif decide (d - 1<0) then 0 else d - 1):=by rw[nst,h,h2];rfl
def aDz{d k:Int}(h:aha k=false)(h2:aj9 k=false):nst d k=d:=by rw[nst,h,h2];rfl
def av5{d k:Int}(h0:0<=d)(h1:d<=40):0<=nst d k/\nst d k<=41:=by
 rw[nst];cases aha k<;>cases aj9 k<;>simp only[aI,bH]
 ·omega
 ·cases h:decide (d - 1<0)<;>simp only[decide_eq_true_eq,decide_eq_false_iff_not] at h<;>simp only[aI,bH]<;>omega
 ·omega
 ·omega
section
variable {l:List Tk} (hl:l.length<=3000)
include hl
theorem av6{i:Nat}{t:Tk}(ht:l[i]? =some t){d:Int}(h0:0<=d)(h1:d<=40):M.DV (au l) (d,(i:Int))=some (bif decide (nst d t.kind>40) then .inr (.inl (i:Int)) else .inl (nst d t.kind,((i+1:Nat):Int))):=by
 have hi:=(Vo.1 ht).1;have hw:i64.wrap ((i:Int)+1)=((i+1:Nat):Int):=by rw[bT aB aB];omega
 have wa:i64.wrap (d+1)=d+1:=bT aB aB;have wb:i64.wrap (d - 1)=d - 1:=bT aB aB;have hm:(bif decide (0<d - 1) then d - 1 else 0)=(bif decide (d - 1<0) then 0 else d - 1):=by
  by_cases c:0<d - 1
  ·rw[zdt c,Bq aB];rfl
  ·by_cases c2:d - 1<0
   ·rw[Bq c,zdt c2];rfl
   ·rw[Bq c,Bq c2];show(0:Int)=d - 1;omega
 simp only[M.DV,M.DU,dh,hw,wa,wb,hm];rw[zdt aB,aI];simp only[dM,fK,ht,Hg,aj,VJ,(aAD t.kind).1,(aAE t.kind).1];cases ho:aha t.kind with
 |true=>rw[aDx ho,aAF ho];simp only[aI,bH];cases decide (d+1>40)<;>rfl
 |false=>
  cases hc:aj9 t.kind with
  |true=>rw[aDy ho hc];simp only[aI,bH];cases decide ((bif decide (d - 1<0) then 0 else d - 1)>40)<;>rfl
  |false=>rw[aDz ho hc];simp only[aI,bH];cases decide (d>40)<;>rfl
theorem av7{i:Nat}{t:Tk}(ht:l[i]? =some t){d:Int}(h0:0<=d)(h1:d<=40):M.Eb (au l) (l.length:Int) (d,(i:Int))=some (bif decide (nst d t.kind>40) then .inr (.inl (i:Int)) else .inl (nst d t.kind,((i+1:Nat):Int))):=by
 have hi:=(Vo.1 ht).1;have hw:i64.wrap ((i:Int)+1)=((i+1:Nat):Int):=by rw[bT aB aB];omega
 have wa:i64.wrap (d+1)=d+1:=bT aB aB;have wb:i64.wrap (d - 1)=d - 1:=bT aB aB;simp only[M.Eb,M.Ea,hw,wa,wb];rw[zdt aB,aI];simp only[dM,fK,ht,Hg,aj,VJ,cT1,cT2,(aAD t.kind).2,(aAE t.kind).2];cases ho:aha t.kind with
 |true=>rw[aDx ho];simp only[aI];cases decide (d+1>40)<;>rfl
 |false=>
  cases hc:aj9 t.kind with
  |true=>rw[aDy ho hc];simp only[aI,bH];cases decide ((bif decide (d - 1<0) then 0 else d - 1)>40)<;>rfl
  |false=>rw[aDz ho hc];simp only[aI,bH];cases decide (d>40)<;>rfl
end
def afK{l:List Tk}{B:Int×Int->Option ((Int×Int)⊕(Int⊕(Int×Int)))}(hb:∀(i:Nat) (t:Tk) (d:Int),l[i]? =some t->0<=d->d<=40->B (d,(i:Int))=some (bif decide (nst d t.kind>40) then .inr (.inl (i:Int)) else .inl (nst d t.kind,((i+1:Nat):Int))))
  (he:∀d,B (d,(l.length:Int))=some (.inr (.inr (d,(l.length:Int))))):∀(n i:Nat) (d:Int),l.length - i=n->i<=l.length->0<=d->d<=40->∃d',gV B (d,(i:Int))=some (match alQ d i (l.drop i) with|some p=> .inl (p:Int)|none=> .inr (d',(l.length:Int)))
 |0,i,d,hn,hi,_,_=>by obtain rfl:i=l.length:=aB;rw[List.drop_length,alQ];exact⟨d,aO (he d)⟩
 |n+1,i,d,hn,hi,h0,h1=>by
  have h2:i<l.length:=aB;obtain⟨t,ht⟩:∃t,l[i]? =some t:=⟨l[i],by simp[h2]⟩
  have hd:l.drop i=t::l.drop (i+1):=by rw[List.drop_eq_getElem_cons h2];rw[List.getElem?_eq_getElem h2] at ht;rw[Option.some.inj ht]
  have h:=hb i t d ht h0 h1;have hr:=av5 (k:=t.kind) h0 h1;rw[hd,alQ]
  by_cases hg:nst d t.kind>40
  ·rw[zdt hg,aI] at h|-;exact⟨0,aO h⟩
  ·rw[Bq hg,bH] at h|-;obtain⟨d',h'⟩:=afK hb he n (i+1) (nst d t.kind) aB aB hr.1 aB;exact⟨d',by rw[bD h,h']⟩
def afL(l:List Tk):Int:=match alQ 0 0 l with
 |some p=>p
 |none=> -1
def av8(l:List Tk)(hl:l.length<=3000):M.BQ (au l)=some (afL l)/\M.EC (au l)=some (afL l):=by obtain⟨b1,h1⟩:=afK (l:=l) (B:=M.DV (au l)) (λi t d ht h0 h1=>av6 hl ht h0 h1) (λb=>by simp only[M.DV,M.DU,dh];rw[Bq aB,bH]) l.length 0 0 aB (Nat.zero_le _) (by decide) (by decide);obtain⟨b2,h2⟩:=afK (l:=l) (B:=M.Eb (au l) (l.length:Int)) (λi t d ht h0 h1=>av7 hl ht h0 h1) (λb=>by simp only[M.Eb,M.Ea];rw[Bq aB,bH]) l.length 0 0 aB (Nat.zero_le _) (by decide) (by decide);rw[Zf,List.drop_zero] at h1 h2;simp only[M.BQ,M.OT,M.EC,M.O4,dh];rw[M.MF,M.Nv,h1,h2,afL];cases alQ 0 0 l<;>exact⟨rfl,rfl⟩
def ap1(l:List Tk)(hl:l.length<=3000)(j:Nat):∃p,M.nV (au l) (j:Int)=some p/\∀k,M.qI (au l) (j:Int) k=some (k,p):=by
 simp only[M.nV,M.Nw,M.qI,M.Ky,dh]
 by_cases h:j<l.length
 ·obtain⟨t,ht⟩:∃t,l[j]? =some t:=⟨l[j],by simp[h]⟩
  rw[zdt aB,aI];simp only[aI,dM,fK,ht,Hg,aj,cT2];exact⟨_,rfl,λ_=>rfl⟩
 ·rw[Bq aB,bH];simp only[bH];cases l with
  |nil=>exact⟨0,rfl,λ_=>rfl⟩
  |cons t0 l0=>
   have e:(((t0::l0).length:Int)==0)=false:=by rw[zbn,zlc];omega
   have hw:i64.wrap (((t0::l0).length:Int) - 1)=(l0.length:Int):=by rw[bT aB aB,zlc];omega
   obtain⟨t,ht⟩:∃t,(t0::l0)[l0.length]? =some t:=⟨(t0::l0)[l0.length],by simp⟩
   rw[e,hw];simp only[bH,dM,fK,ht,Hg,aj,VJ,cT1,cT2];exact⟨_,rfl,λ_=>rfl⟩
def ana(k:Int)(l:List Nd)(h0:0<=k)(h1:k+wK l<=900000000):M.tJ (ak (aV true (nZ k l))) k=some (k+wK l):=by
 simp only[M.tJ,M.Jq,aS];have hwl:=arK l;have hloop:=og (b:=M.DK (aV false (nZ k l))) (t:=.inr (k+wK l,(l.length:Int))) (λi=>(k+wK (l.take i),(i:Int))) l.length
  (by
   intro i hi;obtain⟨n,hn⟩:∃n,l[i]? =some n:=⟨l[i],by simp[hi]⟩
   have hw:=ajn hn;have hg:=apG k hn;generalize hK:k+(wK (l.take i):Int)=K at hg|-;have w1:i64.wrap (K+1)=K+1:=bT aB aB;have w2:i64.wrap (K+1+1)=K+2:=(bT aB aB).trans aB;have w3:i64.wrap (K+2+1)=K+3:=(bT aB aB).trans aB;have w4:i64.wrap (K+3+1)=K+4:=(bT aB aB).trans aB;have hm:=apE (K+4) n.kids.length aB aB aB;have d1:decide (K+4+(n.kids.length:Int)<0)=false:=Bq aB;have hlen:decide ((i:Int)<((aV false (nZ k l)).length:Int))=true:=zdt (by rw[gG,Iz];omega);have hr:idx (aV false (nZ k l)) (i:Int)=some [D.int .i64 K,.int .i64 (K+1),.str (mk (K+2)),.str (mk (K+3)),.sl false 1 (encI (Eh (K+4) n.kids.length))]:=by rw[dM,zM,hg];rfl
   have c0:kJ .i64 [D.int .i64 K,.int .i64 (K+1),.str (mk (K+2)),.str (mk (K+3)),.sl false 1 (encI (Eh (K+4) n.kids.length))] 0=some K:=rfl;have c1:kJ .i64 [D.int .i64 K,.int .i64 (K+1),.str (mk (K+2)),.str (mk (K+3)),.sl false 1 (encI (Eh (K+4) n.kids.length))] 1=some (K+1):=rfl;have c2:cStr [D.int .i64 K,.int .i64 (K+1),.str (mk (K+2)),.str (mk (K+3)),.sl false 1 (encI (Eh (K+4) n.kids.length))] 2=some (mk (K+2)):=rfl;have c3:cStr [D.int .i64 K,.int .i64 (K+1),.str (mk (K+2)),.str (mk (K+3)),.sl false 1 (encI (Eh (K+4) n.kids.length))] 3=some (mk (K+3)):=rfl;have c4:cSl 1 [D.int .i64 K,.int .i64 (K+1),.str (mk (K+2)),.str (mk (K+3)),.sl false 1 (encI (Eh (K+4) n.kids.length))] 4=some (encI (Eh (K+4) n.kids.length)):=rfl;simp only[M.DK,M.yZ,hlen,aI,bH,hr,aj,c0,c1,c2,c3,c4,w1,w2,w3,w4,bne_self_eq_false,PU (K+2) aB,PU (K+3) aB,beq_self_eq_true,zaM,hm,d1];rw[bT aB aB,as4 hn];congr 3;omega)
  (by have hlen:decide ((l.length:Int)<((aV false (nZ k l)).length:Int))=false:=Bq (by rw[gG,Iz];omega);simp only[M.DK,M.yZ,List.take_length,hlen,bH]) 0 (Nat.zero_le _)
 have e1:k+(wK (l.take 0):Int)=k:=by simp[wK]
 rw[e1,Zf] at hloop;rw[M.He,hloop,aj];rfl
def wTs:List Tk->Nat
 |[]=>0
 |n::l=>n.text.length+wTs l
def asc(n:Tk)(L:Int)(h0:0<=L)(h1:L<=1048576)(ht:n.text.length<=maxLen):M.BN n.kind n.text n.at_ L=some (if(n.text.length:Int)<=L then L - n.text.length else -1):=by
 unfold maxLen at ht;simp only[M.BN,M.L6];rw[bT aB aB]
 by_cases h:(n.text.length:Int)<=L
 ·rw[Bq aB,if_pos h];rfl
 ·rw[zdt aB,if_neg h];rfl
def av9(l:List Tk)(len:Nat):∀w:Int,0<=w->aif (fun(w:Int) (n:Tk)=>(if(n.text.length:Int)<=w then .inl (w - n.text.length) else .inr (.inl ()):Int⊕(Unit⊕(Int×Int)))) (λw=> .inr (w,(len:Int))) l w=
  if(wTs l:Int)<=w then .inr (w - wTs l,(len:Int)) else .inl ():=by
 induction l with
 |nil=>intro w h;simp[aif,wTs,h]
 |cons n l ih=>
  intro w h;have hw:wTs (n::l)=n.text.length+wTs l:=rfl;simp only[aif]
  by_cases c:(n.text.length:Int)<=w
  ·rw[if_pos c];simp only;rw[ih (w - n.text.length) aB]
   by_cases c2:(wTs l:Int)<=w - n.text.length
   ·rw[if_pos c2,if_pos aB];congr 2;omega
   ·rw[if_neg c2,if_neg aB]
  ·rw[if_neg c,if_neg aB]
def ap2(l:List Tk)(L:Int)(h0:0<=L)(h1:L<=1048576)(hl:l.length<=maxLen)(hf:∀n,n∈l->aw9 n):
  M.zx (au l) L=some (if(l.length+wTs l:Int)<=L then L - l.length - wTs l else -1):=by
 unfold maxLen at hl;simp only[M.zx,M.Ko,dh];rw[bT aB aB]
 by_cases c:(l.length:Int)<=L
 ·rw[Bq aB,bH];have hloop:=aqD (M.EX (au l)) l (λi (w:Int)=>(w,(i:Int)))
   (fun(w:Int) (n:Tk)=>(if(n.text.length:Int)<=w then .inl (w - n.text.length) else .inr (.inl ()):Int⊕(Unit⊕(Int×Int)))) (λw=> .inr (w,(l.length:Int))) (λ_ w=>0<=w/\w<=1048576)
   (by
    intro i n w hi hw;have hlt:=(Vo.1 hi).1;have hfn:=hf n (zmg hi);simp only[M.EX,M.zY,dh,dM,fK,hi,Hg,aj,VJ,cT1,cT2];rw[zdt aB,aI,asc n w hw.1 hw.2 hfn.text,aj]
    by_cases c2:(n.text.length:Int)<=w
    ·rw[if_pos c2,Bq aB,bH,if_pos c2,bT aB aB];simp
    ·rw[if_neg c2,zdt aB,aI,if_neg c2])
   (by
    intro i n w w' hi hw he
    by_cases c2:(n.text.length:Int)<=w
    ·simp only[c2,if_true,Sum.inl.injEq] at he;omega
    ·simp[c2] at he)
   (by intro w hw;simp only[M.EX,M.zY,dh];rw[Bq aB,bH])
   (L - l.length) aB
  simp only[Zf] at hloop;rw[M.IU,hloop,aj,av9 l l.length _ aB]
  by_cases c2:(wTs l:Int)<=L - l.length
  ·rw[if_pos c2,if_pos aB];rfl
  ·rw[if_neg c2,if_neg aB];rfl
 ·rw[zdt aB,aI,if_neg aB]
def ap3(l:List Tk)(hl:l.length<=1048576):M.qG (au l)=some (au l):=by
 simp only[M.qG,M.Kq,dh];rw[zdt aB,zdt aB,zdt aB,zdt aB];simp only[Bool.and_true,aI,ztn];have hloop:=og (b:=M.EY (au l)) (t:=((l.length:Int),au l)) (λi=>((i:Int),filled Vx [D.int IntKind.i64 0,D.str [],D.int IntKind.i64 0] l i)) l.length
  (by
   intro i hi;obtain⟨x,hx⟩:∃x,l[i]? =some x:=⟨l[i],by simp[hi]⟩
   simp only[M.EY,M.zZ,M.EN,M.L8,dh,dM,fK,hx,Hg,aj,VJ,cT1,cT2,ztn,arG _ _ l hi,aI];rw[zdt aB,aI,bT aB aB];have hs:splice [D.int IntKind.i64 0,D.str [],D.int IntKind.i64 0] 0 [D.int IntKind.i64 x.kind,D.str x.text,D.int IntKind.i64 x.at_]=Vx x:=rfl;rw[hs,arH Vx _ l hx];simp)
  (by simp only[M.EY,M.zZ,dh];rw[Bq aB,bH,arF];rfl) 0 (Nat.zero_le _)
 rw[M.IV];simp only[apv,Zf] at hloop;rw[hloop,aj,aW];rfl
def akb(l:List Tk)(hl:l.length<=maxLen):M.zG (au l) (au l)=some true:=by
 unfold maxLen at hl;simp only[M.zG,M.KP,dh,bne_self_eq_false,bH];have hloop:=og (b:=M.FK (au l) (au l)) (t:=.inr ((l.length:Int))) (λi=>(i:Int)) l.length
  (by
   intro i hi;obtain⟨x,hx⟩:∃x,l[i]? =some x:=⟨l[i],by simp[hi]⟩
   simp only[M.FK,M.Ba,M.EW,M.NI,dh,dM,fK,hx,Hg,aj,VJ,cT1,cT2,bne_self_eq_false,beq_self_eq_true,zaM,bH];rw[zdt aB,aI,bT aB aB];simp)
  (by simp only[M.FK,M.Ba,dh];rw[Bq aB,bH]) 0 (Nat.zero_le _)
 rw[Zf] at hloop;rw[M.Jl,hloop,aj];rfl
def akc(k:Int)(l:List Tk)(h0:0<=k)(h1:k<=1000000000)(hl:l.length<=1000000000):∃l',M.uS k (au l)=some (k+3 * l.length,au l'):=by
 simp only[M.uS,M.G8];have key:∀(d i:Nat) (m:List Tk),m.length=l.length->i+d=l.length->∃m':List Tk,M.wM (k+3 * i,(i:Int),au m)=some (k+3 * l.length,(l.length:Int),au m'):=by
  intro d;induction d with
  |zero=>intro i m hm hi;refine⟨m, ?_⟩;rw[M.wM];apply aO;simp only[M.Iy,M.xZ,dh];rw[Bq aB,bH];have:i=l.length:=aB;subst this;rfl
  |succ d ih=>
   intro i m hm hi;obtain⟨x,hx⟩:∃x,m[i]? =some x:=⟨m[i]'aB,by simp⟩
   obtain⟨s,hs⟩:∃s,M.jJ (k+3 * i+1)=some s:=⟨_,PU (k+3 * i+1) aB⟩
   obtain⟨m',hm'⟩:=ih (i+1) (m.set i ⟨k+3 * i,s,k+3 * i+1+1⟩) (by simpa using hm) aB;refine⟨m', ?_⟩;rw[M.wM] at hm'|-;rw[bD (s':=(k+3 * ((i+1:Nat):Int),((i+1:Nat):Int),au (m.set i ⟨k+3 * i,s,k+3 * i+1+1⟩))) ?_]
   ·exact hm'
   ·have hil:i<m.length:=aB;have g1:∀(r:Row),((au m).set i r)[i]? =some r:=λr=>by simp[hil]
    have g2:∀(r r':Row),(((au m).set i r).set i r')[i]? =some r':=λr r'=>by simp[hil]
    simp only[M.Iy,M.xZ,dh,dM,fK,hx,Hg,aj,ztn,g1,g2];rw[zdt aB,aI,bT (n:=k+3 * i+1) aB aB,hs,aj,bT (n:=k+3 * i+1+1) aB aB,bT (n:=k+3 * i+1+1+1) aB aB,bT (n:=(i:Int)+1) aB aB];have e:((au m).set i (splice (Vx x) 0 [D.int IntKind.i64 (k+3 * i)])).set i (splice (splice (Vx x) 0 [D.int IntKind.i64 (k+3 * i)]) 1 [D.str s])=(au m).set i (splice (splice (Vx x) 0 [D.int IntKind.i64 (k+3 * i)]) 1 [D.str s]):=by simp
    have e2:au (m.set i ⟨k+3 * i,s,k+3 * i+1+1⟩)=(au m).set i (Vx ⟨k+3 * i,s,k+3 * i+1+1⟩):=by simp[au,List.map_set]
    rw[e2];simp only[List.set_set];congr 3;omega
 obtain⟨l',h⟩:=key l.length 0 l rfl aB;simp only[Zf] at h;rw[show k+3 * 0=k by omega] at h;exact⟨l',by rw[h,aj]⟩
def atm:∀{l:List Tk} {n:Tk},n∈l->n.text.length<=wTs l
 |[],_,h=>by cases h
 |m::l,n,h=>by
  have hw:wTs (m::l)=m.text.length+wTs l:=rfl;rcases List.mem_cons.1 h with rfl|h
  ·omega
  ·have:=atm h;omega
def aDA{m:Nat}:∀l:List Nd,(∀n,n∈l->n.kids.length<=m)->wK l<=l.length * (4+m)
 |[],_=>by simp[wK]
 |n::l,h=>by
  have h1:=aDA l λx hx=>h x (zmm _ hx)
  have h2:=h n List.mem_cons_self;rw[wK,zlc,Nat.succ_mul];omega
def ajy(l:List Tk)(hl:l.length<=1048576)(hf:∀t,t∈l->I64 t.kind/\t.text.length<=1048576):
  ∃fl q k p,M.lN (au l)=some (fl,aV false q,k,p)/\M.jr (au l)=some (aV true q,k,p)/\q.length<=18001/\(∀n,n∈q->n.kids.length<=18001):=by
 have hT:=ap0 l hl hf;have e0:∀o,aV o []=[]:=λ_=>rfl
 cases ht:Vl l with
 |false=>
  rw[ht] at hT;refine⟨true,[],2,0, ?_, ?_,by simp,by simp⟩
  ·simp only[M.lN,M.wu,hT.1,aj];rfl
  ·simp only[M.jr,M.wL,M.tC,M.Ec,hT.2,aj];rfl
 |true=>
  rw[ht] at hT;have h3:l.length<=3000:=by rw[Vl,Jw,decide_eq_true_eq] at ht;exact ht.1
  have hN:=av8 l h3
  by_cases hn:afL l<0
  ·have hc:M.tC (au l)=some (0,0):=by simp only[M.tC,M.Ec,hT.2,hN.2,aj,zaM,bH];rw[Bq aB,bH]
   have hi:=aCR aB (asb ht) hc (60 * (l.length - 0)+52);have hs:=aCP h3 (aCS ht) hT.1 hN.1 hn (60 * (l.length - 0)+52);have hto:=apJ (l:=l) (60 * (l.length - 0)+52) [] 0 [] (zaN _);generalize SQ l (60 * (l.length - 0)+52) [] 0 []=p at hi hs hto;cases p with
   |out=>exact hto.elim
   |bad j=>
    obtain⟨hj,hs⟩:=hs;have hi:M.jr (au l)=(M.nV (au l) (j:Int)).bind λr=>some ([],3,r):=hi
    obtain⟨p,p1,p2⟩:=ap1 l h3 j;refine⟨true,[],3,p, ?_, ?_,by simp,by simp⟩
    ·rw[hs,p2,aj];rfl
    ·rw[hi,p1,aj];rfl
   |ok L j nt=>
    obtain⟨hs,hsz⟩:=hs;have hi:M.jr (au l)=aCQ (dO false L):=hi;have hts:(Tn.mk 45 0 [] [] L).size=sizes L+1:=rfl;obtain⟨k,b1,b2⟩:=asa (t:=.mk 45 0 [] [] L) aB false false;have b2':M.tH 45 0 [] [] (dO false L)=some (k,0):=b2;rw[hs,hi,aM2,aCQ,b1,b2',aj,aj];cases hk:k==0 with
    |false=>
     refine⟨true,[],k,0, ?_, ?_,by simp,by simp⟩
     ·simp only[bne,hk,Bool.not_false,aI];rfl
     ·simp only[hk,bH,Bool.not_false,aI];rfl
    |true=>
     have hli:M.oH 45 0 [] [] (dO false L)=some (aV true ((Tn.mk 45 0 [] [] L).flat 0)):=aCd (t:=.mk 45 0 [] [] L) aB;refine⟨false,(Tn.mk 45 0 [] [] L).flat 0,k,0, ?_, ?_,by rw[Tn.flat_length];omega,λn hn=>by have:=(QK _ 0 n hn).1;omega⟩
     ·simp only[bne,hk,zaM,bH]
     ·have ek:k=0:=by rwa [beq_iff_eq] at hk
      subst ek;simp only[hk,aI,zaM,bH,hli,aj,avN]
  ·obtain⟨j,hj⟩:∃j:Nat,afL l=j:=⟨(afL l).toNat,aB⟩
   obtain⟨p,p1,p2⟩:=ap1 l h3 j;refine⟨true,[],4,p, ?_, ?_,by simp,by simp⟩
   ·simp only[M.lN,M.wu,hT.1,hN.1,aj,zaM,bH];rw[zdt aB,aI,hj,p2,aj];rfl
   ·simp only[M.jr,M.wL,M.tC,M.Ec,hT.2,hN.2,aj,zaM,bH];rw[zdt aB,aI,hj,p1,aj,aj];rfl
def aCT(l:List Nd)(k p:Int):[[D.sl true 5 (aV true l)],[D.int .i64 k,D.int .i64 p]].all wP=true:=by simp[wP,D.pure,adH]
def anb(k p:Int):M.xq k p k p=some true:=by simp only[M.xq,M.NH,bne_self_eq_false,bH]
def ahb(l:List Tk)(hl:l.length<=maxLen)(hf:∀n,n∈l->aw9 n):M.lS (au l)=some true:=by
 simp only[M.lS,M.vk];rw[ap2 l 1048576 aB aB hl hf,aj]
 by_cases hs:(l.length+wTs l:Int)<=1048576
 ·rw[if_pos hs,Bq aB,bH];have hft:∀t,t∈l->I64 t.kind/\t.text.length<=1048576:=λt ht=>⟨(hf t ht).kind,by have:=atm ht;omega⟩
  obtain⟨fl,q,k,p,h1,h2,h3,h4⟩:=ajy l aB hft;have a1:=ap3 l aB;obtain⟨l',a2⟩:=akc 1 l aB aB aB;have a3:=akb l hl;have a4:=amI q false false (by unfold maxLen;omega) (λn hn=>by have:=h4 n hn;unfold maxLen;omega);have hw:=aDA q h4;have hw2:q.length * (4+18001)<=18001 * 18005:=Nat.mul_le_mul h3 (zaN _);have a5:=amM 1 q aB aB;have a6:=ana 1 q aB aB;rw[aS] at a6;have d1:decide ((1:Int)+3 * (l.length:Int)<0)=false:=Bq aB;have d2:decide ((1:Int)+(wK q:Int)<0)=false:=Bq aB;simp only[a1,h1,h2,aCT,aI,aS,a4,anb,a3,a2,a5,a6,aj,zaM,bH,d1,d2,bne_self_eq_false]
 ·rw[if_neg hs];rfl
end Go.Proofs.YtoaeipkhadpbiaaGreatDoor
namespace Go.Proofs
open Go.Shelf
open Go.IntKind (i64)
def Tryz.lays144_ren:Go.Shelf.Ren:=⟨fun|144=>162|143=>206|219=>226|217=>218|225=>235|224=>236|267=>237|266=>232|314=>252|n=>n,fun|9=>9|4=>4|3=>3|5=>5|46=>156|146=>160|51=>159|n=>n,fun|1=>3|n=>n⟩
def Tryz.lays144:Go.Proofs.Lays.n144 Tryz.prog Tryz.lays144_ren:={
 mixed:=by kernel_rfl
 f143:=Tryz.func206.trans (congrArg some (by kernel_rfl))
 f144:=Tryz.func162.trans (congrArg some (by kernel_rfl))
 f217:=Tryz.func218.trans (congrArg some (by kernel_rfl))
 f219:=Tryz.func226.trans (congrArg some (by kernel_rfl))
 f224:=Tryz.func236.trans (congrArg some (by kernel_rfl))
 f225:=Tryz.func235.trans (congrArg some (by kernel_rfl))
 f266:=Tryz.func232.trans (congrArg some (by kernel_rfl))
 f267:=Tryz.func237.trans (congrArg some (by kernel_rfl))
 f314:=Tryz.func252.trans (congrArg some (by kernel_rfl))
 t3:=Tryz.underlying3
 a3:=Tryz.isAgg3
 z3:=Tryz.sizeOf3
 v3:=Tryz.zeroValue3
 t4:=Tryz.underlying4
 a4:=Tryz.isAgg4
 z4:=Tryz.sizeOf4
 v4:=Tryz.zeroValue4
 t5:=Tryz.underlying5
 a5:=Tryz.isAgg5
 z5:=Tryz.sizeOf5
 v5:=Tryz.zeroValue5
 t9:=Tryz.underlying9
 a9:=Tryz.isAgg9
 z9:=Tryz.sizeOf9
 v9:=Tryz.zeroValue9
 t46:=Tryz.underlying156
 a46:=Tryz.isAgg156
 z46:=Tryz.sizeOf156
 v46:=Tryz.zeroValue156
 t51:=Tryz.underlying159
 a51:=Tryz.isAgg159
 z51:=Tryz.sizeOf159
 v51:=Tryz.zeroValue159
 t146:=Tryz.underlying160
 a146:=Tryz.isAgg160
 z146:=Tryz.sizeOf160
 v146:=Tryz.zeroValue160
 g1:=by kernel_rfl}
open Go.RowKit Go.Lib in
open Go.IntKind (i64)
def Tryz.strings_Contains_one(s:ByteArray)(c:UInt8)(w:World):
  Calls Tryz.prog 162 #[.string s,.string ⟨#[c]⟩] w λe w'=>e=.returned (.bool (decide (0<=Lib.indexByte s.data.toList c)))/\w'=w:=Any.strings_Contains_one Tryz.lays144 s c w
end Go.Proofs
namespace Go.Proofs.YtoaeipkhadpbiaaGreatDoor
set_option linter.unusedVariables false
set_option linter.unusedSimpArgs false
open Go Go.Vm
open Go.IntKind (i64)
def ahc{X:Ctx}(hP:X.P=Tryz.prog)(hm:∀i,i<2->KX X.NR 162 i=0)(fn:Func)(args:List V)(cells:List Cell)(rows:aA)(outs:List Cell)(hf:X.P.funcs[162]? =some fn)(h:Prim.strings_Contains args cells=some (rows,outs))
  (base:Nat) (U:Nat->Prop) (w:World) (gargs nP:List Value) (N1 N2:List Nat) (hG:Given X base U w 162 args cells gargs nP N1 N2):
  Calls X.P 162 gargs.toArray w λe w'=>∃gs M1 M2,e=.returned (ahX gs)/\Did X.P U w w' (N1++N2) fn.resultTypes.toList cells outs nP rows gs M1 M2:=by
 unfold Prim.strings_Contains at h;split at h
 ·rename_i s t;unfold M.strings_Contains at h;split at h
  ·rename_i c;cases h;obtain⟨rfl,rfl,rfl,hs⟩:=axa hG hm;rw[aqE hs];rw[hP] at hf|-;have hfn:fn.resultTypes.toList=[4]:=by rw[Tryz.func162] at hf;cases hf;rfl
   refine(Tryz.strings_Contains_one ⟨⟨s⟩⟩ c w).mono ?_;rintro e w' ⟨rfl,rfl⟩;rw[hfn];exact⟨[_],[],[],rfl,aqF (by kernel_rfl) (λ_ _=>⟨rfl,rfl⟩) (Keep.refl _ _)⟩
  ·cases h
 ·cases h
end Go.Proofs.YtoaeipkhadpbiaaGreatDoor
namespace Go.Proofs.YtoaeipkhadpbiaaGreatDoor
set_option linter.unusedVariables false
set_option linter.unusedSimpArgs false
open Go Go.Vm Go.RowKit
open Go.IntKind (i64)
def aAG{x:Int}(h:(Lit.int .i64 x).wf=true):I64 x:=bounds_i64 h
set_option maxRecDepth 100000 in
def ap4{n:Nat}{row:Row}(h:tyD Tryz.prog (n+2) 42 row):∃x:Tk,row=Vx x/\aw9 x:=by have h:=aqG Tryz.underlying42 h;obtain⟨_,_,rfl,h1,h⟩:=afh h;obtain⟨_,_,rfl,h2,h⟩:=afh h;obtain⟨_,_,rfl,h3,h⟩:=afh h;obtain rfl:=axc h;obtain⟨a,rfl,wa⟩:=asI Tryz.underlying3 h1;obtain⟨b,rfl,wb⟩:=aBe Tryz.underlying9 h2;obtain⟨c,rfl,wc⟩:=asI Tryz.underlying3 h3;exact⟨⟨a,b,c⟩,rfl,⟨aAG wa,wb,aAG wc⟩⟩
set_option maxRecDepth 100000 in
def anc{n:Nat}{row:Row}(h:tyD Tryz.prog (n+3) 22 row):∃l:List Tk,row=[.sl false 3 (au l)]/\l.length<=maxLen/\∀x,x∈l->aw9 x:=by obtain⟨rows,rfl,hl,hr⟩:=aD0 Tryz.underlying22 h;obtain⟨l,rfl,hk⟩:=anN (f:=Vx) (p:=aw9) (λr hr'=>ap4 (hr r hr'));exact⟨l,rfl,by simpa using hl,hk⟩
def aF0:al8 X0:=by
 intro f p fn args cells rows outs hx hf hb h base U w gargs nP N1 N2 hG;have hx':(bif Nat.beq f 162 then some Prim.strings_Contains else none)=some p:=hx;cases hq:Nat.beq f 162 with
 |true=>rw[hq] at hx';cases hx';have e:=Bv hq;subst e;exact ahc rfl (by decide) fn args cells rows outs hf h base U w gargs nP N1 N2 hG
 |false=>rw[hq] at hx';cases hx'
def own:ownKnob Tryz.prog.godebug=none:=by kernel_rfl
def laidOut:laidOutB Tryz.prog=true:=by kernel_rfl
def gK : Tryz.prog.globalNamed "loop.example/g01543/impl.keywords" = some 1 := by kernel_rfl
def gS : Tryz.prog.globalNamed "loop.example/g01543/impl.signs" = some 2 := by kernel_rfl
def gB : Tryz.prog.globalNamed "loop.example/g01543/impl.builtins" = some 0 := by kernel_rfl
def tK:(Tryz.prog.globals[1]?).map (·.type)=some 143:=by kernel_rfl
def tS:(Tryz.prog.globals[2]?).map (·.type)=some 144:=by kernel_rfl
def tB:(Tryz.prog.globals[0]?).map (·.type)=some 142:=by kernel_rfl
def c9:Tryz.prog.cellsOf 9=1:=by kernel_rfl
def dK:(Rows.laid_loop_example_g01543_impl_keywords:DataW Unit)=.agg (Z4.map λs=> .lit (.string s)):=by kernel_rfl
def dS:(Rows.laid_loop_example_g01543_impl_signs:DataW Unit)=.agg (apq.map λs=> .lit (.string s)):=by kernel_rfl
def dB:(Rows.laid_loop_example_g01543_impl_builtins:DataW Unit)=.agg (apr.map λs=> .lit (.string s)):=by kernel_rfl
def rK:En=Z4.map D.str:=by kernel_rfl
def rS:Ug=apq.map D.str:=by kernel_rfl
def rB:LG=apr.map D.str:=by kernel_rfl
def aAH{W:World}(hL:laidMetH Tryz.prog Rows.fnExactParseTokensRow.laid W)(hS:W.ShapedOpen Tryz.prog):afQ X0 (full W):=by
 rw[MakeChecks.laidMetH_plain _ _ _ (by kernel_rfl)] at hL;obtain⟨ps,⟨g0,t0,cs0,f0,p0,q0,hg0,ht0,hv0,hd0,⟨g1,t1,cs1,f1,p1,q1,hg1,ht1,hv1,hd1,⟨g2,t2,cs2,f2,p2,q2,hg2,ht2,hv2,hd2,_,_⟩,_⟩,_⟩,_,_⟩:=hL;obtain rfl:=Option.some.inj (gK.symm.trans hg0);obtain rfl:=Option.some.inj (gS.symm.trans hg1);obtain rfl:=Option.some.inj (gB.symm.trans hg2);obtain rfl:=Option.some.inj (tK.symm.trans ht0);obtain rfl:=Option.some.inj (tS.symm.trans ht1);obtain rfl:=Option.some.inj (tB.symm.trans ht2);rw[dK] at hd0;rw[dS] at hd1;rw[dB] at hd2;refine⟨λg row h=> ?_,λg h=> ?_⟩
 ·have h':(bif Nat.beq g 2 then some Ug else bif Nat.beq g 1 then some En else bif Nat.beq g 0 then some LG else none)=some row:=h;cases hq:Nat.beq g 2 with
  |true=>rw[hq] at h';cases h';have e:=Bv hq;subst e;rw[rS];exact afi Tryz.underlying144 Tryz.underlying9 c9 hg1 hv1 hd1
  |false=>
  rw[hq,bH] at h';cases hq:Nat.beq g 1 with
  |true=>rw[hq] at h';cases h';have e:=Bv hq;subst e;rw[rK];exact afi Tryz.underlying143 Tryz.underlying9 c9 hg0 hv0 hd0
  |false=>
  rw[hq,bH] at h';cases hq:Nat.beq g 0 with
  |true=>rw[hq] at h';cases h';have e:=Bv hq;subst e;rw[rB];exact afi Tryz.underlying142 Tryz.underlying9 c9 hg2 hv2 hd2
  |false=>rw[hq] at h';cases h'
 ·have h':(bif Nat.beq g 3 then true else false)=true:=h;cases hq:Nat.beq g 3 with
  |false=>rw[hq] at h';cases h'
  |true=>have e:=Bv hq;subst e;exact Go.Proofs.cell_of_shapedOpen_int (zero:=#[.int .i64 0]) hS (of_decide_eq_true (by kernel_rfl)) (by kernel_rfl) rfl (by kernel_rfl) (by kernel_rfl) Tryz.underlying3
end Go.Proofs.YtoaeipkhadpbiaaGreatDoor
