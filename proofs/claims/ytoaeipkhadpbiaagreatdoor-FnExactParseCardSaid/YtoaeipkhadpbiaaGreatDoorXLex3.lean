import Derived.Test.YtoaeipkhadpbiaaGreatDoorXRi11
import Derived.Test.YtoaeipkhadpbiaaGreatDoorXAdv
import Derived.Test.YtoaeipkhadpbiaaGreatDoorXRi2
set_option linter.defProp false
namespace Go.Proofs.YtoaeipkhadpbiaaGreatDoor
set_option linter.unusedVariables false
set_option linter.unusedSimpArgs false
open Go Go.Vm
open Go.IntKind (i64)
variable {l:List Tk}
def lf(s:aJ):Tn:=.mk 1 0 s [] []
def LH(ss:List (aJ)):ay:=ss.map λs=>[D.sl true 5 [[D.int .i64 1,D.int .i64 0,D.str s,D.str [],D.sl true 1 []]]]
def UC(ss:List (aJ)):(LH ss).length=ss.length:=by rw[LH,zaP]
def ag4:∀ss:List (aJ),ak (LH ss)=parts (ss.map lf)
 |[]=>rfl
 |s::ss=>by have h:LH (s::ss)=[D.sl true 5 [[D.int .i64 1,D.int .i64 0,D.str s,D.str [],D.sl true 1 []]]]::LH ss:=rfl;rw[h,ak,ag4 ss];rfl
def alg(ss:List (aJ))(s:aJ):LH ss++[[D.sl true 5 [[D.int .i64 1,D.int .i64 0,D.str s,D.str [],D.sl true 1 []]]]]=LH (ss++[s]):=by simp[LH]
def WM:∀ss:List (aJ),sizes (ss.map lf)=ss.length
 |[]=>rfl
 |s::ss=>by rw[zmc,sizes,WM ss,lf];simp[Tn.size,sizes];omega
def AIt(l:List Tk)(o:Option TY):PR Tn->Prop
 | .ok t j nt=>∃fl rows ns,ak rows=aW false (t.flat 0)/\txt ns=nt/\o=some (fl,rows,au l,(j:Int),false,au ns)
 | .bad j=>∃fl rows ns,j<=l.length/\ns.length<=l.length/\o=some (fl,rows,au l,(j:Int),true,au ns)
 | .out=>True
def AS.ait{i n0:Nat}{o:Option TY}{p:PR Tn}(h:AS l i n0 o p):AIt l o p:=by
 cases p with
 |ok x j m=>exact h
 |out=>trivial
 |bad j=>obtain⟨fl,rows,ns,R,h1,h2,h3,h4,h5,h6,h7⟩:=h;exact⟨fl,rows,ns,h2,h3,h7⟩
def AIt.mk{x:Tn}{j:Nat}{fl:Bool}{rows:ay}{ns:List Tk}(h:ak rows=aW false (x.flat 0)):AIt l (some (fl,rows,au l,(j:Int),false,au ns)) (.ok x j (txt ns)):=⟨_,_,_,h,rfl,rfl⟩
def AIt.eX{j:Nat}{fl:Bool}{rows:ay}{ns:List Tk}(h2:j<=l.length)(h3:ns.length<=l.length):AIt l (some (fl,rows,au l,(j:Int),true,au ns)) (.bad j):=⟨_,_,_,h2,h3,rfl⟩
def AIt.pass{o:Option TY}{p:PR Tn}(h:AIt l o p):AIt l (o.bind λr=>bif ah r.2.2.2.2.2 then some (false,ak r.2.1,r.2.2.1,r.2.2.2.1,r.2.2.2.2.1,r.2.2.2.2.2) else none) p:=by
 cases p with
 |out=>trivial
 |bad j=>obtain⟨fl,rows,ns,h1,h2,rfl⟩:=h;simp only[aj,aZ,aI];exact AIt.eX h1 h2
 |ok x j m=>obtain⟨fl,rows,ns,h1,rfl,rfl⟩:=h;simp only[aj,aZ,aI];exact AIt.mk (fzN h1)
noncomputable def fnS(x:aJ)(c:ay)(c1:Int)(c2:Bool)(c3:ay):Option TY:=
 ((M.aH 32 c c1 c2 c3).bind λal2=>
 ((M.jS x ((al2.2.2.2.1,al2.2.2.2.2.1,al2.2.2.2.2.2.1,[],al2.2.2.2.2.2.2))).bind λaDh=>
 iO aDh (λXl=>
 (bif ah Xl.2.2.2.2 then
 ((M.aH 33 Xl.1 Xl.2.1 Xl.2.2.1 Xl.2.2.2.2).bind λYK=>
 (bif ah YK.2.2.2.2.2.2 then
 ((M.bT YK.2.2.2.1 YK.2.2.2.2.1 YK.2.2.2.2.2.1 YK.2.2.2.2.2.2).bind λYL=>
 (bif ah YL.2.2.2 then
 ((M.fZ YL.1 YL.2.1 YL.2.2.1 YL.2.2.2).bind λRk=>
 (bif((Xl.2.2.2.1.length+[[D.sl false 5 (ak Rk.2.1)]].length) * 24).ble 140737488355328 then
 (bif(Xl.2.2.2.1.length+[[D.sl false 5 (ak Rk.2.1)]].length).ble 140737488355328 then
 ((M.bV 44 0 x [] [] (ak (Xl.2.2.2.1++[[D.sl false 5 (ak Rk.2.1)]]))).bind λaxc=>
 (bif ah Rk.2.2.2.2.2 then
 (some ((false,ak axc,Rk.2.2.1,Rk.2.2.2.1,Rk.2.2.2.2.1,Rk.2.2.2.2.2))) else none)) else none) else none)) else none)) else none)) else none)) λaDi=>
 letE aDi λajK=>
 (bif ah ajK.2.2.2.2 then
 ((M.aH 33 ajK.1 ajK.2.1 ajK.2.2.1 ajK.2.2.2.2).bind λayM=>
 (bif ah ayM.2.2.2.2.2.2 then
 ((M.bT ayM.2.2.2.1 ayM.2.2.2.2.1 ayM.2.2.2.2.2.1 ayM.2.2.2.2.2.2).bind λayN=>
 (bif ah ayN.2.2.2 then
 ((M.fZ ayN.1 ayN.2.1 ayN.2.2.1 ayN.2.2.2).bind λapd=>
 (bif((ajK.2.2.2.1.length+[[D.sl false 5 (ak apd.2.1)]].length) * 24).ble 140737488355328 then
 (bif(ajK.2.2.2.1.length+[[D.sl false 5 (ak apd.2.1)]].length).ble 140737488355328 then
 ((M.bV 44 0 x [] [] (ak (ajK.2.2.2.1++[[D.sl false 5 (ak apd.2.1)]]))).bind λaRU=>
 (bif ah apd.2.2.2.2.2 then
 (some ((false,ak aRU,apd.2.2.1,apd.2.2.2.1,apd.2.2.2.2.1,apd.2.2.2.2.2))) else none)) else none) else none)) else none)) else none)) else none)))
noncomputable def fnT(x:aJ)(c:ay)(c1:Int)(c2:Bool)(rows c3:ay):Option TY:=
 (bif ah c3 then
 ((M.aH 33 c c1 c2 c3).bind λYK=>
 (bif ah YK.2.2.2.2.2.2 then
 ((M.bT YK.2.2.2.1 YK.2.2.2.2.1 YK.2.2.2.2.2.1 YK.2.2.2.2.2.2).bind λYL=>
 (bif ah YL.2.2.2 then
 ((M.fZ YL.1 YL.2.1 YL.2.2.1 YL.2.2.2).bind λRk=>
 (bif((rows.length+[[D.sl false 5 (ak Rk.2.1)]].length) * 24).ble 140737488355328 then
 (bif(rows.length+[[D.sl false 5 (ak Rk.2.1)]].length).ble 140737488355328 then
 ((M.bV 44 0 x [] [] (ak (rows++[[D.sl false 5 (ak Rk.2.1)]]))).bind λaxc=>
 (bif ah Rk.2.2.2.2.2 then
 (some ((false,ak axc,Rk.2.2.1,Rk.2.2.2.1,Rk.2.2.2.2.1,Rk.2.2.2.2.2))) else none)) else none) else none)) else none)) else none)) else none)
def AV(l:List Tk)(o:Option (S5⊕S5)):PR (List Tn)->Prop
 | .ok L j nt=>∃ns ss u,L=ss.map lf/\ss.length<=8/\txt ns=nt/\o=some u/\(u=.inl (au l,(j:Int),false,LH ss,au ns)\/u=.inr (au l,(j:Int),false,LH ss,au ns))
 | .bad j=>∃ns ss u,j<=l.length/\ns.length<=l.length/\ss.length<=8/\o=some u/\(u=.inl (au l,(j:Int),true,LH ss,au ns)\/u=.inr (au l,(j:Int),true,LH ss,au ns))
 | .out=>True
def ayO(hl:l.length<=3000)(x:aJ):
  ∀(n:Nat) (ss:List (aJ)) (i:Nat) (ns:List Tk),(0<ss.length\/(bD l i==33)=false)->ss.length<6->i<=l.length->ns.length<=i->
   AV l (M.jS x (au l,(i:Int),false,LH ss,au ns)) (Gw l n (ss.map lf) i (txt ns))
 |0,_,_,_,_,_,_,_=>by rw[Gw];trivial
 |n+1,ss,i,ns,hc0,hL,hi,hn=>by
  rw[Gw,M.jS,nameP];have hb:M.nM x (au l,(i:Int),false,LH ss,au ns)=(M.aH 6 (au l) (i:Int) false (au ns)).bind λr=>
    bif(((LH ss).length+[[D.sl true 5 [[D.int IntKind.i64 1,D.int IntKind.i64 0,D.str r.2.1,D.str [],D.sl true 1 []]]]].length) * 24).ble 140737488355328 then
     (bif((LH ss).length+[[D.sl true 5 [[D.int IntKind.i64 1,D.int IntKind.i64 0,D.str r.2.1,D.str [],D.sl true 1 []]]]].length).ble 140737488355328 then
     (bif ah r.2.2.2.2.2.2 then
      ((M.aK r.2.2.2.1 r.2.2.2.2.1 r.2.2.2.2.2.1 r.2.2.2.2.2.2).bind λvk=>
      (bif vk.1 !=36 then
       (some (.inr (.inl ((vk.2.1,vk.2.2.1,vk.2.2.2.1,LH ss++[[D.sl true 5 [[D.int IntKind.i64 1,D.int IntKind.i64 0,D.str r.2.1,D.str [],D.sl true 1 []]]]],vk.2.2.2.2))))) else
       (bif((LH ss++[[D.sl true 5 [[D.int IntKind.i64 1,D.int IntKind.i64 0,D.str r.2.1,D.str [],D.sl true 1 []]]]]).length:Int)==6 then
       (bif ah vk.2.2.2.2 then
        ((M.aH 36 vk.2.1 vk.2.2.1 true vk.2.2.2.2).bind λUh=>
        (bif ah Uh.2.2.2.2.2.2 then
         ((M.bT Uh.2.2.2.1 Uh.2.2.2.2.1 Uh.2.2.2.2.2.1 Uh.2.2.2.2.2.2).bind λXg=>
         (some (.inl ((Xg.1,Xg.2.1,Xg.2.2.1,LH ss++[[D.sl true 5 [[D.int IntKind.i64 1,D.int IntKind.i64 0,D.str r.2.1,D.str [],D.sl true 1 []]]]],Xg.2.2.2))))) else none)) else none) else
       (bif ah vk.2.2.2.2 then
        ((M.aH 36 vk.2.1 vk.2.2.1 vk.2.2.2.1 vk.2.2.2.2).bind λUi=>
        (bif ah Ui.2.2.2.2.2.2 then
         ((M.bT Ui.2.2.2.1 Ui.2.2.2.2.1 Ui.2.2.2.2.2.1 Ui.2.2.2.2.2.2).bind λXh=>
         (some (.inl ((Xh.1,Xh.2.1,Xh.2.2.1,LH ss++[[D.sl true 5 [[D.int IntKind.i64 1,D.int IntKind.i64 0,D.str r.2.1,D.str [],D.sl true 1 []]]]],Xh.2.2.2))))) else none)) else none)))) else none) else none) else none:=by
   by_cases hL0:0<ss.length
   ·have hd:decide (((LH ss).length:Int)>0)=true:=by rw[zdt];rw[UC];omega
    simp only[M.nM,M.nK,M.lV,Bool.not_false,aI,aX,aZ,aj,hd]
   ·have hd:decide (((LH ss).length:Int)>0)=false:=by rw[zD];rw[UC];omega
    have hk:(bD l i==33)=false:=by
     rcases hc0 with h|h
     ·exact absurd h hL0
     ·exact h
    have hk':(bD l i !=33)=true:=by rw[bne,hk];rfl
    simp only[M.nM,M.nK,M.lV,Bool.not_false,aI,aX,aZ,aj,hd,fU,hk']
  cases h6:bD l i==6 with
  |false=>
   have hend:∀ss',M.nM x (au l,(i:Int),true,LH ss',au ns)=some (.inr (.inr (au l,(i:Int),true,LH ss',au ns))):=λss'=>by simp only[M.nM,M.nK,M.lV,zaN,aX]
   simp only[uo h6,aj,alg,UC,zf,Au,aZ,aI,fU,bne,jW,JW] at hb;rw[bG aB,aI,bG aB,aI] at hb;cases hc:bD l i==36 with
   |false=>simp only[hc,Bool.not_false,aI] at hb;exact⟨ns,ss++[[]],_,hi,aB,by rw[Au,zf];omega,aN hb,.inl rfl⟩
   |true=>simp only[hc,zaN,aX,Bool.cond_self] at hb;rw[aY hb];exact⟨ns,ss++[[]],_,hi,aB,by rw[Au,zf];omega,aN (hend _),.inr rfl⟩
  |true=>
   have hlt:=cZ h6 (by decide);have e6:bD l i=6:=by rwa [beq_iff_eq] at h6
   simp only[eU hl e6 (by decide),aj,alg,UC,zf,Au,aZ,aI,fU,bne] at hb;rw[bG aB,aI,bG aB,aI] at hb;simp only[aI,PR.bind,zaP,show∀s,ss.map lf++[Tn.mk 1 0 s [] []]=(ss++[s]).map lf from λs=>by rw[List.map_append];rfl];cases hc:bD l (i+1)==36 with
   |false=>simp only[hc,Bool.not_false,aI] at hb;exact⟨ns,ss++[Bo l i],_,rfl,by rw[Au,zf];omega,rfl,aN hb,.inl rfl⟩
   |true=>
    have hlt':=cZ hc (by decide);have e36:bD l (i+1)=36:=by rwa [beq_iff_eq] at hc
    simp only[hc,zaN,aX] at hb;simp only[aI];cases hs:Nat.beq (ss.length+1) 6 with
    |true=>
     have e:=Dl hs;have e':(((ss.length+1:Nat):Int)==6)=true:=by rw[e];rfl
     simp only[e',aI,jW,JW,aj,aZ] at hb;rw[aY hb];refine⟨ns,ss++[Bo l i],_,aB,aB,by rw[Au,zf];omega,aN ?_,.inr rfl⟩;simp only[M.nM,M.nK,M.lV,zaN,aX]
    |false=>
     have hne:ss.length+1≠6:=Nat.ne_of_beq_eq_false hs;have e':(((ss.length+1:Nat):Int)==6)=false:=by rw[XB];omega
     obtain⟨KX,t2,hln⟩:=Jh hl (i+1+1) ns aB aB;have hf:=Di (l:=l) (i:=i+1+1) (nt:=txt ns) aB;simp only[e',aX,eU hl e36 (by decide),aj,aZ,aI,hln] at hb;rw[aY hb,aX,<-t2];rw[<-t2] at hf;simp only[zaP] at hf;exact ayO hl x n (ss++[Bo l i]) _ KX (.inl (by rw[Au,zf];omega)) (by rw[Au,zf];omega) aB aB
def amD(hl:l.length<=3000)(x:aJ){ss:List (aJ)}(hs:ss.length<=8){j:Nat}{ns:List Tk}(h2:j<=l.length)(h3:ns.length<=l.length):AIt l (fnT x (au l) (j:Int) true (LH ss) (au ns)) (.bad j):=by
 simp only[fnT,aZ,aI,jW,JW,aj];obtain⟨fl,rows,ns',R,g1,g2,g3,g4,g5⟩:=aEl (l:=l) j ns aB;obtain⟨R',_,e1,e2,e3⟩:=aaO 44 0 x [] (((ss.map lf).map λt=>t.flat 0)++[R]) (b:=8+R.length) (by rw[wU,mP,WM,lens,lens];omega) aB (by rw[Au,zaP,zaP,zf];omega) (KB.trees _ (by rw[WM];omega) (KB.cons g4 KB.nil));have e:ak (LH ss++[[D.sl false 5 (ak rows)]])=qW (((ss.map lf).map λt=>t.flat 0)++[R]):=by rw[Qx,ag4,show ak [[D.sl false 5 (ak rows)]]=qW [R] by rw[g2];exact agI R,vZ];simp[qW]
 simp only[g1,aj,e,e1,aZ,aI,UC,zf];rw[bG aB,aI,bG aB,aI];exact AIt.eX h2 aB
def ayP(hl:l.length<=3000)(hx:ado l)(n:Nat)(x:aJ){ss:List (aJ)}(hs:ss.length<=8){j:Nat}{ns:List Tk}(h2:j<=l.length)(h3:ns.length<=j):
  AIt l (fnT x (au l) (j:Int) false (LH ss) (au ns)) ((iZ l 33 j (txt ns)).bind λ_ j nt=>(Lu l n (nl l j nt).1 (nl l j nt).2).bind λb j nt=> .ok (.mk 44 0 x [] (ss.map lf++[b])) j nt):=by
 rw[iZ];cases hc:bD l j==33 with
 |false=>have hb:=amD hl x hs h2 (ns:=ns) aB;simp only[fnT,aZ,aI,uo hc,jW,aj] at hb|-;exact hb
 |true=>
  have hlt:=cZ hc (by decide);have e33:bD l j=33:=by rwa [beq_iff_eq] at hc
  obtain⟨KX,t2,hln⟩:=Jh hl (j+1) ns aB aB;have hf:=Di (l:=l) (i:=j+1) (nt:=txt ns) aB;simp only[fnT,aZ,aI,eU hl e33 (by decide),hln,aj,PR.bind];generalize nl l (j+1) (txt ns)=q at hf t2|-;rw[<-t2] at hf|-;simp only[zaP] at hf;have zW:=(P9 l n).blk q.1 (txt KX) aB;refine AS.elim (Q:=AIt l) (asv hl hx n (i:=q.1) (ns:=KX) aB aB) (λ_=>trivial) (λfl rows j' ns3 R g1 g2 g3 g4 g5 g6=> ?_) (λb fl rows j' ns3 h1 he=> ?_)
  ·obtain⟨R',_,e1,e2,e3⟩:=aaO 44 0 x [] (((ss.map lf).map λt=>t.flat 0)++[R]) (b:=8+R.length) (by rw[wU,mP,WM,lens,lens];omega) aB (by rw[Au,zaP,zaP,zf];omega) (KB.trees _ (by rw[WM];omega) (KB.cons g6 KB.nil));have e:ak (LH ss++[[D.sl false 5 (ak rows)]])=qW (((ss.map lf).map λt=>t.flat 0)++[R]):=by rw[Qx,ag4,show ak [[D.sl false 5 (ak rows)]]=qW [R] by rw[g4];exact agI R,vZ];simp[qW]
   simp only[e,e1,aj,aZ,aI,UC,zf];rw[bG aB,aI,bG aB,aI];exact AIt.eX g2 g3
  ·have hs':=gU zW he;simp only[zaP] at hs';have e:ak (LH ss++[[D.sl false 5 (ak rows)]])=parts (ss.map lf++[b]):=by rw[Qx,ag4,show ak [[D.sl false 5 (ak rows)]]=parts [b] by rw[h1];exact agI _,WI]
   simp only[e,EF 44 0 x [] [] (ss.map lf++[b]) (by rw[sizes1,WM];omega),aj,aZ,aI,UC,zf];rw[bG aB,aI,bG aB,aI];exact AIt.mk (fzN (aT _ _))
def aB0(hl:l.length<=3000)(x:aJ){j:Nat}{ns:List Tk}(h2:j<=l.length)(h3:ns.length<=l.length):AIt l (fnS x (au l) (j:Int) true (au ns)) (.bad j):=by
 have hend:M.jS x (au l,(j:Int),true,LH [],au ns)=some (.inr (au l,(j:Int),true,LH [],au ns)):=by rw[M.jS];refine aN ?_;simp only[M.nM,M.nK,M.lV,zaN,aX]
 have hend':M.jS x (au l,(j:Int),true,[],au ns)=some (.inr (au l,(j:Int),true,LH [],au ns)):=hend;unfold fnS;rw[jW];simp only[aj,hend',iO,letE];exact amD hl x (ss:=[]) (by decide) h2 h3
def aB1(hl:l.length<=3000)(hx:ado l)(n:Nat)(x:aJ){i:Nat}{ns:List Tk}(hi:i<=l.length)(hn:ns.length<=i):
  AIt l (fnS x (au l) (i:Int) false (au ns)) ((iZ l 32 i (txt ns)).bind λ_ j nt=>(bif bD l j==33 then .ok [] j nt else Gw l n [] j nt).bind λL j nt=>(iZ l 33 j nt).bind λ_ j nt=>(Lu l n (nl l j nt).1 (nl l j nt).2).bind λb j nt=> .ok (.mk 44 0 x [] (L++[b])) j nt):=by
 rw[iZ];cases hc:bD l i==32 with
 |false=>have hb:=aB0 hl x hi (ns:=ns) aB;simp only[fnS,uo hc,jW,aj] at hb|-;exact hb
 |true=>
  have hlt:=cZ hc (by decide);have e32:bD l i=32:=by rwa [beq_iff_eq] at hc
  simp only[fnS,eU hl e32 (by decide),aj,aI,PR.bind];cases h33:bD l (i+1)==33 with
  |true=>
   have hend:M.jS x (au l,((i+1:Nat):Int),false,[],au ns)=some (.inr (au l,((i+1:Nat):Int),false,LH [],au ns)):=by
    rw[M.jS];refine aN ?_;have hk':(bD l (i+1) !=33)=false:=by rw[bne,h33];rfl
    simp only[M.nM,M.nK,M.lV,Bool.not_false,aI,zln,show decide (((0:Nat):Int)>0)=false from rfl,aX,aZ,fU,aj,hk'];rfl
   simp only[hend,aj,iO,letE,aI,PR.bind];exact ayP hl hx n x (ss:=[]) (by decide) aB aB
  |false=>
   have hpl:=ayO hl x n [] (i+1) ns (.inr h33) (by decide) aB aB;have zW:=ag2 (l:=l) n [] (i+1) (txt ns) aB;simp only[aX];generalize ho:M.jS x (au l,((i+1:Nat):Int),false,[],au ns)=o;have hpl':AV l o (Gw l n [] (i+1) (txt ns)):=by rw[<-ho];exact hpl
   clear hpl;generalize Gw l n [] (i+1) (txt ns)=p at hpl' zW|-;cases p with
   |out=>trivial
   |bad j=>
    obtain⟨ns',ss,u,g1,g2,g3,rfl,g4⟩:=hpl';have hb:=amD hl x g3 g1 g2;rcases g4 with rfl|rfl
    ·simp only[aj,iO,letE];exact hb
    ·simp only[aj,iO,letE];exact hb
   |ok L j nt=>
    obtain⟨ns',ss,u,rfl,g3,rfl,rfl,g4⟩:=hpl';have hs':i+1<j/\FN l (i+1) (txt ns).length j (txt ns').length/\sizes (ss.map lf)+(txt ns').length+6 * (i+1)<=sizes ([]:List Tn)+(txt ns).length+6 * j:=zW;simp only[zaP] at hs';have hb:=ayP hl hx n x g3 (j:=j) (ns:=ns') aB aB;rcases g4 with rfl|rfl
    ·simp only[aj,iO,letE,PR.bind];exact hb
    ·simp only[aj,iO,letE,PR.bind];exact hb
def aMj(hl:l.length<=3000)(hx:ado l)(n:Nat){i:Nat}{ns:List Tk}(h12:bD l i=12)(hn:ns.length<=i):AIt l (M.DL (au l) (i:Int) false (au ns)) (amf l n (i+1) (txt ns)):=by
 have hlt:i<l.length:=dV (by rw[h12];decide);rw[amf];have hw:i64.wrap (((i+1+1:Nat):Int) - 1)=((i+1:Nat):Int):=by rw[bC aB aB];omega
 have hnm:∀k:Int,k≠0->bD l (i+1)=k->(idx (au l) ((i+1:Nat):Int)).bind (λrow=>cStr row 1)=some (Bo l (i+1)):=λk hk e=>by
  have hlt':i+1<l.length:=dV (by rw[e];exact hk);obtain⟨t,ht⟩:∃t,l[i+1]? =some t:=⟨l[i+1],by simp[hlt']⟩
  simp only[dI,gq,ht,KZ,aj,cT1,Bo]
 have hrow:∀k:Int,k≠0->bD l (i+1)=k->∃row,idx (au l) ((i+1:Nat):Int)=some row/\cStr row 1=some (Bo l (i+1)):=λk hk e=>by
  have hlt':i+1<l.length:=dV (by rw[e];exact hk);obtain⟨t,ht⟩:∃t,l[i+1]? =some t:=⟨l[i+1],by simp[hlt']⟩
  exact⟨_,by rw[dI,gq,ht];rfl,by simp only[cT1,Bo,ht]⟩
 simp only[M.DL,M.OO,M.NI,M.NJ,M.MK,aZ,aI,eU hl h12 (by decide),aj,fU,bne]
 by_cases h7:bD l (i+1)=7
 ·obtain⟨row,r1,r2⟩:=hrow 7 (by decide) h7;simp only[h7,show((7:Int)==7)=true from rfl,show((7:Int)==6)=false from rfl,zaN,aX,Bool.false_or,aI,eU hl h7 (by decide),aj,Bool.not_false,hw,r1,r2,aZ];exact aB1 hl hx n (Bo l (i+1)) (by have:=dV (l:=l) (i:=i+1) (by rw[h7];decide);omega) aB
 ·have f7:(bD l (i+1)==7)=false:=by rwa [XB]
  simp only[f7,Bool.not_false,aI,Bool.or_false];cases h6:bD l (i+1)==6 with
  |true=>
   have e6:bD l (i+1)=6:=by rwa [beq_iff_eq] at h6
   obtain⟨row,r1,r2⟩:=hrow 6 (by decide) e6;simp only[aI,eU hl e6 (by decide),aj,Bool.not_false,hw,r1,r2,aZ];exact aB1 hl hx n (Bo l (i+1)) (by have:=dV (l:=l) (i:=i+1) (by rw[e6];decide);omega) aB
  |false=>simp only[aX,uo h6,aj,zaN,aZ,aI];exact aB0 hl [] aB aB
variable {l:List Tk}
def as6(hl:l.length<=3000){i n0:Nat}{k op:Int}(ts:List Tn){o:Option TY}{p:PR Tn}(h:AS l i n0 o p)(hn0:n0<=4000)(hts:sizes ts<=30000)(zW:p.sat λx j m=>x.size<=30000):
  AIt l (o.bind λr=>(M.bV k op [] [] [] (ak (parts ts++[[D.sl false 5 (ak r.2.1)]]))).bind λr'=>
   bif ah r.2.2.2.2.2 then some (false,ak r',r.2.2.1,r.2.2.2.1,r.2.2.2.2.1,r.2.2.2.2.2) else none)
   (p.bind λy j nt=> .ok (.mk k op [] [] (ts++[y])) j nt):=by
 have hlen:(ts.map λt=>t.flat 0).length<=sizes ts:=by rw[zaP];exact BI ts
 cases p with
 |out=>trivial
 |bad j=>obtain⟨fl,rows,ns,R,g1,g2,g3,g4,g5,g6,rfl⟩:=h;obtain⟨R',_,e1,e2,e3⟩:=aaO k op [] [] ((ts.map λt=>t.flat 0)++[R]) (b:=sizes ts+R.length) (by rw[wU,mP,lens,lens];omega) aB (by rw[Au,zf];omega) (KB.trees ts aB (KB.cons g6 KB.nil));simp only[aj,Ob g4,Ar,e1,aZ,aI,aT];exact AIt.eX g2 g3
 |ok y j m=>obtain⟨fl,rows,ns,h1,rfl,rfl⟩:=h;have hs':y.size<=30000:=zW;simp only[aj,H7 h1,LG,EF k op [] [] [] (ts++[y]) (by rw[sizes1];omega),aZ,aI,aT];exact AIt.mk (aT _ _)
def aMk{k op:Int}{ts:List Tn}(hts:sizes ts<=30000){j:Nat}{ns:List Tk}(hj:j<=l.length)(hn:ns.length<=l.length):
  AIt l ((M.ni (au l) (j:Int) false (au ns)).bind λr=>(M.bV k op [] [] [] (ak (parts ts))).bind λr'=>bif ah r.2.2.2 then some (false,ak r',r.1,r.2.1,r.2.2.1,r.2.2.2) else none) (endP l (.mk k op [] [] ts) j (txt ns)):=by
 simp only[asn,aj,LG,EF k op [] [] [] ts aB,aZ,aI,aT,Bool.false_or,endP];cases Gj (bD l j) with
 |true=>exact AIt.mk (aT _ _)
 |false=>exact AIt.eX hj hn
def aMl{k op:Int}{P:List (List Nd)}(h1:lens P<=90000)(h2:P.length<=100000)(h3:KB P){j:Nat}{ns:List Tk}(hj:j<=l.length)(hn:ns.length<=l.length):
  AIt l ((M.ni (au l) (j:Int) true (au ns)).bind λr=>(M.bV k op [] [] [] (qW P)).bind λr'=>bif ah r.2.2.2 then some (false,ak r',r.1,r.2.1,r.2.2.1,r.2.2.2) else none) (.bad j):=by
 obtain⟨R',_,e1,e2,e3⟩:=aaO k op [] [] P (zaO _) h1 h2 h3;simp only[asn,aj,e1,aZ,aI,Bool.true_or];exact AIt.eX hj hn
def aq6(hl:l.length<=3000){n i:Nat}{nt:gY}(hi:i<=l.length)(hn:nt.length<=i):(Lu l n i nt).sat λx j m=>x.size<=30000:=bJ ((P9 l n).blk i nt hi) λx j m h=>by omega
def aEm(hl:l.length<=3000)(hx:ado l)(n:Nat){i:Nat}{ns:List Tk}(hi:i<=l.length)(hn:ns.length<=i):AIt l (M.yu (au l) (i:Int) false (au ns)) (WC l n i (txt ns)):=by
 have hblk:∀(k op:Int) {j:Nat} {ns:List Tk},j<=l.length->ns.length<=j->AIt l ((M.fZ (au l) (j:Int) false (au ns)).bind λr=>(M.dR k op [] [] [] (ak [[D.sl false 5 (ak r.2.1)]])).bind λr'=>bif ah r.2.2.2.2.2 then some (false,ak r'.2,r.2.2.1,r.2.2.2.1,r.2.2.2.2.1,r.2.2.2.2.2) else none) ((Lu l n j (txt ns)).bind λb i nt=> .ok (.mk k op [] [] [b]) i nt):=λk op j ns hj hn=>(aau (i:=j) (n0:=ns.length+1) hl [] (asv hl hx n hj hn) (zaO _) aB (by simp only[sizes];omega) (by simp[sizes]) (aq6 hl hj (by rw[zaP];omega))).ait
 simp only[M.yu,M.OT,M.ML,M.MN,aZ,aI,fU,aj,WC]
 by_cases e10:bD l i=10
 ·have hlt:i<l.length:=dV (by rw[e10];decide);simp only[e10,show((10:Int)==10)=true from rfl,aI,eU hl e10 (by decide),aj,aZ,show i64.wrap (i64.wrap (40+10) - 10)=40 from by decide];exact hblk 40 0 aB aB
 have f10:(bD l i==10)=false:=by rwa [XB]
 simp only[f10,aX]
 by_cases e11:bD l i=11
 ·have hlt:i<l.length:=dV (by rw[e11];decide);simp only[e11,show((11:Int)==11)=true from rfl,aI,eU hl e11 (by decide),aj,aZ,show i64.wrap (i64.wrap (40+11) - 10)=41 from by decide];exact hblk 41 0 aB aB
 have f11:(bD l i==11)=false:=by rwa [XB]
 simp only[f11,aX]
 by_cases e12:bD l i=12
 ·have hfun:=(aMj hl hx n e12 hn).pass;simp only[e12,show((12:Int)==12)=true from rfl,aI];exact hfun
 have f12:(bD l i==12)=false:=by rwa [XB]
 simp only[f12,aX];cases h30:bD l i==30 with
 |true=>simp only[aI];exact hblk 42 2 hi hn
 |false=>
 simp only[aX,M.jc,M.qK,aj];refine AX.elim (Q:=AIt l) (at1 hl n false false hi hn) (λ_=>trivial) (λfl rows hd j ns' R g1 g2 g3 g4 g5=> ?_) (λx fl rows j KX h1 he=> ?_)
 ·have g51:=g5.1;have hb:=aMl (l:=l) (k:=42) (op:=1) (P:=[R]) (by rw[lens,lens];omega) (by simp) (KB.cons g5.2 KB.nil) g2 g3;simp only[zaN,aX,aZ,aI,g4,agI];exact hb
 ·have s1:=gU (Gx aB aB hi) he;simp only[zaP] at s1;simp only[Bool.not_false,aI,aZ,fU,aj,h1];cases h36:bD l j==36 with
  |false=>
   simp only[aX,PR.bind];cases hb:bD l j==30 with
   |false=>exact aMk (ts:=[x.1]) (by simp only[sizes];omega) aB aB
   |true=>exact as6 hl [x.1] (asv hl hx n aB aB) aB (by simp only[sizes];omega) (aq6 hl aB (by rw[zaP];omega))
  |true=>
   have hlt:=cZ h36 (by decide);have e36:bD l j=36:=by rwa [beq_iff_eq] at h36
   obtain⟨ns3,t3,hln⟩:=Jh hl (j+1) KX aB aB;have hf:=Di (l:=l) (i:=j+1) (nt:=txt KX) aB;simp only[aI,eU hl e36 (by decide),aj,aZ,hln];generalize nl l (j+1) (txt KX)=q at hf t3|-;rw[<-t3] at hf|-;simp only[zaP] at hf;rw[PR.bind_assoc];refine AX.elim (Q:=AIt l) (at1 hl n false false aB aB) (λ_=>trivial) (λfl rows hd j' ns' R g1 g2 g3 g4 g5=> ?_) (λy fl rows j' ns4 h2 he2=> ?_)
   ·have g51:=g5.1;have hb:=aMl (l:=l) (k:=43) (op:=1) (P:=[x.1.flat 0,R]) (by rw[lens,lens,lens,Tn.flat_length];omega) (by simp) (KB.tree aB (KB.cons g5.2 KB.nil)) g2 g3;simp only[zaN,aX,aZ,aI,g4,show∀A B:List Nd,ak ([[D.sl false 5 (aW false A)]]++[[D.sl false 5 (aW false B)]])=qW [A,B] from λA B=>aqV A B];exact hb
   ·have s2:=gU (Gx aB aB aB) he2;simp only[zaP] at s2;simp only[Bool.not_false,aI,aZ,fU,aj,h2,PR.bind];cases hb:bD l j'==30 with
    |false=>exact aMk (ts:=[x.1,y.1]) (by simp only[sizes];omega) aB aB
    |true=>exact as6 hl [x.1,y.1] (asv hl hx n aB aB) aB (by simp only[sizes];omega) (aq6 hl aB (by rw[zaP];omega))
variable {l:List Tk}
abbrev U1:=ay×Int×Int×ay×Int×Bool×ay
abbrev U2:=ay×Int×Int×ay×Int×Bool×ay×ay
abbrev U3:=ay×Int×Int×ay×Int×ay×ay
def AF(l:List Tk)(o:Option (U2⊕U3)):PR (List Tn)->Prop
 | .ok L j nt=>o=some (.inl (au l,0,0,au l,(j:Int),false,parts L,au []))/\j<=l.length/\sizes L<=6 * j
 | .bad j=>j<=l.length/\∃u rows ns,o=some u/\(u=.inl (au l,0,0,au l,(j:Int),true,rows,ns)\/u=.inr (au l,0,0,au l,(j:Int),rows,ns))
 | .out=>True
def asw(hl:l.length<=3000)(hx:ado l):
  ∀n,∀(L:List Tn) (i:Nat) (ns:List Tk) (s:U1⊕U2),(s=.inl (au l,0,0,au l,(i:Int),false,parts L)/\ns=[]\/s=.inr (au l,0,0,au l,(i:Int),false,parts L,au ns))->
   i<=l.length->ns.length<=i->sizes L+ns.length<=6 * i->AF l (M.zH s) (Vf l n L i (txt ns))
 |0,_,_,_,_,_,_,_,_=>by rw[Vf];trivial
 |n+1,L,i,ns,s,hs,hi,hn,hsz=>by
  obtain⟨SH,t1,hsp⟩:=amw hl i ns hi hn;have hq:=Qs (l:=l) (nt:=txt ns) hi;have hLl:=BI L;simp only[Vf];generalize hqe:sep l i (txt ns)=q at hq hsp t1|-;rw[<-t1] at hq;simp only[zaP] at hq;have hcm:ak (ak (Qa SH))=parts (ES q.2):=by rw[Z9,t1]
  have hcl:(ES q.2).length=SH.length:=by rw[<-t1,Vk]
  have hcs:sizes (ES q.2)=SH.length:=by rw[<-t1,Gl]
  rw[M.zH];have hb:M.ru s=
    bif bD l q.1==0 then some (.inr (.inl (au l,0,0,au l,(q.1:Int),false,parts (L++ES q.2),au []))) else bif bD l q.1==31 then some (.inr (.inr (au l,0,0,au l,(q.1:Int),parts (L++ES q.2),au []))) else
     (M.yu (au l) (q.1:Int) false (au [])).bind λr=>bif(((parts (L++ES q.2)).length+[[D.sl false 5 (ak r.2.1)]].length) * 24).ble 140737488355328 then
      (bif((parts (L++ES q.2)).length+[[D.sl false 5 (ak r.2.1)]].length).ble 140737488355328 then
       some (.inl (.inr (au l,0,0,r.2.2.1,r.2.2.2.1,r.2.2.2.2.1,parts (L++ES q.2)++[[D.sl false 5 (ak r.2.1)]],r.2.2.2.2.2))) else none) else none:=by
   have hlen:(parts L).length+(parts (ES q.2)).length=L.length+SH.length:=by rw[oW,oW,hcl]
   rcases hs with⟨rfl,rfl⟩|rfl
   ·have hsp':M.kD (au l) (i:Int) false []=some (au l,(q.1:Int),false,au SH):=hsp;simp only[LJ,M.ru,M.qZ,aZ,aI,hsp',aj,Tv (l:=l) _ _ SH aB,hcm,WI,aX,fU];rw[hlen,bG aB,aI,bG aB,aI]
   ·simp only[LJ,M.ru,M.qZ,aZ,aI,hsp,aj,Tv (l:=l) _ _ SH aB,hcm,WI,aX,fU];rw[hlen,bG aB,aI,bG aB,aI]
  cases h0:bD l q.1==0 with
  |true=>rw[h0,aI] at hb;rw[aN hb,aI];exact⟨rfl,aB,by rw[nI,hcs];omega⟩
  |false=>
   rw[h0,aX] at hb;rw[aX];cases h31:bD l q.1==31 with
   |true=>rw[h31,aI] at hb;rw[aN hb,aI];exact⟨aB,_,_,_,rfl,.inr rfl⟩
   |false=>
    rw[h31,aX] at hb;rw[aX];have hr:=aEm hl hx n (i:=q.1) (ns:=[]) aB (Nat.zero_le _);have zW:=asf (l:=l) (n:=n) (i:=q.1) (nt:=[]) aB;have e0:txt ([]:List Tk)=[]:=rfl;rw[e0] at hr;generalize WC l n q.1 []=p at hr zW|-;cases p with
    |out=>trivial
    |bad j=>
     obtain⟨fl,rows,KX,g1,g2,h2⟩:=hr;rw[h2,aj] at hb;simp only[oW,Au,hcl,zf] at hb;rw[bG aB,aI,bG aB,aI] at hb;rw[aY hb];refine⟨g1, ?_⟩;have hb2:M.ru (.inr (au l,0,0,au l,(j:Int),true,parts (L++ES q.2)++[[D.sl false 5 (ak rows)]],au KX))=some (.inr (.inl (au l,0,0,au l,(j:Int),true,(parts (L++ES q.2)++[[D.sl false 5 (ak rows)]])++parts (ES (txt KX)),au []))):=by simp only[LJ,M.ru,M.qZ,aZ,aI,amx,aj,Tv (l:=l) _ _ KX aB,Z9];rw[show(parts (L++ES q.2)++[[D.sl false 5 (ak rows)]]).length+(parts (ES (txt KX))).length=L.length+SH.length+1+KX.length by rw[Au,oW,Au,hcl,zf,oW,Vk],bG aB,aI,bG aB,aI]
     exact⟨_,_,_,aN hb2,.inl rfl⟩
    |ok x j m'=>obtain⟨fl,rows,KX,h1,rfl,h2⟩:=hr;have hs':FS l q.1 ([]:gY).length x.size j (txt KX).length:=zW;simp only[zaP,zln] at hs';rw[h2,aj] at hb;simp only[H7 h1,oW,Au,hcl,zf] at hb;rw[bG aB,aI,bG aB,aI] at hb;rw[aY hb];exact asw hl hx n ((L++ES q.2)++[x]) j KX _ (.inr rfl) aB aB (by rw[sizes1,nI,hcs];omega)
noncomputable def aMm(rows:ay):Option (Bool×ay×Int×Int):=
 (M.Ac rows).bind λr=>bif r.1 !=0 then some (true,[],r.1,r.2) else some (false,rows,r.1,r.2)
def AG(l:List Tk)(o:Option (Bool×ay×Int×Int)):PR (List Tn)->Prop
 | .ok L _ _=>o=aMm (aW false ((Tn.mk 45 0 [] [] L).flat 0))/\sizes L<=18000
 | .bad j=>j<=l.length/\o=(M.rM (au l) (j:Int) 3).bind λr=>some (true,[],r.1,r.2)
 | .out=>True
def aA1(hl:l.length<=3000)(hx:ado l)(h0:M.yg (au l)=some true){k:Int}(h1:M.DK (au l)=some k)(hk:k<0)(n:Nat):AG l (M.mG (au l)) (Vf l n [] 0 []):=by
 have hloop:=asw hl hx n [] 0 [] (.inl (au l,0,0,au l,0,false,[])) (.inl ⟨rfl,rfl⟩) (Nat.zero_le _) (zaO _) (zaO _);have e0:txt ([]:List Tk)=[]:=rfl;rw[e0] at hloop;simp only[M.mG,M.xI,h0,h1,aj,zaN,aX];rw[zD aB,aX];generalize Vf l n [] 0 []=p at hloop|-;cases p with
 |out=>trivial
 |bad j=>
  obtain⟨hj,u,rows,ns,h2,h3⟩:=hloop;rw[h2,aj];refine⟨hj, ?_⟩;rcases h3 with rfl|rfl
  ·simp only[iO,aI]
  ·simp only[iO,letE]
 |ok L j nt=>obtain⟨h2,hj,h3⟩:=hloop;rw[h2,aj];refine⟨?_,aB⟩;simp only[iO,aX,LG,EF 45 0 [] [] [] L aB,aj,aT];rfl
variable {l:List Tk}
abbrev P1:=ay×Int×Int×ay×Int×Bool×Int×Int×aJ×aJ×ay
abbrev P2:=ay×Int×Int×ay×Int×Bool×Int×Int×aJ×aJ×ay×ay
def p1(l:List Tk)(i:Nat)(b:Bool)(nt:gY):P1:=(au l,0,0,au l,(i:Int),b,45,0,[],[],encS nt)
def p2(l:List Tk)(i:Nat)(b:Bool)(nt:gY)(rows:ay):P2:=(au l,0,0,au l,(i:Int),b,45,0,[],[],encS nt,rows)
def AD(l:List Tk)(o:Option (P1⊕P2)):PR (List Tn)->Prop
 | .ok L' j X7=>∃L0 i0 nt0 u,o=some u/\(u=.inl (p1 l i0 false nt0)/\L0=[]\/u=.inr (p2 l i0 false nt0 (dN false L0)))/\L'=L0++ES nt0/\nt0.length<=l.length/\L0.length<=2 * l.length
 | .bad j=>∃u nt0,o=some u/\(u=.inl (p1 l j true nt0)\/∃rows:ay,u=.inr (p2 l j true nt0 rows))
 | .out=>True
def alh(hl:l.length<=1048576)(hk:∀i,i<l.length->bD l i≠0):
  ∀n,∀(L:List Tn) (i:Nat) (nt:gY) (s:P1⊕P2),(s=.inl (p1 l (sep l i nt).1 false (sep l i nt).2)/\L=[]\/s=.inr (p2 l (sep l i nt).1 false (sep l i nt).2 (dN false L)))->i<=l.length->nt.length<=i->L.length+nt.length<=2 * i->
   AD l (M.zT s) (Vf l n L i nt)
 |0,_,_,_,_,_,_,_,_=>by rw[Vf];trivial
 |n+1,L,i,nt,s,hs,hi,hn,hL=>by
  have hq:=Qs (l:=l) (i:=i) (nt:=nt) hi;simp only[Vf];generalize hqe:sep l i nt=q at hs hq|-;rw[M.zT];cases h0:bD l q.1==0 with
  |true=>
   have e0:bD l q.1=0:=by rwa [beq_iff_eq] at h0
   have hge:¬q.1<l.length:=λh=>hk q.1 h e0
   refine⟨L,q.1,q.2,s, ?_,hs,rfl,aB,aB⟩;rcases hs with⟨rfl,rfl⟩|rfl<;>refine aN ?_<;>simp only[LJ,M.rE,M.rD,p1,p2,Bool.not_false,aI,dQ]<;>
    rw[zD aB,aX]
  |false=>
   have hlt:q.1<l.length:=dV (by rwa [XB] at h0);have hb:M.rE s=(M.kW (au l) (q.1:Int) false (encS [])).bind λr=>
     bif(((dN false (L++ES q.2)).length+[[D.int .i64 r.1,D.int .i64 r.2.1,D.str r.2.2.1,D.str r.2.2.2.1,D.sl false 5 (ak r.2.2.2.2.2.1)]].length) * 72).ble 140737488355328 then
      (bif((dN false (L++ES q.2)).length+[[D.int .i64 r.1,D.int .i64 r.2.1,D.str r.2.2.1,D.str r.2.2.2.1,D.sl false 5 (ak r.2.2.2.2.2.1)]].length).ble 140737488355328 then
      (bif ah r.2.2.2.2.2.2.2.2.2 then
       ((M.bZ r.2.2.2.2.2.2.1 r.2.2.2.2.2.2.2.1 r.2.2.2.2.2.2.2.2.1 r.2.2.2.2.2.2.2.2.2).bind λr'=>
       (some (.inl (.inr ((au l,0,0,r'.1,r'.2.1,r'.2.2.1,45,0,[],[],r'.2.2.2,dN false (L++ES q.2)++[[D.int .i64 r.1,D.int .i64 r.2.1,D.str r.2.2.1,D.str r.2.2.2.1,D.sl false 5 (ak r.2.2.2.2.2.1)]]):P2))))) else none) else none) else none:=by
    have hc:=Dk (l:=l) (q.1:Int) false q.2 aB;have hlen:(L.length+q.2.length) * 72<=140737488355328:=aB;rcases hs with⟨rfl,rfl⟩|rfl
    ·simp only[LJ,M.rE,M.rD,p1,Bool.not_false,aI,dQ];rw[zdt aB,aI];simp only[aI,dP,aj,hc,iW,List.nil_append];rw[show(dN false (ES q.2)).length=q.2.length by rw[dM,Dj],bG aB,aI,bG aB,aI]
    ·simp only[LJ,M.rE,M.rD,p2,Bool.not_false,aI,dQ];rw[zdt aB,aI];simp only[aI,dP,aj,hc,iW,<-Aq];rw[show(dN false L).length+(dN false (ES q.2)).length=L.length+q.2.length by rw[dM,dM,Dj],bG aB,aI,bG aB,aI]
   rw[aX];have hbad:∀{j:Nat},AT l (M.kW (au l) (q.1:Int) false (encS [])) (.bad j)->AD l (fQ M.rE s) (.bad j):=by intro j hj;obtain⟨k,op,x,y,fl,ks,X7,h1,h2⟩:=hj;rw[h2,aj] at hb;simp only[dM,Au,Dj,zf,dP,aI,aiZ,aj] at hb;rw[bG aB,aI,bG aB,aI] at hb;rw[aY hb];exact⟨_,X7,aN rfl,.inr ⟨_,rfl⟩⟩
   cases h31:bD l q.1==31 with
   |true=>
    have e31:bD l q.1=31:=by rwa [beq_iff_eq] at h31
    exact hbad (auI hl e31 aB (Nat.zero_le _))
   |false=>
    rw[aX];have hr:=ayL hl n (i:=q.1) (nt:=[]) aB (Nat.zero_le _);have zW:=asf (l:=l) (n:=n) (i:=q.1) (nt:=[]) aB;generalize WC l n q.1 []=p at hr zW|-;cases p with
    |out=>trivial
    |bad j=>exact hbad hr
    |ok x j m'=>obtain⟨fl,kt,h1,h2⟩:=hr;have ayA:FS l q.1 ([]:gY).length x.size j m'.length:=zW;rw[zln] at ayA;rw[h2,aj] at hb;simp only[aeu h1,dM,Au,Dj,zf,dP,aI,ale hl j m' aB aB,aj] at hb;rw[bG aB,aI,bG aB,aI] at hb;rw[aY hb];refine alh hl hk n ((L++ES q.2)++[x]) j m' _ (.inr rfl) aB aB ?_;simp only[Au,Dj,zf];omega
noncomputable def aA2(rows:ay):Option (ay×Int×Int):=
 (M.uT 45 0 [] [] rows).bind λr=>bif !bif r.1==0 then bif r.2==0 then true else false else false then some ([],r.1,r.2) else
  (M.pF 45 0 [] [] rows).bind λr'=>bif[[D.sl true 5 r']].all yU then some (r',0,0) else none
def AE(l:List Tk)(o:Option (ay×Int×Int)):PR (List Tn)->Prop
 | .ok L _ _=>o=aA2 (dN false L)
 | .bad j=>o=(M.oO (au l) (j:Int)).bind λr=>some ([],3,r)
 | .out=>True
def aA3(hl:l.length<=1048576)(hk:∀i,i<l.length->bD l i≠0)(h0:M.uS (au l)=some (0,0))(n:Nat):AE l (M.jR (au l)) (Vf l n [] 0 []):=by
 have hloop:=alh hl hk n [] 0 [] (.inl (p1 l (sep l 0 []).1 false (sep l 0 []).2)) (.inl ⟨rfl,rfl⟩) (Nat.zero_le _) (zaO _) (zaO _);have hsep:=ale hl 0 [] (Nat.zero_le _) (zaO _);have aMn:M.bZ (au l) 0 false []=some (au l,((sep l 0 []).1:Int),false,encS (sep l 0 []).2):=hsep;simp only[M.jR,M.xX,h0,aj,show((0:Int)==0)=true from rfl,aI,zaN,aX,aMn];generalize sep l 0 []=q at hloop;rw[p1] at hloop;generalize Vf l n [] 0 []=p at hloop|-;cases p with
 |out=>trivial
 |bad j=>
  obtain⟨u,nt0,h1,h3⟩:=hloop;rw[h1,aj];show _=(M.oO (au l) (j:Int)).bind λr=>some ([],3,r)
  rcases h3 with rfl|⟨rows,rfl⟩
  ·simp only[p1,iO,aI]
  ·simp only[p2,iO,letE,aI]
 |ok L' j X7=>
  obtain⟨L0,i0,nt0,u,h1,h2,rfl,h4,h5⟩:=hloop;rw[h1,aj];show _=aA2 _;rcases h2 with⟨rfl,rfl⟩|rfl
  ·simp only[p1,iO,aX,dP,aI,aj,Dk (l:=l) _ _ nt0 aB,iW,dM,Dj];rw[bG aB,aI,bG aB,aI];rfl
  ·simp only[p2,iO,letE,aX,dP,aI,aj,Dk (l:=l) _ _ nt0 aB,iW,dM,Dj,<-Aq];rw[bG aB,aI,bG aB,aI];rfl
def ayQ(w:Bool)(t:Tn):mg .i64 (t.row w) 0=some t.kind/\mg .i64 (t.row w) 1=some t.op/\cStr (t.row w) 2=some t.text/\cStr (t.row w) 3=some t.other/\cSl 5 (t.row w) 4=some (dN w t.kids):=by rw[aqI];exact⟨rfl,rfl,rfl,rfl,rfl⟩
def ali{w:Bool}{ks:List Tn}{j:Nat}{t:Tn}(h:ks[j]? =some t):(dN w ks)[j]? =some (t.row w):=by rw[V5,List.getElem?_map,h];rfl
def asx(w:Bool):∀(f:Nat) (t:Tn) (a b:Int) (c d:aJ),t.size<=f->t.size<=1048576->M.kX f a b c d (dN w t.kids)=some (t.size:Int)
 |0,t,_,_,_,_,hf,_=>by have:=t.size_pos;omega
 |f+1,.mk k op x y ks,a,b,c,d,hf,hs=>by
  rw[Tn.size] at hf hs;have hkl:=BI ks;simp only[M.kX,M.F9,Tn.kids,dM];have hloop:=qX (b:=M.Fe (M.kX f) (dN w ks) (ks.length:Int)) (t:=(((1+sizes ks:Nat):Int),(ks.length:Int))) (λj=>(((1+sizes (ks.take j):Nat):Int),(j:Int))) ks.length
   (by
    intro j hj;obtain⟨t,ht⟩:∃t,ks[j]? =some t:=⟨ks[j],by simp⟩
    have hst:=Ux ht;obtain⟨r0,r1,r2,r3,r4⟩:=ayQ w t;have hrec:=asx w f t t.kind t.op t.text t.other aB aB;simp only[LJ,M.Fe,M.zS,dI,ali ht,aj,r0,r1,r2,r3,r4,hrec];rw[zdt aB,aI,bC aB aB,bC aB aB,List.take_add_one,ht,Option.toList_some,sizes1];congr 3;omega)
   (by simp only[LJ,M.Fe,M.zS];rw[zD aB,aX,List.take_length]) 0 (Nat.zero_le _)
  have NP:M.Jc (M.kX f) (dN w ks) (ks.length:Int) (1,0)=_:=hloop;rw[NP,aj,Tn.size,Nat.add_comm]
def dF:Nat->Tn->Int
 |0,_=>0
 |f+1,t=>mx 0 (t.kids.map (dF f))+1
def ape:∀f t,0<=dF f t/\dF f t<=f
 |0,t=>by simp[dF]
 |f+1,t=>by have:=aep (f:Int) (t.kids.map (dF f)) 0 aB (λx hx=>by obtain⟨k,_,rfl⟩:=List.mem_map.1 hx;exact(ape f k).2);rw[dF];omega
def apf(w:Bool):∀(f:Nat) (t:Tn) (a b:Int) (c d:aJ),t.size<=f->f<=1048576->M.jU f a b c d (dN w t.kids)=some (dF f t)
 |0,t,_,_,_,_,hf,_=>by have:=t.size_pos;omega
 |f+1,.mk k op x y ks,a,b,c,d,hf,hs=>by
  rw[Tn.size] at hf;have hkl:=BI ks;have hdr:=ape (f+1) (.mk k op x y ks);simp only[M.jU,M.Ej,Tn.kids,dM];have hloop:=qX (b:=M.Ei (M.jU f) (dN w ks) (ks.length:Int)) (t:=(mx 0 (ks.map (dF f)),(ks.length:Int))) (λj=>(mx 0 ((ks.take j).map (dF f)),(j:Int))) ks.length
   (by
    intro j hj;obtain⟨t,ht⟩:∃t,ks[j]? =some t:=⟨ks[j],by simp⟩
    have hst:=Ux ht;obtain⟨r0,r1,r2,r3,r4⟩:=ayQ w t;have hrec:=apf w f t t.kind t.op t.text t.other aB aB;simp only[LJ,M.Ei,M.yT,dI,ali ht,aj,r0,r1,r2,r3,r4,hrec];rw[zdt aB,aI,bC aB aB,List.take_add_one,ht,Option.toList_some,List.map_append,zmc,List.map_nil,amc];rfl)
   (by simp only[LJ,M.Ei,M.yT];rw[zD aB,aX,List.take_length]) 0 (Nat.zero_le _)
  have NP:M.Hr (M.jU f) (dN w ks) (ks.length:Int) (0,0)=_:=hloop;rw[NP,aj];rw[dF] at hdr|-;simp only[Tn.kids] at hdr|-;rw[bC aB aB]
def apg{l:List Nd}:∀(f:Nat) (t:Tn) (b:Nat),Lies l b t->dep l f (b+sizes t.kids)=dF f t
 |0,_,_,_=>rfl
 |f+1,.mk k op x y ks,b,h=>by
  rw[dep,dF];congr 2;rw[afe (Lies.root' h)];simp only[Tn.kids];refine List.ext_getElem? λj=> ?_
  rw[List.getElem?_map,List.getElem?_map]
  by_cases hj:j<ks.length
  ·obtain⟨t,ht⟩:∃t,ks[j]? =some t:=⟨ks[j],by simp⟩
   rw[aAo ht,ht];simp only[KZ,ztn];rw[apg f t _ (Lies.aDB h ht)]
  ·have e:(Go.Vm.ends ks b).length=ks.length:=by rw[Go.Vm.Rh]
   rw[List.getElem?_eq_none aB,List.getElem?_eq_none aB];rfl
def ayR(t:Tn)(h:t.size<=400):Ua (t.flat 0)=true:=by have hp:=t.size_pos;obtain⟨u,h1,h2⟩:=t.ahU 0;rw[Ua,Jq,Qk,t.flat_length,if_pos ⟨hp,h⟩,afX];simp only[h1];rw[List.getElem?_append_right aB,h2,Nat.sub_self];rfl
def aq7{t:Tn}(hs:t.size<=1048576)(o w:Bool):∃k,M.Ac (aW o (t.flat 0))=some (k,0)/\M.uT t.kind t.op t.text t.other (dN w t.kids)=some (k,0):=by
 have a1:=M.aei (asx w t.size t t.kind t.op t.text t.other (zaO _) hs);have a2:=M.adi (apf w t.size t t.kind t.op t.text t.other (zaO _) hs);simp only[M.Ac,M.OW,M.uT,M.Pj,fV,t.flat_length,a1,aj]
 by_cases h4:t.size<=400
 ·rw[zD aB,aX,aX,agE _ o (by rw[t.flat_length];omega) (λn hn=>by have:=(TD t 0 n hn).1;omega),depth,ayR t h4,if_pos rfl,t.flat_length,a2,aj,aj];have hk:=t.aeP;have e:=apg t.size t 0 (Lies.whole t);rw[show 0+sizes t.kids=t.size - 1 by omega] at e;rw[e];cases decide (dF t.size t>40) with
  |true=>exact⟨4,rfl,rfl⟩
  |false=>exact⟨0,rfl,rfl⟩
 ·rw[zdt aB];exact⟨1,rfl,rfl⟩
def Vl(k:Int):Bool:=k==3||(k==4||(k==5||(k==6||(k==8||(k==33||(k==35||(k==51||(k==52||false))))))))
def ai9(k:Int):M.iQ k=some (Vl k)/\M.iR k=some (Vl k):=by simp only[M.iQ,M.BM,M.iR,M.CB,Vl];cases k==3<;>first|exact⟨rfl,rfl⟩|(cases k==4<;>first|exact⟨rfl,rfl⟩|(cases k==5<;>first|exact⟨rfl,rfl⟩|(cases k==6<;>first|exact⟨rfl,rfl⟩|(cases k==8<;>first|exact⟨rfl,rfl⟩|(cases k==33<;>first|exact⟨rfl,rfl⟩|(cases k==35<;>first|exact⟨rfl,rfl⟩|(cases k==51<;>first|exact⟨rfl,rfl⟩|(cases k==52<;>exact⟨rfl,rfl⟩))))))))
def gd(A k7 n32 k2 n1 k5 e k58 k41:Bool):Bool:=A &&((!k7||n32) &&((!k2||n1) &&((!k5|| !e) &&((!k58||e) &&(!k41||e)))))
def n32:List Tk->Bool
 |[]=>false
 |u::_=>u.kind==32
def n1(z:Bool):List Tk->Bool
 |[]=>true
 |u::_=>u.kind==1||(z && u.kind==0)
def gT(z:Bool)(b:Int)(t:Tk)(r:List Tk):Bool:=gd (PL t.kind t.text) (t.kind==7) (n32 r) (t.kind==2) (n1 z r) (t.kind==5) (Vl b) (t.kind==58) (t.kind==41)
def aex(z:Bool):Int->List Tk->Bool
 |_,[]=>true
 |b,t::r=>gT z b t r && aex z t.kind r
def aMo(s:aJ):PL 0 s=false:=by
 cases s with
 |nil=>rfl
 |cons c s=>rfl
def ayS:∀(l:List Tk) (b:Int),aex true b l=aex false b l
 |[],_=>rfl
 |t::r,b=>by
  rw[aex,aex,ayS r];cases r with
  |nil=>rfl
  |cons u r=>
   cases h:u.kind==0 with
   |true=>
    have e:u.kind=0:=by rwa [beq_iff_eq] at h
    have:aex false t.kind (u::r)=false:=by rw[aex,gT,e,aMo];rfl
    rw[this,Bool.and_false,Bool.and_false]
   |false=>rw[gT,gT,n1,n1,h];rfl
section
variable {l:List Tk} (hl:l.length<=3000) (hf:∀t,t∈l->I64 t.kind/\t.text.length<=1048576)
include hl hf
theorem auJ{i:Nat}{t:Tk}(ht:l[i]? =some t)(b:Int):M.BO (au l) (b,(i:Int))=some (bif gT false b t (l.drop (i+1)) then .inl (t.kind,((i+1:Nat):Int)) else .inr (.inl ())):=by
 have hi:=(VG.1 ht).1;have hft:=hf t (zmg ht);have hw:i64.wrap ((i:Int)+1)=((i+1:Nat):Int):=by rw[bC aB aB];omega
 have hT:=(aiP t.kind t.text t.at_ hft.2 hft.1).1;have hE:=(ai9 b).1;simp only[M.BO,M.BN,M.jH,dQ,hw];rw[zdt aB,aI]
 by_cases h2:i+1<l.length
 ·obtain⟨u,hu⟩:∃u,l[i+1]? =some u:=⟨l[i+1],by simp[h2]⟩
  have hd:l.drop (i+1)=u::l.drop (i+2):=by rw[List.drop_eq_getElem_cons h2];rw[List.getElem?_eq_getElem h2] at hu;rw[Option.some.inj hu]
  rw[hd,gT,n32,n1,zdt aB,aI];simp only[dI,gq,ht,hu,KZ,aj,cT0,cT1,cT2,hT,hE,bne,aI];cases PL t.kind t.text<;>cases t.kind==7<;>cases u.kind==32<;>cases t.kind==2<;>cases u.kind==1<;>cases t.kind==5<;>cases Vl b<;>cases t.kind==58<;>cases t.kind==41<;>rfl
 ·have hd:l.drop (i+1)=[]:=List.drop_of_length_le aB;rw[hd,gT,n32,n1,zD aB,aX];simp only[dI,gq,ht,KZ,aj,cT0,cT1,cT2,hT,hE,bne,aX];cases PL t.kind t.text<;>cases t.kind==7<;>cases t.kind==2<;>cases t.kind==5<;>cases Vl b<;>cases t.kind==58<;>cases t.kind==41<;>rfl
theorem auK{i:Nat}{t:Tk}(ht:l[i]? =some t)(b:Int):M.CJ (au l) (au l) (l.length:Int) (b,(i:Int))=some (bif gT true b t (l.drop (i+1)) then .inl (t.kind,((i+1:Nat):Int)) else .inr (.inl ())):=by
 have hi:=(VG.1 ht).1;have hft:=hf t (zmg ht);have hw:i64.wrap ((i:Int)+1)=((i+1:Nat):Int):=by rw[bC aB aB];omega
 have hT:=(aiP t.kind t.text t.at_ hft.2 hft.1).2;have hE:=(ai9 b).2;simp only[M.CJ,M.CG,M.jJ,dQ,hw];rw[zdt aB,aI];simp only[dI,gq,ht,KZ,aj,cT0,cT1,cT2]
 by_cases h2:i+1<l.length
 ·obtain⟨u,hu⟩:∃u,l[i+1]? =some u:=⟨l[i+1],by simp[h2]⟩
  have hd:l.drop (i+1)=u::l.drop (i+2):=by rw[List.drop_eq_getElem_cons h2];rw[List.getElem?_eq_getElem h2] at hu;rw[Option.some.inj hu]
  rw[hd,gT,n32,n1,zdt aB,aI];simp only[hu,KZ,aj,cT0,cT1,cT2,hT,hE,bne,aI,Bool.true_and];cases PL t.kind t.text<;>cases t.kind==7<;>cases u.kind==32<;>cases t.kind==2<;>cases u.kind==1<;>cases u.kind==0<;>cases t.kind==5<;>cases Vl b<;>cases t.kind==58<;>cases t.kind==41<;>rfl
 ·have hd:l.drop (i+1)=[]:=List.drop_of_length_le aB;rw[hd,gT,n32,n1,zD aB,aX];simp only[hT,hE,aj,bne,aX];cases PL t.kind t.text<;>cases t.kind==7<;>cases t.kind==2<;>cases t.kind==5<;>cases Vl b<;>cases t.kind==58<;>cases t.kind==41<;>rfl
end
def afl{l:List Tk}{z:Bool}{B:Int×Int->Option ((Int×Int)⊕(Unit⊕(Int×Int)))}(hb:∀(i:Nat) (t:Tk) (b:Int),l[i]? =some t->B (b,(i:Int))=some (bif gT z b t (l.drop (i+1)) then .inl (t.kind,((i+1:Nat):Int)) else .inr (.inl ())))
  (he:∀b,B (b,(l.length:Int))=some (.inr (.inr (b,(l.length:Int))))):∀(n i:Nat) (b:Int),l.length - i=n->i<=l.length->∃b',fQ B (b,(i:Int))=some (bif aex z b (l.drop i) then .inr (b',(l.length:Int)) else .inl ())
 |0,i,b,hn,hi=>by obtain rfl:i=l.length:=aB;rw[List.drop_length,aex];exact⟨b,aN (he b)⟩
 |n+1,i,b,hn,hi=>by
  have h2:i<l.length:=aB;obtain⟨t,ht⟩:∃t,l[i]? =some t:=⟨l[i],by simp[h2]⟩
  have hd:l.drop i=t::l.drop (i+1):=by rw[List.drop_eq_getElem_cons h2];rw[List.getElem?_eq_getElem h2] at ht;rw[Option.some.inj ht]
  have h:=hb i t b ht;rw[hd,aex];cases hg:gT z b t (l.drop (i+1)) with
  |false=>rw[hg,aX] at h;exact⟨0,aN h⟩
  |true=>rw[hg,aI] at h;obtain⟨b',h'⟩:=afl hb he n (i+1) t.kind aB aB;exact⟨b',by rw[aY h,h',Bool.true_and]⟩
def XA(l:List Tk):Bool:=decide (l.length<=3000) && aex false 0 l
def aph(l:List Tk)(hl:l.length<=1048576)(hf:∀t,t∈l->I64 t.kind/\t.text.length<=1048576):M.yg (au l)=some (XA l)/\M.Bd (au l)=some (XA l):=by
 simp only[M.yg,M.MB,M.Bd,M.MS,dQ,XA]
 by_cases h3:l.length<=3000
 ·rw[zD aB,aX,aX,zdt h3,Bool.true_and];obtain⟨b1,h1⟩:=afl (l:=l) (z:=false) (B:=M.BO (au l)) (λi t b ht=>auJ h3 hf ht b) (λb=>by simp only[M.BO,M.BN,M.jH,dQ];rw[zD aB,aX]) l.length 0 0 aB (Nat.zero_le _);obtain⟨b2,h2⟩:=afl (l:=l) (z:=true) (B:=M.CJ (au l) (au l) (l.length:Int)) (λi t b ht=>auK h3 hf ht b) (λb=>by simp only[M.CJ,M.CG,M.jJ];rw[zD aB,aX]) l.length 0 0 aB (Nat.zero_le _);rw[adk,List.drop_zero] at h1 h2;rw[ayS] at h2;rw[M.Kr,M.KE,h1,h2];cases aex false 0 l<;>exact⟨rfl,rfl⟩
 ·rw[zdt aB,aI,aI,zD h3];exact⟨rfl,rfl⟩
def aja{z:Bool}:∀(l:List Tk) (b:Int),aex z b l=true->∀t,t∈l->PL t.kind t.text=true
 |[],_,_,t,h=>by cases h
 |u::r,b,h,t,ht=>by
  rw[aex,Ji] at h;rcases List.mem_cons.1 ht with rfl|ht
  ·have:=h.1;rw[gT,gd,Ji] at this;exact this.1
  ·exact aja r _ h.2 t ht
def aq8{l:List Tk}(h:XA l=true):∀i,i<l.length->bD l i≠0:=λi hi e=>by
 rw[XA,Ji] at h;obtain⟨t,ht⟩:∃t,l[i]? =some t:=⟨l[i],by simp[hi]⟩
 have:=aja l 0 h.2 t (zmg ht);rw[bD,ht] at e;have e':t.kind=0:=e;rw[e',aMo] at this;cases this
def aA4{l:List Tk}(h:XA l=true):ado l:=λi hs=>by
 rw[XA,Ji] at h;have hk0:bD l i≠0:=λe=>by rw[e] at hs;cases hs
 have hi:=dV hk0;obtain⟨t,ht⟩:∃t,l[i]? =some t:=⟨l[i],by simp[hi]⟩
 have hok:=aja l 0 h.2 t (zmg ht);have e1:bD l i=t.kind:=by rw[bD,ht]
 have e2:Bo l i=t.text:=by rw[Bo,ht]
 rw[e1] at hs|-;rw[e2];have hk:t.kind=62\/t.kind=53\/t.kind=64:=by rw[xY] at hs;simp only[Bool.or_eq_true,beq_iff_eq] at hs;exact hs
 have hr:I64 t.kind:=by rcases hk with e|e|e<;>rw[e]<;>exact⟨by decide,by decide⟩
 rw[(aiO t.kind hr).1];rw[PL] at hok;cases hn:t.text==[] with
 |true=>rw[hn] at hok;cases hok
 |false=>
  rw[hn,aX] at hok;have hsp:(t.text==spell t.kind)=true:=by rcases hk with e|e|e<;>rw[e] at hok|-<;>exact hok
  rw[beq_iff_eq] at hsp;rw[hsp]
def agN(k:Int):Bool:=k==32||(k==34||k==30)
def ajQ(k:Int):Bool:=k==33||(k==35||k==31)
def ayT(k:Int):M.qx k=some (agN k)/\M.zq k=some (agN k):=by simp only[M.qx,M.Js,M.zq,M.O4,agN];cases k==32<;>first|exact⟨rfl,rfl⟩|(cases k==34<;>exact⟨rfl,rfl⟩)
def ayU(k:Int):M.ou k=some (ajQ k)/\M.zu k=some (ajQ k):=by simp only[M.ou,M.Ib,M.zu,M.O5,ajQ];cases k==33<;>first|exact⟨rfl,rfl⟩|(cases k==35<;>exact⟨rfl,rfl⟩)
def ayV{k:Int}(h:agN k=true):ajQ k=false:=by rw[agN] at h;simp only[Bool.or_eq_true,beq_iff_eq] at h;rcases h with e|e|e<;>rw[e]<;>rfl
def nst(d k:Int):Int:=bif agN k then d+1 else bif ajQ k then(bif decide (d - 1<0) then 0 else d - 1) else d
def alj:Int->Nat->List Tk->Option Nat
 |_,_,[]=>none
 |d,i,t::r=>bif decide (nst d t.kind>40) then some i else alj (nst d t.kind) (i+1) r
def aB2{d k:Int}(h:agN k=true):nst d k=d+1:=by rw[nst,h];rfl
def aB3{d k:Int}(h:agN k=false)(h2:ajQ k=true):nst d k=(bif decide (d - 1<0) then 0 else d - 1):=by rw[nst,h,h2];rfl
def aB4{d k:Int}(h:agN k=false)(h2:ajQ k=false):nst d k=d:=by rw[nst,h,h2];rfl
def auL{d k:Int}(h0:0<=d)(h1:d<=40):0<=nst d k/\nst d k<=41:=by
 rw[nst];cases agN k<;>cases ajQ k<;>simp only[aI,aX]
 ·omega
 ·cases h:decide (d - 1<0)<;>simp only[decide_eq_true_eq,decide_eq_false_iff_not] at h<;>simp only[aI,aX]<;>omega
 ·omega
 ·omega
section
variable {l:List Tk} (hl:l.length<=3000)
include hl
theorem auM{i:Nat}{t:Tk}(ht:l[i]? =some t){d:Int}(h0:0<=d)(h1:d<=40):M.FH (au l) (d,(i:Int))=some (bif decide (nst d t.kind>40) then .inr (.inl (i:Int)) else .inl (nst d t.kind,((i+1:Nat):Int))):=by
 have hi:=(VG.1 ht).1;have hw:i64.wrap ((i:Int)+1)=((i+1:Nat):Int):=by rw[bC aB aB];omega
 have wa:i64.wrap (d+1)=d+1:=bC aB aB;have wb:i64.wrap (d - 1)=d - 1:=bC aB aB;have hm:(bif decide (0<d - 1) then d - 1 else 0)=(bif decide (d - 1<0) then 0 else d - 1):=by
  by_cases c:0<d - 1
  ·rw[zdt c,zD aB];rfl
  ·by_cases c2:d - 1<0
   ·rw[zD c,zdt c2];rfl
   ·rw[zD c,zD c2];show(0:Int)=d - 1;omega
 simp only[M.FH,M.FD,dQ,hw,wa,wb,hm];rw[zdt aB,aI];simp only[dI,gq,ht,KZ,aj,cT0,(ayT t.kind).1,(ayU t.kind).1];cases ho:agN t.kind with
 |true=>rw[aB2 ho,ayV ho];simp only[aI,aX];cases decide (d+1>40)<;>rfl
 |false=>
  cases hc:ajQ t.kind with
  |true=>rw[aB3 ho hc];simp only[aI,aX];cases decide ((bif decide (d - 1<0) then 0 else d - 1)>40)<;>rfl
  |false=>rw[aB4 ho hc];simp only[aI,aX];cases decide (d>40)<;>rfl
theorem auN{i:Nat}{t:Tk}(ht:l[i]? =some t){d:Int}(h0:0<=d)(h1:d<=40):M.F7 (au l) (l.length:Int) (d,(i:Int))=some (bif decide (nst d t.kind>40) then .inr (.inl (i:Int)) else .inl (nst d t.kind,((i+1:Nat):Int))):=by
 have hi:=(VG.1 ht).1;have hw:i64.wrap ((i:Int)+1)=((i+1:Nat):Int):=by rw[bC aB aB];omega
 have wa:i64.wrap (d+1)=d+1:=bC aB aB;have wb:i64.wrap (d - 1)=d - 1:=bC aB aB;simp only[M.F7,M.F6,hw,wa,wb];rw[zdt aB,aI];simp only[dI,gq,ht,KZ,aj,cT0,cT1,cT2,(ayT t.kind).2,(ayU t.kind).2];cases ho:agN t.kind with
 |true=>rw[aB2 ho];simp only[aI];cases decide (d+1>40)<;>rfl
 |false=>
  cases hc:ajQ t.kind with
  |true=>rw[aB3 ho hc];simp only[aI,aX];cases decide ((bif decide (d - 1<0) then 0 else d - 1)>40)<;>rfl
  |false=>rw[aB4 ho hc];simp only[aI,aX];cases decide (d>40)<;>rfl
end
def afm{l:List Tk}{B:Int×Int->Option ((Int×Int)⊕(Int⊕(Int×Int)))}(hb:∀(i:Nat) (t:Tk) (d:Int),l[i]? =some t->0<=d->d<=40->B (d,(i:Int))=some (bif decide (nst d t.kind>40) then .inr (.inl (i:Int)) else .inl (nst d t.kind,((i+1:Nat):Int))))
  (he:∀d,B (d,(l.length:Int))=some (.inr (.inr (d,(l.length:Int))))):∀(n i:Nat) (d:Int),l.length - i=n->i<=l.length->0<=d->d<=40->∃d',fQ B (d,(i:Int))=some (match alj d i (l.drop i) with|some p=> .inl (p:Int)|none=> .inr (d',(l.length:Int)))
 |0,i,d,hn,hi,_,_=>by obtain rfl:i=l.length:=aB;rw[List.drop_length,alj];exact⟨d,aN (he d)⟩
 |n+1,i,d,hn,hi,h0,h1=>by
  have h2:i<l.length:=aB;obtain⟨t,ht⟩:∃t,l[i]? =some t:=⟨l[i],by simp[h2]⟩
  have hd:l.drop i=t::l.drop (i+1):=by rw[List.drop_eq_getElem_cons h2];rw[List.getElem?_eq_getElem h2] at ht;rw[Option.some.inj ht]
  have h:=hb i t d ht h0 h1;have hr:=auL (k:=t.kind) h0 h1;rw[hd,alj]
  by_cases hg:nst d t.kind>40
  ·rw[zdt hg,aI] at h|-;exact⟨0,aN h⟩
  ·rw[zD hg,aX] at h|-;obtain⟨d',h'⟩:=afm hb he n (i+1) (nst d t.kind) aB aB hr.1 aB;exact⟨d',by rw[aY h,h']⟩
def afn(l:List Tk):Int:=match alj 0 0 l with
 |some p=>p
 |none=> -1
def auO(l:List Tk)(hl:l.length<=3000):M.DK (au l)=some (afn l)/\M.Gs (au l)=some (afn l):=by obtain⟨b1,h1⟩:=afm (l:=l) (B:=M.FH (au l)) (λi t d ht h0 h1=>auM hl ht h0 h1) (λb=>by simp only[M.FH,M.FD,dQ];rw[zD aB,aX]) l.length 0 0 aB (Nat.zero_le _) (by decide) (by decide);obtain⟨b2,h2⟩:=afm (l:=l) (B:=M.F7 (au l) (l.length:Int)) (λi t d ht h0 h1=>auN hl ht h0 h1) (λb=>by simp only[M.F7,M.F6];rw[zD aB,aX]) l.length 0 0 aB (Nat.zero_le _) (by decide) (by decide);rw[adk,List.drop_zero] at h1 h2;simp only[M.DK,M.QH,M.Gs,M.QS,dQ];rw[M.Oy,M.O6,h1,h2,afn];cases alj 0 0 l<;>exact⟨rfl,rfl⟩
def apj(l:List Tk)(hl:l.length<=3000)(j:Nat):∃p,M.oO (au l) (j:Int)=some p/\∀k,M.rM (au l) (j:Int) k=some (k,p):=by
 simp only[M.oO,M.O7,M.rM,M.MC,dQ]
 by_cases h:j<l.length
 ·obtain⟨t,ht⟩:∃t,l[j]? =some t:=⟨l[j],by simp[h]⟩
  rw[zdt aB,aI];simp only[aI,dI,gq,ht,KZ,aj,cT2];exact⟨_,rfl,λ_=>rfl⟩
 ·rw[zD aB,aX];simp only[aX];cases l with
  |nil=>exact⟨0,rfl,λ_=>rfl⟩
  |cons t0 l0=>
   have e:(((t0::l0).length:Int)==0)=false:=by rw[XB,X8];omega
   have hw:i64.wrap (((t0::l0).length:Int) - 1)=(l0.length:Int):=by rw[bC aB aB,X8];omega
   obtain⟨t,ht⟩:∃t,(t0::l0)[l0.length]? =some t:=⟨(t0::l0)[l0.length],by simp⟩
   rw[e,hw];simp only[aX,dI,gq,ht,KZ,aj,cT0,cT1,cT2];exact⟨_,rfl,λ_=>rfl⟩
def amE(k:Int)(l:List Nd)(h0:0<=k)(h1:k+wK l<=900000000):M.uU (ak (aW true (oU k l))) k=some (k+wK l):=by
 simp only[M.uU,M.KO,aT];have hwl:=aqJ l;have hloop:=qX (b:=M.Fh (aW false (oU k l))) (t:=.inr (k+wK l,(l.length:Int))) (λi=>(k+wK (l.take i),(i:Int))) l.length
  (by
   intro i hi;obtain⟨n,hn⟩:∃n,l[i]? =some n:=⟨l[i],by simp[hi]⟩
   have hw:=aiV hn;have hg:=aoW k hn;generalize hK:k+(wK (l.take i):Int)=K at hg|-;have w1:i64.wrap (K+1)=K+1:=bC aB aB;have w2:i64.wrap (K+1+1)=K+2:=(bC aB aB).trans aB;have w3:i64.wrap (K+2+1)=K+3:=(bC aB aB).trans aB;have w4:i64.wrap (K+3+1)=K+4:=(bC aB aB).trans aB;have hm:=aoU (K+4) n.kids.length aB aB aB;have d1:decide (K+4+(n.kids.length:Int)<0)=false:=zD aB;have hlen:decide ((i:Int)<((aW false (oU k l)).length:Int))=true:=zdt (by rw[fV,JU];omega);have hr:idx (aW false (oU k l)) (i:Int)=some [D.int .i64 K,.int .i64 (K+1),.str (mk (K+2)),.str (mk (K+3)),.sl false 1 (encI (Gi (K+4) n.kids.length))]:=by rw[dI,Bv,hg];rfl
   have c0:mg .i64 [D.int .i64 K,.int .i64 (K+1),.str (mk (K+2)),.str (mk (K+3)),.sl false 1 (encI (Gi (K+4) n.kids.length))] 0=some K:=rfl;have c1:mg .i64 [D.int .i64 K,.int .i64 (K+1),.str (mk (K+2)),.str (mk (K+3)),.sl false 1 (encI (Gi (K+4) n.kids.length))] 1=some (K+1):=rfl;have c2:cStr [D.int .i64 K,.int .i64 (K+1),.str (mk (K+2)),.str (mk (K+3)),.sl false 1 (encI (Gi (K+4) n.kids.length))] 2=some (mk (K+2)):=rfl;have c3:cStr [D.int .i64 K,.int .i64 (K+1),.str (mk (K+2)),.str (mk (K+3)),.sl false 1 (encI (Gi (K+4) n.kids.length))] 3=some (mk (K+3)):=rfl;have c4:cSl 1 [D.int .i64 K,.int .i64 (K+1),.str (mk (K+2)),.str (mk (K+3)),.sl false 1 (encI (Gi (K+4) n.kids.length))] 4=some (encI (Gi (K+4) n.kids.length)):=rfl;simp only[M.Fh,M.zV,hlen,aI,aX,hr,aj,c0,c1,c2,c3,c4,w1,w2,w3,w4,bne_self_eq_false,Vd (K+2) aB,Vd (K+3) aB,beq_self_eq_true,zaN,hm,d1];rw[bC aB aB,asb hn];congr 3;omega)
  (by have hlen:decide ((l.length:Int)<((aW false (oU k l)).length:Int))=false:=zD (by rw[fV,JU];omega);simp only[M.Fh,M.zV,List.take_length,hlen,aX]) 0 (Nat.zero_le _)
 have e1:k+(wK (l.take 0):Int)=k:=by simp[wK]
 rw[e1,adk] at hloop;rw[M.Jf,hloop,aj];rfl
def aB5{m:Nat}:∀l:List Nd,(∀n,n∈l->n.kids.length<=m)->wK l<=l.length * (4+m)
 |[],_=>by simp[wK]
 |n::l,h=>by
  have h1:=aB5 l λx hx=>h x (zmm _ hx)
  have h2:=h n List.mem_cons_self;rw[wK,X8,Nat.succ_mul];omega
def ajb(l:List Tk)(hl:l.length<=1048576)(hf:∀t,t∈l->I64 t.kind/\t.text.length<=1048576):
  ∃fl q k p,M.mG (au l)=some (fl,aW false q,k,p)/\M.jR (au l)=some (aW true q,k,p)/\q.length<=18001/\(∀n,n∈q->n.kids.length<=18001):=by
 have hT:=aph l hl hf;have e0:∀o,aW o []=[]:=λ_=>rfl
 cases ht:XA l with
 |false=>
  rw[ht] at hT;refine⟨true,[],2,0, ?_, ?_,by simp,by simp⟩
  ·simp only[M.mG,M.xI,hT.1,aj];rfl
  ·simp only[M.jR,M.xX,M.uS,M.F8,hT.2,aj];rfl
 |true=>
  rw[ht] at hT;have h3:l.length<=3000:=by rw[XA,Ji,decide_eq_true_eq] at ht;exact ht.1
  have hN:=auO l h3
  by_cases hn:afn l<0
  ·have hc:M.uS (au l)=some (0,0):=by simp only[M.uS,M.F8,hT.2,hN.2,aj,zaN,aX];rw[zD aB,aX]
   have hi:=aA3 aB (aq8 ht) hc (60 * (l.length - 0)+52);have hs:=aA1 h3 (aA4 ht) hT.1 hN.1 hn (60 * (l.length - 0)+52);have hto:=aoZ (l:=l) (60 * (l.length - 0)+52) [] 0 [] (zaO _);generalize Vf l (60 * (l.length - 0)+52) [] 0 []=p at hi hs hto;cases p with
   |out=>exact hto.elim
   |bad j=>
    obtain⟨hj,hs⟩:=hs;have hi:M.jR (au l)=(M.oO (au l) (j:Int)).bind λr=>some ([],3,r):=hi
    obtain⟨p,p1,p2⟩:=apj l h3 j;refine⟨true,[],3,p, ?_, ?_,by simp,by simp⟩
    ·rw[hs,p2,aj];rfl
    ·rw[hi,p1,aj];rfl
   |ok L j nt=>
    obtain⟨hs,hsz⟩:=hs;have hi:M.jR (au l)=aA2 (dN false L):=hi;have hts:(Tn.mk 45 0 [] [] L).size=sizes L+1:=rfl;obtain⟨k,b1,b2⟩:=aq7 (t:=.mk 45 0 [] [] L) aB false false;have b2':M.uT 45 0 [] [] (dN false L)=some (k,0):=b2;rw[hs,hi,aMm,aA2,b1,b2',aj,aj];cases hk:k==0 with
    |false=>
     refine⟨true,[],k,0, ?_, ?_,by simp,by simp⟩
     ·simp only[bne,hk,Bool.not_false,aI];rfl
     ·simp only[hk,aX,Bool.not_false,aI];rfl
    |true=>
     have hli:M.pF 45 0 [] [] (dN false L)=some (aW true ((Tn.mk 45 0 [] [] L).flat 0)):=aAp (t:=.mk 45 0 [] [] L) aB;refine⟨false,(Tn.mk 45 0 [] [] L).flat 0,k,0, ?_, ?_,by rw[Tn.flat_length];omega,λn hn=>by have:=(TD _ 0 n hn).1;omega⟩
     ·simp only[bne,hk,zaN,aX]
     ·have ek:k=0:=by rwa [beq_iff_eq] at hk
      subst ek;simp only[hk,aI,zaN,aX,hli,aj,aut]
  ·obtain⟨j,hj⟩:∃j:Nat,afn l=j:=⟨(afn l).toNat,aB⟩
   obtain⟨p,p1,p2⟩:=apj l h3 j;refine⟨true,[],4,p, ?_, ?_,by simp,by simp⟩
   ·simp only[M.mG,M.xI,hT.1,hN.1,aj,zaN,aX];rw[zdt aB,aI,hj,p2,aj];rfl
   ·simp only[M.jR,M.xX,M.uS,M.F8,hT.2,hN.2,aj,zaN,aX];rw[zdt aB,aI,hj,p1,aj,aj];rfl
def aA5(l:List Nd)(k p:Int):[[D.sl true 5 (aW true l)],[D.int .i64 k,D.int .i64 p]].all yU=true:=by simp[yU,D.pure,adl]
def amF(k p:Int):M.Af k p k p=some true:=by simp only[M.Af,M.Po,bne_self_eq_false,aX]
def opF(s:aJ):List (aJ)->Nat->Int->Nat->Int×Nat
 |[],_,k,m=>(k,m)
 |g::l,i,k,m=>bif Nat.blt m g.length && g.isPrefixOf s then opF s l (i+1) (30+(i:Int)) g.length else opF s l (i+1) k m
def asy(s:aJ)(L:List (aJ)){b:Int×Int×Int->Option (Int×Int×Int⊕Int×Int×Int)}
  (hb:∀(i:Nat) g k (m:Nat),L[i]? =some g->m<=2->b (k,(m:Int),(i:Int))=some (.inl (bif Nat.blt m g.length && g.isPrefixOf s then(30+(i:Int),(g.length:Int),(i:Int)+1) else(k,(m:Int),(i:Int)+1))))
  (he:∀k m,b (k,m,(L.length:Int))=some (.inr (k,m,(L.length:Int)))) (h2:∀g,g∈L->g.length<=2):
  fQ b (0,0,0)=some ((opF s L 0 0 0).1,((opF s L 0 0 0).2:Int),(L.length:Int)):=by
 have key:∀(t:List (aJ)) (i:Nat) (k:Int) (m:Nat),L.drop i=t->i<=L.length->m<=2->fQ b (k,(m:Int),(i:Int))=some ((opF s t i k m).1,((opF s t i k m).2:Int),(L.length:Int)):=by
  intro t;induction t with
  |nil=>
   intro i k m hd hi hm;have:i=L.length:=by have:=congrArg List.length hd;simp at this;omega
   subst this;exact aN (he _ _)
  |cons g t ih=>
   intro i k m hd hi hm;have hx:L[i]? =some g:=by
    have:(L.drop i)[0]? =some g:=by rw[hd];rfl
    simpa using this
   have hlt:i<L.length:=(VG.1 hx).1;have hd':L.drop (i+1)=t:=by rw[<-List.drop_drop,hd];rfl
   have hs:=hb i g k m hx hm;have hg:=h2 g (zmg hx);rw[opF];cases hc:(Nat.blt m g.length && g.isPrefixOf s) with
   |true=>rw[hc,aI] at hs;rw[aY hs,aI,show(i:Int)+1=((i+1:Nat):Int) by omega,ih (i+1) _ _ hd' hlt hg]
   |false=>rw[hc,aX] at hs;rw[aY hs,aX,show(i:Int)+1=((i+1:Nat):Int) by omega,ih (i+1) _ _ hd' hlt hm]
 have:=key L 0 0 0 rfl (Nat.zero_le _) aB;rw[adk] at this;exact this
def aRV{α:Type}(s:List α)(n:Nat)(h:n<=s.length):cut s 0 (n:Int)=some (s.take n):=by unfold cut;rw[zdt aB,zdt aB,zdt aB];simp
def pre_eq:∀(g s:aJ),g.length<=s.length->(s.take g.length==g)=g.isPrefixOf s
 |[],s,_=>by simp
 |x::g,[],h=>by simp at h
 |x::g,y::s,h=>by
  have hr:=pre_eq g s (by simpa using h);have hxy:(y==x)=(x==y):=by rw[Bool.eq_iff_iff,beq_iff_eq,beq_iff_eq];exact⟨Eq.symm,Eq.symm⟩
  rw[List.isPrefixOf,X8,List.take_succ_cons,<-hr,<-hxy];rfl
def alk(g s:aJ)(h:s.length<g.length):g.isPrefixOf s=false:=by
 cases hp:g.isPrefixOf s with
 |false=>rfl
 |true=>have:=(List.isPrefixOf_iff_prefix.1 hp).length_le;omega
def amG(s g:aJ):M.strings_HasPrefix s g=some (g.isPrefixOf s):=by
 simp only[M.strings_HasPrefix,M.Fj,M.jk,M.oQ]
 by_cases h:g.length<=s.length
 ·rw[zdt aB,aI,aRV s g.length h,aj,aj,pre_eq g s h]
 ·rw[zD aB,aX,aj,alk g s aB]
def ayW:∀g,g∈X5->g.length<=2:=by decide+kernel
def asz(m n:Nat):decide ((n:Int)>(m:Int))=Nat.blt m n:=by
 cases hb:Nat.blt m n with
 |true=>rw[Nat.blt_eq] at hb;exact zdt aB
 |false=>
  have:¬m<n:=by rw[<-Nat.blt_eq,hb];simp
  exact zD aB
def ag5(c:UInt8):i64.wrap (c.toNat:Int)=(c.toNat:Int):=by have:=aoG c;exact bC aB aB
def sub(s:aJ)(i e:Nat):aJ:=(s.drop i).take (e - i)
def aav{s:aJ}{i e:Nat}(h1:i<=e)(h2:e<=s.length):(sub s i e).length=e - i:=by rw[sub,zlt,List.length_drop];omega
def PO{s:aJ}{i e:Nat}(h1:i<=e)(h2:e<=s.length):cut s (i:Int) (e:Int)=some (sub s i e):=by unfold cut;rw[zdt aB,zdt aB,zdt aB];simp[sub]
def amH(s:aJ)(i:Nat):sub s i s.length=s.drop i:=by rw[sub,List.take_of_length_le];rw[List.length_drop];omega
def NQ(s:aJ)(i:Nat):Nat:=i+((s.drop i).takeWhile λc=>isW (c.toNat:Int)).length
def aac(s:aJ)(i:Nat):Nat:=i+((s.drop i).takeWhile λc=> !(c==10)).length
def amI{s:aJ}{i:Nat}(h:i<=s.length):NQ s i<=s.length:=by have:=(List.takeWhile_prefix (l:=s.drop i) λc=>isW (c.toNat:Int)).length_le;rw[List.length_drop] at this;unfold NQ;omega
def amJ{s:aJ}{i:Nat}(h:i<=s.length):aac s i<=s.length:=by have:=(List.takeWhile_prefix (l:=s.drop i) λc=> !(c==10)).length_le;rw[List.length_drop] at this;unfold aac;omega
def apk(p:UInt8->Bool){s:aJ}{i:Nat}{c:UInt8}(h:s[i]? =some c):((s.drop i).takeWhile p).length=bif p c then((s.drop (i+1)).takeWhile p).length+1 else 0:=by have hl:=(VG.1 h).1;rw[List.drop_eq_getElem_cons hl];have hc:s[i]=c:=(VG.1 h).2;rw[hc,List.takeWhile_cons];cases p c<;>simp
def afo{s:aJ}{i:Nat}{c:UInt8}(h:s[i]? =some c):NQ s i=bif isW (c.toNat:Int) then NQ s (i+1) else i:=by
 unfold NQ;rw[apk (λc=>isW (c.toNat:Int)) h];cases isW (c.toNat:Int)
 ·rfl
 ·simp only[aI];omega
def alm{s:aJ}{i:Nat}{c:UInt8}(h:s[i]? =some c):aac s i=bif c==10 then i else aac s (i+1):=by
 unfold aac;rw[apk (λc=> !(c==10)) h];cases c==10
 ·simp only[Bool.not_false,aI,aX];omega
 ·rfl
def VE(k:Int):Bool:=k==3||(k==4||(k==5||(k==6||(k==8||(k==33||(k==35||(k==51||k==52)))))))
def aad(k:Int):M.iQ k=some (VE k)/\M.iR k=some (VE k):=by simp only[M.iQ,M.BM,M.iR,M.CB,VE];cases k==3<;>cases k==4<;>cases k==5<;>cases k==6<;>cases k==8<;>cases k==33<;>cases k==35<;>cases k==51<;>cases k==52<;>exact⟨rfl,rfl⟩
def agO(b:Int):Bool:=b==32||b==9
def ajc(b:Int):M.En b=some (agO b)/\M.Es b=some (agO b):=by simp only[M.En,M.Pq,M.Es,M.Pz,agO];cases b==32<;>cases b==9<;>exact⟨rfl,rfl⟩
def aey{s:aJ}(h:s.length<=1048576){r:Int}(h0:0<=r):r<=Vz s r/\(Vz s r<=r\/Vz s r<=s.length):=by
 have r1:=JR h (a:=r+1) aB;have r2:=JR h (a:=r+1+1) aB;unfold Vz;cases(qI s r==101)||(qI s r==69) with
 |false=>rw[aX];omega
 |true=>
  rw[aI];cases(qI s (r+1)==43)||(qI s (r+1)==45) with
  |true=>
   rw[aI];cases hd:decide (Ez s (r+1+1)>r+1+1) with
   |true=>rw[aI];rw[decide_eq_true_eq] at hd;omega
   |false=>rw[aX];omega
  |false=>
   rw[aX];cases hd:decide (Ez s (r+1)>r+1) with
   |true=>rw[aI];rw[decide_eq_true_eq] at hd;omega
   |false=>rw[aX];omega
def aaw{s:aJ}{a:Int}(h:(s.length:Int)<=a):qI s a= -1:=by unfold qI;rw[if_pos aB,List.getElem?_eq_none aB]
def Tz{s:aJ}(h:s.length<=1048576){i:Nat}(hi:i<s.length):Uw s i<0\/((i:Int)<Uw s i/\Uw s i<=s.length):=by
 have r1:=JR h (a:=(i:Int)) aB;have r2:=JR h (a:=Ez s i+1) aB;have e1:=aey h (r:=Ez s (Ez s i+1)) aB;have e2:=aey h (r:=Ez s i) aB;unfold Uw;rw[if_neg aB];cases hp:qI s (Ez s i)==46 with
 |true=>
  rw[aI];have hlt:Ez s i<s.length:=by
   by_cases hc:Ez s i<s.length
   ·exact hc
   ·rw[aaw aB] at hp;cases hp
  cases hq:(Ez s i==(i:Int)) &&(Ez s (Ez s i+1)==Ez s i+1) with
  |true=>rw[aI];omega
  |false=>rw[aX];omega
 |false=>
  rw[aX];cases hq:Ez s i==(i:Int) with
  |true=>rw[aI];omega
  |false=>rw[aX];rw[XB] at hq;omega
def adp(q:Int):∀(n:Nat) (l:aJ) (i:Int),l.length<=n->0<=i->ael q l i<0\/(i<ael q l i/\ael q l i<=i+(l.length:Int))
 |n,[],i,_,h0=>by rw[ael];omega
 |0,c::l,i,hn,_=>by simp at hn
 |n+1,c::l,i,hn,h0=>by
  rw[afa];rw[X8] at hn|-
  by_cases h1:(c.toNat:Int)=q
  ·rw[if_pos h1];omega
  rw[if_neg h1]
  by_cases h2:(c.toNat:Int)=10
  ·rw[if_pos h2];omega
  rw[if_neg h2]
  by_cases h3:(c.toNat:Int)=92
  ·rw[if_pos h3];cases l with
   |nil=>simp only[];omega
   |cons d l=>
    simp only[];rw[X8] at hn|-
    by_cases h4:(d.toNat:Int)=10
    ·rw[if_pos h4];omega
    ·rw[if_neg h4];have:=adp q n l (i+2) aB aB;omega
  ·rw[if_neg h3];have:=adp q n l (i+1) aB aB;omega
def TA{s:aJ}{q:Int}{i:Nat}(hi:i<s.length):quoted s i q<0\/((i:Int)<quoted s i q/\quoted s i q<=s.length):=by
 unfold quoted;split
 ·have:=adp q _ (s.drop ((i:Int)+1).toNat) ((i:Int)+1) (zaO _) aB;rw[List.length_drop] at this;omega
 ·omega
def afp{s:aJ}{i:Nat}(hi:i<s.length):VA s i<0\/((i:Int)<VA s i/\VA s i<=s.length):=by
 have:=TA (s:=s) (q:=47) hi;unfold VA;cases quoted s i 47==(i:Int)+2 with
 |true=>rw[aI];omega
 |false=>rw[aX];exact this
def ajd(s:aJ):∀(l:List (aJ)) (i:Nat) (k:Int) (m:Nat),((k=0/\m=0)\/(30<=k/\1<=m))->(((opF s l i k m).1=0/\(opF s l i k m).2=0)\/(30<=(opF s l i k m).1/\1<=(opF s l i k m).2))
 |[],_,_,_,h=>h
 |g::l,i,k,m,h=>by
  rw[opF];cases hc:(Nat.blt m g.length && g.isPrefixOf s) with
  |false=>rw[aX];exact ajd s l (i+1) k m h
  |true=>rw[aI];rw[Ji,Nat.blt_eq] at hc;exact ajd s l (i+1) _ _ (.inr aB)
def amK(s:aJ):∀(l:List (aJ)) (i:Nat) (k:Int) (m:Nat),m<=s.length->(opF s l i k m).2<=s.length
 |[],_,_,_,h=>h
 |g::l,i,k,m,h=>by
  rw[opF];cases hc:(Nat.blt m g.length && g.isPrefixOf s) with
  |false=>rw[aX];exact amK s l (i+1) k m h
  |true=>rw[aI];rw[Ji] at hc;exact amK s l (i+1) _ _ (List.isPrefixOf_iff_prefix.1 hc.2).length_le
def opK(s:aJ)(i:Nat):Int:=(opF (s.drop i) X5 0 0 0).1
def opN(s:aJ)(i:Nat):Nat:=(opF (s.drop i) X5 0 0 0).2
def asA(s:aJ)(i:Nat):(opK s i=0/\opN s i=0)\/(30<=opK s i/\1<=opN s i):=ajd _ _ _ _ _ (.inl ⟨rfl,rfl⟩)
def aq9{s:aJ}{i:Nat}(h:i<=s.length):i+opN s i<=s.length:=by have:=amK (s.drop i) X5 0 0 0 (Nat.zero_le _);rw[List.length_drop] at this;unfold opN;omega
def amL(s:aJ)(i:Nat)(h0:i<s.length)(hs:s.length<=4000000):M.KQ s (i:Int)=some (opK s i,(opN s i:Int)):=by
 have hl:X5.length=39:=rfl;simp only[M.KQ,M.Va,M.Ti,ak9,aj];rw[bC aB aB,zdt aB,zdt aB,Bool.and_self,zaN,aX];have hc:=PO (s:=s) (i:=i) (Nat.le_of_lt h0) (zaO _);rw[amH] at hc;rw[asy (s.drop i) X5 (λj g k m hg hm=> ?_) (λk m=> ?_) ayW,aj]
 ·rfl
 ·have hi:=(VG.1 hg).1;rw[hl] at hi;have hsc:=ar9 j hi;simp only[Uc,hg] at hsc;simp only[M.ZP,M.PG,ztn,hsc,aj,hc,amG,asz];rw[zdt aB,zdt aB,bC aB aB,bC aB aB];cases Nat.blt m g.length<;>cases g.isPrefixOf (s.drop i)<;>rfl
 ·rw[hl];rfl
def amM(s:aJ)(i:Nat)(h0:i<s.length)(hs:s.length<=4000000):M.KP s (i:Int)=some (opK s i,(opN s i:Int)):=by
 have hl:X5.length=39:=rfl;simp only[M.KP,M.U9,M.Td,aoL,aj];rw[asy (s.drop i) X5 (λj g k m hg hm=> ?_) (λk m=> ?_) ayW,aj]
 ·rfl
 ·have hi:=(VG.1 hg).1;rw[hl] at hi;have hg2:=ayW g (zmg hg);have hw1:i64.wrap (30+(j:Int))=30+(j:Int):=bC aB aB;have hw2:i64.wrap ((j:Int)+1)=(j:Int)+1:=bC aB aB;have hw3:i64.wrap ((s.length:Int) - (i:Int))=((s.length - i:Nat):Int):=by rw[bC aB aB];omega
  have hw4:i64.wrap ((i:Int)+(g.length:Int))=((i+g.length:Nat):Int):=by rw[bC aB aB];omega
  simp only[M.Uu,M.JO,Ry,dI,ZT,ztn,hg,KZ,aj,cS0,hw1,hw2,hw3,hw4,hl];rw[zdt (show((j:Int))<((39:Nat):Int) by omega),aI,zdt (show(i:Int)>=0 by omega),aI,zdt (show(i:Int)<=(s.length:Int) by omega),aI]
  by_cases hq:g.length<=s.length - i
  ·have hcs:=PO (s:=s) (i:=i) (e:=i+g.length) aB aB;have hpe:=pre_eq g (s.drop i) (by rw[List.length_drop];exact hq);have hse:sub s i (i+g.length)=(s.drop i).take g.length:=by rw[sub,show i+g.length - i=g.length by omega]
   rw[zdt aB,aI,hcs,aj,hse,hpe,asz];cases Nat.blt m g.length<;>cases g.isPrefixOf (s.drop i)<;>rfl
  ·rw[zD aB,aX,alk g (s.drop i) (by rw[List.length_drop];omega),Bool.and_false];rfl
 ·simp only[M.Uu,M.JO,Ry];rw[zD aB,aX]
def aln{s:aJ}{b:(aJ×Int×Bool)⊕(aJ×Int)->Option (((aJ×Int×Bool)⊕(aJ×Int))⊕(aJ×Int))}(hs:s.length<=1048576)
  (h1:∀(a:Int) (v:Bool),b (.inl (s,a,v))=some (bif isW (qI s a) then .inl (.inr (s,i64.wrap (a+1))) else .inr (s,a)))
  (h2:∀(a:Int),b (.inr (s,a))=some (bif isW (qI s a) then .inl (.inr (s,i64.wrap (a+1))) else .inr (s,a))) (v:Bool) {i:Nat} (hi:i<=s.length):fQ b (.inl (s,(i:Int),v))=some (s,(NQ s i:Int)):=by
 have key:∀(n i:Nat),s.length - i<=n->i<=s.length->fQ b (.inr (s,(i:Int)))=some (s,(NQ s i:Int)):=by
  intro n;induction n with
  |zero=>
   intro i hn hi;have e:i=s.length:=aB;subst e;refine aN ?_;rw[h2,aaw (Int.le_refl _)];have:NQ s s.length=s.length:=by unfold NQ;simp
   rw[this];rfl
  |succ n ih=>
   intro i hn hi
   by_cases hlt:i<s.length
   ·obtain⟨c,hc⟩:∃c,s[i]? =some c:=⟨s[i],by simp[hlt]⟩
    have hb:qI s (i:Int)=(c.toNat:Int):=by rw[HY,hc]
    have hst:=afo hc;cases hw:isW (c.toNat:Int) with
    |true=>rw[hw,aI] at hst;have hx:=h2 (i:Int);rw[hb,hw,aI,bC aB aB] at hx;rw[aY hx,hst,show(i:Int)+1=((i+1:Nat):Int) by omega];exact ih (i+1) aB aB
    |false=>rw[hw,aX] at hst;refine aN ?_;rw[h2,hb,hw,aX,hst]
   ·exact ih i aB hi
 by_cases hlt:i<s.length
 ·obtain⟨c,hc⟩:∃c,s[i]? =some c:=⟨s[i],by simp[hlt]⟩
  have hb:qI s (i:Int)=(c.toNat:Int):=by rw[HY,hc]
  have hst:=afo hc;cases hw:isW (c.toNat:Int) with
  |true=>rw[hw,aI] at hst;have hx:=h1 (i:Int) v;rw[hb,hw,aI,bC aB aB] at hx;rw[aY hx,hst,show(i:Int)+1=((i+1:Nat):Int) by omega];exact key _ (i+1) (zaO _) aB
  |false=>rw[hw,aX] at hst;refine aN ?_;rw[h1,hb,hw,aX,hst]
 ·have e:i=s.length:=aB;subst e;refine aN ?_;rw[h1,aaw (Int.le_refl _)];have:NQ s s.length=s.length:=by unfold NQ;simp
  rw[this];rfl
def aje{s:aJ}(hs:s.length<=1048576){i:Nat}(hi:i<=s.length)(hL:isL (qI s i)=true):M.Aj s (i:Int)=some (NQ s i:Int)/\M.Ak s (i:Int)=some (NQ s i:Int):=by
 have hb1:=λa=>C9 hs a
 have hb2:=λa=>Dc hs a
 constructor
 ·simp only[M.Aj,M.Px,hb1,aj,(Oa _).1,hL,zaN,aX,M.Nl];rw[aln hs (λa v=> ?_) (λa=> ?_) false hi,aj]
  ·simp only[M.Pv,M.Et,hb1,aj,(IC _).1];cases isW (qI s a)<;>rfl
  ·simp only[M.Pv,M.Et,hb1,aj,(IC _).1];cases isW (qI s a)<;>rfl
 ·simp only[M.Ak,M.PE,hb2,aj,(Oa _).2,hL,zaN,aX,M.Np];rw[aln hs (λa v=> ?_) (λa=> ?_) false hi,aj]
  ·simp only[M.PD,M.Ew,hb2,aj,(IC _).2];cases isW (qI s a)<;>rfl
  ·simp only[M.PD,M.Ew,hb2,aj,(IC _).2];cases isW (qI s a)<;>rfl
def agh(s w:aJ)(e:Nat):Int:=bif agC w !=0 then agC w else bif ZV w then 8 else bif qI s e==40 then 7 else 6
def asB{s:aJ}(hs:s.length<=1048576){i e:Nat}(h1:i<=e)(h2:e<=s.length):M.Eo s (i:Int) (e:Int)=some (agh s (sub s i e) e,sub s i e,(i:Int))/\M.vX s (i:Int) (e:Int)=some (agh s (sub s i e) e,sub s i e,(i:Int)):=by
 have hb1:=λa=>C9 hs a
 have hb2:=λa=>Dc hs a
 simp only[M.Eo,M.QW,M.vX,M.KR,PO h1 h2,(Xu _).1,(Xu _).2,(Tq _).1,(Tq _).2,hb1,hb2,aj,agh];cases agC (sub s i e) !=0<;>cases ZV (sub s i e)<;>cases qI s (e:Int)==40<;>exact⟨rfl,rfl⟩
def n10'{c:UInt8}(h:(c.toNat:Int)≠10):(c==10)=false:=XB.2 λe=>h (by rw[e];rfl)
def ayX(s w:aJ)(e:Nat):agh s w e≠0:=by
 unfold agh;cases h:agC w !=0 with
 |true=>rw[aI];simpa using h
 |false=>
  rw[aX];cases ZV w
  ·rw[aX];cases qI s (e:Int)==40<;>decide
  ·rw[aI];decide
def ajR(s:aJ)(i:Nat)(k e:Int):Option zat:=bif decide (e<0) then none else some (k,sub s i e.toNat)
def apl(s:aJ)(i:Nat):Option zat:=bif IE (sub s i (NQ s i)) then some (agh s (sub s i (NQ s i)) (NQ s i),sub s i (NQ s i)) else none
def opT(s:aJ)(i:Nat):Option zat:=bif opK s i==0 then none else some (opK s i,sub s i (i+opN s i))
def acs(s:aJ)(i:Nat):Option zat:=bif isL (qI s i) then apl s i else opT s i
def H8(s:aJ)(i:Nat)(bf:Int):Option zat:=
 bif qI s i==10 then some (1,[10]) else bif qI s i==35 then some (2,sub s i (aac s i)) else bif isD (qI s i) then ajR s i 3 (Uw s i) else bif qI s i==46 then ajR s i 3 (Uw s i) else
 bif qI s i==34 then ajR s i 4 (quoted s i 34) else bif qI s i==47 then(bif !(VE bf) then ajR s i 5 (VA s i) else acs s i) else acs s i
def ara(i j:Int):Option zat->Int×aJ×Int
 |none=>(0,[],j)
 |some p=>(p.1,p.2,i)
def apm(c:UInt8):∀l:aJ,(Lib.indexByte l c<0/\(l.takeWhile λx=> !(x==c)).length=l.length)\/Lib.indexByte l c=((l.takeWhile λx=> !(x==c)).length:Int)
 |[]=> .inl ⟨by rw[Lib.indexByte];omega,rfl⟩
 |b::l=>by
  have ih:=apm c l;rw[Lib.indexByte,List.takeWhile_cons];cases hb:b==c with
  |true=>right;simp
  |false=>
   simp only[Bool.not_false,if_true,Bool.false_eq_true,if_false,X8];have hge:=Lib.indexByte_ge l c;rcases ih with⟨h1,h2⟩|h
   ·left;have:Lib.indexByte l c= -1:=aB;rw[this,h2];exact⟨by decide,rfl⟩
   ·right;rw[h];have:((((l.takeWhile λx=> !(x==c)).length:Nat):Int)== -1)=false:=XB.2 aB;rw[this];simp
section
variable {s:aJ} (hs:s.length<=1048576) {i:Nat} (hi:i<s.length) (bf:Int)
include hs hi
omit hs hi in
theorem aax{k e:Int}{j:Int}(h:e<0\/((i:Int)<e/\e<=s.length)):(bif decide (e<0) then some ((0:Int),([]:aJ),j) else(cut s (i:Int) e).bind λw=>some (k,w,(i:Int)))=some (ara i j (ajR s i k e)):=by
 unfold ajR;rcases h with h|⟨h1,h2⟩
 ·rw[zdt h,aI,aI];rfl
 ·rw[zD aB,aX,aX];obtain⟨n,rfl⟩:=Int.eq_ofNat_of_zero_le (show 0<=e by omega);rw[PO aB aB,aj,ztn];rfl
theorem auP:((M.lG (qI s i)).bind λr=>bif r then(M.Ak s (i:Int)).bind λe=>(cut s (i:Int) e).bind λw=>(M.o9 w).bind λq=>bif q then(M.vX s (i:Int) e).bind λt=>some (t.fst,t.snd.fst,t.snd.snd) else some (0,[],0)
  else(M.KQ s (i:Int)).bind λr=>bif r.fst==0 then some (0,[],0) else bif decide (i64.wrap ((i:Int)+r.snd)<0) then some (0,[],0) else(cut s (i:Int) (i64.wrap ((i:Int)+r.snd))).bind λw=>some (r.fst,w,(i:Int)))=some (ara i 0 (acs s i)):=by
 unfold acs;rw[(Oa _).2,aj];cases hL:isL (qI s i) with
 |true=>
  have hw:=amI (Nat.le_of_lt hi);have hle:i<=NQ s i:=by unfold NQ;omega
  have hne:=(aje hs (Nat.le_of_lt hi) hL).2;have hwd:=(asB hs hle hw).2;have hns:=(Xv (sub s i (NQ s i)) (by rw[aav hle hw];omega)).2;simp only[aI,hne,aj,PO hle hw,hns,hwd,apl];cases IE (sub s i (NQ s i))<;>rfl
 |false=>
  have hop:=amL s i hi aB;have hln:=aq9 (Nat.le_of_lt hi);have hw:i64.wrap ((i:Int)+(opN s i:Int))=((i+opN s i:Nat):Int):=by rw[bC aB aB];omega
  simp only[aX,hop,aj,hw,opT];rw[zD aB,PO aB hln];cases opK s i==0<;>rfl
theorem auQ:((M.lF (qI s i)).bind λr=>bif r then(M.Aj s (i:Int)).bind λe=>(M.Eo s (i:Int) e).bind λt=>(M.o7 t.snd.fst).bind λq=>bif !q then some (0,[],(i:Int)) else some (t.fst,t.snd.fst,t.snd.snd)
  else(M.KP s (i:Int)).bind λr=>bif r.snd==0 then some (0,[],(i:Int)) else bif decide (i64.wrap ((i:Int)+r.snd)<0) then some (0,[],(i:Int)) else(cut s (i:Int) (i64.wrap ((i:Int)+r.snd))).bind λw=>some (r.fst,w,(i:Int)))=some (ara i i (acs s i)):=by
 unfold acs;rw[(Oa _).1,aj];cases hL:isL (qI s i) with
 |true=>
  have hw:=amI (Nat.le_of_lt hi);have hle:i<=NQ s i:=by unfold NQ;omega
  have hne:=(aje hs (Nat.le_of_lt hi) hL).1;have hwd:=(asB hs hle hw).1;have hns:=(Xv (sub s i (NQ s i)) (by rw[aav hle hw];omega)).1;simp only[aI,hne,aj,hns,hwd,apl];cases IE (sub s i (NQ s i))<;>rfl
 |false=>
  have hop:=amM s i hi aB;have hln:=aq9 (Nat.le_of_lt hi);have hz:=asA s i;have hw:i64.wrap ((i:Int)+(opN s i:Int))=((i+opN s i:Nat):Int):=by rw[bC aB aB];omega
  simp only[aX,hop,aj,hw,opT];rw[zD aB,PO aB hln];rcases hz with⟨h1,h2⟩|⟨h1,h2⟩
  ·rw[h1,h2];rfl
  ·have e1:(opK s i==0)=false:=XB.2 aB;have e2:((opN s i:Int)==0)=false:=XB.2 aB;rw[e1,e2];rfl
theorem arb:M.Am s (i:Int) bf=some (ara i 0 (H8 s i bf)):=by
 obtain⟨c,hc⟩:∃c,s[i]? =some c:=⟨s[i],by simp[hi]⟩
 have hb:qI s (i:Int)=(c.toNat:Int):=by rw[HY,hc]
 have hR:=auP hs hi;have hw1:i64.wrap ((i:Int)+1)=((i+1:Nat):Int):=by rw[bC aB aB];omega
 have hnum:=ZQ hs (i:Int) aB;have hstr:=(afb hs (i:Int) aB aB).2;have here:=(afc hs (i:Int) aB aB).2;have c3:=aax (s:=s) (i:=i) (j:=0) (k:=3) (Tz hs hi);have c4:=aax (s:=s) (i:=i) (j:=0) (k:=4) (TA (q:=34) hi);have c5:=aax (s:=s) (i:=i) (j:=0) (k:=5) (afp hi);simp only[M.Am,M.PI,M.Nq,dI,hc,aj,ag5,<-hb,aiM,hnum,hstr,here,(aad bf).2,c3,c4,c5];unfold H8;cases h10:qI s i==10 with
 |true=>
  have aRW:c=10:=by rw[hb,beq_iff_eq] at h10;have h9:c.toNat=10:=aB;exact UInt8.toNat_inj.1 (by rw[h9];rfl)
  rw[aI,aI,hw1,zD aB,aX,PO aB aB,aj,sub,show i+1 - i=1 by omega,List.drop_eq_getElem_cons hi,(VG.1 hc).2,aRW];rfl
 |false=>
 rw[aX,aX];cases h35:qI s i==35 with
 |true=>
  have hcl:=amJ (Nat.le_of_lt hi);have hix:M.strings_IndexByte (s.drop i) 10=some (Lib.indexByte (s.drop i) 10):=rfl;rw[aI,aI,PO (Nat.le_of_lt hi) (zaO _),aj,amH,hix,aj];rcases apm 10 (s.drop i) with⟨h1,h2⟩|h1
  ·rw[zD aB,aX,aj];have:aac s i=s.length:=by unfold aac;rw[h2,List.length_drop];omega
   rw[this,amH];rfl
  ·have hce:((i:Int)+Lib.indexByte (s.drop i) 10)=((aac s i:Nat):Int):=by rw[h1];unfold aac;omega
   rw[hce,h1,zdt aB,aI,bC aB aB,zD aB,aX,PO (by unfold aac;omega) hcl,aj];rfl
 |false=>
 rw[aX,aX];cases isD (qI s i) with
 |true=>rfl
 |false=>
 rw[aX,aX];cases qI s i==46 with
 |true=>rfl
 |false=>
 rw[aX,aX];cases qI s i==34 with
 |true=>rfl
 |false=>
 rw[aX,aX];cases qI s i==47 with
 |true=>
  rw[aI,aI];cases VE bf with
  |false=>rfl
  |true=>exact hR
 |false=>exact hR
omit hi in
theorem ayY(x y:Int)(a b:aJ)(u v w:Int):∀(n j:Nat),s.length - j<=n->j<=s.length->M.wG s x y a u v b w (j:Int)=some ((aac s j:Nat):Int):=by
 intro n;induction n with
 |zero=>
  intro j hn hj;have e:j=s.length:=aB;subst e;rw[M.wG];refine aN ?_;simp only[M.Eu,M.y9];rw[zD aB,aX];have:aac s s.length=s.length:=by unfold aac;simp
  rw[this]
 |succ n ih=>
  intro j hn hj
  by_cases hlt:j<s.length
  ·obtain⟨c,hc⟩:∃c,s[j]? =some c:=⟨s[j],by simp[hlt]⟩
   have hst:=alm hc;have hcc:((c.toNat:Int) !=10)= !(c==10):=by have:=aBQ c 10 aB;simp only[bne];exact congrArg (!·) this
   cases h10:c==10 with
   |true=>rw[h10,aI] at hst;rw[M.wG];refine aN ?_;simp only[M.Eu,M.y9,dI,hc,aj,hcc,h10,zaN];rw[zdt aB,aI,aX,hst]
   |false=>
    rw[h10,aX] at hst;have hb:M.Eu s x y a u v b w (j:Int)=some (.inl ((j+1:Nat):Int)):=by simp only[M.Eu,M.y9,dI,hc,aj,hcc,h10,Bool.not_false];rw[zdt aB,aI,aI,bC aB aB];rfl
    have:=ih (j+1) aB aB;rw[M.wG] at this;rw[M.wG,aY hb,this,hst]
  ·exact ih j aB hj
theorem auR:M.Ep s (i:Int) (!(VE bf))=some (ara i i (H8 s i bf)):=by
 obtain⟨c,hc⟩:∃c,s[i]? =some c:=⟨s[i],by simp[hi]⟩
 have hb:qI s (i:Int)=(c.toNat:Int):=by rw[HY,hc]
 have hR:=auQ hs hi;have hnum:=ZR hs (i:Int) aB;have hstr:=(afb hs (i:Int) aB aB).1;have here:=(afc hs (i:Int) aB aB).1;have c3:=aax (s:=s) (i:=i) (j:=(i:Int)) (k:=3) (Tz hs hi);have c4:=aax (s:=s) (i:=i) (j:=(i:Int)) (k:=4) (TA (q:=34) hi);have c5:=aax (s:=s) (i:=i) (j:=(i:Int)) (k:=5) (afp hi);have hcl:=amJ (Nat.le_of_lt hi);have hcm:=ayY hs (i:Int) 0 [] [] 0 0 (i:Int) _ i (zaO _) (Nat.le_of_lt hi);simp only[M.Ep,M.QX,M.Py,dI,hc,aj,ag5,<-hb,aiL,hnum,hstr,here,c3,c4,c5,hcm];unfold H8;cases h10:qI s i==10 with
 |true=>rfl
 |false=>
 rw[aX,aX];cases h35:qI s i==35 with
 |true=>rw[aI,aI,zD aB,aX,PO (by unfold aac;omega) hcl,aj];rfl
 |false=>
 rw[aX,aX];cases isD (qI s i) with
 |true=>rfl
 |false=>
 rw[aX,aX];cases qI s i==46 with
 |true=>rfl
 |false=>
 rw[aX,aX];cases qI s i==34 with
 |true=>rfl
 |false=>
 rw[aX,aX];cases qI s i==47 with
 |true=>
  rw[aI,aI];cases VE bf with
  |false=>rfl
  |true=>exact hR
 |false=>exact hR
theorem UD{k:Int}{w:aJ}(h:H8 s i bf=some (k,w)):k≠0/\1<=w.length/\i+w.length<=s.length:=by
 obtain⟨c,hc⟩:∃c,s[i]? =some c:=⟨s[i],by simp[hi]⟩
 have hb:qI s (i:Int)=(c.toNat:Int):=by rw[HY,hc]
 have hE:∀{k' e:Int},k'≠0->(e<0\/((i:Int)<e/\e<=s.length))->ajR s i k' e=some (k,w)->k≠0/\1<=w.length/\i+w.length<=s.length:=by
  intro k' e hk he hx;unfold ajR at hx;rcases he with he|⟨h1,h2⟩
  ·rw[zdt he] at hx;cases hx
  ·rw[zD aB,aX] at hx;cases hx;rw[aav aB aB];exact⟨hk,aB,aB⟩
 have hR:acs s i=some (k,w)->k≠0/\1<=w.length/\i+w.length<=s.length:=by
  intro hx;unfold acs at hx;cases hL:isL (qI s i) with
  |true=>
   rw[hL,aI] at hx;unfold apl at hx;cases hn:IE (sub s i (NQ s i)) with
   |false=>rw[hn] at hx;cases hx
   |true=>
    rw[hn,aI] at hx;cases hx;have hw:=amI (Nat.le_of_lt hi);have hle:i<=NQ s i:=by unfold NQ;omega
    have hst:=afo hc;rw[<-hb,show isW (qI s i)=true by unfold isW;rw[hL];rfl,aI] at hst;have:i+1<=NQ s i:=by rw[hst];unfold NQ;omega
    rw[aav hle hw];exact⟨ayX _ _ _,aB,aB⟩
  |false=>
   rw[hL,aX] at hx;unfold opT at hx;cases hz:opK s i==0 with
   |true=>rw[hz] at hx;cases hx
   |false=>rw[hz,aX] at hx;cases hx;rw[XB] at hz;have h0:=asA s i;have hln:=aq9 (Nat.le_of_lt hi);rw[aav aB hln];exact⟨hz,aB,aB⟩
 unfold H8 at h;cases h10:qI s i==10 with
 |true=>rw[h10,aI] at h;cases h;exact⟨by decide,by simp,by simp;omega⟩
 |false=>
 rw[h10,aX] at h;cases h35:qI s i==35 with
 |true=>
  rw[h35,aI] at h;cases h;have hcl:=amJ (Nat.le_of_lt hi);have hst:=alm hc;have hn:(c==10)=false:=n10' (by rw[<-hb];rw[XB] at h10;exact h10);rw[hn,aX] at hst;have:i+1<=aac s i:=by rw[hst];unfold aac;omega
  rw[aav aB hcl];exact⟨by decide,aB,aB⟩
 |false=>
 rw[h35,aX] at h;cases hD:isD (qI s i) with
 |true=>rw[hD,aI] at h;exact hE (by decide) (Tz hs hi) h
 |false=>
 rw[hD,aX] at h;cases h46:qI s i==46 with
 |true=>rw[h46,aI] at h;exact hE (by decide) (Tz hs hi) h
 |false=>
 rw[h46,aX] at h;cases h34:qI s i==34 with
 |true=>rw[h34,aI] at h;exact hE (by decide) (TA hi) h
 |false=>
 rw[h34,aX] at h;cases h47:qI s i==47 with
 |true=>
  rw[h47,aI] at h;cases he:VE bf with
  |false=>rw[he,Bool.not_false,aI] at h;exact hE (by decide) (afp hi) h
  |true=>rw[he,zaN,aX] at h;exact hR h
 |false=>rw[h47,aX] at h;exact hR h
end
def apn(l:List Tk):ah (au l)=true:=by simp[ah,au,ajp,D.flat]
def adq(s:aJ):Nat->Nat->Int->List Tk->List Tk⊕Nat
 |0,_,_,acc=> .inl acc
 |f+1,i,bf,acc=>bif Nat.ble s.length i then .inl acc else bif agO (qI s i) then adq s f (i+1) bf acc else
  bif qI s i==92 && qI s ((i+1:Nat):Int)==10 then adq s f (i+2) bf acc else
  match H8 s i bf with
  |none=> .inr i
  |some p=>adq s f (i+p.2.length) p.1 (acc++[⟨p.1,p.2,(i:Int)⟩])
def ard(n:Nat)(l:List Tk):Prop:=∀t,t∈l->t.text.length<=n
def ard.snoc{n:Nat}{l:List Tk}{t:Tk}(h:ard n l)(ht:t.text.length<=n):ard n (l++[t]):=by
 intro u hu;rcases List.mem_append.1 hu with hu|hu
 ·exact h u hu
 ·rw[List.mem_singleton] at hu;rw[hu];exact ht
def ag6{s:aJ}(hs:s.length<=1048576):∀(f i:Nat) (bf:Int) (acc l:List Tk),i<=s.length->acc.length<=i->ard s.length acc->adq s f i bf acc=.inl l->l.length<=s.length/\ard s.length l
 |0,i,bf,acc,l,hi,hl,ht,h=>by cases h;exact⟨aB,ht⟩
 |f+1,i,bf,acc,l,hi,hl,ht,h=>by
  rw[adq] at h;cases hb:Nat.ble s.length i with
  |true=>rw[hb,aI] at h;cases h;exact⟨aB,ht⟩
  |false=>
   have hlt:i<s.length:=by
    have:¬(Nat.ble s.length i=true):=by rw[hb];simp
    rw[Nat.ble_eq] at this;omega
   rw[hb,aX] at h;cases h1:agO (qI s i) with
   |true=>rw[h1,aI] at h;exact ag6 hs f (i+1) bf acc l aB aB ht h
   |false=>
    rw[h1,aX] at h;cases h2:(qI s i==92 && qI s ((i+1:Nat):Int)==10) with
    |true=>
     rw[h2,aI] at h;have:i+1<s.length:=by
      by_cases hc:i+1<s.length
      ·exact hc
      ·rw[aaw (a:=((i+1:Nat):Int)) aB] at h2;rw[Ji] at h2;cases h2.2
     exact ag6 hs f (i+2) bf acc l aB aB ht h
    |false=>
     rw[h2,aX] at h;cases hk:H8 s i bf with
     |none=>rw[hk] at h;cases h
     |some p=>obtain⟨k,w⟩:=p;rw[hk] at h;have hp:=UD hs hlt bf hk;exact ag6 hs f _ _ _ l hp.2.2 (by rw[Au,zf];have:=hp.2.1;omega) (ht.snoc (by show w.length<=_;omega)) h
section
variable {s:aJ} (hs:s.length<=3000)
include hs
theorem asC(x y:Int):∀(f i:Nat) (bf:Int) (acc:List Tk),s.length<i+f->i<=s.length->acc.length<=i->
  match adq s f i bf acc with
  | .inl l=>∃b',M.qm s x y ((i:Int),bf,au acc)=some (.inr ((s.length:Int),b',au l))
  | .inr a=>M.qm s x y ((i:Int),bf,au acc)=some (.inl (a:Int))
 |0,i,bf,acc,hf,hi,hl=>absurd hf aB
 |f+1,i,bf,acc,hf,hi,hl=>by
  rw[adq]
  by_cases hlt:i<s.length
  ·have hb:Nat.ble s.length i=false:=by
    cases hb:Nat.ble s.length i with
    |false=>rfl
    |true=>rw[Nat.ble_eq] at hb;omega
   obtain⟨c,hc⟩:∃c,s[i]? =some c:=⟨s[i],by simp[hlt]⟩
   have hbc:qI s (i:Int)=(c.toNat:Int):=by rw[HY,hc]
   have hw1:i64.wrap ((i:Int)+1)=((i+1:Nat):Int):=by rw[bC aB aB];omega
   have hw2:i64.wrap ((i:Int)+2)=((i+2:Nat):Int):=by rw[bC aB aB];omega
   have hby:=λa=>Dc (s:=s) (by omega:s.length<=1048576) a
   have htk:=arb (s:=s) aB hlt bf;have hbody:M.Jg s x y ((i:Int),bf,au acc)=some (bif agO (qI s i) then .inl (((i+1:Nat):Int),bf,au acc) else
     bif qI s i==92 && qI s ((i+1:Nat):Int)==10 then .inl (((i+2:Nat):Int),bf,au acc) else
     match H8 s i bf with
     |none=> .inr (.inl (i:Int))
     |some p=> .inl (((i+p.2.length:Nat):Int),p.1,au (acc++[⟨p.1,p.2,(i:Int)⟩]))):=by
    have tail:((M.Am s (i:Int) bf).bind λr=>bif r.fst==0 then some (Sum.inr (Sum.inl (i:Int))) else
      bif(((au acc).length+[[D.int IntKind.i64 r.fst,D.str r.snd.fst,D.int IntKind.i64 r.snd.snd]].length) * 32).ble 140737488355328 then
      bif((au acc).length+[[D.int IntKind.i64 r.fst,D.str r.snd.fst,D.int IntKind.i64 r.snd.snd]].length).ble 140737488355328 then
       some (Sum.inl (i64.wrap ((i:Int)+(r.snd.fst.length:Int)),r.fst,au acc++[[D.int IntKind.i64 r.fst,D.str r.snd.fst,D.int IntKind.i64 r.snd.snd]])) else none else none)=
      some (match H8 s i bf with
       |none=>(Sum.inr (Sum.inl (i:Int)):(Int×Int×ay)⊕(Int⊕(Int×Int×ay)))
       |some p=> .inl (((i+p.2.length:Nat):Int),p.1,au (acc++[⟨p.1,p.2,(i:Int)⟩]))):=by
     rw[htk,aj];cases hk:H8 s i bf with
     |none=>rfl
     |some p=>obtain⟨k,w⟩:=p;have hp:=UD aB hlt bf hk;simp only[ara,dQ,X8,zln];rw[XB.2 hp.1,aX,bG aB,aI,bG aB,aI,bC aB aB];simp only[au,List.map_append];rfl
    simp only[M.Jg,M.Ey,M.CZ,dI,hc,aj,ag5,<-hbc,(ajc _).2,hw1,hw2,hby];rw[zdt aB,aI];cases agO (qI s i) with
    |true=>rfl
    |false=>
     rw[aX,aX];cases qI s i==92 with
     |true=>
      rw[aI,Bool.true_and];cases qI s ((i+1:Nat):Int)==10 with
      |true=>rfl
      |false=>exact tail
     |false=>exact tail
   rw[hb,aX];cases h1:agO (qI s i) with
   |true=>rw[h1,aI] at hbody;have:=asC x y f (i+1) bf acc aB aB aB;rw[aI];rw[M.qm] at this|-;rw[aY hbody];exact this
   |false=>
    rw[h1,aX] at hbody;rw[aX];cases h2:(qI s i==92 && qI s ((i+1:Nat):Int)==10) with
    |true=>
     rw[h2,aI] at hbody;have hlt2:i+1<s.length:=by
      by_cases hcc:i+1<s.length
      ·exact hcc
      ·rw[aaw (a:=((i+1:Nat):Int)) aB] at h2;rw[Ji] at h2;cases h2.2
     have:=asC x y f (i+2) bf acc aB aB aB;rw[aI];rw[M.qm] at this|-;rw[aY hbody];exact this
    |false=>
     rw[h2,aX] at hbody;rw[aX];cases hk:H8 s i bf with
     |none=>rw[hk] at hbody;rw[M.qm];exact aN hbody
     |some p=>obtain⟨k,w⟩:=p;rw[hk] at hbody;have hp:=UD aB hlt bf hk;have:=asC x y f (i+w.length) k (acc++[⟨k,w,(i:Int)⟩]) aB aB (by rw[Au,zf];omega);rw[M.qm] at this|-;simp only[] at hbody|-;rw[aY hbody];exact this
  ·have hb:Nat.ble s.length i=true:=by rw[Nat.ble_eq];omega
   rw[hb,aI];refine⟨bf, ?_⟩;rw[M.qm];refine aN ?_;simp only[M.Jg,M.Ey,M.CZ];rw[zD aB,aX,show(i:Int)=(s.length:Int) by omega]
theorem asD(x y:Int):∀(f i:Nat) (bf:Int) (acc:List Tk),s.length<i+f->i<=s.length->acc.length<=i->
  match adq s f i bf acc with
  | .inl l=>∃b',M.Bl s x y (bf,(i:Int),au acc)=some (.inr (b',(s.length:Int),au l))
  | .inr a=>M.Bl s x y (bf,(i:Int),au acc)=some (.inl (2,(a:Int)))
 |0,i,bf,acc,hf,hi,hl=>absurd hf aB
 |f+1,i,bf,acc,hf,hi,hl=>by
  rw[adq]
  by_cases hlt:i<s.length
  ·have hb:Nat.ble s.length i=false:=by
    cases hb:Nat.ble s.length i with
    |false=>rfl
    |true=>rw[Nat.ble_eq] at hb;omega
   obtain⟨c,hc⟩:∃c,s[i]? =some c:=⟨s[i],by simp[hlt]⟩
   have hbc:qI s (i:Int)=(c.toNat:Int):=by rw[HY,hc]
   have hw1:i64.wrap ((i:Int)+1)=((i+1:Nat):Int):=by rw[bC aB aB];omega
   have hw2:i64.wrap ((i:Int)+2)=((i+2:Nat):Int):=by rw[bC aB aB];omega
   have hby:=λa=>C9 (s:=s) (by omega:s.length<=1048576) a
   have htk:=auR (s:=s) aB hlt bf;have hbody:M.QY s x y (bf,(i:Int),au acc)=some (bif agO (qI s i) then .inl (bf,((i+1:Nat):Int),au acc) else
     bif qI s i==92 && qI s ((i+1:Nat):Int)==10 then .inl (bf,((i+2:Nat):Int),au acc) else
     match H8 s i bf with
     |none=> .inr (.inl (2,(i:Int)))
     |some p=> .inl (p.1,((i+p.2.length:Nat):Int),au (acc++[⟨p.1,p.2,(i:Int)⟩]))):=by
    have tail:((M.Ep s (i:Int) !(VE bf)).bind λr=>bif r.fst==0 then some (Sum.inr (Sum.inl (2,(i:Int)))) else
      bif((au acc).length:Int)==3000 then some (Sum.inr (Sum.inl (1,0))) else
      bif(((au acc).length+[[D.int IntKind.i64 r.fst,D.str r.snd.fst,D.int IntKind.i64 r.snd.snd]].length) * 32).ble 140737488355328 then
      bif((au acc).length+[[D.int IntKind.i64 r.fst,D.str r.snd.fst,D.int IntKind.i64 r.snd.snd]].length).ble 140737488355328 then
       some (Sum.inl (r.fst,i64.wrap ((i:Int)+(r.snd.fst.length:Int)),au acc++[[D.int IntKind.i64 r.fst,D.str r.snd.fst,D.int IntKind.i64 r.snd.snd]])) else none else none)=
      some (match H8 s i bf with
       |none=>(Sum.inr (Sum.inl (2,(i:Int))):(Int×Int×ay)⊕((Int×Int)⊕(Int×Int×ay)))
       |some p=> .inl (p.1,((i+p.2.length:Nat):Int),au (acc++[⟨p.1,p.2,(i:Int)⟩]))):=by
     rw[htk,aj];cases hk:H8 s i bf with
     |none=>rfl
     |some p=>obtain⟨k,w⟩:=p;have hp:=UD aB hlt bf hk;simp only[ara,dQ,X8,zln];rw[XB.2 hp.1,aX,show((acc.length:Int)==3000)=false from XB.2 aB,aX,bG aB,aI,bG aB,aI,bC aB aB];simp only[au,List.map_append];rfl
    simp only[M.QY,M.LZ,M.JQ,dI,hc,aj,ag5,<-hbc,(ajc _).1,hw1,hw2,hby,(aad bf).1];rw[zdt aB,aI];cases agO (qI s i) with
    |true=>rfl
    |false=>
     rw[aX,aX];cases qI s i==92 with
     |true=>
      rw[aI,Bool.true_and];cases qI s ((i+1:Nat):Int)==10 with
      |true=>rfl
      |false=>exact tail
     |false=>exact tail
   rw[hb,aX];cases h1:agO (qI s i) with
   |true=>rw[h1,aI] at hbody;have:=asD x y f (i+1) bf acc aB aB aB;rw[aI];rw[M.Bl] at this|-;rw[aY hbody];exact this
   |false=>
    rw[h1,aX] at hbody;rw[aX];cases h2:(qI s i==92 && qI s ((i+1:Nat):Int)==10) with
    |true=>
     rw[h2,aI] at hbody;have hlt2:i+1<s.length:=by
      by_cases hcc:i+1<s.length
      ·exact hcc
      ·rw[aaw (a:=((i+1:Nat):Int)) aB] at h2;rw[Ji] at h2;cases h2.2
     have:=asD x y f (i+2) bf acc aB aB aB;rw[aI];rw[M.Bl] at this|-;rw[aY hbody];exact this
    |false=>
     rw[h2,aX] at hbody;rw[aX];cases hk:H8 s i bf with
     |none=>rw[hk] at hbody;rw[M.Bl];exact aN hbody
     |some p=>obtain⟨k,w⟩:=p;rw[hk] at hbody;have hp:=UD aB hlt bf hk;have:=asD x y f (i+w.length) k (acc++[⟨k,w,(i:Int)⟩]) aB aB (by rw[Au,zf];omega);rw[M.Bl] at this|-;simp only[] at hbody|-;rw[aY hbody];exact this
  ·have hb:Nat.ble s.length i=true:=by rw[Nat.ble_eq];omega
   rw[hb,aI];refine⟨bf, ?_⟩;rw[M.Bl];refine aN ?_;simp only[M.QY,M.LZ,M.JQ];rw[zD aB,aX,show(i:Int)=(s.length:Int) by omega]
end
def aae(s:aJ):List Tk×Int×Int:=if s.length>3000 then([],1,0) else match adq s (s.length+1) 0 0 [] with
 | .inl l=>(l,0,0)
 | .inr a=>([],2,(a:Int))
def aA6(s:aJ):(aae s).1.length<=3000/\ard 3000 (aae s).1:=by
 have h0:ard 3000 []:=λt h=>by cases h
 unfold aae;split
 ·exact⟨Nat.zero_le _,h0⟩
 ·next hn=>
  cases hx:adq s (s.length+1) 0 0 [] with
  |inr a=>exact⟨Nat.zero_le _,h0⟩
  |inl l=>have:=ag6 (s:=s) aB _ 0 0 [] l (Nat.zero_le _) (Nat.zero_le _) (λt h=>by cases h) hx;exact⟨by show l.length<=3000;omega,λt ht=>by have:=this.2 t ht;omega⟩
def aEn(s:aJ):M.Rw s=some (au (aae s).1,(aae s).2.1,(aae s).2.2)/\M.Rx s=some (au (aae s).1,(aae s).2.1,(aae s).2.2):=by
 simp only[M.Rw,M.Xr,M.Rx,M.Xt,M.Hy,M.PK,aae]
 by_cases h:s.length>3000
 ·rw[if_pos h,zdt aB,aI,aI];exact⟨rfl,rfl⟩
 ·rw[if_neg h,zD aB,aX,aX];have h1:=asC (s:=s) aB 0 0 (s.length+1) 0 0 [] aB aB (by simp);have h2:=asD (s:=s) aB 0 0 (s.length+1) 0 0 [] aB aB (by simp);have e0:au []=[]:=rfl;rw[e0,adk] at h1 h2;cases hx:adq s (s.length+1) 0 0 [] with
  |inl l=>rw[hx] at h1 h2;obtain⟨b1,h1⟩:=h1;obtain⟨b2,h2⟩:=h2;rw[h1,h2];simp only[aj,iO,letE,apn,aI];refine⟨?_, ?_⟩<;>first|rfl|trivial
  |inr a=>rw[hx] at h1 h2;rw[h1,h2];simp only[aj,iO,letE];refine⟨?_, ?_⟩<;>first|rfl|trivial
end Go.Proofs.YtoaeipkhadpbiaaGreatDoor
