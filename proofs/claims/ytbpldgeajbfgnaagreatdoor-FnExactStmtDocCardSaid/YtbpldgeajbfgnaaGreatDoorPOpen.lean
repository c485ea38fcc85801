import Derived.Test.YtbpldgeajbfgnaaGreatDoorXSpec4
import Derived.Test.YtbpldgeajbfgnaaGreatDoorXDsz
import Derived.Shelf.Utf8.RuneCount
import Derived.Shelf.Strings.Search1
import Derived.Shelf.Strings.Search2
import Derived.Shelf.Strings.Search3
import Derived.Shelf.Strings.Count
import Derived.Shelf.LaysM
import Derived.Shelf.Strings.Shaped
import Derived.Shelf.Bits.Mul64
import Derived.Shelf.Unicode.DecodeSlow
import Derived.Shelf.Unicode.DecodeAny
import Derived.Test.YtbpldgeajbfgnaaGreatDoorProg
import Derived.Test.YtbpldgeajbfgnaaGreatDoorPForms
import Derived.Test.YtbpldgeajbfgnaaGreatDoorVm4
import Derived.Test.YtbpldgeajbfgnaaGreatDoorZFields
import Derived.Test.YtbpldgeajbfgnaaGreatDoorRows
namespace Go.Proofs.YtbpldgeajbfgnaaGreatDoor
set_option linter.unusedVariables false
set_option linter.unusedSimpArgs false
open Go Go.Vm
def dE(t:Tn):ak:=fB true (t.flat 0)
def acT(t:Tn):Row:=[D.sl true 4 (dE t)]
theorem jY(s:aF):M.aJ s=some (dE (lI s)):=by simp[M.aJ,M.Ij,dE,lI,Tn.flat,kZ,ends,fB,TD,encI]
theorem amL:M.oK=some (dE Qm):=by simp[M.oK,M.Ik,dE,Qm,Tn.flat,kZ,ends,fB,TD,encI]
theorem asW:M.qO=some (dE Pj):=by simp[M.qO,M.Iw,dE,Pj,Tn.flat,kZ,ends,fB,TD,encI]
theorem mM(t:Tn):[[D.sl true 4 (dE t)]].all dM=true:=aeo _
theorem Oh(L:List Tn):aA (L.map acT)=o9 L:=by
 induction L with
 |nil=>rfl
 |cons t L ih=>
  have h1:qZ (acT t)=[D.sl false 4 (fB false (t.flat 0))]:=by simp[acT,qZ,D.fz,dE]
  rw[List.map_cons,aA,ih,h1]
  rfl
section
variable (a b c d e f g h:Tn)
theorem fz1:aA [[D.sl true 4 (dE a)]]=o9 [a]:=Oh [a]
theorem fz2:aA [[D.sl true 4 (dE a)],[D.sl true 4 (dE b)]]=o9 [a,b]:=Oh [a,b]
theorem fz3:aA [[D.sl true 4 (dE a)],[D.sl true 4 (dE b)],[D.sl true 4 (dE c)]]=o9 [a,b,c]:=Oh [a,b,c]
theorem fz4:aA [[D.sl true 4 (dE a)],[D.sl true 4 (dE b)],[D.sl true 4 (dE c)],[D.sl true 4 (dE d)]]=o9 [a,b,c,d]:=Oh [a,b,c,d]
theorem fz5:aA [[D.sl true 4 (dE a)],[D.sl true 4 (dE b)],[D.sl true 4 (dE c)],[D.sl true 4 (dE d)],[D.sl true 4 (dE e)]]=o9 [a,b,c,d,e]:=Oh [a,b,c,d,e]
theorem fz8:aA [[D.sl true 4 (dE a)],[D.sl true 4 (dE b)],[D.sl true 4 (dE c)],[D.sl true 4 (dE d)],[D.sl true 4 (dE e)],[D.sl true 4 (dE f)],[D.sl true 4 (dE g)],[D.sl true 4 (dE h)]]=o9 [a,b,c,d,e,f,g,h]:=Oh [a,b,c,d,e,f,g,h]
end
theorem tC(ts:List Tn)(h:sizes ts≤90000000):M.aT 6 0 (o9 ts)=some (dE (ql ts)):=amE 6 0 ts h
theorem afO(t:Tn)(h:sizes [t]≤90000000):M.aT 4 4 (o9 [t])=some (dE (Uk t)):=amE 4 4 [t] h
theorem asX(t:Tn)(h:sizes [t]≤90000000):M.aT 5 0 (o9 [t])=some (dE (ao0 t)):=amE 5 0 [t] h
theorem alC(p:Ps):∀ks:List Tn,sizes (Vs p ks)+3 * ks.length≤16 * sizes ks
 |[]=>by simp[Vs,sizes]
 |t::ts=>by
  have h1:=lU t p
  have h2:=alC p ts
  simp only[Vs,List.map_cons,sizes,List.length_cons] at h2⊢
  omega
def DS(t:Tn):Prop:=∀(o:Bool) (f:Nat) (p:Ps) (l:List Nd) (b:Nat),l.length≤1048576→Lies l b t→5 * t.size≤f→lu p=true→
 M.yY f (dP o l) false ((b+sizes t.kids:Nat):Int) p.level p.kW p.o7 p.o8 p.jX=some (dE (qh t p))
theorem Vq{u:Tn}{o:Bool}{l:List Nd}{b:Nat}(h:Lies l b u):idx (dP o l) ((b+sizes u.kids:Nat):Int)=some (KP o ⟨u.kind,u.op,u.text,u.other,ends u.kids b⟩):=by rw[fG,mV,Lies.root' h];rfl
theorem azt{u:Tn}(hS:DS u){o:Bool}{f:Nat}{p:Ps}{l:List Nd}{b:Nat}(hl:l.length≤1048576)(h:Lies l b u)(hf:5 * u.size+1≤f)(hp:lu p=true):
  M.oV f (dP o l) false ((b+sizes u.kids:Nat):Int) p.level p.kW p.o7 p.o8 p.jX=some (dE (zB u p)):=by
 obtain⟨g,rfl⟩:∃g,f=g+1:=⟨f - 1,by omega⟩
 have hlt:=h.lt
 have h1:=hS o g p l b hl h (by omega) hp
 have h2:=hS o g .top l b hl h (by omega) rfl
 have hb:=Gx u .top
 simp only[Ps.top] at h2 hb
 rw[M.afg]
 simp only[M.Ea,Vq h,ah,EY,GX,GY,GZ,EL,(aap u.kind u.op u.text u.other _ p).2,zB]
 cases fits u.kind u.op p with
 |true=>simp only[cond_true,h1,ah]
 |false=>
  have hs:sizes [lI [40],qh u ⟨1,false,false,false,false⟩,lI [41]]≤90000000:=by simp only[sizes,iD];omega
  simp only[cond_false,jY,AP.2,ah,h2,fz3,tC _ hs,mM,cond_true,Ps.top]
theorem amM{ks:List Tn}(ih:∀u,u∈ks→DS u){o:Bool}{f:Nat}{p:Ps}(hp:lu p=true){l:List Nd}{b:Nat}(hl:l.length≤1048576)(hat:At l b ks)(hf:5 * sizes ks+2≤f)(hu:sizes ks≤1048575):
  M.uZ f (dP o l) false (encI (ends ks b)) p.level p.kW p.o7 p.o8 p.jX=some (dE (KT p ks)):=by
 obtain⟨g,rfl⟩:∃g,f=g+1:=⟨f - 1,by omega⟩
 have hkl:=lQ ks
 have hpz:=alC p ks
 have hcz:=Yd (Vs p ks) true
 rw[Xp] at hcz
 have hloop:=jC (b:=M.BX (M.oV g) (encI (ends ks b)) (dP o l) false p.level p.kW p.o7 p.o8 p.jX) (t:=((ks.length:Int),(NK true (Vs p ks)).map acT)) (fun j=>((j:Int),(NK true (Vs p (ks.take j))).map acT)) ks.length
  (by
   intro j hj
   obtain⟨u,hu'⟩:∃u,ks[j]? =some u:=⟨ks[j],by simp[hj]⟩
   have hus:=jD (List.mem_of_getElem? hu')
   have ha:=azt (ih u (List.mem_of_getElem? hu')) (o:=o) (f:=g) (p:=p) hl (hat j u hu') (by omega) hp
   have hi:=lN (b:=b) hu'
   have hcl:=acN (Vs p (ks.take j)) true
   rw[Xp,List.length_take] at hcl
   have hw:IntKind.i64.wrap ((j:Int)+1)=((j+1:Nat):Int):=by rw[aP (by omega) (by omega)];omega
   have e:Vs p (ks.take (j+1))=Vs p (ks.take j)++[zB u p]:=by rw[lG hu'];simp[Vs]
   rw[e,Yj]
   simp only[M.BX,M.xk,dw,gZ,jY,amL,hi,Ll,ha,ah,List.length_append,List.length_map,List.length_cons,List.length_nil,hw]
   rw[decide_eq_true (by omega),cond_true]
   by_cases h0:j=0
   ·subst h0
    rw[decide_eq_false (by omega),cond_false,eY (by omega),cond_true,eY (by omega),cond_true]
    rfl
   ·have z:(Vs p (ks.take j)).isEmpty=false:=by
     cases hq:Vs p (ks.take j) with
     |nil=>
      have:=Xp p (ks.take j)
      rw[hq,List.length_nil,List.length_take] at this
      omega
     |cons _ _=>rfl
    rw[decide_eq_true (by omega),cond_true,eY (by omega),cond_true,eY (by omega),cond_true,eY (by omega),cond_true,eY (by omega),cond_true,z,Bool.false_and,cond_false,List.map_append,List.append_assoc]
    rfl)
  (by
   simp only[M.BX,M.xk,dw,gZ]
   rw[decide_eq_false (by omega),cond_false,List.take_length]) 0 (Nat.zero_le _)
 have JI:M.Fv (M.oV g) (encI (ends ks b)) (dP o l) false p.level p.kW p.o7 p.o8 p.jX (0,[])=some ((ks.length:Int),(NK true (Vs p ks)).map acT):=hloop
 have z1:sizes [ql (NK true (Vs p ks))]≤90000000:=by simp only[sizes,qX];omega
 have z2:sizes [Uk (ql (NK true (Vs p ks)))]≤90000000:=by simp only[sizes,qX,Pm];omega
 rw[M.abH]
 simp only[M.yR,JI,ah,Oh,tC _ (show sizes (NK true (Vs p ks))≤90000000 by omega),mM,cond_true,fz1,afO _ z1,asX _ z2]
 rfl
theorem Xq{ks:List Tn}(ih:∀u,u∈ks→DS u){o:Bool}{f:Nat}{l:List Nd}{b:Nat}{k op:Int}{x y:aF}{p:Ps}{j:Nat}{u:Tn}(he:1≤k∧k≤15)(hc:Cnt k op y ks.length)(hp:lu p=true)(hl:l.length≤1048576)(hat:At l b ks)(hf:5 * sizes ks+1≤f)(hu:sizes ks≤1048575)(hj:ks[j]? =some u)(ht:nI k j=false):
  (idx (encI (ends ks b)) (j:Int)=some [D.int .i64 ((b+sizes (ks.take j)+sizes u.kids:Nat):Int)]∧
   M.fD k op x y (encI (ends ks b)) (j:Int) p.level p.kW p.o7 p.o8 p.jX=some (dZ k op ks.length j p).yE∧
   M.oV f (dP o l) false ((b+sizes (ks.take j)+sizes u.kids:Nat):Int) (dZ k op ks.length j p).yE.1 (dZ k op ks.length j p).yE.2.1 (dZ k op ks.length j p).yE.2.2.1 (dZ k op ks.length j p).yE.2.2.2.1 (dZ k op ks.length j p).yE.2.2.2.2=some (dE (I7 k op ks.length p j u)))∧(I7 k op ks.length p j u).size+3≤16 * u.size:=by
 have hkl:=lQ ks
 have hus:=jD (List.mem_of_getElem? hj)
 have hjl:j<ks.length:=(List.getElem?_eq_some_iff.1 hj).1
 have hen:(encI (ends ks b)).length=ks.length:=by rw[dw,gZ]
 have hlv:lvl k op≠0:=by have:=Og he hc;omega
 refine⟨⟨lN hj, ?_, ?_⟩,aen (Gx u)⟩
 ·have h:=SA (x:=x) (r:=encI (ends ks b)) (j:=j) (p:=p) he (by rw[hen];exact hc) (by omega) (by omega)
  rw[hen] at h
  exact h
 ·have h:=azt (ih u (List.mem_of_getElem? hj)) (o:=o) (f:=f) (p:=dZ k op ks.length j p) hl (hat j u hj) (by omega) (sG hp hjl hlv)
  rw[I7,ht,Bool.false_or]
  exact h
theorem afP{ks:List Tn}(ih:∀u,u∈ks→DS u){o:Bool}{f:Nat}{l:List Nd}{b:Nat}(hl:l.length≤1048576)(hat:At l b ks)(hf:5 * sizes ks+3≤f)(hu:sizes ks≤1048575)(k op:Int)(x y:aF)(hx:x.length≤1048576)(c d:UInt8):
  M.Ba f (dP o l) false k op x y (encI (ends ks b)) [c] [d]=some (dE (ql [lI (x++[c]),KT .top ks,lI [d]])):=by
 obtain⟨g,rfl⟩:∃g,f=g+1:=⟨f - 1,by omega⟩
 have h1:=amM ih (o:=o) (f:=g) (p:=.top) rfl (b:=b) hl hat (by omega) hu
 have h2:=Gy .top ks
 simp only[Ps.top] at h1 h2
 have hs:sizes [lI (x++[c]),KT ⟨1,false,false,false,false⟩ ks,lI [d]]≤90000000:=by simp only[sizes,iD];omega
 rw[M.ZG]
 simp(disch:=omega) only[M.vV,List.length_cons,List.length_nil,xW,cond_true,jY,AP.2,h1,ah,fz3,tC _ hs,mM,Ps.top]
theorem acU{u:Tn}(hS:DS u)(hok:ED u)(he:RX u)(hh:13≤lvl u.kind u.op){o:Bool}{f:Nat}{l:List Nd}{b:Nat}(hl:l.length≤1048576)(h:Lies l b u)(hf:5 * u.size+1≤f)(p:Ps)(hp:lu p=true):
  M.yX f (dP o l) false ((b+sizes u.kids:Nat):Int)=some (dE (qh u p)):=by
 obtain⟨g,rfl⟩:∃g,f=g+1:=⟨f - 1,by omega⟩
 have h1:=hS o g ⟨14,false,false,false,false⟩ l b hl h (by omega) rfl
 rw[amG u hok hh he _ p rfl hp] at h1
 rw[M.X4]
 simp only[M.uG,h1,ah]
theorem aJ1{ks:List Tn}(ih:∀u,u∈ks→DS u){o:Bool}{f:Nat}{l:List Nd}{b:Nat}{op:Int}{x y:aF}{p:Ps}(hc:Cnt 12 op y ks.length)(hp:lu p=true)(hl:l.length≤1048576)(hat:At l b ks)(hf:5 * sizes ks+2≤f)(hu:sizes ks≤1048575)(gp:Bool):
  M.EW f (dP o l) false 12 op x y (encI (ends ks b)) p.level p.kW p.o7 p.o8 p.jX=some (dE (Vh 12 op ks.length x gp (qI 12 op ks.length p ks 0))):=by
 obtain⟨g,rfl⟩:∃g,f=g+1:=⟨f - 1,by omega⟩
 rw[M.adk]
 obtain⟨u,v,rfl⟩:=Gz (hc.two (by omega))
 have hsz:=sz2 u v
 have hI:=aas (hc.bin rfl).1
 have hsl:=JK op
 obtain⟨⟨a1,a2,a3⟩,a4⟩:=Xq ih (o:=o) (f:=g) (b:=b) (k:=12) (op:=op) (x:=x) (y:=y) (p:=p) (j:=0) (u:=u) (by omega) hc hp hl hat (by omega) hu rfl (SB 12 (by omega) 0)
 obtain⟨⟨b1,b2,b3⟩,b4⟩:=Xq ih (o:=o) (f:=g) (b:=b) (k:=12) (op:=op) (x:=x) (y:=y) (p:=p) (j:=1) (u:=v) (by omega) hc hp hl hat (by omega) hu rfl (SB 12 (by omega) 1)
 rw[qH] at a1 a2
 rw[Qi] at b1 b2
 rw[afK]
 generalize (dZ 12 op [u,v].length 0 p).yE=q0 at a2 a3
 generalize I7 12 op [u,v].length p 0 u=K0 at a3 a4⊢
 generalize (dZ 12 op [u,v].length 1 p).yE=q1 at b2 b3
 generalize I7 12 op [u,v].length p 1 v=K1 at b3 b4⊢
 by_cases h99:op=99
 ·subst h99
  have hs:sizes [K0,lI [32],K1]≤90000000:=by simp only[sizes,iD];omega
  simp only[M.qW,a1,a2,a3,b1,b2,b3,Ll,ah,Int.reduceBEq,cond_true,cond_false,jY,fz3,tC _ hs,mM]
  rfl
 ·have e1:(op==99)=false:=by simpa using h99
  have hs:sizes [K0,lI ([32]++spell op),Qm,K1]≤90000000:=by simp only[sizes,iD,RY];omega
  have z1:sizes [ql [K0,lI ([32]++spell op),Qm,K1]]≤90000000:=by simp only[sizes,iD,RY,qX];omega
  have z2:sizes [Uk (ql [K0,lI ([32]++spell op),Qm,K1])]≤90000000:=by simp only[sizes,iD,RY,qX,Pm];omega
  by_cases h45:op=45
  ·subst h45
   simp(disch:=omega) only[M.qW,a1,a2,a3,b1,b2,b3,Ll,ah,Int.reduceBEq,cond_true,cond_false,(lT 45 hI).1,jY,amL,fz4,fz1,tC _ hs,afO _ z1,asX _ z2,mM,xW]
   rfl
  ·have e2:(op==45)=false:=by simpa using h45
   by_cases h44:op=44
   ·subst h44
    simp(disch:=omega) only[M.qW,a1,a2,a3,b1,b2,b3,Ll,ah,Int.reduceBEq,cond_true,cond_false,(lT 44 hI).1,jY,amL,fz4,fz1,tC _ hs,afO _ z1,asX _ z2,mM,xW]
    rfl
   ·have e3:(op==44)=false:=by simpa using h44
    have hs3:sizes [K0,lI ([32]++spell op++[32]),K1]≤90000000:=by simp only[sizes,iD];omega
    simp(disch:=omega) only[M.qW,a1,a2,a3,b1,b2,b3,Ll,ah,e1,e2,e3,cond_true,cond_false,(lT op hI).1,List.length_append,List.length_cons,List.length_nil,jY,fz3,tC _ hs3,mM,xW]
    simp[Vh,e1,e2,e3,vT]
set_option maxHeartbeats 4000000 in
theorem acV(t:Tn):ED t→RX t→sml t→t.size≤1048576→DS t:=by
 refine Tn.ind (P:=fun t=>ED t→RX t→sml t→t.size≤1048576→DS t) ?_ t
 intro k op x y ks ih hok he hsm hsz
 intro o f p l b hl h hf hp
 have aTH:=h
 simp only[RX,Tn.kind] at he
 have hc:=Lu hok
 rw[sml] at hsm
 obtain⟨⟨hx,hy⟩,hss⟩:=hsm
 rw[Tn.size] at hsz hf
 have hkE:∀u,u∈ks→ED u∧RX u∧sml u:=by
  intro u hu
  obtain⟨i,hi⟩:=List.mem_iff_getElem?.1 hu
  obtain⟨h1,h2⟩:=Xm hok he hi
  exact⟨h2,h1,Gf hss hu⟩
 have ih':∀u,u∈ks→DS u:=by
  intro u hu
  obtain⟨h1,h2,h3⟩:=hkE u hu
  have:=jD hu
  exact ih u hu h1 h2 h3 (by omega)
 have hat:At l b ks:=fun j u hj=>Lies.Vg h hj
 obtain⟨g,rfl⟩:∃g,f=g+1:=⟨f - 1,by omega⟩
 have hr:idx (dP o l) ((b+sizes ks:Nat):Int)=some (KP o ⟨k,op,x,y,ends ks b⟩):=by
  have hr0:l[b+sizes ks]? =some ⟨k,op,x,y,ends ks b⟩:=Lies.root' h
  rw[fG,mV,hr0];rfl
 have hkl:=lQ ks
 have tgt:∀{u:Tn},ks[0]? =some u→cls k op ks.length 0=6→ED u∧RX u∧13≤lvl u.kind u.op:=by
  intro u hu hcls
  obtain⟨h1,h2⟩:=Xm hok he hu
  obtain⟨h3,_⟩:=Ls hok hu
  rw[hcls] at h3
  exact⟨h2,h1,(afF h3).1⟩
 rw[M.abI,Tn.kids]
 have hk:k=1∨k=2∨k=3∨k=4∨k=5∨k=7∨k=8∨k=6∨k=9∨k=10∨k=11∨k=13∨k=15∨k=12∨k=14:=by omega
 rw[qh]
 rcases hk with rfl|rfl|rfl|rfl|rfl|rfl|rfl|rfl|rfl|rfl|rfl|rfl|rfl|rfl|rfl
 ·simp only[M.fZ,hr,ah,EY,GX,GY,GZ,EL,M.dJ,M.dD,Int.reduceBEq,Int.reduceBNe,cond_true,cond_false,jY]
  rfl
 ·simp only[M.fZ,hr,ah,EY,GX,GY,GZ,EL,M.dJ,M.dD,Int.reduceBEq,Int.reduceBNe,cond_true,cond_false,jY]
  rfl
 ·simp only[M.fZ,hr,ah,EY,GX,GY,GZ,EL,M.dJ,M.dD,Int.reduceBEq,Int.reduceBNe,cond_true,cond_false,jY]
  rfl
 ·simp only[M.fZ,hr,ah,EY,GX,GY,GZ,EL,M.dJ,M.dD,Int.reduceBEq,Int.reduceBNe,cond_true,cond_false,jY]
  rfl
 ·have a1:=afP ih' (o:=o) (f:=g) (b:=b) hl hat (by omega) (by omega) 5 op x y hx 91 93
  rw[KY hp (.inl rfl) (fun j=>by simp[nI])]
  simp only[M.fZ,hr,ah,EY,GX,GY,GZ,EL,M.dJ,M.dD,Int.reduceBEq,Int.reduceBNe,cond_true,cond_false,a1]
  rfl
 ·have a1:=afP ih' (o:=o) (f:=g) (b:=b) hl hat (by omega) (by omega) 7 op x y hx 40 41
  rw[KY hp (.inl rfl) (fun j=>by simp[nI])]
  simp only[M.fZ,hr,ah,EY,GX,GY,GZ,EL,M.dJ,M.dD,Int.reduceBEq,Int.reduceBNe,cond_true,cond_false,a1]
  rfl
 ·have a1:=afP ih' (o:=o) (f:=g) (b:=b) hl hat (by omega) (by omega) 8 op x y hx 40 41
  rw[KY hp (.inl rfl) (fun j=>by simp[nI])]
  simp only[M.fZ,hr,ah,EY,GX,GY,GZ,EL,M.dJ,M.dD,Int.reduceBEq,Int.reduceBNe,cond_true,cond_false,a1]
  rfl
 ·obtain⟨u,rfl⟩:=List.length_eq_one_iff.1 (hc.one (by omega))
  have hs1:=Zb u
  obtain⟨⟨a1,a2,a3⟩,a4⟩:=Xq ih' (o:=o) (f:=g) (b:=b) (k:=6) (op:=op) (x:=x) (y:=y) (p:=p) (j:=0) (u:=u) (by omega) hc hp hl hat (by omega) (by omega) rfl (SB 6 (by omega) 0)
  rw[qH] at a1 a2
  rw[Oz]
  generalize (dZ 6 op [u].length 0 p).yE=q0 at a2 a3
  generalize I7 6 op [u].length p 0 u=K0 at a3 a4⊢
  have hs:sizes [lI [36],K0]≤90000000:=by simp only[sizes,iD];omega
  simp only[M.fZ,hr,ah,EY,GX,GY,GZ,EL,M.dJ,M.dD,Int.reduceBEq,Int.reduceBNe,cond_true,cond_false,a1,a2,a3,Ll,jY,fz2,tC _ hs,mM]
  rfl
 ·obtain⟨u,rfl⟩:=List.length_eq_one_iff.1 (hc.one (by omega))
  have hs1:=Zb u
  have hI:I64 op:=by rcases hc.stp (by omega) with rfl|rfl<;>constructor<;>decide
  have a1:=lN (ks:=[u]) (b:=b) (j:=0) (u:=u) rfl
  obtain⟨t1,t2,t3⟩:=tgt (u:=u) rfl (by simp[cls])
  have a3:=acU (ih' u (by simp)) t1 t2 t3 (o:=o) (f:=g) (p:=dZ 9 op [u].length 0 p) hl (hat 0 u rfl) (by omega) (sG hp (by simp) (by simp[lvl]))
  have a4:=Gx u (dZ 9 op [u].length 0 p)
  rw[qH] at a1
  rw[Oz,I7,show nI 9 0=true from rfl,Bool.true_or,cond_true]
  generalize qh u (dZ 9 op [u].length 0 p)=K0 at a3 a4⊢
  have hs:sizes [lI (spell op),K0]≤90000000:=by simp only[sizes,iD];omega
  simp only[M.fZ,hr,ah,EY,GX,GY,GZ,EL,M.dJ,M.dD,Int.reduceBEq,Int.reduceBNe,cond_true,cond_false,a1,a3,(lT op hI).1,Ll,jY,fz2,tC _ hs,mM]
  rfl
 ·obtain⟨u,rfl⟩:=List.length_eq_one_iff.1 (hc.one (by omega))
  have hs1:=Zb u
  have hI:I64 op:=by rcases hc.stp (by omega) with rfl|rfl<;>constructor<;>decide
  have a1:=lN (ks:=[u]) (b:=b) (j:=0) (u:=u) rfl
  obtain⟨t1,t2,t3⟩:=tgt (u:=u) rfl (by simp[cls])
  have a3:=acU (ih' u (by simp)) t1 t2 t3 (o:=o) (f:=g) (p:=dZ 10 op [u].length 0 p) hl (hat 0 u rfl) (by omega) (sG hp (by simp) (by simp[lvl]))
  have a4:=Gx u (dZ 10 op [u].length 0 p)
  rw[qH] at a1
  rw[Oz,I7,show nI 10 0=true from rfl,Bool.true_or,cond_true]
  generalize qh u (dZ 10 op [u].length 0 p)=K0 at a3 a4⊢
  have hs:sizes [K0,lI (spell op)]≤90000000:=by simp only[sizes,iD];omega
  simp only[M.fZ,hr,ah,EY,GX,GY,GZ,EL,M.dJ,M.dD,Int.reduceBEq,Int.reduceBNe,cond_true,cond_false,a1,a3,(lT op hI).1,Ll,jY,fz2,tC _ hs,mM]
  rfl
 ·obtain⟨u,rfl⟩:=List.length_eq_one_iff.1 (hc.one (by omega))
  have hs1:=Zb u
  obtain⟨u1,u2,u3⟩:=hkE u (by simp)
  have hI:I64 op:=by rcases hc.una (by omega) with rfl|rfl|rfl<;>constructor<;>decide
  have ihS:∀v,v∈[u]→PS v:=by intro v hv;rw[List.mem_singleton.1 hv];exact ao8 u u1 u2 (by omega)
  obtain⟨⟨a1,a2,a3⟩,a4⟩:=Xq ih' (o:=o) (f:=g) (b:=b) (k:=11) (op:=op) (x:=x) (y:=y) (p:=p) (j:=0) (u:=u) (by omega) hc hp hl hat (by omega) (by omega) rfl (SB 11 (by omega) 0)
  obtain⟨⟨c1,c2,c3⟩,c4⟩:=Ul ihS (o:=o) (f:=5 * sizes [u]+1) (b:=b) (k:=11) (op:=op) (x:=x) (y:=y) (p:=p) (j:=0) (u:=u) (by omega) hc hp hl hat (by omega) (by omega) rfl (SB 11 (by omega) 0)
  have c3':=M.adg c3
  rw[qH] at a1 a2
  rw[Oz,LC]
  have hne:=anR (k:=11) (op:=op) (n:=[u].length) (p:=p) (j:=0) u1 u2
  have aJ2:=asM (k:=11) (op:=op) (n:=[u].length) (p:=p) (j:=0) u3
  clear c3 c2
  generalize (dZ 11 op [u].length 0 p).yE=q0 at a2 a3 c3'
  generalize I7 11 op [u].length p 0 u=K0 at a3 a4⊢
  generalize qY 11 op [u].length p 0 u=K at hne aJ2 c3'⊢
  cases K with
  |nil=>exact absurd rfl hne
  |cons t0 K=>
   have hsl:=JK op
   have hg:M.qN op (spell op) 0 t0.kind t0.text t0.at_=some (Dz (tok op) t0):=Yk (tok op) t0 (by show(spell op).length≤_;omega) (by have:=aJ2 t0 List.mem_cons_self;omega)
   have i0:idx (kF (t0::K)) 0=some (abl t0):=rfl
   have i1:(kF (t0::K))[0]? =some (abl t0):=rfl
   have hs:sizes [lI (spell op),K0]≤90000000:=by simp only[sizes,iD];omega
   have hs2:sizes [lI (spell op++[32]),K0]≤90000000:=by simp only[sizes,iD];omega
   have ha:Vh 11 op [u].length x (ael op [t0::K]) [K0]=ql [lI (bif Dz (tok op) t0 then spell op++[32] else spell op),K0]:=rfl
   rw[ha]
   simp(disch:=omega) only[M.fZ,hr,ah,EY,GX,GY,GZ,EL,M.dJ,M.dD,Int.reduceBEq,Int.reduceBNe,cond_true,cond_false,a1,a2,a3,c3',i0,i1,cT0,cT1,cT2,hg,(lT op hI).1,(kQ op hI).2,Ll,jY,fz2,tC _ hs,tC _ hs2,mM,xW]
   cases Dz (tok op) t0<;>rfl
 ·obtain⟨u,hu⟩:∃u,ks[0]? =some u:=by
   have:=hc.some_ (by omega)
   exact⟨ks[0],by simp⟩
  obtain⟨⟨a1,a2,a3⟩,a4⟩:=Xq ih' (o:=o) (f:=g) (b:=b) (k:=13) (op:=op) (x:=x) (y:=y) (p:=p) (j:=0) (u:=u) (by omega) hc hp hl hat (by omega) (by omega) hu (SB 13 (by omega) 0)
  have hus:=jD (List.mem_of_getElem? hu)
  rw[qH] at a1 a2
  have hel:(encI (ends ks b)).length=ks.length:=by rw[dw,gZ]
  cases hm:Nat.blt 1 ks.length with
  |true=>
   have b1:=amM ih' (o:=o) (f:=g) (p:=.top) rfl (b:=b) hl hat (by omega) (by omega)
   have b2:=Gy .top ks
   simp only[Ps.top] at b1 b2
   have e1:((ks.length:Int)==1)=false:=by rw[Nat.blt_eq] at hm;rw[beq_eq_false_iff_ne];omega
   have hs:sizes [lI [40],KT ⟨1,false,false,false,false⟩ ks,lI ([41,32,105,110,32]++x)]≤90000000:=by simp only[sizes,iD];omega
   rw[KY hp (.inr ⟨rfl,hm,by simp[lvl]⟩) (fun j=>by simp[nI])]
   simp(disch:=omega) only[M.fZ,hr,ah,EY,GX,GY,GZ,EL,M.dJ,M.dD,Int.reduceBEq,Int.reduceBNe,cond_true,cond_false,hel,e1,jY,AP.2,b1,fz3,tC _ hs,mM,xW]
   simp[Vh,hm,alA,Ps.top]
  |false=>
   have h1:ks.length=1:=by
    have h2:=hc.some_ (by omega)
    have h3:¬1<ks.length:=by rw[←Nat.blt_eq,hm];simp
    omega
   obtain⟨u',rfl⟩:=List.length_eq_one_iff.1 h1
   obtain rfl:u'=u:=by simpa using hu
   rw[Oz]
   have e1:(([u'].length:Int)==1)=true:=rfl
   generalize (dZ 13 op [u'].length 0 p).yE=q0 at a2 a3
   generalize I7 13 op [u'].length p 0 u'=K0 at a3 a4⊢
   have hs:sizes [K0,lI ([32,105,110,32]++x)]≤90000000:=by simp only[sizes,iD];omega
   simp(disch:=omega) only[M.fZ,hr,ah,EY,GX,GY,GZ,EL,M.dJ,M.dD,Int.reduceBEq,Int.reduceBNe,cond_true,cond_false,hel,e1,a1,a2,a3,Ll,jY,fz2,tC _ hs,mM,xW]
   rfl
 ·obtain⟨u,v,rfl⟩:=Gz (hc.two (by omega))
  have hsv:=sz2 u v
  have hI:I64 op:=by rcases hc.asg rfl with rfl|h<;>constructor<;>omega
  have hsl:=JK op
  have a1:=lN (ks:=[u,v]) (b:=b) (j:=0) (u:=u) rfl
  obtain⟨t1,t2,t3⟩:=tgt (u:=u) rfl (by simp[cls])
  have a3:=acU (ih' u (by simp)) t1 t2 t3 (o:=o) (f:=g) (p:=dZ 15 op [u,v].length 0 p) hl (hat 0 u rfl) (by omega) (sG hp (by simp) (by simp[lvl]))
  have a4:=Gx u (dZ 15 op [u,v].length 0 p)
  obtain⟨⟨b1,b2,b3⟩,b4⟩:=Xq ih' (o:=o) (f:=g) (b:=b) (k:=15) (op:=op) (x:=x) (y:=y) (p:=p) (j:=1) (u:=v) (by omega) hc hp hl hat (by omega) (by omega) rfl rfl
  rw[qH] at a1
  rw[Qi] at b1 b2
  rw[afK]
  conv=>rhs;rw[I7,show nI 15 0=true from rfl,Bool.true_or,cond_true]
  generalize qh u (dZ 15 op [u,v].length 0 p)=K0 at a3 a4⊢
  generalize (dZ 15 op [u,v].length 1 p).yE=q1 at b2 b3
  generalize I7 15 op [u,v].length p 1 v=K1 at b3 b4⊢
  have hs3:sizes [K0,lI ([32]++spell op++[32]),K1]≤90000000:=by simp only[sizes,iD];omega
  simp(disch:=omega) only[M.fZ,hr,ah,EY,GX,GY,GZ,EL,M.dJ,M.dD,Int.reduceBEq,Int.reduceBNe,cond_true,cond_false,a1,a3,b1,b2,b3,(lT op hI).1,Ll,List.length_append,List.length_cons,List.length_nil,jY,fz3,tC _ hs3,mM,xW]
  simp[Vh,vT]
 ·have a1:=aJ1 ih' (o:=o) (f:=g) (b:=b) (op:=op) (x:=x) (y:=y) (p:=p) hc hp hl hat (by omega) (by omega) (ael op (jg 12 op ks.length p ks 0))
  simp only[M.fZ,hr,ah,EY,GX,GY,GZ,EL,M.dJ,M.dD,Int.reduceBEq,Int.reduceBNe,cond_true,cond_false,a1]
 ·obtain⟨u,v,z,rfl⟩:=Pv (hc.three rfl)
  have hsz3:=sz3 u v z
  obtain⟨⟨a1,a2,a3⟩,a4⟩:=Xq ih' (o:=o) (f:=g) (b:=b) (k:=14) (op:=op) (x:=x) (y:=y) (p:=p) (j:=0) (u:=u) (by omega) hc hp hl hat (by omega) (by omega) rfl (SB 14 (by omega) 0)
  obtain⟨⟨b1,b2,b3⟩,b4⟩:=Xq ih' (o:=o) (f:=g) (b:=b) (k:=14) (op:=op) (x:=x) (y:=y) (p:=p) (j:=1) (u:=v) (by omega) hc hp hl hat (by omega) (by omega) rfl (SB 14 (by omega) 1)
  obtain⟨⟨c1,c2,c3⟩,c4⟩:=Xq ih' (o:=o) (f:=g) (b:=b) (k:=14) (op:=op) (x:=x) (y:=y) (p:=p) (j:=2) (u:=z) (by omega) hc hp hl hat (by omega) (by omega) rfl (SB 14 (by omega) 2)
  rw[qH] at a1 a2
  rw[Qi] at b1 b2
  rw[ao6] at c1 c2
  rw[asR]
  generalize (dZ 14 op [u,v,z].length 0 p).yE=q0 at a2 a3
  generalize I7 14 op [u,v,z].length p 0 u=K0 at a3 a4⊢
  generalize (dZ 14 op [u,v,z].length 1 p).yE=q1 at b2 b3
  generalize I7 14 op [u,v,z].length p 1 v=K1 at b3 b4⊢
  generalize (dZ 14 op [u,v,z].length 2 p).yE=q2 at c2 c3
  generalize I7 14 op [u,v,z].length p 2 z=K2 at c3 c4⊢
  have hs:sizes [K0,lI [32,63,32],K1,lI [32,58,32],K2]≤90000000:=by simp only[sizes,iD];omega
  simp only[M.fZ,hr,ah,EY,GX,GY,GZ,EL,M.dJ,M.dD,Int.reduceBEq,Int.reduceBNe,cond_true,cond_false,a1,a2,a3,b1,b2,b3,c1,c2,c3,Ll,jY,fz5,tC _ hs,mM]
  rfl
theorem asY:M.DV=some (CY Pj):=rfl
theorem aJ3(a b c d e f g h:Tn):M.dI [xU false a,xU false b,xU false c,xU false d,xU false e,xU false f,xU false g,xU false h]=some (CY (ql [a,b,c,d,e,f,g,h])):=rfl
theorem Zc:∀(L:List Tn) (x:Tn),BI (L++[x])=BI L++[Pj,x]
 |[],x=>rfl
 |y::L,x=>by rw[List.cons_append,BI,BI,Zc L x];rfl
theorem acW:∀(L:List Tn),(BI L).length=2 * L.length
 |[]=>rfl
 |y::L=>by
  have:=acW L
  rw[BI,List.length_cons,List.length_cons,this,List.length_cons]
  omega
theorem acX:∀(L:List Tn) (x:Tn),ng (L++[x])=ng L++[jG x]
 |[],x=>rfl
 |y::L,x=>by rw[List.cons_append,ng,ng,acX L x];rfl
def ST(u:Tn):Prop:=∀(w:Bool) (f:Nat),4 * u.size≤f→M.rQ f u.kind u.op u.text u.other (gW w u.kids)=some (CY (jG u))
def BT(u:Tn):Prop:=∀(w:Bool) (f:Nat),4 * u.size≤f+2→M.qg f u.kind u.op u.text u.other (gW w u.kids)=some (CY (jG u))
theorem auG{k op:Int}{x y:aF}{ks:List Tn}(ih:∀u,u∈ks→ST u){w:Bool}{f:Nat}(hf:4 * sizes ks+1≤f)(hu:sizes ks≤1048575):
  M.qg f k op x y (gW w ks)=some (CY (amy (ng ks))):=by
 obtain⟨g,rfl⟩:∃g,f=g+1:=⟨f - 1,by omega⟩
 have hkl:=lQ ks
 have hloop:=jC (b:=M.Au (M.rQ g) (gW w ks) (ks.length:Int) 0 0 [] 0) (t:=((ks.length:Int),nJ false (BI (ng ks)))) (fun j=>((j:Int),nJ false (BI (ng (ks.take j))))) ks.length
  (by
   intro j hj
   obtain⟨u,hu'⟩:∃u,ks[j]? =some u:=⟨ks[j],by simp[hj]⟩
   have hus:=jD (List.mem_of_getElem? hu')
   obtain⟨c0,c1,c2,c3,c4⟩:=kR w u
   have h1:=ih u (List.mem_of_getElem? hu') w g (by omega)
   have hl:=acW (ng (ks.take j))
   rw[I8,List.length_take] at hl
   have hw:IntKind.i64.wrap ((j:Int)+1)=((j+1:Nat):Int):=by rw[aP (by omega) (by omega)];omega
   simp only[M.Au,M.vF,JJ w hu',c0,c1,c2,c3,c4,ah,asY,h1,Je,Jf,Jg,Jh,Ji,Jj,gY,Md,List.length_cons,List.length_nil,hw]
   rw[decide_eq_true (by omega),cond_true,eY (by omega),cond_true,eY (by omega),cond_true,lG hu',acX,Zc,Jb]
   rfl)
  (by
   simp only[M.Au,M.vF]
   rw[decide_eq_false (by omega),cond_false,List.take_length]) 0 (Nat.zero_le _)
 have JI:M.En (M.rQ g) (gW w ks) (ks.length:Int) 0 0 [] 0 (0,[])=some ((ks.length:Int),nJ false (BI (ng ks))):=hloop
 rw[M.Z4]
 simp only[M.vZ,jm,JI,ah,kM,asO,asY,Je,Jf,Jg,Jh,Ji,Jj,acM,gY,ao7,dQ]
 rfl
set_option maxHeartbeats 2000000 in
theorem azu(t:Tn):ED t→isS t→sml t→t.size≤1048576→ST t∧(t.kind=33→BT t):=by
 refine Tn.ind (P:=fun t=>ED t→isS t→sml t→t.size≤1048576→ST t∧(t.kind=33→BT t)) ?_ t
 intro k op x y ks ih hok hs hsm hsz
 have hc:=Lu hok
 simp only[isS,Tn.kind] at hs
 rw[sml] at hsm
 obtain⟨⟨hx,hy⟩,hss⟩:=hsm
 rw[Tn.size] at hsz
 have kE:∀{j:Nat} {u:Tn},ks[j]? =some u→cls k op ks.length j=0→Ex' u:=by
  intro j u hj hcl
  obtain⟨h1,h2⟩:=Ls hok hj
  rw[hcl] at h1
  have:=jD (List.mem_of_getElem? hj)
  exact⟨h2,h1,Gf hss (List.mem_of_getElem? hj),by omega⟩
 have kE3:∀{j:Nat} {u:Tn},ks[j]? =some u→cls k op ks.length j=3→u.kind=16∨Ex' u:=by
  intro j u hj hcl
  obtain⟨h1,h2⟩:=Ls hok hj
  rw[hcl] at h1
  have:=jD (List.mem_of_getElem? hj)
  rcases h1 with h1|h1
  ·exact .inl h1
  ·exact .inr ⟨h2,h1,Gf hss (List.mem_of_getElem? hj),by omega⟩
 have kB:∀{j:Nat} {u:Tn},ks[j]? =some u→cls k op ks.length j=1→BT u:=by
  intro j u hj hcl
  obtain⟨h1,h2⟩:=Ls hok hj
  rw[hcl] at h1
  have h1':u.kind=33:=h1
  have:=jD (List.mem_of_getElem? hj)
  exact(ih u (List.mem_of_getElem? hj) h2 (by constructor<;>omega) (Gf hss (List.mem_of_getElem? hj)) (by omega)).2 h1'
 have kS:k=33→∀u,u∈ks→ST u:=by
  intro e u hu
  subst e
  obtain⟨j,hj⟩:=List.mem_iff_getElem?.1 hu
  obtain⟨h1,h2⟩:=anF hok hj (.inr (by simp[cls]))
  have:=jD hu
  exact(ih u hu h2 h1 (Gf hss hu) (by omega)).1
 have hB:k=33→BT (.mk k op x y ks):=by
  intro e w f hf
  have h1:=auG (k:=k) (op:=op) (x:=x) (y:=y) (kS e) (w:=w) (f:=f) (by rw[Tn.size] at hf;omega) (by omega)
  have h2:jG (.mk k op x y ks)=amy (ng ks):=by rw[jG,e];rfl
  rw[h2]
  exact h1
 refine⟨fun w f hf=> ?_,hB⟩
 rw[Tn.size] at hf
 obtain⟨g,rfl⟩:∃g,f=g+1:=⟨f - 1,by omega⟩
 have aE:∀(h:∀j,cls k op ks.length j=0),∀u,u∈ks→Ex' u:=by
  intro h u hu
  obtain⟨j,hj⟩:=List.mem_iff_getElem?.1 hu
  exact kE hj (h j)
 simp only[Tn.kind,Tn.op,Tn.text,Tn.other,Tn.kids]
 rw[M.ab2]
 have hk:k=20∨k=21∨k=22∨k=25∨k=26∨k=23∨k=24∨k=27∨k=28∨k=29∨k=30∨k=31∨k=32∨k=33∨k=34:=by omega
 rcases hk with rfl|rfl|rfl|rfl|rfl|rfl|rfl|rfl|rfl|rfl|rfl|rfl|rfl|rfl|rfl
 ·obtain⟨u,rfl⟩:=List.length_eq_one_iff.1 (hc.one (by omega))
  obtain⟨c0,c1,c2,c3,c4⟩:=kR w u
  have i0:idx (gW w [u]) 0=some (u.row w):=rfl
  have h0:=aeu (kE (j:=0) (u:=u) rfl (by simp[cls])) w
  simp only[M.fF,Int.reduceBEq,cond_true,cond_false,i0,c0,c1,c2,c3,c4,ah,h0,Je,Jf,Jg,Jh,Ji,Jj,dQ]
  rw[jG]
  rfl
 ·have h0:=auF (aE (fun j=>by simp[cls])) (by omega) op x y (hc.prn rfl).1 (hc.prn rfl).2 hy w
  simp only[M.fF,Int.reduceBEq,cond_true,cond_false,ah,h0,Je,Jf,Jg,Jh,Ji,Jj,dQ]
  rw[jG]
  rfl
 ·simp only[M.fF,Int.reduceBEq,cond_true,cond_false,ah,kM,Je,Jf,Jg,Jh,Ji,Jj,dQ]
  rw[jG]
  rfl
 ·simp only[M.fF,Int.reduceBEq,cond_true,cond_false,ah,kM,Je,Jf,Jg,Jh,Ji,Jj,dQ]
  rw[jG]
  rfl
 ·simp only[M.fF,Int.reduceBEq,cond_true,cond_false,ah,kM,Je,Jf,Jg,Jh,Ji,Jj,dQ]
  rw[jG]
  rfl
 ·have h0:=asU (aE (fun j=>by simp[cls])) [101,120,105,116] 23 op x y w
  simp only[M.fF,Int.reduceBEq,cond_true,cond_false,ah,h0,Je,Jf,Jg,Jh,Ji,Jj,dQ]
  rw[jG]
  rfl
 ·have h0:=asU (aE (fun j=>by simp[cls])) [114,101,116,117,114,110] 24 op x y w
  simp only[M.fF,Int.reduceBEq,cond_true,cond_false,ah,h0,Je,Jf,Jg,Jh,Ji,Jj,dQ]
  rw[jG]
  rfl
 ·have h0:=azs (aE (fun j=>by simp[cls])) (by omega) w
  rw[jG]
  cases ks with
  |nil=>
   rw[show gW w []=[] from rfl]
   simp(disch:=omega) only[M.fF,Int.reduceBEq,cond_true,cond_false,List.length_nil,ah,kM,Je,Jf,Jg,Jh,Ji,Jj,dQ,xW,show((((0:Nat):Int))==0)=true from rfl]
   rfl
  |cons u l=>
   have e0:(((gW w (u::l)).length:Int)==0)=false:=by rw[beq_eq_false_iff_ne,jm,List.length_cons];omega
   simp(disch:=omega) only[M.fF,Int.reduceBEq,cond_true,cond_false,e0,List.length_append,List.length_cons,List.length_nil,ah,h0,kM,Je,Jf,Jg,Jh,Ji,Jj,gY,adw,dQ,xW]
   rfl
 ·rw[jG]
  obtain⟨g',rfl⟩:∃g',g=g'+1:=⟨g - 1,by omega⟩
  rcases hc.cnd rfl with h2|h3
  ·obtain⟨u,v,rfl⟩:=Gz h2
   have hs2:=sz2 u v
   have i0:idx (gW w [u,v]) 0=some (u.row w):=rfl
   have i1:idx (gW w [u,v]) 1=some (v.row w):=rfl
   obtain⟨c0,c1,c2,c3,c4⟩:=kR w u
   obtain⟨d0,d1,d2,d3,d4⟩:=kR w v
   have h0:=aeu (kE (j:=0) (u:=u) rfl (by simp[cls])) w
   have h1:=kB (j:=1) (u:=v) rfl (by simp[cls]) w g' (by omega)
   have hl:decide (((gW w [u,v]).length:Int)>2)=false:=rfl
   simp only[M.fF,Int.reduceBEq,cond_true,cond_false,M.O9,M.qG,i0,i1,c0,c1,c2,c3,c4,d0,d1,d2,d3,d4,hl,ah,h0,h1,kM,Je,Jf,Jg,Jh,Ji,Jj,gY,ao7,dQ]
   rfl
  ·obtain⟨u,v,z,rfl⟩:=Pv h3
   have hs3:=sz3 u v z
   have i0:idx (gW w [u,v,z]) 0=some (u.row w):=rfl
   have i1:idx (gW w [u,v,z]) 1=some (v.row w):=rfl
   have i2:idx (gW w [u,v,z]) 2=some (z.row w):=rfl
   obtain⟨c0,c1,c2,c3,c4⟩:=kR w u
   obtain⟨d0,d1,d2,d3,d4⟩:=kR w v
   obtain⟨e0,e1,e2,e3,e4⟩:=kR w z
   have h0:=aeu (kE (j:=0) (u:=u) rfl (by simp[cls])) w
   have h1:=kB (j:=1) (u:=v) rfl (by simp[cls]) w g' (by omega)
   have h2:=kB (j:=2) (u:=z) rfl (by simp[cls]) w g' (by omega)
   have hl:decide (((gW w [u,v,z]).length:Int)>2)=true:=rfl
   simp only[M.fF,Int.reduceBEq,cond_true,cond_false,M.O9,M.qG,i0,i1,i2,c0,c1,c2,c3,c4,d0,d1,d2,d3,d4,e0,e1,e2,e3,e4,hl,ah,h0,h1,h2,kM,Je,Jf,Jg,Jh,Ji,Jj,gY,ao7,adw,dQ]
   rfl
 ·rw[jG]
  obtain⟨u,v,rfl⟩:=Gz (hc.two (by omega))
  have hs2:=sz2 u v
  have i0:idx (gW w [u,v]) 0=some (u.row w):=rfl
  have i1:idx (gW w [u,v]) 1=some (v.row w):=rfl
  obtain⟨c0,c1,c2,c3,c4⟩:=kR w u
  obtain⟨d0,d1,d2,d3,d4⟩:=kR w v
  have h0:=aeu (kE (j:=0) (u:=u) rfl (by simp[cls])) w
  have h1:=kB (j:=1) (u:=v) rfl (by simp[cls]) w g (by omega)
  simp only[M.fF,Int.reduceBEq,cond_true,cond_false,i0,i1,c0,c1,c2,c3,c4,d0,d1,d2,d3,d4,ah,h0,h1,kM,Je,Jf,Jg,Jh,Ji,Jj,gY,ao7,dQ]
  rfl
 ·rw[jG]
  obtain⟨u,v,rfl⟩:=Gz (hc.two (by omega))
  have hs2:=sz2 u v
  have i0:idx (gW w [u,v]) 0=some (u.row w):=rfl
  have i1:idx (gW w [u,v]) 1=some (v.row w):=rfl
  obtain⟨c0,c1,c2,c3,c4⟩:=kR w u
  obtain⟨d0,d1,d2,d3,d4⟩:=kR w v
  have h0:=kB (j:=0) (u:=u) rfl (by simp[cls]) w g (by omega)
  have h1:=aeu (kE (j:=1) (u:=v) rfl (by simp[cls])) w
  simp only[M.fF,Int.reduceBEq,cond_true,cond_false,i0,i1,c0,c1,c2,c3,c4,d0,d1,d2,d3,d4,ah,h0,h1,kM,Je,Jf,Jg,Jh,Ji,Jj,gY,aJY,dQ]
  rfl
 ·rw[jG]
  obtain⟨g',rfl⟩:∃g',g=g'+1:=⟨g - 1,by omega⟩
  obtain⟨u,v,z,q,rfl⟩:=afx (hc.four rfl)
  have hs4:sizes [u,v,z,q]=u.size+(v.size+(z.size+q.size)):=by simp[sizes]
  have i0:idx (gW w [u,v,z,q]) 0=some (u.row w):=rfl
  have i1:idx (gW w [u,v,z,q]) 1=some (v.row w):=rfl
  have i2:idx (gW w [u,v,z,q]) 2=some (z.row w):=rfl
  have i3:idx (gW w [u,v,z,q]) 3=some (q.row w):=rfl
  obtain⟨c0,c1,c2,c3,c4⟩:=kR w u
  obtain⟨d0,d1,d2,d3,d4⟩:=kR w v
  obtain⟨e0,e1,e2,e3,e4⟩:=kR w z
  obtain⟨f0,f1,f2,f3,f4⟩:=kR w q
  have h1:=acQ (kE3 (j:=1) (u:=v) rfl (by simp[cls])) w
  have h2:=acQ (kE3 (j:=2) (u:=z) rfl (by simp[cls])) w
  have h3:=kB (j:=3) (u:=q) rfl (by simp[cls]) w g' (by omega)
  rcases kE3 (j:=0) (u:=u) rfl (by simp[cls]) with h0|h0
  ·have n0:(u.kind !=16)=false:=by simp[h0]
   have ha:adr 31 op x y [u,v,z,q] (ng [u,v,z,q])=ql [lI [102,111,114,32,40],lI [],lI [59],NM v,lI [59],NM z,lI [41,32],jG q]:=by
    simp[adr,G9,vT,ng,h0]
   rw[ha]
   simp only[M.fF,Int.reduceBEq,cond_true,cond_false,M.RP,M.vG,i0,i1,i2,i3,c0,c1,c2,c3,c4,d0,d1,d2,d3,d4,e0,e1,e2,e3,e4,f0,f1,f2,f3,f4,n0,ah,h1,h2,h3,kM,Je,Jf,Jg,Jh,Ji,Jj,gY,aJ3,dQ]
  ·have n0:(u.kind !=16)=true:=by
    have:=h0.e
    unfold RX at this
    simp only[bne_iff_ne]
    omega
   have n1:(u.kind==16)=false:=by simpa using n0
   have ha:adr 31 op x y [u,v,z,q] (ng [u,v,z,q])=ql [lI [102,111,114,32,40],zB u ⟨1,false,true,false,false⟩,lI [59],NM v,lI [59],NM z,lI [41,32],jG q]:=by
    simp[adr,G9,vT,ng,n1]
   have he:=afL h0 w (p:=⟨1,false,true,false,false⟩) rfl
   rw[ha]
   simp only[M.fF,Int.reduceBEq,cond_true,cond_false,M.RP,M.vG,i0,i1,i2,i3,c0,c1,c2,c3,c4,d0,d1,d2,d3,d4,e0,e1,e2,e3,e4,f0,f1,f2,f3,f4,n0,he,ah,h1,h2,h3,kM,Je,Jf,Jg,Jh,Ji,Jj,gY,aJ3,dQ]
 ·rw[jG]
  obtain⟨u,rfl⟩:=List.length_eq_one_iff.1 (hc.one (by omega))
  have hs1:=Zb u
  have i0:idx (gW w [u]) 0=some (u.row w):=rfl
  obtain⟨c0,c1,c2,c3,c4⟩:=kR w u
  have h0:=kB (j:=0) (u:=u) rfl (by simp[cls]) w g (by omega)
  simp(disch:=omega) only[M.fF,Int.reduceBEq,cond_true,cond_false,List.length_append,List.length_cons,List.length_nil,i0,c0,c1,c2,c3,c4,ah,h0,kM,Je,Jf,Jg,Jh,Ji,Jj,gY,alz,dQ,xW]
  rfl
 ·have h0:=hB rfl w g (by rw[Tn.size];omega)
  simp only[Tn.kind,Tn.op,Tn.text,Tn.other,Tn.kids] at h0
  simp only[M.fF,Int.reduceBEq,cond_true,cond_false,ah,h0,Je,Jf,Jg,Jh,Ji,Jj,dQ]
 ·simp only[M.fF,Int.reduceBEq,cond_true,cond_false,ah,kM,Je,Jf,Jg,Jh,Ji,Jj,dQ]
  rw[jG]
  rfl
theorem aex:∀(ks:List Tn) (b m:Nat),(ends ks b).take m=ends (ks.take m) b
 |[],b,m=>by simp[ends]
 |t::ts,b,0=>by simp[ends]
 |t::ts,b,m+1=>by rw[ends,List.take_succ_cons,List.take_succ_cons,ends,aex ts]
theorem auH{l:List Nd}{b:Nat}{ks:List Tn}(hat:At l b ks)(m:Nat):At l b (ks.take m):=by
 intro j u hj
 have hjm:j<m:=by
  have:=(List.getElem?_eq_some_iff.1 hj).1
  rw[List.length_take] at this
  omega
 rw[List.getElem?_take,if_pos hjm] at hj
 have:=hat j u hj
 rwa [List.take_take,Nat.min_eq_left (by omega)]
section
variable {o:Bool} {l:List Nd} {b:Nat} (hl:l.length≤1048576)
include hl
theorem azv{u:Tn}(h:Ex' u)(hh:Lies l b u){p:Ps}(hp:lu p=true):M.eH (dP o l) false ((b+sizes u.kids:Nat):Int) p.level p.kW p.o7 p.o8 p.jX=some (dE (zB u p)):=
 M.adl (azt (acV u h.ok h.e h.sm h.sz) (f:=5 * u.size+1) hl hh (Nat.le_refl _) hp)
theorem Tf{u:Tn}(h:Ex' u)(hh:Lies l b u):M.eH (dP o l) false ((b+sizes u.kids:Nat):Int) 1 false false false false=some (dE (Lr u)):=azv (o:=o) hl h hh (p:=.top) rfl
theorem asZ{ks:List Tn}(h:∀u,u∈ks→Ex' u)(hat:At l b ks)(hs:sizes ks≤1048575){p:Ps}(hp:lu p=true):M.jd (dP o l) false (encI (ends ks b)) p.level p.kW p.o7 p.o8 p.jX=some (dE (KT p ks)):=
 M.ZH (amM (fun u hu=>acV u (h u hu).ok (h u hu).e (h u hu).sm (h u hu).sz) (f:=5 * sizes ks+2) hp hl hat (Nat.le_refl _) hs)
theorem amN{u:Tn}(h:u.kind=16∨Ex' u)(hh:Lies l b u):M.lX (dP o l) false ((b+sizes u.kids:Nat):Int)=some (dE (NM u)):=by
 simp only[M.lX,M.Ip,Vq hh,ah,EY,NM]
 rcases h with h|h
 ·rw[h]
  simp only[beq_self_eq_true,cond_true,jY,ah]
 ·have h1:(u.kind==16)=false:=by have:=h.e;unfold RX at this;rw[beq_eq_false_iff_ne];omega
  have h2:=Tf (o:=o) hl h hh
  have h3:=lU u .top
  have h4:=h.sz
  have hs:sizes [lI [32],Lr u]≤90000000:=by simp only[sizes,iD,Lr];omega
  simp only[h1,cond_false,jY,AP.2,ah,h2,fz2,tC _ hs,mM,cond_true]
theorem avw{ks:List Tn}(h:∀u,u∈ks→Ex' u)(hat:At l b ks)(wd:aF):M.tV (dP o l) false wd (encI (ends ks b))=some (dE (acz wd ks)):=by
 simp only[M.tV,M.Iq,dw,gZ]
 cases ks with
 |nil=>
  rw[show(((([]:List Tn).length:Nat):Int)==0)=true from rfl]
  simp only[cond_true,jY,ah]
  rfl
 |cons u t=>
  have hu:=h u List.mem_cons_self
  have hi:=lN (ks:=u::t) (b:=b) (j:=0) (u:=u) rfl
  have h1:=amN (o:=o) hl (.inr hu) (hat 0 u rfl)
  have h3:=MF u
  have h4:=hu.sz
  have e0:((((u::t).length:Nat):Int)==0)=false:=by rw[beq_eq_false_iff_ne,List.length_cons];omega
  have hs:sizes [lI wd,NM u]≤90000000:=by simp only[sizes,iD];omega
  rw[qH] at hi
  simp only[e0,cond_false,jY,ah,hi,Ll,h1,fz2,tC _ hs,mM,cond_true]
  rfl
theorem aJ4{ks:List Tn}(h:∀u,u∈ks→Ex' u)(hat:At l b ks)(hs:sizes ks≤1048575)(op:Int)(x y:aF)(hop:op=0∨op=1)(hy:y≠[]→1≤ks.length)(hyl:y.length≤1048576):
  M.uh (dP o l) false 21 op x y (encI (ends ks b))=some (dE (amA op y ks)):=by
 have hkl:=lQ ks
 have key:∀wd:aF,(bif !(y==[]) then
   ((cut (encI (ends ks b)) 0 (IntKind.i64.wrap (((encI (ends ks b)).length:Int) - 1))).bind fun rows=>(bif decide ((rows.length:Int)>0) then
    ((M.aJ [32]).bind fun r2=>((M.jd (dP o l) false rows 1 false false true false).bind fun r3=>
     (bif(1+y.length).ble 9223372036854775807 then(bif(([32]++y).length+1).ble 9223372036854775807 then((M.aJ ([32]++y++[32])).bind fun r4=>
      ((idx (encI (ends ks b)) (IntKind.i64.wrap (((encI (ends ks b)).length:Int) - 1))).bind fun row=>((dn IntKind.i64 row 0).bind fun n=>((M.eH (dP o l) false n 9 false false false false).bind fun r5=>
       ((M.aT 6 0 (aA ([[D.sl true 4 (dE (lI wd))]]++[[D.sl true 4 r2],[D.sl true 4 r3]]++[[D.sl true 4 r4],[D.sl true 4 r5]]))).bind fun r6=>(bif[[D.sl true 4 r6]].all dM then some r6 else none)))))) else none) else none))) else
    (bif(1+y.length).ble 9223372036854775807 then(bif(([32]++y).length+1).ble 9223372036854775807 then((M.aJ ([32]++y++[32])).bind fun r4=>
      ((idx (encI (ends ks b)) (IntKind.i64.wrap (((encI (ends ks b)).length:Int) - 1))).bind fun row=>((dn IntKind.i64 row 0).bind fun n=>((M.eH (dP o l) false n 9 false false false false).bind fun r5=>
       ((M.aT 6 0 (aA ([[D.sl true 4 (dE (lI wd))]]++[[D.sl true 4 r4],[D.sl true 4 r5]]))).bind fun r6=>(bif[[D.sl true 4 r6]].all dM then some r6 else none)))))) else none) else none))) else
   (bif decide (((encI (ends ks b)).length:Int)>0) then
    ((M.aJ [32]).bind fun r2=>((M.jd (dP o l) false (encI (ends ks b)) 1 false false true false).bind fun r3=>
     ((M.aT 6 0 (aA ([[D.sl true 4 (dE (lI wd))]]++[[D.sl true 4 r2],[D.sl true 4 r3]]))).bind fun r6=>(bif[[D.sl true 4 r6]].all dM then some r6 else none)))) else
    ((M.aT 6 0 (aA [[D.sl true 4 (dE (lI wd))]])).bind fun r6=>(bif[[D.sl true 4 r6]].all dM then some r6 else none))))=
   some (dE (ql ([lI wd]++((bif Nat.blt 0 (bif y==[] then ks else ks.take (ks.length - 1)).length then[lI [32],KT ⟨1,false,false,true,false⟩ (bif y==[] then ks else ks.take (ks.length - 1))] else[])++
    (bif y==[] then[] else[lI (([32]++y)++[32]),zB (G9 ks (ks.length - 1)) ⟨9,false,false,false,false⟩]))))):=by
  intro wd
  have gt:∀L:List Tn,decide (((encI (ends L b)).length:Int)>0)=Nat.blt 0 L.length:=by
   intro L
   rw[dw,gZ]
   exact Tc 0 L.length
  by_cases hy0:y=[]
  ·have e0:(y==[])=true:=by simpa using hy0
   have l1:=asZ (o:=o) hl h hat hs (p:=⟨1,false,false,true,false⟩) rfl
   have l2:=Gy ⟨1,false,false,true,false⟩ ks
   have z1:sizes [lI wd,lI [32],KT ⟨1,false,false,true,false⟩ ks]≤90000000:=by simp only[sizes,iD];omega
   have z2:sizes [lI wd]≤90000000:=by simp only[sizes,iD];omega
   simp only[e0,Bool.not_true,cond_true,cond_false,gt]
   cases Nat.blt 0 ks.length with
   |true=>
    simp only[cond_true,ah,jY,l1,List.cons_append,List.nil_append,fz3,tC _ z1,mM]
   |false=>
    simp only[cond_false,ah,fz1,tC _ z2,mM,cond_true]
    rfl
  ·have e0:(y==[])=false:=by simpa using hy0
   have hn:=hy hy0
   have hw:IntKind.i64.wrap (((encI (ends ks b)).length:Int) - 1)=((ks.length - 1:Nat):Int):=by rw[dw,gZ,aP (by omega) (by omega)];omega
   have hcut:cut (encI (ends ks b)) 0 ((ks.length - 1:Nat):Int)=some (encI (ends (ks.take (ks.length - 1)) b)):=by
    rw[asH _ _ (by rw[dw,gZ];omega),←aex ks b,encI,encI,List.map_take]
   obtain⟨u,hu⟩:∃u,ks[ks.length - 1]? =some u:=⟨ks[ks.length - 1],by simp⟩
   have hnt:G9 ks (ks.length - 1)=u:=by rw[G9,hu];rfl
   have hue:=h u (List.mem_of_getElem? hu)
   have he:=azv (o:=o) hl hue (hat _ u hu) (p:=⟨9,false,false,false,false⟩) rfl
   have hi:=lN (b:=b) hu
   have s1:=lU u ⟨9,false,false,false,false⟩
   have s2:=hue.sz
   have s3:=take_size ks (ks.length - 1)
   have l1:=asZ (o:=o) hl (ks:=ks.take (ks.length - 1)) (fun v hv=>h v (List.mem_of_mem_take hv)) (auH hat _) (by omega) (p:=⟨1,false,false,true,false⟩) rfl
   have l2:=Gy ⟨1,false,false,true,false⟩ (ks.take (ks.length - 1))
   have z1:sizes [lI wd,lI [32],KT ⟨1,false,false,true,false⟩ (ks.take (ks.length - 1)),lI ([32]++y++[32]),zB u ⟨9,false,false,false,false⟩]≤90000000:=by simp only[sizes,iD];omega
   have z2:sizes [lI wd,lI ([32]++y++[32]),zB u ⟨9,false,false,false,false⟩]≤90000000:=by simp only[sizes,iD];omega
   have r1:(1+y.length).ble 9223372036854775807=true:=xW (by omega)
   have r2:(([32]++y).length+1).ble 9223372036854775807=true:=xW (by simp only[List.length_append,List.length_cons,List.length_nil];omega)
   simp only[e0,Bool.not_false,cond_true,cond_false,hw,hcut,ah,gt,hnt,r1,r2]
   cases Nat.blt 0 (ks.take (ks.length - 1)).length with
   |true=>
    rw[List.cons_append,List.nil_append] at z1 z2⊢
    simp only[cond_true,ah,jY,l1,hi,Ll,he,List.cons_append,List.nil_append,fz5,mM] at z1⊢
    rw[tC _ z1,ah,mM,cond_true]
   |false=>
    simp only[cond_true,cond_false,ah,jY,hi,Ll,he,List.cons_append,List.nil_append,fz3,mM] at z2⊢
    rw[tC _ z2,ah,mM,cond_true]
 have hyy:∀{R:Type} (a c:R),(bif !(y==[]) then(bif !(y==[]) then a else c) else c)=bif !(y==[]) then a else c:=by intro R a c;cases(y==[])<;>rfl
 simp only[M.uh,M.FC,amA]
 rcases hop with rfl|rfl
 ·have k1:=key [112,114,105,110,116]
  rw[show((0:Int)==1)=false from rfl,cond_false,jY,ah]
  rw[show((0:Int)==0)=true from rfl,cond_true,←k1]
  cases(y==[])<;>rfl
 ·have k1:=key [112,114,105,110,116,102]
  rw[show((1:Int)==1)=true from rfl,cond_true,jY,ah]
  rw[show((1:Int)==0)=false from rfl,cond_false,←k1]
  cases(y==[])<;>rfl
end
def SS(u:Tn):Prop:=∀(o:Bool) (f:Nat) (l:List Nd) (b:Nat),l.length≤1048576→Lies l b u→6 * u.size≤f→M.zf f (dP o l) false ((b+sizes u.kids:Nat):Int)=some (dE (jG u))
def BS(u:Tn):Prop:=∀(o:Bool) (f:Nat) (l:List Nd) (b:Nat),l.length≤1048576→Lies l b u→6 * u.size≤f+3→M.lV f (dP o l) false ((b+sizes u.kids:Nat):Int)=some (dE (jG u))
def Qn:List Tn→ak
 |[]=>[]
 |d::l=>[D.sl true 4 (dE Pj)]::[D.sl false 4 (fB false (d.flat 0))]::Qn l
theorem acY:∀(L:List Tn) (x:Tn),Qn (L++[x])=Qn L++[[D.sl true 4 (dE Pj)],[D.sl false 4 (fB false (x.flat 0))]]
 |[],x=>rfl
 |y::L,x=>by rw[List.cons_append,Qn,Qn,acY L x];rfl
theorem aey:∀L:List Tn,(Qn L).length=2 * L.length
 |[]=>rfl
 |y::L=>by
  have:=aey L
  rw[Qn,List.length_cons,List.length_cons,this,List.length_cons]
  omega
theorem alD:∀L:List Tn,aA (Qn L)=o9 (BI L)
 |[]=>rfl
 |d::l=>by
  have h1:qZ [D.sl true 4 (dE Pj)]=[D.sl false 4 (fB false (Pj.flat 0))]:=by simp[qZ,D.fz,dE]
  have h2:qZ [D.sl false 4 (fB false (d.flat 0))]=[D.sl false 4 (fB false (d.flat 0))]:=by simp[qZ,D.fz]
  rw[Qn,aA,aA,h1,h2,alD l]
  rfl
theorem auI(L:List Tn)(hn:L.length≤1048576)(hs:sizes (BI L)≤90000000):M.uj (o9 L)=some (dE (ql (BI L))):=by
 have hpl:(o9 L).length=L.length:=by simp[o9]
 have hloop:=jC (b:=M.Ak (o9 L)) (t:=((L.length:Int),Qn L)) (fun j=>((j:Int),Qn (L.take j))) L.length
  (by
   intro j hj
   obtain⟨d,hd⟩:∃d,L[j]? =some d:=⟨L[j],by simp[hj]⟩
   have hr:idx (o9 L) (j:Int)=some [.sl false 4 (fB false (d.flat 0))]:=by rw[fG];simp[o9,hd]
   have c0:BK 4 [D.sl false 4 (fB false (d.flat 0))] 0=some (fB false (d.flat 0)):=rfl
   have hll:=aey (L.take j)
   rw[List.length_take] at hll
   have hw:IntKind.i64.wrap ((j:Int)+1)=((j+1:Nat):Int):=by rw[aP (by omega) (by omega)];omega
   simp only[M.Ak,M.vg,hpl,asW,hr,ah,c0,List.length_cons,List.length_nil,hw]
   rw[decide_eq_true (by omega),cond_true,eY (by omega),cond_true,eY (by omega),cond_true,lG hd,acY])
  (by
   simp only[M.Ak,M.vg,hpl]
   rw[decide_eq_false (by omega),cond_false,List.take_length]) 0 (Nat.zero_le _)
 have JI:M.Eb (o9 L) (0,[])=some ((L.length:Int),Qn L):=hloop
 simp only[M.uj,M.FI,JI,ah,alD,tC _ hs,mM,cond_true]
theorem azw{u:Tn}(hS:SS u)(hk:20≤u.kind∧u.kind≤34){o:Bool}{f:Nat}{l:List Nd}{b:Nat}(hl:l.length≤1048576)(h:Lies l b u)(hf:6 * u.size+1≤f):
  M.rO f (dP o l) false ((b+sizes u.kids:Nat):Int)=some (dE (jG u)):=by
 obtain⟨g,rfl⟩:∃g,f=g+1:=⟨f - 1,by omega⟩
 have h1:=hS o g l b hl h (by omega)
 have n0:(u.kind==40)=false:=by rw[beq_eq_false_iff_ne];omega
 have n1:(u.kind==41)=false:=by rw[beq_eq_false_iff_ne];omega
 have n2:(u.kind==42)=false:=by rw[beq_eq_false_iff_ne];omega
 have n3:(u.kind==43)=false:=by rw[beq_eq_false_iff_ne];omega
 have n4:(u.kind==44)=false:=by rw[beq_eq_false_iff_ne];omega
 rw[M.abQ]
 simp only[M.yZ,Vq h,ah,EY,GX,GY,GZ,EL,n0,n1,n2,n3,n4,cond_false,h1]
theorem azx{ks:List Tn}{o:Bool}{f:Nat}{l:List Nd}{b:Nat}{D':Tn→Tn}(ih:∀j u,ks[j]? =some u→M.rO f (dP o l) false ((b+sizes (ks.take j)+sizes u.kids:Nat):Int)=some (dE (D' u)))(hn:ks.length≤1048576):
  M.zh (f+1) (dP o l) false (encI (ends ks b))=some ((ks.map D').map acT):=by
 have hloop:=jC (b:=M.Cb (M.rO f) (encI (ends ks b)) (dP o l) false) (t:=((ks.length:Int),(ks.map D').map acT)) (fun j=>((j:Int),((ks.take j).map D').map acT)) ks.length
  (by
   intro j hj
   obtain⟨u,hu⟩:∃u,ks[j]? =some u:=⟨ks[j],by simp[hj]⟩
   have hi:=lN (b:=b) hu
   have h1:=ih j u hu
   have hw:IntKind.i64.wrap ((j:Int)+1)=((j+1:Nat):Int):=by rw[aP (by omega) (by omega)];omega
   simp only[M.Cb,M.xw,dw,gZ,hi,ah,Ll,h1,List.length_map,List.length_take,List.length_cons,List.length_nil,hw]
   rw[decide_eq_true (by omega),cond_true,eY (by omega),cond_true,eY (by omega),cond_true,lG hu,List.map_append,List.map_append]
   rfl)
  (by
   simp only[M.Cb,M.xw,dw,gZ]
   rw[decide_eq_false (by omega),cond_false,List.take_length]) 0 (Nat.zero_le _)
 have JI:M.FH (M.rO f) (encI (ends ks b)) (dP o l) false (0,[])=some ((ks.length:Int),(ks.map D').map acT):=hloop
 rw[M.abR]
 simp only[M.y8,JI,ah]
theorem aez:∀ks:List Tn,ng ks=ks.map jG
 |[]=>rfl
 |t::ts=>by rw[ng,aez ts];rfl
theorem auJ{k op:Int}{x y:aF}{ks:List Tn}(ih:∀u,u∈ks→SS u∧(20≤u.kind∧u.kind≤34)){o:Bool}{f:Nat}{l:List Nd}{b:Nat}(hl:l.length≤1048576)(h:Lies l b (.mk k op x y ks))(hf:6 * sizes ks+3≤f)(hu:sizes ks≤1048575)(hz:sizes (ng ks)+2 * ks.length≤40 * sizes ks):
  M.lV f (dP o l) false ((b+sizes ks:Nat):Int)=some (dE (amy (ng ks))):=by
 obtain⟨g,rfl⟩:∃g,f=g+1+1:=⟨f - 2,by omega⟩
 have hkl:=lQ ks
 have hr:idx (dP o l) ((b+sizes ks:Nat):Int)=some (KP o ⟨k,op,x,y,ends ks b⟩):=Vq h
 have hk:M.zh (g+1) (dP o l) false (encI (ends ks b))=some ((ng ks).map acT):=by
  rw[aez]
  refine azx (fun j u hj=> ?_) (by omega)
  obtain⟨h1,h2⟩:=ih u (List.mem_of_getElem? hj)
  have:=jD (List.mem_of_getElem? hj)
  exact azw h1 h2 hl (Lies.Vg h hj) (by omega)
 have hll:=RZ (ng ks)
 rw[I8] at hll
 have hL:=auI (ng ks) (by rw[I8];omega) (by omega)
 have z1:sizes [ql (BI (ng ks))]≤90000000:=by simp only[sizes,qX];omega
 have z2:sizes [lI [123],Uk (ql (BI (ng ks))),Pj,lI [125]]≤90000000:=by simp only[sizes,qX,Pm,iD,acB];omega
 rw[M.ZN]
 simp only[M.vX,jY,asW,hr,ah,EL,hk,Oh,hL,mM,cond_true,fz1,afO _ z1,fz4,tC _ z2]
 rfl
set_option maxHeartbeats 4000000 in
theorem azy(t:Tn):ED t→isS t→sml t→t.size≤1048576→SS t∧(t.kind=33→BS t):=by
 refine Tn.ind (P:=fun t=>ED t→isS t→sml t→t.size≤1048576→SS t∧(t.kind=33→BS t)) ?_ t
 intro k op x y ks ih hok hs hsm hsz
 have hc:=Lu hok
 simp only[isS,Tn.kind] at hs
 rw[sml] at hsm
 obtain⟨⟨hx,hy⟩,hss⟩:=hsm
 rw[Tn.size] at hsz
 have kE:∀{j:Nat} {u:Tn},ks[j]? =some u→cls k op ks.length j=0→Ex' u:=by
  intro j u hj hcl
  obtain⟨h1,h2⟩:=Ls hok hj
  rw[hcl] at h1
  have:=jD (List.mem_of_getElem? hj)
  exact⟨h2,h1,Gf hss (List.mem_of_getElem? hj),by omega⟩
 have kE3:∀{j:Nat} {u:Tn},ks[j]? =some u→cls k op ks.length j=3→u.kind=16∨Ex' u:=by
  intro j u hj hcl
  obtain⟨h1,h2⟩:=Ls hok hj
  rw[hcl] at h1
  have:=jD (List.mem_of_getElem? hj)
  rcases h1 with h1|h1
  ·exact .inl h1
  ·exact .inr ⟨h2,h1,Gf hss (List.mem_of_getElem? hj),by omega⟩
 have kB:∀{j:Nat} {u:Tn},ks[j]? =some u→cls k op ks.length j=1→BS u∧(jG u).size+2≤40 * u.size:=by
  intro j u hj hcl
  obtain⟨h1,h2⟩:=Ls hok hj
  rw[hcl] at h1
  have h1':u.kind=33:=h1
  have:=jD (List.mem_of_getElem? hj)
  exact⟨(ih u (List.mem_of_getElem? hj) h2 (by constructor<;>omega) (Gf hss (List.mem_of_getElem? hj)) (by omega)).2 h1',Vk u h2 (by constructor<;>omega)⟩
 have kS:k=33→∀u,u∈ks→SS u∧(20≤u.kind∧u.kind≤34):=by
  intro e u hu
  subst e
  obtain⟨j,hj⟩:=List.mem_iff_getElem?.1 hu
  obtain⟨h1,h2⟩:=anF hok hj (.inr (by simp[cls]))
  have:=jD hu
  exact⟨(ih u hu h2 h1 (Gf hss hu) (by omega)).1,h1⟩
 have hB:k=33→BS (.mk k op x y ks):=by
  intro e o f l b hl h hf
  have hz:sizes (ng ks)+2 * ks.length≤40 * sizes ks:=Vj fun u hu=>by
   subst e
   obtain⟨j,hj⟩:=List.mem_iff_getElem?.1 hu
   obtain⟨h1,h2⟩:=anF hok hj (.inr (by simp[cls]))
   exact Vk u h2 h1
  have h1:=auJ (k:=k) (op:=op) (x:=x) (y:=y) (kS e) (o:=o) (f:=f) hl h (by rw[Tn.size] at hf;omega) (by omega) hz
  have h2:jG (.mk k op x y ks)=amy (ng ks):=by rw[jG,e];rfl
  rw[h2]
  exact h1
 refine⟨fun o f l b hl h hf=> ?_,hB⟩
 have hbk:∀f,6 * (sizes ks+1)≤f+3→k=33→M.lV f (dP o l) false ((b+sizes ks:Nat):Int)=some (dE (jG (.mk k op x y ks))):=fun f hf e=>hB e o f l b hl h (by rw[Tn.size];exact hf)
 rw[Tn.size] at hf
 obtain⟨g,rfl⟩:∃g,f=g+1:=⟨f - 1,by omega⟩
 have aE:∀(h:∀j,cls k op ks.length j=0),∀u,u∈ks→Ex' u:=by
  intro h u hu
  obtain⟨j,hj⟩:=List.mem_iff_getElem?.1 hu
  exact kE hj (h j)
 have hat:At l b ks:=fun j u hj=>Lies.Vg h hj
 have hr:idx (dP o l) ((b+sizes ks:Nat):Int)=some (KP o ⟨k,op,x,y,ends ks b⟩):=Vq h
 have hel:(encI (ends ks b)).length=ks.length:=by rw[dw,gZ]
 rw[M.abP,Tn.kids]
 have hk:k=20∨k=21∨k=22∨k=25∨k=26∨k=23∨k=24∨k=27∨k=28∨k=29∨k=30∨k=31∨k=32∨k=33∨k=34:=by omega
 rcases hk with rfl|rfl|rfl|rfl|rfl|rfl|rfl|rfl|rfl|rfl|rfl|rfl|rfl|rfl|rfl
 ·obtain⟨u,rfl⟩:=List.length_eq_one_iff.1 (hc.one (by omega))
  have i0:=lN (ks:=[u]) (b:=b) (j:=0) (u:=u) rfl
  have h0:=Tf (o:=o) hl (kE (j:=0) (u:=u) rfl (by simp[cls])) (hat 0 u rfl)
  rw[qH] at i0
  simp only[M.fE,hr,EY,GX,GY,GZ,EL,Int.reduceBEq,cond_true,cond_false,i0,Ll,ah,AP.2,h0]
  rw[jG]
  rfl
 ·have h0:=aJ4 (o:=o) hl (aE (fun j=>by simp[cls])) hat (by omega) op x y (hc.prn rfl).1 (hc.prn rfl).2 hy
  simp only[M.fE,hr,EY,GX,GY,GZ,EL,Int.reduceBEq,cond_true,cond_false,ah,h0]
  rw[jG]
  rfl
 ·simp only[M.fE,hr,EY,GX,GY,GZ,EL,Int.reduceBEq,cond_true,cond_false,ah,jY]
  rw[jG]
  rfl
 ·simp only[M.fE,hr,EY,GX,GY,GZ,EL,Int.reduceBEq,cond_true,cond_false,ah,jY]
  rw[jG]
  rfl
 ·simp only[M.fE,hr,EY,GX,GY,GZ,EL,Int.reduceBEq,cond_true,cond_false,ah,jY]
  rw[jG]
  rfl
 ·have h0:=avw (o:=o) hl (aE (fun j=>by simp[cls])) hat [101,120,105,116]
  simp only[M.fE,hr,EY,GX,GY,GZ,EL,Int.reduceBEq,cond_true,cond_false,ah,h0]
  rw[jG]
  rfl
 ·have h0:=avw (o:=o) hl (aE (fun j=>by simp[cls])) hat [114,101,116,117,114,110]
  simp only[M.fE,hr,EY,GX,GY,GZ,EL,Int.reduceBEq,cond_true,cond_false,ah,h0]
  rw[jG]
  rfl
 ·have h0:=asZ (o:=o) hl (aE (fun j=>by simp[cls])) hat (by omega) (p:=.top) rfl
  have h1:=Gy .top ks
  simp only[Ps.top] at h0 h1
  rw[jG]
  cases ks with
  |nil=>
   simp(disch:=omega) only[M.fE,hr,EY,GX,GY,GZ,EL,Int.reduceBEq,cond_true,cond_false,hel,List.length_nil,ah,jY,xW,show((((0:Nat):Int))==0)=true from rfl]
   rfl
  |cons u t=>
   have e0:((((u::t).length:Nat):Int)==0)=false:=by rw[beq_eq_false_iff_ne,List.length_cons];omega
   have z1:sizes [lI ([100,101,108,101,116,101,32]++x++[91]),KT ⟨1,false,false,false,false⟩ (u::t),lI [93]]≤90000000:=by simp only[sizes,iD] at *;omega
   have r1:(7+x.length).ble 9223372036854775807=true:=xW (by omega)
   have r2:(([100,101,108,101,116,101,32]++x).length+1).ble 9223372036854775807=true:=xW (by simp only[List.length_append,List.length_cons,List.length_nil];omega)
   simp only[M.fE,hr,EY,GX,GY,GZ,EL,Int.reduceBEq,cond_true,cond_false,hel,e0,r1,r2,ah,jY,AP.2,h0,fz3,tC _ z1,mM]
   rfl
 ·rw[jG]
  obtain⟨g',rfl⟩:∃g',g=g'+1:=⟨g - 1,by omega⟩
  rcases hc.cnd rfl with h2|h3
  ·obtain⟨u,v,rfl⟩:=Gz h2
   have hs2:=sz2 u v
   have i0:=lN (ks:=[u,v]) (b:=b) (j:=0) (u:=u) rfl
   have i1:=lN (ks:=[u,v]) (b:=b) (j:=1) (u:=v) rfl
   rw[qH] at i0
   rw[Qi] at i1
   have e0:=kE (j:=0) (u:=u) rfl (by simp[cls])
   have h0:=Tf (o:=o) hl e0 (hat 0 u rfl)
   have s0:=lU u .top
   obtain⟨h1,s1⟩:=kB (j:=1) (u:=v) rfl (by simp[cls])
   have h1':=h1 o g' l _ hl (hat 1 v rfl) (by omega)
   have e2:((([u,v]:List Tn).length:Int)==2)=true:=rfl
   have z1:sizes [lI [105,102,32,40],Lr u,lI [41,32],jG v]≤90000000:=by simp only[sizes,iD,Lr] at *;omega
   simp only[M.fE,hr,EY,GX,GY,GZ,EL,Int.reduceBEq,cond_true,cond_false,M.Wh,M.Am,hel,e2,i0,i1,Ll,ah,jY,AP.2,h0,h1',fz4,tC _ z1,mM]
   rfl
  ·obtain⟨u,v,z,rfl⟩:=Pv h3
   have hs3:=sz3 u v z
   have i0:=lN (ks:=[u,v,z]) (b:=b) (j:=0) (u:=u) rfl
   have i1:=lN (ks:=[u,v,z]) (b:=b) (j:=1) (u:=v) rfl
   have i2:=lN (ks:=[u,v,z]) (b:=b) (j:=2) (u:=z) rfl
   rw[qH] at i0
   rw[Qi] at i1
   rw[ao6] at i2
   have e0:=kE (j:=0) (u:=u) rfl (by simp[cls])
   have h0:=Tf (o:=o) hl e0 (hat 0 u rfl)
   have s0:=lU u .top
   obtain⟨h1,s1⟩:=kB (j:=1) (u:=v) rfl (by simp[cls])
   have h1':=h1 o g' l _ hl (hat 1 v rfl) (by omega)
   obtain⟨h2,s2⟩:=kB (j:=2) (u:=z) rfl (by simp[cls])
   have h2':=h2 o g' l _ hl (hat 2 z rfl) (by omega)
   have e2:((([u,v,z]:List Tn).length:Int)==2)=false:=rfl
   have z1:sizes [lI [105,102,32,40],Lr u,lI [41,32],jG v]≤90000000:=by simp only[sizes,iD,Lr] at *;omega
   have z2:sizes [ql [lI [105,102,32,40],Lr u,lI [41,32],jG v],lI [32,101,108,115,101,32],jG z]≤90000000:=by simp only[sizes,iD,qX,Lr] at *;omega
   simp only[M.fE,hr,EY,GX,GY,GZ,EL,Int.reduceBEq,cond_true,cond_false,M.Wh,M.Am,hel,e2,i0,i1,i2,Ll,ah,jY,AP.2,h0,h1',h2',fz4,fz3,tC _ z1,tC _ z2,mM]
   rfl
 ·rw[jG]
  obtain⟨u,v,rfl⟩:=Gz (hc.two (by omega))
  have hs2:=sz2 u v
  have i0:=lN (ks:=[u,v]) (b:=b) (j:=0) (u:=u) rfl
  have i1:=lN (ks:=[u,v]) (b:=b) (j:=1) (u:=v) rfl
  rw[qH] at i0
  rw[Qi] at i1
  have e0:=kE (j:=0) (u:=u) rfl (by simp[cls])
  have h0:=Tf (o:=o) hl e0 (hat 0 u rfl)
  have s0:=lU u .top
  obtain⟨h1,s1⟩:=kB (j:=1) (u:=v) rfl (by simp[cls])
  have h1':=h1 o g l _ hl (hat 1 v rfl) (by omega)
  have z1:sizes [lI [119,104,105,108,101,32,40],Lr u,lI [41,32],jG v]≤90000000:=by simp only[sizes,iD,Lr] at *;omega
  simp only[M.fE,hr,EY,GX,GY,GZ,EL,Int.reduceBEq,cond_true,cond_false,i0,i1,Ll,ah,jY,AP.2,h0,h1',fz4,tC _ z1,mM]
  rfl
 ·rw[jG]
  obtain⟨u,v,rfl⟩:=Gz (hc.two (by omega))
  have hs2:=sz2 u v
  have i0:=lN (ks:=[u,v]) (b:=b) (j:=0) (u:=u) rfl
  have i1:=lN (ks:=[u,v]) (b:=b) (j:=1) (u:=v) rfl
  rw[qH] at i0
  rw[Qi] at i1
  have e0:=kE (j:=1) (u:=v) rfl (by simp[cls])
  have h0:=Tf (o:=o) hl e0 (hat 1 v rfl)
  have s0:=lU v .top
  obtain⟨h1,s1⟩:=kB (j:=0) (u:=u) rfl (by simp[cls])
  have h1':=h1 o g l _ hl (hat 0 u rfl) (by omega)
  have z1:sizes [lI [100,111,32],jG u,lI [32,119,104,105,108,101,32,40],Lr v,lI [41]]≤90000000:=by simp only[sizes,iD,Lr] at *;omega
  simp only[M.fE,hr,EY,GX,GY,GZ,EL,Int.reduceBEq,cond_true,cond_false,i0,i1,Ll,ah,jY,AP.2,h0,h1',fz5,tC _ z1,mM]
  rfl
 ·rw[jG]
  obtain⟨g',rfl⟩:∃g',g=g'+1:=⟨g - 1,by omega⟩
  obtain⟨u,v,z,q,rfl⟩:=afx (hc.four rfl)
  have hs4:sizes [u,v,z,q]=u.size+(v.size+(z.size+q.size)):=by simp[sizes]
  have aTI:((3:Nat):Int)=3:=rfl
  have i0:=lN (ks:=[u,v,z,q]) (b:=b) (j:=0) (u:=u) rfl
  have i1:=lN (ks:=[u,v,z,q]) (b:=b) (j:=1) (u:=v) rfl
  have i2:=lN (ks:=[u,v,z,q]) (b:=b) (j:=2) (u:=z) rfl
  have i3:=lN (ks:=[u,v,z,q]) (b:=b) (j:=3) (u:=q) rfl
  rw[qH] at i0
  rw[Qi] at i1
  rw[ao6] at i2
  rw[aTI] at i3
  have s1:=MF v
  have s2:=MF z
  have h1:=amN (o:=o) hl (kE3 (j:=1) (u:=v) rfl (by simp[cls])) (hat 1 v rfl)
  have h2:=amN (o:=o) hl (kE3 (j:=2) (u:=z) rfl (by simp[cls])) (hat 2 z rfl)
  obtain⟨h3,s3⟩:=kB (j:=3) (u:=q) rfl (by simp[cls])
  have h3':=h3 o g' l _ hl (hat 3 q rfl) (by omega)
  have hr0:=Vq (o:=o) (hat 0 u rfl)
  rcases kE3 (j:=0) (u:=u) rfl (by simp[cls]) with h0|h0
  ·have n0:(u.kind !=16)=false:=by simp[h0]
   have ha:adr 31 op x y [u,v,z,q] (ng [u,v,z,q])=ql [lI [102,111,114,32,40],lI [],lI [59],NM v,lI [59],NM z,lI [41,32],jG q]:=by
    simp[adr,G9,vT,ng,h0]
   have z1:sizes [lI [102,111,114,32,40],lI [],lI [59],NM v,lI [59],NM z,lI [41,32],jG q]≤90000000:=by simp only[sizes,iD] at *;omega
   rw[ha]
   simp only[M.fE,hr,EY,GX,GY,GZ,EL,Int.reduceBEq,cond_true,cond_false,M.TT,M.yx,i0,i1,i2,i3,Ll,hr0,n0,ah,jY,h1,h2,h3',fz8,tC _ z1,mM]
  ·have n0:(u.kind !=16)=true:=by
    have:=h0.e
    unfold RX at this
    simp only[bne_iff_ne]
    omega
   have n1:(u.kind==16)=false:=by simpa using n0
   have ha:adr 31 op x y [u,v,z,q] (ng [u,v,z,q])=ql [lI [102,111,114,32,40],zB u ⟨1,false,true,false,false⟩,lI [59],NM v,lI [59],NM z,lI [41,32],jG q]:=by
    simp[adr,G9,vT,ng,n1]
   have s0:=lU u ⟨1,false,true,false,false⟩
   have he:=azv (o:=o) hl h0 (hat 0 u rfl) (p:=⟨1,false,true,false,false⟩) rfl
   have z1:sizes [lI [102,111,114,32,40],zB u ⟨1,false,true,false,false⟩,lI [59],NM v,lI [59],NM z,lI [41,32],jG q]≤90000000:=by simp only[sizes,iD] at *;omega
   rw[ha]
   simp only[M.fE,hr,EY,GX,GY,GZ,EL,Int.reduceBEq,cond_true,cond_false,M.TT,M.yx,i0,i1,i2,i3,Ll,hr0,n0,he,ah,jY,h1,h2,h3',fz8,tC _ z1,mM]
 ·rw[jG]
  obtain⟨u,rfl⟩:=List.length_eq_one_iff.1 (hc.one (by omega))
  have hs1:=Zb u
  have i0:=lN (ks:=[u]) (b:=b) (j:=0) (u:=u) rfl
  rw[qH] at i0
  obtain⟨h1,s1⟩:=kB (j:=0) (u:=u) rfl (by simp[cls])
  have h1':=h1 o g l _ hl (hat 0 u rfl) (by omega)
  have z1:sizes [lI ([102,111,114,32,40]++x++[32,105,110,32]++y++[41,32]),jG u]≤90000000:=by simp only[sizes,iD] at *;omega
  simp(disch:=first|omega|(simp only[List.length_append,List.length_cons,List.length_nil];omega)) only[M.fE,hr,EY,GX,GY,GZ,EL,Int.reduceBEq,cond_true,cond_false,i0,Ll,ah,jY,h1',fz2,tC _ z1,mM,xW]
  rfl
 ·have h0:=hbk g (by omega) rfl
  simp only[M.fE,hr,EY,GX,GY,GZ,EL,Int.reduceBEq,cond_true,cond_false,ah,h0]
 ·simp only[M.fE,hr,EY,GX,GY,GZ,EL,Int.reduceBEq,cond_true,cond_false,ah,jY]
  rw[jG]
  rfl
theorem ao9{l:List Nd}{o:Bool}(hl:l.length≤1048576)(t:Tn):∀(f b:Nat),Lies l b t→t.size≤f→
  M.jq f (dP o l) ((b+sizes t.kids:Nat):Int)=some (t.kind,t.op,t.text,t.other,gW true t.kids):=by
 refine Tn.ind (P:=fun t=>∀(f b:Nat),Lies l b t→t.size≤f→M.jq f (dP o l) ((b+sizes t.kids:Nat):Int)=some (t.kind,t.op,t.text,t.other,gW true t.kids)) ?_ t
 intro k op x y ks ih f b h hf
 cases f with
 |zero=>rw[Tn.size] at hf;omega
 |succ f=>
  have hroot:l[b+sizes ks]? =some ⟨k,op,x,y,ends ks b⟩:=h.root
  have hlt:=h.lt
  rw[Tn.size] at hf hlt
  have hkl:=lQ ks
  simp only[M.jq,M.BD,fG,mV,Tn.kids,Tn.kind,Tn.op,Tn.text,Tn.other,hroot,Option.map_some,ah,EY,GX,GY,GZ,EL,dw,gZ]
  have hrec:∀j t,ks[j]? =some t→M.jq f (dP o l) ((b+sizes (ks.take j)+sizes t.kids:Nat):Int)=some (t.kind,t.op,t.text,t.other,gW true t.kids):=fun j t hj=>
   ih t (List.mem_of_getElem? hj) f _ (Lies.Vg h hj) (by have:=NJ hj;omega)
  have hloop:=jC (b:=M.kL (M.jq f))
   (t:=if ks=[] then .inl (dP o l,encI (ends ks b),(ks.length:Int),0,0,0,[],[],k,op,x,y) else .inr (dP o l,encI (ends ks b),(ks.length:Int),(ks.length:Int),0,0,[],[],k,op,x,y,gW true ks))
   (fun j=>if j=0 then .inl (dP o l,encI (ends ks b),(ks.length:Int),0,0,0,[],[],k,op,x,y) else .inr (dP o l,encI (ends ks b),(ks.length:Int),(j:Int),0,0,[],[],k,op,x,y,gW true (ks.take j))) ks.length
   (by
    intro j hj
    obtain⟨t,ht⟩:∃t,ks[j]? =some t:=⟨ks[j],by simp⟩
    have hr:=hrec j t ht
    have he:=afw (b:=b) ht
    rw[if_neg (show¬j+1=0 by omega),amw ht,ayp]
    by_cases h0:j=0
    ·subst h0
     rw[if_pos rfl]
     have hi:idx (encI (ends ks b)) 0=some [D.int .i64 ((b+sizes (ks.take 0)+sizes t.kids:Nat):Int)]:=by
      have:=fG (encI (ends ks b)) 0
      rw[qH] at this
      rw[this,rD,he]
      rfl
     simp only[M.kL,M.kK,hi,ah,Ll,hr]
     rw[decide_eq_true (by omega),cond_true]
     rfl
    ·rw[if_neg h0]
     simp only[M.kL,M.kK,fG,rD,he,Option.map_some,ah,Ll,hr,jm,List.length_take,List.length_singleton]
     rw[decide_eq_true (by omega),cond_true,eY (by omega),cond_true,eY (by omega),cond_true,aP (by omega) (by omega)]
     rfl)
   (by
    by_cases h0:ks.length=0
    ·have he:ks=[]:=List.length_eq_zero_iff.1 h0
     rw[if_pos h0,if_pos he]
     simp only[M.kL,M.kK]
     rw[decide_eq_false (by omega),cond_false]
    ·have he:¬ks=[]:=fun e=>h0 (by rw[e];rfl)
     rw[if_neg h0,if_neg he,List.take_length]
     simp only[M.kL,M.kK]
     rw[decide_eq_false (by omega),cond_false]) 0 (Nat.zero_le _)
  rw[if_pos rfl] at hloop
  rw[M.Du,hloop,ah]
  by_cases he:ks=[]
  ·rw[if_pos he,he]
   rfl
  ·rw[if_neg he]
   rfl
theorem alE{l:List Nd}{o:Bool}(hl:l.length≤1048576){t:Tn}{b:Nat}(h:Lies l b t):M.nP (dP o l) ((b+sizes t.kids:Nat):Int)=some (t.kind,t.op,t.text,t.other,gW true t.kids):=
 M.Ri (ao9 hl t t.size b h (Nat.le_refl _))
theorem apa{t:Tn}{o:Bool}(hl:t.size≤1048576):M.rJ (dP o (t.flat 0))=some (t.kind,t.op,t.text,t.other,gW true t.kids):=by
 have hs:=t.SX
 simp only[M.rJ,M.EX,iq,t.flat_length]
 have h:=alE (o:=o) (by rw[t.flat_length];omega) (Lies.whole t)
 rw[Nat.zero_add] at h
 rw[aP (by omega) (by omega),show(t.size:Int) - 1=((sizes t.kids:Nat):Int) by omega,h,ah]
mutual
theorem anU:∀(t:Tn) (b:Nat),wD (t.flat b)+1≤4 * t.size
 | .mk k o x y ks,b=>by
  have h:=alF ks b
  rw[Tn.flat,Tn.size,Po,wD,wD]
  simp only[gZ]
  omega
theorem alF:∀(ks:List Tn) (b:Nat),wD (kZ ks b)+ks.length≤4 * sizes ks
 |[],_=>by simp[kZ,wD,sizes]
 |t::ts,b=>by
  have h1:=anU t b
  have h2:=alF ts (b+t.size)
  rw[kZ,Po,sizes,List.length_cons]
  omega
end
theorem azz{l:List Nd}{n:Nd}(h:n∈l):n.kids.length≤wD l:=by
 induction l with
 |nil=>cases h
 |cons m l ih=>
  rw[wD]
  rcases List.mem_cons.1 h with rfl|h
  ·omega
  ·have:=ih h
   omega
def aeA(r:List Nd):Prop:=wD r≤400000000
theorem aeB:aeA []:=by simp[aeA,wD]
theorem amO{t:Tn}(h:t.size≤90000000):aeA (t.flat 0):=by
 have:=anU t 0
 unfold aeA
 omega
theorem as1(t:Tn)(h:t.size≤90000000):M.uy t.kind t.op t.text (nJ false t.kids) 0=some (fB true (t.flat 0)):=by
 have h1:=aJV t t.size false [] (Nat.le_refl _) (by simp only[List.length_nil];omega)
 have e0:fB true []=[]:=rfl
 rw[e0,List.nil_append,List.length_nil] at h1
 simp only[M.uy,M.FZ,M.Z8 h1,ah]
theorem last_at{T:Tn}(hT:T.size≤1048576):IntKind.i64.wrap (((T.flat 0).length:Int) - 1)=((0+sizes T.kids:Nat):Int):=by
 have:=T.SX
 rw[T.flat_length,aP (by omega) (by omega)]
 omega
theorem amP{l:List Nd}(h:Ok l):∃r,aeA r∧M.wM (dP false l)=some (fB true r)∧M.tY (dP false l)=some (fB true r):=by
 have a1:=acr l false (by have:=h.len;omega) h.k h.sm
 have a2:=acs l false (by have:=h.len;omega) h.k h.sm
 have e0:fB true []=[]:=rfl
 simp only[M.wM,M.Iy,M.tY,M.IV,a1,a2,ah]
 cases pa:Qc l with
 |false=>exact⟨[],aeB,rfl,rfl⟩
 |true=>
  obtain⟨T,rfl,hTs⟩:=amg (afA pa)
  have hT:T.size≤1048576:=by have:=h.len;rwa [T.flat_length] at this
  have hok:=amC pa h.sm
  have hsm:=(anO T 0).2 h.sm
  have hr:=Vq (o:=false) (Lies.whole T)
  have hen:((dP false (T.flat 0)).length:Int)=((T.flat 0).length:Int):=by rw[iq]
  have hb:=apa (t:=T) (o:=false) hT
  simp only[Bool.not_true,cond_false,hen,last_at hT,hr,ah,EY,bg]
  cases hs:CW T.kind with
  |false=>exact⟨[],aeB,rfl,rfl⟩
  |true=>
   have hS:isS T:=by
    unfold CW at hs
    rw[Bool.and_eq_true,decide_eq_true_eq,decide_eq_true_eq] at hs
    exact hs
   have h1:=M.ZO ((azy T hok hS hsm hT).1 false (6 * T.size) (T.flat 0) 0 (by rw[T.flat_length];exact hT) (Lies.whole T) (Nat.le_refl _))
   have h2:=M.Z5 ((azu T hok hS hsm hT).1 false (4 * T.size) (Nat.le_refl _))
   have hz:=Vk T hok hS
   have h3:=as1 (jG T) (by omega)
   refine⟨(jG T).flat 0,amO (by omega), ?_, ?_⟩
   ·simp only[Bool.not_true,cond_false,h1,ah]
    rfl
   ·simp only[Bool.not_true,cond_false,hb,abp,h2,ah,Je,Jf,Jg,Jh,Ji,Jj,h3]
theorem alG(l:List Nd)(hl:l.length≤maxLen)(hf:∀n,n∈l→Fit n):M.mG (dP false l)=some true:=by
 simp only[M.mG,M.vO]
 rw[amr l false 1048576 (by omega) (by omega) hl hf,ah]
 by_cases hs:(l.length+wNs l:Int)≤1048576
 ·rw[if_pos hs,decide_eq_false (by omega),cond_false]
  have hkk:∀n,n∈l→n.kids.length≤1048576:=by
   intro n hn
   have h1:=anB hn
   have h2:wN n=n.text.length+n.other.length+n.kids.length:=rfl
   omega
  have ol:Ok l:=aJU hs hf (by omega) hkk
  obtain⟨r,hr,h1,h2⟩:=amP ol
  unfold aeA at hr
  have a1:=ams l false ol.len ol.k
  have hrl:=afC r
  have a3:=ads r false false (by unfold maxLen;omega) (fun n hn=>by have:=azz hn;unfold maxLen;omega)
  have a4:=afp l false false hl (fun n hn=>(hf n hn).kids)
  have a6:=afz 1 l (by omega) (by have:=ol.w;omega)
  have a8:=adt 1 r (by omega) (by omega)
  have a9:=adu 1 r (by omega) (by omega)
  rw[acI] at a9
  have d1:decide ((1:Int)+(wK l:Int)<0)=false:=decide_eq_false (by omega)
  have d2:decide ((1:Int)+(wD r:Int)<0)=false:=decide_eq_false (by omega)
  simp only[a1,ap6,h1,h2,acI,a3,a4,a6,a8,a9,d1,d2,ah,aeo,cond_true,cond_false,Bool.not_true,bne_self_eq_false]
 ·rw[if_neg hs];rfl
end Go.Proofs.YtbpldgeajbfgnaaGreatDoor
namespace Go.Proofs
open Go.Shelf
def Tryz.lays144_ren:Go.Shelf.Ren:=⟨fun|144=>202|143=>183|219=>221|217=>246|225=>247|224=>248|267=>249|266=>258|314=>259|n=>n,fun|9=>9|4=>4|3=>3|5=>5|46=>193|146=>203|51=>202|n=>n,fun|1=>3|n=>n⟩
theorem Tryz.lays144:Go.Proofs.Lays.n144 Tryz.prog Tryz.lays144_ren:={
 mixed:=by kernel_rfl
 f143:=Tryz.func183.trans (congrArg some (by kernel_rfl))
 f144:=Tryz.func202.trans (congrArg some (by kernel_rfl))
 f217:=Tryz.func246.trans (congrArg some (by kernel_rfl))
 f219:=Tryz.func221.trans (congrArg some (by kernel_rfl))
 f224:=Tryz.func248.trans (congrArg some (by kernel_rfl))
 f225:=Tryz.func247.trans (congrArg some (by kernel_rfl))
 f266:=Tryz.func258.trans (congrArg some (by kernel_rfl))
 f267:=Tryz.func249.trans (congrArg some (by kernel_rfl))
 f314:=Tryz.func259.trans (congrArg some (by kernel_rfl))
 t3:=Tryz.underlying3
 a3:=Tryz.isAgg3
 z3:=Tryz.sizeOf3
 v3:=Tryz.zeroValue3
 t4:=Tryz.underlying4
 a4:=Tryz.isAgg4
 z4:=Tryz.sizeOf4
 v4:=Tryz.zeroValue4
 t5:=Tryz.underlying5
 a5:=Tryz.isAgg5
 z5:=Tryz.sizeOf5
 v5:=Tryz.zeroValue5
 t9:=Tryz.underlying9
 a9:=Tryz.isAgg9
 z9:=Tryz.sizeOf9
 v9:=Tryz.zeroValue9
 t46:=Tryz.underlying193
 a46:=Tryz.isAgg193
 z46:=Tryz.sizeOf193
 v46:=Tryz.zeroValue193
 t51:=Tryz.underlying202
 a51:=Tryz.isAgg202
 z51:=Tryz.sizeOf202
 v51:=Tryz.zeroValue202
 t146:=Tryz.underlying203
 a146:=Tryz.isAgg203
 z146:=Tryz.sizeOf203
 v146:=Tryz.zeroValue203
 g1:=by kernel_rfl}
open Go.RowKit Go.Lib in
theorem Tryz.strings_Contains_one(s:ByteArray)(c:UInt8)(w:World):
  Calls Tryz.prog 202 #[.string s,.string ⟨#[c]⟩] w fun e w'=>e=.returned (.bool (decide (0≤Lib.indexByte s.data.toList c)))∧w'=w:=Any.strings_Contains_one Tryz.lays144 s c w
end Go.Proofs
namespace Go.Proofs.YtbpldgeajbfgnaaGreatDoor
set_option linter.unusedVariables false
set_option linter.unusedSimpArgs false
open Go Go.Vm
theorem aad{X:Ctx}(hP:X.P=Tryz.prog)(hm:∀i,i<2→EH X.Jd 202 i=0)(fn:Func)(args:List V)(cells:List Cell)(rows:ak)(outs:List Cell)(hf:X.P.funcs[202]? =some fn)(h:Prim.strings_Contains args cells=some (rows,outs))
  (base:Nat) (U:Nat→Prop) (w:World) (gargs kD:List Value) (N1 N2:List Nat) (hG:Given X base U w 202 args cells gargs kD N1 N2):
  Calls X.P 202 gargs.toArray w fun e w'=>∃gs M1 M2,e=.returned (Zg gs)∧Did X.P U w w' (N1++N2) fn.resultTypes.toList cells outs kD rows gs M1 M2:=by
 unfold Prim.strings_Contains at h
 split at h
 ·rename_i s t
  unfold M.strings_Contains at h
  split at h
  ·rename_i c
   cases h
   obtain⟨rfl,rfl,rfl,hs⟩:=ap9 hG hm
   rw[amh hs]
   rw[hP] at hf⊢
   have hfn:fn.resultTypes.toList=[4]:=by
    rw[Tryz.func202] at hf
    cases hf
    rfl
   refine(Tryz.strings_Contains_one ⟨⟨s⟩⟩ c w).mono ?_
   rintro e w' ⟨rfl,rfl⟩
   rw[hfn]
   exact⟨[_],[],[],rfl,ami (by kernel_rfl) (fun _ _=>⟨rfl,rfl⟩) (Keep.refl _ _)⟩
  ·cases h
 ·cases h
end Go.Proofs.YtbpldgeajbfgnaaGreatDoor
namespace Go.Proofs.YtbpldgeajbfgnaaGreatDoor
set_option linter.unusedVariables false
set_option linter.unusedSimpArgs false
open Go Go.Vm Go.RowKit
theorem amQ{x:Int}(h:(Lit.int .i64 x).wf=true):I64 x:=bounds_i64 h
set_option maxRecDepth 100000 in
theorem open_ints'{n:Nat}{row:Row}(h:YS Tryz.prog (n+2) 37 row):∃k:List Int,row=[.sl false 1 (Go.Vm.encI k)]∧k.length≤maxLen∧∀x,x∈k→I64 x:=by
 obtain⟨rows,rfl,hl,hr⟩:=aqa Tryz.underlying37 h
 obtain⟨k,rfl,hk⟩:=abu (f:=fun x:Int=>[D.int .i64 x]) (p:=I64) (fun r hr'=>by
  obtain⟨x,rfl,hx⟩:=afb Tryz.underlying3 (hr r hr')
  exact⟨x,rfl,amQ hx⟩)
 exact⟨k,rfl,by simpa using hl,hk⟩
set_option maxRecDepth 100000 in
theorem amR{n:Nat}{row:Row}(h:YS Tryz.prog (n+3) 39 row):∃x:Nd,row=KP false x∧Fit x:=by
 have h:=amj Tryz.underlying39 h
 obtain⟨_,_,rfl,h1,h⟩:=O1 h
 obtain⟨_,_,rfl,h2,h⟩:=O1 h
 obtain⟨_,_,rfl,h3,h⟩:=O1 h
 obtain⟨_,_,rfl,h4,h⟩:=O1 h
 obtain⟨_,_,rfl,h5,h⟩:=O1 h
 obtain rfl:=aqb h
 obtain⟨a,rfl,wa⟩:=afb Tryz.underlying3 h1
 obtain⟨b,rfl,wb⟩:=afb Tryz.underlying3 h2
 obtain⟨c,rfl,wc⟩:=anj Tryz.underlying9 h3
 obtain⟨d,rfl,wd⟩:=anj Tryz.underlying9 h4
 obtain⟨k,rfl,wk,wk2⟩:=open_ints' h5
 exact⟨⟨a,b,c,d,k⟩,rfl,⟨amQ wa,amQ wb,wc,wd,wk,wk2⟩⟩
set_option maxRecDepth 100000 in
theorem alH{n:Nat}{row:Row}(h:YS Tryz.prog (n+4) 22 row):∃l:List Nd,row=[.sl false 5 (dP false l)]∧l.length≤maxLen∧∀x,x∈l→Fit x:=by
 obtain⟨rows,rfl,hl,hr⟩:=aqa Tryz.underlying22 h
 obtain⟨l,rfl,hk⟩:=abu (f:=KP false) (p:=Fit) (fun r hr'=>amR (hr r hr'))
 exact⟨l,rfl,by simpa using hl,hk⟩
theorem azA:aeW X0:=by
 intro f p fn args cells rows outs hx hf hb h base U w gargs kD N1 N2 hG
 have hx':(bif Nat.beq f 116 then some Prim.jI else bif Nat.beq f 202 then some Prim.strings_Contains else none)=some p:=hx
 cases hq:Nat.beq f 116 with
 |true=>
  rw[hq] at hx'
  cases hx'
  have e:=Nat.eq_of_beq_eq_true hq
  subst e
  exact adb rfl rfl fn args cells rows outs hf h base U w gargs kD N1 N2 hG
 |false=>
 rw[hq,cond_false] at hx'
 cases hq:Nat.beq f 202 with
 |true=>
  rw[hq] at hx'
  cases hx'
  have e:=Nat.eq_of_beq_eq_true hq
  subst e
  exact aad rfl (by decide) fn args cells rows outs hf h base U w gargs kD N1 N2 hG
 |false=>rw[hq] at hx';cases hx'
theorem own:ownKnob Tryz.prog.godebug=none:=by kernel_rfl
theorem laidOut:laidOutB Tryz.prog=true:=by kernel_rfl
theorem gK : Tryz.prog.globalNamed "loop.example/g01543/impl.keywords" = some 1 := by kernel_rfl
theorem gS : Tryz.prog.globalNamed "loop.example/g01543/impl.signs" = some 2 := by kernel_rfl
theorem gB : Tryz.prog.globalNamed "loop.example/g01543/impl.builtins" = some 0 := by kernel_rfl
theorem tK:(Tryz.prog.globals[1]?).map (·.type)=some 177:=by kernel_rfl
theorem tS:(Tryz.prog.globals[2]?).map (·.type)=some 178:=by kernel_rfl
theorem tB:(Tryz.prog.globals[0]?).map (·.type)=some 174:=by kernel_rfl
theorem c9:Tryz.prog.cellsOf 9=1:=by kernel_rfl
theorem dK:(Rows.laid_loop_example_g01543_impl_keywords:DataW Unit)=.agg (RS.map fun s=> .lit (.string s)):=by kernel_rfl
theorem dS:(Rows.laid_loop_example_g01543_impl_signs:DataW Unit)=.agg (Pg.map fun s=> .lit (.string s)):=by kernel_rfl
theorem dB:(Rows.laid_loop_example_g01543_impl_builtins:DataW Unit)=.agg (alb.map fun s=> .lit (.string s)):=by kernel_rfl
theorem rK:zG=RS.map D.str:=by kernel_rfl
theorem rS:MR=Pg.map D.str:=by kernel_rfl
theorem rB:GV=alb.map D.str:=by kernel_rfl
theorem as2{W:World}(hL:laidMetH Tryz.prog Rows.fnExactStmtDocRow.laid W)(hS:W.ShapedOpen Tryz.prog):aaC X0 (full W):=by
 rw[MakeChecks.laidMetH_plain _ _ _ (by kernel_rfl)] at hL
 obtain⟨ps,⟨g0,t0,cs0,f0,p0,q0,hg0,ht0,hv0,hd0,⟨g1,t1,cs1,f1,p1,q1,hg1,ht1,hv1,hd1,⟨g2,t2,cs2,f2,p2,q2,hg2,ht2,hv2,hd2,_,_⟩,_⟩,_⟩,_,_⟩:=hL
 obtain rfl:=Option.some.inj (gK.symm.trans hg0)
 obtain rfl:=Option.some.inj (gS.symm.trans hg1)
 obtain rfl:=Option.some.inj (gB.symm.trans hg2)
 obtain rfl:=Option.some.inj (tK.symm.trans ht0)
 obtain rfl:=Option.some.inj (tS.symm.trans ht1)
 obtain rfl:=Option.some.inj (tB.symm.trans ht2)
 rw[dK] at hd0
 rw[dS] at hd1
 rw[dB] at hd2
 refine⟨fun g row h=> ?_,fun g h=> ?_⟩
 ·have h':(bif Nat.beq g 2 then some MR else bif Nat.beq g 1 then some zG else bif Nat.beq g 0 then some GV else none)=some row:=h
  cases hq:Nat.beq g 2 with
  |true=>
   rw[hq] at h'
   cases h'
   have e:=Nat.eq_of_beq_eq_true hq
   subst e
   rw[rS]
   exact XO Tryz.underlying178 Tryz.underlying9 c9 hg1 hv1 hd1
  |false=>
  rw[hq,cond_false] at h'
  cases hq:Nat.beq g 1 with
  |true=>
   rw[hq] at h'
   cases h'
   have e:=Nat.eq_of_beq_eq_true hq
   subst e
   rw[rK]
   exact XO Tryz.underlying177 Tryz.underlying9 c9 hg0 hv0 hd0
  |false=>
  rw[hq,cond_false] at h'
  cases hq:Nat.beq g 0 with
  |true=>
   rw[hq] at h'
   cases h'
   have e:=Nat.eq_of_beq_eq_true hq
   subst e
   rw[rB]
   exact XO Tryz.underlying174 Tryz.underlying9 c9 hg2 hv2 hd2
  |false=>rw[hq] at h';cases h'
 ·have h':(bif Nat.beq g 3 then true else false)=true:=h
  cases hq:Nat.beq g 3 with
  |false=>rw[hq] at h';cases h'
  |true=>
   have e:=Nat.eq_of_beq_eq_true hq
   subst e
   exact Go.Proofs.cell_of_shapedOpen_int (zero:=#[.int .i64 0]) hS (of_decide_eq_true (by kernel_rfl)) (by kernel_rfl) rfl (by kernel_rfl) (by kernel_rfl) Tryz.underlying3
end Go.Proofs.YtbpldgeajbfgnaaGreatDoor
