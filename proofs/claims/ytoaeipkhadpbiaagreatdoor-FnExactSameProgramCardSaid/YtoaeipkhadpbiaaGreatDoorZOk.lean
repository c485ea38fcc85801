import Derived.Test.YtoaeipkhadpbiaaGreatDoorXRs13
import Derived.Test.YtoaeipkhadpbiaaGreatDoorXLev
import Derived.Test.YtoaeipkhadpbiaaGreatDoorZVal
set_option linter.defProp false
namespace Go.Proofs.YtoaeipkhadpbiaaGreatDoor
set_option linter.unusedVariables false
set_option linter.unusedSimpArgs false
open Go Go.Vm
open Go.IntKind (i64)
variable {l:List Tk}
abbrev U1:=ak×Int×Int×ak×Int×Bool×ak
abbrev U2:=ak×Int×Int×ak×Int×Bool×ak×ak
abbrev U3:=ak×Int×Int×ak×Int×ak×ak
def AF(l:List Tk)(o:Option (U2⊕U3)):PR (List Tn)->Prop
 | .ok L j nt=>o=some (.inl (ay l,0,0,ay l,(j:Int),false,parts L,ay []))/\j<=l.length/\sizes L<=6 * j
 | .bad j=>j<=l.length/\∃u rows ns,o=some u/\(u=.inl (ay l,0,0,ay l,(j:Int),true,rows,ns)\/u=.inr (ay l,0,0,ay l,(j:Int),rows,ns))
 | .out=>True
def aur(hl:l.length<=3000)(hx:aeP l):
  ∀n,∀(L:List Tn) (i:Nat) (ns:List Tk) (s:U1⊕U2),(s=.inl (ay l,0,0,ay l,(i:Int),false,parts L)/\ns=[]\/s=.inr (ay l,0,0,ay l,(i:Int),false,parts L,ay ns))->
   i<=l.length->ns.length<=i->sizes L+ns.length<=6 * i->AF l (M.BR s) (Ux l n L i (txt ns))
 |0,_,_,_,_,_,_,_,_=>by rw[Ux];trivial
 |n+1,L,i,ns,s,hs,hi,hn,hsz=>by
  obtain⟨U5,t1,hsp⟩:=aom hl i ns hi hn;have hq:=SK (l:=l) (nt:=txt ns) hi;have hLl:=yP L;simp only[Ux];generalize hqe:sep l i (txt ns)=q at hq hsp t1|-;rw[<-t1] at hq;simp only[zaV] at hq;have hcm:au (au (RF U5))=parts (EU q.2):=by rw[abM,t1]
  have hcl:(EU q.2).length=U5.length:=by rw[<-t1,Xi]
  have hcs:sizes (EU q.2)=U5.length:=by rw[<-t1,Iq]
  rw[M.BR];have hb:M.uD s=
    bif bG l q.1==0 then some (.inr (.inl (ay l,0,0,ay l,(q.1:Int),false,parts (L++EU q.2),ay []))) else bif bG l q.1==31 then some (.inr (.inr (ay l,0,0,ay l,(q.1:Int),parts (L++EU q.2),ay []))) else
     (M.zW (ay l) (q.1:Int) false (ay [])).bind λr=>bif(((parts (L++EU q.2)).length+[[D.sl false 5 (au r.2.1)]].length) * 24).ble 140737488355328 then
      (bif((parts (L++EU q.2)).length+[[D.sl false 5 (au r.2.1)]].length).ble 140737488355328 then
       some (.inl (.inr (ay l,0,0,r.2.2.1,r.2.2.2.1,r.2.2.2.2.1,parts (L++EU q.2)++[[D.sl false 5 (au r.2.1)]],r.2.2.2.2.2))) else none) else none:=by
   have hlen:(parts L).length+(parts (EU q.2)).length=L.length+U5.length:=by rw[rD,rD,hcl]
   rcases hs with⟨rfl,rfl⟩|rfl
   ·have hsp':M.lX (ay l) (i:Int) false []=some (ay l,(q.1:Int),false,ay U5):=hsp;simp only[EY,M.uD,M.uz,bg,aJ,hsp',aj,Vp (l:=l) _ _ U5 aC,hcm,Yq,aX,iy];rw[hlen,bC aC,aJ,bC aC,aJ]
   ·simp only[EY,M.uD,M.uz,bg,aJ,hsp,aj,Vp (l:=l) _ _ U5 aC,hcm,Yq,aX,iy];rw[hlen,bC aC,aJ,bC aC,aJ]
  cases h0:bG l q.1==0 with
  |true=>rw[h0,aJ] at hb;rw[aO hb,aJ];exact⟨rfl,aC,by rw[jT,hcs];omega⟩
  |false=>
   rw[h0,aX] at hb;rw[aX];cases h31:bG l q.1==31 with
   |true=>rw[h31,aJ] at hb;rw[aO hb,aJ];exact⟨aC,_,_,_,rfl,.inr rfl⟩
   |false=>
    rw[h31,aX] at hb;rw[aX];have hr:=aHd hl hx n (i:=q.1) (ns:=[]) aC (Nat.zero_le _);have CJ:=aug (l:=l) (n:=n) (i:=q.1) (nt:=[]) aC;have e0:txt ([]:List Tk)=[]:=rfl;rw[e0] at hr;generalize Wj l n q.1 []=p at hr CJ|-;cases p with
    |out=>trivial
    |bad j=>
     obtain⟨fl,rows,NG,g1,g2,h2⟩:=hr;rw[h2,aj] at hb;simp only[rD,DJ,hcl,Bd] at hb;rw[bC aC,aJ,bC aC,aJ] at hb;rw[aZ hb];refine⟨g1, ?_⟩;have hb2:M.uD (.inr (ay l,0,0,ay l,(j:Int),true,parts (L++EU q.2)++[[D.sl false 5 (au rows)]],ay NG))=some (.inr (.inl (ay l,0,0,ay l,(j:Int),true,(parts (L++EU q.2)++[[D.sl false 5 (au rows)]])++parts (EU (txt NG)),ay []))):=by simp only[EY,M.uD,M.uz,bg,aJ,aon,aj,Vp (l:=l) _ _ NG aC,abM];rw[show(parts (L++EU q.2)++[[D.sl false 5 (au rows)]]).length+(parts (EU (txt NG))).length=L.length+U5.length+1+NG.length by rw[DJ,rD,DJ,hcl,Bd,rD,Xi],bC aC,aJ,bC aC,aJ]
     exact⟨_,_,_,aO hb2,.inl rfl⟩
    |ok x j m'=>obtain⟨fl,rows,NG,h1,rfl,h2⟩:=hr;have hs':FS l q.1 ([]:gW).length x.size j (txt NG).length:=CJ;simp only[zaV,zln] at hs';rw[h2,aj] at hb;simp only[JD h1,rD,DJ,hcl,Bd] at hb;rw[bC aC,aJ,bC aC,aJ] at hb;rw[aZ hb];exact aur hl hx n ((L++EU q.2)++[x]) j NG _ (.inr rfl) aC aC (by rw[sizes1,jT,hcs];omega)
noncomputable def aRF(rows:ak):Option (Bool×ak×Int×Int):=
 (M.CV rows).bind λr=>bif r.1 !=0 then some (true,[],r.1,r.2) else some (false,rows,r.1,r.2)
def AG(l:List Tk)(o:Option (Bool×ak×Int×Int)):PR (List Tn)->Prop
 | .ok L _ _=>o=aRF (aU false ((Tn.mk 45 0 [] [] L).flat 0))/\sizes L<=18000
 | .bad j=>j<=l.length/\o=(M.uM (ay l) (j:Int) 3).bind λr=>some (true,[],r.1,r.2)
 | .out=>True
def aDr(hl:l.length<=3000)(hx:aeP l)(h0:M.zS (ay l)=some true){k:Int}(h1:M.Fa (ay l)=some k)(hk:k<0)(n:Nat):AG l (M.oQ (ay l)) (Ux l n [] 0 []):=by
 have hloop:=aur hl hx n [] 0 [] (.inl (ay l,0,0,ay l,0,false,[])) (.inl ⟨rfl,rfl⟩) (Nat.zero_le _) (zaU _) (zaU _);have e0:txt ([]:List Tk)=[]:=rfl;rw[e0] at hloop;simp only[M.oQ,M.zD,h0,h1,aj,zaT,aX];rw[Ac aC,aX];generalize Ux l n [] 0 []=p at hloop|-;cases p with
 |out=>trivial
 |bad j=>
  obtain⟨hj,u,rows,ns,h2,h3⟩:=hloop;rw[h2,aj];refine⟨hj, ?_⟩;rcases h3 with rfl|rfl
  ·simp only[jg,aJ]
  ·simp only[jg,letE]
 |ok L j nt=>obtain⟨h2,hj,h3⟩:=hloop;rw[h2,aj];refine⟨?_,aC⟩;simp only[jg,aX,NV,EI 45 0 [] [] [] L aC,aj,aV];rfl
variable {l:List Tk}
abbrev P1:=ak×Int×Int×ak×Int×Bool×Int×Int×aK×aK×ak
abbrev P2:=ak×Int×Int×ak×Int×Bool×Int×Int×aK×aK×ak×ak
def p1(l:List Tk)(i:Nat)(b:Bool)(nt:gW):P1:=(ay l,0,0,ay l,(i:Int),b,45,0,[],[],encS nt)
def p2(l:List Tk)(i:Nat)(b:Bool)(nt:gW)(rows:ak):P2:=(ay l,0,0,ay l,(i:Int),b,45,0,[],[],encS nt,rows)
def AD(l:List Tk)(o:Option (P1⊕P2)):PR (List Tn)->Prop
 | .ok L' j ZG=>∃L0 i0 nt0 u,o=some u/\(u=.inl (p1 l i0 false nt0)/\L0=[]\/u=.inr (p2 l i0 false nt0 (dN false L0)))/\L'=L0++EU nt0/\nt0.length<=l.length/\L0.length<=2 * l.length
 | .bad j=>∃u nt0,o=some u/\(u=.inl (p1 l j true nt0)\/∃rows:ak,u=.inr (p2 l j true nt0 rows))
 | .out=>True
def am7(hl:l.length<=1048576)(hk:∀i,i<l.length->bG l i≠0):
  ∀n,∀(L:List Tn) (i:Nat) (nt:gW) (s:P1⊕P2),(s=.inl (p1 l (sep l i nt).1 false (sep l i nt).2)/\L=[]\/s=.inr (p2 l (sep l i nt).1 false (sep l i nt).2 (dN false L)))->i<=l.length->nt.length<=i->L.length+nt.length<=2 * i->
   AD l (M.CB s) (Ux l n L i nt)
 |0,_,_,_,_,_,_,_,_=>by rw[Ux];trivial
 |n+1,L,i,nt,s,hs,hi,hn,hL=>by
  have hq:=SK (l:=l) (i:=i) (nt:=nt) hi;simp only[Ux];generalize hqe:sep l i nt=q at hs hq|-;rw[M.CB];cases h0:bG l q.1==0 with
  |true=>
   have e0:bG l q.1=0:=by rwa [beq_iff_eq] at h0
   have hge:¬q.1<l.length:=λh=>hk q.1 h e0
   refine⟨L,q.1,q.2,s, ?_,hs,rfl,aC,aC⟩;rcases hs with⟨rfl,rfl⟩|rfl<;>refine aO ?_<;>simp only[EY,M.uH,M.uG,p1,p2,Bool.not_false,aJ,dZ]<;>
    rw[Ac aC,aX]
  |false=>
   have hlt:q.1<l.length:=eP (by rwa [Y6] at h0);have hb:M.uH s=(M.ni (ay l) (q.1:Int) false (encS [])).bind λr=>
     bif(((dN false (L++EU q.2)).length+[[D.int .i64 r.1,D.int .i64 r.2.1,D.str r.2.2.1,D.str r.2.2.2.1,D.sl false 5 (au r.2.2.2.2.2.1)]].length) * 72).ble 140737488355328 then
      (bif((dN false (L++EU q.2)).length+[[D.int .i64 r.1,D.int .i64 r.2.1,D.str r.2.2.1,D.str r.2.2.2.1,D.sl false 5 (au r.2.2.2.2.2.1)]].length).ble 140737488355328 then
      (bif ah r.2.2.2.2.2.2.2.2.2 then
       ((M.dh r.2.2.2.2.2.2.1 r.2.2.2.2.2.2.2.1 r.2.2.2.2.2.2.2.2.1 r.2.2.2.2.2.2.2.2.2).bind λr'=>
       (some (.inl (.inr ((ay l,0,0,r'.1,r'.2.1,r'.2.2.1,45,0,[],[],r'.2.2.2,dN false (L++EU q.2)++[[D.int .i64 r.1,D.int .i64 r.2.1,D.str r.2.2.1,D.str r.2.2.2.1,D.sl false 5 (au r.2.2.2.2.2.1)]]):P2))))) else none) else none) else none:=by
    have hc:=EF (l:=l) (q.1:Int) false q.2 aC;have hlen:(L.length+q.2.length) * 72<=140737488355328:=aC;rcases hs with⟨rfl,rfl⟩|rfl
    ·simp only[EY,M.uH,M.uG,p1,Bool.not_false,aJ,dZ];rw[zdt aC,aJ];simp only[aJ,dY,aj,hc,jf,List.nil_append];rw[show(dN false (EU q.2)).length=q.2.length by rw[dR,ED],bC aC,aJ,bC aC,aJ]
    ·simp only[EY,M.uH,M.uG,p2,Bool.not_false,aJ,dZ];rw[zdt aC,aJ];simp only[aJ,dY,aj,hc,jf,<-Aa];rw[show(dN false L).length+(dN false (EU q.2)).length=L.length+q.2.length by rw[dR,dR,ED],bC aC,aJ,bC aC,aJ]
   rw[aX];have hbad:∀{j:Nat},AT l (M.ni (ay l) (q.1:Int) false (encS [])) (.bad j)->AD l (gU M.uH s) (.bad j):=by intro j hj;obtain⟨k,op,x,y,fl,ks,ZG,h1,h2⟩:=hj;rw[h2,aj] at hb;simp only[dR,DJ,ED,Bd,dY,aJ,akL,aj] at hb;rw[bC aC,aJ,bC aC,aJ] at hb;rw[aZ hb];exact⟨_,ZG,aO rfl,.inr ⟨_,rfl⟩⟩
   cases h31:bG l q.1==31 with
   |true=>
    have e31:bG l q.1=31:=by rwa [beq_iff_eq] at h31
    exact hbad (awv hl e31 aC (Nat.zero_le _))
   |false=>
    rw[aX];have hr:=aAI hl n (i:=q.1) (nt:=[]) aC (Nat.zero_le _);have CJ:=aug (l:=l) (n:=n) (i:=q.1) (nt:=[]) aC;generalize Wj l n q.1 []=p at hr CJ|-;cases p with
    |out=>trivial
    |bad j=>exact hbad hr
    |ok x j m'=>obtain⟨fl,kt,h1,h2⟩:=hr;have aAx:FS l q.1 ([]:gW).length x.size j m'.length:=CJ;rw[zln] at aAx;rw[h2,aj] at hb;simp only[afQ h1,dR,DJ,ED,Bd,dY,aJ,am4 hl j m' aC aC,aj] at hb;rw[bC aC,aJ,bC aC,aJ] at hb;rw[aZ hb];refine am7 hl hk n ((L++EU q.2)++[x]) j m' _ (.inr rfl) aC aC ?_;simp only[DJ,ED,Bd];omega
noncomputable def aDs(rows:ak):Option (ak×Int×Int):=
 (M.xI 45 0 [] [] rows).bind λr=>bif !bif r.1==0 then bif r.2==0 then true else false else false then some ([],r.1,r.2) else
  (M.oV 45 0 [] [] rows).bind λr'=>bif[[D.sl true 5 r']].all xw then some (r',0,0) else none
def AE(l:List Tk)(o:Option (ak×Int×Int)):PR (List Tn)->Prop
 | .ok L _ _=>o=aDs (dN false L)
 | .bad j=>o=(M.qX (ay l) (j:Int)).bind λr=>some ([],3,r)
 | .out=>True
def aDt(hl:l.length<=1048576)(hk:∀i,i<l.length->bG l i≠0)(h0:M.xH (ay l)=some (0,0))(n:Nat):AE l (M.lC (ay l)) (Ux l n [] 0 []):=by
 have hloop:=am7 hl hk n [] 0 [] (.inl (p1 l (sep l 0 []).1 false (sep l 0 []).2)) (.inl ⟨rfl,rfl⟩) (Nat.zero_le _) (zaU _) (zaU _);have hsep:=am4 hl 0 [] (Nat.zero_le _) (zaU _);have aRG:M.dh (ay l) 0 false []=some (ay l,((sep l 0 []).1:Int),false,encS (sep l 0 []).2):=hsep;simp only[M.lC,M.zO,h0,aj,show((0:Int)==0)=true from rfl,aJ,zaT,aX,aRG];generalize sep l 0 []=q at hloop;rw[p1] at hloop;generalize Ux l n [] 0 []=p at hloop|-;cases p with
 |out=>trivial
 |bad j=>
  obtain⟨u,nt0,h1,h3⟩:=hloop;rw[h1,aj];show _=(M.qX (ay l) (j:Int)).bind λr=>some ([],3,r)
  rcases h3 with rfl|⟨rows,rfl⟩
  ·simp only[p1,jg,aJ]
  ·simp only[p2,jg,letE,aJ]
 |ok L' j ZG=>
  obtain⟨L0,i0,nt0,u,h1,h2,rfl,h4,h5⟩:=hloop;rw[h1,aj];show _=aDs _;rcases h2 with⟨rfl,rfl⟩|rfl
  ·simp only[p1,jg,aX,dY,aJ,aj,EF (l:=l) _ _ nt0 aC,jf,dR,ED];rw[bC aC,aJ,bC aC,aJ];rfl
  ·simp only[p2,jg,letE,aX,dY,aJ,aj,EF (l:=l) _ _ nt0 aC,jf,dR,ED,<-Aa];rw[bC aC,aJ,bC aC,aJ];rfl
def aAN(w:Bool)(t:Tn):kP .i64 (t.row w) 0=some t.kind/\kP .i64 (t.row w) 1=some t.op/\cStr (t.row w) 2=some t.text/\cStr (t.row w) 3=some t.other/\cSl 5 (t.row w) 4=some (dN w t.kids):=by rw[an6];exact⟨rfl,rfl,rfl,rfl,rfl⟩
def am8{w:Bool}{ks:List Tn}{j:Nat}{t:Tn}(h:ks[j]? =some t):(dN w ks)[j]? =some (t.row w):=by rw[RZ,List.getElem?_map,h];rfl
def aus(w:Bool):∀(f:Nat) (t:Tn) (a b:Int) (c d:aK),t.size<=f->t.size<=1048576->M.ny f a b c d (dN w t.kids)=some (t.size:Int)
 |0,t,_,_,_,_,hf,_=>by have:=t.size_pos;omega
 |f+1,.mk k op x y ks,a,b,c,d,hf,hs=>by
  rw[Tn.size] at hf hs;have hkl:=yP ks;simp only[M.ny,M.Ig,Tn.kids,dR];have hloop:=wC (b:=M.GZ (M.ny f) (dN w ks) (ks.length:Int)) (t:=(((1+sizes ks:Nat):Int),(ks.length:Int))) (λj=>(((1+sizes (ks.take j):Nat):Int),(j:Int))) ks.length
   (by
    intro j hj;obtain⟨t,ht⟩:∃t,ks[j]? =some t:=⟨ks[j],by simp⟩
    have hst:=Pm ht;obtain⟨r0,r1,r2,r3,r4⟩:=aAN w t;have hrec:=aus w f t t.kind t.op t.text t.other aC aC;simp only[EY,M.GZ,M.Cm,dG,am8 ht,aj,r0,r1,r2,r3,r4,hrec];rw[zdt aC,aJ,bF aC aC,bF aC aC,List.take_add_one,ht,Option.toList_some,sizes1];congr 3;omega)
   (by simp only[EY,M.GZ,M.Cm];rw[Ac aC,aX,List.take_length]) 0 (Nat.zero_le _)
  have Mc:M.KL (M.ny f) (dN w ks) (ks.length:Int) (1,0)=_:=hloop;rw[Mc,aj,Tn.size,Nat.add_comm]
def dF:Nat->Tn->Int
 |0,_=>0
 |f+1,t=>mx 0 (t.kids.map (dF f))+1
def aq7:∀f t,0<=dF f t/\dF f t<=f
 |0,t=>by simp[dF]
 |f+1,t=>by have:=afK (f:Int) (t.kids.map (dF f)) 0 aC (λx hx=>by obtain⟨k,_,rfl⟩:=List.mem_map.1 hx;exact(aq7 f k).2);rw[dF];omega
def aq8(w:Bool):∀(f:Nat) (t:Tn) (a b:Int) (c d:aK),t.size<=f->f<=1048576->M.jc f a b c d (dN w t.kids)=some (dF f t)
 |0,t,_,_,_,_,hf,_=>by have:=t.size_pos;omega
 |f+1,.mk k op x y ks,a,b,c,d,hf,hs=>by
  rw[Tn.size] at hf;have hkl:=yP ks;have hdr:=aq7 (f+1) (.mk k op x y ks);simp only[M.jc,M.Bv,Tn.kids,dR];have hloop:=wC (b:=M.su (M.jc f) (dN w ks) (ks.length:Int)) (t:=(mx 0 (ks.map (dF f)),(ks.length:Int))) (λj=>(mx 0 ((ks.take j).map (dF f)),(j:Int))) ks.length
   (by
    intro j hj;obtain⟨t,ht⟩:∃t,ks[j]? =some t:=⟨ks[j],by simp⟩
    have hst:=Pm ht;obtain⟨r0,r1,r2,r3,r4⟩:=aAN w t;have hrec:=aq8 w f t t.kind t.op t.text t.other aC aC;simp only[EY,M.su,M.rZ,dG,am8 ht,aj,r0,r1,r2,r3,r4,hrec];rw[zdt aC,aJ,bF aC aC,List.take_add_one,ht,Option.toList_some,List.map_append,zmc,List.map_nil,aiC];rfl)
   (by simp only[EY,M.su,M.rZ];rw[Ac aC,aX,List.take_length]) 0 (Nat.zero_le _)
  have Mc:M.Es (M.jc f) (dN w ks) (ks.length:Int) (0,0)=_:=hloop;rw[Mc,aj];rw[dF] at hdr|-;simp only[Tn.kids] at hdr|-;rw[bF aC aC]
def aq9{l:List Nd}:∀(f:Nat) (t:Tn) (b:Nat),Lies l b t->dep l f (b+sizes t.kids)=dF f t
 |0,_,_,_=>rfl
 |f+1,.mk k op x y ks,b,h=>by
  rw[dep,dF];congr 2;rw[PI (Lies.root' h)];simp only[Tn.kids];refine List.ext_getElem? λj=> ?_
  rw[List.getElem?_map,List.getElem?_map]
  by_cases hj:j<ks.length
  ·obtain⟨t,ht⟩:∃t,ks[j]? =some t:=⟨ks[j],by simp⟩
   rw[an7 ht,ht];simp only[Ir,ztn];rw[aq9 f t _ (Lies.asD h ht)]
  ·have e:(Go.Vm.ends ks b).length=ks.length:=by rw[Go.Vm.Iw]
   rw[List.getElem?_eq_none aC,List.getElem?_eq_none aC];rfl
def aAO(t:Tn)(h:t.size<=400):IZ (t.flat 0)=true:=by have hp:=t.size_pos;obtain⟨u,h1,h2⟩:=t.ajE 0;rw[IZ,uK,Pq,t.flat_length,if_pos ⟨hp,h⟩,ahz];simp only[h1];rw[List.getElem?_append_right aC,h2,Nat.sub_self];rfl
def as4{t:Tn}(hs:t.size<=1048576)(o w:Bool):∃k,M.CV (aU o (t.flat 0))=some (k,0)/\M.xI t.kind t.op t.text t.other (dN w t.kids)=some (k,0):=by
 have a1:=M.afE (aus w t.size t t.kind t.op t.text t.other (zaU _) hs);have a2:=M.V7 (aq8 w t.size t t.kind t.op t.text t.other (zaU _) hs);simp only[M.CV,M.Qz,M.xI,M.QL,gV,t.flat_length,a1,aj]
 by_cases h4:t.size<=400
 ·rw[Ac aC,aX,aX,Zp _ o (by rw[t.flat_length];omega) (λn hn=>by have:=(SI t 0 n hn).1;omega),depth,aAO t h4,if_pos rfl,t.flat_length,a2,aj,aj];have hk:=t.X3;have e:=aq9 t.size t 0 (Lies.whole t);rw[show 0+sizes t.kids=t.size - 1 by omega] at e;rw[e];cases decide (dF t.size t>40) with
  |true=>exact⟨4,rfl,rfl⟩
  |false=>exact⟨0,rfl,rfl⟩
 ·rw[zdt aC];exact⟨1,rfl,rfl⟩
def Xj(k:Int):Bool:=k==3||(k==4||(k==5||(k==6||(k==8||(k==33||(k==35||(k==51||(k==52||false))))))))
def akV(k:Int):M.jv k=some (Xj k)/\M.jy k=some (Xj k):=by simp only[M.jv,M.DU,M.jy,M.Ee,Xj];cases k==3<;>first|exact⟨rfl,rfl⟩|(cases k==4<;>first|exact⟨rfl,rfl⟩|(cases k==5<;>first|exact⟨rfl,rfl⟩|(cases k==6<;>first|exact⟨rfl,rfl⟩|(cases k==8<;>first|exact⟨rfl,rfl⟩|(cases k==33<;>first|exact⟨rfl,rfl⟩|(cases k==35<;>first|exact⟨rfl,rfl⟩|(cases k==51<;>first|exact⟨rfl,rfl⟩|(cases k==52<;>exact⟨rfl,rfl⟩))))))))
def gd(A k7 n32 k2 n1 k5 e k58 k41:Bool):Bool:=A &&((!k7||n32) &&((!k2||n1) &&((!k5|| !e) &&((!k58||e) &&(!k41||e)))))
def n32:List Tk->Bool
 |[]=>false
 |u::_=>u.kind==32
def n1(z:Bool):List Tk->Bool
 |[]=>true
 |u::_=>u.kind==1||(z && u.kind==0)
def gT(z:Bool)(b:Int)(t:Tk)(r:List Tk):Bool:=gd (JA t.kind t.text) (t.kind==7) (n32 r) (t.kind==2) (n1 z r) (t.kind==5) (Xj b) (t.kind==58) (t.kind==41)
def afT(z:Bool):Int->List Tk->Bool
 |_,[]=>true
 |b,t::r=>gT z b t r && afT z t.kind r
def aRH(s:aK):JA 0 s=false:=by
 cases s with
 |nil=>rfl
 |cons c s=>rfl
def aAP:∀(l:List Tk) (b:Int),afT true b l=afT false b l
 |[],_=>rfl
 |t::r,b=>by
  rw[afT,afT,aAP r];cases r with
  |nil=>rfl
  |cons u r=>
   cases h:u.kind==0 with
   |true=>
    have e:u.kind=0:=by rwa [beq_iff_eq] at h
    have:afT false t.kind (u::r)=false:=by rw[afT,gT,e,aRH];rfl
    rw[this,Bool.and_false,Bool.and_false]
   |false=>rw[gT,gT,n1,n1,h];rfl
section
variable {l:List Tk} (hl:l.length<=3000) (hf:∀t,t∈l->I64 t.kind/\t.text.length<=1048576)
include hl hf
theorem aww{i:Nat}{t:Tk}(ht:l[i]? =some t)(b:Int):M.DW (ay l) (b,(i:Int))=some (bif gT false b t (l.drop (i+1)) then .inl (t.kind,((i+1:Nat):Int)) else .inr (.inl ())):=by
 have hi:=(UN.1 ht).1;have hft:=hf t (zmg ht);have hw:i64.wrap ((i:Int)+1)=((i+1:Nat):Int):=by rw[bF aC aC];omega
 have hT:=(aeK t.kind t.text t.at_ hft.2 hft.1).1;have hE:=(akV b).1;simp only[M.DW,M.DV,M.kQ,dZ,hw];rw[zdt aC,aJ]
 by_cases h2:i+1<l.length
 ·obtain⟨u,hu⟩:∃u,l[i+1]? =some u:=⟨l[i+1],by simp[h2]⟩
  have hd:l.drop (i+1)=u::l.drop (i+2):=by rw[List.drop_eq_getElem_cons h2];rw[List.getElem?_eq_getElem h2] at hu;rw[Option.some.inj hu]
  rw[hd,gT,n32,n1,zdt aC,aJ];simp only[dG,iE,ht,hu,Ir,aj,cT0,cT1,cT2,hT,hE,bne,aJ];cases JA t.kind t.text<;>cases t.kind==7<;>cases u.kind==32<;>cases t.kind==2<;>cases u.kind==1<;>cases t.kind==5<;>cases Xj b<;>cases t.kind==58<;>cases t.kind==41<;>rfl
 ·have hd:l.drop (i+1)=[]:=List.drop_of_length_le aC;rw[hd,gT,n32,n1,Ac aC,aX];simp only[dG,iE,ht,Ir,aj,cT0,cT1,cT2,hT,hE,bne,aX];cases JA t.kind t.text<;>cases t.kind==7<;>cases t.kind==2<;>cases t.kind==5<;>cases Xj b<;>cases t.kind==58<;>cases t.kind==41<;>rfl
theorem awx{i:Nat}{t:Tk}(ht:l[i]? =some t)(b:Int):M.Eh (ay l) (ay l) (l.length:Int) (b,(i:Int))=some (bif gT true b t (l.drop (i+1)) then .inl (t.kind,((i+1:Nat):Int)) else .inr (.inl ())):=by
 have hi:=(UN.1 ht).1;have hft:=hf t (zmg ht);have hw:i64.wrap ((i:Int)+1)=((i+1:Nat):Int):=by rw[bF aC aC];omega
 have hT:=(aeK t.kind t.text t.at_ hft.2 hft.1).2;have hE:=(akV b).2;simp only[M.Eh,M.Ef,M.kS,dZ,hw];rw[zdt aC,aJ];simp only[dG,iE,ht,Ir,aj,cT0,cT1,cT2]
 by_cases h2:i+1<l.length
 ·obtain⟨u,hu⟩:∃u,l[i+1]? =some u:=⟨l[i+1],by simp[h2]⟩
  have hd:l.drop (i+1)=u::l.drop (i+2):=by rw[List.drop_eq_getElem_cons h2];rw[List.getElem?_eq_getElem h2] at hu;rw[Option.some.inj hu]
  rw[hd,gT,n32,n1,zdt aC,aJ];simp only[hu,Ir,aj,cT0,cT1,cT2,hT,hE,bne,aJ,Bool.true_and];cases JA t.kind t.text<;>cases t.kind==7<;>cases u.kind==32<;>cases t.kind==2<;>cases u.kind==1<;>cases u.kind==0<;>cases t.kind==5<;>cases Xj b<;>cases t.kind==58<;>cases t.kind==41<;>rfl
 ·have hd:l.drop (i+1)=[]:=List.drop_of_length_le aC;rw[hd,gT,n32,n1,Ac aC,aX];simp only[hT,hE,aj,bne,aX];cases JA t.kind t.text<;>cases t.kind==7<;>cases t.kind==2<;>cases t.kind==5<;>cases Xj b<;>cases t.kind==58<;>cases t.kind==41<;>rfl
end
def agU{l:List Tk}{z:Bool}{B:Int×Int->Option ((Int×Int)⊕(Unit⊕(Int×Int)))}(hb:∀(i:Nat) (t:Tk) (b:Int),l[i]? =some t->B (b,(i:Int))=some (bif gT z b t (l.drop (i+1)) then .inl (t.kind,((i+1:Nat):Int)) else .inr (.inl ())))
  (he:∀b,B (b,(l.length:Int))=some (.inr (.inr (b,(l.length:Int))))):∀(n i:Nat) (b:Int),l.length - i=n->i<=l.length->∃b',gU B (b,(i:Int))=some (bif afT z b (l.drop i) then .inr (b',(l.length:Int)) else .inl ())
 |0,i,b,hn,hi=>by obtain rfl:i=l.length:=aC;rw[List.drop_length,afT];exact⟨b,aO (he b)⟩
 |n+1,i,b,hn,hi=>by
  have h2:i<l.length:=aC;obtain⟨t,ht⟩:∃t,l[i]? =some t:=⟨l[i],by simp[h2]⟩
  have hd:l.drop i=t::l.drop (i+1):=by rw[List.drop_eq_getElem_cons h2];rw[List.getElem?_eq_getElem h2] at ht;rw[Option.some.inj ht]
  have h:=hb i t b ht;rw[hd,afT];cases hg:gT z b t (l.drop (i+1)) with
  |false=>rw[hg,aX] at h;exact⟨0,aO h⟩
  |true=>rw[hg,aJ] at h;obtain⟨b',h'⟩:=agU hb he n (i+1) t.kind aC aC;exact⟨b',by rw[aZ h,h',Bool.true_and]⟩
def Y5(l:List Tk):Bool:=decide (l.length<=3000) && afT false 0 l
def ara(l:List Tk)(hl:l.length<=1048576)(hf:∀t,t∈l->I64 t.kind/\t.text.length<=1048576):M.zS (ay l)=some (Y5 l)/\M.Du (ay l)=some (Y5 l):=by
 simp only[M.zS,M.Oq,M.Du,M.OH,dZ,Y5]
 by_cases h3:l.length<=3000
 ·rw[Ac aC,aX,aX,zdt h3,Bool.true_and];obtain⟨b1,h1⟩:=agU (l:=l) (z:=false) (B:=M.DW (ay l)) (λi t b ht=>aww h3 hf ht b) (λb=>by simp only[M.DW,M.DV,M.kQ,dZ];rw[Ac aC,aX]) l.length 0 0 aC (Nat.zero_le _);obtain⟨b2,h2⟩:=agU (l:=l) (z:=true) (B:=M.Eh (ay l) (ay l) (l.length:Int)) (λi t b ht=>awx h3 hf ht b) (λb=>by simp only[M.Eh,M.Ef,M.kS];rw[Ac aC,aX]) l.length 0 0 aC (Nat.zero_le _);rw[agJ,List.drop_zero] at h1 h2;rw[aAP] at h2;rw[M.MQ,M.Np,h1,h2];cases afT false 0 l<;>exact⟨rfl,rfl⟩
 ·rw[zdt aC,aJ,aJ,Ac h3];exact⟨rfl,rfl⟩
def akW{z:Bool}:∀(l:List Tk) (b:Int),afT z b l=true->∀t,t∈l->JA t.kind t.text=true
 |[],_,_,t,h=>by cases h
 |u::r,b,h,t,ht=>by
  rw[afT,PO] at h;rcases List.mem_cons.1 ht with rfl|ht
  ·have:=h.1;rw[gT,gd,PO] at this;exact this.1
  ·exact akW r _ h.2 t ht
def as5{l:List Tk}(h:Y5 l=true):∀i,i<l.length->bG l i≠0:=λi hi e=>by
 rw[Y5,PO] at h;obtain⟨t,ht⟩:∃t,l[i]? =some t:=⟨l[i],by simp[hi]⟩
 have:=akW l 0 h.2 t (zmg ht);rw[bG,ht] at e;have e':t.kind=0:=e;rw[e',aRH] at this;cases this
def aDu{l:List Tk}(h:Y5 l=true):aeP l:=λi hs=>by
 rw[Y5,PO] at h;have hk0:bG l i≠0:=λe=>by rw[e] at hs;cases hs
 have hi:=eP hk0;obtain⟨t,ht⟩:∃t,l[i]? =some t:=⟨l[i],by simp[hi]⟩
 have hok:=akW l 0 h.2 t (zmg ht);have e1:bG l i=t.kind:=by rw[bG,ht]
 have e2:CG l i=t.text:=by rw[CG,ht]
 rw[e1] at hs|-;rw[e2];have hk:t.kind=62\/t.kind=53\/t.kind=64:=by rw[zQ] at hs;simp only[Bool.or_eq_true,beq_iff_eq] at hs;exact hs
 have hr:I64 t.kind:=by rcases hk with e|e|e<;>rw[e]<;>exact⟨by decide,by decide⟩
 rw[(akx t.kind hr).1];rw[JA] at hok;cases hn:t.text==[] with
 |true=>rw[hn] at hok;cases hok
 |false=>
  rw[hn,aX] at hok;have hsp:(t.text==spell t.kind)=true:=by rcases hk with e|e|e<;>rw[e] at hok|-<;>exact hok
  rw[beq_iff_eq] at hsp;rw[hsp]
def aio(k:Int):Bool:=k==32||(k==34||k==30)
def alJ(k:Int):Bool:=k==33||(k==35||k==31)
def aAQ(k:Int):M.sS k=some (aio k)/\M.BI k=some (aio k):=by simp only[M.sS,M.Lc,M.BI,M.QE,aio];cases k==32<;>first|exact⟨rfl,rfl⟩|(cases k==34<;>exact⟨rfl,rfl⟩)
def aAR(k:Int):M.qG k=some (alJ k)/\M.BJ k=some (alJ k):=by simp only[M.qG,M.JH,M.BJ,M.QF,alJ];cases k==33<;>first|exact⟨rfl,rfl⟩|(cases k==35<;>exact⟨rfl,rfl⟩)
def aAS{k:Int}(h:aio k=true):alJ k=false:=by rw[aio] at h;simp only[Bool.or_eq_true,beq_iff_eq] at h;rcases h with e|e|e<;>rw[e]<;>rfl
def nst(d k:Int):Int:=bif aio k then d+1 else bif alJ k then(bif decide (d - 1<0) then 0 else d - 1) else d
def am9:Int->Nat->List Tk->Option Nat
 |_,_,[]=>none
 |d,i,t::r=>bif decide (nst d t.kind>40) then some i else am9 (nst d t.kind) (i+1) r
def aEE{d k:Int}(h:aio k=true):nst d k=d+1:=by rw[nst,h];rfl
def aEF{d k:Int}(h:aio k=false)(h2:alJ k=true):nst d k=(bif decide (d - 1<0) then 0 else d - 1):=by rw[nst,h,h2];rfl
def aEG{d k:Int}(h:aio k=false)(h2:alJ k=false):nst d k=d:=by rw[nst,h,h2];rfl
def awy{d k:Int}(h0:0<=d)(h1:d<=40):0<=nst d k/\nst d k<=41:=by
 rw[nst];cases aio k<;>cases alJ k<;>simp only[aJ,aX]
 ·omega
 ·cases h:decide (d - 1<0)<;>simp only[decide_eq_true_eq,decide_eq_false_iff_not] at h<;>simp only[aJ,aX]<;>omega
 ·omega
 ·omega
section
variable {l:List Tk} (hl:l.length<=3000)
include hl
theorem awz{i:Nat}{t:Tk}(ht:l[i]? =some t){d:Int}(h0:0<=d)(h1:d<=40):M.Ho (ay l) (d,(i:Int))=some (bif decide (nst d t.kind>40) then .inr (.inl (i:Int)) else .inl (nst d t.kind,((i+1:Nat):Int))):=by
 have hi:=(UN.1 ht).1;have hw:i64.wrap ((i:Int)+1)=((i+1:Nat):Int):=by rw[bF aC aC];omega
 have wa:i64.wrap (d+1)=d+1:=bF aC aC;have wb:i64.wrap (d - 1)=d - 1:=bF aC aC;have hm:(bif decide (0<d - 1) then d - 1 else 0)=(bif decide (d - 1<0) then 0 else d - 1):=by
  by_cases c:0<d - 1
  ·rw[zdt c,Ac aC];rfl
  ·by_cases c2:d - 1<0
   ·rw[Ac c,zdt c2];rfl
   ·rw[Ac c,Ac c2];show(0:Int)=d - 1;omega
 simp only[M.Ho,M.Hl,dZ,hw,wa,wb,hm];rw[zdt aC,aJ];simp only[dG,iE,ht,Ir,aj,cT0,(aAQ t.kind).1,(aAR t.kind).1];cases ho:aio t.kind with
 |true=>rw[aEE ho,aAS ho];simp only[aJ,aX];cases decide (d+1>40)<;>rfl
 |false=>
  cases hc:alJ t.kind with
  |true=>rw[aEF ho hc];simp only[aJ,aX];cases decide ((bif decide (d - 1<0) then 0 else d - 1)>40)<;>rfl
  |false=>rw[aEG ho hc];simp only[aJ,aX];cases decide (d>40)<;>rfl
theorem awC{i:Nat}{t:Tk}(ht:l[i]? =some t){d:Int}(h0:0<=d)(h1:d<=40):M.Ic (ay l) (l.length:Int) (d,(i:Int))=some (bif decide (nst d t.kind>40) then .inr (.inl (i:Int)) else .inl (nst d t.kind,((i+1:Nat):Int))):=by
 have hi:=(UN.1 ht).1;have hw:i64.wrap ((i:Int)+1)=((i+1:Nat):Int):=by rw[bF aC aC];omega
 have wa:i64.wrap (d+1)=d+1:=bF aC aC;have wb:i64.wrap (d - 1)=d - 1:=bF aC aC;simp only[M.Ic,M.Ib,hw,wa,wb];rw[zdt aC,aJ];simp only[dG,iE,ht,Ir,aj,cT0,cT1,cT2,(aAQ t.kind).2,(aAR t.kind).2];cases ho:aio t.kind with
 |true=>rw[aEE ho];simp only[aJ];cases decide (d+1>40)<;>rfl
 |false=>
  cases hc:alJ t.kind with
  |true=>rw[aEF ho hc];simp only[aJ,aX];cases decide ((bif decide (d - 1<0) then 0 else d - 1)>40)<;>rfl
  |false=>rw[aEG ho hc];simp only[aJ,aX];cases decide (d>40)<;>rfl
end
def agV{l:List Tk}{B:Int×Int->Option ((Int×Int)⊕(Int⊕(Int×Int)))}(hb:∀(i:Nat) (t:Tk) (d:Int),l[i]? =some t->0<=d->d<=40->B (d,(i:Int))=some (bif decide (nst d t.kind>40) then .inr (.inl (i:Int)) else .inl (nst d t.kind,((i+1:Nat):Int))))
  (he:∀d,B (d,(l.length:Int))=some (.inr (.inr (d,(l.length:Int))))):∀(n i:Nat) (d:Int),l.length - i=n->i<=l.length->0<=d->d<=40->∃d',gU B (d,(i:Int))=some (match am9 d i (l.drop i) with|some p=> .inl (p:Int)|none=> .inr (d',(l.length:Int)))
 |0,i,d,hn,hi,_,_=>by obtain rfl:i=l.length:=aC;rw[List.drop_length,am9];exact⟨d,aO (he d)⟩
 |n+1,i,d,hn,hi,h0,h1=>by
  have h2:i<l.length:=aC;obtain⟨t,ht⟩:∃t,l[i]? =some t:=⟨l[i],by simp[h2]⟩
  have hd:l.drop i=t::l.drop (i+1):=by rw[List.drop_eq_getElem_cons h2];rw[List.getElem?_eq_getElem h2] at ht;rw[Option.some.inj ht]
  have h:=hb i t d ht h0 h1;have hr:=awy (k:=t.kind) h0 h1;rw[hd,am9]
  by_cases hg:nst d t.kind>40
  ·rw[zdt hg,aJ] at h|-;exact⟨0,aO h⟩
  ·rw[Ac hg,aX] at h|-;obtain⟨d',h'⟩:=agV hb he n (i+1) (nst d t.kind) aC aC hr.1 aC;exact⟨d',by rw[aZ h,h']⟩
def agW(l:List Tk):Int:=match am9 0 0 l with
 |some p=>p
 |none=> -1
def awD(l:List Tk)(hl:l.length<=3000):M.Fa (ay l)=some (agW l)/\M.IL (ay l)=some (agW l):=by obtain⟨b1,h1⟩:=agV (l:=l) (B:=M.Ho (ay l)) (λi t d ht h0 h1=>awz hl ht h0 h1) (λb=>by simp only[M.Ho,M.Hl,dZ];rw[Ac aC,aX]) l.length 0 0 aC (Nat.zero_le _) (by decide) (by decide);obtain⟨b2,h2⟩:=agV (l:=l) (B:=M.Ic (ay l) (l.length:Int)) (λi t d ht h0 h1=>awC hl ht h0 h1) (λb=>by simp only[M.Ic,M.Ib];rw[Ac aC,aX]) l.length 0 0 aC (Nat.zero_le _) (by decide) (by decide);rw[agJ,List.drop_zero] at h1 h2;simp only[M.Fa,M.Tv,M.IL,M.TJ,dZ];rw[M.Qg,M.QG,h1,h2,agW];cases am9 0 0 l<;>exact⟨rfl,rfl⟩
def arb(l:List Tk)(hl:l.length<=3000)(j:Nat):∃p,M.qX (ay l) (j:Int)=some p/\∀k,M.uM (ay l) (j:Int) k=some (k,p):=by
 simp only[M.qX,M.QH,M.uM,M.Ot,dZ]
 by_cases h:j<l.length
 ·obtain⟨t,ht⟩:∃t,l[j]? =some t:=⟨l[j],by simp[h]⟩
  rw[zdt aC,aJ];simp only[aJ,dG,iE,ht,Ir,aj,cT2];exact⟨_,rfl,λ_=>rfl⟩
 ·rw[Ac aC,aX];simp only[aX];cases l with
  |nil=>exact⟨0,rfl,λ_=>rfl⟩
  |cons t0 l0=>
   have e:(((t0::l0).length:Int)==0)=false:=by rw[Y6,Zr];omega
   have hw:i64.wrap (((t0::l0).length:Int) - 1)=(l0.length:Int):=by rw[bF aC aC,Zr];omega
   obtain⟨t,ht⟩:∃t,(t0::l0)[l0.length]? =some t:=⟨(t0::l0)[l0.length],by simp⟩
   rw[e,hw];simp only[aX,dG,iE,ht,Ir,aj,cT0,cT1,cT2];exact⟨_,rfl,λ_=>rfl⟩
mutual
def sml:Tn->Prop
 | .mk _ _ x y ks=>(x.length<=1048576/\y.length<=1048576)/\Oh ks
def Oh:List Tn->Prop
 |[]=>True
 |t::ts=>sml t/\Oh ts
end
mutual
def aut:∀(t:Tn) (b:Nat),sml t↔∀n,n∈t.flat b->Small n
 | .mk k o x y ks,b=>by
  rw[sml,ard ks b,Tn.flat];constructor
  ·rintro⟨⟨h1,h2⟩,h3⟩ n hn;rcases List.mem_append.1 hn with hn|hn
   ·exact h3 n hn
   ·simp only[List.mem_singleton] at hn;subst hn;exact⟨h1,h2⟩
  ·intro h;have h1:=h ⟨k,o,x,y,ends ks b⟩ (by simp);exact⟨⟨h1.text,h1.other⟩,λn hn=>h n (List.mem_append_left _ hn)⟩
def ard:∀(ks:List Tn) (b:Nat),Oh ks↔∀n,n∈qU ks b->Small n
 |[],b=>by simp[Oh,qU]
 |t::ts,b=>by
  rw[Oh,aut t b,ard ts (b+t.size),qU];constructor
  ·rintro⟨h1,h2⟩ n hn;rcases List.mem_append.1 hn with hn|hn
   ·exact h1 n hn
   ·exact h2 n hn
  ·intro h;exact⟨λn hn=>h n (List.mem_append_left _ hn),λn hn=>h n (List.mem_append_right _ hn)⟩
end
def UM(nt:gW):Prop:=∀s,s∈nt->s.length<=1048576
def Me:∀a b:List Tn,Oh a->Oh b->Oh (a++b)
 |[],b,_,h=>h
 |t::a,b,h1,h2=>⟨h1.1,Me a b h1.2 h2⟩
def good{α:Type}(S:α->Prop):PR α->Prop:=λp=>p.sat λx _ m=>S x/\UM m
section
variable {l:List Tk} {α β:Type} {S:α->Prop} {S':β->Prop}
def qg{p:PR α}{f:α->Nat->gW->PR β}(h:good S p)(hf:∀x j m,S x->UM m->good S' (f x j m)):good S' (p.bind f):=by
 cases p with
 |ok x j m=>exact hf x j m h.1 h.2
 |bad j=>trivial
 |out=>trivial
def uU{c:Bool}{p q:PR α}(h1:good S p)(h2:good S q):good S (bif c then p else q):=by cases c with|true=>exact h1|false=>exact h2
def Yv{k:Int}{i:Nat}{nt:gW}(h:UM nt):good (λ_:Unit=>True) (jD l k i nt):=by
 unfold jD;cases bG l i==k with
 |true=>exact⟨trivial,h⟩
 |false=>trivial
def ana(hx:∀i,(CG l i).length<=1048576){i:Nat}{nt:gW}(h:UM nt):good (λs:aK=>s.length<=1048576) (nameP l i nt):=by
 unfold nameP;cases bG l i==6 with
 |true=>exact⟨hx i,h⟩
 |false=>trivial
end
def SX(x:Xp):Prop:=sml x.1
def aiI:∀(r:List Tk) (i:Nat) (nt:gW),(∀t,t∈r->t.text.length<=1048576)->UM nt->UM (nlR r i nt).2
 |[],i,nt,_,h=>by rw[nlR];exact h
 |t::r,i,nt,hr,h=>by
  have hr':∀u,u∈r->u.text.length<=1048576:=λu hu=>hr u (zmm _ hu)
  have h2:UM (nt++[t.text]):=λs hs=>by
   rcases List.mem_append.1 hs with hs|hs
   ·exact h s hs
   ·rw[List.mem_singleton] at hs;rw[hs];exact hr t zmf
  rw[nlR];cases t.kind==1<;>cases t.kind==2<;>simp only[aJ,aX]
  ·exact h
  ·exact aiI r (i+1) _ hr' h2
  ·exact aiI r (i+1) nt hr' h
  ·exact aiI r (i+1) nt hr' h
def afU:∀(r:List Tk) (i:Nat) (nt:gW),(∀t,t∈r->t.text.length<=1048576)->UM nt->UM (Y0 r i nt).2
 |[],i,nt,_,h=>by rw[Y0];exact h
 |t::r,i,nt,hr,h=>by
  have hr':∀u,u∈r->u.text.length<=1048576:=λu hu=>hr u (zmm _ hu)
  have h2:UM (nt++[t.text]):=λs hs=>by
   rcases List.mem_append.1 hs with hs|hs
   ·exact h s hs
   ·rw[List.mem_singleton] at hs;rw[hs];exact hr t zmf
  rw[Y0];cases(t.kind==1||t.kind==37)<;>cases t.kind==2<;>simp only[aJ,aX]
  ·exact h
  ·exact afU r (i+1) _ hr' h2
  ·exact afU r (i+1) nt hr' h
  ·exact afU r (i+1) nt hr' h
structure Sm(l:List Tk)(n:Nat):Prop where
 ex:∀lv a b i nt,UM nt->good SX (ex l n lv a b i nt)
 ch:∀lv a b x i nt,SX x->UM nt->good SX (chP l n lv a b x i nt)
 inp:∀a x i nt,SX x->UM nt->good SX (inP l n a x i nt)
 pre:∀i nt,UM nt->good SX (XD l n i nt)
 lst:∀e i nt,UM nt->good Oh (PN l n e i nt)
 it:∀a b L i nt,Oh L->UM nt->good Oh (PK l n a b L i nt)
section
variable {l:List Tk} {n:Nat} (hT:∀t,t∈l->t.text.length<=1048576) (h:Sm l n)
def as7(hT:∀t,t∈l->t.text.length<=1048576)(i:Nat):(CG l i).length<=1048576:=by
 unfold CG;split
 ·next t ht=>exact hT t (zmg ht)
 ·exact Nat.zero_le _
def ahO(hT:∀t,t∈l->t.text.length<=1048576){i:Nat}{nt:gW}(hn:UM nt):UM (nl l i nt).2:=aiI _ _ _ (λt ht=>hT t (List.mem_of_mem_drop ht)) hn
def aot(hT:∀t,t∈l->t.text.length<=1048576){i:Nat}{nt:gW}(hn:UM nt):UM (sep l i nt).2:=afU _ _ _ (λt ht=>hT t (List.mem_of_mem_drop ht)) hn
def aDv(hT:∀t,t∈l->t.text.length<=1048576){k:Int}{i:Nat}{nt:gW}(hn:UM nt):good SX (afN k l i nt):=⟨⟨⟨as7 hT i,Nat.zero_le _⟩,trivial⟩,hn⟩
def abZ{x:Xp}{j:Nat}{nt:gW}(hx:SX x)(hn:UM nt):good SX (.ok x j nt):=⟨hx,hn⟩
def mk1{k o:Int}{x:Tn}{b:Bool}(h:sml x):SX (.mk k o [] [] [x],b):=⟨⟨Nat.zero_le _,Nat.zero_le _⟩,h,trivial⟩
def mk2{k o:Int}{x y:Tn}{b:Bool}(h:sml x)(h2:sml y):SX (.mk k o [] [] [x,y],b):=⟨⟨Nat.zero_le _,Nat.zero_le _⟩,h,h2,trivial⟩
def mk3{k o:Int}{x y z:Tn}{b:Bool}(h:sml x)(h2:sml y)(h3:sml z):SX (.mk k o [] [] [x,y,z],b):=⟨⟨Nat.zero_le _,Nat.zero_le _⟩,h,h2,h3,trivial⟩
def mkL{k o:Int}{s:aK}{L:List Tn}{b:Bool}(hs:s.length<=1048576)(h:Oh L):SX (.mk k o s [] L,b):=⟨⟨hs,Nat.zero_le _⟩,h⟩
def smP{P:Prop} (h:P:=by
 repeat' first
  |exact Yv (by assumption)
  |exact ana (as7 (by assumption)) (by assumption)
  |exact aDw (by assumption) _ _ _ (by assumption)
  |exact arf (by assumption) _ _ _ _ _ (by assumption)
  |exact arf (by assumption) _ _ _ _ _ (ahO (by assumption) (by assumption))
  |exact Yv (aot (by assumption) (by assumption))
  |apply uU
  |exact Sm.ex (by assumption) _ _ _ _ _ (by assumption)
  |exact Sm.ch (by assumption) _ _ _ _ _ _ (by assumption) (by assumption)
  |exact Sm.inp (by assumption) _ _ _ _ (by assumption) (by assumption)
  |exact Sm.pre (by assumption) _ _ (by assumption)
  |exact Sm.lst (by assumption) _ _ _ (by assumption)
  |exact Sm.it (by assumption) _ _ _ _ _ trivial (by assumption)
  |exact(sm (by assumption) _).ex _ _ _ _ _ (by assumption)
  |exact(sm (by assumption) _).it _ _ _ _ _ trivial (by assumption)
  |exact aDv (by assumption) (by assumption)
  |exact Sm.inp (by assumption) _ _ _ _ (mkL (by assumption) (by assumption)) (by assumption)
  |exact abZ (by assumption) (by assumption)
  |exact abZ (mk1 (by assumption)) (by assumption)
  |exact abZ (mk2 (by assumption) (by assumption)) (by assumption)
  |exact abZ (mk3 (by assumption) (by assumption) (by assumption)) (by assumption)
  |exact abZ (mkL (as7 (by assumption) _) (by assumption)) (by assumption)
  |refine qg (S:=SX) ?_ (λx j m hx hm=> ?_)
  |refine qg (S:=Oh) ?_ (λx j m hx hm=> ?_)
  |refine qg (S:=λ_:Unit=>True) ?_ (λx j m hx hm=> ?_)
  |refine qg (S:=λs:aK=>s.length<=1048576) ?_ (λx j m hx hm=> ?_)
  |exact Sm.inp (by assumption) _ _ _ _ (⟨⟨by assumption,Nat.zero_le _⟩,by assumption,trivial⟩:SX (.mk 13 0 _ [] [_],false)) (by assumption)
  |exact⟨by assumption,by assumption⟩
  |exact⟨trivial,by assumption⟩
  |exact⟨⟨⟨Nat.zero_le _,Nat.zero_le _⟩,trivial⟩,by assumption⟩
  |exact⟨⟨⟨by assumption,Nat.zero_le _⟩,trivial⟩,by assumption⟩
  |exact⟨⟨⟨by assumption,Nat.zero_le _⟩,by assumption⟩,by assumption⟩
  |exact⟨⟨⟨Nat.zero_le _,Nat.zero_le _⟩,by assumption⟩,by assumption⟩
  |exact⟨⟨⟨Nat.zero_le _,Nat.zero_le _⟩,by assumption,trivial⟩,by assumption⟩
  |exact⟨⟨⟨Nat.zero_le _,as7 (by assumption) _⟩,Me _ _ (by assumption) ⟨by assumption,trivial⟩⟩,by assumption⟩
  |exact aHe (by assumption) _ _ _ (by assumption)
  |exact aDx (by assumption) _ _ _ _ (by assumption)
  |exact aHf (by assumption) _ _ _ (by assumption)
  |exact aHg (by assumption) _ _ _ (by assumption)
  |exact as8 (by assumption) (by assumption)
  |exact SmS.st (by assumption) _ _ (by assumption)
  |exact SmS.blk (by assumption) _ _ (by assumption)
  |exact SmS.body (by assumption) _ _ (by assumption)
  |exact SmS.body (by assumption) _ _ (aot (by assumption) (by assumption))
  |exact as8 ⟨⟨Nat.zero_le _,Nat.zero_le _⟩,by assumption,by assumption,trivial⟩ (by assumption)
  |exact⟨⟨⟨Nat.zero_le _,Nat.zero_le _⟩,by assumption,by assumption,trivial⟩,by assumption⟩
  |exact⟨⟨⟨Nat.zero_le _,Nat.zero_le _⟩,by assumption,by assumption,by assumption,trivial⟩,by assumption⟩
  |exact⟨⟨⟨Nat.zero_le _,Nat.zero_le _⟩,by assumption,by assumption,by assumption,by assumption,trivial⟩,by assumption⟩
  |exact⟨⟨⟨as7 (by assumption) _,by assumption⟩,by assumption,trivial⟩,by assumption⟩
  |refine qg (S:=sml) ?_ (λx j m hx hm=> ?_)
  |trivial
 ):P:=h
include hT h
theorem aRI(lv:Nat)(a b:Bool)(i:Nat)(nt:gW)(hn:UM nt):good SX (ex l (n+1) lv a b i nt):=by unfold ex;split<;>exact smP
theorem aHh(a:Bool)(x:Xp)(i:Nat)(nt:gW)(hx0:SX x)(hn:UM nt):good SX (inP l (n+1) a x i nt):=by unfold inP;exact smP
theorem aHi(i:Nat)(nt:gW)(hn:UM nt):good SX (XD l (n+1) i nt):=by have:=hT;unfold XD;exact smP
theorem aHj(e:Int)(i:Nat)(nt:gW)(hn:UM nt):good Oh (PN l (n+1) e i nt):=by have:=hT;unfold PN;exact smP
theorem aRJ(a b:Bool)(L:List Tn)(i:Nat)(nt:gW)(hL:Oh L)(hn:UM nt):good Oh (PK l (n+1) a b L i nt):=by rw[PK];refine qg (S:=SX) (h.ex _ _ _ _ _ hn) (λx j m hx hm=> ?_);have h2:Oh (L++[x.1]):=Me L [x.1] hL ⟨hx,trivial⟩;exact uU (uU trivial (h.it _ _ _ _ _ h2 (ahO hT hm))) ⟨h2,hm⟩
theorem aRK(lv:Nat)(a b:Bool)(x:Xp)(i:Nat)(nt:gW)(hx0:SX x)(hn:UM nt):good SX (chP l (n+1) lv a b x i nt):=by
 rw[chP];refine uU ?_ (abZ hx0 hn);have hq:UM (bif Nat.beq lv 8 then(i,nt) else bif Nat.ble lv 4 then nl l (i+1) nt else(i+1,nt)).2:=by
  cases Nat.beq lv 8<;>cases Nat.ble lv 4
  ·exact hn
  ·exact ahO hT hn
  ·exact hn
  ·exact hn
 refine qg (S:=SX) (h.ex _ _ _ _ _ hq) (λy j m hy hm=> ?_);exact h.ch _ _ _ _ _ _ (mk2 hx0 hy) hm
end
def sm{l:List Tk}(hT:∀t,t∈l->t.text.length<=1048576):∀n,Sm l n
 |0=>⟨λ_ _ _ _ _ _=>by rw[ex];trivial,λ_ _ _ _ _ _ _ _=>by rw[chP];trivial,λ_ _ _ _ _ _=>by rw[inP];trivial,λ_ _ _=>by rw[XD];trivial,λ_ _ _ _=>by rw[PN];trivial,λ_ _ _ _ _ _ _=>by rw[PK];trivial⟩
 |n+1=>⟨aRI hT (sm hT n),aRK hT (sm hT n),aHh hT (sm hT n),aHi hT (sm hT n),aHj hT (sm hT n),aRJ hT (sm hT n)⟩
section
variable {l:List Tk} (hT:∀t,t∈l->t.text.length<=1048576)
include hT
theorem aDw(n i:Nat)(nt:gW)(hn:UM nt):good sml (U4 l n i nt):=by unfold U4;exact smP
theorem arf(n:Nat)(e:Int)(a:Bool)(i:Nat)(nt:gW)(hn:UM nt):good sml (JB l n e a i nt):=by unfold JB;exact smP
theorem aHe(n i:Nat)(nt:gW)(hn:UM nt):good sml (afO l n i nt):=by unfold afO;exact smP
theorem aDx(n:Nat)(k:Int)(i:Nat)(nt:gW)(hn:UM nt):good sml (Zq l n k i nt):=by unfold Zq;exact smP
theorem aHf(n i:Nat)(nt:gW)(hn:UM nt):good sml (akG l n i nt):=by unfold akG;exact smP
end
def as8{l:List Tk}{x:Tn}{j:Nat}{m:gW}(hx:sml x)(hm:UM m):good sml (endP l x j m):=by unfold endP;exact uU ⟨hx,hm⟩ trivial
def auu:∀nt:gW,UM nt->Oh (EU nt)
 |[],_=>trivial
 |s::nt,h=>⟨⟨⟨h s zmf,Nat.zero_le _⟩,trivial⟩,auu nt λu hu=>h u (zmm _ hu)⟩
def aeQ:UM []:=λs h=>by cases h
section
variable {l:List Tk} (hT:∀t,t∈l->t.text.length<=1048576)
include hT
theorem aHg(n i:Nat)(nt:gW)(hn:UM nt):good sml (aic l n i nt):=by unfold aic;exact smP
end
structure SmS(l:List Tk)(n:Nat):Prop where
 st:∀i nt,UM nt->good sml (stP l n i nt)
 blk:∀i nt,UM nt->good sml (JZ l n i nt)
 lines:∀L i nt,Oh L->UM nt->good Oh (Wy l n L i nt)
 body:∀i nt,UM nt->good sml (Bc l n i nt)
section
variable {l:List Tk} {n:Nat} (hT:∀t,t∈l->t.text.length<=1048576) (h:SmS l n)
include hT h
theorem aRL(i:Nat)(nt:gW)(hn:UM nt):good sml (stP l (n+1) i nt):=by unfold stP;exact smP
theorem aHk(i:Nat)(nt:gW)(hn:UM nt):good sml (JZ l (n+1) i nt):=by have:=hT;rw[JZ];refine qg (S:=λ_:Unit=>True) (Yv hn) (λx j m hx hm=> ?_);refine qg (S:=Oh) (h.lines [] j m trivial hm) (λL j m hL hm=> ?_);exact⟨⟨⟨Nat.zero_le _,Nat.zero_le _⟩,hL⟩,hm⟩
theorem aAT(L:List Tn)(i:Nat)(nt:gW)(hL:Oh L)(hn:UM nt):good Oh (Wy l (n+1) L i nt):=by rw[Wy];have h2:Oh (L++EU (sep l i nt).2):=Me _ _ hL (auu _ (aot hT hn));refine uU ⟨h2,aeQ⟩ (uU trivial ?_);refine qg (S:=sml) (h.st _ _ aeQ) (λx j m hx hm=> ?_);exact h.lines _ _ _ (Me _ _ h2 ⟨hx,trivial⟩) hm
theorem aDy(i:Nat)(nt:gW)(hn:UM nt):good sml (Bc l (n+1) i nt):=by rw[Bc];have h2:=auu _ (ahO hT (i:=i) hn);refine uU (h.blk _ _ (ahO hT hn)) (uU ⟨⟨⟨Nat.zero_le _,Nat.zero_le _⟩,h2⟩,aeQ⟩ ?_);refine qg (S:=sml) (h.st _ _ aeQ) (λx j m hx hm=> ?_);exact⟨⟨⟨Nat.zero_le _,Nat.zero_le _⟩,Me _ _ h2 ⟨hx,trivial⟩⟩,hm⟩
end
def smS{l:List Tk}(hT:∀t,t∈l->t.text.length<=1048576):∀n,SmS l n
 |0=>⟨λ_ _ _=>by rw[stP];trivial,λ_ _ _=>by rw[JZ];trivial,λ_ _ _ _ _=>by rw[Wy];trivial,λ_ _ _=>by rw[Bc];trivial⟩
 |n+1=>⟨aRL hT (smS hT n),aHk hT (smS hT n),aAT hT (smS hT n),aDy hT (smS hT n)⟩
section
variable {l:List Tk} (hT:∀t,t∈l->t.text.length<=1048576)
include hT
theorem auv:∀(n:Nat) (L:List Tn) (i:Nat) (nt:gW),Oh L->UM nt->good Oh (Gn l n L i nt)
 |0,L,i,nt,hL,hn=>by rw[Gn];trivial
 |n+1,L,i,nt,hL,hn=>by rw[Gn];refine qg (S:=λs:aK=>s.length<=1048576) (ana (as7 hT) hn) (λs j m hs hm=> ?_);have h2:Oh (L++[.mk 1 0 s [] []]):=Me _ _ hL ⟨⟨⟨hs,Nat.zero_le _⟩,trivial⟩,trivial⟩;exact uU (uU trivial (auv n _ _ _ h2 (ahO hT hm))) ⟨h2,hm⟩
theorem aHl(n i:Nat)(nt:gW)(hn:UM nt):good sml (akH l n i nt):=by unfold akH;refine uU ?_ trivial;refine qg (S:=λ_:Unit=>True) (Yv hn) (λx j m hx hm=> ?_);refine qg (S:=Oh) (uU ⟨trivial,hm⟩ (auv hT n [] j m trivial hm)) (λL j m hL hm=> ?_);refine qg (S:=λ_:Unit=>True) (Yv hm) (λx j m hx hm=> ?_);refine qg (S:=sml) ((smS hT n).blk _ _ (ahO hT hm)) (λb j m hb hm=> ?_);exact⟨⟨⟨as7 hT _,Nat.zero_le _⟩,Me _ _ hL ⟨hb,trivial⟩⟩,hm⟩
theorem aDz(n i:Nat)(nt:gW)(hn:UM nt):good sml (Wj l n i nt):=by
 have hb:∀(k o:Int) (j:Nat) (m:gW),UM m->good sml ((JZ l n j m).bind λb i nt=> .ok (.mk k o [] [] [b]) i nt):=λk o j m hm=>qg (S:=sml) ((smS hT n).blk _ _ hm) λb j m hb hm=>⟨⟨⟨Nat.zero_le _,Nat.zero_le _⟩,hb,trivial⟩,hm⟩
 unfold Wj;refine uU (hb _ _ _ _ hn) (uU (hb _ _ _ _ hn) (uU (aHl hT n _ nt hn) (uU (hb _ _ _ _ hn) ?_)));refine qg (S:=SX) ((sm hT n).ex _ _ _ _ _ hn) (λx j m hx hm=> ?_);refine qg (S:=λq:Int×List Tn=>Oh q.2) (uU ?_ ⟨⟨hx,trivial⟩,hm⟩) (λq j m hq hm=> ?_)
 ·exact qg (S:=SX) ((sm hT n).ex _ _ _ _ _ (ahO hT hm)) λy j m hy hm=>⟨⟨hx,hy,trivial⟩,hm⟩
 ·refine uU (qg (S:=sml) ((smS hT n).blk _ _ hm) λb j m hb hm=> ?_) (as8 ⟨⟨Nat.zero_le _,Nat.zero_le _⟩,hq⟩ hm);exact⟨⟨⟨Nat.zero_le _,Nat.zero_le _⟩,Me _ _ hq ⟨hb,trivial⟩⟩,hm⟩
theorem auw:∀(n:Nat) (L:List Tn) (i:Nat) (nt:gW),Oh L->UM nt->good Oh (Ux l n L i nt)
 |0,L,i,nt,hL,hn=>by rw[Ux];trivial
 |n+1,L,i,nt,hL,hn=>by rw[Ux];have h2:Oh (L++EU (sep l i nt).2):=Me _ _ hL (auu _ (aot hT hn));refine uU ⟨h2,aeQ⟩ (uU trivial ?_);refine qg (S:=sml) (aDz hT n _ _ aeQ) (λx j m hx hm=> ?_);exact auw n _ _ _ (Me _ _ h2 ⟨hx,trivial⟩) hm
end
def akX(l:List Tk)(hl:l.length<=1048576)(hf:∀t,t∈l->I64 t.kind/\t.text.length<=1048576):
  ∃fl q k p,M.oQ (ay l)=some (fl,aU false q,k,p)/\M.lC (ay l)=some (aU true q,k,p)/\q.length<=18001/\(∀n,n∈q->n.kids.length<=18001)/\(∀n,n∈q->Small n)/\(k=0->p=0):=by
 have hT:=ara l hl hf;have e0:∀o,aU o []=[]:=λ_=>rfl
 cases ht:Y5 l with
 |false=>
  rw[ht] at hT;refine⟨true,[],2,0, ?_, ?_,by simp,by simp,by simp,by simp⟩
  ·simp only[M.oQ,M.zD,hT.1,aj];rfl
  ·simp only[M.lC,M.zO,M.xH,M.Ie,hT.2,aj];rfl
 |true=>
  rw[ht] at hT;have h3:l.length<=3000:=by rw[Y5,PO,decide_eq_true_eq] at ht;exact ht.1
  have hN:=awD l h3
  by_cases hn:agW l<0
  ·have hc:M.xH (ay l)=some (0,0):=by simp only[M.xH,M.Ie,hT.2,hN.2,aj,zaT,aX];rw[Ac aC,aX]
   have hi:=aDt aC (as5 ht) hc (60 * (l.length - 0)+52);have hs:=aDr h3 (aDu ht) hT.1 hN.1 hn (60 * (l.length - 0)+52);have hto:=aqS (l:=l) (60 * (l.length - 0)+52) [] 0 [] (zaU _);have hsm:=auw (l:=l) (λt ht=>(hf t ht).2) (60 * (l.length - 0)+52) [] 0 [] trivial aeQ;generalize Ux l (60 * (l.length - 0)+52) [] 0 []=p at hi hs hto hsm;cases p with
   |out=>exact hto.elim
   |bad j=>
    obtain⟨hj,hs⟩:=hs;have hi:M.lC (ay l)=(M.qX (ay l) (j:Int)).bind λr=>some ([],3,r):=hi
    obtain⟨p,p1,p2⟩:=arb l h3 j;refine⟨true,[],3,p, ?_, ?_,by simp,by simp,by simp,by simp⟩
    ·rw[hs,p2,aj];rfl
    ·rw[hi,p1,aj];rfl
   |ok L j nt=>
    obtain⟨hs,hsz⟩:=hs;have hi:M.lC (ay l)=aDs (dN false L):=hi;have hts:(Tn.mk 45 0 [] [] L).size=sizes L+1:=rfl;obtain⟨k,b1,b2⟩:=as4 (t:=.mk 45 0 [] [] L) aC false false;have b2':M.xI 45 0 [] [] (dN false L)=some (k,0):=b2;rw[hs,hi,aRF,aDs,b1,b2',aj,aj];cases hk:k==0 with
    |false=>
     refine⟨true,[],k,0, ?_, ?_,by simp,by simp,by simp,by simp⟩
     ·simp only[bne,hk,Bool.not_false,aJ];rfl
     ·simp only[hk,aX,Bool.not_false,aJ];rfl
    |true=>
     have hli:M.oV 45 0 [] [] (dN false L)=some (aU true ((Tn.mk 45 0 [] [] L).flat 0)):=aud (t:=.mk 45 0 [] [] L) aC;refine⟨false,(Tn.mk 45 0 [] [] L).flat 0,k,0, ?_, ?_,by rw[Tn.flat_length];omega,λn hn=>by have:=(SI _ 0 n hn).1;omega,(aut (.mk 45 0 [] [] L) 0).1 ⟨⟨Nat.zero_le _,Nat.zero_le _⟩,hsm.1⟩,λ_=>rfl⟩
     ·simp only[bne,hk,zaT,aX]
     ·have ek:k=0:=by rwa [beq_iff_eq] at hk
      subst ek;simp only[hk,aJ,zaT,aX,hli,aj,Ym]
  ·obtain⟨j,hj⟩:∃j:Nat,agW l=j:=⟨(agW l).toNat,aC⟩
   obtain⟨p,p1,p2⟩:=arb l h3 j;refine⟨true,[],4,p, ?_, ?_,by simp,by simp,by simp,by simp⟩
   ·simp only[M.oQ,M.zD,hT.1,hN.1,aj,zaT,aX];rw[zdt aC,aJ,hj,p2,aj];rfl
   ·simp only[M.lC,M.zO,M.xH,M.Ie,hT.2,hN.2,aj,zaT,aX];rw[zdt aC,aJ,hj,p1,aj,aj];rfl
def aDA(l:List Nd)(k p:Int):[[D.sl true 5 (aU true l)],[D.int .i64 k,D.int .i64 p]].all xw=true:=by simp[xw,D.pure,aeN]
def opF(s:aK):List (aK)->Nat->Int->Nat->Int×Nat
 |[],_,k,m=>(k,m)
 |g::l,i,k,m=>bif Nat.blt m g.length && g.isPrefixOf s then opF s l (i+1) (30+(i:Int)) g.length else opF s l (i+1) k m
def auy(s:aK)(L:List (aK)){b:Int×Int×Int->Option (Int×Int×Int⊕Int×Int×Int)}
  (hb:∀(i:Nat) g k (m:Nat),L[i]? =some g->m<=2->b (k,(m:Int),(i:Int))=some (.inl (bif Nat.blt m g.length && g.isPrefixOf s then(30+(i:Int),(g.length:Int),(i:Int)+1) else(k,(m:Int),(i:Int)+1))))
  (he:∀k m,b (k,m,(L.length:Int))=some (.inr (k,m,(L.length:Int)))) (h2:∀g,g∈L->g.length<=2):
  gU b (0,0,0)=some ((opF s L 0 0 0).1,((opF s L 0 0 0).2:Int),(L.length:Int)):=by
 have key:∀(t:List (aK)) (i:Nat) (k:Int) (m:Nat),L.drop i=t->i<=L.length->m<=2->gU b (k,(m:Int),(i:Int))=some ((opF s t i k m).1,((opF s t i k m).2:Int),(L.length:Int)):=by
  intro t;induction t with
  |nil=>
   intro i k m hd hi hm;have:i=L.length:=by have:=congrArg List.length hd;simp at this;omega
   subst this;exact aO (he _ _)
  |cons g t ih=>
   intro i k m hd hi hm;have hx:L[i]? =some g:=by
    have:(L.drop i)[0]? =some g:=by rw[hd];rfl
    simpa using this
   have hlt:i<L.length:=(UN.1 hx).1;have hd':L.drop (i+1)=t:=by rw[<-List.drop_drop,hd];rfl
   have hs:=hb i g k m hx hm;have hg:=h2 g (zmg hx);rw[opF];cases hc:(Nat.blt m g.length && g.isPrefixOf s) with
   |true=>rw[hc,aJ] at hs;rw[aZ hs,aJ,show(i:Int)+1=((i+1:Nat):Int) by omega,ih (i+1) _ _ hd' hlt hg]
   |false=>rw[hc,aX] at hs;rw[aZ hs,aX,show(i:Int)+1=((i+1:Nat):Int) by omega,ih (i+1) _ _ hd' hlt hm]
 have:=key L 0 0 0 rfl (Nat.zero_le _) aC;rw[agJ] at this;exact this
def aXP{α:Type}(s:List α)(n:Nat)(h:n<=s.length):cut s 0 (n:Int)=some (s.take n):=by unfold cut;rw[zdt aC,zdt aC,zdt aC];simp
def pre_eq:∀(g s:aK),g.length<=s.length->(s.take g.length==g)=g.isPrefixOf s
 |[],s,_=>by simp
 |x::g,[],h=>by simp at h
 |x::g,y::s,h=>by
  have hr:=pre_eq g s (by simpa using h);have hxy:(y==x)=(x==y):=by rw[Bool.eq_iff_iff,beq_iff_eq,beq_iff_eq];exact⟨Eq.symm,Eq.symm⟩
  rw[List.isPrefixOf,Zr,List.take_succ_cons,<-hr,<-hxy];rfl
def anb(g s:aK)(h:s.length<g.length):g.isPrefixOf s=false:=by
 cases hp:g.isPrefixOf s with
 |false=>rfl
 |true=>have:=(List.isPrefixOf_iff_prefix.1 hp).length_le;omega
def aou(s g:aK):M.strings_HasPrefix s g=some (g.isPrefixOf s):=by
 simp only[M.strings_HasPrefix,M.G7,M.jQ,M.ru]
 by_cases h:g.length<=s.length
 ·rw[zdt aC,aJ,aXP s g.length h,aj,aj,pre_eq g s h]
 ·rw[Ac aC,aX,aj,anb g s aC]
def aAU:∀g,g∈ZE->g.length<=2:=by decide+kernel
def auz(m n:Nat):decide ((n:Int)>(m:Int))=Nat.blt m n:=by
 cases hb:Nat.blt m n with
 |true=>rw[Nat.blt_eq] at hb;exact zdt aC
 |false=>
  have:¬m<n:=by rw[<-Nat.blt_eq,hb];simp
  exact Ac aC
def aiJ(c:UInt8):i64.wrap (c.toNat:Int)=(c.toNat:Int):=by have:=aqB c;exact bF aC aC
def sub(s:aK)(i e:Nat):aK:=(s.drop i).take (e - i)
def ab1{s:aK}{i e:Nat}(h1:i<=e)(h2:e<=s.length):(sub s i e).length=e - i:=by rw[sub,zlt,List.length_drop];omega
def Rj{s:aK}{i e:Nat}(h1:i<=e)(h2:e<=s.length):cut s (i:Int) (e:Int)=some (sub s i e):=by unfold cut;rw[zdt aC,zdt aC,zdt aC];simp[sub]
def aov(s:aK)(i:Nat):sub s i s.length=s.drop i:=by rw[sub,List.take_of_length_le];rw[List.length_drop];omega
def Pn(s:aK)(i:Nat):Nat:=i+((s.drop i).takeWhile λc=>isW (c.toNat:Int)).length
def abN(s:aK)(i:Nat):Nat:=i+((s.drop i).takeWhile λc=> !(c==10)).length
def aow{s:aK}{i:Nat}(h:i<=s.length):Pn s i<=s.length:=by have:=(List.takeWhile_prefix (l:=s.drop i) λc=>isW (c.toNat:Int)).length_le;rw[List.length_drop] at this;unfold Pn;omega
def aox{s:aK}{i:Nat}(h:i<=s.length):abN s i<=s.length:=by have:=(List.takeWhile_prefix (l:=s.drop i) λc=> !(c==10)).length_le;rw[List.length_drop] at this;unfold abN;omega
def arh(p:UInt8->Bool){s:aK}{i:Nat}{c:UInt8}(h:s[i]? =some c):((s.drop i).takeWhile p).length=bif p c then((s.drop (i+1)).takeWhile p).length+1 else 0:=by have hl:=(UN.1 h).1;rw[List.drop_eq_getElem_cons hl];have hc:s[i]=c:=(UN.1 h).2;rw[hc,List.takeWhile_cons];cases p c<;>simp
def agX{s:aK}{i:Nat}{c:UInt8}(h:s[i]? =some c):Pn s i=bif isW (c.toNat:Int) then Pn s (i+1) else i:=by
 unfold Pn;rw[arh (λc=>isW (c.toNat:Int)) h];cases isW (c.toNat:Int)
 ·rfl
 ·simp only[aJ];omega
def anc{s:aK}{i:Nat}{c:UInt8}(h:s[i]? =some c):abN s i=bif c==10 then i else abN s (i+1):=by
 unfold abN;rw[arh (λc=> !(c==10)) h];cases c==10
 ·simp only[Bool.not_false,aJ,aX];omega
 ·rfl
def XF(k:Int):Bool:=k==3||(k==4||(k==5||(k==6||(k==8||(k==33||(k==35||(k==51||k==52)))))))
def abO(k:Int):M.jv k=some (XF k)/\M.jy k=some (XF k):=by simp only[M.jv,M.DU,M.jy,M.Ee,XF];cases k==3<;>cases k==4<;>cases k==5<;>cases k==6<;>cases k==8<;>cases k==33<;>cases k==35<;>cases k==51<;>cases k==52<;>exact⟨rfl,rfl⟩
def aip(b:Int):Bool:=b==32||b==9
def akY(b:Int):M.Fg b=some (aip b)/\M.Fp b=some (aip b):=by simp only[M.Fg,M.QM,M.Fp,M.QT,aip];cases b==32<;>cases b==9<;>exact⟨rfl,rfl⟩
def afV{s:aK}(h:s.length<=1048576){r:Int}(h0:0<=r):r<=XA s r/\(XA s r<=r\/XA s r<=s.length):=by
 have r1:=L9 h (a:=r+1) aC;have r2:=L9 h (a:=r+1+1) aC;unfold XA;cases(tN s r==101)||(tN s r==69) with
 |false=>rw[aX];omega
 |true=>
  rw[aJ];cases(tN s (r+1)==43)||(tN s (r+1)==45) with
  |true=>
   rw[aJ];cases hd:decide (Gj s (r+1+1)>r+1+1) with
   |true=>rw[aJ];rw[decide_eq_true_eq] at hd;omega
   |false=>rw[aX];omega
  |false=>
   rw[aX];cases hd:decide (Gj s (r+1)>r+1) with
   |true=>rw[aJ];rw[decide_eq_true_eq] at hd;omega
   |false=>rw[aX];omega
def ab2{s:aK}{a:Int}(h:(s.length:Int)<=a):tN s a= -1:=by unfold tN;rw[if_pos aC,List.getElem?_eq_none aC]
def Vq{s:aK}(h:s.length<=1048576){i:Nat}(hi:i<s.length):Wh s i<0\/((i:Int)<Wh s i/\Wh s i<=s.length):=by
 have r1:=L9 h (a:=(i:Int)) aC;have r2:=L9 h (a:=Gj s i+1) aC;have e1:=afV h (r:=Gj s (Gj s i+1)) aC;have e2:=afV h (r:=Gj s i) aC;unfold Wh;rw[if_neg aC];cases hp:tN s (Gj s i)==46 with
 |true=>
  rw[aJ];have hlt:Gj s i<s.length:=by
   by_cases hc:Gj s i<s.length
   ·exact hc
   ·rw[ab2 aC] at hp;cases hp
  cases hq:(Gj s i==(i:Int)) &&(Gj s (Gj s i+1)==Gj s i+1) with
  |true=>rw[aJ];omega
  |false=>rw[aX];omega
 |false=>
  rw[aX];cases hq:Gj s i==(i:Int) with
  |true=>rw[aJ];omega
  |false=>rw[aX];rw[Y6] at hq;omega
def aeR(q:Int):∀(n:Nat) (l:aK) (i:Int),l.length<=n->0<=i->afH q l i<0\/(i<afH q l i/\afH q l i<=i+(l.length:Int))
 |n,[],i,_,h0=>by rw[afH];omega
 |0,c::l,i,hn,_=>by simp at hn
 |n+1,c::l,i,hn,h0=>by
  rw[agK];rw[Zr] at hn|-
  by_cases h1:(c.toNat:Int)=q
  ·rw[if_pos h1];omega
  rw[if_neg h1]
  by_cases h2:(c.toNat:Int)=10
  ·rw[if_pos h2];omega
  rw[if_neg h2]
  by_cases h3:(c.toNat:Int)=92
  ·rw[if_pos h3];cases l with
   |nil=>simp only[];omega
   |cons d l=>
    simp only[];rw[Zr] at hn|-
    by_cases h4:(d.toNat:Int)=10
    ·rw[if_pos h4];omega
    ·rw[if_neg h4];have:=aeR q n l (i+2) aC aC;omega
  ·rw[if_neg h3];have:=aeR q n l (i+1) aC aC;omega
def Vr{s:aK}{q:Int}{i:Nat}(hi:i<s.length):quoted s i q<0\/((i:Int)<quoted s i q/\quoted s i q<=s.length):=by
 unfold quoted;split
 ·have:=aeR q _ (s.drop ((i:Int)+1).toNat) ((i:Int)+1) (zaU _) aC;rw[List.length_drop] at this;omega
 ·omega
def agY{s:aK}{i:Nat}(hi:i<s.length):XB s i<0\/((i:Int)<XB s i/\XB s i<=s.length):=by
 have:=Vr (s:=s) (q:=47) hi;unfold XB;cases quoted s i 47==(i:Int)+2 with
 |true=>rw[aJ];omega
 |false=>rw[aX];exact this
def akZ(s:aK):∀(l:List (aK)) (i:Nat) (k:Int) (m:Nat),((k=0/\m=0)\/(30<=k/\1<=m))->(((opF s l i k m).1=0/\(opF s l i k m).2=0)\/(30<=(opF s l i k m).1/\1<=(opF s l i k m).2))
 |[],_,_,_,h=>h
 |g::l,i,k,m,h=>by
  rw[opF];cases hc:(Nat.blt m g.length && g.isPrefixOf s) with
  |false=>rw[aX];exact akZ s l (i+1) k m h
  |true=>rw[aJ];rw[PO,Nat.blt_eq] at hc;exact akZ s l (i+1) _ _ (.inr aC)
def aoy(s:aK):∀(l:List (aK)) (i:Nat) (k:Int) (m:Nat),m<=s.length->(opF s l i k m).2<=s.length
 |[],_,_,_,h=>h
 |g::l,i,k,m,h=>by
  rw[opF];cases hc:(Nat.blt m g.length && g.isPrefixOf s) with
  |false=>rw[aX];exact aoy s l (i+1) k m h
  |true=>rw[aJ];rw[PO] at hc;exact aoy s l (i+1) _ _ (List.isPrefixOf_iff_prefix.1 hc.2).length_le
def opK(s:aK)(i:Nat):Int:=(opF (s.drop i) ZE 0 0 0).1
def opN(s:aK)(i:Nat):Nat:=(opF (s.drop i) ZE 0 0 0).2
def auA(s:aK)(i:Nat):(opK s i=0/\opN s i=0)\/(30<=opK s i/\1<=opN s i):=akZ _ _ _ _ _ (.inl ⟨rfl,rfl⟩)
def as9{s:aK}{i:Nat}(h:i<=s.length):i+opN s i<=s.length:=by have:=aoy (s.drop i) ZE 0 0 0 (Nat.zero_le _);rw[List.length_drop] at this;unfold opN;omega
def aoz(s:aK)(i:Nat)(h0:i<s.length)(hs:s.length<=4000000):M.MJ s (i:Int)=some (opK s i,(opN s i:Int)):=by
 have hl:ZE.length=39:=rfl;simp only[M.MJ,M.Xe,M.Vk,lF,aj];rw[bF aC aC,zdt aC,zdt aC,Bool.and_self,zaT,aX];have hc:=Rj (s:=s) (i:=i) (Nat.le_of_lt h0) (zaU _);rw[aov] at hc;rw[auy (s.drop i) ZE (λj g k m hg hm=> ?_) (λk m=> ?_) aAU,aj]
 ·rfl
 ·have hi:=(UN.1 hg).1;rw[hl] at hi;have hsc:=aua j hi;simp only[VN,hg] at hsc;simp only[M.abw,M.QW,ztn,hsc,aj,hc,aou,auz];rw[zdt aC,zdt aC,bF aC aC,bF aC aC];cases Nat.blt m g.length<;>cases g.isPrefixOf (s.drop i)<;>rfl
 ·rw[hl];rfl
def aoA(s:aK)(i:Nat)(h0:i<s.length)(hs:s.length<=4000000):M.MI s (i:Int)=some (opK s i,(opN s i:Int)):=by
 have hl:ZE.length=39:=rfl;simp only[M.MI,M.Xd,M.Vh,aqF,aj];rw[auy (s.drop i) ZE (λj g k m hg hm=> ?_) (λk m=> ?_) aAU,aj]
 ·rfl
 ·have hi:=(UN.1 hg).1;rw[hl] at hi;have hg2:=aAU g (zmg hg);have hw1:i64.wrap (30+(j:Int))=30+(j:Int):=bF aC aC;have hw2:i64.wrap ((j:Int)+1)=(j:Int)+1:=bF aC aC;have hw3:i64.wrap ((s.length:Int) - (i:Int))=((s.length - i:Nat):Int):=by rw[bF aC aC];omega
  have hw4:i64.wrap ((i:Int)+(g.length:Int))=((i+g.length:Nat):Int):=by rw[bF aC aC];omega
  simp only[M.V8,M.LU,Ut,dG,abA,ztn,hg,Ir,aj,cS0,hw1,hw2,hw3,hw4,hl];rw[zdt (show((j:Int))<((39:Nat):Int) by omega),aJ,zdt (show(i:Int)>=0 by omega),aJ,zdt (show(i:Int)<=(s.length:Int) by omega),aJ]
  by_cases hq:g.length<=s.length - i
  ·have hcs:=Rj (s:=s) (i:=i) (e:=i+g.length) aC aC;have hpe:=pre_eq g (s.drop i) (by rw[List.length_drop];exact hq);have hse:sub s i (i+g.length)=(s.drop i).take g.length:=by rw[sub,show i+g.length - i=g.length by omega]
   rw[zdt aC,aJ,hcs,aj,hse,hpe,auz];cases Nat.blt m g.length<;>cases g.isPrefixOf (s.drop i)<;>rfl
  ·rw[Ac aC,aX,anb g (s.drop i) (by rw[List.length_drop];omega),Bool.and_false];rfl
 ·simp only[M.V8,M.LU,Ut];rw[Ac aC,aX]
def ane{s:aK}{b:(aK×Int×Bool)⊕(aK×Int)->Option (((aK×Int×Bool)⊕(aK×Int))⊕(aK×Int))}(hs:s.length<=1048576)
  (h1:∀(a:Int) (v:Bool),b (.inl (s,a,v))=some (bif isW (tN s a) then .inl (.inr (s,i64.wrap (a+1))) else .inr (s,a)))
  (h2:∀(a:Int),b (.inr (s,a))=some (bif isW (tN s a) then .inl (.inr (s,i64.wrap (a+1))) else .inr (s,a))) (v:Bool) {i:Nat} (hi:i<=s.length):gU b (.inl (s,(i:Int),v))=some (s,(Pn s i:Int)):=by
 have key:∀(n i:Nat),s.length - i<=n->i<=s.length->gU b (.inr (s,(i:Int)))=some (s,(Pn s i:Int)):=by
  intro n;induction n with
  |zero=>
   intro i hn hi;have e:i=s.length:=aC;subst e;refine aO ?_;rw[h2,ab2 (Int.le_refl _)];have:Pn s s.length=s.length:=by unfold Pn;simp
   rw[this];rfl
  |succ n ih=>
   intro i hn hi
   by_cases hlt:i<s.length
   ·obtain⟨c,hc⟩:∃c,s[i]? =some c:=⟨s[i],by simp[hlt]⟩
    have hb:tN s (i:Int)=(c.toNat:Int):=by rw[Jz,hc]
    have hst:=agX hc;cases hw:isW (c.toNat:Int) with
    |true=>rw[hw,aJ] at hst;have hx:=h2 (i:Int);rw[hb,hw,aJ,bF aC aC] at hx;rw[aZ hx,hst,show(i:Int)+1=((i+1:Nat):Int) by omega];exact ih (i+1) aC aC
    |false=>rw[hw,aX] at hst;refine aO ?_;rw[h2,hb,hw,aX,hst]
   ·exact ih i aC hi
 by_cases hlt:i<s.length
 ·obtain⟨c,hc⟩:∃c,s[i]? =some c:=⟨s[i],by simp[hlt]⟩
  have hb:tN s (i:Int)=(c.toNat:Int):=by rw[Jz,hc]
  have hst:=agX hc;cases hw:isW (c.toNat:Int) with
  |true=>rw[hw,aJ] at hst;have hx:=h1 (i:Int) v;rw[hb,hw,aJ,bF aC aC] at hx;rw[aZ hx,hst,show(i:Int)+1=((i+1:Nat):Int) by omega];exact key _ (i+1) (zaU _) aC
  |false=>rw[hw,aX] at hst;refine aO ?_;rw[h1,hb,hw,aX,hst]
 ·have e:i=s.length:=aC;subst e;refine aO ?_;rw[h1,ab2 (Int.le_refl _)];have:Pn s s.length=s.length:=by unfold Pn;simp
  rw[this];rfl
def ak0{s:aK}(hs:s.length<=1048576){i:Nat}(hi:i<=s.length)(hL:isL (tN s i)=true):M.CW s (i:Int)=some (Pn s i:Int)/\M.CX s (i:Int)=some (Pn s i:Int):=by
 have hb1:=λa=>Ew hs a
 have hb2:=λa=>Ey hs a
 constructor
 ·simp only[M.CW,M.QO,hb1,aj,(PG _).1,hL,zaT,aX,M.OL];rw[ane hs (λa v=> ?_) (λa=> ?_) false hi,aj]
  ·simp only[M.QN,M.F5,hb1,aj,(J8 _).1];cases isW (tN s a)<;>rfl
  ·simp only[M.QN,M.F5,hb1,aj,(J8 _).1];cases isW (tN s a)<;>rfl
 ·simp only[M.CX,M.QV,hb2,aj,(PG _).2,hL,zaT,aX,M.OM];rw[ane hs (λa v=> ?_) (λa=> ?_) false hi,aj]
  ·simp only[M.QU,M.F7,hb2,aj,(J8 _).2];cases isW (tN s a)<;>rfl
  ·simp only[M.QU,M.F7,hb2,aj,(J8 _).2];cases isW (tN s a)<;>rfl
def ahP(s w:aK)(e:Nat):Int:=bif aia w !=0 then aia w else bif Zn w then 8 else bif tN s e==40 then 7 else 6
def auB{s:aK}(hs:s.length<=1048576){i e:Nat}(h1:i<=e)(h2:e<=s.length):M.Fh s (i:Int) (e:Int)=some (ahP s (sub s i e) e,sub s i e,(i:Int))/\M.xJ s (i:Int) (e:Int)=some (ahP s (sub s i e) e,sub s i e,(i:Int)):=by
 have hb1:=λa=>Ew hs a
 have hb2:=λa=>Ey hs a
 simp only[M.Fh,M.TK,M.xJ,M.Nv,Rj h1 h2,(YX _).1,(YX _).2,(Rf _).1,(Rf _).2,hb1,hb2,aj,ahP];cases aia (sub s i e) !=0<;>cases Zn (sub s i e)<;>cases tN s (e:Int)==40<;>exact⟨rfl,rfl⟩
def n10'{c:UInt8}(h:(c.toNat:Int)≠10):(c==10)=false:=Y6.2 λe=>h (by rw[e];rfl)
def aAV(s w:aK)(e:Nat):ahP s w e≠0:=by
 unfold ahP;cases h:aia w !=0 with
 |true=>rw[aJ];simpa using h
 |false=>
  rw[aX];cases Zn w
  ·rw[aX];cases tN s (e:Int)==40<;>decide
  ·rw[aJ];decide
def alK(s:aK)(i:Nat)(k e:Int):Option zaw:=bif decide (e<0) then none else some (k,sub s i e.toNat)
def ari(s:aK)(i:Nat):Option zaw:=bif J9 (sub s i (Pn s i)) then some (ahP s (sub s i (Pn s i)) (Pn s i),sub s i (Pn s i)) else none
def opT(s:aK)(i:Nat):Option zaw:=bif opK s i==0 then none else some (opK s i,sub s i (i+opN s i))
def adT(s:aK)(i:Nat):Option zaw:=bif isL (tN s i) then ari s i else opT s i
def JE(s:aK)(i:Nat)(bf:Int):Option zaw:=
 bif tN s i==10 then some (1,[10]) else bif tN s i==35 then some (2,sub s i (abN s i)) else bif isD (tN s i) then alK s i 3 (Wh s i) else bif tN s i==46 then alK s i 3 (Wh s i) else
 bif tN s i==34 then alK s i 4 (quoted s i 34) else bif tN s i==47 then(bif !(XF bf) then alK s i 5 (XB s i) else adT s i) else adT s i
def ata(i j:Int):Option zaw->Int×aK×Int
 |none=>(0,[],j)
 |some p=>(p.1,p.2,i)
def arj(c:UInt8):∀l:aK,(Lib.indexByte l c<0/\(l.takeWhile λx=> !(x==c)).length=l.length)\/Lib.indexByte l c=((l.takeWhile λx=> !(x==c)).length:Int)
 |[]=> .inl ⟨by rw[Lib.indexByte];omega,rfl⟩
 |b::l=>by
  have ih:=arj c l;rw[Lib.indexByte,List.takeWhile_cons];cases hb:b==c with
  |true=>right;simp
  |false=>
   simp only[Bool.not_false,if_true,Bool.false_eq_true,if_false,Zr];have hge:=Lib.indexByte_ge l c;rcases ih with⟨h1,h2⟩|h
   ·left;have:Lib.indexByte l c= -1:=aC;rw[this,h2];exact⟨by decide,rfl⟩
   ·right;rw[h];have:((((l.takeWhile λx=> !(x==c)).length:Nat):Int)== -1)=false:=Y6.2 aC;rw[this];simp
section
variable {s:aK} (hs:s.length<=1048576) {i:Nat} (hi:i<s.length) (bf:Int)
include hs hi
omit hs hi in
theorem ab3{k e:Int}{j:Int}(h:e<0\/((i:Int)<e/\e<=s.length)):(bif decide (e<0) then some ((0:Int),([]:aK),j) else(cut s (i:Int) e).bind λw=>some (k,w,(i:Int)))=some (ata i j (alK s i k e)):=by
 unfold alK;rcases h with h|⟨h1,h2⟩
 ·rw[zdt h,aJ,aJ];rfl
 ·rw[Ac aC,aX,aX];obtain⟨n,rfl⟩:=Int.eq_ofNat_of_zero_le (show 0<=e by omega);rw[Rj aC aC,aj,ztn];rfl
theorem awE:((M.nP (tN s i)).bind λr=>bif r then(M.CX s (i:Int)).bind λe=>(cut s (i:Int) e).bind λw=>(M.rJ w).bind λq=>bif q then(M.xJ s (i:Int) e).bind λt=>some (t.fst,t.snd.fst,t.snd.snd) else some (0,[],0)
  else(M.MJ s (i:Int)).bind λr=>bif r.fst==0 then some (0,[],0) else bif decide (i64.wrap ((i:Int)+r.snd)<0) then some (0,[],0) else(cut s (i:Int) (i64.wrap ((i:Int)+r.snd))).bind λw=>some (r.fst,w,(i:Int)))=some (ata i 0 (adT s i)):=by
 unfold adT;rw[(PG _).2,aj];cases hL:isL (tN s i) with
 |true=>
  have hw:=aow (Nat.le_of_lt hi);have hle:i<=Pn s i:=by unfold Pn;omega
  have hne:=(ak0 hs (Nat.le_of_lt hi) hL).2;have hwd:=(auB hs hle hw).2;have hns:=(YZ (sub s i (Pn s i)) (by rw[ab1 hle hw];omega)).2;simp only[aJ,hne,aj,Rj hle hw,hns,hwd,ari];cases J9 (sub s i (Pn s i))<;>rfl
 |false=>
  have hop:=aoz s i hi aC;have hln:=as9 (Nat.le_of_lt hi);have hw:i64.wrap ((i:Int)+(opN s i:Int))=((i+opN s i:Nat):Int):=by rw[bF aC aC];omega
  simp only[aX,hop,aj,hw,opT];rw[Ac aC,Rj aC hln];cases opK s i==0<;>rfl
theorem awF:((M.nO (tN s i)).bind λr=>bif r then(M.CW s (i:Int)).bind λe=>(M.Fh s (i:Int) e).bind λt=>(M.rG t.snd.fst).bind λq=>bif !q then some (0,[],(i:Int)) else some (t.fst,t.snd.fst,t.snd.snd)
  else(M.MI s (i:Int)).bind λr=>bif r.snd==0 then some (0,[],(i:Int)) else bif decide (i64.wrap ((i:Int)+r.snd)<0) then some (0,[],(i:Int)) else(cut s (i:Int) (i64.wrap ((i:Int)+r.snd))).bind λw=>some (r.fst,w,(i:Int)))=some (ata i i (adT s i)):=by
 unfold adT;rw[(PG _).1,aj];cases hL:isL (tN s i) with
 |true=>
  have hw:=aow (Nat.le_of_lt hi);have hle:i<=Pn s i:=by unfold Pn;omega
  have hne:=(ak0 hs (Nat.le_of_lt hi) hL).1;have hwd:=(auB hs hle hw).1;have hns:=(YZ (sub s i (Pn s i)) (by rw[ab1 hle hw];omega)).1;simp only[aJ,hne,aj,hns,hwd,ari];cases J9 (sub s i (Pn s i))<;>rfl
 |false=>
  have hop:=aoA s i hi aC;have hln:=as9 (Nat.le_of_lt hi);have hz:=auA s i;have hw:i64.wrap ((i:Int)+(opN s i:Int))=((i+opN s i:Nat):Int):=by rw[bF aC aC];omega
  simp only[aX,hop,aj,hw,opT];rw[Ac aC,Rj aC hln];rcases hz with⟨h1,h2⟩|⟨h1,h2⟩
  ·rw[h1,h2];rfl
  ·have e1:(opK s i==0)=false:=Y6.2 aC;have e2:((opN s i:Int)==0)=false:=Y6.2 aC;rw[e1,e2];rfl
theorem atb:M.CY s (i:Int) bf=some (ata i 0 (JE s i bf)):=by
 obtain⟨c,hc⟩:∃c,s[i]? =some c:=⟨s[i],by simp[hi]⟩
 have hb:tN s (i:Int)=(c.toNat:Int):=by rw[Jz,hc]
 have hR:=awE hs hi;have hw1:i64.wrap ((i:Int)+1)=((i+1:Nat):Int):=by rw[bF aC aC];omega
 have hnum:=aby hs (i:Int) aC;have hstr:=(agL hs (i:Int) aC aC).2;have here:=(agM hs (i:Int) aC aC).2;have c3:=ab3 (s:=s) (i:=i) (j:=0) (k:=3) (Vq hs hi);have c4:=ab3 (s:=s) (i:=i) (j:=0) (k:=4) (Vr (q:=34) hi);have c5:=ab3 (s:=s) (i:=i) (j:=0) (k:=5) (agY hi);simp only[M.CY,M.QX,M.OO,dG,hc,aj,aiJ,<-hb,aku,hnum,hstr,here,(abO bf).2,c3,c4,c5];unfold JE;cases h10:tN s i==10 with
 |true=>
  have aXQ:c=10:=by rw[hb,beq_iff_eq] at h10;have h9:c.toNat=10:=aC;exact UInt8.toNat_inj.1 (by rw[h9];rfl)
  rw[aJ,aJ,hw1,Ac aC,aX,Rj aC aC,aj,sub,show i+1 - i=1 by omega,List.drop_eq_getElem_cons hi,(UN.1 hc).2,aXQ];rfl
 |false=>
 rw[aX,aX];cases h35:tN s i==35 with
 |true=>
  have hcl:=aox (Nat.le_of_lt hi);have hix:M.strings_IndexByte (s.drop i) 10=some (Lib.indexByte (s.drop i) 10):=rfl;rw[aJ,aJ,Rj (Nat.le_of_lt hi) (zaU _),aj,aov,hix,aj];rcases arj 10 (s.drop i) with⟨h1,h2⟩|h1
  ·rw[Ac aC,aX,aj];have:abN s i=s.length:=by unfold abN;rw[h2,List.length_drop];omega
   rw[this,aov];rfl
  ·have hce:((i:Int)+Lib.indexByte (s.drop i) 10)=((abN s i:Nat):Int):=by rw[h1];unfold abN;omega
   rw[hce,h1,zdt aC,aJ,bF aC aC,Ac aC,aX,Rj (by unfold abN;omega) hcl,aj];rfl
 |false=>
 rw[aX,aX];cases isD (tN s i) with
 |true=>rfl
 |false=>
 rw[aX,aX];cases tN s i==46 with
 |true=>rfl
 |false=>
 rw[aX,aX];cases tN s i==34 with
 |true=>rfl
 |false=>
 rw[aX,aX];cases tN s i==47 with
 |true=>
  rw[aJ,aJ];cases XF bf with
  |false=>rfl
  |true=>exact hR
 |false=>exact hR
omit hi in
theorem aAW(x y:Int)(a b:aK)(u v w:Int):∀(n j:Nat),s.length - j<=n->j<=s.length->M.yK s x y a u v b w (j:Int)=some ((abN s j:Nat):Int):=by
 intro n;induction n with
 |zero=>
  intro j hn hj;have e:j=s.length:=aC;subst e;rw[M.yK];refine aO ?_;simp only[M.F6,M.Bz];rw[Ac aC,aX];have:abN s s.length=s.length:=by unfold abN;simp
  rw[this]
 |succ n ih=>
  intro j hn hj
  by_cases hlt:j<s.length
  ·obtain⟨c,hc⟩:∃c,s[j]? =some c:=⟨s[j],by simp[hlt]⟩
   have hst:=anc hc;have hcc:((c.toNat:Int) !=10)= !(c==10):=by have:=aEs c 10 aC;simp only[bne];exact congrArg (!·) this
   cases h10:c==10 with
   |true=>rw[h10,aJ] at hst;rw[M.yK];refine aO ?_;simp only[M.F6,M.Bz,dG,hc,aj,hcc,h10,zaT];rw[zdt aC,aJ,aX,hst]
   |false=>
    rw[h10,aX] at hst;have hb:M.F6 s x y a u v b w (j:Int)=some (.inl ((j+1:Nat):Int)):=by simp only[M.F6,M.Bz,dG,hc,aj,hcc,h10,Bool.not_false];rw[zdt aC,aJ,aJ,bF aC aC];rfl
    have:=ih (j+1) aC aC;rw[M.yK] at this;rw[M.yK,aZ hb,this,hst]
  ·exact ih j aC hj
theorem awG:M.Fj s (i:Int) (!(XF bf))=some (ata i i (JE s i bf)):=by
 obtain⟨c,hc⟩:∃c,s[i]? =some c:=⟨s[i],by simp[hi]⟩
 have hb:tN s (i:Int)=(c.toNat:Int):=by rw[Jz,hc]
 have hR:=awF hs hi;have hnum:=abz hs (i:Int) aC;have hstr:=(agL hs (i:Int) aC aC).1;have here:=(agM hs (i:Int) aC aC).1;have c3:=ab3 (s:=s) (i:=i) (j:=(i:Int)) (k:=3) (Vq hs hi);have c4:=ab3 (s:=s) (i:=i) (j:=(i:Int)) (k:=4) (Vr (q:=34) hi);have c5:=ab3 (s:=s) (i:=i) (j:=(i:Int)) (k:=5) (agY hi);have hcl:=aox (Nat.le_of_lt hi);have hcm:=aAW hs (i:Int) 0 [] [] 0 0 (i:Int) _ i (zaU _) (Nat.le_of_lt hi);simp only[M.Fj,M.TM,M.QS,dG,hc,aj,aiJ,<-hb,akt,hnum,hstr,here,c3,c4,c5,hcm];unfold JE;cases h10:tN s i==10 with
 |true=>rfl
 |false=>
 rw[aX,aX];cases h35:tN s i==35 with
 |true=>rw[aJ,aJ,Ac aC,aX,Rj (by unfold abN;omega) hcl,aj];rfl
 |false=>
 rw[aX,aX];cases isD (tN s i) with
 |true=>rfl
 |false=>
 rw[aX,aX];cases tN s i==46 with
 |true=>rfl
 |false=>
 rw[aX,aX];cases tN s i==34 with
 |true=>rfl
 |false=>
 rw[aX,aX];cases tN s i==47 with
 |true=>
  rw[aJ,aJ];cases XF bf with
  |false=>rfl
  |true=>exact hR
 |false=>exact hR
theorem Wu{k:Int}{w:aK}(h:JE s i bf=some (k,w)):k≠0/\1<=w.length/\i+w.length<=s.length:=by
 obtain⟨c,hc⟩:∃c,s[i]? =some c:=⟨s[i],by simp[hi]⟩
 have hb:tN s (i:Int)=(c.toNat:Int):=by rw[Jz,hc]
 have hE:∀{k' e:Int},k'≠0->(e<0\/((i:Int)<e/\e<=s.length))->alK s i k' e=some (k,w)->k≠0/\1<=w.length/\i+w.length<=s.length:=by
  intro k' e hk he hx;unfold alK at hx;rcases he with he|⟨h1,h2⟩
  ·rw[zdt he] at hx;cases hx
  ·rw[Ac aC,aX] at hx;cases hx;rw[ab1 aC aC];exact⟨hk,aC,aC⟩
 have hR:adT s i=some (k,w)->k≠0/\1<=w.length/\i+w.length<=s.length:=by
  intro hx;unfold adT at hx;cases hL:isL (tN s i) with
  |true=>
   rw[hL,aJ] at hx;unfold ari at hx;cases hn:J9 (sub s i (Pn s i)) with
   |false=>rw[hn] at hx;cases hx
   |true=>
    rw[hn,aJ] at hx;cases hx;have hw:=aow (Nat.le_of_lt hi);have hle:i<=Pn s i:=by unfold Pn;omega
    have hst:=agX hc;rw[<-hb,show isW (tN s i)=true by unfold isW;rw[hL];rfl,aJ] at hst;have:i+1<=Pn s i:=by rw[hst];unfold Pn;omega
    rw[ab1 hle hw];exact⟨aAV _ _ _,aC,aC⟩
  |false=>
   rw[hL,aX] at hx;unfold opT at hx;cases hz:opK s i==0 with
   |true=>rw[hz] at hx;cases hx
   |false=>rw[hz,aX] at hx;cases hx;rw[Y6] at hz;have h0:=auA s i;have hln:=as9 (Nat.le_of_lt hi);rw[ab1 aC hln];exact⟨hz,aC,aC⟩
 unfold JE at h;cases h10:tN s i==10 with
 |true=>rw[h10,aJ] at h;cases h;exact⟨by decide,by simp,by simp;omega⟩
 |false=>
 rw[h10,aX] at h;cases h35:tN s i==35 with
 |true=>
  rw[h35,aJ] at h;cases h;have hcl:=aox (Nat.le_of_lt hi);have hst:=anc hc;have hn:(c==10)=false:=n10' (by rw[<-hb];rw[Y6] at h10;exact h10);rw[hn,aX] at hst;have:i+1<=abN s i:=by rw[hst];unfold abN;omega
  rw[ab1 aC hcl];exact⟨by decide,aC,aC⟩
 |false=>
 rw[h35,aX] at h;cases hD:isD (tN s i) with
 |true=>rw[hD,aJ] at h;exact hE (by decide) (Vq hs hi) h
 |false=>
 rw[hD,aX] at h;cases h46:tN s i==46 with
 |true=>rw[h46,aJ] at h;exact hE (by decide) (Vq hs hi) h
 |false=>
 rw[h46,aX] at h;cases h34:tN s i==34 with
 |true=>rw[h34,aJ] at h;exact hE (by decide) (Vr hi) h
 |false=>
 rw[h34,aX] at h;cases h47:tN s i==47 with
 |true=>
  rw[h47,aJ] at h;cases he:XF bf with
  |false=>rw[he,Bool.not_false,aJ] at h;exact hE (by decide) (agY hi) h
  |true=>rw[he,zaT,aX] at h;exact hR h
 |false=>rw[h47,aX] at h;exact hR h
end
def ark(l:List Tk):ah (ay l)=true:=by simp[ah,ay,alf,D.flat]
def aeS(s:aK):Nat->Nat->Int->List Tk->List Tk⊕Nat
 |0,_,_,acc=> .inl acc
 |f+1,i,bf,acc=>bif Nat.ble s.length i then .inl acc else bif aip (tN s i) then aeS s f (i+1) bf acc else
  bif tN s i==92 && tN s ((i+1:Nat):Int)==10 then aeS s f (i+2) bf acc else
  match JE s i bf with
  |none=> .inr i
  |some p=>aeS s f (i+p.2.length) p.1 (acc++[⟨p.1,p.2,(i:Int)⟩])
def atc(n:Nat)(l:List Tk):Prop:=∀t,t∈l->t.text.length<=n
def atc.snoc{n:Nat}{l:List Tk}{t:Tk}(h:atc n l)(ht:t.text.length<=n):atc n (l++[t]):=by
 intro u hu;rcases List.mem_append.1 hu with hu|hu
 ·exact h u hu
 ·rw[List.mem_singleton] at hu;rw[hu];exact ht
def aiK{s:aK}(hs:s.length<=1048576):∀(f i:Nat) (bf:Int) (acc l:List Tk),i<=s.length->acc.length<=i->atc s.length acc->aeS s f i bf acc=.inl l->l.length<=s.length/\atc s.length l
 |0,i,bf,acc,l,hi,hl,ht,h=>by cases h;exact⟨aC,ht⟩
 |f+1,i,bf,acc,l,hi,hl,ht,h=>by
  rw[aeS] at h;cases hb:Nat.ble s.length i with
  |true=>rw[hb,aJ] at h;cases h;exact⟨aC,ht⟩
  |false=>
   have hlt:i<s.length:=by
    have:¬(Nat.ble s.length i=true):=by rw[hb];simp
    rw[Nat.ble_eq] at this;omega
   rw[hb,aX] at h;cases h1:aip (tN s i) with
   |true=>rw[h1,aJ] at h;exact aiK hs f (i+1) bf acc l aC aC ht h
   |false=>
    rw[h1,aX] at h;cases h2:(tN s i==92 && tN s ((i+1:Nat):Int)==10) with
    |true=>
     rw[h2,aJ] at h;have:i+1<s.length:=by
      by_cases hc:i+1<s.length
      ·exact hc
      ·rw[ab2 (a:=((i+1:Nat):Int)) aC] at h2;rw[PO] at h2;cases h2.2
     exact aiK hs f (i+2) bf acc l aC aC ht h
    |false=>
     rw[h2,aX] at h;cases hk:JE s i bf with
     |none=>rw[hk] at h;cases h
     |some p=>obtain⟨k,w⟩:=p;rw[hk] at h;have hp:=Wu hs hlt bf hk;exact aiK hs f _ _ _ l hp.2.2 (by rw[DJ,Bd];have:=hp.2.1;omega) (ht.snoc (by show w.length<=_;omega)) h
section
variable {s:aK} (hs:s.length<=3000)
include hs
theorem auC(x y:Int):∀(f i:Nat) (bf:Int) (acc:List Tk),s.length<i+f->i<=s.length->acc.length<=i->
  match aeS s f i bf acc with
  | .inl l=>∃b',M.sN s x y ((i:Int),bf,ay acc)=some (.inr ((s.length:Int),b',ay l))
  | .inr a=>M.sN s x y ((i:Int),bf,ay acc)=some (.inl (a:Int))
 |0,i,bf,acc,hf,hi,hl=>absurd hf aC
 |f+1,i,bf,acc,hf,hi,hl=>by
  rw[aeS]
  by_cases hlt:i<s.length
  ·have hb:Nat.ble s.length i=false:=by
    cases hb:Nat.ble s.length i with
    |false=>rfl
    |true=>rw[Nat.ble_eq] at hb;omega
   obtain⟨c,hc⟩:∃c,s[i]? =some c:=⟨s[i],by simp[hlt]⟩
   have hbc:tN s (i:Int)=(c.toNat:Int):=by rw[Jz,hc]
   have hw1:i64.wrap ((i:Int)+1)=((i+1:Nat):Int):=by rw[bF aC aC];omega
   have hw2:i64.wrap ((i:Int)+2)=((i+2:Nat):Int):=by rw[bF aC aC];omega
   have hby:=λa=>Ey (s:=s) (by omega:s.length<=1048576) a
   have htk:=atb (s:=s) aC hlt bf;have hbody:M.KN s x y ((i:Int),bf,ay acc)=some (bif aip (tN s i) then .inl (((i+1:Nat):Int),bf,ay acc) else
     bif tN s i==92 && tN s ((i+1:Nat):Int)==10 then .inl (((i+2:Nat):Int),bf,ay acc) else
     match JE s i bf with
     |none=> .inr (.inl (i:Int))
     |some p=> .inl (((i+p.2.length:Nat):Int),p.1,ay (acc++[⟨p.1,p.2,(i:Int)⟩]))):=by
    have tail:((M.CY s (i:Int) bf).bind λr=>bif r.fst==0 then some (Sum.inr (Sum.inl (i:Int))) else
      bif(((ay acc).length+[[D.int IntKind.i64 r.fst,D.str r.snd.fst,D.int IntKind.i64 r.snd.snd]].length) * 32).ble 140737488355328 then
      bif((ay acc).length+[[D.int IntKind.i64 r.fst,D.str r.snd.fst,D.int IntKind.i64 r.snd.snd]].length).ble 140737488355328 then
       some (Sum.inl (i64.wrap ((i:Int)+(r.snd.fst.length:Int)),r.fst,ay acc++[[D.int IntKind.i64 r.fst,D.str r.snd.fst,D.int IntKind.i64 r.snd.snd]])) else none else none)=
      some (match JE s i bf with
       |none=>(Sum.inr (Sum.inl (i:Int)):(Int×Int×ak)⊕(Int⊕(Int×Int×ak)))
       |some p=> .inl (((i+p.2.length:Nat):Int),p.1,ay (acc++[⟨p.1,p.2,(i:Int)⟩]))):=by
     rw[htk,aj];cases hk:JE s i bf with
     |none=>rfl
     |some p=>obtain⟨k,w⟩:=p;have hp:=Wu aC hlt bf hk;simp only[ata,dZ,Zr,zln];rw[Y6.2 hp.1,aX,bC aC,aJ,bC aC,aJ,bF aC aC];simp only[ay,List.map_append];rfl
    simp only[M.KN,M.F8,M.Et,dG,hc,aj,aiJ,<-hbc,(akY _).2,hw1,hw2,hby];rw[zdt aC,aJ];cases aip (tN s i) with
    |true=>rfl
    |false=>
     rw[aX,aX];cases tN s i==92 with
     |true=>
      rw[aJ,Bool.true_and];cases tN s ((i+1:Nat):Int)==10 with
      |true=>rfl
      |false=>exact tail
     |false=>exact tail
   rw[hb,aX];cases h1:aip (tN s i) with
   |true=>rw[h1,aJ] at hbody;have:=auC x y f (i+1) bf acc aC aC aC;rw[aJ];rw[M.sN] at this|-;rw[aZ hbody];exact this
   |false=>
    rw[h1,aX] at hbody;rw[aX];cases h2:(tN s i==92 && tN s ((i+1:Nat):Int)==10) with
    |true=>
     rw[h2,aJ] at hbody;have hlt2:i+1<s.length:=by
      by_cases hcc:i+1<s.length
      ·exact hcc
      ·rw[ab2 (a:=((i+1:Nat):Int)) aC] at h2;rw[PO] at h2;cases h2.2
     have:=auC x y f (i+2) bf acc aC aC aC;rw[aJ];rw[M.sN] at this|-;rw[aZ hbody];exact this
    |false=>
     rw[h2,aX] at hbody;rw[aX];cases hk:JE s i bf with
     |none=>rw[hk] at hbody;rw[M.sN];exact aO hbody
     |some p=>obtain⟨k,w⟩:=p;rw[hk] at hbody;have hp:=Wu aC hlt bf hk;have:=auC x y f (i+w.length) k (acc++[⟨k,w,(i:Int)⟩]) aC aC (by rw[DJ,Bd];omega);rw[M.sN] at this|-;simp only[] at hbody|-;rw[aZ hbody];exact this
  ·have hb:Nat.ble s.length i=true:=by rw[Nat.ble_eq];omega
   rw[hb,aJ];refine⟨bf, ?_⟩;rw[M.sN];refine aO ?_;simp only[M.KN,M.F8,M.Et];rw[Ac aC,aX,show(i:Int)=(s.length:Int) by omega]
theorem auD(x y:Int):∀(f i:Nat) (bf:Int) (acc:List Tk),s.length<i+f->i<=s.length->acc.length<=i->
  match aeS s f i bf acc with
  | .inl l=>∃b',M.Dy s x y (bf,(i:Int),ay acc)=some (.inr (b',(s.length:Int),ay l))
  | .inr a=>M.Dy s x y (bf,(i:Int),ay acc)=some (.inl (2,(a:Int)))
 |0,i,bf,acc,hf,hi,hl=>absurd hf aC
 |f+1,i,bf,acc,hf,hi,hl=>by
  rw[aeS]
  by_cases hlt:i<s.length
  ·have hb:Nat.ble s.length i=false:=by
    cases hb:Nat.ble s.length i with
    |false=>rfl
    |true=>rw[Nat.ble_eq] at hb;omega
   obtain⟨c,hc⟩:∃c,s[i]? =some c:=⟨s[i],by simp[hlt]⟩
   have hbc:tN s (i:Int)=(c.toNat:Int):=by rw[Jz,hc]
   have hw1:i64.wrap ((i:Int)+1)=((i+1:Nat):Int):=by rw[bF aC aC];omega
   have hw2:i64.wrap ((i:Int)+2)=((i+2:Nat):Int):=by rw[bF aC aC];omega
   have hby:=λa=>Ew (s:=s) (by omega:s.length<=1048576) a
   have htk:=awG (s:=s) aC hlt bf;have hbody:M.TN s x y (bf,(i:Int),ay acc)=some (bif aip (tN s i) then .inl (bf,((i+1:Nat):Int),ay acc) else
     bif tN s i==92 && tN s ((i+1:Nat):Int)==10 then .inl (bf,((i+2:Nat):Int),ay acc) else
     match JE s i bf with
     |none=> .inr (.inl (2,(i:Int)))
     |some p=> .inl (p.1,((i+p.2.length:Nat):Int),ay (acc++[⟨p.1,p.2,(i:Int)⟩]))):=by
    have tail:((M.Fj s (i:Int) !(XF bf)).bind λr=>bif r.fst==0 then some (Sum.inr (Sum.inl (2,(i:Int)))) else
      bif((ay acc).length:Int)==3000 then some (Sum.inr (Sum.inl (1,0))) else
      bif(((ay acc).length+[[D.int IntKind.i64 r.fst,D.str r.snd.fst,D.int IntKind.i64 r.snd.snd]].length) * 32).ble 140737488355328 then
      bif((ay acc).length+[[D.int IntKind.i64 r.fst,D.str r.snd.fst,D.int IntKind.i64 r.snd.snd]].length).ble 140737488355328 then
       some (Sum.inl (r.fst,i64.wrap ((i:Int)+(r.snd.fst.length:Int)),ay acc++[[D.int IntKind.i64 r.fst,D.str r.snd.fst,D.int IntKind.i64 r.snd.snd]])) else none else none)=
      some (match JE s i bf with
       |none=>(Sum.inr (Sum.inl (2,(i:Int))):(Int×Int×ak)⊕((Int×Int)⊕(Int×Int×ak)))
       |some p=> .inl (p.1,((i+p.2.length:Nat):Int),ay (acc++[⟨p.1,p.2,(i:Int)⟩]))):=by
     rw[htk,aj];cases hk:JE s i bf with
     |none=>rfl
     |some p=>obtain⟨k,w⟩:=p;have hp:=Wu aC hlt bf hk;simp only[ata,dZ,Zr,zln];rw[Y6.2 hp.1,aX,show((acc.length:Int)==3000)=false from Y6.2 aC,aX,bC aC,aJ,bC aC,aJ,bF aC aC];simp only[ay,List.map_append];rfl
    simp only[M.TN,M.Oc,M.LV,dG,hc,aj,aiJ,<-hbc,(akY _).1,hw1,hw2,hby,(abO bf).1];rw[zdt aC,aJ];cases aip (tN s i) with
    |true=>rfl
    |false=>
     rw[aX,aX];cases tN s i==92 with
     |true=>
      rw[aJ,Bool.true_and];cases tN s ((i+1:Nat):Int)==10 with
      |true=>rfl
      |false=>exact tail
     |false=>exact tail
   rw[hb,aX];cases h1:aip (tN s i) with
   |true=>rw[h1,aJ] at hbody;have:=auD x y f (i+1) bf acc aC aC aC;rw[aJ];rw[M.Dy] at this|-;rw[aZ hbody];exact this
   |false=>
    rw[h1,aX] at hbody;rw[aX];cases h2:(tN s i==92 && tN s ((i+1:Nat):Int)==10) with
    |true=>
     rw[h2,aJ] at hbody;have hlt2:i+1<s.length:=by
      by_cases hcc:i+1<s.length
      ·exact hcc
      ·rw[ab2 (a:=((i+1:Nat):Int)) aC] at h2;rw[PO] at h2;cases h2.2
     have:=auD x y f (i+2) bf acc aC aC aC;rw[aJ];rw[M.Dy] at this|-;rw[aZ hbody];exact this
    |false=>
     rw[h2,aX] at hbody;rw[aX];cases hk:JE s i bf with
     |none=>rw[hk] at hbody;rw[M.Dy];exact aO hbody
     |some p=>obtain⟨k,w⟩:=p;rw[hk] at hbody;have hp:=Wu aC hlt bf hk;have:=auD x y f (i+w.length) k (acc++[⟨k,w,(i:Int)⟩]) aC aC (by rw[DJ,Bd];omega);rw[M.Dy] at this|-;simp only[] at hbody|-;rw[aZ hbody];exact this
  ·have hb:Nat.ble s.length i=true:=by rw[Nat.ble_eq];omega
   rw[hb,aJ];refine⟨bf, ?_⟩;rw[M.Dy];refine aO ?_;simp only[M.TN,M.Oc,M.LV];rw[Ac aC,aX,show(i:Int)=(s.length:Int) by omega]
end
def abP(s:aK):List Tk×Int×Int:=if s.length>3000 then([],1,0) else match aeS s (s.length+1) 0 0 [] with
 | .inl l=>(l,0,0)
 | .inr a=>([],2,(a:Int))
def aDB(s:aK):(abP s).1.length<=3000/\atc 3000 (abP s).1:=by
 have h0:atc 3000 []:=λt h=>by cases h
 unfold abP;split
 ·exact⟨Nat.zero_le _,h0⟩
 ·next hn=>
  cases hx:aeS s (s.length+1) 0 0 [] with
  |inr a=>exact⟨Nat.zero_le _,h0⟩
  |inl l=>have:=aiK (s:=s) aC _ 0 0 [] l (Nat.zero_le _) (Nat.zero_le _) (λt h=>by cases h) hx;exact⟨by show l.length<=3000;omega,λt ht=>by have:=this.2 t ht;omega⟩
def aHm(s:aK):M.Uh s=some (ay (abP s).1,(abP s).2.1,(abP s).2.2)/\M.Ui s=some (ay (abP s).1,(abP s).2.1,(abP s).2.2):=by
 simp only[M.Uh,M.YV,M.Ui,M.YW,M.Jb,M.QY,abP]
 by_cases h:s.length>3000
 ·rw[if_pos h,zdt aC,aJ,aJ];exact⟨rfl,rfl⟩
 ·rw[if_neg h,Ac aC,aX,aX];have h1:=auC (s:=s) aC 0 0 (s.length+1) 0 0 [] aC aC (by simp);have h2:=auD (s:=s) aC 0 0 (s.length+1) 0 0 [] aC aC (by simp);have e0:ay []=[]:=rfl;rw[e0,agJ] at h1 h2;cases hx:aeS s (s.length+1) 0 0 [] with
  |inl l=>rw[hx] at h1 h2;obtain⟨b1,h1⟩:=h1;obtain⟨b2,h2⟩:=h2;rw[h1,h2];simp only[aj,jg,letE,ark,aJ];refine⟨?_, ?_⟩<;>first|rfl|trivial
  |inr a=>rw[hx] at h1 h2;rw[h1,h2];simp only[aj,jg,letE];refine⟨?_, ?_⟩<;>first|rfl|trivial
def Kd(k:Int):Prop:=0<=k/\k<=100
def aAX:ZC.length=17:=by decide+kernel
def aAY:ZE.length=39:=by decide+kernel
def aDC(s:aK):Kd (aia s):=by have h:=abB s ZC 0 (by decide);rw[aAX] at h;unfold aia Kd;split<;>omega
def aAZ(s w:aK)(e:Nat):Kd (ahP s w e):=by
 have h:=aDC w;unfold ahP;cases aia w !=0 with
 |true=>exact h
 |false=>
  cases Zn w with
  |true=>exact show Kd 8 from⟨by decide,by decide⟩
  |false=>
   cases tN s e==40 with
   |true=>exact show Kd 7 from⟨by decide,by decide⟩
   |false=>exact show Kd 6 from⟨by decide,by decide⟩
def atd(s:aK):∀(l:List (aK)) (i:Nat) (k:Int) (m:Nat),0<=k/\k<=30+i+l.length->0<=(opF s l i k m).1/\(opF s l i k m).1<=30+i+l.length
 |[],i,k,m,h=>h
 |g::l,i,k,m,h=>by
  rw[Zr] at h|-;rw[opF];cases(Nat.blt m g.length && g.isPrefixOf s) with
  |true=>have:=atd s l (i+1) (30+(i:Int)) g.length aC;rw[aJ];omega
  |false=>have:=atd s l (i+1) k m aC;rw[aX];omega
def aHn(s:aK)(i:Nat):Kd (opK s i):=by have:=atd (s.drop i) ZE 0 0 0 aC;rw[aAY] at this;unfold opK Kd;omega
def aiL{s:aK}{i:Nat}{k e:Int}{p:Int×aK}(hk:Kd k)(h:alK s i k e=some p):Kd p.1:=by
 unfold alK at h;cases hd:decide (e<0) with
 |true=>rw[hd] at h;cases h
 |false=>rw[hd] at h;cases h;exact hk
def arl{s:aK}{i:Nat}{p:Int×aK}(h:adT s i=some p):Kd p.1:=by
 unfold adT ari opT at h;cases hz:isL (tN s i) with
 |true=>
  rw[hz,aJ] at h;cases hn:J9 (sub s i (Pn s i)) with
  |true=>rw[hn] at h;cases h;exact aAZ _ _ _
  |false=>rw[hn] at h;cases h
 |false=>
  rw[hz,aX] at h;cases hn:opK s i==0 with
  |true=>rw[hn] at h;cases h
  |false=>rw[hn] at h;cases h;exact aHn _ _
def awH{s:aK}{i:Nat}{bf:Int}{p:Int×aK}(h:JE s i bf=some p):Kd p.1:=by
 have k3:Kd 3:=⟨by decide,by decide⟩
 have k4:Kd 4:=⟨by decide,by decide⟩
 have k5:Kd 5:=⟨by decide,by decide⟩
 unfold JE at h;cases q1:tN s i==10 with
 |true=>rw[q1] at h;cases h;exact show Kd 1 from⟨by decide,by decide⟩
 |false=>
 rw[q1,aX] at h;cases q2:tN s i==35 with
 |true=>rw[q2] at h;cases h;exact show Kd 2 from⟨by decide,by decide⟩
 |false=>
 rw[q2,aX] at h;cases q3:isD (tN s i) with
 |true=>rw[q3] at h;exact aiL k3 h
 |false=>
 rw[q3,aX] at h;cases q4:tN s i==46 with
 |true=>rw[q4] at h;exact aiL k3 h
 |false=>
 rw[q4,aX] at h;cases q5:tN s i==34 with
 |true=>rw[q5] at h;exact aiL k4 h
 |false=>
 rw[q5,aX] at h;cases q6:tN s i==47 with
 |true=>
  rw[q6,aJ] at h;cases hb: !(XF bf) with
  |true=>rw[hb] at h;exact aiL k5 h
  |false=>rw[hb] at h;exact arl h
 |false=>rw[q6] at h;exact arl h
def aiM{s:aK}:∀(f i:Nat) (bf:Int) (acc l:List Tk),(∀t,t∈acc->Kd t.kind)->aeS s f i bf acc=.inl l->∀t,t∈l->Kd t.kind
 |0,i,bf,acc,l,ha,h=>by rw[aeS] at h;cases h;exact ha
 |f+1,i,bf,acc,l,ha,h=>by
  rw[aeS] at h;cases hb:Nat.ble s.length i with
  |true=>rw[hb] at h;cases h;exact ha
  |false=>
  rw[hb,aX] at h;cases hc:aip (tN s i) with
  |true=>rw[hc] at h;exact aiM f _ _ _ _ ha h
  |false=>
  rw[hc,aX] at h;cases hd:(tN s i==92 && tN s ((i+1:Nat):Int)==10) with
  |true=>rw[hd] at h;exact aiM f _ _ _ _ ha h
  |false=>
  rw[hd,aX] at h;cases ht:JE s i bf with
  |none=>rw[ht] at h;cases h
  |some p=>
   rw[ht] at h;refine aiM f _ _ _ _ (λt hm=> ?_) h;rcases List.mem_append.1 hm with hm|hm
   ·exact ha t hm
   ·rw[List.mem_singleton] at hm;rw[hm];exact awH ht
def aDD(s:aK):(∀t,t∈(abP s).1->Kd t.kind)/\((abP s).2.1=0->(abP s).2.2=0):=by
 unfold abP;split
 ·exact⟨λt h=>(by cases h),λh=>(by cases h)⟩
 ·split
  ·next l h=>exact⟨aiM _ _ _ _ _ (λt h=>(by cases h)) h,λ_=>rfl⟩
  ·exact⟨λt h=>(by cases h),λh=>(by cases h)⟩
def Parse_ok(s:aK):∃fl q k p,M.Ja s=some (fl,aU false q,k,p)/\M.Jc s=some (aU true q,k,p)/\q.length<=18001/\(∀n,n∈q->n.kids.length<=18001)/\(∀n,n∈q->Small n)/\(k=0->p=0):=by
 have hL:=aHm s;have hx:=aDB s;have hd:=aDD s;simp only[M.Ja,M.Vj,M.Jc,M.Vl,hL.1,hL.2,aj];obtain⟨fl,q,k,p,h1,h2,h3,h4,h5⟩:=akX (abP s).1 aC (λt ht=>⟨⟨by have:=(hd.1 t ht).1;omega,by have:=(hd.1 t ht).2;omega⟩,by have:=hx.2 t ht;omega⟩);cases hk:(abP s).2.1==0 with
 |false=>simp only[bne,hk,Bool.not_false,aJ,aX];exact⟨_,[],_,_,rfl,rfl,by simp,by simp,by simp,λh=>by rw[h] at hk;exact absurd hk (by decide)⟩
 |true=>have e0:(abP s).2.2=0:=hd.2 (by rwa [beq_iff_eq] at hk);simp only[bne,hk,e0,zaT,aJ,aX,h1,h2,aj,aV,aDA,show((0:Int)==0)=true from rfl];exact⟨_,q,k,p,rfl,rfl,h3,h4,h5⟩
def awI{l:List Nd}{o:Bool}(hl:l.length<=1048576)(t:Tn):∀(f b:Nat),Lies l b t->t.size<=f->
  M.lu f (aU o l) ((b+sizes t.kids:Nat):Int)=some (t.kind,t.op,t.text,t.other,dN true t.kids):=by
 refine Tn.ind (P:=λt=>∀(f b:Nat),Lies l b t->t.size<=f->M.lu f (aU o l) ((b+sizes t.kids:Nat):Int)=some (t.kind,t.op,t.text,t.other,dN true t.kids)) ?_ t;intro k op x y ks ih f b h hf;cases f with
 |zero=>rw[Tn.size] at hf;omega
 |succ f=>
  have hroot:l[b+sizes ks]? =some ⟨k,op,x,y,ends ks b⟩:=h.root;have hlt:=h.lt;rw[Tn.size] at hf hlt;have hkl:=yP ks;simp only[EY,M.lu,M.J7,dG,oO,Tn.kids,Tn.kind,Tn.op,Tn.text,Tn.other,hroot,Ir,aj,cN0,cN1,cN2,cN3,cN4,jK,Iw];have hrec:∀j t,ks[j]? =some t->M.lu f (aU o l) ((b+sizes (ks.take j)+sizes t.kids:Nat):Int)=some (t.kind,t.op,t.text,t.other,dN true t.kids):=λj t hj=>ih t (zmg hj) f _ (Lies.asD h hj) (by have:=Pm hj;omega)
  have hloop:=wC (b:=M.o9 (M.lu f))
   (t:=if ks=[] then .inl (aU o l,encI (ends ks b),(ks.length:Int),0,0,0,[],[],k,op,x,y) else .inr (aU o l,encI (ends ks b),(ks.length:Int),(ks.length:Int),0,0,[],[],k,op,x,y,dN true ks))
   (λj=>if j=0 then .inl (aU o l,encI (ends ks b),(ks.length:Int),0,0,0,[],[],k,op,x,y) else .inr (aU o l,encI (ends ks b),(ks.length:Int),(j:Int),0,0,[],[],k,op,x,y,dN true (ks.take j))) ks.length
   (by
    intro j hj;obtain⟨t,ht⟩:∃t,ks[j]? =some t:=⟨ks[j],by simp⟩
    have hr:=hrec j t ht;have he:=an7 (b:=b) ht;rw[if_neg (show¬j+1=0 by omega),asE ht,an6]
    by_cases h0:j=0
    ·subst h0;rw[if_pos rfl];have hi:idx (encI (ends ks b)) 0=some [D.int .i64 ((b+sizes (ks.take 0)+sizes t.kids:Nat):Int)]:=by have:=dG (encI (ends ks b)) 0;rw[agJ] at this;rw[this,BP,he];rfl
     simp only[EY,M.o9,M.o8,hi,aj,cI0,hr];rw[zdt aC,aJ];rfl
    ·rw[if_neg h0];simp only[EY,M.o9,M.o8,dG,BP,he,Ir,aj,cI0,hr,dR,zlt,Bd];rw[zdt aC,aJ,bC aC,aJ,bC aC,aJ,bF aC aC];rfl)
   (by
    by_cases h0:ks.length=0
    ·have he:ks=[]:=List.length_eq_zero_iff.1 h0;rw[if_pos h0,if_pos he];simp only[EY,M.o9,M.o8];rw[Ac aC,aX]
    ·have he:¬ks=[]:=λe=>h0 (by rw[e];rfl)
     rw[if_neg h0,if_neg he,List.take_length];simp only[EY,M.o9,M.o8];rw[Ac aC,aX]) 0 (Nat.zero_le _)
  rw[if_pos rfl] at hloop;rw[M.LZ,hloop,aj]
  by_cases he:ks=[]
  ·rw[if_pos he,he];rfl
  ·rw[if_neg he];rfl
def arn{l:List Nd}{o:Bool}(hl:l.length<=1048576){t:Tn}{b:Nat}(h:Lies l b t):M.wF (aU o l) ((b+sizes t.kids:Nat):Int)=some (t.kind,t.op,t.text,t.other,dN true t.kids):=
 M.abx (awI hl t t.size b h (zaU _))
def awJ{t:Tn}{o:Bool}(hl:t.size<=1048576):M.Ae (aU o (t.flat 0))=some (t.kind,t.op,t.text,t.other,dN true t.kids):=by have hs:=t.X3;simp only[M.Ae,M.Oe,gV,t.flat_length];have h:=arn (o:=o) (by rw[t.flat_length];omega) (Lies.whole t);rw[Nat.zero_add] at h;rw[bF aC aC,show(t.size:Int) - 1=((sizes t.kids:Nat):Int) by omega,h,aj]
structure Ok(l:List Nd):Prop where
 len:l.length<=1048576
 kids:∀n,n∈l->n.kids.length<=1048576/\∀e,e∈n.kids->I64 e
 sm:∀n,n∈l->Small n
 w:wK l<=10000000
def Ok.k{l:List Nd}(h:Ok l):∀n,n∈l->n.kids.length<=1048576:=λn hn=>by have:=(h.kids n hn).1;omega
def aoB{l:List Nd}(h:aeM l=true):IZ l=true:=by unfold aeM at h;rw[PO] at h;exact h.1
end Go.Proofs.YtoaeipkhadpbiaaGreatDoor
