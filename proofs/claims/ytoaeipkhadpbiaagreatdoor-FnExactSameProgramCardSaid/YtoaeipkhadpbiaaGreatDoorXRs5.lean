import Derived.Test.YtoaeipkhadpbiaaGreatDoorXRi4
set_option linter.defProp false
namespace Go.Proofs.YtoaeipkhadpbiaaGreatDoor
set_option linter.unusedVariables false
set_option linter.unusedSimpArgs false
open Go Go.Vm
open Go.IntKind (i64)
variable {l:List Tk}
abbrev Q1:=ak×ak×Int×Bool×Bool×Bool×Int×Int×aK×aK×Bool×Int×Int×aK×aK×Bool×ak
abbrev Q2:=ak×Int×Bool×Bool×Bool×Int×Int×aK×aK×Bool×Int×Int×aK×aK×ak×Bool×ak
abbrev Q3:=ak×Int×Bool×Bool×Bool×Int×Int×aK×aK×Bool×Int×Int×aK×aK×Bool×ak×ak
def inF(u:Q1⊕Q2⊕Q3):Option TP:=jg u (λt=>bif ah t.2.2.2.2.2.2.2.2.2.2.2.2.2.2.2.2 then some (t.2.2.2.2.2.2.2.2.2.2.2.1,t.2.2.2.2.2.2.2.2.2.2.2.2.1,t.2.2.2.2.2.2.2.2.2.2.2.2.2.1,t.2.2.2.2.2.2.2.2.2.2.2.2.2.2.1,true,[],t.2.2.2.2.2.2.2.2.2.2.2.2.2.2.2.1,t.2.1,t.2.2.1,t.2.2.2.1,t.2.2.2.2.2.2.2.2.2.2.2.2.2.2.2.2) else none) λu=>jg u (λt=>bif ah t.2.2.2.2.2.2.2.2.2.2.2.2.2.2.2.2 then some (t.2.2.2.2.2.2.2.2.2.2.1,t.2.2.2.2.2.2.2.2.2.2.2.1,t.2.2.2.2.2.2.2.2.2.2.2.2.1,t.2.2.2.2.2.2.2.2.2.2.2.2.2.1,false,t.2.2.2.2.2.2.2.2.2.2.2.2.2.2.1,t.2.2.2.2.2.2.2.2.2.2.2.2.2.2.2.1,t.1,t.2.1,t.2.2.1,t.2.2.2.2.2.2.2.2.2.2.2.2.2.2.2.2) else none) λu=>letE u λt=>bif ah t.2.2.2.2.2.2.2.2.2.2.2.2.2.2.2.1 then some (t.2.2.2.2.2.2.2.2.2.2.1,t.2.2.2.2.2.2.2.2.2.2.2.1,t.2.2.2.2.2.2.2.2.2.2.2.2.1,t.2.2.2.2.2.2.2.2.2.2.2.2.2.1,true,t.2.2.2.2.2.2.2.2.2.2.2.2.2.2.2.2,t.2.2.2.2.2.2.2.2.2.2.2.2.2.2.1,t.1,t.2.1,t.2.2.1,t.2.2.2.2.2.2.2.2.2.2.2.2.2.2.2.1) else none
def q2(a b:Bool)(c:ak)(c1:Int)(c2:Bool)(k op:Int)(x y:aK)(ks:ak)(tg:Bool)(c3:ak):Q2:=(c,c1,c2,a,b,0,0,[],[],false,k,op,x,y,ks,tg,c3)
def q3(a b:Bool)(c:ak)(c1:Int)(c2:Bool)(k op:Int)(x y:aK)(ks:ak)(tg:Bool)(c3:ak):Q3:=(c,c1,c2,a,b,0,0,[],[],false,k,op,x,y,tg,c3,ks)
def aC9(a b:Bool)(c1:Int)(c2:Bool)(k op:Int)(x y:aK)(ks:ak)(tg:Bool)(nt:gW):inF (.inr (.inl (q2 a b (ay l) c1 c2 k op x y ks tg (encS nt))))=some (k,op,x,y,false,ks,tg,ay l,c1,c2,encS nt):=by simp only[inF,jg,q2,dY,aJ]
def aDa(a b:Bool)(c1:Int)(c2:Bool)(k op:Int)(x y:aK)(ks:ak)(tg:Bool)(nt:gW):inF (.inr (.inr (q3 a b (ay l) c1 c2 k op x y ks tg (encS nt))))=some (k,op,x,y,true,ks,tg,ay l,c1,c2,encS nt):=by simp only[inF,jg,letE,q3,dY,aJ]
def in3(hl:l.length<=1048576){f:Int->ak->Int->Bool->ak->Option TL}{g:Bool->Bool->ak->Int->Bool->ak->Option TP}{a b:Bool}:∀(n:Nat) (x:Xp) (i:Nat) (nt:gW) (ks:ak),i<=l.length->nt.length<=i->au ks=dN false x.1.kids->
  AP l ((M.jo f g (.inr (.inr (q3 a b (ay l) (i:Int) false x.1.kind x.1.op x.1.text x.1.other ks (tgt x) (encS nt))))).bind inF) (inP l n a x i nt)
 |0,_,_,_,_,_,_,_=>by rw[inP];trivial
 |n+1,x,i,nt,ks,hi,hn,hk=>by
  rw[inP,M.jo];cases hc:bG l i==24 with
  |false=>
   have hb:M.iH f g (.inr (.inr (q3 a b (ay l) (i:Int) false x.1.kind x.1.op x.1.text x.1.other ks (tgt x) (encS nt))))=some (.inr (.inr (.inr (q3 a b (ay l) (i:Int) false x.1.kind x.1.op x.1.text x.1.other ks (tgt x) (encS nt))))):=by simp only[M.iH,M.mJ,q3,Bool.not_false,aJ,aX,dY,fG,aj,hc]
   rw[aO hb,aj,aDa,Bool.false_and,aX];exact AP.mk rfl rfl rfl rfl hk rfl
  |true=>
   cases a with
   |true=>
    have hb:M.iH f g (.inr (.inr (q3 true b (ay l) (i:Int) false x.1.kind x.1.op x.1.text x.1.other ks (tgt x) (encS nt))))=some (.inr (.inr (.inr (q3 true b (ay l) (i:Int) false x.1.kind x.1.op x.1.text x.1.other ks (tgt x) (encS nt))))):=by simp only[M.iH,M.mJ,q3,Bool.not_false,zaT,aJ,aX,dY,fG,aj,hc]
    rw[aO hb,aj,aDa];simp only[zaT,Bool.and_false,aX];exact AP.mk rfl rfl rfl rfl hk rfl
   |false=>
    have hlt:=dI hc (by decide);have hb:M.iH f g (.inr (.inr (q3 false b (ay l) (i:Int) false x.1.kind x.1.op x.1.text x.1.other ks (tgt x) (encS nt))))=(M.bJ (ay l) ((i+1:Nat):Int) false (encS nt)).bind λr=>some (.inl (.inr (.inr (q3 false b r.2.1 r.2.2.1 r.2.2.2.1 13 0 r.1 [] [[D.int .i64 x.1.kind,D.int .i64 x.1.op,D.str x.1.text,D.str x.1.other,D.sl true 5 ks]] false r.2.2.2.2)))):=by simp only[M.iH,M.mJ,q3,Bool.not_false,aJ,dY,fG,aj,hc,pX hl hlt]
    simp only[Bool.not_false,Bool.and_self,aJ];cases h6:bG l (i+1)==6 with
    |false=>
     have hnm:M.bJ (ay l) ((i+1:Nat):Int) false (encS nt)=some ([],ay l,((i+1:Nat):Int),true,encS nt):=by simp only[M.bJ,M.jl,dY,aJ,aX,fG,aj,bne,h6,Bool.not_false]
     rw[hnm,aj] at hb;rw[aZ hb,show gU _ _=_ from aO rfl,aj,nameP,h6];exact⟨_,_,_,_,_,_,_,_,(show nt.length<=l.length by omega),aDa (l:=l) _ _ _ _ _ _ _ _ _ _ _⟩
    |true=>
     have h2:=dI h6 (by decide);have hnm:M.bJ (ay l) ((i+1:Nat):Int) false (encS nt)=some (CG l (i+1),ay l,((i+1+1:Nat):Int),false,encS nt):=by simp only[M.bJ,M.jl,dY,aJ,aX,fG,aj,bne,h6,zaT,NT hl h2]
     rw[hnm,aj] at hb;rw[aZ hb,nameP,h6];exact in3 hl n (.mk 13 0 (CG l (i+1)) [] [x.1],false) (i+1+1) nt _ aC aC (fz1 hk)
def in2(hl:l.length<=1048576){f:Int->ak->Int->Bool->ak->Option TL}{g:Bool->Bool->ak->Int->Bool->ak->Option TP}{a b:Bool}:∀(n:Nat) (x:Xp) (i:Nat) (nt:gW) (ks:ak),i<=l.length->nt.length<=i->au ks=dN false x.1.kids->
  AP l ((M.jo f g (.inr (.inl (q2 a b (ay l) (i:Int) false x.1.kind x.1.op x.1.text x.1.other ks (tgt x) (encS nt))))).bind inF) (inP l n a x i nt)
 |0,_,_,_,_,_,_,_=>by rw[inP];trivial
 |n+1,x,i,nt,ks,hi,hn,hk=>by
  rw[inP,M.jo];cases hc:bG l i==24 with
  |false=>
   have hb:M.iH f g (.inr (.inl (q2 a b (ay l) (i:Int) false x.1.kind x.1.op x.1.text x.1.other ks (tgt x) (encS nt))))=some (.inr (.inr (.inl (q2 a b (ay l) (i:Int) false x.1.kind x.1.op x.1.text x.1.other ks (tgt x) (encS nt))))):=by simp only[M.iH,M.mJ,q2,Bool.not_false,aJ,aX,dY,fG,aj,hc]
   rw[aO hb,aj,aC9,Bool.false_and,aX];exact AP.mk rfl rfl rfl rfl hk rfl
  |true=>
   cases a with
   |true=>
    have hb:M.iH f g (.inr (.inl (q2 true b (ay l) (i:Int) false x.1.kind x.1.op x.1.text x.1.other ks (tgt x) (encS nt))))=some (.inr (.inr (.inl (q2 true b (ay l) (i:Int) false x.1.kind x.1.op x.1.text x.1.other ks (tgt x) (encS nt))))):=by simp only[M.iH,M.mJ,q2,Bool.not_false,zaT,aJ,aX,dY,fG,aj,hc]
    rw[aO hb,aj,aC9];simp only[zaT,Bool.and_false,aX];exact AP.mk rfl rfl rfl rfl hk rfl
   |false=>
    have hlt:=dI hc (by decide);have hb:M.iH f g (.inr (.inl (q2 false b (ay l) (i:Int) false x.1.kind x.1.op x.1.text x.1.other ks (tgt x) (encS nt))))=(M.bJ (ay l) ((i+1:Nat):Int) false (encS nt)).bind λr=>some (.inl (.inr (.inr (q3 false b r.2.1 r.2.2.1 r.2.2.2.1 13 0 r.1 [] [[D.int .i64 x.1.kind,D.int .i64 x.1.op,D.str x.1.text,D.str x.1.other,D.sl false 5 ks]] false r.2.2.2.2)))):=by simp only[M.iH,M.mJ,q2,q3,Bool.not_false,aJ,dY,fG,aj,hc,pX hl hlt]
    simp only[Bool.not_false,Bool.and_self,aJ];cases h6:bG l (i+1)==6 with
    |false=>
     have hnm:M.bJ (ay l) ((i+1:Nat):Int) false (encS nt)=some ([],ay l,((i+1:Nat):Int),true,encS nt):=by simp only[M.bJ,M.jl,dY,aJ,aX,fG,aj,bne,h6,Bool.not_false]
     rw[hnm,aj] at hb;rw[aZ hb,show gU _ _=_ from aO rfl,aj,nameP,h6];exact⟨_,_,_,_,_,_,_,_,(show nt.length<=l.length by omega),aDa (l:=l) _ _ _ _ _ _ _ _ _ _ _⟩
    |true=>
     have h2:=dI h6 (by decide);have hnm:M.bJ (ay l) ((i+1:Nat):Int) false (encS nt)=some (CG l (i+1),ay l,((i+1+1:Nat):Int),false,encS nt):=by simp only[M.bJ,M.jl,dY,aJ,aX,fG,aj,bne,h6,zaT,NT hl h2]
     rw[hnm,aj] at hb;rw[aZ hb,nameP,h6];exact in3 hl n (.mk 13 0 (CG l (i+1)) [] [x.1],false) (i+1+1) nt _ aC aC (fz1 hk)
def aqX{α:Type}{x:PR α}:x.sat λ_ _ _=>True:=by cases x<;>trivial
def auh{a b:Bool}:∀(n:Nat) (L:List Tn) (i:Nat) (nt:gW),(PK l n a b L i nt).sat λL' _ _=>L.length<L'.length
 |0,_,_,_=>by rw[PK];trivial
 |n+1,L,i,nt=>by
  rw[PK,eU];refine bK aqX λx j m _=> ?_
  rw[fJ];refine⟨λ_=> ?_,λ_=> ?_⟩
  ·rw[fJ];refine⟨λ_=>trivial,λ_=> ?_⟩;exact bK (auh n _ _ _) λL' _ _ h=>by rw[DJ,Bd] at h;omega
  ·show L.length<(L++[x.1]).length;rw[DJ,Bd];omega
def aqY{i:Nat}(h32:bG l i=32)(h:ahead (l.drop i) 0=true):(bG l (i+1)==33)=false:=by
 have hlt:i<l.length:=eP (by rw[h32];decide);obtain⟨t,ht⟩:∃t,l[i]? =some t:=⟨l[i],by simp[hlt]⟩
 have e1:t.kind=32:=by rw[bG,ht] at h32;exact h32
 rw[Yo ht,ahead,e1] at h;have h':ahead (l.drop (i+1)) 1=true:=h;cases hk:l[i+1]? with
 |none=>rw[bG,hk];rfl
 |some u=>
  rw[Yo hk,ahead] at h';rw[bG,hk];show(u.kind==33)=false;cases hu:u.kind==33 with
  |false=>rfl
  |true=>
   have e:u.kind=33:=by rwa [beq_iff_eq] at hu
   rw[e] at h';exact absurd (show false=true from h') Bool.false_ne_true
def aAb{n i:Nat}{nt:gW}(h:(bG l i==33)=false):(PN l n 33 i nt).sat λL _ _=>1<=L.length:=by
 cases n with
 |zero=>rw[PN];trivial
 |succ n=>
  rw[PN,h,aX,eU];refine bK (auh n [] i nt) λL j m hL=> ?_
  rw[eU,yY];exact λ_=>hL
section
variable {n m:Nat} (hl:l.length<=1048576) (H:∀n',n'<=n->∀m',4 * n'+30<=m'->RI l n' m') (hm:4 * (n+1)+30<=m+1)
include hl H hm
theorem aDb(a b:Bool)(i:Nat)(nt:gW)(hi:i<=l.length)(hn:nt.length<=i):
  AP l ((M.kU m a b (ay l) (i:Int) false (encS nt)).bind λr=>(M.jo (M.jR m) (M.kU m) (.inr (.inl (q2 a b r.2.2.2.2.2.2.2.1 r.2.2.2.2.2.2.2.2.1 r.2.2.2.2.2.2.2.2.2.1 r.1 r.2.1 r.2.2.1 r.2.2.2.1 (au r.2.2.2.2.2.1) r.2.2.2.2.2.2.1 r.2.2.2.2.2.2.2.2.2.2)))).bind inF)
   ((ex l n 6 a b i nt).bind λx i nt=>inP l n a x i nt):=by
 have h:=H n (zaU _) m aC;refine AP.elim (R:=AP l) (h.e6 a b i nt hi hn) (λ_=>trivial) (λk op x y fl ks tg j nt hn=> ?_) (λx fl ks j nt hk he=> ?_)
 ·rw[show M.jo _ _ _=_ from aO rfl,aj];exact⟨_,_,_,_,_,_,_,_,hn,aC9 (l:=l) _ _ _ _ _ _ _ _ _ _ _⟩
 ·have hs:=iM (IU aC aC hi) he;exact in2 hl n x j nt _ aC aC (Og hk)
theorem aRh(a b:Bool)(i:Nat)(nt:gW)(hi:i<=l.length)(hn:nt.length<=i):AP l (M.wO (m+1) a b (ay l) (i:Int) false (encS nt)) (ex l (n+1) 5 a b i nt):=by
 have hbare:=aDb hl H hm a b i nt hi hn;rw[M.Yh];simp only[M.zI,M.FW,M.FX,M.FY,M.yx,Bool.not_false,dY,aJ,ex,fG,aj];cases h32:bG l i==32 with
 |false=>simp only[aX,Bool.false_and];exact hbare
 |true=>
  have hlt:=dI h32 (by decide);have e32:bG l i=32:=by rwa [beq_iff_eq] at h32
  simp only[aJ,Bool.true_and];cases a with
  |true=>simp only[zaT,aX,Bool.false_and];exact hbare
  |false=>
   simp only[Bool.not_false,aJ,Bool.true_and,dY,aC2 hl i nt hi,aj];cases ha:ahead (l.drop i) 0 with
   |false=>simp only[aX,dY,aJ];exact hbare
   |true=>
    simp only[aJ,dY,pX hl hlt];have hne:=aqY e32 ha;obtain⟨m2,rfl⟩:∃m2,m=m2+3:=⟨m - 3,aC⟩
    cases n with
    |zero=>rw[PN];trivial
    |succ n1=>
     refine AL.elim (R:=AP l) (az9 hl ((H n1 aC (m2+2) aC).its false false (i+1) nt aC aC) aC aC) (λ_=>trivial) (λfl ks j nt hn=> ?_) (λL fl j ZG he=> ?_)
     ·simp only[zaT,aX];rw[show M.jo _ _ _=_ from aO rfl];simp only[aj,jg,dY,aJ];exact AP.fO hn
     ·have hs:=iM ((sats l (n1+1)).lst 33 (i+1) nt (by decide) aC) he;have hlong:=iM (aAb (n:=n1+1) (nt:=nt) hne) he;simp only[Bool.not_false,aJ,dY,fG,aj,bne,jf];rw[jD];cases h24:bG l j==24 with
      |false=>simp only[Bool.not_false,aJ,dY,asL,aj,aX];exact AP.fO aC
      |true=>
       have hlt':=dI h24 (by decide);simp only[zaT,aX,aJ];have hb:M.iH (M.jR (m2+3)) (M.kU (m2+3)) (.inl (dN false L,false,ay l,(j:Int),false,false,b,0,0,[],[],false,0,0,[],[],false,encS ZG))=(M.bJ (ay l) ((j+1:Nat):Int) false (encS ZG)).bind λr=>some (.inl (.inr (.inl (q2 false b r.2.1 r.2.2.1 r.2.2.2.1 13 0 r.1 [] (dN false L) false r.2.2.2.2)))):=by simp only[M.iH,M.mJ,q2,Bool.not_false,aJ,dY,fG,aj,h24,pX hl hlt',dR];rw[bC hlong,aJ]
       show AP l ((M.jo (M.jR (m2+3)) (M.kU (m2+3)) (.inl (dN false L,false,ay l,(j:Int),false,false,b,0,0,[],[],false,0,0,[],[],false,encS ZG))).bind inF) ((nameP l (j+1) ZG).bind λs i nt=>inP l (n1+1) false (Tn.mk 13 0 s [] L,false) i nt);rw[M.jo];cases h6:bG l (j+1)==6 with
       |false=>
        have hnm:M.bJ (ay l) ((j+1:Nat):Int) false (encS ZG)=some ([],ay l,((j+1:Nat):Int),true,encS ZG):=by simp only[M.bJ,M.jl,dY,aJ,aX,fG,aj,bne,h6,Bool.not_false]
        rw[hnm,aj] at hb;rw[aZ hb,show gU _ _=_ from aO rfl,aj,nameP,h6];exact⟨_,_,_,_,_,_,_,_,(show ZG.length<=l.length by omega),aC9 (l:=l) _ _ _ _ _ _ _ _ _ _ _⟩
       |true=>
        have h2:=dI h6 (by decide);have hnm:M.bJ (ay l) ((j+1:Nat):Int) false (encS ZG)=some (CG l (j+1),ay l,((j+1+1:Nat):Int),false,encS ZG):=by simp only[M.bJ,M.jl,dY,aJ,aX,fG,aj,bne,h6,zaT,NT hl h2]
        rw[hnm,aj] at hb;rw[aZ hb,nameP,h6];exact in2 hl (n1+1) (.mk 13 0 (CG l (j+1)) [] L,false) (j+1+1) ZG _ aC aC (jf _ _)
end
def ri(hl:l.length<=1048576):∀N n,n<=N->∀m,4 * n+30<=m->RI l n m:=by
 intro N;induction N with
 |zero=>intro n hn m hm;obtain rfl:n=0:=aC;exact⟨λ_ _ _ _ _ _=>by rw[ex];trivial,λ_ _ _ _ _ _=>by rw[ex];trivial,λ_ _ _ _ _ _=>by rw[ex];trivial,λ_ _ _ _ _ _=>by rw[ex];trivial,λ_ _ _ _ _ _=>by rw[ex];trivial,λ_ _ _ _ _ _=>by rw[ex];trivial,λ_ _ _ _ _ _=>by rw[ex];trivial,λ_ _ _ _ _ _=>by rw[ex];trivial,λ_ _ _ _ _ _=>by rw[ex];trivial,λ_ _ _ _ _ _=>by rw[ex];trivial,λ_ _ _ _ _ _=>by rw[ex];trivial,λ_ _ _ _ _ _=>by rw[ex];trivial,λ_ _ _ _ _ _=>by rw[ex];trivial,λ_ _ _ _ _ _=>by rw[ex];trivial,λ_ _ _ _ _ _=>by rw[ex];trivial,λ_ _ _ _=>by rw[XD];trivial,λ_ _ _ _ _ _=>by rw[PK];trivial⟩
 |succ N ih=>
  intro n hn m hm;cases n with
  |zero=>exact ih 0 aC m hm
  |succ n=>
   cases m with
   |zero=>omega
   |succ m=>
    have H:∀n',n'<=n->∀m',4 * n'+30<=m'->RI l n' m':=λn' h=>ih n' aC
    exact⟨aQ9 hl H hm,aRa hl H hm,aRb hl H hm,aRc hl H hm,aRh hl H hm,aRf hl H hm,aRg hl H hm,aRd hl H hm,aRe hl H hm,aGF hl H hm,aGG hl H hm,aGH hl H hm,aGI hl H hm,aGJ hl H hm,aGM hl H hm,aGL hl H hm,aGK hl H hm⟩
def RI.of(hl:l.length<=1048576)(n:Nat){m:Nat}(hm:4 * n+30<=m):RI l n m:=ri hl n n (zaU _) m hm
variable {l:List Tk}
def AT.EN{β:Type}{o:Option TT}{j:Nat}(h:AT l o (.bad j)){f:TT->Option β}{R:Option β->Prop}
  (hb:∀k op x y fl ks nt,nt.length<=l.length->R (f (k,op,x,y,fl,ks,ay l,(j:Int),true,encS nt))):R (o.bind f):=by
 obtain⟨k,op,x,y,fl,ks,nt,h1,rfl⟩:=h;exact hb k op x y fl ks nt h1
def AT.fO{k op:Int}{x y:aK}{fl:Bool}{ks:ak}{j:Nat}{nt:gW}(hn:nt.length<=l.length):AT l (some (k,op,x,y,fl,ks,ay l,(j:Int),true,encS nt)) (.bad j):=⟨_,_,_,_,_,_,_,hn,rfl⟩
def AT.mk{x:Tn}{k op:Int}{s s':aK}{fl:Bool}{ks:ak}{j:Nat}{nt:gW}(h1:k=x.kind)(h2:op=x.op)(h3:s=x.text)(h4:s'=x.other)(h5:au ks=dN false x.kids):
  AT l (some (k,op,s,s',fl,ks,ay l,(j:Int),false,encS nt)) (.ok x j nt):=by
 subst h1 h2 h3 h4;exact⟨_,_,h5,rfl⟩
def AL.EN{β:Type}{o:Option TL}{j:Nat}(h:AL l o (.bad j)){f:TL->Option β}{R:Option β->Prop}
  (hb:∀fl ks nt,nt.length<=l.length->R (f (fl,ks,ay l,(j:Int),true,encS nt))):R (o.bind f):=by
 obtain⟨fl,ks,nt,h1,rfl⟩:=h;exact hb fl ks nt h1
def AP.lim{o o':Option TP}{p:PR Xp}(h:AP l o p)(hof:∀r,o=some r->o'=some r):AP l o' p:=by
 cases p with
 |ok x j nt=>obtain⟨fl,ks,h1,h2⟩:=h;exact⟨fl,ks,h1,hof _ h2⟩
 |bad j=>obtain⟨k,op,x,y,fl,ks,tg,nt,h1,h2⟩:=h;exact⟨k,op,x,y,fl,ks,tg,nt,h1,hof _ h2⟩
 |out=>trivial
def AT.lim{o o':Option TT}{p:PR Tn}(h:AT l o p)(hof:∀r,o=some r->o'=some r):AT l o' p:=by
 cases p with
 |ok x j nt=>obtain⟨fl,ks,h1,h2⟩:=h;exact⟨fl,ks,h1,hof _ h2⟩
 |bad j=>obtain⟨k,op,x,y,fl,ks,nt,h1,h2⟩:=h;exact⟨k,op,x,y,fl,ks,nt,h1,hof _ h2⟩
 |out=>trivial
def AL.lim{o o':Option TL}{p:PR (List Tn)}(h:AL l o p)(hof:∀r,o=some r->o'=some r):AL l o' p:=by
 cases p with
 |ok x j nt=>obtain⟨fl,h2⟩:=h;exact⟨fl,hof _ h2⟩
 |bad j=>obtain⟨fl,ks,nt,h1,h2⟩:=h;exact⟨fl,ks,nt,h1,hof _ h2⟩
 |out=>trivial
section
variable (hl:l.length<=1048576)
include hl
theorem akN(n:Nat)(a b:Bool){i:Nat}{nt:gW}(hi:i<=l.length)(hn:nt.length<=i):AP l (M.cZ a b (ay l) (i:Int) false (encS nt)) (ex l n 1 a b i nt):=
 AP.lim ((RI.of hl n (zaU _)).e1 a b i nt hi hn) λr h=>M.Rz h
theorem aRi(n:Nat)(a b:Bool){i:Nat}{nt:gW}(hi:i<=l.length)(hn:nt.length<=i):AP l (M.kH a b (ay l) (i:Int) false (encS nt)) (ex l n 9 a b i nt):=
 AP.lim ((RI.of hl n (zaU _)).e9 a b i nt hi hn) λr h=>M.aeE h
theorem aRj(n:Nat)(a b:Bool){i:Nat}{nt:gW}(hi:i<=l.length)(hn:nt.length<=i):AL l (M.jk a b (ay l) (i:Int) false (encS nt)) (PK l n a b [] i nt):=
 AL.lim ((RI.of hl n (zaU _)).its a b i nt hi hn) λr h=>M.aa5 h
theorem aGN(n:Nat){i:Nat}{nt:gW}(hi:i<=l.length)(hn:nt.length<=i):AL l (M.jA 35 (ay l) (i:Int) false (encS nt)) ((PK l n false false [] i nt).bind λL i nt=>(jD l 35 i nt).bind λ_ i nt=> .ok L i nt):=
 AL.lim (az8 hl ((RI.of hl n (zaU _)).its false false i nt hi hn) hi hn) λr h=>M.acj h
end
def aAc(a b:Bool){i:Nat}{nt:gW}(hn:nt.length<=l.length):AP l (M.cZ a b (ay l) (i:Int) true (encS nt)) (.bad i):=
 AP.lim (asM 0 hn) λr h=>M.Rz h
def aGO(b:Bool)(c:ak)(c1:Int)(c3:ak)(hf:ah c3=true):M.lG 9 false false false false c c1 b c3=(M.kH false false c c1 b c3).bind λr=>bif ah r.2.2.2.2.2.2.2.2.2.2 then some (r.1,r.2.1,r.2.2.1,r.2.2.2.1,false,au r.2.2.2.2.2.1,r.2.2.2.2.2.2.1,r.2.2.2.2.2.2.2.1,r.2.2.2.2.2.2.2.2.1,r.2.2.2.2.2.2.2.2.2.1,r.2.2.2.2.2.2.2.2.2.2) else none:=by simp only[M.lG,M.GV,M.bn,aX,hf,aJ];rfl
def aui(hl:l.length<=1048576)(n:Nat){i:Nat}{nt:gW}(hi:i<=l.length)(hn:nt.length<=i):AP l (M.lG 9 false false false false (ay l) (i:Int) false (encS nt)) (ex l n 9 false false i nt):=by rw[aGO _ _ _ _ (dY nt)];exact AP.pass (aRi hl n false false hi hn) (by intros;simp only[dY,aJ])
def asN(i:Nat)(nt:gW):M.jB (ay l) (i:Int) false (encS nt)=some (ay l,(i:Int), !(Ip (bG l i)),encS nt):=by simp only[M.jB,M.Jq,dY,aJ,fG,aj,aoc];cases Ip (bG l i)<;>rfl
def aAd{k op:Int}{s s':aK}{fl:Bool}{ks:ak}{x:Tn}{j:Nat}{nt:gW}(h1:k=x.kind)(h2:op=x.op)(h3:s=x.text)(h4:s'=x.other)(h5:au ks=dN false x.kids)(hn:nt.length<=l.length):
  AT l (some (k,op,s,s',fl,ks,ay l,(j:Int), !(Ip (bG l j)),encS nt)) (endP l x j nt):=by
 rw[endP];cases Ip (bG l j) with
 |true=>exact AT.mk h1 h2 h3 h4 h5
 |false=>exact AT.fO hn
def aAe{i:Nat}{nt:gW}(hn:nt.length<=l.length):AT l (M.iO (ay l) (i:Int) true (encS nt)) (.bad i):=by
 simp only[M.iO,M.wP,dY,aJ,wV,aj];refine AP.EN (R:=λo=>AT l o (.bad i)) (aAc false false hn) λk op x y fl ks tg nt hn=> ?_
 simp only[dY,aJ,wV,aj];exact AT.fO hn
def asO(hl:l.length<=1048576)(n:Nat){i:Nat}{nt:gW}(hi:i<=l.length)(hn:nt.length<=i):AT l (M.iO (ay l) (i:Int) false (encS nt)) (U4 l n i nt):=by
 simp only[M.iO,M.wP,dY,aJ,U4];refine NU (R:=AT l) hl (by decide) ?_ (λ_ hlt=> ?_)
 ·simp only[dY,aJ];refine AP.EN (R:=λo=>AT l o (.bad i)) (aAc false false aC) λk op x y fl ks tg nt hn=> ?_
  simp only[dY,aJ,wV,aj];exact AT.fO hn
 ·simp only[dY,aJ];refine AP.elim (R:=AT l) (akN hl n false false aC aC) (λ_=>trivial) (λk op x y fl ks tg j nt hn=> ?_) (λx fl ks j nt hk he=> ?_)
  ·simp only[aJ,dY,wV,aj];exact AT.fO hn
  ·have hs:=iM (IU aC aC aC) he;simp only[dY,aJ];refine NU (R:=AT l) hl (by decide) ?_ (λ_ hlt=> ?_)
   ·simp only[dY,aJ];exact AT.fO aC
   ·simp only[dY,aJ];exact AT.mk rfl rfl rfl rfl (Og hk)
def Vo(e:Int)(a b:Bool){i:Nat}{nt:gW}(hn:nt.length<=l.length):AT l (M.fP e a b (ay l) (i:Int) true (encS nt)) (.bad i):=by
 simp only[M.fP,M.Ci,dY,aJ,fG,aj];cases bG l i==e with
 |true=>exact AT.fO hn
 |false=>
  simp only[aX];refine AP.EN (R:=λo=>AT l o (.bad i)) (aAc a b hn) λk op x y fl ks tg nt hn=> ?_
  simp only[dY,aJ];exact AT.fO hn
def aoj(hl:l.length<=1048576)(n:Nat)(e:Int)(a:Bool){i:Nat}{nt:gW}(hi:i<=l.length)(hn:nt.length<=i):AT l (M.fP e a false (ay l) (i:Int) false (encS nt)) (JB l n e a i nt):=by
 simp only[M.fP,M.Ci,dY,aJ,fG,aj,JB];cases bG l i==e with
 |true=>exact AT.mk rfl rfl rfl rfl rfl
 |false=>
  simp only[aX];refine AP.elim (R:=AT l) (akN hl n a false hi hn) (λ_=>trivial) (λk op x y fl ks tg j nt hn=> ?_) (λx fl ks j nt hk he=> ?_)
  ·simp only[dY,aJ];exact AT.fO hn
  ·simp only[dY,aJ];exact AT.mk rfl rfl rfl rfl (Og hk)
def auj{i:Nat}(h:bG l i=0\/bG l i=31)(nt:gW):∀lv,1<=lv->lv<=15->∀n a b,16 - lv<=n->ex l n lv a b i nt=.bad i:=by
 have hz:∀k:Int,k≠0->k≠31->(bG l i==k)=false:=λk h0 h1=>by rw[Y6];rcases h with h|h<;>rw[h]<;>omega
 have hst:isStep (bG l i)=false:=by simp only[isStep,hz 51 (by decide) (by decide),hz 52 (by decide) (by decide),Bool.or_self]
 have:∀d lv,15 - lv=d->1<=lv->lv<=15->∀n a b,16 - lv<=n->ex l n lv a b i nt=.bad i:=by
  intro d;induction d with
  |zero=>
   intro lv hd h1 h2 n a b hn;obtain rfl:lv=15:=aC;obtain⟨n,rfl⟩:∃m,n=m+1:=⟨n - 1,aC⟩
   simp only[ex,hz 3 (by decide) (by decide),hz 4 (by decide) (by decide),hz 5 (by decide) (by decide),hz 6 (by decide) (by decide),hz 7 (by decide) (by decide),hz 8 (by decide) (by decide),hz 32 (by decide) (by decide),aX,Bool.or_self]
  |succ d ih=>
   intro lv hd h1 h2 n a b hn;obtain⟨n,rfl⟩:∃m,n=m+1:=⟨n - 1,aC⟩
   have hr:=ih (lv+1) aC aC aC n a b aC;have hc:lv=1\/lv=2\/lv=3\/lv=4\/lv=5\/lv=6\/lv=7\/lv=8\/lv=9\/lv=10\/lv=11\/lv=12\/lv=13\/lv=14:=aC;rcases hc with rfl|rfl|rfl|rfl|rfl|rfl|rfl|rfl|rfl|rfl|rfl|rfl|rfl|rfl<;>simp only[ex]<;>
    simp only[hz 32 (by decide) (by decide),hz 55 (by decide) (by decide),hz 56 (by decide) (by decide),hz 61 (by decide) (by decide),hz 68 (by decide) (by decide),hst,Bool.false_and,Bool.or_self,aX,hr]<;>rfl
 exact λlv=>this _ lv rfl
variable {l:List Tk}
section
variable (hl:l.length<=1048576) (n:Nat) {i:Nat} {nt:gW} (hi:i<l.length) (hn:nt.length<=i)
include hl hi hn
theorem aAf(k:Int):AT l (bif !(Ip (bG l (i+1))) then(M.cZ false false (ay l) ((i+1:Nat):Int) false (encS nt)).bind λr=>bif ah r.2.2.2.2.2.2.2.2.2.2 then
   some (k,0,[],[],true,[[D.int .i64 r.1,D.int .i64 r.2.1,D.str r.2.2.1,D.str r.2.2.2.1,D.sl false 5 (au r.2.2.2.2.2.1)]],r.2.2.2.2.2.2.2.1,r.2.2.2.2.2.2.2.2.1,r.2.2.2.2.2.2.2.2.2.1,r.2.2.2.2.2.2.2.2.2.2) else none
  else some (k,0,[],[],true,[],ay l,((i+1:Nat):Int),false,encS nt)) (Zq l n k i nt):=by
 rw[Zq];cases Ip (bG l (i+1)) with
 |true=>exact AT.mk rfl rfl rfl rfl rfl
 |false=>
  simp only[Bool.not_false,aJ,aX];refine AP.elim (R:=AT l) (akN hl n false false aC aC) (λ_=>trivial) (λk op x y fl ks tg j nt hn=> ?_) (λx fl ks j nt hk he=> ?_)
  ·simp only[dY,aJ];exact AT.fO hn
  ·simp only[dY,aJ];exact AT.mk rfl rfl rfl rfl (fz1 (Og hk))
theorem aRk:AT l ((M.bJ (ay l) ((i+1:Nat):Int) false (encS nt)).bind λUj=>
  bif !Uj.2.2.2.1 then
   (bif ah Uj.2.2.2.2 then
   ((M.aG Uj.2.1 Uj.2.2.1 Uj.2.2.2.1 Uj.2.2.2.2).bind λZv=>
    (bif Zv.1==34 then
    (bif ah Zv.2.2.2.2 then
     ((M.jA 35 Zv.2.1 (i64.wrap (Zv.2.2.1+1)) Zv.2.2.2.1 Zv.2.2.2.2).bind λagz=>
     (bif ah agz.2.2.2.2.2 then
      some (27,0,Uj.1,[],false,au agz.2.1,agz.2.2.1,agz.2.2.2.1,agz.2.2.2.2.1,agz.2.2.2.2.2) else none)) else none) else
    (bif ah Zv.2.2.2.2 then
     some (27,0,Uj.1,[],true,[],Zv.2.1,Zv.2.2.1,Zv.2.2.2.1,Zv.2.2.2.2) else none))) else none) else
   (bif ah Uj.2.2.2.2 then
   some (27,0,Uj.1,[],true,[],Uj.2.1,Uj.2.2.1,Uj.2.2.2.1,Uj.2.2.2.2) else none)) (akG l n i nt):=by
 rw[akG];refine az1 (R:=AT l) hl ?_ (λ_ hlt=> ?_)
 ·simp only[zaT,aX,dY,aJ];exact AT.fO aC
 ·simp only[Bool.not_false,aJ,dY,fG,aj];cases hc:bG l (i+1+1)==34 with
  |false=>exact AT.mk rfl rfl rfl rfl rfl
  |true=>
   have hlt':=dI hc (by decide);simp only[aJ,pX hl hlt'];have e:(PK l n false false [] (i+1+1+1) nt).bind (λL i_1 nt=>(jD l 35 i_1 nt).bind λ_ i_2 nt=>PR.ok (Tn.mk 27 0 (CG l (i+1)) [] L) i_2 nt)=
     ((PK l n false false [] (i+1+1+1) nt).bind λL i nt=>(jD l 35 i nt).bind λ_ i nt=> .ok L i nt).bind λL j nt=> .ok (Tn.mk 27 0 (CG l (i+1)) [] L) j nt:=by
    cases PK l n false false [] (i+1+1+1) nt with
    |ok L j m=>simp only[PR.bind];cases jD l 35 j m<;>rfl
    |bad j=>rfl
    |out=>rfl
   rw[e];refine AL.elim (R:=AT l) (aGN hl n aC aC) (λ_=>trivial) (λfl ks j nt hn=> ?_) (λL fl j nt he=> ?_)
   ·simp only[dY,aJ];exact AT.fO hn
   ·simp only[dY,aJ,jf];exact AT.mk rfl rfl rfl rfl (jf _ _)
end
def aRl(hl:l.length<=1048576)(n:Nat){i:Nat}{nt:gW}(hi:i<=l.length)(hn:nt.length<=i)
  (hp:∀k,k=bG l i->(k=25\/k=26)->AT l (M.pJ k (ay l) ((i+1:Nat):Int) false (encS nt)) (afO l n i nt)):
  AT l (M.nS (ay l) (i:Int) false (encS nt)) (aic l n i nt):=by
 simp only[M.nS,M.AU,M.yQ,M.yR,M.yS,M.yT,M.yU,M.yV,dY,aJ,fG,aj,aic];cases h25:bG l i==25 with
 |true=>
  have hlt:=dI h25 (by decide);have e:bG l i=25:=by rwa [beq_iff_eq] at h25
  simp only[aJ,Bool.true_or,pX hl hlt];exact AT.pass (hp _ rfl (.inl e)) (by intros;simp only[dY,aJ])
 |false=>
 cases h26:bG l i==26 with
 |true=>
  have hlt:=dI h26 (by decide);have e:bG l i=26:=by rwa [beq_iff_eq] at h26
  simp only[aJ,aX,Bool.or_true,pX hl hlt];exact AT.pass (hp _ rfl (.inr e)) (by intros;simp only[dY,aJ])
 |false=>
 simp only[aX,Bool.or_self];cases h20:bG l i==20 with
 |true=>
  have hlt:=dI h20 (by decide);have e:bG l i=20:=by rwa [beq_iff_eq] at h20
  have n1:(bG l i==21)=false:=by rw[e];rfl
  have n2:(bG l i==22)=false:=by rw[e];rfl
  simp only[n1,n2,aJ,aX,pX hl hlt];exact AT.mk rfl rfl rfl rfl rfl
 |false=>
 cases h18:bG l i==18 with
 |true=>
  have hlt:=dI h18 (by decide);have e:bG l i=18:=by rwa [beq_iff_eq] at h18
  have n1:(bG l i==21)=false:=by rw[e];rfl
  have n2:(bG l i==22)=false:=by rw[e];rfl
  simp only[n1,n2,aJ,aX,pX hl hlt];exact AT.mk rfl rfl rfl rfl rfl
 |false=>
 cases h19:bG l i==19 with
 |true=>
  have hlt:=dI h19 (by decide);have e:bG l i=19:=by rwa [beq_iff_eq] at h19
  have n1:(bG l i==21)=false:=by rw[e];rfl
  have n2:(bG l i==22)=false:=by rw[e];rfl
  simp only[n1,n2,aJ,aX,pX hl hlt];exact AT.mk rfl rfl rfl rfl rfl
 |false=>
 cases h21:bG l i==21 with
 |true=>have hlt:=dI h21 (by decide);simp only[aJ,aX,pX hl hlt,fG,aj,aoc,dY];exact aAf hl n hlt hn 23
 |false=>
 cases h22:bG l i==22 with
 |true=>have hlt:=dI h22 (by decide);simp only[aJ,aX,pX hl hlt,fG,aj,aoc,dY];exact aAf hl n hlt hn 24
 |false=>
 cases h23:bG l i==23 with
 |true=>have hlt:=dI h23 (by decide);simp only[aJ,aX,pX hl hlt];exact aRk hl n hlt hn
 |false=>
  simp only[aX];refine AP.elim (R:=AT l) (akN hl n false false hi hn) (λ_=>trivial) (λk op x y fl ks tg j nt hn=> ?_) (λx fl ks j nt hk he=> ?_)
  ·simp only[dY,aJ];exact AT.fO hn
  ·simp only[dY,aJ];exact AT.mk rfl rfl rfl rfl (fz1 (Og hk))
variable {l:List Tk}
def ALt(l:List Tk)(o:Option TL):PR (List Tn)->Prop
 | .ok L j nt=>o=some (true,dN false L,ay l,(j:Int),false,encS nt)
 | .bad j=>∃ks nt,nt.length<=l.length/\o=some (true,ks,ay l,(j:Int),true,encS nt)
 | .out=>True
def AL.own{o:Option TL}{p:PR (List Tn)}(h:AL l o p)(ho:∀r,o=some r->r.1=true):ALt l o p:=by
 cases p with
 |ok L j nt=>obtain⟨fl,e⟩:=h;have:=ho _ e;simp only at this;subst this;exact e
 |bad j=>obtain⟨fl,ks,nt,h1,e⟩:=h;have:=ho _ e;simp only at this;subst this;exact⟨ks,nt,h1,e⟩
 |out=>trivial
def ALt.elim{β γ:Type}{R:Option β->PR γ->Prop}{o:Option TL}{p:PR (List Tn)}(h:ALt l o p){f:TL->Option β}{g:List Tn->Nat->gW->PR γ}(hout:∀o,R o .out)
  (hbad:∀ks j nt,nt.length<=l.length->R (f (true,ks,ay l,((j:Nat):Int),true,encS nt)) (.bad j))
  (hok:∀L j nt,p=.ok L j nt->R (f (true,dN false L,ay l,(j:Int),false,encS nt)) (g L j nt)):R (o.bind f) (p.bind g):=by
 cases p with
 |ok L j nt=>have h':o=_:=h;rw[h',aj];exact hok L j nt rfl
 |bad j=>obtain⟨ks,nt,h1,rfl⟩:=h;exact hbad ks j nt h1
 |out=>exact hout _
def aDc{b:Bool}{x r:TL}(hx:x.1=true)(h:(bif b then some x else none)=some r):r.1=true:=by
 cases b with
 |true=>cases h;exact hx
 |false=>cases h
def awo{rec:Bool->Bool->ak->Int->Bool->ak->Option TP}{a b:Bool}{c:ak}{c1:Int}{c2:Bool}{c3:ak}{r:TL}(h:M.tZ rec a b c c1 c2 c3 some=some r):r.1=true:=by
 simp only[M.tZ] at h;cases hu:M.wI rec a b (c,c1,c2,[],c3) with
 |none=>rw[hu] at h;cases h
 |some u=>rw[hu,aj] at h;rcases u with t|t|t<;>simp only[jg,letE] at h<;>exact aDc rfl h
def aDd{a b:Bool}{c:ak}{c1:Int}{c2:Bool}{c3:ak}{r:TL}(h:M.jk a b c c1 c2 c3=some r):r.1=true:=by
 obtain⟨n,hn⟩:=VJ h;cases n with
 |zero=>cases hn
 |succ n=>exact awo hn
def aEx(hl:l.length<=1048576)(n:Nat)(a b:Bool){i:Nat}{nt:gW}(hi:i<=l.length)(hn:nt.length<=i):ALt l (M.jk a b (ay l) (i:Int) false (encS nt)) (PK l n a b [] i nt):=
 (aRj hl n a b hi hn).own λr h=>aDd h
def cOw(rows:ak):aoC 5 [D.sl true 5 rows] 0=some rows:=rfl
def abK{a b:Bool}:∀(n:Nat) (L:List Tn) (i:Nat) (nt:gW),L.length<6->(PK l n a b L i nt).sat λL' _ _=>L'.length<=6
 |0,_,_,_,_=>by rw[PK];trivial
 |n+1,L,i,nt,hL=>by
  rw[PK,eU];refine bK aqX λx j m _=> ?_
  rw[fJ];refine⟨λ_=> ?_,λ_=> ?_⟩
  ·rw[fJ];refine⟨λ_=>trivial,λh=> ?_⟩;have:=Nat.ne_of_beq_eq_false h;exact abK n _ _ _ (by rw[DJ,Bd];omega)
  ·show(L++[x.1]).length<=6;rw[DJ,Bd];omega
section
variable (hl:l.length<=1048576) (n:Nat) (kd:Int)
include hl
theorem aqZ{L:List Tn}{j:Nat}{nt:gW}(hj:j<=l.length)(hn:nt.length<=j)(hL:L.length<=6):
  AT l (bif zQ (bG l j) then(M.fU (ay l) (j:Int) false (encS nt)).bind λzq=>
       (bif ah zq.2.2.2.2 then
       ((M.lG 9 false false false false zq.2.1 zq.2.2.1 zq.2.2.2.1 zq.2.2.2.2).bind λJR=>
        (bif(((dN false L).length+[[D.int .i64 JR.1,D.int .i64 JR.2.1,D.str JR.2.2.1,D.str JR.2.2.2.1,D.sl false 5 (au JR.2.2.2.2.2.1)]].length) * 72).ble 140737488355328 then
        (bif((dN false L).length+[[D.int .i64 JR.1,D.int .i64 JR.2.1,D.str JR.2.2.1,D.str JR.2.2.2.1,D.sl false 5 (au JR.2.2.2.2.2.1)]].length).ble 140737488355328 then
         (bif ah JR.2.2.2.2.2.2.2.2.2.2 then
         some (21,kd,[],zq.1,true,dN false L++[[D.int .i64 JR.1,D.int .i64 JR.2.1,D.str JR.2.2.1,D.str JR.2.2.2.1,D.sl false 5 (au JR.2.2.2.2.2.1)]],JR.2.2.2.2.2.2.2.1,JR.2.2.2.2.2.2.2.2.1,JR.2.2.2.2.2.2.2.2.2.1,JR.2.2.2.2.2.2.2.2.2.2) else none) else none) else none)) else none)
    else some (21,kd,[],[],true,dN false L,ay l,(j:Int),false,encS nt))
   (bif zQ (bG l j) then(ex l n 9 false false (j+1) nt).bind λx k nt=> .ok (.mk 21 kd [] (CG l j) (L++[x.1])) k nt else .ok (.mk 21 kd [] [] L) j nt):=by
 cases hs:zQ (bG l j) with
 |false=>exact AT.mk rfl rfl rfl rfl (jf _ _)
 |true=>
  have hlt:=eP (abJ hs);simp only[aJ,NT hl hlt,aj,dY];refine AP.elim (R:=AT l) (aui hl n aC aC) (λ_=>trivial) (λk op x y fl ks tg j nt hn=> ?_) (λx fl ks j nt hk he=> ?_)
  ·simp only[dR,Bd,dY,aJ];rw[bC aC,aJ,bC aC,aJ];exact AT.fO hn
  ·simp only[dR,Bd,dY,aJ,afQ hk];rw[bC aC,aJ,bC aC,aJ];exact AT.mk rfl rfl rfl rfl (jf _ _)
theorem aq0{j:Nat}{nt:gW}(hj:j<=l.length)(hn:nt.length<=j):
  AT l (bif zQ (bG l j) then(M.fU (ay l) (j:Int) false (encS nt)).bind λzq=>
       (bif ah zq.2.2.2.2 then
       ((M.lG 9 false false false false zq.2.1 zq.2.2.1 zq.2.2.2.1 zq.2.2.2.2).bind λJR=>
         (bif ah JR.2.2.2.2.2.2.2.2.2.2 then
         some (21,kd,[],zq.1,true,[[D.int .i64 JR.1,D.int .i64 JR.2.1,D.str JR.2.2.1,D.str JR.2.2.2.1,D.sl false 5 (au JR.2.2.2.2.2.1)]],JR.2.2.2.2.2.2.2.1,JR.2.2.2.2.2.2.2.2.1,JR.2.2.2.2.2.2.2.2.2.1,JR.2.2.2.2.2.2.2.2.2.2) else none)) else none)
    else some (21,kd,[],[],true,[],ay l,(j:Int),false,encS nt))
   (bif zQ (bG l j) then(ex l n 9 false false (j+1) nt).bind λx k nt=> .ok (.mk 21 kd [] (CG l j) ([]++[x.1])) k nt else .ok (.mk 21 kd [] [] []) j nt):=by
 cases hs:zQ (bG l j) with
 |false=>exact AT.mk rfl rfl rfl rfl rfl
 |true=>
  have hlt:=eP (abJ hs);simp only[aJ,NT hl hlt,aj,dY];refine AP.elim (R:=AT l) (aui hl n aC aC) (λ_=>trivial) (λk op x y fl ks tg j nt hn=> ?_) (λx fl ks j nt hk he=> ?_)
  ·simp only[dY,aJ];exact AT.fO hn
  ·simp only[dY,aJ];exact AT.mk rfl rfl rfl rfl (fz1 (Og hk))
end
def aRm(hl:l.length<=1048576)(n:Nat){i:Nat}{nt:gW}(hi:i<l.length)(hn:nt.length<=i)(k:Int)(hk:k=bG l i)(h:k=25\/k=26):
  AT l (M.pJ k (ay l) ((i+1:Nat):Int) false (encS nt)) (afO l n i nt):=by
 rcases h with rfl|rfl
 ·have w0:i64.wrap ((25:Int) - 25)=0:=rfl;have w1:((0:Int)==1)=false:=rfl;have w2:((25:Int)==26)=false:=rfl;have w3:(25:Int) - 25=0:=rfl;simp only[M.pJ,M.Cj,M.AA,M.AO,w0,w1,aX,dY,aJ,fG,aj,aoc,afO,<-hk,w2,w3,Bool.false_or];cases hE:Ip (bG l (i+1)) with
  |true=>simp only[zaT,Bool.not_false,aJ,aX,Bool.true_or,aiG,aj,dY];exact aq0 hl n 0 aC aC
  |false=>
   simp only[Bool.not_false,aJ,aiG,aj,Bool.false_or];cases hS:zQ (bG l (i+1)) with
   |true=>simp only[zaT,Bool.not_false,aJ,aX,dY];have:=aq0 hl n 0 (j:=i+1) (nt:=nt) aC aC;rw[hS,aJ,aJ] at this;show AT l _ (bif zQ (bG l (i+1)) then _ else _);rw[hS,aJ];exact this
   |false=>
    simp only[Bool.not_false,aJ,dY];refine ALt.elim (R:=AT l) (aEx hl n false true aC aC) (λ_=>trivial) (λks j nt hn=> ?_) (λL j nt he=> ?_)
    ·simp only[cOw,aj,zaT,aX,dY,aJ];exact AT.fO hn
    ·have hs:=iM (adS aC) he;have hs6:=iM (abK n [] _ _ (by decide)) he;simp only[cOw,aj,Bool.not_false,aJ,dY,fG,aiG];exact aqZ hl n 0 aC aC hs6
 ·have w0:i64.wrap ((26:Int) - 25)=1:=rfl;have w3:(26:Int) - 25=1:=rfl;simp only[M.pJ,M.Cj,M.AA,M.AO,w0,BEq.rfl,dY,aJ,afO,<-hk,w3,Bool.true_or];refine ALt.elim (R:=AT l) (aEx hl n false true aC aC) (λ_=>trivial) (λks j nt hn=> ?_) (λL j nt he=> ?_)
  ·simp only[cOw,aj,zaT,aX,dY,aJ];exact AT.fO hn
  ·have hs:=iM (adS aC) he;have hs6:=iM (abK n [] _ _ (by decide)) he;simp only[cOw,aj,Bool.not_false,aJ,dY,fG,aiG];exact aqZ hl n 1 aC aC hs6
variable {l:List Tk}
def KB(P:List (List Nd)):Prop:=∀R,R∈P->∀n,n∈R->n.kids.length<=100000
def KB.nil:KB []:=λR h=>by cases h
def KB.cons{R:List Nd}{P:List (List Nd)}(h:∀n,n∈R->n.kids.length<=100000)(hP:KB P):KB (R::P):=by
 intro Q hQ;rcases List.mem_cons.1 hQ with rfl|hQ
 ·exact h
 ·exact hP Q hQ
def Yp(t:Tn)(h:t.size<=100000):∀n,n∈t.flat 0->n.kids.length<=100000:=(RB.tree t h).2
def KB.tree{t:Tn}{P:List (List Nd)}(h:t.size<=100000)(hP:KB P):KB (t.flat 0::P):=KB.cons (Yp t h) hP
def KB.none{P:List (List Nd)}(hP:KB P):KB ([]::P):=KB.cons (λn h=>by cases h) hP
def KB.trees{P:List (List Nd)}:∀ts:List Tn,sizes ts<=100000->KB P->KB ((ts.map λt=>t.flat 0)++P)
 |[],_,hP=>hP
 |t::ts,h,hP=>by rw[sizes] at h;exact KB.tree aC (KB.trees ts aC hP)
def pq:∀ts:List Tn,lens (ts.map λt=>t.flat 0)=sizes ts
 |[]=>rfl
 |t::ts=>by rw[zmc,lens,sizes,t.flat_length,pq ts]
def agS(k op:Int)(x y:aK)(kr:ak){P:List (List Nd)}{b:Nat}(hb:lens P<=b)(hl:b<=90000)(hn:P.length<=100000)(hk:KB P):
  ∃R',M.dV k op x y kr (uy P)=some (false,aU false R',false)/\RB R' (b+1):=by
 obtain⟨R',h1,h2,h3⟩:=aqU k op x y kr P aC hn hk;exact⟨R',h1,aC,h3⟩
def aeO(k op:Int)(x y:aK)(kr:ak){P:List (List Nd)}{b:Nat}(hb:lens P<=b)(hl:b<=90000)(hn:P.length<=100000)(hk:KB P):
  ∃R',M.bU k op x y kr (uy P)=some (aU true R')/\RB R' (b+1):=by
 obtain⟨R',h1,h2,h3⟩:=aqT k op x y kr P aC hn hk;exact⟨R',h1,aC,h3⟩
def rD(L:List Tn):(parts L).length=L.length:=by simp[parts]
def aAg(P:List (List Nd)):(uy P).length=P.length:=by simp[uy]
def JD{L:List Tn}{x:Tn}{rows:ak}(h:au rows=aU false (x.flat 0)):parts L++[[D.sl false 5 (au rows)]]=parts (L++[x]):=by rw[h];simp[parts]
def PL{L:List Tn}{R:List Nd}{rows:ak}(h:au rows=aU false R):parts L++[[D.sl false 5 (au rows)]]=uy ((L.map λt=>t.flat 0)++[R]):=by rw[h];simp[parts,uy]
def aAh(m:Nat)(p:Int)(p1 p2 p3 p4:Bool)(i:Nat)(ns:List Tk):M.bH (m+1) p p1 p2 p3 p4 (ay l) (i:Int) true (ay ns)=some (true,[],false,ay l,(i:Int),true,ay ns):=by rw[M.oG];simp only[M.jU,M.fD,aJ,bg]
def aRn(n:Nat)(a b a' b':Bool)(i:Nat)(nt:gW):ex l n 15 a b i nt=ex l n 15 a' b' i nt:=by
 cases n with
 |zero=>simp only[ex]
 |succ n=>simp only[ex]
def aEy(a b a' b':Bool):∀(n:Nat) (i:Nat) (nt:gW),ex l n 14 a b i nt=ex l n 14 a' b' i nt
 |0,i,nt=>by simp only[ex]
 |n+1,i,nt=>by simp only[ex,aEy a b a' b' n,aRn n a b a' b']
abbrev S6:=Int×ak×Int×Bool×ak×ak
def AI(l:List Tk)(e:Int)(i:Nat)(o:Option (S6⊕S6)):PR (List Tn)->Prop
 | .ok L j nt=>∃ns,txt ns=nt/\o=some (.inl (e,ay l,(j:Int),false,parts L,ay ns))
 | .bad j=>∃ns P u,i<=j/\j<=l.length/\ns.length<=l.length/\lens P<=3 * (j - i)/\P.length<=8/\KB P/\o=some u/\(u=.inl (e,ay l,(j:Int),true,uy P,ay ns)\/u=.inr (e,ay l,(j:Int),true,uy P,ay ns))
 | .out=>True
def aAi(hl:l.length<=3000){f:Int->Bool->Bool->Bool->Bool->ak->Int->Bool->ak->Option TX}(e:Int):
  ∀n,(∀n',n'<n->∀i ns,i<=l.length->ns.length<=i->AX l i (f 1 false false false false (ay l) (i:Int) false (ay ns)) (ex l n' 1 false false i (txt ns)))->
   ∀(i0:Nat) (L:List Tn) (i:Nat) (ns:List Tk) (s:zaH⊕S6),(s=.inl (e,false,ay l,(i:Int),false,[],ay ns)/\L=[]\/s=.inr (e,ay l,(i:Int),false,parts L,ay ns))->
    L.length<6->i0<=i->i<=l.length->ns.length<=i->sizes L+2 * i0<=2 * i->AI l e i0 (M.yI f s) (PK l n false false L i (txt ns))
 |0,_,_,_,_,_,_,_,_,_,_,_,_=>by rw[PK];trivial
 |n+1,hrec,i0,L,i,ns,s,hs,hL,hi0,hi,hn,hsz=>by
  rw[PK,M.yI];have hb:M.Kv f s=(f 1 false false false false (ay l) (i:Int) false (ay ns)).bind λNP=>
    (bif(((parts L).length+[[D.sl false 5 (au NP.2.1)]].length) * 24).ble 140737488355328 then
     (bif((parts L).length+[[D.sl false 5 (au NP.2.1)]].length).ble 140737488355328 then
     (bif ah NP.2.2.2.2.2.2 then
      ((M.aN NP.2.2.2.1 NP.2.2.2.2.1 NP.2.2.2.2.2.1 NP.2.2.2.2.2.2).bind λxR=>
      (bif xR.1 !=36 then
       (some (.inr (.inl ((e,xR.2.1,xR.2.2.1,xR.2.2.2.1,parts L++[[D.sl false 5 (au NP.2.1)]],xR.2.2.2.2))))) else
       (bif((parts L++[[D.sl false 5 (au NP.2.1)]]).length:Int)==6 then
       (bif ah xR.2.2.2.2 then
        ((M.aI 36 xR.2.1 xR.2.2.1 true xR.2.2.2.2).bind λVR=>
        (bif ah VR.2.2.2.2.2.2 then
         ((M.bZ VR.2.2.2.1 VR.2.2.2.2.1 VR.2.2.2.2.2.1 VR.2.2.2.2.2.2).bind λYM=>
         (some (.inl (.inr ((e,YM.1,YM.2.1,YM.2.2.1,parts L++[[D.sl false 5 (au NP.2.1)]],YM.2.2.2)))))) else none)) else none) else
       (bif ah xR.2.2.2.2 then
        ((M.aI 36 xR.2.1 xR.2.2.1 xR.2.2.2.1 xR.2.2.2.2).bind λVT=>
        (bif ah VT.2.2.2.2.2.2 then
         ((M.bZ VT.2.2.2.1 VT.2.2.2.2.1 VT.2.2.2.2.2.1 VT.2.2.2.2.2.2).bind λYN=>
         (some (.inl (.inr ((e,YN.1,YN.2.1,YN.2.2.1,parts L++[[D.sl false 5 (au NP.2.1)]],YN.2.2.2)))))) else none)) else none)))) else none) else none) else none):=by
   rcases hs with⟨rfl,rfl⟩|rfl
   ·simp only[EY,M.Kv,M.FC,M.jH,M.tY,Bool.not_false,aJ,bg,aj];rfl
   ·simp only[EY,M.Kv,M.FC,M.jH,M.tY,Bool.not_false,aJ,bg,aj]
  have hr:=hrec n (Nat.lt_succ_self n) i ns hi hn;have CJ:=(sats l n).ex 1 false false i (txt ns) aC aC hi;generalize ex l n 1 false false i (txt ns)=p at hr CJ|-;cases p with
  |out=>trivial
  |bad j=>
   obtain⟨fl,rows,hd,ns',R,g1,g2,g3,g4,g5,h2⟩:=hr;have hP:lens ((L.map λt=>t.flat 0)++[R])<=3 * (j - i0):=by rw[yZ,pq,lens,lens];have:=g5.1;omega
   have hKB:KB ((L.map λt=>t.flat 0)++[R]):=KB.trees L aC (KB.cons g5.2 KB.nil);have hlen:((L.map λt=>t.flat 0)++[R]).length<=8:=by rw[DJ,zaV,Bd];omega
   rw[h2,aj] at hb;simp only[PL g4,rD,Bd,bg,aJ,iy,aj,bne,lN,Md] at hb;rw[bC aC,aJ,bC aC,aJ] at hb;simp only[PR.bind];cases hc:bG l j==36 with
   |false=>simp only[hc,Bool.not_false,aJ] at hb;exact⟨ns',_,_,aC,g2,g3,hP,hlen,hKB,aO hb,.inl rfl⟩
   |true=>simp only[hc,zaT,aX,Bool.cond_self] at hb;rw[aZ hb];exact⟨ns',_,_,aC,g2,g3,hP,hlen,hKB,aO rfl,.inr rfl⟩
  |ok x j m=>
   obtain⟨fl,rows,ns',h1,rfl,h2⟩:=hr;have hs':FE l i (txt ns).length x.1.size j (txt ns').length:=CJ;simp only[zaV] at hs';rw[h2,aj] at hb;simp only[JD h1,rD,Bd,DJ,bg,aJ,iy,aj,bne] at hb;rw[bC aC,aJ,bC aC,aJ] at hb;simp only[PR.bind];cases hc:bG l j==36 with
   |false=>simp only[hc,Bool.not_false,aJ] at hb;rw[aO hb];exact⟨ns',rfl,rfl⟩
   |true=>
    have hlt:=dI hc (by decide);have e36:bG l j=36:=by rwa [beq_iff_eq] at hc
    simp only[hc,zaT,aX] at hb;simp only[aJ];cases h6:Nat.beq (L.length+1) 6 with
    |true=>
     have e:=MB h6;have e':(((L.length+1:Nat):Int)==6)=true:=by rw[e];rfl
     simp only[e',aJ,lN,Md,aj,bg] at hb;rw[aZ hb];refine⟨ns',(L++[x.1]).map λt=>t.flat 0,.inr _,aC,aC,aC, ?_, ?_, ?_,aO rfl,.inr (by rw[yC])⟩
     ·rw[pq,sizes1];omega
     ·rw[zaV,DJ,Bd];omega
     ·have:=KB.trees (P:=[]) (L++[x.1]) (by rw[sizes1];omega) KB.nil
      rwa [List.append_nil] at this
    |false=>
     have hne:L.length+1≠6:=Nat.ne_of_beq_eq_false h6;have e':(((L.length+1:Nat):Int)==6)=false:=by rw[Y6];omega
     obtain⟨NG,t2,hln⟩:=KU hl (j+1) ns' aC aC;have hf:=EC (l:=l) (i:=j+1) (nt:=txt ns') aC;simp only[e',aX,fM hl e36 (by decide),aj,bg,aJ,hln] at hb;rw[aZ hb,aX,<-t2];rw[<-t2] at hf;simp only[zaV] at hf;exact aAi hl e n (λn' h=>hrec n' aC) i0 (L++[x.1]) _ NG _ (.inr rfl) (by rw[DJ,Bd];omega) aC aC aC (by rw[sizes1];omega)
def aif(l:List Tk)(n:Nat)(e:Int)(i:Nat)(nt:gW):PR (List Tn):=(PK l n false false [] i nt).bind λL i nt=>(jD l e i nt).bind λ_ i nt=> .ok L i nt
def aq1(hl:l.length<=3000){e:Int}(he:e≠0){i0 n i:Nat}{ns:List Tk}(hi:i<=l.length)(hi0:i0<=i)(hn:ns.length<=i){o:Option (S6⊕S6)}(h:AI l e i0 o (PK l n false false [] i (txt ns))):
  AY l i0 (o.bind λu=>jg u (λt=>bif ah t.2.2.2.2.2 then(M.aI t.1 t.2.1 t.2.2.1 t.2.2.2.1 t.2.2.2.2.2).bind λr=>bif ah r.2.2.2.2.2.2 then some (true,t.2.2.2.2.1,r.2.2.2.1,r.2.2.2.2.1,r.2.2.2.2.2.1,r.2.2.2.2.2.2) else none else none) λu=>letE u λt=>bif ah t.2.2.2.2.2 then(M.aI t.1 t.2.1 t.2.2.1 t.2.2.2.1 t.2.2.2.2.2).bind λr=>bif ah r.2.2.2.2.2.2 then some (true,t.2.2.2.2.1,r.2.2.2.1,r.2.2.2.2.1,r.2.2.2.2.2.1,r.2.2.2.2.2.2) else none else none) (aif l n e i (txt ns)):=by
 rw[aif];have CJ:=adS (l:=l) (n:=n) (a:=false) (b:=false) (nt:=txt ns) hi;have hsh:=abK (l:=l) (a:=false) (b:=false) n [] i (txt ns) (by decide);generalize PK l n false false [] i (txt ns)=p at h CJ hsh|-;cases p with
 |out=>trivial
 |bad j=>
  obtain⟨ns',P,u,g1,g2,g3,g4,g5,g6,rfl,rfl|rfl⟩:=h
  ·simp only[aj,jg,bg,aJ,lN];exact⟨_,ns',P,g1,g2,g3,g4,g5,g6,rfl⟩
  ·simp only[aj,jg,letE,bg,aJ,lN];exact⟨_,ns',P,g1,g2,g3,g4,g5,g6,rfl⟩
 |ok L j m=>
  obtain⟨ns',rfl,rfl⟩:=h;have hs':FE l i (txt ns).length (sizes L) j (txt ns').length:=CJ;have h6:L.length<=6:=hsh;simp only[zaV] at hs';simp only[aj,jg,bg,aJ,PR.bind,jD];cases hc:bG l j==e with
  |true=>
   have e1:bG l j=e:=by rwa [beq_iff_eq] at hc
   simp only[fM hl e1 he,aj,bg,aJ];exact⟨_,ns',rfl,rfl⟩
  |false=>
   simp only[wS hc,aj,bg,aJ,aX];refine⟨_,ns',L.map λt=>t.flat 0,aC,aC,aC, ?_, ?_, ?_,by rw[yC]⟩
   ·rw[pq];omega
   ·rw[zaV];omega
   ·have:=KB.trees (P:=[]) L aC KB.nil
    rwa [List.append_nil] at this
def asP(hl:l.length<=3000){e:Int}(he:e≠0){m n i:Nat}{ns:List Tk}(h:∀n',n'<n->∀i ns,i<=l.length->ns.length<=i->AX l i (M.bH m 1 false false false false (ay l) (i:Int) false (ay ns)) (ex l n' 1 false false i (txt ns)))(hi:i<=l.length)(hn:ns.length<=i):
  AY l i (M.oW (m+1) e 1 (ay l) (i:Int) false (ay ns)) (aif l n e i (txt ns)):=by
 rw[M.Qq];have h10:((1:Int)==0)=false:=rfl;simp only[M.xU,M.vC,h10,aX];exact aq1 hl he hi (zaU i) hn (aAi hl e n h i [] i ns _ (.inl ⟨rfl,rfl⟩) (by decide) (zaU i) hi hn (by rw[sizes0];omega))
def aGP(hl:l.length<=3000){m n i:Nat}{ns:List Tk}(h:∀n',n'<n->∀i ns,i<=l.length->ns.length<=i->AX l i (M.bH m 1 false false false false (ay l) (i:Int) false (ay ns)) (ex l n' 1 false false i (txt ns)))(hi:i<=l.length)(hn:ns.length<=i):
  AY l i (M.oW (m+1) 33 0 (ay l) (i:Int) false (ay ns)) (PN l (n+1) 33 i (txt ns)):=by
 rw[M.Qq,PN];simp only[M.xU,M.vC,BEq.rfl,aJ,bg,iy,aj];cases hc:bG l i==33 with
 |true=>
  have e1:bG l i=33:=by rwa [beq_iff_eq] at hc
  simp only[aJ,fM hl e1 (by decide),aj,bg];exact⟨_,ns,rfl,rfl⟩
 |false=>simp only[aX];exact aq1 hl (by decide) hi (zaU i) hn (aAi hl 33 n h i [] i ns _ (.inl ⟨rfl,rfl⟩) (by decide) (zaU i) hi hn (by rw[sizes0];omega))
def aDe(m:Nat)(i:Nat)(ns:List Tk):M.oW (m+1) 33 0 (ay l) (i:Int) true (ay ns)=some (true,[],ay l,(i:Int),true,ay ns):=by
 rw[M.Qq];simp only[M.xU,M.vC,BEq.rfl,aJ,bg,iy,aj,lN];cases bG l i==33 with
 |true=>rfl
 |false=>simp only[aX];rw[show M.yI _ _=_ from aO rfl];simp only[aj,jg,letE,bg,aJ,lN]
variable {l:List Tk}
def aii(A:List Nd):au [[D.sl false 5 (aU false A)]]=uy [A]:=Df [A]
def asQ(A B:List Nd):au [[D.sl false 5 (aU false A)],[D.sl false 5 (aU false B)]]=uy [A,B]:=Df [A,B]
def aRo(A B C:List Nd):au [[D.sl false 5 (aU false A)],[D.sl false 5 (aU false B)],[D.sl false 5 (aU false C)]]=uy [A,B,C]:=Df [A,B,C]
def asR:au ([]:ak)=aU false []:=rfl
def NH(hl:l.length<=3000){i q n0:Nat}{k op:Int}(ts:List Tn){o:Option TX}{p:PR Xp}(h:AX l q o p)(hq:i<=q)(hs:sizes ts+3 * i+1<=3 * q)(CJ:p.sat λx j m=>FE l q n0 x.1.size j m.length):
  AX l i (o.bind λr=>(M.dV k op [] [] [] (au (parts ts++[[D.sl false 5 (au r.2.1)]]))).bind λr'=>
   bif ah r.2.2.2.2.2.2 then some (false,au r'.2.1,r'.2.2,r.2.2.2.1,r.2.2.2.2.1,r.2.2.2.2.2.1,r.2.2.2.2.2.2) else none)
   (p.bind λy j nt=> .ok (.mk k op [] [] (ts++[y.1]),false) j nt):=by
 have hlen:(ts.map λt=>t.flat 0).length<=sizes ts:=by rw[zaV];exact yP ts
 cases p with
 |out=>trivial
 |bad j=>obtain⟨fl,rows,hd,ns,R,g1,g2,g3,g4,g5,rfl⟩:=h;have hK:=KB.trees ts aC (KB.cons g5.2 KB.nil);obtain⟨R',e1,e2⟩:=agS k op [] [] [] (P:=(ts.map λt=>t.flat 0)++[R]) (b:=sizes ts+3 * (j - q)) (by rw[yZ,pq,lens,lens];have:=g5.1;omega) aC (by rw[DJ,Bd];omega) hK;simp only[aj,PL g4,Df,e1,bg,aJ,aV];exact AX.fO aC g2 g3 (aV _ _) (e2.mono aC)
 |ok y j m=>obtain⟨fl,rows,ns,h1,rfl,rfl⟩:=h;have hs':FE l q n0 y.1.size j (txt ns).length:=CJ;have ho:=agQ k op [] [] [] (ts++[y.1]) (by rw[sizes1];omega);simp only[aj,JD h1];simp only[yC,Df,ho,aj,bg,aJ,aV];exact AX.mk (aV _ _) rfl
structure RX(l:List Tk)(n m:Nat):Prop where
 a1:∀a b (i:Nat) ns,i<=l.length->ns.length<=i->AX l i (M.bH m 1 false a b false (ay l) (i:Int) false (ay ns)) (ex l n 1 a b i (txt ns))
 a2:∀a b (i:Nat) ns,i<=l.length->ns.length<=i->AX l i (M.bH m 2 false a b false (ay l) (i:Int) false (ay ns)) (ex l n 2 a b i (txt ns))
 a3:∀a b (i:Nat) ns,i<=l.length->ns.length<=i->AX l i (M.bH m 3 false a b false (ay l) (i:Int) false (ay ns)) (ex l n 3 a b i (txt ns))
 a4:∀a b (i:Nat) ns,i<=l.length->ns.length<=i->AX l i (M.bH m 4 false a b false (ay l) (i:Int) false (ay ns)) (ex l n 4 a b i (txt ns))
 a5:∀a b (i:Nat) ns,i<=l.length->ns.length<=i->AX l i (M.bH m 5 false a b false (ay l) (i:Int) false (ay ns)) (ex l n 5 a b i (txt ns))
 a6:∀a b (i:Nat) ns,i<=l.length->ns.length<=i->AX l i (M.bH m 6 false a b false (ay l) (i:Int) false (ay ns)) (ex l n 6 a b i (txt ns))
 a7:∀a b (i:Nat) ns,i<=l.length->ns.length<=i->AX l i (M.bH m 7 false a b false (ay l) (i:Int) false (ay ns)) (ex l n 7 a b i (txt ns))
 a8:∀a b (i:Nat) ns,i<=l.length->ns.length<=i->AX l i (M.bH m 8 false a b false (ay l) (i:Int) false (ay ns)) (ex l n 8 a b i (txt ns))
 a9:∀a b (i:Nat) ns,i<=l.length->ns.length<=i->AX l i (M.bH m 9 false a b false (ay l) (i:Int) false (ay ns)) (ex l n 9 a b i (txt ns))
 a10:∀a b (i:Nat) ns,i<=l.length->ns.length<=i->AX l i (M.bH m 10 false a b false (ay l) (i:Int) false (ay ns)) (ex l n 10 a b i (txt ns))
 a11:∀a b (i:Nat) ns,i<=l.length->ns.length<=i->AX l i (M.bH m 11 false a b false (ay l) (i:Int) false (ay ns)) (ex l n 11 a b i (txt ns))
 a12:∀a b (i:Nat) ns,i<=l.length->ns.length<=i->AX l i (M.bH m 12 false a b false (ay l) (i:Int) false (ay ns)) (ex l n 12 a b i (txt ns))
 a13:∀a b (i:Nat) ns,i<=l.length->ns.length<=i->AX l i (M.bH m 13 false a b false (ay l) (i:Int) false (ay ns)) (ex l n 13 a b i (txt ns))
 a14:∀a b (i:Nat) ns,i<=l.length->ns.length<=i->AX l i (M.bH m 14 false a b false (ay l) (i:Int) false (ay ns)) (ex l n 14 a b i (txt ns))
 a15:∀a b (i:Nat) ns,i<=l.length->ns.length<=i->AX l i (M.bH m 15 false a b false (ay l) (i:Int) false (ay ns)) (ex l n 15 a b i (txt ns))
 pow:∀p p1 a b p4 (i:Nat) ns,i<=l.length->ns.length<=i->AX l i (M.Gy m p p1 a b p4 (ay l) (i:Int) false (ay ns)) (ex l n 12 a b i (txt ns))
 pri:∀a b (i:Nat) ns,i<=l.length->ns.length<=i->AX l i (M.xW m (ay l) (i:Int) false (ay ns)) (ex l n 15 a b i (txt ns))
 pre:∀p p1 a b p4 (i:Nat) ns,i<l.length->ns.length<=i->isStep (bG l i)=true->AX l i (M.Gz m p p1 a b p4 (ay l) (i:Int) false (ay ns)) (XD l n i (txt ns))
def IV{n lv i:Nat}{a b:Bool}{ns:List Tk}(h1:1<=lv)(h2:lv<=15)(hi:i<=l.length):(ex l n lv a b i (txt ns)).sat λx j m=>FE l i ns.length x.1.size j m.length:=by have:=(sats l n).ex lv a b i (txt ns) h1 h2 hi;simpa only[zaV] using this
section
variable {n m:Nat} (hl:l.length<=3000)
include hl
theorem awp(h:RX l n m)(p:Int)(p1 a b p4:Bool)(i:Nat)(ns:List Tk)(hi:i<=l.length)(hn:ns.length<=i):AX l i (M.H6 (m+1) p p1 a b p4 (ay l) (i:Int) false (ay ns)) (ex l (n+1) 1 a b i (txt ns)):=by
 rw[M.agy];simp only[M.DC,M.bT,M.gq,aj,bg,aJ,ex];refine AX.elim (Q:=AX l i) (h.a2 a b i ns hi hn) (λ_=>trivial) (λfl rows hd j ns R g1 g2 g3 g4 g5=> ?_) (λx fl rows j ns h1 he=> ?_)
 ·simp only[aJ,bg];exact AX.fO g1 g2 g3 (fzN g4) g5
 ·have hs:=iM (IV aC aC hi) he;simp only[zaV] at hs;simp only[aX,h1,az5 x.1 x.2 aC,aj,bg,aJ,iy,(abC _).1];rw[show(!x.2 && abE x.1.kind)=tgt x from rfl];cases ht:tgt x with
  |false=>simp only[Bool.not_false,aJ,Bool.false_and,aX];exact AX.mk (aV _ _) rfl
  |true=>
   simp only[zaT,aX,Bool.true_and];cases hc:ahJ (bG l j) with
   |false=>simp only[Bool.not_false,aJ,aX];exact AX.mk (aV _ _) rfl
   |true=>have hlt:=eP (akI hc);simp only[zaT,aX,aJ,fM hl rfl (akI hc),aj,bg];exact NH hl [x.1] (h.a1 a b (j+1) ns aC aC) aC (by simp only[sizes];omega) (IV aC aC aC)
theorem aDf(h:RX l n m)(hm:1<=m)(p:Int)(p1 a b p4:Bool)(i:Nat)(ns:List Tk)(hi:i<=l.length)(hn:ns.length<=i):AX l i (M.Ll (m+1) p p1 a b p4 (ay l) (i:Int) false (ay ns)) (ex l (n+1) 2 a b i (txt ns)):=by
 obtain⟨m1,rfl⟩:∃m1,m=m1+1:=⟨m - 1,aC⟩
 rw[M.aj2];simp only[M.Hr,M.bT,M.gq,aj,bg,aJ,ex];refine AX.elim (Q:=AX l i) (h.a3 a b i ns hi hn) (λ_=>trivial) (λfl rows hd j ns R g1 g2 g3 g4 g5=> ?_) (λx fl rows j ns h1 he=> ?_)
 ·simp only[aJ,bg];exact AX.fO g1 g2 g3 (fzN g4) g5
 ·have hs:=iM (IV aC aC hi) he;simp only[zaV] at hs;simp only[aX,h1,aj,bg,aJ,iy,bne];cases hc:bG l j==65 with
  |false=>simp only[Bool.not_false,aJ,aX];exact AX.mk (aV _ _) rfl
  |true=>
   have hlt:=dI hc (by decide);have e65:bG l j=65:=by rwa [beq_iff_eq] at hc
   simp only[zaT,aX,aJ,fM hl e65 (by decide),aj,bg];refine AX.elim (Q:=AX l i) (h.a2 a b (j+1) ns aC aC) (λ_=>trivial) (λfl rows hd j2 NG R g1 g2 g3 g4 g5=> ?_) (λy fl' rows' j2 NG h2 he2=> ?_)
   ·obtain⟨R',e1,e2⟩:=agS 14 0 [] [] [] (P:=[x.1.flat 0,R,[]]) (b:=x.1.size+3 * (j2 - (j+1))) (by simp only[lens,Tn.flat_length,zln];have:=g5.1;omega) aC (by simp) (KB.tree aC (KB.cons g5.2 (KB.none KB.nil)));simp only[aJ,bg,lN,aj,aAh,g4,asR,aRo,e1,aV];exact AX.fO aC g2 g3 (aV _ _) (e2.mono aC)
   ·have hs2:=iM (IV aC aC aC) he2;simp only[zaV] at hs2;simp only[aJ,bg,h2,jD];cases hc2:bG l j2==66 with
    |false=>obtain⟨R',e1,e2⟩:=agS 14 0 [] [] [] (P:=[x.1.flat 0,y.1.flat 0,[]]) (b:=x.1.size+y.1.size) (by simp only[lens,Tn.flat_length,zln];omega) aC (by simp) (KB.tree aC (KB.tree aC (KB.none KB.nil)));simp only[wS hc2,aj,bg,aJ,aX,aAh,asR,aRo,e1,aV];exact AX.fO aC aC aC (aV _ _) (e2.mono aC)
    |true=>
     have hlt2:=dI hc2 (by decide);have e66:bG l j2=66:=by rwa [beq_iff_eq] at hc2
     simp only[fM hl e66 (by decide),aj,bg,aJ];exact NH hl [x.1,y.1] (h.a2 a b (j2+1) NG aC aC) aC (by simp only[sizes];omega) (IV aC aC aC)
theorem aAj(h:RX l n m)(p:Int)(p1 a b p4:Bool)(i:Nat)(ns:List Tk)(hi:i<=l.length)(hn:ns.length<=i):AX l i (M.Gy (m+1) p p1 a b p4 (ay l) (i:Int) false (ay ns)) (ex l (n+1) 12 a b i (txt ns)):=by
 rw[M.alo];simp only[M.J4,M.bT,M.gq,aj,bg,aJ,ex];refine AX.elim (Q:=AX l i) (h.a13 a b i ns hi hn) (λ_=>trivial) (λfl rows hd j ns R g1 g2 g3 g4 g5=> ?_) (λx fl rows j ns h1 he=> ?_)
 ·simp only[aJ,bg];exact AX.fO g1 g2 g3 (fzN g4) g5
 ·have hs:=iM (IV aC aC hi) he;simp only[zaV] at hs;simp only[aX,h1,aj,bg,aJ,iy,bne];cases hc:bG l j==60 with
  |false=>simp only[Bool.not_false,aJ,aX];exact AX.mk (aV _ _) rfl
  |true=>
   have hlt:=dI hc (by decide);have e60:bG l j=60:=by rwa [beq_iff_eq] at hc
   simp only[zaT,aX,aJ,fM hl e60 (by decide),aj,bg];exact NH hl [x.1] (h.a11 a b (j+1) ns aC aC) aC (by simp only[sizes];omega) (IV aC aC aC)
theorem aAk(h:RX l n m)(p:Int)(p1 a b p4:Bool)(i:Nat)(ns:List Tk)(hi:i<=l.length)(hn:ns.length<=i):AX l i (M.JM (m+1) p p1 a b p4 (ay l) (i:Int) false (ay ns)) (ex l (n+1) 11 a b i (txt ns)):=by
 rw[M.ah1];simp only[M.EP,M.Ht,M.bT,M.gq,aj,bg,aJ,ex,iy];cases h6:bG l i==56 with
 |true=>
  have hlt:=dI h6 (by decide);have e:bG l i=56:=by rwa [beq_iff_eq] at h6
  simp only[aJ,Bool.true_or,Bool.or_true,fM hl rfl (show bG l i≠0 by rw[e];decide),aj,bg];exact NH hl [] (h.a11 a b (i+1) ns aC aC) aC (by simp only[sizes];omega) (IV aC aC aC)
 |false=>
  cases h5:bG l i==55 with
  |true=>
   have hlt:=dI h5 (by decide);have e:bG l i=55:=by rwa [beq_iff_eq] at h5
   simp only[aJ,aX,Bool.true_or,fM hl rfl (show bG l i≠0 by rw[e];decide),aj,bg];exact NH hl [] (h.a11 a b (i+1) ns aC aC) aC (by simp only[sizes];omega) (IV aC aC aC)
  |false=>
   cases h1:bG l i==61 with
   |true=>
    have hlt:=dI h1 (by decide);have e:bG l i=61:=by rwa [beq_iff_eq] at h1
    simp only[aJ,aX,Bool.or_true,fM hl rfl (show bG l i≠0 by rw[e];decide),aj,bg];exact NH hl [] (h.a11 a b (i+1) ns aC aC) aC (by simp only[sizes];omega) (IV aC aC aC)
   |false=>simp only[aX,Bool.or_self];exact AX.pass (h.pow p p1 a b p4 i ns hi hn) (zaU i) (by intros;simp only[bg,aJ])
theorem aGQ(h:RX l n m)(hm:1<=m)(p:Int)(p1 a b p4:Bool)(i:Nat)(ns:List Tk)(hi:i<l.length)(hn:ns.length<=i)(hst:isStep (bG l i)=true):AX l i (M.Gz (m+1) p p1 a b p4 (ay l) (i:Int) false (ay ns)) (XD l (n+1) i (txt ns)):=by
 obtain⟨m1,rfl⟩:∃m1,m=m1+1:=⟨m - 1,aC⟩
 have hgo:=NH hl (k:=9) (op:=bG l i) [] (h.a14 a b (i+1) ns aC aC) (i:=i) (n0:=ns.length) aC (by simp only[sizes];omega) (IV aC aC aC);rw[aEy a b false false] at hgo;rw[M.alp,XD];simp only[M.J5,M.Ql,M.bT,M.gq,aj,bg,aJ,iy,fM hl rfl (NC hst),bne];cases h6:bG l (i+1)==6 with
 |true=>simp only[zaT,aX,Bool.or_true,aJ];exact hgo
 |false=>
  cases h8:bG l (i+1)==68 with
  |true=>simp only[zaT,Bool.not_false,aX,Bool.true_or,aJ,bg];exact hgo
  |false=>obtain⟨R',e1,e2⟩:=agS 9 (bG l i) [] [] [] (P:=[[]]) (b:=0) (by simp[lens]) aC (by simp) (KB.none KB.nil);simp only[Bool.not_false,aJ,Bool.or_self,aX,bg,aAh,aj,asR,aii,e1,aV];exact AX.fO aC aC aC (aV _ _) (e2.mono aC)
theorem aDg(h:RX l n m)(p:Int)(p1 a b p4:Bool)(i:Nat)(ns:List Tk)(hi:i<=l.length)(hn:ns.length<=i):AX l i (M.Lm (m+1) p p1 a b p4 (ay l) (i:Int) false (ay ns)) (ex l (n+1) 13 a b i (txt ns)):=by
 rw[M.aj3];simp only[M.Hu,M.bT,M.gq,aj,bg,aJ,ex,iy,aog];cases hst:isStep (bG l i) with
 |true=>have hlt:=eP (NC hst);simp only[aJ];exact AX.pass (h.pre p p1 a b p4 i ns hlt hn hst) (zaU i) (by intros;simp only[bg,aJ])
 |false=>
  simp only[aX];refine AX.elim (Q:=AX l i) (h.a14 a b i ns hi hn) (λ_=>trivial) (λfl rows hd j ns R g1 g2 g3 g4 g5=> ?_) (λx fl rows j ns h1 he=> ?_)
  ·simp only[aJ,bg,iy,aj];exact AX.fO g1 g2 g3 (fzN g4) g5
  ·have hs:=iM (IV aC aC hi) he;simp only[zaV] at hs;simp only[aX,h1,az5 x.1 x.2 aC,aj,bg,aJ,iy,aog];rw[show(!x.2 && abE x.1.kind)=tgt x from rfl];cases hc:isStep (bG l j) with
   |false=>simp only[Bool.not_false,aJ,Bool.and_false,aX];exact AX.mk (aV _ _) rfl
   |true=>
    have hlt:=eP (NC hc);simp only[zaT,aX,Bool.and_true];cases ht:tgt x with
    |false=>simp only[Bool.not_false,aJ,aX];exact AX.mk (aV _ _) rfl
    |true=>have ho:=agQ 10 (bG l j) [] [] [] [x.1] (by simp only[sizes];omega);have ho':M.dV 10 (bG l j) [] [] [] (uy [x.1.flat 0])=some (false,aU false ((Tn.mk 10 (bG l j) [] [] [x.1]).flat 0),false):=ho;simp only[zaT,aX,aJ,fM hl rfl (NC hc),aj,bg,aii,ho',aV];exact AX.mk (aV _ _) rfl
theorem aAl(h:RX l n m)(p:Int)(p1 a b p4:Bool)(i:Nat)(ns:List Tk)(hi:i<=l.length)(hn:ns.length<=i):AX l i (M.JO (m+1) p p1 a b p4 (ay l) (i:Int) false (ay ns)) (ex l (n+1) 14 a b i (txt ns)):=by
 rw[M.ah2];simp only[M.ES,M.bT,M.gq,aj,bg,aJ,ex,iy,bne];cases hc:bG l i==68 with
 |false=>simp only[Bool.not_false,aJ,aX];exact AX.pass (h.pri a b i ns hi hn) (zaU i) (by intros;simp only[bg,aJ])
 |true=>
  have hlt:=dI hc (by decide);have e68:bG l i=68:=by rwa [beq_iff_eq] at hc
  simp only[zaT,aX,aJ,fM hl e68 (by decide),aj,bg,iy,aog];cases hs:isStep (bG l (i+1)) with
  |true=>have hlt':=eP (NC hs);simp only[aJ,bg];have CJ:=(sats l n).pre (i+1) (txt ns) hlt';exact NH hl [] (h.pre p p1 a b p4 (i+1) ns hlt' aC hs) aC (by simp only[sizes];omega) CJ
  |false=>simp only[aX,bg,aJ];exact NH hl [] (h.a14 a b (i+1) ns aC aC) aC (by simp only[sizes];omega) (IV aC aC aC)
end
variable {l:List Tk}
def NV(L:List Tn):au (parts L)=parts L:=by rw[yC];exact Df _
def OX(k:Int)(x:aK):au [[D.int .i64 k,D.int .i64 0,D.str x,D.str [],D.sl true 1 []]]=aU false ((Tn.mk k 0 x [] []).flat 0):=rfl
def asT(hl:l.length<=3000)(k:Int){i:Nat}{ns:List Tk}(h:bG l i≠0):M.zU k (ay l) (i:Int) false (ay ns)=some (true,[[D.int .i64 k,D.int .i64 0,D.str (CG l i),D.str [],D.sl true 1 []]],false,ay l,((i+1:Nat):Int),false,ay ns):=by
 have hlt:=eP h;obtain⟨t,ht⟩:∃t,l[i]? =some t:=⟨l[i],by simp[hlt]⟩
 have e:bG l i=t.kind:=by rw[bG,ht]
 simp only[M.zU,M.Qm,dG,iE,ht,Ir,aj,cT0,bg,aJ,fM hl e (by rw[<-e];exact h)]
section
variable {n m:Nat} (hl:l.length<=3000)
include hl
theorem aGR(h:∀n',n'<n->∀i ns,i<=l.length->ns.length<=i->AX l i (M.bH m 1 false false false false (ay l) (i:Int) false (ay ns)) (ex l n' 1 false false i (txt ns))){i:Nat}{ns:List Tk}(h6:bG l i=6)(hn:ns.length<=i):
  AX l i (M.Lp (m+2) (ay l) (i:Int) false (ay ns)) (awn l n i (txt ns)):=by
 have hlt:i<l.length:=eP (by rw[h6];decide);rw[M.aj6,awn];simp only[M.Hw,bg,aJ,fM hl h6 (by decide),aj,iy,bne];cases hc:bG l (i+1)==34 with
 |false=>simp only[Bool.not_false,aJ,aX];exact AX.mk (OX _ _) rfl
 |true=>
  have hlt':=dI hc (by decide);have e34:bG l (i+1)=34:=by rwa [beq_iff_eq] at hc
  simp only[zaT,aX,aJ,fM hl e34 (by decide),aj,bg];have e:(PK l n false false [] (i+2) (txt ns)).bind (λL j nt=>(jD l 35 j nt).bind λ_ j nt=>PR.ok ((Tn.mk 5 0 (CG l i) [] L,false):Xp) j nt)=
    (aif l n 35 (i+2) (txt ns)).bind λL j nt=> .ok ((Tn.mk 5 0 (CG l i) [] L,false):Xp) j nt:=by
   rw[aif];cases PK l n false false [] (i+2) (txt ns) with
   |ok L j m=>simp only[PR.bind];cases jD l 35 j m<;>rfl
   |bad j=>rfl
   |out=>rfl
  rw[e];refine AY.elim (Q:=AX l i) (asP hl (e:=35) (by decide) h (i:=i+1+1) (ns:=ns) aC aC) (λ_=>trivial) (λfl j ns' P g1 g2 g3 g4 g5 g6=> ?_) (λL fl j ns' he=> ?_)
  ·obtain⟨R',e1,e2⟩:=aeO 5 0 (CG l i) [] [] (b:=3 * (j - (i+1+1))) g4 aC aC g6;simp only[Df,e1,aj,bg,aJ,aV];exact AX.fO aC g2 g3 (aV _ _) (e2.mono aC)
  ·have hs:sizes L<=9000:=by
    rw[aif] at he;have:=iM (P:=λL _ _=>sizes L<=9000) (by
     rw[eU];refine bK (adS (l:=l) aC) λL j m hL=> ?_
     rw[eU,yY];intro _;show sizes L<=9000;omega) he
    exact this
   have hmk:=EI 5 0 (CG l i) [] [] L aC;simp only[NV,hmk,aj,bg,aJ,aV];exact AX.mk (aV _ _) rfl
theorem aDh{e:Int}(he:e≠0){i:Nat}{nt:gW}(hi:i<=l.length):(PN l n e i nt).sat λL _ _=>sizes L<=9000:=
 bK ((sats l n).lst e i nt he hi) λL j m h=>by omega
theorem aGS(h:∀n',n'<n->∀i ns,i<=l.length->ns.length<=i->AX l i (M.bH m 1 false false false false (ay l) (i:Int) false (ay ns)) (ex l n' 1 false false i (txt ns))){i:Nat}{ns:List Tk}(hi:i<=l.length)(hn:ns.length<=i):
  AY l i (M.oW (m+1) 33 0 (ay l) (i:Int) false (ay ns)) (PN l n 33 i (txt ns)):=by
 cases n with
 |zero=>rw[PN];trivial
 |succ n=>exact aGP hl (λn' hn'=>h n' aC) hi hn
theorem aAm(kd:Int)(h:∀n',n'<n->∀i ns,i<=l.length->ns.length<=i->AX l i (M.bH m 1 false false false false (ay l) (i:Int) false (ay ns)) (ex l n' 1 false false i (txt ns))){i:Nat}{ns:List Tk}(hi:i<l.length)(hn:ns.length<=i):
  AX l i ((M.aI 32 (ay l) ((i+1:Nat):Int) false (ay ns)).bind λagu=>bif ah agu.2.2.2.2.2.2 then
     (M.oW (m+1) 33 0 agu.2.2.2.1 agu.2.2.2.2.1 agu.2.2.2.2.2.1 agu.2.2.2.2.2.2).bind λagv=>
        (M.bU kd 0 (CG l i) [] [] (au agv.2.1)).bind λaFA=>
        (bif ah agv.2.2.2.2.2 then
         some (false,au aFA,false,agv.2.2.1,agv.2.2.2.1,agv.2.2.2.2.1,agv.2.2.2.2.2) else none) else none)
   ((jD l 32 (i+1) (txt ns)).bind λ_ j nt=>(PN l n 33 j nt).bind λL j nt=> .ok (.mk kd 0 (CG l i) [] L,false) j nt):=by
 rw[jD];cases hc:bG l (i+1)==32 with
 |false=>obtain⟨R',e1,e2⟩:=aeO kd 0 (CG l i) [] [] (P:=[]) (b:=0) (by simp[lens]) aC (by simp) KB.nil;have e1':M.bU kd 0 (CG l i) [] [] (au [])=some (aU true R'):=e1;simp only[wS hc,aj,bg,aJ,aX,aDe,e1',aV];exact AX.fO aC aC aC (aV _ _) (e2.mono aC)
 |true=>
  have hlt:=dI hc (by decide);have e32:bG l (i+1)=32:=by rwa [beq_iff_eq] at hc
  simp only[fM hl e32 (by decide),aj,bg,aJ];refine AY.elim (Q:=AX l i) (aGS hl h (i:=i+1+1) (ns:=ns) aC aC) (λ_=>trivial) (λfl j ns' P g1 g2 g3 g4 g5 g6=> ?_) (λL fl j ns' he=> ?_)
  ·obtain⟨R',e1,e2⟩:=aeO kd 0 (CG l i) [] [] (b:=3 * (j - (i+1+1))) g4 aC aC g6;simp only[Df,e1,aj,bg,aJ,aV];exact AX.fO aC g2 g3 (aV _ _) (e2.mono aC)
  ·have hs:sizes L<=9000:=iM (aDh hl (by decide) aC) he;have hmk:=EI kd 0 (CG l i) [] [] L aC;simp only[NV,hmk,aj,bg,aJ,aV];exact AX.mk (aV _ _) rfl
theorem aAn(H:∀n',n'<=n->∀m',4 * n'+20<=m'->RX l n' m')(hm:4 * n+22<=m)(a b:Bool)(i:Nat)(ns:List Tk)(hi:i<=l.length)(hn:ns.length<=i):AX l i (M.xW (m+1) (ay l) (i:Int) false (ay ns)) (ex l (n+1) 15 a b i (txt ns)):=by
 have h:=H n (zaU _) m aC;obtain⟨m2,rfl⟩:∃m2,m=m2+2:=⟨m - 2,aC⟩
 have asU:∀n',n'<n->∀i ns,i<=l.length->ns.length<=i->AX l i (M.bH m2 1 false false false false (ay l) (i:Int) false (ay ns)) (ex l n' 1 false false i (txt ns)):=λn' hn' i ns hi hn=>(H n' aC m2 aC).a1 false false i ns hi hn
 rw[M.afr];simp only[M.Bh,M.rP,bg,aJ,aX,ex,iy,aj];cases h3:bG l i==3 with
 |true=>
  have e:bG l i=3:=by rwa [beq_iff_eq] at h3
  simp only[aJ,asT hl 2 (show bG l i≠0 by rw[e];decide),aj,bg,OX];exact AX.mk (aV _ _) rfl
 |false=>
 cases h4:bG l i==4 with
 |true=>
  have e:bG l i=4:=by rwa [beq_iff_eq] at h4
  simp only[aJ,aX,asT hl 3 (show bG l i≠0 by rw[e];decide),aj,bg,OX];exact AX.mk (aV _ _) rfl
 |false=>
 cases h5:bG l i==5 with
 |true=>
  have e:bG l i=5:=by rwa [beq_iff_eq] at h5
  simp only[aJ,aX,asT hl 4 (show bG l i≠0 by rw[e];decide),aj,bg,OX];exact AX.mk (aV _ _) rfl
 |false=>
 cases h6:bG l i==6 with
 |true=>
  have e:bG l i=6:=by rwa [beq_iff_eq] at h6
  simp only[aJ,aX];exact AX.pass (aGR hl asU e hn) (zaU i) (by intros;simp only[bg,aJ])
 |false=>
 cases h7:bG l i==7 with
 |true=>
  have e:bG l i=7:=by rwa [beq_iff_eq] at h7
  have hlt:=dI h7 (by decide);have h8:(bG l i==8)=false:=by rw[e];rfl
  have w:((7:Int)==8)=false:=rfl;simp only[aJ,aX,Bool.true_or,h8,Bool.false_and];refine AX.pass (i:=i) ?_ (zaU i) (by intros;simp only[bg,aJ]);rw[M.aag];simp only[M.D5,M.ER,bg,aJ,iy,aj,fM hl rfl (show bG l i≠0 by rw[e];decide),w,aX];rw[e];exact aAm hl 7 asU hlt hn
 |false=>
 cases h8:bG l i==8 with
 |true=>
  have e:bG l i=8:=by rwa [beq_iff_eq] at h8
  have hlt:=dI h8 (by decide);have hcall:=aAm hl 8 asU hlt hn;simp only[aJ,aX,Bool.or_true,Bool.true_and];refine AX.pass (i:=i) ?_ (zaU i) (by intros;simp only[bg,aJ]);rw[M.aag];simp only[M.D5,M.ER,bg,aJ,iy,aj,fM hl rfl (show bG l i≠0 by rw[e];decide),BEq.rfl,bne];rw[e];cases h32:bG l (i+1)==32 with
  |true=>simp only[zaT,aX,Bool.and_false];exact hcall
  |false=>
   simp only[Bool.not_false,aJ,Bool.and_true];cases hx:CG l i==[108,101,110,103,116,104] with
   |true=>simp only[aJ];exact AX.mk (OX _ _) rfl
   |false=>simp only[aX];exact hcall
 |false=>
 simp only[aX,Bool.or_self];cases h32:bG l i==32 with
 |false=>simp only[wS h32,M.jH,M.tY,aj,bg,aJ,aX,aAh,lN];exact AX.fO (R:=[]) (zaU i) hi aC rfl ⟨by simp,λn h=>by cases h⟩
 |true=>
  have e:bG l i=32:=by rwa [beq_iff_eq] at h32
  have hlt:=dI h32 (by decide);simp only[fM hl e (by decide),M.jH,M.tY,aj,bg,aJ];refine AX.elim (Q:=AX l i) (h.a1 false false (i+1) ns aC aC) (λ_=>trivial) (λfl rows hd j ns R g1 g2 g3 g4 g5=> ?_) (λx fl rows j ns h1 he=> ?_)
  ·simp only[bg,aJ,lN,aj];exact AX.fO aC g2 g3 (fzN g4) (g5.mono aC)
  ·have hs:=iM (IV aC aC aC) he;simp only[zaV] at hs;simp only[bg,aJ,jD];cases hc:bG l j==33 with
   |true=>
    have e33:bG l j=33:=by rwa [beq_iff_eq] at hc
    simp only[fM hl e33 (by decide),aj,bg,aJ];exact AX.mk (by rw[h1,aV]) rfl
   |false=>simp only[wS hc,aj,bg,aJ,aX];exact AX.fO aC aC aC (fzN h1) ((RB.tree x.1 aC).mono aC)
theorem aDi(i:Nat)(ns:List Tk)(hi:i<=l.length):M.Dp (ay l) (i:Int) false (ay ns)=some (bG l i==32 && ahead (l.drop i) 0,ay l,(i:Int),false,ay ns):=by
 simp only[M.Dp,M.Ov,aX,bg,aJ,iy,aj,bne];cases h32:bG l i==32 with
 |false=>rfl
 |true=>
  have hlt:=dI h32 (by decide);have e32:bG l i=32:=by rwa [beq_iff_eq] at h32
  simp only[zaT,aX,Bool.true_and];obtain⟨t,ht⟩:∃t,l[i]? =some t:=⟨l[i],by simp[hlt]⟩
  have ek:t.kind=32:=by rw[bG,ht] at e32;exact e32
  have hloop:∀(k j d:Nat),l.length - j<=k->1<=d->d<=j->j<=l.length->(∃u,M.qI (ay l) (i:Int) false (ay ns) ((d:Int),(j:Int))=some u/\(u=.inl (ahead (l.drop j) d)\/(∃p,u=.inr p)/\ahead (l.drop j) d=false)):=by
   intro k;induction k with
   |zero=>
    intro j d hk hd hdj hj;have:M.iq (ay l) (i:Int) false (ay ns) ((d:Int),(j:Int))=some (.inr (.inr ((d:Int),(j:Int)))):=by simp only[M.iq,M.lU,dZ];rw[Ac aC,aX]
    exact⟨_,aO this,.inr ⟨⟨_,rfl⟩,by rw[List.drop_eq_nil_of_le aC,ahead]⟩⟩
   |succ k ih=>
    intro j d hk hd hdj hj
    by_cases hj':j<l.length
    ·obtain⟨u,hu⟩:∃u,l[j]? =some u:=⟨l[j],by simp[hj']⟩
     have hdec:decide ((j:Int)<(l.length:Int))=true:=by rw[zdt];omega
     have w1:i64.wrap ((j:Int)+1)=((j+1:Nat):Int):=by rw[bF aC aC];omega
     have w2:i64.wrap ((d:Int)+1)=((d+1:Nat):Int):=by rw[bF aC aC];omega
     have w3:i64.wrap ((d:Int) - 1)=((d - 1:Nat):Int):=by rw[bF aC aC];omega
     have z1:(((d+1:Nat):Int)==0)=false:=by rw[Y6];omega
     have z2:(((d+1:Nat):Int)==1)=false:=by rw[Y6];omega
     have z3:((d:Int)==0)=false:=by rw[Y6];omega
     rw[Yo hu,ahead];cases ho:Y1 u.kind with
     |true=>
      have hs:XC u.kind=false:=by
       have:u.kind=32\/u.kind=34\/u.kind=30:=by simpa[Y1,Bool.or_eq_true] using ho
       rcases this with e|e|e<;>rw[e]<;>rfl
      have hb:M.iq (ay l) (i:Int) false (ay ns) ((d:Int),(j:Int))=some (.inl (((d+1:Nat):Int),((j+1:Nat):Int))):=by simp only[M.iq,M.lU,dZ,hdec,aJ,dG,iE,hu,Ir,aj,cT0,Y3,ho,Y4,hs,aX,w1,w2,z1,z2]
      rw[M.qI,aZ hb,aJ];have:=ih (j+1) (d+1) aC aC aC aC;rw[show(((d+1:Nat):Int))=(d:Int)+1 by omega] at this|-;exact this
     |false=>
      rw[aX];cases hs:XC u.kind with
      |true=>
       have h36:(u.kind==36)=false:=by
        have:u.kind=33\/u.kind=35\/u.kind=31:=by simpa[XC,Bool.or_eq_true] using hs
        rcases this with e|e|e<;>rw[e]<;>rfl
       rw[aJ]
       by_cases hd1:d=1
       ·subst hd1;have hb:M.iq (ay l) (i:Int) false (ay ns) (((1:Nat):Int),(j:Int))=some (.inr (.inl false)):=by have z0:(((1 - 1:Nat):Int)==0)=true:=rfl;simp only[M.iq,M.lU,dZ,hdec,aJ,dG,iE,hu,Ir,aj,cT0,Y3,ho,Y4,hs,aX,w3,z0]
        exact⟨_,aO hb,.inl rfl⟩
       ·have z0:(((d - 1:Nat):Int)==0)=false:=by rw[Y6];omega
        have hb:M.iq (ay l) (i:Int) false (ay ns) ((d:Int),(j:Int))=some (.inl (((d - 1:Nat):Int),((j+1:Nat):Int))):=by simp only[M.iq,M.lU,dZ,hdec,aJ,dG,iE,hu,Ir,aj,cT0,Y3,ho,Y4,hs,aX,w1,w3,z0,h36,Bool.cond_self]
        rw[M.qI,aZ hb,Ac aC,aX];have:=ih (j+1) (d - 1) aC aC aC aC;rw[show(((d - 1:Nat):Int))=(d:Int) - 1 by omega] at this|-;exact this
      |false=>
       rw[aX,Ac aC,aX];have hdd:(ahead (l.drop (j+1)) d)=ahead (l.drop (j+1)) d:=rfl;cases hd1:(d:Int)==1 with
       |false=>
        have hb:M.iq (ay l) (i:Int) false (ay ns) ((d:Int),(j:Int))=some (.inl ((d:Int),((j+1:Nat):Int))):=by simp only[M.iq,M.lU,dZ,hdec,aJ,dG,iE,hu,Ir,aj,cT0,Y3,ho,Y4,hs,aX,w1,z3,hd1]
        rw[M.qI,aZ hb,Bool.and_false,aX];exact ih (j+1) d aC aC aC aC
       |true=>
        rw[Bool.and_true];cases h36:u.kind==36 with
        |false=>
         have hb:M.iq (ay l) (i:Int) false (ay ns) ((d:Int),(j:Int))=some (.inl ((d:Int),((j+1:Nat):Int))):=by simp only[M.iq,M.lU,dZ,hdec,aJ,dG,iE,hu,Ir,aj,cT0,Y3,ho,Y4,hs,aX,w1,z3,hd1,h36]
         rw[M.qI,aZ hb,aX];exact ih (j+1) d aC aC aC aC
        |true=>
         have hb:M.iq (ay l) (i:Int) false (ay ns) ((d:Int),(j:Int))=some (.inr (.inl true)):=by simp only[M.iq,M.lU,dZ,hdec,aJ,dG,iE,hu,Ir,aj,cT0,Y3,ho,Y4,hs,aX,z3,hd1,h36]
         exact⟨_,aO hb,.inl rfl⟩
    ·exact ih j d aC hd hdj hj
  have w1:i64.wrap ((i:Int)+1)=((i+1:Nat):Int):=by rw[bF aC aC];omega
  have hb0:M.iq (ay l) (i:Int) false (ay ns) (0,(i:Int))=some (.inl (((1:Nat):Int),((i+1:Nat):Int))):=by
   have o1:Y1 32=true:=rfl;have s1:XC 32=false:=rfl;have z1:(i64.wrap (0+1)==0)=false:=rfl;have z2:(i64.wrap (0+1)==1)=true:=rfl;have z3:((32:Int)==36)=false:=rfl;have hdec:decide ((i:Int)<(l.length:Int))=true:=by rw[zdt];omega
   simp only[M.iq,M.lU,dZ,hdec,aJ,dG,iE,ht,Ir,aj,cT0,Y3,ek,o1,Y4,s1,aX,w1,z1,z2,z3];rfl
  obtain⟨u,hu1,hu2⟩:=hloop _ (i+1) 1 (zaU _) (zaU 1) aC aC;have hah:ahead (l.drop i) 0=ahead (l.drop (i+1)) 1:=by rw[Yo ht,ahead,ek];rfl
  rw[M.qI] at hu1;rw[M.qI,aZ hb0,hu1,aj,hah];rcases hu2 with rfl|⟨⟨p,rfl⟩,e⟩
  ·simp only[jg,bg,aJ];rfl
  ·have e':ahead (l.drop (i+1)) 1=false:=e;rw[e'];simp only[jg,letE,bg,aJ]
end
end Go.Proofs.YtoaeipkhadpbiaaGreatDoor
