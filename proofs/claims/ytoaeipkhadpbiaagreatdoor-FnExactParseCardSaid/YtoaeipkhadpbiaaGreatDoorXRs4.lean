import Derived.Test.YtoaeipkhadpbiaaGreatDoorXRi2
set_option linter.defProp false
namespace Go.Proofs.YtoaeipkhadpbiaaGreatDoor
set_option linter.unusedVariables false
set_option linter.unusedSimpArgs false
open Go Go.Vm
open Go.IntKind (i64)
variable {l:List Tk}
def aes{lv:Nat}{k:Int}(h:Nat.beq lv 8=false):Df lv false k=(Gv k==(lv:Int)):=by rw[Df,h];simp
def lv3(k:Int):(k==44)=(Gv k==3):=by
 cases h:k==44 with
 |true=>rw[Gv,h];rfl
 |false=>rw[Gv,h,aX];cases k==45<;>cases(k==67||k==46)<;>cases(k==63||(k==48||(k==47||(k==50||(k==62||k==49)))))<;>cases k==99<;>cases(k==55||k==56)<;>cases(k==57||(k==58||k==59))<;>cases k==60<;>rfl
def lv4(k:Int):(k==45)=(Gv k==4):=by
 cases h4:k==44 with
 |true=>
  have e:k=44:=by rwa [beq_iff_eq] at h4
  rw[e];rfl
 |false=>
  cases h:k==45 with
  |true=>rw[Gv,h4,h];rfl
  |false=>rw[Gv,h4,h,aX,aX];cases(k==67||k==46)<;>cases(k==63||(k==48||(k==47||(k==50||(k==62||k==49)))))<;>cases k==99<;>cases(k==55||k==56)<;>cases(k==57||(k==58||k==59))<;>cases k==60<;>rfl
structure RI(l:List Tk)(n m:Nat):Prop where
 e1:∀a b i nt,i<=l.length->nt.length<=i->AP l (M.gQ m a b (au l) (i:Int) false (encS nt)) (ex l n 1 a b i nt)
 e2:∀a b i nt,i<=l.length->nt.length<=i->AP l (M.pV m a b (au l) (i:Int) false (encS nt)) (ex l n 2 a b i nt)
 e3:∀a b i nt,i<=l.length->nt.length<=i->AP l (M.xR m a b (au l) (i:Int) false (encS nt)) (ex l n 3 a b i nt)
 e4:∀a b i nt,i<=l.length->nt.length<=i->AP l (M.qV m a b (au l) (i:Int) false (encS nt)) (ex l n 4 a b i nt)
 e5:∀a b i nt,i<=l.length->nt.length<=i->AP l (M.ug m a b (au l) (i:Int) false (encS nt)) (ex l n 5 a b i nt)
 e6:∀a b i nt,i<=l.length->nt.length<=i->AP l (M.jL m a b (au l) (i:Int) false (encS nt)) (ex l n 6 a b i nt)
 e7:∀a b i nt,i<=l.length->nt.length<=i->AP l (M.lS m a b (au l) (i:Int) false (encS nt)) (ex l n 7 a b i nt)
 e8:∀a b i nt,i<=l.length->nt.length<=i->AP l (M.qU m a b (au l) (i:Int) false (encS nt)) (ex l n 8 a b i nt)
 e9:∀a b i nt,i<=l.length->nt.length<=i->AP l (M.oP m a b (au l) (i:Int) false (encS nt)) (ex l n 9 a b i nt)
 e10:∀a b i nt,i<=l.length->nt.length<=i->AP l (M.qR m a b (au l) (i:Int) false (encS nt)) (ex l n 10 a b i nt)
 e11:∀a b i nt,i<=l.length->nt.length<=i->AP l (M.jK m a b (au l) (i:Int) false (encS nt)) (ex l n 11 a b i nt)
 e12:∀a b i nt,i<=l.length->nt.length<=i->AP l (M.vW m a b (au l) (i:Int) false (encS nt)) (ex l n 12 a b i nt)
 e13:∀a b i nt,i<=l.length->nt.length<=i->AP l (M.tC m (au l) (i:Int) false (encS nt)) (ex l n 13 a b i nt)
 e14:∀a b i nt,i<=l.length->nt.length<=i->AP l (M.lX m (au l) (i:Int) false (encS nt)) (ex l n 14 a b i nt)
 e15:∀a b i nt,i<=l.length->nt.length<=i->AP l (M.oM m (au l) (i:Int) false (encS nt)) (ex l n 15 a b i nt)
 pre:∀i nt,i<l.length->nt.length<=i->AP l (M.pU m (au l) (i:Int) false (encS nt)) (ZX l n i nt)
 its:∀a b i nt,i<=l.length->nt.length<=i->AL l (M.kP m a b (au l) (i:Int) false (encS nt)) (PU l n a b [] i nt)
def ayb(hl:l.length<=1048576){m n:Nat}{i:Nat}{nt:gY}(h:AL l (M.kP m false false (au l) (i:Int) false (encS nt)) (PU l n false false [] i nt))(hi:i<=l.length)(hn:nt.length<=i):
  AL l (M.ji (m+1) 35 (au l) (i:Int) false (encS nt)) ((PU l n false false [] i nt).bind λL i nt=>(iZ l 35 i nt).bind λ_ i nt=> .ok L i nt):=by
 rw[M.Um];have h3:((35:Int)==33)=false:=rfl;simp only[M.sW,M.zK,dP,aI,eH,aj,h3,aX,Bool.cond_self];refine AL.elim (R:=AL l) h (λ_=>trivial) (λfl ks j nt hn=> ?_) (λL fl j nt he=> ?_)
 ·simp only[dP,aI,uw,aj];exact⟨_,_,_,hn,rfl⟩
 ·have hs:=gU (acr hi) he;simp only[dP,aI];refine LD (R:=AL l) hl (by decide) ?_ (λ_ _=> ?_)
  ·simp only[dP,aI];exact⟨_,_,_,aB,rfl⟩
  ·simp only[dP,aI,iW];exact⟨_,rfl⟩
def ayc(hl:l.length<=1048576){m n:Nat}{i:Nat}{nt:gY}(h:AL l (M.kP m false false (au l) (i:Int) false (encS nt)) (PU l n false false [] i nt))(hi:i<=l.length)(hn:nt.length<=i):
  AL l (M.ji (m+1) 33 (au l) (i:Int) false (encS nt)) (Rz l (n+1) 33 i nt):=by
 rw[M.Um,Rz];simp only[M.sW,M.zK,dP,aI,eH,aj,BEq.rfl];cases hc:bD l i==33 with
 |true=>have hlt:=cZ hc (by decide);simp only[aI,nD hl hlt];exact⟨_,rfl⟩
 |false=>
  simp only[aX];refine AL.elim (R:=AL l) h (λ_=>trivial) (λfl ks j nt hn=> ?_) (λL fl j nt he=> ?_)
  ·simp only[dP,aI,uw,aj];exact⟨_,_,_,hn,rfl⟩
  ·have hs:=gU (acr hi) he;simp only[dP,aI];refine LD (R:=AL l) hl (by decide) ?_ (λ_ _=> ?_)
   ·simp only[dP,aI];exact⟨_,_,_,aB,rfl⟩
   ·simp only[dP,aI,iW];exact⟨_,rfl⟩
def auB(l:List Tk)(n i:Nat)(nt:gY):PR Xp:=bif bD l (i+1)==34 then(PU l n false false [] (i+2) nt).bind λL j nt=>(iZ l 35 j nt).bind λ_ j nt=> .ok (.mk 5 0 (Bo l i) [] L,false) j nt else agd 1 l i nt
def aBU(hl:l.length<=1048576){m n:Nat}{i:Nat}{nt:gY}(h:∀i nt,i<=l.length->nt.length<=i->AL l (M.kP m false false (au l) (i:Int) false (encS nt)) (PU l n false false [] i nt))(hi:i<l.length)(hn:nt.length<=i):
  AP l (M.qF (m+2) (au l) (i:Int) false (encS nt)) (auB l n i nt):=by
 rw[M.Xo,auB];simp only[M.qE,dP,aI,LC hl hi,aj,eH];cases hc:bD l (i+1)==34 with
 |true=>
  have hlt:=cZ hc (by decide);simp only[aI,nD hl hlt];have hL:=ayb hl (h (i+2) nt aB aB) aB aB;have e:(PU l n false false [] (i+2) nt).bind (λL j nt=>(iZ l 35 j nt).bind λ_ j nt=>PR.ok ((Tn.mk 5 0 (Bo l i) [] L,false):Xp) j nt)=
    ((PU l n false false [] (i+2) nt).bind λL i nt=>(iZ l 35 i nt).bind λ_ i nt=> .ok L i nt).bind λL j nt=> .ok ((Tn.mk 5 0 (Bo l i) [] L,false):Xp) j nt:=by
   cases PU l n false false [] (i+2) nt with
   |ok L j m=>simp only[PR.bind];cases iZ l 35 j m<;>rfl
   |bad j=>rfl
   |out=>rfl
  rw[e];refine AL.elim (R:=AP l) hL (λ_=>trivial) (λfl ks j nt hn=> ?_) (λL fl j nt he=> ?_)
  ·simp only[dP,aI];exact AP.eX hn
  ·simp only[dP,aI,iW];exact AP.mk rfl rfl rfl rfl (iW _ _) rfl
 |false=>simp only[aX];exact AP.mk rfl rfl rfl rfl rfl rfl
section
variable {n m:Nat} (hl:l.length<=1048576) (H:∀n',n'<=n->∀m',4 * n'+30<=m'->RI l n' m') (hm:4 * (n+1)+30<=m+1)
include hl H hm
theorem aLQ(a b:Bool)(i:Nat)(nt:gY)(hi:i<=l.length)(hn:nt.length<=i):AP l (M.gQ (m+1) a b (au l) (i:Int) false (encS nt)) (ex l (n+1) 1 a b i nt):=by
 have h:=H n (zaO _) m aB;rw[M.Rl];simp only[M.pR,dP,aI,ex];refine AP.elim (R:=AP l) (h.e2 a b i nt hi hn) (λ_=>trivial) (λk op x y fl ks tg j nt hn=> ?_) (λx fl ks j nt hk he=> ?_)
 ·simp only[aI,dP];exact AP.eX hn
 ·have hs:=gU (Gx aB aB hi) he;simp only[aX,dP,aI,eH,aj,(aga _).2];cases ht:tgt x with
  |false=>simp only[Bool.not_false,aI,Bool.false_and,aX];exact AP.mk rfl rfl rfl rfl (L6 hk) ht.symm
  |true=>
   simp only[zaN,aX,Bool.true_and];cases hc:aiQ (bD l j) with
   |false=>simp only[Bool.not_false,aI,aX];exact AP.mk rfl rfl rfl rfl (L6 hk) ht.symm
   |true=>
    have hlt:=dV (aiW hc);simp only[zaN,aX,aI,nD hl hlt];refine AP.elim (R:=AP l) (h.e1 a b (j+1) nt aB aB) (λ_=>trivial) (λk op x y fl ks tg j nt hn=> ?_) (λy fl' kt j' X7 hk' he'=> ?_)
    ·simp only[aI,dP];exact AP.eX hn
    ·simp only[aI,dP];exact AP.mk rfl rfl rfl rfl (fz2 (L6 hk) (L6 hk')) rfl
theorem aLR(a b:Bool)(i:Nat)(nt:gY)(hi:i<=l.length)(hn:nt.length<=i):AP l (M.pV (m+1) a b (au l) (i:Int) false (encS nt)) (ex l (n+1) 2 a b i nt):=by
 have h:=H n (zaO _) m aB;rw[M.Uo];simp only[M.tu,dP,aI,ex];refine AP.elim (R:=AP l) (h.e3 a b i nt hi hn) (λ_=>trivial) (λk op x y fl ks tg j nt hn=> ?_) (λx fl ks j nt hk he=> ?_)
 ·simp only[aI,dP];exact AP.eX hn
 ·have hs:=gU (Gx aB aB hi) he;simp only[aX,dP,aI,eH,aj,bne];cases hc:bD l j==65 with
  |false=>simp only[Bool.not_false,aI,aX];exact AP.mk rfl rfl rfl rfl (L6 hk) rfl
  |true=>
   have hlt:=cZ hc (by decide);simp only[zaN,aX,aI,nD hl hlt];refine AP.elim (R:=AP l) (h.e2 a b (j+1) nt aB aB) (λ_=>trivial) (λk op x y fl ks tg j nt hn=> ?_) (λy fl' kt j' X7 hk' he'=> ?_)
   ·simp only[aI,dP,uw,aj];exact AP.eX hn
   ·have hs':=gU (Gx aB aB aB) he';simp only[aI,dP];refine LD (R:=AP l) hl (by decide) ?_ (λ_ _=> ?_)
    ·simp only[dP,aI];exact AP.eX aB
    ·simp only[dP,aI,aX];refine AP.elim (R:=AP l) (h.e2 a b (j'+1) X7 aB aB) (λ_=>trivial) (λk op x y fl ks tg j nt hn=> ?_) (λz aRJ ku j'' aSA hk'' aRK=> ?_)
     ·simp only[aI,dP];exact AP.eX hn
     ·simp only[aI,dP];exact AP.mk rfl rfl rfl rfl (fz3 (L6 hk) (L6 hk') (L6 hk'')) rfl
theorem aLS(a b:Bool)(i:Nat)(nt:gY)(hi:i<=l.length)(hn:nt.length<=i):AP l (M.xR (m+1) a b (au l) (i:Int) false (encS nt)) (ex l (n+1) 3 a b i nt):=by
 have h:=H n (zaO _) m aB;rw[M.Wv];simp only[M.xQ,dP,aI,ex];refine AP.elim (R:=AP l) (h.e4 a b i nt hi hn) (λ_=>trivial) (λk op x y fl ks tg j nt hn=> ?_) (λx fl ks j nt hk he=> ?_)
 ·rw[show M.y7 _ _ _ _ _ _ _ _ _=_ from aN rfl];simp only[aj,aI,dP];exact AP.eX hn
 ·have hs:=gU (Gx aB aB hi) he;rw[M.y7];refine AC.elim (Qw hl (lv:=3) (a:=a) (b:=b) (rec:=M.qV m) aB aB ?_ ?_ ?_ n (λn' hn' i nt hi hn=>(H n' hn' m aB).e4 a b i nt hi hn) x j nt _ aB aB (L6 hk)) (by intros;simp only[aI,dP])
  ·intros
   rfl
  ·intro i k op x y ks tg nt hc;have hb:(b && Nat.beq 3 7)=false:=Bool.and_false b;rw[hb] at hc;have hk:(bD l i==44)=false:=by rw[lv3];exact(aes (lv:=3) rfl).symm.trans hc
   simp only[M.Lr,M.zN,Bool.not_false,aI,dP,eH,aj,hk,aX]
  ·intro i k op x y ks tg nt hc hlt hn;have hb:(b && Nat.beq 3 7)=false:=Bool.and_false b;rw[hb] at hc;have hk:(bD l i==44)=true:=by rw[lv3];exact(aes (lv:=3) rfl).symm.trans hc
   have hk':bD l i=44:=by rwa [beq_iff_eq] at hk
   simp only[M.Lr,M.zN,Bool.not_false,aI,dP,eH,aj,hk,nD hl hlt,Qv hl (i+1) nt aB aB,M.lM,M.CO];rw[hk'];rfl
theorem aLT(a b:Bool)(i:Nat)(nt:gY)(hi:i<=l.length)(hn:nt.length<=i):AP l (M.qV (m+1) a b (au l) (i:Int) false (encS nt)) (ex l (n+1) 4 a b i nt):=by
 have h:=H n (zaO _) m aB;rw[M.U6];simp only[M.vV,dP,aI,ex];refine AP.elim (R:=AP l) (h.e5 a b i nt hi hn) (λ_=>trivial) (λk op x y fl ks tg j nt hn=> ?_) (λx fl ks j nt hk he=> ?_)
 ·rw[show M.xP _ _ _ _ _ _ _ _ _=_ from aN rfl];simp only[aj,aI,dP];exact AP.eX hn
 ·have hs:=gU (Gx aB aB hi) he;rw[M.xP];refine AC.elim (Qw hl (lv:=4) (a:=a) (b:=b) (rec:=M.ug m) aB aB ?_ ?_ ?_ n (λn' hn' i nt hi hn=>(H n' hn' m aB).e5 a b i nt hi hn) x j nt _ aB aB (L6 hk)) (by intros;simp only[aI,dP])
  ·intros
   rfl
  ·intro i k op x y ks tg nt hc;have hb:(b && Nat.beq 4 7)=false:=Bool.and_false b;rw[hb] at hc;have hk:(bD l i==45)=false:=by rw[lv4];exact(aes (lv:=4) rfl).symm.trans hc
   simp only[M.JK,M.yN,Bool.not_false,aI,dP,eH,aj,hk,aX]
  ·intro i k op x y ks tg nt hc hlt hn;have hb:(b && Nat.beq 4 7)=false:=Bool.and_false b;rw[hb] at hc;have hk:(bD l i==45)=true:=by rw[lv4];exact(aes (lv:=4) rfl).symm.trans hc
   have hk':bD l i=45:=by rwa [beq_iff_eq] at hk
   simp only[M.JK,M.yN,Bool.not_false,aI,dP,eH,aj,hk,nD hl hlt,Qv hl (i+1) nt aB aB,M.lM,M.CO];rw[hk'];rfl
theorem aLU(a b:Bool)(i:Nat)(nt:gY)(hi:i<=l.length)(hn:nt.length<=i):AP l (M.qU (m+1) a b (au l) (i:Int) false (encS nt)) (ex l (n+1) 8 a b i nt):=by
 have h:=H n (zaO _) m aB;rw[M.U5];simp only[M.vS,dP,aI,ex];refine AP.elim (R:=AP l) (h.e9 a b i nt hi hn) (λ_=>trivial) (λk op x y fl ks tg j nt hn=> ?_) (λx fl ks j nt hk he=> ?_)
 ·rw[show M.xM _ _ _ _ _ _ _ _ _=_ from aN rfl];simp only[aj,aI,dP];exact AP.eX hn
 ·have hs:=gU (Gx aB aB hi) he;rw[M.xM];refine AC.elim (Qw hl (lv:=8) (a:=a) (b:=b) (rec:=M.oP m) aB aB ?_ ?_ ?_ n (λn' hn' i nt hi hn=>(H n' hn' m aB).e9 a b i nt hi hn) x j nt _ aB aB (L6 hk)) (by intros;simp only[aI,dP])
  ·intros
   rfl
  ·intro i k op x y ks tg nt hc;have hb:(b && Nat.beq 8 7)=false:=Bool.and_false b;rw[hb] at hc;have hk:aqK (bD l i)=false:=hc;simp only[M.JJ,M.yL,Bool.not_false,aI,dP,eH,aj,aBT,hk,aX]
  ·intro i k op x y ks tg nt hc hlt hn;have hb:(b && Nat.beq 8 7)=false:=Bool.and_false b;rw[hb] at hc;have hk:aqK (bD l i)=true:=hc;simp only[M.JJ,M.yL,Bool.not_false,aI,dP,eH,aj,aBT,hk,M.lM,M.CO];rfl
theorem aLV(a b:Bool)(i:Nat)(nt:gY)(hi:i<=l.length)(hn:nt.length<=i):AP l (M.oP (m+1) a b (au l) (i:Int) false (encS nt)) (ex l (n+1) 9 a b i nt):=by
 have h:=H n (zaO _) m aB;rw[M.U4];simp only[M.vP,dP,aI,ex];refine AP.elim (R:=AP l) (h.e10 a b i nt hi hn) (λ_=>trivial) (λk op x y fl ks tg j nt hn=> ?_) (λx fl ks j nt hk he=> ?_)
 ·rw[show M.xK _ _ _ _ _ _ _ _ _=_ from aN rfl];simp only[aj,aI,dP];exact AP.eX hn
 ·have hs:=gU (Gx aB aB hi) he;rw[M.xK];refine AC.elim (Qw hl (lv:=9) (a:=a) (b:=b) (rec:=M.qR m) aB aB ?_ ?_ ?_ n (λn' hn' i nt hi hn=>(H n' hn' m aB).e10 a b i nt hi hn) x j nt _ aB aB (L6 hk)) (by intros;simp only[aI,dP])
  ·intros
   rfl
  ·intro i k op x y ks tg nt hc;have hb:(b && Nat.beq 9 7)=false:=Bool.and_false b;rw[hb] at hc;have hk:(Gv (bD l i)==9)=false:=(aes (lv:=9) rfl).symm.trans hc;simp only[M.JI,M.yK,Bool.not_false,aI,dP,eH,aj,(Qu _).1,hk,aX]
  ·intro i k op x y ks tg nt hc hlt hn;have hb:(b && Nat.beq 9 7)=false:=Bool.and_false b;rw[hb] at hc;have hk:(Gv (bD l i)==9)=true:=(aes (lv:=9) rfl).symm.trans hc;simp only[M.JI,M.yK,Bool.not_false,aI,dP,eH,aj,(Qu _).1,hk,nD hl hlt,M.lM,M.CO];rfl
theorem aDO(a b:Bool)(i:Nat)(nt:gY)(hi:i<=l.length)(hn:nt.length<=i):AP l (M.qR (m+1) a b (au l) (i:Int) false (encS nt)) (ex l (n+1) 10 a b i nt):=by
 have h:=H n (zaO _) m aB;rw[M.U0];simp only[M.vO,dP,aI,ex];refine AP.elim (R:=AP l) (h.e11 a b i nt hi hn) (λ_=>trivial) (λk op x y fl ks tg j nt hn=> ?_) (λx fl ks j nt hk he=> ?_)
 ·rw[show M.xJ _ _ _ _ _ _ _ _ _=_ from aN rfl];simp only[aj,aI,dP];exact AP.eX hn
 ·have hs:=gU (Gx aB aB hi) he;rw[M.xJ];refine AC.elim (Qw hl (lv:=10) (a:=a) (b:=b) (rec:=M.jK m) aB aB ?_ ?_ ?_ n (λn' hn' i nt hi hn=>(H n' hn' m aB).e11 a b i nt hi hn) x j nt _ aB aB (L6 hk)) (by intros;simp only[aI,dP])
  ·intros
   rfl
  ·intro i k op x y ks tg nt hc;have hb:(b && Nat.beq 10 7)=false:=Bool.and_false b;rw[hb] at hc;have hk:(Gv (bD l i)==10)=false:=(aes (lv:=10) rfl).symm.trans hc;simp only[M.JH,M.yJ,Bool.not_false,aI,dP,eH,aj,(Qu _).1,hk,aX]
  ·intro i k op x y ks tg nt hc hlt hn;have hb:(b && Nat.beq 10 7)=false:=Bool.and_false b;rw[hb] at hc;have hk:(Gv (bD l i)==10)=true:=(aes (lv:=10) rfl).symm.trans hc;simp only[M.JH,M.yJ,Bool.not_false,aI,dP,eH,aj,(Qu _).1,hk,nD hl hlt,M.lM,M.CO];rfl
theorem aLW(a b:Bool)(i:Nat)(nt:gY)(hi:i<=l.length)(hn:nt.length<=i):AP l (M.jL (m+1) a b (au l) (i:Int) false (encS nt)) (ex l (n+1) 6 a b i nt):=by
 have h:=H n (zaO _) m aB;rw[M.SC];simp only[M.qO,M.yM,dP,aI,ex];refine AP.elim (R:=AP l) (h.e7 a b i nt hi hn) (λ_=>trivial) (λk op x y fl ks tg j nt hn=> ?_) (λx fl ks j nt hk he=> ?_)
 ·simp only[aI,dP];exact AP.eX hn
 ·have hs:=gU (Gx aB aB hi) he;simp only[aX,dP,aI,eH,aj,bne,M.lM,M.CO];have hgo:j<l.length->AP l ((M.lS m a b (au l) ((j+1:Nat):Int) false (encS nt)).bind λr=>
    bif ah r.2.2.2.2.2.2.2.2.2.2 then some (12,bD l j,[],[],false,ak [[D.int .i64 x.1.kind,D.int .i64 x.1.op,D.str x.1.text,D.str x.1.other,D.sl false 5 (ak ks)],[D.int .i64 r.1,D.int .i64 r.2.1,D.str r.2.2.1,D.str r.2.2.2.1,D.sl false 5 (ak r.2.2.2.2.2.1)]],false,
     r.2.2.2.2.2.2.2.1,r.2.2.2.2.2.2.2.2.1,r.2.2.2.2.2.2.2.2.2.1,r.2.2.2.2.2.2.2.2.2.2) else none) ((ex l n 7 a b (j+1) nt).bind λy j' nt=> .ok (.mk 12 (bD l j) [] [] [x.1,y.1],false) j' nt):=by
   intro hlt;refine AP.elim (R:=AP l) (h.e7 a b (j+1) nt aB aB) (λ_=>trivial) (λk op x y fl ks tg j nt hn=> ?_) (λy fl' kt j' X7 hk' he'=> ?_)
   ·simp only[aI,dP];exact AP.eX hn
   ·simp only[aI,dP];exact AP.mk rfl rfl rfl rfl (by rw[fz2 (L6 hk) (L6 hk'),iW];rfl) rfl
  cases hc:bD l j==67 with
  |true=>have hlt:=cZ hc (by decide);simp only[zaN,aX,aI,Bool.true_or,nD hl hlt];exact hgo hlt
  |false=>
   cases hc':bD l j==46 with
   |true=>have hlt:=cZ hc' (by decide);simp only[zaN,Bool.not_false,aX,aI,Bool.or_true,nD hl hlt];exact hgo hlt
   |false=>simp only[Bool.not_false,aX,aI,Bool.or_false];exact AP.mk rfl rfl rfl rfl (L6 hk) rfl
theorem aLX(a b:Bool)(i:Nat)(nt:gY)(hi:i<=l.length)(hn:nt.length<=i):AP l (M.lS (m+1) a b (au l) (i:Int) false (encS nt)) (ex l (n+1) 7 a b i nt):=by
 have h:=H n (zaO _) m aB;rw[M.P7];simp only[M.oL,M.vT,dP,aI,ex];refine AP.elim (R:=AP l) (h.e8 a b i nt hi hn) (λ_=>trivial) (λk op x y fl ks tg j nt hn=> ?_) (λx fl ks j nt hk he=> ?_)
 ·simp only[aI,dP];exact AP.eX hn
 ·have hs:=gU (Gx aB aB hi) he;simp only[aX,dP,aI,eH,aj,bne,M.lM,M.CO,(Qu _).1];have hgo:j<l.length->AP l ((M.qU m a b (au l) ((j+1:Nat):Int) false (encS nt)).bind λr=>
    bif ah r.2.2.2.2.2.2.2.2.2.2 then some (12,bD l j,[],[],false,ak [[D.int .i64 x.1.kind,D.int .i64 x.1.op,D.str x.1.text,D.str x.1.other,D.sl false 5 (ak ks)],[D.int .i64 r.1,D.int .i64 r.2.1,D.str r.2.2.1,D.str r.2.2.2.1,D.sl false 5 (ak r.2.2.2.2.2.1)]],false,
     r.2.2.2.2.2.2.2.1,r.2.2.2.2.2.2.2.2.1,r.2.2.2.2.2.2.2.2.2.1,r.2.2.2.2.2.2.2.2.2.2) else none) ((ex l n 8 a b (j+1) nt).bind λy j' nt=> .ok (.mk 12 (bD l j) [] [] [x.1,y.1],false) j' nt):=by
   intro hlt;refine AP.elim (R:=AP l) (h.e8 a b (j+1) nt aB aB) (λ_=>trivial) (λk op x y fl ks tg j nt hn=> ?_) (λy fl' kt j' X7 hk' he'=> ?_)
   ·simp only[aI,dP];exact AP.eX hn
   ·simp only[aI,dP];exact AP.mk rfl rfl rfl rfl (by rw[fz2 (L6 hk) (L6 hk'),iW];rfl) rfl
  have e7:Df 7 b (bD l j)=(Gv (bD l j)==7 && !(b && bD l j==62)):=rfl;rw[e7];cases hc:Gv (bD l j)==7 with
  |false=>simp only[Bool.not_false,aX,aI,Bool.false_and];exact AP.mk rfl rfl rfl rfl (L6 hk) rfl
  |true=>
   have hlt:j<l.length:=by
    refine dV λe=> ?_
    rw[e] at hc;exact absurd hc (by decide)
   simp only[zaN,aX,aI,Bool.true_and,nD hl hlt];cases b with
   |false=>simp only[Bool.false_and,Bool.not_false,aI,aX];exact hgo hlt
   |true=>
    simp only[Bool.true_and,aI];cases hc':bD l j==62 with
    |true=>simp only[zaN,aX,aI];exact AP.mk rfl rfl rfl rfl (L6 hk) rfl
    |false=>simp only[Bool.not_false,aX,aI];exact hgo hlt
theorem aDP(a b:Bool)(i:Nat)(nt:gY)(hi:i<=l.length)(hn:nt.length<=i):AP l (M.jK (m+1) a b (au l) (i:Int) false (encS nt)) (ex l (n+1) 11 a b i nt):=by
 have h:=H n (zaO _) m aB;rw[M.SB];simp only[M.qN,M.yI,M.uf,dP,aI,ex,eH,aj,aX,bne];have hgo:i<l.length->AP l ((M.jK m a b (au l) ((i+1:Nat):Int) false (encS nt)).bind λr=>
   bif ah r.2.2.2.2.2.2.2.2.2.2 then some (11,bD l i,[],[],true,[[D.int .i64 r.1,D.int .i64 r.2.1,D.str r.2.2.1,D.str r.2.2.2.1,D.sl false 5 (ak r.2.2.2.2.2.1)]],false,
    r.2.2.2.2.2.2.2.1,r.2.2.2.2.2.2.2.2.1,r.2.2.2.2.2.2.2.2.2.1,r.2.2.2.2.2.2.2.2.2.2) else none) ((ex l n 11 a b (i+1) nt).bind λx j nt=> .ok (.mk 11 (bD l i) [] [] [x.1],false) j nt):=by
  intro hlt;refine AP.elim (R:=AP l) (h.e11 a b (i+1) nt aB aB) (λ_=>trivial) (λk op x y fl ks tg j nt hn=> ?_) (λy fl' kt j' X7 hk' he'=> ?_)
  ·simp only[aI,dP];exact AP.eX hn
  ·simp only[aI,dP];exact AP.mk rfl rfl rfl rfl (fz1 (L6 hk')) rfl
 cases h5:bD l i==55 with
 |true=>have hlt:=cZ h5 (by decide);simp only[zaN,aX,aI,Bool.true_or,nD hl hlt];exact hgo hlt
 |false=>
  cases h6:bD l i==56 with
  |true=>have hlt:=cZ h6 (by decide);simp only[zaN,Bool.not_false,aX,aI,Bool.true_or,Bool.or_true,nD hl hlt];exact hgo hlt
  |false=>
   cases h1:bD l i==61 with
   |true=>have hlt:=cZ h1 (by decide);simp only[zaN,Bool.not_false,aX,aI,Bool.true_or,Bool.or_true,nD hl hlt];exact hgo hlt
   |false=>simp only[Bool.not_false,aX,aI,Bool.or_false];exact AP.pass (h.e12 a b i nt hi hn) (by intros;simp only[dP,aI])
theorem aDQ(a b:Bool)(i:Nat)(nt:gY)(hi:i<=l.length)(hn:nt.length<=i):AP l (M.vW (m+1) a b (au l) (i:Int) false (encS nt)) (ex l (n+1) 12 a b i nt):=by
 have h:=H n (zaO _) m aB;rw[M.UZ];simp only[M.vN,dP,aI,ex];refine AP.elim (R:=AP l) (h.e13 a b i nt hi hn) (λ_=>trivial) (λk op x y fl ks tg j nt hn=> ?_) (λx fl ks j nt hk he=> ?_)
 ·simp only[aI,dP];exact AP.eX hn
 ·have hs:=gU (Gx aB aB hi) he;simp only[aX,dP,aI,eH,aj,bne,M.lM,M.CO];cases hc:bD l j==60 with
  |false=>simp only[Bool.not_false,aI,aX];exact AP.mk rfl rfl rfl rfl (L6 hk) rfl
  |true=>
   have hlt:=cZ hc (by decide);simp only[zaN,aX,aI,nD hl hlt];refine AP.elim (R:=AP l) (h.e11 a b (j+1) nt aB aB) (λ_=>trivial) (λk op x y fl ks tg j nt hn=> ?_) (λy fl' kt j' X7 hk' he'=> ?_)
   ·simp only[aI,dP];exact AP.eX hn
   ·simp only[aI,dP];exact AP.mk rfl rfl rfl rfl (by rw[fz2 (L6 hk) (L6 hk'),iW];rfl) rfl
theorem aDR(a b:Bool)(i:Nat)(nt:gY)(hi:i<=l.length)(hn:nt.length<=i):AP l (M.tC (m+1) (au l) (i:Int) false (encS nt)) (ex l (n+1) 13 a b i nt):=by
 have h:=H n (zaO _) m aB;rw[M.Un];simp only[M.tq,M.zM,dP,aI,ex,Bool.not_false,eH,aj,aqP];cases hc:isStep (bD l i) with
 |true=>have hlt:=dV (KU hc);simp only[aI];exact AP.pass (h.pre i nt hlt hn) (by intros;simp only[dP,aI])
 |false=>
  simp only[aX];refine AP.elim (R:=AP l) (h.e14 a b i nt hi hn) (λ_=>trivial) (λk op x y fl ks tg j nt hn=> ?_) (λx fl ks j nt hk he=> ?_)
  ·simp only[aI,dP];exact AP.eX hn
  ·have hs:=gU (Gx aB aB hi) he;simp only[aX,dP,aI,eH,aj,aqP];cases ht:tgt x with
   |false=>simp only[Bool.not_false,aI,Bool.false_and,aX];exact AP.mk rfl rfl rfl rfl (L6 hk) ht.symm
   |true=>
    simp only[zaN,aX,Bool.true_and];cases hc:isStep (bD l j) with
    |false=>simp only[Bool.not_false,aI,aX];exact AP.mk rfl rfl rfl rfl (L6 hk) ht.symm
    |true=>have hlt:=dV (KU hc);simp only[zaN,aX,aI,nD hl hlt];exact AP.mk rfl rfl rfl rfl (fz1 (L6 hk)) rfl
theorem aDS(a b:Bool)(i:Nat)(nt:gY)(hi:i<=l.length)(hn:nt.length<=i):AP l (M.lX (m+1) (au l) (i:Int) false (encS nt)) (ex l (n+1) 14 a b i nt):=by
 have h:=H n (zaO _) m aB;rw[M.SA];simp only[M.qM,M.yG,dP,aI,aX,ex,eH,aj,bne];cases hc:bD l i==68 with
 |false=>simp only[Bool.not_false,aI,aX];exact AP.pass (h.e15 a b i nt hi hn) (by intros;simp only[dP,aI])
 |true=>
  have hlt:=cZ hc (by decide);simp only[zaN,aX,aI,nD hl hlt,eH,aj,aqP];cases hs:isStep (bD l (i+1)) with
  |true=>
   have hlt':=dV (KU hs);simp only[aI,dP];refine AP.elim (R:=AP l) (h.pre (i+1) nt hlt' aB) (λ_=>trivial) (λk op x y fl ks tg j nt hn=> ?_) (λy fl' kt j' X7 hk' he'=> ?_)
   ·simp only[aI,dP];exact AP.eX hn
   ·simp only[aI,dP];exact AP.mk rfl rfl rfl rfl (fz1 (L6 hk')) rfl
  |false=>
   simp only[aX,aI,dP];refine AP.elim (R:=AP l) (h.e14 a b (i+1) nt aB aB) (λ_=>trivial) (λk op x y fl ks tg j nt hn=> ?_) (λy fl' kt j' X7 hk' he'=> ?_)
   ·simp only[aI,dP];exact AP.eX hn
   ·simp only[aI,dP];exact AP.mk rfl rfl rfl rfl (fz1 (L6 hk')) rfl
end
variable {l:List Tk}
def aeu{L:List Tn}{x:Tn}{ks:ay}(h:ak ks=dN false x.kids):
  dN false L++[[D.int .i64 x.kind,D.int .i64 x.op,D.str x.text,D.str x.other,D.sl false 5 (ak ks)]]=dN false (L++[x]):=by
 rw[Aq,h,<-aqI];rfl
def itF(u:zap⊕zaG⊕zap):Option TL:=
 iO u (λt=>bif ah t.2.2.2.2 then some (true,t.2.2.2.1,t.1,t.2.1,t.2.2.1,t.2.2.2.2) else none) λu=>
  iO u (λt=>bif ah t.2.2.2 then some (true,t.2.2.1,t.1,t.2.1,true,t.2.2.2) else none) λu=>
  letE u λt=>bif ah t.2.2.2.2 then some (true,t.2.2.2.1,t.1,t.2.1,t.2.2.1,t.2.2.2.2) else none
def ai0(hl:l.length<=1048576){m:Nat}{a b:Bool}:∀n,(∀n',n'<n->∀i nt,i<=l.length->nt.length<=i->AP l (M.gQ m a b (au l) (i:Int) false (encS nt)) (ex l n' 1 a b i nt))->
  ∀L i nt,L.length<6->i<=l.length->nt.length<=i->AL l ((M.tX (M.gQ m) a b (au l,(i:Int),false,dN false L,encS nt)).bind itF) (PU l n a b L i nt)
 |0,_,_,_,_,_,_,_=>by rw[PU];trivial
 |n+1,hrec,L,i,nt,hL,hi,hn=>by
  have hr:=hrec n (Nat.lt_succ_self n) i nt hi hn;have hs:=(sats l n).ex 1 a b i nt aB aB hi;rw[PU,M.tX];have hb:M.G9 (M.gQ m) a b (au l,(i:Int),false,dN false L,encS nt)=
    (M.gQ m a b (au l) (i:Int) false (encS nt)).bind λDq=>
    (bif((dN false L).length+[[D.int .i64 Dq.1,D.int .i64 Dq.2.1,D.str Dq.2.2.1,D.str Dq.2.2.2.1,D.sl false 5 (ak Dq.2.2.2.2.2.1)]].length) * 72|>.ble 140737488355328 then
    (bif((dN false L).length+[[D.int .i64 Dq.1,D.int .i64 Dq.2.1,D.str Dq.2.2.1,D.str Dq.2.2.2.1,D.sl false 5 (ak Dq.2.2.2.2.2.1)]].length).ble 140737488355328 then
     (bif Dq.2.2.2.2.2.2.2.2.2.1 then
     (some (.inr (.inl ((Dq.2.2.2.2.2.2.2.1,Dq.2.2.2.2.2.2.2.2.1,Dq.2.2.2.2.2.2.2.2.2.1,dN false L++[[D.int .i64 Dq.1,D.int .i64 Dq.2.1,D.str Dq.2.2.1,D.str Dq.2.2.2.1,D.sl false 5 (ak Dq.2.2.2.2.2.1)]],Dq.2.2.2.2.2.2.2.2.2.2))))) else
     (bif ah Dq.2.2.2.2.2.2.2.2.2.2 then
      ((M.aF Dq.2.2.2.2.2.2.2.1 Dq.2.2.2.2.2.2.2.2.1 Dq.2.2.2.2.2.2.2.2.2.1 Dq.2.2.2.2.2.2.2.2.2.2).bind λafi=>
      (bif afi.1 !=36 then
       (some (.inr (.inl ((afi.2.1,afi.2.2.1,afi.2.2.2.1,dN false L++[[D.int .i64 Dq.1,D.int .i64 Dq.2.1,D.str Dq.2.2.1,D.str Dq.2.2.2.1,D.sl false 5 (ak Dq.2.2.2.2.2.1)]],afi.2.2.2.2))))) else
       (bif((dN false L++[[D.int .i64 Dq.1,D.int .i64 Dq.2.1,D.str Dq.2.2.1,D.str Dq.2.2.2.1,D.sl false 5 (ak Dq.2.2.2.2.2.1)]]).length:Int)==6 then
       (some (.inr (.inr (.inl ((afi.2.1,afi.2.2.1,dN false L++[[D.int .i64 Dq.1,D.int .i64 Dq.2.1,D.str Dq.2.2.1,D.str Dq.2.2.2.1,D.sl false 5 (ak Dq.2.2.2.2.2.1)]],afi.2.2.2.2)))))) else
       (bif ah afi.2.2.2.2 then
        ((M.aQ afi.2.1 (i64.wrap (afi.2.2.1+1)) afi.2.2.2.1 afi.2.2.2.2).bind λaAI=>
        (some (.inl ((aAI.1,aAI.2.1,aAI.2.2.1,dN false L++[[D.int .i64 Dq.1,D.int .i64 Dq.2.1,D.str Dq.2.2.1,D.str Dq.2.2.2.1,D.sl false 5 (ak Dq.2.2.2.2.2.1)]],aAI.2.2.2))))) else none)))) else none)) else none) else none):=by
   simp only[LJ,M.G9,M.Ah,Bool.not_false,aI,dP]
  generalize ex l n 1 a b i nt=p at hr hs|-;cases p with
  |out=>trivial
  |bad j=>obtain⟨k,op,x',y',fl,kt,tg,m',h1,h2⟩:=hr;rw[h2,aj] at hb;simp only[dM,zf] at hb;rw[bG aB,aI,bG aB,aI,aI] at hb;rw[aN hb,aj];simp only[itF,iO,dP,aI];exact⟨_,_,_,h1,rfl⟩
  |ok x j m'=>
   obtain⟨fl,kt,h1,h2⟩:=hr;have hs':FE l i nt.length x.1.size j m'.length:=hs;rw[h2,aj] at hb;simp only[aeu h1,dM,zf,Au] at hb;rw[bG aB,aI,bG aB,aI,aX,dP,aI,eH,aj] at hb;simp only[PR.bind];simp only[bne] at hb;cases hc:bD l j==36 with
   |false=>simp only[hc,Bool.not_false,aI] at hb;rw[aN hb,aj];simp only[itF,iO,dP,aI,aX];exact⟨_,rfl⟩
   |true=>
    have hlt:=cZ hc (by decide);simp only[hc,zaN,aX,dP,aI,nD hl hlt,Qv hl (j+1) m' aB aB,aj] at hb;rw[aI];cases h6:Nat.beq (L.length+1) 6 with
    |true=>
     have e:=Dl h6;have e':(((L.length+1:Nat):Int)==6)=true:=by rw[e];rfl
     rw[e',aI] at hb;rw[aN hb,aj,aI];simp only[itF,iO,dP,aI];exact⟨_,_,_,aB,rfl⟩
    |false=>
     have e:L.length+1≠6:=Nat.ne_of_beq_eq_false h6;have e':(((L.length+1:Nat):Int)==6)=false:=by rw[XB];omega
     rw[e',aX] at hb;rw[aY hb,aX];have hf:=Di (l:=l) (i:=j+1) (nt:=m') aB;exact ai0 hl n (λn' h=>hrec n' aB) (L++[x.1]) _ _ (by rw[Au,zf];omega) aB aB
section
variable {n m:Nat} (hl:l.length<=1048576) (H:∀n',n'<=n->∀m',4 * n'+30<=m'->RI l n' m') (hm:4 * (n+1)+30<=m+1)
include hl H hm
theorem aDT(a b:Bool)(i:Nat)(nt:gY)(hi:i<=l.length)(hn:nt.length<=i):AL l (M.kP (m+1) a b (au l) (i:Int) false (encS nt)) (PU l (n+1) a b [] i nt):=by rw[M.aaJ];exact ai0 hl (n+1) (λn' hn' i nt hi hn=>(H n' aB m aB).e1 a b i nt hi hn) [] i nt (by decide) hi hn
theorem aRL(i:Nat)(nt:gY)(hi:i<=l.length)(hn:nt.length<=i):AP l (M.yO m (au l) (i:Int) false (encS nt)) (bif bD l i==68||bD l i==6 then ex l n 14 false false i nt else .bad i):=by
 obtain⟨m2,rfl⟩:∃m2,m=m2+3:=⟨m - 3,aB⟩
 rw[M.Zo];simp only[M.tY,M.rC,aX,dP,aI,eH,aj];cases h8:bD l i==68 with
 |true=>simp only[aI,Bool.true_or];exact AP.pass ((H n (zaO _) (m2+2) aB).e14 false false i nt hi hn) (by intros;simp only[dP,aI])
 |false=>
  cases h6:bD l i==6 with
  |false=>simp only[aX,Bool.or_self,aqQ,aj,dP,aI];exact AP.eX aB
  |true=>
   have hlt:=cZ h6 (by decide);have e:bD l i=6:=by rwa [beq_iff_eq] at h6
   simp only[aI,aX,Bool.false_or];refine AP.pass ?_ (by intros;simp only[dP,aI]);cases n with
   |zero=>rw[ex];trivial
   |succ n1=>
    have e1:ex l (n1+1) 14 false false i nt=ex l n1 15 false false i nt:=by simp only[ex,h8,aX]
    rw[e1];cases n1 with
    |zero=>rw[ex];trivial
    |succ n2=>
     have h3:(bD l i==3)=false:=by rw[e];rfl
     have h4:(bD l i==4)=false:=by rw[e];rfl
     have h5:(bD l i==5)=false:=by rw[e];rfl
     have e2:ex l (n2+1) 15 false false i nt=auB l n2 i nt:=by simp only[ex,h3,h4,h5,h6,aX,aI,auB]
     rw[e2];exact aBU hl (λi nt hi hn=>(H n2 aB m2 aB).its false false i nt hi hn) hlt hn
theorem aDU(i:Nat)(nt:gY)(hi:i<l.length)(hn:nt.length<=i):AP l (M.pU (m+1) (au l) (i:Int) false (encS nt)) (ZX l (n+1) i nt):=by
 rw[M.Zp,ZX];simp only[M.tZ,dP,aI,eH,aj,nD hl hi];have e:(bif bD l (i+1)==68||bD l (i+1)==6 then(ex l n 14 false false (i+1) nt).bind λx j nt=> .ok (.mk 9 (bD l i) [] [] [x.1],false) j nt else .bad (i+1):PR Xp)=
   (bif bD l (i+1)==68||bD l (i+1)==6 then ex l n 14 false false (i+1) nt else .bad (i+1)).bind λx j nt=> .ok (.mk 9 (bD l i) [] [] [x.1],false) j nt:=by
  cases(bD l (i+1)==68||bD l (i+1)==6)<;>rfl
 rw[e];refine AP.elim (R:=AP l) (aRL hl H hm (i+1) nt aB aB) (λ_=>trivial) (λk op x y fl ks tg j nt hn=> ?_) (λy fl' kt j' X7 hk' he'=> ?_)
 ·simp only[aI,dP];exact AP.eX hn
 ·simp only[aI,dP];exact AP.mk rfl rfl rfl rfl (fz1 (L6 hk')) rfl
theorem ayd(kd:Int)(hkd:aqG kd=false)(i:Nat)(nt:gY)(hi:i<l.length)(hn:nt.length<=i):
  AP l ((M.aP 32 (au l) ((i+1:Nat):Int) false (encS nt)).bind λr=>bif r.1 then(bif ah r.2.2.2.2 then(M.ji m 33 r.2.1 r.2.2.1 r.2.2.2.1 r.2.2.2.2).bind λr'=>bif ah r'.2.2.2.2.2 then some (kd,0,Bo l i,[],false,ak r'.2.1,false,r'.2.2.1,r'.2.2.2.1,r'.2.2.2.2.1,r'.2.2.2.2.2) else none else none)
   else(bif ah r.2.2.2.2 then some (kd,0,Bo l i,[],true,[],false,r.2.1,r.2.2.1,r.2.2.2.1,r.2.2.2.2) else none))
   ((iZ l 32 (i+1) nt).bind λ_ j nt=>(Rz l n 33 j nt).bind λL j nt=> .ok (.mk kd 0 (Bo l i) [] L,false) j nt):=by
 refine LD (R:=AP l) hl (by decide) ?_ (λ_ hlt=> ?_)
 ·simp only[dP,aI,aX];exact AP.eX aB
 ·simp only[dP,aI];obtain⟨m2,rfl⟩:∃m2,m=m2+3:=⟨m - 3,aB⟩
  cases n with
  |zero=>rw[Rz];trivial
  |succ n1=>
   refine AL.elim (R:=AP l) (ayc hl ((H n1 aB (m2+2) aB).its false false (i+1+1) nt aB aB) aB aB) (λ_=>trivial) (λfl ks j nt hn=> ?_) (λL fl j nt he=> ?_)
   ·simp only[dP,aI];exact AP.eX hn
   ·simp only[dP,aI,iW];exact AP.mk rfl rfl rfl rfl (iW _ _) (by simp only[tgt,Tn.kind,hkd];rfl)
theorem aDV(a b:Bool)(i:Nat)(nt:gY)(hi:i<=l.length)(hn:nt.length<=i):AP l (M.oM (m+1) (au l) (i:Int) false (encS nt)) (ex l (n+1) 15 a b i nt):=by
 have h:=H n (zaO _) m aB;rw[M.P6];simp only[M.oK,M.wI,M.vK,dP,aI,aX,ex,eH,aj];cases h3:bD l i==3 with
 |true=>have hlt:=cZ h3 (by decide);simp only[aI,LC hl hlt,aj,dP];exact AP.mk rfl rfl rfl rfl rfl rfl
 |false=>
 cases h4:bD l i==4 with
 |true=>have hlt:=cZ h4 (by decide);simp only[aI,aX,LC hl hlt,aj,dP];exact AP.mk rfl rfl rfl rfl rfl rfl
 |false=>
 cases h5:bD l i==5 with
 |true=>have hlt:=cZ h5 (by decide);simp only[aI,aX,LC hl hlt,aj,dP];exact AP.mk rfl rfl rfl rfl rfl rfl
 |false=>
 cases h6:bD l i==6 with
 |true=>
  have hlt:=cZ h6 (by decide);simp only[aI,aX];obtain⟨m2,rfl⟩:∃m2,m=m2+2:=⟨m - 2,aB⟩
  exact AP.pass (aBU hl (λi nt hi hn=>(H n (zaO _) m2 aB).its false false i nt hi hn) hlt hn) (by intros;simp only[dP,aI])
 |false=>
 cases h7:bD l i==7 with
 |true=>
  have hlt:=cZ h7 (by decide);have e:bD l i=7:=by rwa [beq_iff_eq] at h7
  have h8:(bD l i==8)=false:=by rw[e];rfl
  simp only[aI,aX,LC hl hlt,aj,dP,h8,Bool.true_or,Bool.false_and];have:=ayd hl H hm 7 rfl i nt hlt hn;rw[e];exact this
 |false=>
 cases h8:bD l i==8 with
 |true=>
  have hlt:=cZ h8 (by decide);have e:bD l i=8:=by rwa [beq_iff_eq] at h8
  simp only[aI,aX,LC hl hlt,aj,dP,Bool.or_true,Bool.true_and];have hcall:=ayd hl H hm 8 rfl i nt hlt hn;cases hx:Bo l i==[108,101,110,103,116,104] with
  |false=>simp only[aX,Bool.false_and];rw[e];exact hcall
  |true=>
   simp only[aI,Bool.true_and,eH,aj,bne];cases h32:bD l (i+1)==32 with
   |false=>simp only[Bool.not_false,aI,dP];exact AP.mk rfl rfl rfl rfl rfl rfl
   |true=>simp only[zaN,aX,dP,aI];rw[e];exact hcall
 |false=>
 cases h32:bD l i==32 with
 |true=>
  have hlt:=cZ h32 (by decide);simp only[aI,aX,nD hl hlt,Bool.or_self];refine AP.elim (R:=AP l) (h.e1 false false (i+1) nt aB aB) (λ_=>trivial) (λk op x y fl ks tg j nt hn=> ?_) (λx fl ks j X7 hk he=> ?_)
  ·simp only[aI,dP,uw,aj];exact AP.eX hn
  ·have hs:=gU (Gx aB aB aB) he;simp only[dP,aI];refine LD (R:=AP l) hl (by decide) ?_ (λ_ hlt=> ?_)
   ·simp only[dP,aI];exact AP.eX aB
   ·simp only[dP,aI];exact AP.mk rfl rfl rfl rfl (L6 hk) rfl
 |false=>simp only[aX,Bool.or_self,aqQ,aj,dP,aI];exact AP.eX aB
end
variable {l:List Tk}
abbrev Q1:=ay×ay×Int×Bool×Bool×Bool×Int×Int×aJ×aJ×Bool×Int×Int×aJ×aJ×Bool×ay
abbrev Q2:=ay×Int×Bool×Bool×Bool×Int×Int×aJ×aJ×Bool×Int×Int×aJ×aJ×ay×Bool×ay
abbrev Q3:=ay×Int×Bool×Bool×Bool×Int×Int×aJ×aJ×Bool×Int×Int×aJ×aJ×Bool×ay×ay
def inF(u:Q1⊕Q2⊕Q3):Option TP:=iO u (λt=>bif ah t.2.2.2.2.2.2.2.2.2.2.2.2.2.2.2.2 then some (t.2.2.2.2.2.2.2.2.2.2.2.1,t.2.2.2.2.2.2.2.2.2.2.2.2.1,t.2.2.2.2.2.2.2.2.2.2.2.2.2.1,t.2.2.2.2.2.2.2.2.2.2.2.2.2.2.1,true,[],t.2.2.2.2.2.2.2.2.2.2.2.2.2.2.2.1,t.2.1,t.2.2.1,t.2.2.2.1,t.2.2.2.2.2.2.2.2.2.2.2.2.2.2.2.2) else none) λu=>iO u (λt=>bif ah t.2.2.2.2.2.2.2.2.2.2.2.2.2.2.2.2 then some (t.2.2.2.2.2.2.2.2.2.2.1,t.2.2.2.2.2.2.2.2.2.2.2.1,t.2.2.2.2.2.2.2.2.2.2.2.2.1,t.2.2.2.2.2.2.2.2.2.2.2.2.2.1,false,t.2.2.2.2.2.2.2.2.2.2.2.2.2.2.1,t.2.2.2.2.2.2.2.2.2.2.2.2.2.2.2.1,t.1,t.2.1,t.2.2.1,t.2.2.2.2.2.2.2.2.2.2.2.2.2.2.2.2) else none) λu=>letE u λt=>bif ah t.2.2.2.2.2.2.2.2.2.2.2.2.2.2.2.1 then some (t.2.2.2.2.2.2.2.2.2.2.1,t.2.2.2.2.2.2.2.2.2.2.2.1,t.2.2.2.2.2.2.2.2.2.2.2.2.1,t.2.2.2.2.2.2.2.2.2.2.2.2.2.1,true,t.2.2.2.2.2.2.2.2.2.2.2.2.2.2.2.2,t.2.2.2.2.2.2.2.2.2.2.2.2.2.2.1,t.1,t.2.1,t.2.2.1,t.2.2.2.2.2.2.2.2.2.2.2.2.2.2.2.1) else none
def q2(a b:Bool)(c:ay)(c1:Int)(c2:Bool)(k op:Int)(x y:aJ)(ks:ay)(tg:Bool)(c3:ay):Q2:=(c,c1,c2,a,b,0,0,[],[],false,k,op,x,y,ks,tg,c3)
def q3(a b:Bool)(c:ay)(c1:Int)(c2:Bool)(k op:Int)(x y:aJ)(ks:ay)(tg:Bool)(c3:ay):Q3:=(c,c1,c2,a,b,0,0,[],[],false,k,op,x,y,tg,c3,ks)
def aAJ(a b:Bool)(c1:Int)(c2:Bool)(k op:Int)(x y:aJ)(ks:ay)(tg:Bool)(nt:gY):inF (.inr (.inl (q2 a b (au l) c1 c2 k op x y ks tg (encS nt))))=some (k,op,x,y,false,ks,tg,au l,c1,c2,encS nt):=by simp only[inF,iO,q2,dP,aI]
def aAK(a b:Bool)(c1:Int)(c2:Bool)(k op:Int)(x y:aJ)(ks:ay)(tg:Bool)(nt:gY):inF (.inr (.inr (q3 a b (au l) c1 c2 k op x y ks tg (encS nt))))=some (k,op,x,y,true,ks,tg,au l,c1,c2,encS nt):=by simp only[inF,iO,letE,q3,dP,aI]
def in3(hl:l.length<=1048576){f:Int->ay->Int->Bool->ay->Option TL}{g:Bool->Bool->ay->Int->Bool->ay->Option TP}{a b:Bool}:∀(n:Nat) (x:Xp) (i:Nat) (nt:gY) (ks:ay),i<=l.length->nt.length<=i->ak ks=dN false x.1.kids->
  AP l ((M.iK f g (.inr (.inr (q3 a b (au l) (i:Int) false x.1.kind x.1.op x.1.text x.1.other ks (tgt x) (encS nt))))).bind inF) (inP l n a x i nt)
 |0,_,_,_,_,_,_,_=>by rw[inP];trivial
 |n+1,x,i,nt,ks,hi,hn,hk=>by
  rw[inP,M.iK];cases hc:bD l i==24 with
  |false=>
   have hb:M.gI f g (.inr (.inr (q3 a b (au l) (i:Int) false x.1.kind x.1.op x.1.text x.1.other ks (tgt x) (encS nt))))=some (.inr (.inr (.inr (q3 a b (au l) (i:Int) false x.1.kind x.1.op x.1.text x.1.other ks (tgt x) (encS nt))))):=by simp only[M.gI,M.kN,q3,Bool.not_false,aI,aX,dP,eH,aj,hc]
   rw[aN hb,aj,aAK,Bool.false_and,aX];exact AP.mk rfl rfl rfl rfl hk rfl
  |true=>
   cases a with
   |true=>
    have hb:M.gI f g (.inr (.inr (q3 true b (au l) (i:Int) false x.1.kind x.1.op x.1.text x.1.other ks (tgt x) (encS nt))))=some (.inr (.inr (.inr (q3 true b (au l) (i:Int) false x.1.kind x.1.op x.1.text x.1.other ks (tgt x) (encS nt))))):=by simp only[M.gI,M.kN,q3,Bool.not_false,zaN,aI,aX,dP,eH,aj,hc]
    rw[aN hb,aj,aAK];simp only[zaN,Bool.and_false,aX];exact AP.mk rfl rfl rfl rfl hk rfl
   |false=>
    have hlt:=cZ hc (by decide);have hb:M.gI f g (.inr (.inr (q3 false b (au l) (i:Int) false x.1.kind x.1.op x.1.text x.1.other ks (tgt x) (encS nt))))=(M.bI (au l) ((i+1:Nat):Int) false (encS nt)).bind λr=>some (.inl (.inr (.inr (q3 false b r.2.1 r.2.2.1 r.2.2.2.1 13 0 r.1 [] [[D.int .i64 x.1.kind,D.int .i64 x.1.op,D.str x.1.text,D.str x.1.other,D.sl true 5 ks]] false r.2.2.2.2)))):=by simp only[M.gI,M.kN,q3,Bool.not_false,aI,dP,eH,aj,hc,nD hl hlt]
    simp only[Bool.not_false,Bool.and_self,aI];cases h6:bD l (i+1)==6 with
    |false=>
     have hnm:M.bI (au l) ((i+1:Nat):Int) false (encS nt)=some ([],au l,((i+1:Nat):Int),true,encS nt):=by simp only[M.bI,M.iI,dP,aI,aX,eH,aj,bne,h6,Bool.not_false]
     rw[hnm,aj] at hb;rw[aY hb,show fQ _ _=_ from aN rfl,aj,nameP,h6];exact⟨_,_,_,_,_,_,_,_,(show nt.length<=l.length by omega),aAK (l:=l) _ _ _ _ _ _ _ _ _ _ _⟩
    |true=>
     have h2:=cZ h6 (by decide);have hnm:M.bI (au l) ((i+1:Nat):Int) false (encS nt)=some (Bo l (i+1),au l,((i+1+1:Nat):Int),false,encS nt):=by simp only[M.bI,M.iI,dP,aI,aX,eH,aj,bne,h6,zaN,LC hl h2]
     rw[hnm,aj] at hb;rw[aY hb,nameP,h6];exact in3 hl n (.mk 13 0 (Bo l (i+1)) [] [x.1],false) (i+1+1) nt _ aB aB (fz1 hk)
def in2(hl:l.length<=1048576){f:Int->ay->Int->Bool->ay->Option TL}{g:Bool->Bool->ay->Int->Bool->ay->Option TP}{a b:Bool}:∀(n:Nat) (x:Xp) (i:Nat) (nt:gY) (ks:ay),i<=l.length->nt.length<=i->ak ks=dN false x.1.kids->
  AP l ((M.iK f g (.inr (.inl (q2 a b (au l) (i:Int) false x.1.kind x.1.op x.1.text x.1.other ks (tgt x) (encS nt))))).bind inF) (inP l n a x i nt)
 |0,_,_,_,_,_,_,_=>by rw[inP];trivial
 |n+1,x,i,nt,ks,hi,hn,hk=>by
  rw[inP,M.iK];cases hc:bD l i==24 with
  |false=>
   have hb:M.gI f g (.inr (.inl (q2 a b (au l) (i:Int) false x.1.kind x.1.op x.1.text x.1.other ks (tgt x) (encS nt))))=some (.inr (.inr (.inl (q2 a b (au l) (i:Int) false x.1.kind x.1.op x.1.text x.1.other ks (tgt x) (encS nt))))):=by simp only[M.gI,M.kN,q2,Bool.not_false,aI,aX,dP,eH,aj,hc]
   rw[aN hb,aj,aAJ,Bool.false_and,aX];exact AP.mk rfl rfl rfl rfl hk rfl
  |true=>
   cases a with
   |true=>
    have hb:M.gI f g (.inr (.inl (q2 true b (au l) (i:Int) false x.1.kind x.1.op x.1.text x.1.other ks (tgt x) (encS nt))))=some (.inr (.inr (.inl (q2 true b (au l) (i:Int) false x.1.kind x.1.op x.1.text x.1.other ks (tgt x) (encS nt))))):=by simp only[M.gI,M.kN,q2,Bool.not_false,zaN,aI,aX,dP,eH,aj,hc]
    rw[aN hb,aj,aAJ];simp only[zaN,Bool.and_false,aX];exact AP.mk rfl rfl rfl rfl hk rfl
   |false=>
    have hlt:=cZ hc (by decide);have hb:M.gI f g (.inr (.inl (q2 false b (au l) (i:Int) false x.1.kind x.1.op x.1.text x.1.other ks (tgt x) (encS nt))))=(M.bI (au l) ((i+1:Nat):Int) false (encS nt)).bind λr=>some (.inl (.inr (.inr (q3 false b r.2.1 r.2.2.1 r.2.2.2.1 13 0 r.1 [] [[D.int .i64 x.1.kind,D.int .i64 x.1.op,D.str x.1.text,D.str x.1.other,D.sl false 5 ks]] false r.2.2.2.2)))):=by simp only[M.gI,M.kN,q2,q3,Bool.not_false,aI,dP,eH,aj,hc,nD hl hlt]
    simp only[Bool.not_false,Bool.and_self,aI];cases h6:bD l (i+1)==6 with
    |false=>
     have hnm:M.bI (au l) ((i+1:Nat):Int) false (encS nt)=some ([],au l,((i+1:Nat):Int),true,encS nt):=by simp only[M.bI,M.iI,dP,aI,aX,eH,aj,bne,h6,Bool.not_false]
     rw[hnm,aj] at hb;rw[aY hb,show fQ _ _=_ from aN rfl,aj,nameP,h6];exact⟨_,_,_,_,_,_,_,_,(show nt.length<=l.length by omega),aAK (l:=l) _ _ _ _ _ _ _ _ _ _ _⟩
    |true=>
     have h2:=cZ h6 (by decide);have hnm:M.bI (au l) ((i+1:Nat):Int) false (encS nt)=some (Bo l (i+1),au l,((i+1+1:Nat):Int),false,encS nt):=by simp only[M.bI,M.iI,dP,aI,aX,eH,aj,bne,h6,zaN,LC hl h2]
     rw[hnm,aj] at hb;rw[aY hb,nameP,h6];exact in3 hl n (.mk 13 0 (Bo l (i+1)) [] [x.1],false) (i+1+1) nt _ aB aB (fz1 hk)
def ao4{α:Type}{x:PR α}:x.sat λ_ _ _=>True:=by cases x<;>trivial
def ash{a b:Bool}:∀(n:Nat) (L:List Tn) (i:Nat) (nt:gY),(PU l n a b L i nt).sat λL' _ _=>L.length<L'.length
 |0,_,_,_=>by rw[PU];trivial
 |n+1,L,i,nt=>by
  rw[PU,dW];refine bJ ao4 λx j m _=> ?_
  rw[eP];refine⟨λ_=> ?_,λ_=> ?_⟩
  ·rw[eP];refine⟨λ_=>trivial,λ_=> ?_⟩;exact bJ (ash n _ _ _) λL' _ _ h=>by rw[Au,zf] at h;omega
  ·show L.length<(L++[x.1]).length;rw[Au,zf];omega
def ao5{i:Nat}(h32:bD l i=32)(h:ahead (l.drop i) 0=true):(bD l (i+1)==33)=false:=by
 have hlt:i<l.length:=dV (by rw[h32];decide);obtain⟨t,ht⟩:∃t,l[i]? =some t:=⟨l[i],by simp[hlt]⟩
 have e1:t.kind=32:=by rw[bD,ht] at h32;exact h32
 rw[WG ht,ahead,e1] at h;have h':ahead (l.drop (i+1)) 1=true:=h;cases hk:l[i+1]? with
 |none=>rw[bD,hk];rfl
 |some u=>
  rw[WG hk,ahead] at h';rw[bD,hk];show(u.kind==33)=false;cases hu:u.kind==33 with
  |false=>rfl
  |true=>
   have e:u.kind=33:=by rwa [beq_iff_eq] at hu
   rw[e] at h';exact absurd (show false=true from h') Bool.false_ne_true
def aye{n i:Nat}{nt:gY}(h:(bD l i==33)=false):(Rz l n 33 i nt).sat λL _ _=>1<=L.length:=by
 cases n with
 |zero=>rw[Rz];trivial
 |succ n=>
  rw[Rz,h,aX,dW];refine bJ (ash n [] i nt) λL j m hL=> ?_
  rw[dW,wS];exact λ_=>hL
section
variable {n m:Nat} (hl:l.length<=1048576) (H:∀n',n'<=n->∀m',4 * n'+30<=m'->RI l n' m') (hm:4 * (n+1)+30<=m+1)
include hl H hm
theorem aAL(a b:Bool)(i:Nat)(nt:gY)(hi:i<=l.length)(hn:nt.length<=i):
  AP l ((M.jL m a b (au l) (i:Int) false (encS nt)).bind λr=>(M.iK (M.ji m) (M.jL m) (.inr (.inl (q2 a b r.2.2.2.2.2.2.2.1 r.2.2.2.2.2.2.2.2.1 r.2.2.2.2.2.2.2.2.2.1 r.1 r.2.1 r.2.2.1 r.2.2.2.1 (ak r.2.2.2.2.2.1) r.2.2.2.2.2.2.1 r.2.2.2.2.2.2.2.2.2.2)))).bind inF)
   ((ex l n 6 a b i nt).bind λx i nt=>inP l n a x i nt):=by
 have h:=H n (zaO _) m aB;refine AP.elim (R:=AP l) (h.e6 a b i nt hi hn) (λ_=>trivial) (λk op x y fl ks tg j nt hn=> ?_) (λx fl ks j nt hk he=> ?_)
 ·rw[show M.iK _ _ _=_ from aN rfl,aj];exact⟨_,_,_,_,_,_,_,_,hn,aAJ (l:=l) _ _ _ _ _ _ _ _ _ _ _⟩
 ·have hs:=gU (Gx aB aB hi) he;exact in2 hl n x j nt _ aB aB (L6 hk)
theorem aLY(a b:Bool)(i:Nat)(nt:gY)(hi:i<=l.length)(hn:nt.length<=i):AP l (M.ug (m+1) a b (au l) (i:Int) false (encS nt)) (ex l (n+1) 5 a b i nt):=by
 have hbare:=aAL hl H hm a b i nt hi hn;rw[M.Wu];simp only[M.xO,M.Ed,M.Ee,M.Ef,M.vU,Bool.not_false,dP,aI,ex,eH,aj];cases h32:bD l i==32 with
 |false=>simp only[aX,Bool.false_and];exact hbare
 |true=>
  have hlt:=cZ h32 (by decide);have e32:bD l i=32:=by rwa [beq_iff_eq] at h32
  simp only[aI,Bool.true_and];cases a with
  |true=>simp only[zaN,aX,Bool.false_and];exact hbare
  |false=>
   simp only[Bool.not_false,aI,Bool.true_and,dP,aAC hl i nt hi,aj];cases ha:ahead (l.drop i) 0 with
   |false=>simp only[aX,dP,aI];exact hbare
   |true=>
    simp only[aI,dP,nD hl hlt];have hne:=ao5 e32 ha;obtain⟨m2,rfl⟩:∃m2,m=m2+3:=⟨m - 3,aB⟩
    cases n with
    |zero=>rw[Rz];trivial
    |succ n1=>
     refine AL.elim (R:=AP l) (ayc hl ((H n1 aB (m2+2) aB).its false false (i+1) nt aB aB) aB aB) (λ_=>trivial) (λfl ks j nt hn=> ?_) (λL fl j X7 he=> ?_)
     ·simp only[zaN,aX];rw[show M.iK _ _ _=_ from aN rfl];simp only[aj,iO,dP,aI];exact AP.eX hn
     ·have hs:=gU ((sats l (n1+1)).lst 33 (i+1) nt (by decide) aB) he;have hlong:=gU (aye (n:=n1+1) (nt:=nt) hne) he;simp only[Bool.not_false,aI,dP,eH,aj,bne,iW];rw[iZ];cases h24:bD l j==24 with
      |false=>simp only[Bool.not_false,aI,dP,aqQ,aj,aX];exact AP.eX aB
      |true=>
       have hlt':=cZ h24 (by decide);simp only[zaN,aX,aI];have hb:M.gI (M.ji (m2+3)) (M.jL (m2+3)) (.inl (dN false L,false,au l,(j:Int),false,false,b,0,0,[],[],false,0,0,[],[],false,encS X7))=(M.bI (au l) ((j+1:Nat):Int) false (encS X7)).bind λr=>some (.inl (.inr (.inl (q2 false b r.2.1 r.2.2.1 r.2.2.2.1 13 0 r.1 [] (dN false L) false r.2.2.2.2)))):=by simp only[M.gI,M.kN,q2,Bool.not_false,aI,dP,eH,aj,h24,nD hl hlt',dM];rw[bG hlong,aI]
       show AP l ((M.iK (M.ji (m2+3)) (M.jL (m2+3)) (.inl (dN false L,false,au l,(j:Int),false,false,b,0,0,[],[],false,0,0,[],[],false,encS X7))).bind inF) ((nameP l (j+1) X7).bind λs i nt=>inP l (n1+1) false (Tn.mk 13 0 s [] L,false) i nt);rw[M.iK];cases h6:bD l (j+1)==6 with
       |false=>
        have hnm:M.bI (au l) ((j+1:Nat):Int) false (encS X7)=some ([],au l,((j+1:Nat):Int),true,encS X7):=by simp only[M.bI,M.iI,dP,aI,aX,eH,aj,bne,h6,Bool.not_false]
        rw[hnm,aj] at hb;rw[aY hb,show fQ _ _=_ from aN rfl,aj,nameP,h6];exact⟨_,_,_,_,_,_,_,_,(show X7.length<=l.length by omega),aAJ (l:=l) _ _ _ _ _ _ _ _ _ _ _⟩
       |true=>
        have h2:=cZ h6 (by decide);have hnm:M.bI (au l) ((j+1:Nat):Int) false (encS X7)=some (Bo l (j+1),au l,((j+1+1:Nat):Int),false,encS X7):=by simp only[M.bI,M.iI,dP,aI,aX,eH,aj,bne,h6,zaN,LC hl h2]
        rw[hnm,aj] at hb;rw[aY hb,nameP,h6];exact in2 hl (n1+1) (.mk 13 0 (Bo l (j+1)) [] L,false) (j+1+1) X7 _ aB aB (iW _ _)
end
def ri(hl:l.length<=1048576):∀N n,n<=N->∀m,4 * n+30<=m->RI l n m:=by
 intro N;induction N with
 |zero=>intro n hn m hm;obtain rfl:n=0:=aB;exact⟨λ_ _ _ _ _ _=>by rw[ex];trivial,λ_ _ _ _ _ _=>by rw[ex];trivial,λ_ _ _ _ _ _=>by rw[ex];trivial,λ_ _ _ _ _ _=>by rw[ex];trivial,λ_ _ _ _ _ _=>by rw[ex];trivial,λ_ _ _ _ _ _=>by rw[ex];trivial,λ_ _ _ _ _ _=>by rw[ex];trivial,λ_ _ _ _ _ _=>by rw[ex];trivial,λ_ _ _ _ _ _=>by rw[ex];trivial,λ_ _ _ _ _ _=>by rw[ex];trivial,λ_ _ _ _ _ _=>by rw[ex];trivial,λ_ _ _ _ _ _=>by rw[ex];trivial,λ_ _ _ _ _ _=>by rw[ex];trivial,λ_ _ _ _ _ _=>by rw[ex];trivial,λ_ _ _ _ _ _=>by rw[ex];trivial,λ_ _ _ _=>by rw[ZX];trivial,λ_ _ _ _ _ _=>by rw[PU];trivial⟩
 |succ N ih=>
  intro n hn m hm;cases n with
  |zero=>exact ih 0 aB m hm
  |succ n=>
   cases m with
   |zero=>omega
   |succ m=>
    have H:∀n',n'<=n->∀m',4 * n'+30<=m'->RI l n' m':=λn' h=>ih n' aB
    exact⟨aLQ hl H hm,aLR hl H hm,aLS hl H hm,aLT hl H hm,aLY hl H hm,aLW hl H hm,aLX hl H hm,aLU hl H hm,aLV hl H hm,aDO hl H hm,aDP hl H hm,aDQ hl H hm,aDR hl H hm,aDS hl H hm,aDV hl H hm,aDU hl H hm,aDT hl H hm⟩
def RI.of(hl:l.length<=1048576)(n:Nat){m:Nat}(hm:4 * n+30<=m):RI l n m:=ri hl n n (zaO _) m hm
variable {l:List Tk}
def AT.Dp{β:Type}{o:Option TT}{j:Nat}(h:AT l o (.bad j)){f:TT->Option β}{R:Option β->Prop}
  (hb:∀k op x y fl ks nt,nt.length<=l.length->R (f (k,op,x,y,fl,ks,au l,(j:Int),true,encS nt))):R (o.bind f):=by
 obtain⟨k,op,x,y,fl,ks,nt,h1,rfl⟩:=h;exact hb k op x y fl ks nt h1
def AT.eX{k op:Int}{x y:aJ}{fl:Bool}{ks:ay}{j:Nat}{nt:gY}(hn:nt.length<=l.length):AT l (some (k,op,x,y,fl,ks,au l,(j:Int),true,encS nt)) (.bad j):=⟨_,_,_,_,_,_,_,hn,rfl⟩
def AT.mk{x:Tn}{k op:Int}{s s':aJ}{fl:Bool}{ks:ay}{j:Nat}{nt:gY}(h1:k=x.kind)(h2:op=x.op)(h3:s=x.text)(h4:s'=x.other)(h5:ak ks=dN false x.kids):
  AT l (some (k,op,s,s',fl,ks,au l,(j:Int),false,encS nt)) (.ok x j nt):=by
 subst h1 h2 h3 h4;exact⟨_,_,h5,rfl⟩
def AL.Dp{β:Type}{o:Option TL}{j:Nat}(h:AL l o (.bad j)){f:TL->Option β}{R:Option β->Prop}
  (hb:∀fl ks nt,nt.length<=l.length->R (f (fl,ks,au l,(j:Int),true,encS nt))):R (o.bind f):=by
 obtain⟨fl,ks,nt,h1,rfl⟩:=h;exact hb fl ks nt h1
def AP.lim{o o':Option TP}{p:PR Xp}(h:AP l o p)(hof:∀r,o=some r->o'=some r):AP l o' p:=by
 cases p with
 |ok x j nt=>obtain⟨fl,ks,h1,h2⟩:=h;exact⟨fl,ks,h1,hof _ h2⟩
 |bad j=>obtain⟨k,op,x,y,fl,ks,tg,nt,h1,h2⟩:=h;exact⟨k,op,x,y,fl,ks,tg,nt,h1,hof _ h2⟩
 |out=>trivial
def AT.lim{o o':Option TT}{p:PR Tn}(h:AT l o p)(hof:∀r,o=some r->o'=some r):AT l o' p:=by
 cases p with
 |ok x j nt=>obtain⟨fl,ks,h1,h2⟩:=h;exact⟨fl,ks,h1,hof _ h2⟩
 |bad j=>obtain⟨k,op,x,y,fl,ks,nt,h1,h2⟩:=h;exact⟨k,op,x,y,fl,ks,nt,h1,hof _ h2⟩
 |out=>trivial
def AL.lim{o o':Option TL}{p:PR (List Tn)}(h:AL l o p)(hof:∀r,o=some r->o'=some r):AL l o' p:=by
 cases p with
 |ok x j nt=>obtain⟨fl,h2⟩:=h;exact⟨fl,hof _ h2⟩
 |bad j=>obtain⟨fl,ks,nt,h1,h2⟩:=h;exact⟨fl,ks,nt,h1,hof _ h2⟩
 |out=>trivial
section
variable (hl:l.length<=1048576)
include hl
theorem ai1(n:Nat)(a b:Bool){i:Nat}{nt:gY}(hi:i<=l.length)(hn:nt.length<=i):AP l (M.bY a b (au l) (i:Int) false (encS nt)) (ex l n 1 a b i nt):=
 AP.lim ((RI.of hl n (zaO _)).e1 a b i nt hi hn) λr h=>M.P8 h
theorem aLZ(n:Nat)(a b:Bool){i:Nat}{nt:gY}(hi:i<=l.length)(hn:nt.length<=i):AP l (M.jF a b (au l) (i:Int) false (encS nt)) (ex l n 9 a b i nt):=
 AP.lim ((RI.of hl n (zaO _)).e9 a b i nt hi hn) λr h=>M.ade h
theorem aL0(n:Nat)(a b:Bool){i:Nat}{nt:gY}(hi:i<=l.length)(hn:nt.length<=i):AL l (M.iH a b (au l) (i:Int) false (encS nt)) (PU l n a b [] i nt):=
 AL.lim ((RI.of hl n (zaO _)).its a b i nt hi hn) λr h=>M.Zq h
theorem aDW(n:Nat){i:Nat}{nt:gY}(hi:i<=l.length)(hn:nt.length<=i):AL l (M.iT 35 (au l) (i:Int) false (encS nt)) ((PU l n false false [] i nt).bind λL i nt=>(iZ l 35 i nt).bind λ_ i nt=> .ok L i nt):=
 AL.lim (ayb hl ((RI.of hl n (zaO _)).its false false i nt hi hn) hi hn) λr h=>M.aaK h
end
def ayf(a b:Bool){i:Nat}{nt:gY}(hn:nt.length<=l.length):AP l (M.bY a b (au l) (i:Int) true (encS nt)) (.bad i):=
 AP.lim (aqR 0 hn) λr h=>M.P8 h
def aDX(b:Bool)(c:ay)(c1:Int)(c3:ay)(hf:ah c3=true):M.jT 9 false false false false c c1 b c3=(M.jF false false c c1 b c3).bind λr=>bif ah r.2.2.2.2.2.2.2.2.2.2 then some (r.1,r.2.1,r.2.2.1,r.2.2.2.1,false,ak r.2.2.2.2.2.1,r.2.2.2.2.2.2.1,r.2.2.2.2.2.2.2.1,r.2.2.2.2.2.2.2.2.1,r.2.2.2.2.2.2.2.2.2.1,r.2.2.2.2.2.2.2.2.2.2) else none:=by simp only[M.jT,M.E8,M.bg,aX,hf,aI];rfl
def asi(hl:l.length<=1048576)(n:Nat){i:Nat}{nt:gY}(hi:i<=l.length)(hn:nt.length<=i):AP l (M.jT 9 false false false false (au l) (i:Int) false (encS nt)) (ex l n 9 false false i nt):=by rw[aDX _ _ _ _ (dP nt)];exact AP.pass (aLZ hl n false false hi hn) (by intros;simp only[dP,aI])
def aqS(i:Nat)(nt:gY):M.iU (au l) (i:Int) false (encS nt)=some (au l,(i:Int), !(Gj (bD l i)),encS nt):=by simp only[M.iU,M.Ho,dP,aI,eH,aj,amk];cases Gj (bD l i)<;>rfl
def ayg{k op:Int}{s s':aJ}{fl:Bool}{ks:ay}{x:Tn}{j:Nat}{nt:gY}(h1:k=x.kind)(h2:op=x.op)(h3:s=x.text)(h4:s'=x.other)(h5:ak ks=dN false x.kids)(hn:nt.length<=l.length):
  AT l (some (k,op,s,s',fl,ks,au l,(j:Int), !(Gj (bD l j)),encS nt)) (endP l x j nt):=by
 rw[endP];cases Gj (bD l j) with
 |true=>exact AT.mk h1 h2 h3 h4 h5
 |false=>exact AT.eX hn
def ayh{i:Nat}{nt:gY}(hn:nt.length<=l.length):AT l (M.gV (au l) (i:Int) true (encS nt)) (.bad i):=by
 simp only[M.gV,M.uh,dP,aI,uw,aj];refine AP.Dp (R:=λo=>AT l o (.bad i)) (ayf false false hn) λk op x y fl ks tg nt hn=> ?_
 simp only[dP,aI,uw,aj];exact AT.eX hn
def aqT(hl:l.length<=1048576)(n:Nat){i:Nat}{nt:gY}(hi:i<=l.length)(hn:nt.length<=i):AT l (M.gV (au l) (i:Int) false (encS nt)) (Ve l n i nt):=by
 simp only[M.gV,M.uh,dP,aI,Ve];refine LD (R:=AT l) hl (by decide) ?_ (λ_ hlt=> ?_)
 ·simp only[dP,aI];refine AP.Dp (R:=λo=>AT l o (.bad i)) (ayf false false aB) λk op x y fl ks tg nt hn=> ?_
  simp only[dP,aI,uw,aj];exact AT.eX hn
 ·simp only[dP,aI];refine AP.elim (R:=AT l) (ai1 hl n false false aB aB) (λ_=>trivial) (λk op x y fl ks tg j nt hn=> ?_) (λx fl ks j nt hk he=> ?_)
  ·simp only[aI,dP,uw,aj];exact AT.eX hn
  ·have hs:=gU (Gx aB aB aB) he;simp only[dP,aI];refine LD (R:=AT l) hl (by decide) ?_ (λ_ hlt=> ?_)
   ·simp only[dP,aI];exact AT.eX aB
   ·simp only[dP,aI];exact AT.mk rfl rfl rfl rfl (L6 hk)
def Tt(e:Int)(a b:Bool){i:Nat}{nt:gY}(hn:nt.length<=l.length):AT l (M.eY e a b (au l) (i:Int) true (encS nt)) (.bad i):=by
 simp only[M.eY,M.zO,dP,aI,eH,aj];cases bD l i==e with
 |true=>exact AT.eX hn
 |false=>
  simp only[aX];refine AP.Dp (R:=λo=>AT l o (.bad i)) (ayf a b hn) λk op x y fl ks tg nt hn=> ?_
  simp only[dP,aI];exact AT.eX hn
def ams(hl:l.length<=1048576)(n:Nat)(e:Int)(a:Bool){i:Nat}{nt:gY}(hi:i<=l.length)(hn:nt.length<=i):AT l (M.eY e a false (au l) (i:Int) false (encS nt)) (JV l n e a i nt):=by
 simp only[M.eY,M.zO,dP,aI,eH,aj,JV];cases bD l i==e with
 |true=>exact AT.mk rfl rfl rfl rfl rfl
 |false=>
  simp only[aX];refine AP.elim (R:=AT l) (ai1 hl n a false hi hn) (λ_=>trivial) (λk op x y fl ks tg j nt hn=> ?_) (λx fl ks j nt hk he=> ?_)
  ·simp only[dP,aI];exact AT.eX hn
  ·simp only[dP,aI];exact AT.mk rfl rfl rfl rfl (L6 hk)
def asj{i:Nat}(h:bD l i=0\/bD l i=31)(nt:gY):∀lv,1<=lv->lv<=15->∀n a b,16 - lv<=n->ex l n lv a b i nt=.bad i:=by
 have hz:∀k:Int,k≠0->k≠31->(bD l i==k)=false:=λk h0 h1=>by rw[XB];rcases h with h|h<;>rw[h]<;>omega
 have hst:isStep (bD l i)=false:=by simp only[isStep,hz 51 (by decide) (by decide),hz 52 (by decide) (by decide),Bool.or_self]
 have:∀d lv,15 - lv=d->1<=lv->lv<=15->∀n a b,16 - lv<=n->ex l n lv a b i nt=.bad i:=by
  intro d;induction d with
  |zero=>
   intro lv hd h1 h2 n a b hn;obtain rfl:lv=15:=aB;obtain⟨n,rfl⟩:∃m,n=m+1:=⟨n - 1,aB⟩
   simp only[ex,hz 3 (by decide) (by decide),hz 4 (by decide) (by decide),hz 5 (by decide) (by decide),hz 6 (by decide) (by decide),hz 7 (by decide) (by decide),hz 8 (by decide) (by decide),hz 32 (by decide) (by decide),aX,Bool.or_self]
  |succ d ih=>
   intro lv hd h1 h2 n a b hn;obtain⟨n,rfl⟩:∃m,n=m+1:=⟨n - 1,aB⟩
   have hr:=ih (lv+1) aB aB aB n a b aB;have hc:lv=1\/lv=2\/lv=3\/lv=4\/lv=5\/lv=6\/lv=7\/lv=8\/lv=9\/lv=10\/lv=11\/lv=12\/lv=13\/lv=14:=aB;rcases hc with rfl|rfl|rfl|rfl|rfl|rfl|rfl|rfl|rfl|rfl|rfl|rfl|rfl|rfl<;>simp only[ex]<;>
    simp only[hz 32 (by decide) (by decide),hz 55 (by decide) (by decide),hz 56 (by decide) (by decide),hz 61 (by decide) (by decide),hz 68 (by decide) (by decide),hst,Bool.false_and,Bool.or_self,aX,hr]<;>rfl
 exact λlv=>this _ lv rfl
variable {l:List Tk}
section
variable (hl:l.length<=1048576) (n:Nat) {i:Nat} {nt:gY} (hi:i<l.length) (hn:nt.length<=i)
include hl hi hn
theorem ayi(k:Int):AT l (bif !(Gj (bD l (i+1))) then(M.bY false false (au l) ((i+1:Nat):Int) false (encS nt)).bind λr=>bif ah r.2.2.2.2.2.2.2.2.2.2 then
   some (k,0,[],[],true,[[D.int .i64 r.1,D.int .i64 r.2.1,D.str r.2.2.1,D.str r.2.2.2.1,D.sl false 5 (ak r.2.2.2.2.2.1)]],r.2.2.2.2.2.2.2.1,r.2.2.2.2.2.2.2.2.1,r.2.2.2.2.2.2.2.2.2.1,r.2.2.2.2.2.2.2.2.2.2) else none
  else some (k,0,[],[],true,[],au l,((i+1:Nat):Int),false,encS nt)) (aco l n k i nt):=by
 rw[aco];cases Gj (bD l (i+1)) with
 |true=>exact AT.mk rfl rfl rfl rfl rfl
 |false=>
  simp only[Bool.not_false,aI,aX];refine AP.elim (R:=AT l) (ai1 hl n false false aB aB) (λ_=>trivial) (λk op x y fl ks tg j nt hn=> ?_) (λx fl ks j nt hk he=> ?_)
  ·simp only[dP,aI];exact AT.eX hn
  ·simp only[dP,aI];exact AT.mk rfl rfl rfl rfl (fz1 (L6 hk))
theorem aL1:AT l ((M.bI (au l) ((i+1:Nat):Int) false (encS nt)).bind λRj=>
  bif !Rj.2.2.2.1 then
   (bif ah Rj.2.2.2.2 then
   ((M.aF Rj.2.1 Rj.2.2.1 Rj.2.2.2.1 Rj.2.2.2.2).bind λXT=>
    (bif XT.1==34 then
    (bif ah XT.2.2.2.2 then
     ((M.iT 35 XT.2.1 (i64.wrap (XT.2.2.1+1)) XT.2.2.2.1 XT.2.2.2.2).bind λae0=>
     (bif ah ae0.2.2.2.2.2 then
      some (27,0,Rj.1,[],false,ak ae0.2.1,ae0.2.2.1,ae0.2.2.2.1,ae0.2.2.2.2.1,ae0.2.2.2.2.2) else none)) else none) else
    (bif ah XT.2.2.2.2 then
     some (27,0,Rj.1,[],true,[],XT.2.1,XT.2.2.1,XT.2.2.2.1,XT.2.2.2.2) else none))) else none) else
   (bif ah Rj.2.2.2.2 then
   some (27,0,Rj.1,[],true,[],Rj.2.1,Rj.2.2.1,Rj.2.2.2.1,Rj.2.2.2.2) else none)) (ame l n i nt):=by
 rw[ame];refine ax5 (R:=AT l) hl ?_ (λ_ hlt=> ?_)
 ·simp only[zaN,aX,dP,aI];exact AT.eX aB
 ·simp only[Bool.not_false,aI,dP,eH,aj];cases hc:bD l (i+1+1)==34 with
  |false=>exact AT.mk rfl rfl rfl rfl rfl
  |true=>
   have hlt':=cZ hc (by decide);simp only[aI,nD hl hlt'];have e:(PU l n false false [] (i+1+1+1) nt).bind (λL i_1 nt=>(iZ l 35 i_1 nt).bind λ_ i_2 nt=>PR.ok (Tn.mk 27 0 (Bo l (i+1)) [] L) i_2 nt)=
     ((PU l n false false [] (i+1+1+1) nt).bind λL i nt=>(iZ l 35 i nt).bind λ_ i nt=> .ok L i nt).bind λL j nt=> .ok (Tn.mk 27 0 (Bo l (i+1)) [] L) j nt:=by
    cases PU l n false false [] (i+1+1+1) nt with
    |ok L j m=>simp only[PR.bind];cases iZ l 35 j m<;>rfl
    |bad j=>rfl
    |out=>rfl
   rw[e];refine AL.elim (R:=AT l) (aDW hl n aB aB) (λ_=>trivial) (λfl ks j nt hn=> ?_) (λL fl j nt he=> ?_)
   ·simp only[dP,aI];exact AT.eX hn
   ·simp only[dP,aI,iW];exact AT.mk rfl rfl rfl rfl (iW _ _)
end
def aL2(hl:l.length<=1048576)(n:Nat){i:Nat}{nt:gY}(hi:i<=l.length)(hn:nt.length<=i)
  (hp:∀k,k=bD l i->(k=25\/k=26)->AT l (M.mX k (au l) ((i+1:Nat):Int) false (encS nt)) (agF l n i nt)):
  AT l (M.lI (au l) (i:Int) false (encS nt)) (ajN l n i nt):=by
 simp only[M.lI,M.yR,M.wL,M.wM,M.wO,M.wP,M.wQ,M.wR,dP,aI,eH,aj,ajN];cases h25:bD l i==25 with
 |true=>
  have hlt:=cZ h25 (by decide);have e:bD l i=25:=by rwa [beq_iff_eq] at h25
  simp only[aI,Bool.true_or,nD hl hlt];exact AT.pass (hp _ rfl (.inl e)) (by intros;simp only[dP,aI])
 |false=>
 cases h26:bD l i==26 with
 |true=>
  have hlt:=cZ h26 (by decide);have e:bD l i=26:=by rwa [beq_iff_eq] at h26
  simp only[aI,aX,Bool.or_true,nD hl hlt];exact AT.pass (hp _ rfl (.inr e)) (by intros;simp only[dP,aI])
 |false=>
 simp only[aX,Bool.or_self];cases h20:bD l i==20 with
 |true=>
  have hlt:=cZ h20 (by decide);have e:bD l i=20:=by rwa [beq_iff_eq] at h20
  have n1:(bD l i==21)=false:=by rw[e];rfl
  have n2:(bD l i==22)=false:=by rw[e];rfl
  simp only[n1,n2,aI,aX,nD hl hlt];exact AT.mk rfl rfl rfl rfl rfl
 |false=>
 cases h18:bD l i==18 with
 |true=>
  have hlt:=cZ h18 (by decide);have e:bD l i=18:=by rwa [beq_iff_eq] at h18
  have n1:(bD l i==21)=false:=by rw[e];rfl
  have n2:(bD l i==22)=false:=by rw[e];rfl
  simp only[n1,n2,aI,aX,nD hl hlt];exact AT.mk rfl rfl rfl rfl rfl
 |false=>
 cases h19:bD l i==19 with
 |true=>
  have hlt:=cZ h19 (by decide);have e:bD l i=19:=by rwa [beq_iff_eq] at h19
  have n1:(bD l i==21)=false:=by rw[e];rfl
  have n2:(bD l i==22)=false:=by rw[e];rfl
  simp only[n1,n2,aI,aX,nD hl hlt];exact AT.mk rfl rfl rfl rfl rfl
 |false=>
 cases h21:bD l i==21 with
 |true=>have hlt:=cZ h21 (by decide);simp only[aI,aX,nD hl hlt,eH,aj,amk,dP];exact ayi hl n hlt hn 23
 |false=>
 cases h22:bD l i==22 with
 |true=>have hlt:=cZ h22 (by decide);simp only[aI,aX,nD hl hlt,eH,aj,amk,dP];exact ayi hl n hlt hn 24
 |false=>
 cases h23:bD l i==23 with
 |true=>have hlt:=cZ h23 (by decide);simp only[aI,aX,nD hl hlt];exact aL1 hl n hlt hn
 |false=>
  simp only[aX];refine AP.elim (R:=AT l) (ai1 hl n false false hi hn) (λ_=>trivial) (λk op x y fl ks tg j nt hn=> ?_) (λx fl ks j nt hk he=> ?_)
  ·simp only[dP,aI];exact AT.eX hn
  ·simp only[dP,aI];exact AT.mk rfl rfl rfl rfl (fz1 (L6 hk))
variable {l:List Tk}
def ALt(l:List Tk)(o:Option TL):PR (List Tn)->Prop
 | .ok L j nt=>o=some (true,dN false L,au l,(j:Int),false,encS nt)
 | .bad j=>∃ks nt,nt.length<=l.length/\o=some (true,ks,au l,(j:Int),true,encS nt)
 | .out=>True
def AL.own{o:Option TL}{p:PR (List Tn)}(h:AL l o p)(ho:∀r,o=some r->r.1=true):ALt l o p:=by
 cases p with
 |ok L j nt=>obtain⟨fl,e⟩:=h;have:=ho _ e;simp only at this;subst this;exact e
 |bad j=>obtain⟨fl,ks,nt,h1,e⟩:=h;have:=ho _ e;simp only at this;subst this;exact⟨ks,nt,h1,e⟩
 |out=>trivial
def ALt.elim{β γ:Type}{R:Option β->PR γ->Prop}{o:Option TL}{p:PR (List Tn)}(h:ALt l o p){f:TL->Option β}{g:List Tn->Nat->gY->PR γ}(hout:∀o,R o .out)
  (hbad:∀ks j nt,nt.length<=l.length->R (f (true,ks,au l,((j:Nat):Int),true,encS nt)) (.bad j))
  (hok:∀L j nt,p=.ok L j nt->R (f (true,dN false L,au l,(j:Int),false,encS nt)) (g L j nt)):R (o.bind f) (p.bind g):=by
 cases p with
 |ok L j nt=>have h':o=_:=h;rw[h',aj];exact hok L j nt rfl
 |bad j=>obtain⟨ks,nt,h1,rfl⟩:=h;exact hbad ks j nt h1
 |out=>exact hout _
def aAM{b:Bool}{x r:TL}(hx:x.1=true)(h:(bif b then some x else none)=some r):r.1=true:=by
 cases b with
 |true=>cases h;exact hx
 |false=>cases h
def auC{rec:Bool->Bool->ay->Int->Bool->ay->Option TP}{a b:Bool}{c:ay}{c1:Int}{c2:Bool}{c3:ay}{r:TL}(h:M.qL rec a b c c1 c2 c3 some=some r):r.1=true:=by
 simp only[M.qL] at h;cases hu:M.tX rec a b (c,c1,c2,[],c3) with
 |none=>rw[hu] at h;cases h
 |some u=>rw[hu,aj] at h;rcases u with t|t|t<;>simp only[iO,letE] at h<;>exact aAM rfl h
def aAN{a b:Bool}{c:ay}{c1:Int}{c2:Bool}{c3:ay}{r:TL}(h:M.iH a b c c1 c2 c3=some r):r.1=true:=by
 obtain⟨n,hn⟩:=TU h;cases n with
 |zero=>cases hn
 |succ n=>exact auC hn
def aBV(hl:l.length<=1048576)(n:Nat)(a b:Bool){i:Nat}{nt:gY}(hi:i<=l.length)(hn:nt.length<=i):ALt l (M.iH a b (au l) (i:Int) false (encS nt)) (PU l n a b [] i nt):=
 (aL0 hl n a b hi hn).own λr h=>aAN h
def cOw(rows:ay):aeA 5 [D.sl true 5 rows] 0=some rows:=rfl
def Z7{a b:Bool}:∀(n:Nat) (L:List Tn) (i:Nat) (nt:gY),L.length<6->(PU l n a b L i nt).sat λL' _ _=>L'.length<=6
 |0,_,_,_,_=>by rw[PU];trivial
 |n+1,L,i,nt,hL=>by
  rw[PU,dW];refine bJ ao4 λx j m _=> ?_
  rw[eP];refine⟨λ_=> ?_,λ_=> ?_⟩
  ·rw[eP];refine⟨λ_=>trivial,λh=> ?_⟩;have:=Nat.ne_of_beq_eq_false h;exact Z7 n _ _ _ (by rw[Au,zf];omega)
  ·show(L++[x.1]).length<=6;rw[Au,zf];omega
section
variable (hl:l.length<=1048576) (n:Nat) (kd:Int)
include hl
theorem ao6{L:List Tn}{j:Nat}{nt:gY}(hj:j<=l.length)(hn:nt.length<=j)(hL:L.length<=6):
  AT l (bif xY (bD l j) then(M.fC (au l) (j:Int) false (encS nt)).bind λxw=>
       (bif ah xw.2.2.2.2 then
       ((M.jT 9 false false false false xw.2.1 xw.2.2.1 xw.2.2.2.1 xw.2.2.2.2).bind λIk=>
        (bif(((dN false L).length+[[D.int .i64 Ik.1,D.int .i64 Ik.2.1,D.str Ik.2.2.1,D.str Ik.2.2.2.1,D.sl false 5 (ak Ik.2.2.2.2.2.1)]].length) * 72).ble 140737488355328 then
        (bif((dN false L).length+[[D.int .i64 Ik.1,D.int .i64 Ik.2.1,D.str Ik.2.2.1,D.str Ik.2.2.2.1,D.sl false 5 (ak Ik.2.2.2.2.2.1)]].length).ble 140737488355328 then
         (bif ah Ik.2.2.2.2.2.2.2.2.2.2 then
         some (21,kd,[],xw.1,true,dN false L++[[D.int .i64 Ik.1,D.int .i64 Ik.2.1,D.str Ik.2.2.1,D.str Ik.2.2.2.1,D.sl false 5 (ak Ik.2.2.2.2.2.1)]],Ik.2.2.2.2.2.2.2.1,Ik.2.2.2.2.2.2.2.2.1,Ik.2.2.2.2.2.2.2.2.2.1,Ik.2.2.2.2.2.2.2.2.2.2) else none) else none) else none)) else none)
    else some (21,kd,[],[],true,dN false L,au l,(j:Int),false,encS nt))
   (bif xY (bD l j) then(ex l n 9 false false (j+1) nt).bind λx k nt=> .ok (.mk 21 kd [] (Bo l j) (L++[x.1])) k nt else .ok (.mk 21 kd [] [] L) j nt):=by
 cases hs:xY (bD l j) with
 |false=>exact AT.mk rfl rfl rfl rfl (iW _ _)
 |true=>
  have hlt:=dV (Z5 hs);simp only[aI,LC hl hlt,aj,dP];refine AP.elim (R:=AT l) (asi hl n aB aB) (λ_=>trivial) (λk op x y fl ks tg j nt hn=> ?_) (λx fl ks j nt hk he=> ?_)
  ·simp only[dM,zf,dP,aI];rw[bG aB,aI,bG aB,aI];exact AT.eX hn
  ·simp only[dM,zf,dP,aI,aeu hk];rw[bG aB,aI,bG aB,aI];exact AT.mk rfl rfl rfl rfl (iW _ _)
theorem ao7{j:Nat}{nt:gY}(hj:j<=l.length)(hn:nt.length<=j):
  AT l (bif xY (bD l j) then(M.fC (au l) (j:Int) false (encS nt)).bind λxw=>
       (bif ah xw.2.2.2.2 then
       ((M.jT 9 false false false false xw.2.1 xw.2.2.1 xw.2.2.2.1 xw.2.2.2.2).bind λIk=>
         (bif ah Ik.2.2.2.2.2.2.2.2.2.2 then
         some (21,kd,[],xw.1,true,[[D.int .i64 Ik.1,D.int .i64 Ik.2.1,D.str Ik.2.2.1,D.str Ik.2.2.2.1,D.sl false 5 (ak Ik.2.2.2.2.2.1)]],Ik.2.2.2.2.2.2.2.1,Ik.2.2.2.2.2.2.2.2.1,Ik.2.2.2.2.2.2.2.2.2.1,Ik.2.2.2.2.2.2.2.2.2.2) else none)) else none)
    else some (21,kd,[],[],true,[],au l,(j:Int),false,encS nt))
   (bif xY (bD l j) then(ex l n 9 false false (j+1) nt).bind λx k nt=> .ok (.mk 21 kd [] (Bo l j) ([]++[x.1])) k nt else .ok (.mk 21 kd [] [] []) j nt):=by
 cases hs:xY (bD l j) with
 |false=>exact AT.mk rfl rfl rfl rfl rfl
 |true=>
  have hlt:=dV (Z5 hs);simp only[aI,LC hl hlt,aj,dP];refine AP.elim (R:=AT l) (asi hl n aB aB) (λ_=>trivial) (λk op x y fl ks tg j nt hn=> ?_) (λx fl ks j nt hk he=> ?_)
  ·simp only[dP,aI];exact AT.eX hn
  ·simp only[dP,aI];exact AT.mk rfl rfl rfl rfl (fz1 (L6 hk))
end
def aL3(hl:l.length<=1048576)(n:Nat){i:Nat}{nt:gY}(hi:i<l.length)(hn:nt.length<=i)(k:Int)(hk:k=bD l i)(h:k=25\/k=26):
  AT l (M.mX k (au l) ((i+1:Nat):Int) false (encS nt)) (agF l n i nt):=by
 rcases h with rfl|rfl
 ·have w0:i64.wrap ((25:Int) - 25)=0:=rfl;have w1:((0:Int)==1)=false:=rfl;have w2:((25:Int)==26)=false:=rfl;have w3:(25:Int) - 25=0:=rfl;simp only[M.mX,M.zQ,M.yP,M.yQ,w0,w1,aX,dP,aI,eH,aj,amk,agF,<-hk,w2,w3,Bool.false_or];cases hE:Gj (bD l (i+1)) with
  |true=>simp only[zaN,Bool.not_false,aI,aX,Bool.true_or,ag3,aj,dP];exact ao7 hl n 0 aB aB
  |false=>
   simp only[Bool.not_false,aI,ag3,aj,Bool.false_or];cases hS:xY (bD l (i+1)) with
   |true=>simp only[zaN,Bool.not_false,aI,aX,dP];have:=ao7 hl n 0 (j:=i+1) (nt:=nt) aB aB;rw[hS,aI,aI] at this;show AT l _ (bif xY (bD l (i+1)) then _ else _);rw[hS,aI];exact this
   |false=>
    simp only[Bool.not_false,aI,dP];refine ALt.elim (R:=AT l) (aBV hl n false true aB aB) (λ_=>trivial) (λks j nt hn=> ?_) (λL j nt he=> ?_)
    ·simp only[cOw,aj,zaN,aX,dP,aI];exact AT.eX hn
    ·have hs:=gU (acr aB) he;have hs6:=gU (Z7 n [] _ _ (by decide)) he;simp only[cOw,aj,Bool.not_false,aI,dP,eH,ag3];exact ao6 hl n 0 aB aB hs6
 ·have w0:i64.wrap ((26:Int) - 25)=1:=rfl;have w3:(26:Int) - 25=1:=rfl;simp only[M.mX,M.zQ,M.yP,M.yQ,w0,BEq.rfl,dP,aI,agF,<-hk,w3,Bool.true_or];refine ALt.elim (R:=AT l) (aBV hl n false true aB aB) (λ_=>trivial) (λks j nt hn=> ?_) (λL j nt he=> ?_)
  ·simp only[cOw,aj,zaN,aX,dP,aI];exact AT.eX hn
  ·have hs:=gU (acr aB) he;have hs6:=gU (Z7 n [] _ _ (by decide)) he;simp only[cOw,aj,Bool.not_false,aI,dP,eH,ag3];exact ao6 hl n 1 aB aB hs6
variable {l:List Tk}
def KB(P:List (List Nd)):Prop:=∀R,R∈P->∀n,n∈R->n.kids.length<=100000
def KB.nil:KB []:=λR h=>by cases h
def KB.cons{R:List Nd}{P:List (List Nd)}(h:∀n,n∈R->n.kids.length<=100000)(hP:KB P):KB (R::P):=by
 intro Q hQ;rcases List.mem_cons.1 hQ with rfl|hQ
 ·exact h
 ·exact hP Q hQ
def WH(t:Tn)(h:t.size<=100000):∀n,n∈t.flat 0->n.kids.length<=100000:=(RB.tree t h).2
def KB.tree{t:Tn}{P:List (List Nd)}(h:t.size<=100000)(hP:KB P):KB (t.flat 0::P):=KB.cons (WH t h) hP
def KB.none{P:List (List Nd)}(hP:KB P):KB ([]::P):=KB.cons (λn h=>by cases h) hP
def KB.trees{P:List (List Nd)}:∀ts:List Tn,sizes ts<=100000->KB P->KB ((ts.map λt=>t.flat 0)++P)
 |[],_,hP=>hP
 |t::ts,h,hP=>by rw[sizes] at h;exact KB.tree aB (KB.trees ts aB hP)
def mP:∀ts:List Tn,lens (ts.map λt=>t.flat 0)=sizes ts
 |[]=>rfl
 |t::ts=>by rw[zmc,lens,sizes,t.flat_length,mP ts]
def afj(k op:Int)(x y:aJ)(kr:ay){P:List (List Nd)}{b:Nat}(hb:lens P<=b)(hl:b<=90000)(hn:P.length<=100000)(hk:KB P):
  ∃R',M.dJ k op x y kr (qW P)=some (false,aW false R',false)/\RB R' (b+1):=by
 obtain⟨R',h1,h2,h3⟩:=ao1 k op x y kr P aB hn hk;exact⟨R',h1,aB,h3⟩
def adn(k op:Int)(x y:aJ)(kr:ay){P:List (List Nd)}{b:Nat}(hb:lens P<=b)(hl:b<=90000)(hn:P.length<=100000)(hk:KB P):
  ∃R',M.bV k op x y kr (qW P)=some (aW true R')/\RB R' (b+1):=by
 obtain⟨R',h1,h2,h3⟩:=ao0 k op x y kr P aB hn hk;exact⟨R',h1,aB,h3⟩
def oW(L:List Tn):(parts L).length=L.length:=by simp[parts]
def ayj(P:List (List Nd)):(qW P).length=P.length:=by simp[qW]
def H7{L:List Tn}{x:Tn}{rows:ay}(h:ak rows=aW false (x.flat 0)):parts L++[[D.sl false 5 (ak rows)]]=parts (L++[x]):=by rw[h];simp[parts]
def Ob{L:List Tn}{R:List Nd}{rows:ay}(h:ak rows=aW false R):parts L++[[D.sl false 5 (ak rows)]]=qW ((L.map λt=>t.flat 0)++[R]):=by rw[h];simp[parts,qW]
def ayk(m:Nat)(p:Int)(p1 p2 p3 p4:Bool)(i:Nat)(ns:List Tk):M.bF (m+1) p p1 p2 p3 p4 (au l) (i:Int) true (au ns)=some (true,[],false,au l,(i:Int),true,au ns):=by rw[M.lU];simp only[M.jm,M.iC,aI,aZ]
def aL4(n:Nat)(a b a' b':Bool)(i:Nat)(nt:gY):ex l n 15 a b i nt=ex l n 15 a' b' i nt:=by
 cases n with
 |zero=>simp only[ex]
 |succ n=>simp only[ex]
def aBW(a b a' b':Bool):∀(n:Nat) (i:Nat) (nt:gY),ex l n 14 a b i nt=ex l n 14 a' b' i nt
 |0,i,nt=>by simp only[ex]
 |n+1,i,nt=>by simp only[ex,aBW a b a' b' n,aL4 n a b a' b']
abbrev S6:=Int×ay×Int×Bool×ay×ay
def AI(l:List Tk)(e:Int)(i:Nat)(o:Option (S6⊕S6)):PR (List Tn)->Prop
 | .ok L j nt=>∃ns,txt ns=nt/\o=some (.inl (e,au l,(j:Int),false,parts L,au ns))
 | .bad j=>∃ns P u,i<=j/\j<=l.length/\ns.length<=l.length/\lens P<=3 * (j - i)/\P.length<=8/\KB P/\o=some u/\(u=.inl (e,au l,(j:Int),true,qW P,au ns)\/u=.inr (e,au l,(j:Int),true,qW P,au ns))
 | .out=>True
def ayl(hl:l.length<=3000){f:Int->Bool->Bool->Bool->Bool->ay->Int->Bool->ay->Option TX}(e:Int):
  ∀n,(∀n',n'<n->∀i ns,i<=l.length->ns.length<=i->AX l i (f 1 false false false false (au l) (i:Int) false (au ns)) (ex l n' 1 false false i (txt ns)))->
   ∀(i0:Nat) (L:List Tn) (i:Nat) (ns:List Tk) (s:zaC⊕S6),(s=.inl (e,false,au l,(i:Int),false,[],au ns)/\L=[]\/s=.inr (e,au l,(i:Int),false,parts L,au ns))->
    L.length<6->i0<=i->i<=l.length->ns.length<=i->sizes L+2 * i0<=2 * i->AI l e i0 (M.wE f s) (PU l n false false L i (txt ns))
 |0,_,_,_,_,_,_,_,_,_,_,_,_=>by rw[PU];trivial
 |n+1,hrec,i0,L,i,ns,s,hs,hL,hi0,hi,hn,hsz=>by
  rw[PU,M.wE];have hb:M.IU f s=(f 1 false false false false (au l) (i:Int) false (au ns)).bind λLl=>
    (bif(((parts L).length+[[D.sl false 5 (ak Ll.2.1)]].length) * 24).ble 140737488355328 then
     (bif((parts L).length+[[D.sl false 5 (ak Ll.2.1)]].length).ble 140737488355328 then
     (bif ah Ll.2.2.2.2.2.2 then
      ((M.aK Ll.2.2.2.1 Ll.2.2.2.2.1 Ll.2.2.2.2.2.1 Ll.2.2.2.2.2.2).bind λvk=>
      (bif vk.1 !=36 then
       (some (.inr (.inl ((e,vk.2.1,vk.2.2.1,vk.2.2.2.1,parts L++[[D.sl false 5 (ak Ll.2.1)]],vk.2.2.2.2))))) else
       (bif((parts L++[[D.sl false 5 (ak Ll.2.1)]]).length:Int)==6 then
       (bif ah vk.2.2.2.2 then
        ((M.aH 36 vk.2.1 vk.2.2.1 true vk.2.2.2.2).bind λUh=>
        (bif ah Uh.2.2.2.2.2.2 then
         ((M.bT Uh.2.2.2.1 Uh.2.2.2.2.1 Uh.2.2.2.2.2.1 Uh.2.2.2.2.2.2).bind λXg=>
         (some (.inl (.inr ((e,Xg.1,Xg.2.1,Xg.2.2.1,parts L++[[D.sl false 5 (ak Ll.2.1)]],Xg.2.2.2)))))) else none)) else none) else
       (bif ah vk.2.2.2.2 then
        ((M.aH 36 vk.2.1 vk.2.2.1 vk.2.2.2.1 vk.2.2.2.2).bind λUi=>
        (bif ah Ui.2.2.2.2.2.2 then
         ((M.bT Ui.2.2.2.1 Ui.2.2.2.2.1 Ui.2.2.2.2.2.1 Ui.2.2.2.2.2.2).bind λXh=>
         (some (.inl (.inr ((e,Xh.1,Xh.2.1,Xh.2.2.1,parts L++[[D.sl false 5 (ak Ll.2.1)]],Xh.2.2.2)))))) else none)) else none)))) else none) else none) else none):=by
   rcases hs with⟨rfl,rfl⟩|rfl
   ·simp only[LJ,M.IU,M.DY,M.jc,M.qK,Bool.not_false,aI,aZ,aj];rfl
   ·simp only[LJ,M.IU,M.DY,M.jc,M.qK,Bool.not_false,aI,aZ,aj]
  have hr:=hrec n (Nat.lt_succ_self n) i ns hi hn;have zW:=(sats l n).ex 1 false false i (txt ns) aB aB hi;generalize ex l n 1 false false i (txt ns)=p at hr zW|-;cases p with
  |out=>trivial
  |bad j=>
   obtain⟨fl,rows,hd,ns',R,g1,g2,g3,g4,g5,h2⟩:=hr;have hP:lens ((L.map λt=>t.flat 0)++[R])<=3 * (j - i0):=by rw[wU,mP,lens,lens];have:=g5.1;omega
   have hKB:KB ((L.map λt=>t.flat 0)++[R]):=KB.trees L aB (KB.cons g5.2 KB.nil);have hlen:((L.map λt=>t.flat 0)++[R]).length<=8:=by rw[Au,zaP,zf];omega
   rw[h2,aj] at hb;simp only[Ob g4,oW,zf,aZ,aI,fU,aj,bne,jW,JW] at hb;rw[bG aB,aI,bG aB,aI] at hb;simp only[PR.bind];cases hc:bD l j==36 with
   |false=>simp only[hc,Bool.not_false,aI] at hb;exact⟨ns',_,_,aB,g2,g3,hP,hlen,hKB,aN hb,.inl rfl⟩
   |true=>simp only[hc,zaN,aX,Bool.cond_self] at hb;rw[aY hb];exact⟨ns',_,_,aB,g2,g3,hP,hlen,hKB,aN rfl,.inr rfl⟩
  |ok x j m=>
   obtain⟨fl,rows,ns',h1,rfl,h2⟩:=hr;have hs':FE l i (txt ns).length x.1.size j (txt ns').length:=zW;simp only[zaP] at hs';rw[h2,aj] at hb;simp only[H7 h1,oW,zf,Au,aZ,aI,fU,aj,bne] at hb;rw[bG aB,aI,bG aB,aI] at hb;simp only[PR.bind];cases hc:bD l j==36 with
   |false=>simp only[hc,Bool.not_false,aI] at hb;rw[aN hb];exact⟨ns',rfl,rfl⟩
   |true=>
    have hlt:=cZ hc (by decide);have e36:bD l j=36:=by rwa [beq_iff_eq] at hc
    simp only[hc,zaN,aX] at hb;simp only[aI];cases h6:Nat.beq (L.length+1) 6 with
    |true=>
     have e:=Dl h6;have e':(((L.length+1:Nat):Int)==6)=true:=by rw[e];rfl
     simp only[e',aI,jW,JW,aj,aZ] at hb;rw[aY hb];refine⟨ns',(L++[x.1]).map λt=>t.flat 0,.inr _,aB,aB,aB, ?_, ?_, ?_,aN rfl,.inr (by rw[vZ])⟩
     ·rw[mP,sizes1];omega
     ·rw[zaP,Au,zf];omega
     ·have:=KB.trees (P:=[]) (L++[x.1]) (by rw[sizes1];omega) KB.nil
      rwa [List.append_nil] at this
    |false=>
     have hne:L.length+1≠6:=Nat.ne_of_beq_eq_false h6;have e':(((L.length+1:Nat):Int)==6)=false:=by rw[XB];omega
     obtain⟨KX,t2,hln⟩:=Jh hl (j+1) ns' aB aB;have hf:=Di (l:=l) (i:=j+1) (nt:=txt ns') aB;simp only[e',aX,eU hl e36 (by decide),aj,aZ,aI,hln] at hb;rw[aY hb,aX,<-t2];rw[<-t2] at hf;simp only[zaP] at hf;exact ayl hl e n (λn' h=>hrec n' aB) i0 (L++[x.1]) _ KX _ (.inr rfl) (by rw[Au,zf];omega) aB aB aB (by rw[sizes1];omega)
def agH(l:List Tk)(n:Nat)(e:Int)(i:Nat)(nt:gY):PR (List Tn):=(PU l n false false [] i nt).bind λL i nt=>(iZ l e i nt).bind λ_ i nt=> .ok L i nt
def ao8(hl:l.length<=3000){e:Int}(he:e≠0){i0 n i:Nat}{ns:List Tk}(hi:i<=l.length)(hi0:i0<=i)(hn:ns.length<=i){o:Option (S6⊕S6)}(h:AI l e i0 o (PU l n false false [] i (txt ns))):
  AY l i0 (o.bind λu=>iO u (λt=>bif ah t.2.2.2.2.2 then(M.aH t.1 t.2.1 t.2.2.1 t.2.2.2.1 t.2.2.2.2.2).bind λr=>bif ah r.2.2.2.2.2.2 then some (true,t.2.2.2.2.1,r.2.2.2.1,r.2.2.2.2.1,r.2.2.2.2.2.1,r.2.2.2.2.2.2) else none else none) λu=>letE u λt=>bif ah t.2.2.2.2.2 then(M.aH t.1 t.2.1 t.2.2.1 t.2.2.2.1 t.2.2.2.2.2).bind λr=>bif ah r.2.2.2.2.2.2 then some (true,t.2.2.2.2.1,r.2.2.2.1,r.2.2.2.2.1,r.2.2.2.2.2.1,r.2.2.2.2.2.2) else none else none) (agH l n e i (txt ns)):=by
 rw[agH];have zW:=acr (l:=l) (n:=n) (a:=false) (b:=false) (nt:=txt ns) hi;have hsh:=Z7 (l:=l) (a:=false) (b:=false) n [] i (txt ns) (by decide);generalize PU l n false false [] i (txt ns)=p at h zW hsh|-;cases p with
 |out=>trivial
 |bad j=>
  obtain⟨ns',P,u,g1,g2,g3,g4,g5,g6,rfl,rfl|rfl⟩:=h
  ·simp only[aj,iO,aZ,aI,jW];exact⟨_,ns',P,g1,g2,g3,g4,g5,g6,rfl⟩
  ·simp only[aj,iO,letE,aZ,aI,jW];exact⟨_,ns',P,g1,g2,g3,g4,g5,g6,rfl⟩
 |ok L j m=>
  obtain⟨ns',rfl,rfl⟩:=h;have hs':FE l i (txt ns).length (sizes L) j (txt ns').length:=zW;have h6:L.length<=6:=hsh;simp only[zaP] at hs';simp only[aj,iO,aZ,aI,PR.bind,iZ];cases hc:bD l j==e with
  |true=>
   have e1:bD l j=e:=by rwa [beq_iff_eq] at hc
   simp only[eU hl e1 he,aj,aZ,aI];exact⟨_,ns',rfl,rfl⟩
  |false=>
   simp only[uo hc,aj,aZ,aI,aX];refine⟨_,ns',L.map λt=>t.flat 0,aB,aB,aB, ?_, ?_, ?_,by rw[vZ]⟩
   ·rw[mP];omega
   ·rw[zaP];omega
   ·have:=KB.trees (P:=[]) L aB KB.nil
    rwa [List.append_nil] at this
def aqU(hl:l.length<=3000){e:Int}(he:e≠0){m n i:Nat}{ns:List Tk}(h:∀n',n'<n->∀i ns,i<=l.length->ns.length<=i->AX l i (M.bF m 1 false false false false (au l) (i:Int) false (au ns)) (ex l n' 1 false false i (txt ns)))(hi:i<=l.length)(hn:ns.length<=i):
  AY l i (M.mM (m+1) e 1 (au l) (i:Int) false (au ns)) (agH l n e i (txt ns)):=by
 rw[M.OJ];have h10:((1:Int)==0)=false:=rfl;simp only[M.vC,M.su,h10,aX];exact ao8 hl he hi (zaO i) hn (ayl hl e n h i [] i ns _ (.inl ⟨rfl,rfl⟩) (by decide) (zaO i) hi hn (by rw[sizes0];omega))
def aDY(hl:l.length<=3000){m n i:Nat}{ns:List Tk}(h:∀n',n'<n->∀i ns,i<=l.length->ns.length<=i->AX l i (M.bF m 1 false false false false (au l) (i:Int) false (au ns)) (ex l n' 1 false false i (txt ns)))(hi:i<=l.length)(hn:ns.length<=i):
  AY l i (M.mM (m+1) 33 0 (au l) (i:Int) false (au ns)) (Rz l (n+1) 33 i (txt ns)):=by
 rw[M.OJ,Rz];simp only[M.vC,M.su,BEq.rfl,aI,aZ,fU,aj];cases hc:bD l i==33 with
 |true=>
  have e1:bD l i=33:=by rwa [beq_iff_eq] at hc
  simp only[aI,eU hl e1 (by decide),aj,aZ];exact⟨_,ns,rfl,rfl⟩
 |false=>simp only[aX];exact ao8 hl (by decide) hi (zaO i) hn (ayl hl 33 n h i [] i ns _ (.inl ⟨rfl,rfl⟩) (by decide) (zaO i) hi hn (by rw[sizes0];omega))
def aAO(m:Nat)(i:Nat)(ns:List Tk):M.mM (m+1) 33 0 (au l) (i:Int) true (au ns)=some (true,[],au l,(i:Int),true,au ns):=by
 rw[M.OJ];simp only[M.vC,M.su,BEq.rfl,aI,aZ,fU,aj,jW];cases bD l i==33 with
 |true=>rfl
 |false=>simp only[aX];rw[show M.wE _ _=_ from aN rfl];simp only[aj,iO,letE,aZ,aI,jW]
variable {l:List Tk}
def agI(A:List Nd):ak [[D.sl false 5 (aW false A)]]=qW [A]:=Ar [A]
def aqV(A B:List Nd):ak [[D.sl false 5 (aW false A)],[D.sl false 5 (aW false B)]]=qW [A,B]:=Ar [A,B]
def aL5(A B C:List Nd):ak [[D.sl false 5 (aW false A)],[D.sl false 5 (aW false B)],[D.sl false 5 (aW false C)]]=qW [A,B,C]:=Ar [A,B,C]
def aqW:ak ([]:ay)=aW false []:=rfl
def KY(hl:l.length<=3000){i q n0:Nat}{k op:Int}(ts:List Tn){o:Option TX}{p:PR Xp}(h:AX l q o p)(hq:i<=q)(hs:sizes ts+3 * i+1<=3 * q)(zW:p.sat λx j m=>FE l q n0 x.1.size j m.length):
  AX l i (o.bind λr=>(M.dJ k op [] [] [] (ak (parts ts++[[D.sl false 5 (ak r.2.1)]]))).bind λr'=>
   bif ah r.2.2.2.2.2.2 then some (false,ak r'.2.1,r'.2.2,r.2.2.2.1,r.2.2.2.2.1,r.2.2.2.2.2.1,r.2.2.2.2.2.2) else none)
   (p.bind λy j nt=> .ok (.mk k op [] [] (ts++[y.1]),false) j nt):=by
 have hlen:(ts.map λt=>t.flat 0).length<=sizes ts:=by rw[zaP];exact BI ts
 cases p with
 |out=>trivial
 |bad j=>obtain⟨fl,rows,hd,ns,R,g1,g2,g3,g4,g5,rfl⟩:=h;have hK:=KB.trees ts aB (KB.cons g5.2 KB.nil);obtain⟨R',e1,e2⟩:=afj k op [] [] [] (P:=(ts.map λt=>t.flat 0)++[R]) (b:=sizes ts+3 * (j - q)) (by rw[wU,mP,lens,lens];have:=g5.1;omega) aB (by rw[Au,zf];omega) hK;simp only[aj,Ob g4,Ar,e1,aZ,aI,aT];exact AX.eX aB g2 g3 (aT _ _) (e2.mono aB)
 |ok y j m=>obtain⟨fl,rows,ns,h1,rfl,rfl⟩:=h;have hs':FE l q n0 y.1.size j (txt ns).length:=zW;have ho:=afh k op [] [] [] (ts++[y.1]) (by rw[sizes1];omega);simp only[aj,H7 h1];simp only[vZ,Ar,ho,aj,aZ,aI,aT];exact AX.mk (aT _ _) rfl
structure RX(l:List Tk)(n m:Nat):Prop where
 a1:∀a b (i:Nat) ns,i<=l.length->ns.length<=i->AX l i (M.bF m 1 false a b false (au l) (i:Int) false (au ns)) (ex l n 1 a b i (txt ns))
 a2:∀a b (i:Nat) ns,i<=l.length->ns.length<=i->AX l i (M.bF m 2 false a b false (au l) (i:Int) false (au ns)) (ex l n 2 a b i (txt ns))
 a3:∀a b (i:Nat) ns,i<=l.length->ns.length<=i->AX l i (M.bF m 3 false a b false (au l) (i:Int) false (au ns)) (ex l n 3 a b i (txt ns))
 a4:∀a b (i:Nat) ns,i<=l.length->ns.length<=i->AX l i (M.bF m 4 false a b false (au l) (i:Int) false (au ns)) (ex l n 4 a b i (txt ns))
 a5:∀a b (i:Nat) ns,i<=l.length->ns.length<=i->AX l i (M.bF m 5 false a b false (au l) (i:Int) false (au ns)) (ex l n 5 a b i (txt ns))
 a6:∀a b (i:Nat) ns,i<=l.length->ns.length<=i->AX l i (M.bF m 6 false a b false (au l) (i:Int) false (au ns)) (ex l n 6 a b i (txt ns))
 a7:∀a b (i:Nat) ns,i<=l.length->ns.length<=i->AX l i (M.bF m 7 false a b false (au l) (i:Int) false (au ns)) (ex l n 7 a b i (txt ns))
 a8:∀a b (i:Nat) ns,i<=l.length->ns.length<=i->AX l i (M.bF m 8 false a b false (au l) (i:Int) false (au ns)) (ex l n 8 a b i (txt ns))
 a9:∀a b (i:Nat) ns,i<=l.length->ns.length<=i->AX l i (M.bF m 9 false a b false (au l) (i:Int) false (au ns)) (ex l n 9 a b i (txt ns))
 a10:∀a b (i:Nat) ns,i<=l.length->ns.length<=i->AX l i (M.bF m 10 false a b false (au l) (i:Int) false (au ns)) (ex l n 10 a b i (txt ns))
 a11:∀a b (i:Nat) ns,i<=l.length->ns.length<=i->AX l i (M.bF m 11 false a b false (au l) (i:Int) false (au ns)) (ex l n 11 a b i (txt ns))
 a12:∀a b (i:Nat) ns,i<=l.length->ns.length<=i->AX l i (M.bF m 12 false a b false (au l) (i:Int) false (au ns)) (ex l n 12 a b i (txt ns))
 a13:∀a b (i:Nat) ns,i<=l.length->ns.length<=i->AX l i (M.bF m 13 false a b false (au l) (i:Int) false (au ns)) (ex l n 13 a b i (txt ns))
 a14:∀a b (i:Nat) ns,i<=l.length->ns.length<=i->AX l i (M.bF m 14 false a b false (au l) (i:Int) false (au ns)) (ex l n 14 a b i (txt ns))
 a15:∀a b (i:Nat) ns,i<=l.length->ns.length<=i->AX l i (M.bF m 15 false a b false (au l) (i:Int) false (au ns)) (ex l n 15 a b i (txt ns))
 pow:∀p p1 a b p4 (i:Nat) ns,i<=l.length->ns.length<=i->AX l i (M.EO m p p1 a b p4 (au l) (i:Int) false (au ns)) (ex l n 12 a b i (txt ns))
 pri:∀a b (i:Nat) ns,i<=l.length->ns.length<=i->AX l i (M.vF m (au l) (i:Int) false (au ns)) (ex l n 15 a b i (txt ns))
 pre:∀p p1 a b p4 (i:Nat) ns,i<l.length->ns.length<=i->isStep (bD l i)=true->AX l i (M.EP m p p1 a b p4 (au l) (i:Int) false (au ns)) (ZX l n i (txt ns))
def Gy{n lv i:Nat}{a b:Bool}{ns:List Tk}(h1:1<=lv)(h2:lv<=15)(hi:i<=l.length):(ex l n lv a b i (txt ns)).sat λx j m=>FE l i ns.length x.1.size j m.length:=by have:=(sats l n).ex lv a b i (txt ns) h1 h2 hi;simpa only[zaP] using this
section
variable {n m:Nat} (hl:l.length<=3000)
include hl
theorem auD(h:RX l n m)(p:Int)(p1 a b p4:Bool)(i:Nat)(ns:List Tk)(hi:i<=l.length)(hn:ns.length<=i):AX l i (M.FW (m+1) p p1 a b p4 (au l) (i:Int) false (au ns)) (ex l (n+1) 1 a b i (txt ns)):=by
 rw[M.aeZ];simp only[M.Bz,M.bP,M.fE,aj,aZ,aI,ex];refine AX.elim (Q:=AX l i) (h.a2 a b i ns hi hn) (λ_=>trivial) (λfl rows hd j ns R g1 g2 g3 g4 g5=> ?_) (λx fl rows j ns h1 he=> ?_)
 ·simp only[aI,aZ];exact AX.eX g1 g2 g3 (fzN g4) g5
 ·have hs:=gU (Gy aB aB hi) he;simp only[zaP] at hs;simp only[aX,h1,ax8 x.1 x.2 aB,aj,aZ,aI,fU,(aga _).1];rw[show(!x.2 && aqG x.1.kind)=tgt x from rfl];cases ht:tgt x with
  |false=>simp only[Bool.not_false,aI,Bool.false_and,aX];exact AX.mk (aT _ _) rfl
  |true=>
   simp only[zaN,aX,Bool.true_and];cases hc:aiQ (bD l j) with
   |false=>simp only[Bool.not_false,aI,aX];exact AX.mk (aT _ _) rfl
   |true=>have hlt:=dV (aiW hc);simp only[zaN,aX,aI,eU hl rfl (aiW hc),aj,aZ];exact KY hl [x.1] (h.a1 a b (j+1) ns aB aB) aB (by simp only[sizes];omega) (Gy aB aB aB)
theorem aAP(h:RX l n m)(hm:1<=m)(p:Int)(p1 a b p4:Bool)(i:Nat)(ns:List Tk)(hi:i<=l.length)(hn:ns.length<=i):AX l i (M.Jy (m+1) p p1 a b p4 (au l) (i:Int) false (au ns)) (ex l (n+1) 2 a b i (txt ns)):=by
 obtain⟨m1,rfl⟩:∃m1,m=m1+1:=⟨m - 1,aB⟩
 rw[M.ain];simp only[M.FK,M.bP,M.fE,aj,aZ,aI,ex];refine AX.elim (Q:=AX l i) (h.a3 a b i ns hi hn) (λ_=>trivial) (λfl rows hd j ns R g1 g2 g3 g4 g5=> ?_) (λx fl rows j ns h1 he=> ?_)
 ·simp only[aI,aZ];exact AX.eX g1 g2 g3 (fzN g4) g5
 ·have hs:=gU (Gy aB aB hi) he;simp only[zaP] at hs;simp only[aX,h1,aj,aZ,aI,fU,bne];cases hc:bD l j==65 with
  |false=>simp only[Bool.not_false,aI,aX];exact AX.mk (aT _ _) rfl
  |true=>
   have hlt:=cZ hc (by decide);have e65:bD l j=65:=by rwa [beq_iff_eq] at hc
   simp only[zaN,aX,aI,eU hl e65 (by decide),aj,aZ];refine AX.elim (Q:=AX l i) (h.a2 a b (j+1) ns aB aB) (λ_=>trivial) (λfl rows hd j2 KX R g1 g2 g3 g4 g5=> ?_) (λy fl' rows' j2 KX h2 he2=> ?_)
   ·obtain⟨R',e1,e2⟩:=afj 14 0 [] [] [] (P:=[x.1.flat 0,R,[]]) (b:=x.1.size+3 * (j2 - (j+1))) (by simp only[lens,Tn.flat_length,zln];have:=g5.1;omega) aB (by simp) (KB.tree aB (KB.cons g5.2 (KB.none KB.nil)));simp only[aI,aZ,jW,aj,ayk,g4,aqW,aL5,e1,aT];exact AX.eX aB g2 g3 (aT _ _) (e2.mono aB)
   ·have hs2:=gU (Gy aB aB aB) he2;simp only[zaP] at hs2;simp only[aI,aZ,h2,iZ];cases hc2:bD l j2==66 with
    |false=>obtain⟨R',e1,e2⟩:=afj 14 0 [] [] [] (P:=[x.1.flat 0,y.1.flat 0,[]]) (b:=x.1.size+y.1.size) (by simp only[lens,Tn.flat_length,zln];omega) aB (by simp) (KB.tree aB (KB.tree aB (KB.none KB.nil)));simp only[uo hc2,aj,aZ,aI,aX,ayk,aqW,aL5,e1,aT];exact AX.eX aB aB aB (aT _ _) (e2.mono aB)
    |true=>
     have hlt2:=cZ hc2 (by decide);have e66:bD l j2=66:=by rwa [beq_iff_eq] at hc2
     simp only[eU hl e66 (by decide),aj,aZ,aI];exact KY hl [x.1,y.1] (h.a2 a b (j2+1) KX aB aB) aB (by simp only[sizes];omega) (Gy aB aB aB)
theorem aym(h:RX l n m)(p:Int)(p1 a b p4:Bool)(i:Nat)(ns:List Tk)(hi:i<=l.length)(hn:ns.length<=i):AX l i (M.EO (m+1) p p1 a b p4 (au l) (i:Int) false (au ns)) (ex l (n+1) 12 a b i (txt ns)):=by
 rw[M.ajw];simp only[M.Iy,M.bP,M.fE,aj,aZ,aI,ex];refine AX.elim (Q:=AX l i) (h.a13 a b i ns hi hn) (λ_=>trivial) (λfl rows hd j ns R g1 g2 g3 g4 g5=> ?_) (λx fl rows j ns h1 he=> ?_)
 ·simp only[aI,aZ];exact AX.eX g1 g2 g3 (fzN g4) g5
 ·have hs:=gU (Gy aB aB hi) he;simp only[zaP] at hs;simp only[aX,h1,aj,aZ,aI,fU,bne];cases hc:bD l j==60 with
  |false=>simp only[Bool.not_false,aI,aX];exact AX.mk (aT _ _) rfl
  |true=>
   have hlt:=cZ hc (by decide);have e60:bD l j=60:=by rwa [beq_iff_eq] at hc
   simp only[zaN,aX,aI,eU hl e60 (by decide),aj,aZ];exact KY hl [x.1] (h.a11 a b (j+1) ns aB aB) aB (by simp only[sizes];omega) (Gy aB aB aB)
theorem ayn(h:RX l n m)(p:Int)(p1 a b p4:Bool)(i:Nat)(ns:List Tk)(hi:i<=l.length)(hn:ns.length<=i):AX l i (M.Ih (m+1) p p1 a b p4 (au l) (i:Int) false (au ns)) (ex l (n+1) 11 a b i (txt ns)):=by
 rw[M.agv];simp only[M.Dv,M.FM,M.bP,M.fE,aj,aZ,aI,ex,fU];cases h6:bD l i==56 with
 |true=>
  have hlt:=cZ h6 (by decide);have e:bD l i=56:=by rwa [beq_iff_eq] at h6
  simp only[aI,Bool.true_or,Bool.or_true,eU hl rfl (show bD l i≠0 by rw[e];decide),aj,aZ];exact KY hl [] (h.a11 a b (i+1) ns aB aB) aB (by simp only[sizes];omega) (Gy aB aB aB)
 |false=>
  cases h5:bD l i==55 with
  |true=>
   have hlt:=cZ h5 (by decide);have e:bD l i=55:=by rwa [beq_iff_eq] at h5
   simp only[aI,aX,Bool.true_or,eU hl rfl (show bD l i≠0 by rw[e];decide),aj,aZ];exact KY hl [] (h.a11 a b (i+1) ns aB aB) aB (by simp only[sizes];omega) (Gy aB aB aB)
  |false=>
   cases h1:bD l i==61 with
   |true=>
    have hlt:=cZ h1 (by decide);have e:bD l i=61:=by rwa [beq_iff_eq] at h1
    simp only[aI,aX,Bool.or_true,eU hl rfl (show bD l i≠0 by rw[e];decide),aj,aZ];exact KY hl [] (h.a11 a b (i+1) ns aB aB) aB (by simp only[sizes];omega) (Gy aB aB aB)
   |false=>simp only[aX,Bool.or_self];exact AX.pass (h.pow p p1 a b p4 i ns hi hn) (zaO i) (by intros;simp only[aZ,aI])
theorem aDZ(h:RX l n m)(hm:1<=m)(p:Int)(p1 a b p4:Bool)(i:Nat)(ns:List Tk)(hi:i<l.length)(hn:ns.length<=i)(hst:isStep (bD l i)=true):AX l i (M.EP (m+1) p p1 a b p4 (au l) (i:Int) false (au ns)) (ZX l (n+1) i (txt ns)):=by
 obtain⟨m1,rfl⟩:∃m1,m=m1+1:=⟨m - 1,aB⟩
 have hgo:=KY hl (k:=9) (op:=bD l i) [] (h.a14 a b (i+1) ns aB aB) (i:=i) (n0:=ns.length) aB (by simp only[sizes];omega) (Gy aB aB aB);rw[aBW a b false false] at hgo;rw[M.ajx,ZX];simp only[M.Iz,M.OD,M.bP,M.fE,aj,aZ,aI,fU,eU hl rfl (KU hst),bne];cases h6:bD l (i+1)==6 with
 |true=>simp only[zaN,aX,Bool.or_true,aI];exact hgo
 |false=>
  cases h8:bD l (i+1)==68 with
  |true=>simp only[zaN,Bool.not_false,aX,Bool.true_or,aI,aZ];exact hgo
  |false=>obtain⟨R',e1,e2⟩:=afj 9 (bD l i) [] [] [] (P:=[[]]) (b:=0) (by simp[lens]) aB (by simp) (KB.none KB.nil);simp only[Bool.not_false,aI,Bool.or_self,aX,aZ,ayk,aj,aqW,agI,e1,aT];exact AX.eX aB aB aB (aT _ _) (e2.mono aB)
theorem aAQ(h:RX l n m)(p:Int)(p1 a b p4:Bool)(i:Nat)(ns:List Tk)(hi:i<=l.length)(hn:ns.length<=i):AX l i (M.Jz (m+1) p p1 a b p4 (au l) (i:Int) false (au ns)) (ex l (n+1) 13 a b i (txt ns)):=by
 rw[M.aio];simp only[M.FP,M.bP,M.fE,aj,aZ,aI,ex,fU,amo];cases hst:isStep (bD l i) with
 |true=>have hlt:=dV (KU hst);simp only[aI];exact AX.pass (h.pre p p1 a b p4 i ns hlt hn hst) (zaO i) (by intros;simp only[aZ,aI])
 |false=>
  simp only[aX];refine AX.elim (Q:=AX l i) (h.a14 a b i ns hi hn) (λ_=>trivial) (λfl rows hd j ns R g1 g2 g3 g4 g5=> ?_) (λx fl rows j ns h1 he=> ?_)
  ·simp only[aI,aZ,fU,aj];exact AX.eX g1 g2 g3 (fzN g4) g5
  ·have hs:=gU (Gy aB aB hi) he;simp only[zaP] at hs;simp only[aX,h1,ax8 x.1 x.2 aB,aj,aZ,aI,fU,amo];rw[show(!x.2 && aqG x.1.kind)=tgt x from rfl];cases hc:isStep (bD l j) with
   |false=>simp only[Bool.not_false,aI,Bool.and_false,aX];exact AX.mk (aT _ _) rfl
   |true=>
    have hlt:=dV (KU hc);simp only[zaN,aX,Bool.and_true];cases ht:tgt x with
    |false=>simp only[Bool.not_false,aI,aX];exact AX.mk (aT _ _) rfl
    |true=>have ho:=afh 10 (bD l j) [] [] [] [x.1] (by simp only[sizes];omega);have ho':M.dJ 10 (bD l j) [] [] [] (qW [x.1.flat 0])=some (false,aW false ((Tn.mk 10 (bD l j) [] [] [x.1]).flat 0),false):=ho;simp only[zaN,aX,aI,eU hl rfl (KU hc),aj,aZ,agI,ho',aT];exact AX.mk (aT _ _) rfl
theorem ayo(h:RX l n m)(p:Int)(p1 a b p4:Bool)(i:Nat)(ns:List Tk)(hi:i<=l.length)(hn:ns.length<=i):AX l i (M.Ii (m+1) p p1 a b p4 (au l) (i:Int) false (au ns)) (ex l (n+1) 14 a b i (txt ns)):=by
 rw[M.agw];simp only[M.Dx,M.bP,M.fE,aj,aZ,aI,ex,fU,bne];cases hc:bD l i==68 with
 |false=>simp only[Bool.not_false,aI,aX];exact AX.pass (h.pri a b i ns hi hn) (zaO i) (by intros;simp only[aZ,aI])
 |true=>
  have hlt:=cZ hc (by decide);have e68:bD l i=68:=by rwa [beq_iff_eq] at hc
  simp only[zaN,aX,aI,eU hl e68 (by decide),aj,aZ,fU,amo];cases hs:isStep (bD l (i+1)) with
  |true=>have hlt':=dV (KU hs);simp only[aI,aZ];have zW:=(sats l n).pre (i+1) (txt ns) hlt';exact KY hl [] (h.pre p p1 a b p4 (i+1) ns hlt' aB hs) aB (by simp only[sizes];omega) zW
  |false=>simp only[aX,aZ,aI];exact KY hl [] (h.a14 a b (i+1) ns aB aB) aB (by simp only[sizes];omega) (Gy aB aB aB)
end
end Go.Proofs.YtoaeipkhadpbiaaGreatDoor
