import Derived.Test.YtoaeipkhadpbiaaGreatDoorXRi2
set_option linter.defProp false
namespace Go.Proofs.YtoaeipkhadpbiaaGreatDoor
set_option linter.unusedVariables false
set_option linter.unusedSimpArgs false
open Go Go.Vm
open Go.IntKind (i64)
variable {l:List Tk}
def aeU{lv:Nat}{k:Int}(h:Nat.beq lv 8=false):Bg lv false k=(EH k==(lv:Int)):=by rw[Bg,h];simp
def lv3(k:Int):(k==44)=(EH k==3):=by
 cases h:k==44 with
 |true=>rw[EH,h];rfl
 |false=>rw[EH,h,bH];cases k==45<;>cases(k==67||k==46)<;>cases(k==63||(k==48||(k==47||(k==50||(k==62||k==49)))))<;>cases k==99<;>cases(k==55||k==56)<;>cases(k==57||(k==58||k==59))<;>cases k==60<;>rfl
def lv4(k:Int):(k==45)=(EH k==4):=by
 cases h4:k==44 with
 |true=>
  have e:k=44:=by rwa [beq_iff_eq] at h4
  rw[e];rfl
 |false=>
  cases h:k==45 with
  |true=>rw[EH,h4,h];rfl
  |false=>rw[EH,h4,h,bH,bH];cases(k==67||k==46)<;>cases(k==63||(k==48||(k==47||(k==50||(k==62||k==49)))))<;>cases k==99<;>cases(k==55||k==56)<;>cases(k==57||(k==58||k==59))<;>cases k==60<;>rfl
structure RI(l:List Tk)(n m:Nat):Prop where
 e1:∀a b i nt,i<=l.length->nt.length<=i->AP l (M.gX m a b (au l) (i:Int) false (encS nt)) (ex l n 1 a b i nt)
 e2:∀a b i nt,i<=l.length->nt.length<=i->AP l (M.oM m a b (au l) (i:Int) false (encS nt)) (ex l n 2 a b i nt)
 e3:∀a b i nt,i<=l.length->nt.length<=i->AP l (M.wH m a b (au l) (i:Int) false (encS nt)) (ex l n 3 a b i nt)
 e4:∀a b i nt,i<=l.length->nt.length<=i->AP l (M.qm m a b (au l) (i:Int) false (encS nt)) (ex l n 4 a b i nt)
 e5:∀a b i nt,i<=l.length->nt.length<=i->AP l (M.rY m a b (au l) (i:Int) false (encS nt)) (ex l n 5 a b i nt)
 e6:∀a b i nt,i<=l.length->nt.length<=i->AP l (M.jF m a b (au l) (i:Int) false (encS nt)) (ex l n 6 a b i nt)
 e7:∀a b i nt,i<=l.length->nt.length<=i->AP l (M.lD m a b (au l) (i:Int) false (encS nt)) (ex l n 7 a b i nt)
 e8:∀a b i nt,i<=l.length->nt.length<=i->AP l (M.ql m a b (au l) (i:Int) false (encS nt)) (ex l n 8 a b i nt)
 e9:∀a b i nt,i<=l.length->nt.length<=i->AP l (M.nY m a b (au l) (i:Int) false (encS nt)) (ex l n 9 a b i nt)
 e10:∀a b i nt,i<=l.length->nt.length<=i->AP l (M.qj m a b (au l) (i:Int) false (encS nt)) (ex l n 10 a b i nt)
 e11:∀a b i nt,i<=l.length->nt.length<=i->AP l (M.jE m a b (au l) (i:Int) false (encS nt)) (ex l n 11 a b i nt)
 e12:∀a b i nt,i<=l.length->nt.length<=i->AP l (M.uH m a b (au l) (i:Int) false (encS nt)) (ex l n 12 a b i nt)
 e13:∀a b i nt,i<=l.length->nt.length<=i->AP l (M.rJ m (au l) (i:Int) false (encS nt)) (ex l n 13 a b i nt)
 e14:∀a b i nt,i<=l.length->nt.length<=i->AP l (M.lH m (au l) (i:Int) false (encS nt)) (ex l n 14 a b i nt)
 e15:∀a b i nt,i<=l.length->nt.length<=i->AP l (M.nT m (au l) (i:Int) false (encS nt)) (ex l n 15 a b i nt)
 pre:∀i nt,i<l.length->nt.length<=i->AP l (M.oL m (au l) (i:Int) false (encS nt)) (Zi l n i nt)
 its:∀a b i nt,i<=l.length->nt.length<=i->AL l (M.kF m a b (au l) (i:Int) false (encS nt)) (NQ l n a b [] i nt)
def az4(hl:l.length<=1048576){m n:Nat}{i:Nat}{nt:iw}(h:AL l (M.kF m false false (au l) (i:Int) false (encS nt)) (NQ l n false false [] i nt))(hi:i<=l.length)(hn:nt.length<=i):
  AL l (M.jg (m+1) 35 (au l) (i:Int) false (encS nt)) ((NQ l n false false [] i nt).bind λL i nt=>(iV l 35 i nt).bind λ_ i nt=> .ok L i nt):=by
 rw[M.Rt];have h3:((35:Int)==33)=false:=rfl;simp only[M.rE,dR,aI,eU,aj,h3,bH,Bool.cond_self];refine AL.elim (R:=AL l) h (λ_=>trivial) (λfl ks j nt hn=> ?_) (λL fl j nt he=> ?_)
 ·simp only[dR,aI,sG,aj];exact⟨_,_,_,hn,rfl⟩
 ·have hs:=gY (acN hi) he;simp only[dR,aI];refine JK (R:=AL l) hl (by decide) ?_ (λ_ _=> ?_)
  ·simp only[dR,aI];exact⟨_,_,_,aB,rfl⟩
  ·simp only[dR,aI,iT];exact⟨_,rfl⟩
def az5(hl:l.length<=1048576){m n:Nat}{i:Nat}{nt:iw}(h:AL l (M.kF m false false (au l) (i:Int) false (encS nt)) (NQ l n false false [] i nt))(hi:i<=l.length)(hn:nt.length<=i):
  AL l (M.jg (m+1) 33 (au l) (i:Int) false (encS nt)) (PV l (n+1) 33 i nt):=by
 rw[M.Rt,PV];simp only[M.rE,dR,aI,eU,aj,BEq.rfl];cases hc:bC l i==33 with
 |true=>have hlt:=cO hc (by decide);simp only[aI,mM hl hlt];exact⟨_,rfl⟩
 |false=>
  simp only[bH];refine AL.elim (R:=AL l) h (λ_=>trivial) (λfl ks j nt hn=> ?_) (λL fl j nt he=> ?_)
  ·simp only[dR,aI,sG,aj];exact⟨_,_,_,hn,rfl⟩
  ·have hs:=gY (acN hi) he;simp only[dR,aI];refine JK (R:=AL l) hl (by decide) ?_ (λ_ _=> ?_)
   ·simp only[dR,aI];exact⟨_,_,_,aB,rfl⟩
   ·simp only[dR,aI,iT];exact⟨_,rfl⟩
def avU(l:List Tk)(n i:Nat)(nt:iw):PR Xp:=bif bC l (i+1)==34 then(NQ l n false false [] (i+2) nt).bind λL j nt=>(iV l 35 j nt).bind λ_ j nt=> .ok (.mk 5 0 (zK l i) [] L,false) j nt else agF 1 l i nt
def aDp(hl:l.length<=1048576){m n:Nat}{i:Nat}{nt:iw}(h:∀i nt,i<=l.length->nt.length<=i->AL l (M.kF m false false (au l) (i:Int) false (encS nt)) (NQ l n false false [] i nt))(hi:i<l.length)(hn:nt.length<=i):
  AP l (M.pF (m+2) (au l) (i:Int) false (encS nt)) (avU l n i nt):=by
 rw[M.Vd,avU];simp only[M.pz,dR,aI,JJ hl hi,aj,eU];cases hc:bC l (i+1)==34 with
 |true=>
  have hlt:=cO hc (by decide);simp only[aI,mM hl hlt];have hL:=az4 hl (h (i+2) nt aB aB) aB aB;have e:(NQ l n false false [] (i+2) nt).bind (λL j nt=>(iV l 35 j nt).bind λ_ j nt=>PR.ok ((Tn.mk 5 0 (zK l i) [] L,false):Xp) j nt)=
    ((NQ l n false false [] (i+2) nt).bind λL i nt=>(iV l 35 i nt).bind λ_ i nt=> .ok L i nt).bind λL j nt=> .ok ((Tn.mk 5 0 (zK l i) [] L,false):Xp) j nt:=by
   cases NQ l n false false [] (i+2) nt with
   |ok L j m=>simp only[PR.bind];cases iV l 35 j m<;>rfl
   |bad j=>rfl
   |out=>rfl
  rw[e];refine AL.elim (R:=AP l) hL (λ_=>trivial) (λfl ks j nt hn=> ?_) (λL fl j nt he=> ?_)
  ·simp only[dR,aI];exact AP.fC hn
  ·simp only[dR,aI,iT];exact AP.mk rfl rfl rfl rfl (iT _ _) rfl
 |false=>simp only[bH];exact AP.mk rfl rfl rfl rfl rfl rfl
section
variable {n m:Nat} (hl:l.length<=1048576) (H:∀n',n'<=n->∀m',4 * n'+30<=m'->RI l n' m') (hm:4 * (n+1)+30<=m+1)
include hl H hm
theorem aMw(a b:Bool)(i:Nat)(nt:iw)(hi:i<=l.length)(hn:nt.length<=i):AP l (M.gX (m+1) a b (au l) (i:Int) false (encS nt)) (ex l (n+1) 1 a b i nt):=by
 have h:=H n (zaN _) m aB;rw[M.Pz];simp only[M.oK,dR,aI,ex];refine AP.elim (R:=AP l) (h.e2 a b i nt hi hn) (λ_=>trivial) (λk op x y fl ks tg j nt hn=> ?_) (λx fl ks j nt hk he=> ?_)
 ·simp only[aI,dR];exact AP.fC hn
 ·have hs:=gY (EJ aB aB hi) he;simp only[bH,dR,aI,eU,aj,(agC _).2];cases ht:tgt x with
  |false=>simp only[Bool.not_false,aI,Bool.false_and,bH];exact AP.mk rfl rfl rfl rfl (J8 hk) ht.symm
  |true=>
   simp only[zaM,bH,Bool.true_and];cases hc:aji (bC l j) with
   |false=>simp only[Bool.not_false,aI,bH];exact AP.mk rfl rfl rfl rfl (J8 hk) ht.symm
   |true=>
    have hlt:=dX (ajo hc);simp only[zaM,bH,aI,mM hl hlt];refine AP.elim (R:=AP l) (h.e1 a b (j+1) nt aB aB) (λ_=>trivial) (λk op x y fl ks tg j nt hn=> ?_) (λy fl' kt j' VI hk' he'=> ?_)
    ·simp only[aI,dR];exact AP.fC hn
    ·simp only[aI,dR];exact AP.mk rfl rfl rfl rfl (fz2 (J8 hk) (J8 hk')) rfl
theorem aMx(a b:Bool)(i:Nat)(nt:iw)(hi:i<=l.length)(hn:nt.length<=i):AP l (M.oM (m+1) a b (au l) (i:Int) false (encS nt)) (ex l (n+1) 2 a b i nt):=by
 have h:=H n (zaN _) m aB;rw[M.Rw];simp only[M.rH,dR,aI,ex];refine AP.elim (R:=AP l) (h.e3 a b i nt hi hn) (λ_=>trivial) (λk op x y fl ks tg j nt hn=> ?_) (λx fl ks j nt hk he=> ?_)
 ·simp only[aI,dR];exact AP.fC hn
 ·have hs:=gY (EJ aB aB hi) he;simp only[bH,dR,aI,eU,aj,bne];cases hc:bC l j==65 with
  |false=>simp only[Bool.not_false,aI,bH];exact AP.mk rfl rfl rfl rfl (J8 hk) rfl
  |true=>
   have hlt:=cO hc (by decide);simp only[zaM,bH,aI,mM hl hlt];refine AP.elim (R:=AP l) (h.e2 a b (j+1) nt aB aB) (λ_=>trivial) (λk op x y fl ks tg j nt hn=> ?_) (λy fl' kt j' VI hk' he'=> ?_)
   ·simp only[aI,dR,sG,aj];exact AP.fC hn
   ·have hs':=gY (EJ aB aB aB) he';simp only[aI,dR];refine JK (R:=AP l) hl (by decide) ?_ (λ_ _=> ?_)
    ·simp only[dR,aI];exact AP.fC aB
    ·simp only[dR,aI,bH];refine AP.elim (R:=AP l) (h.e2 a b (j'+1) VI aB aB) (λ_=>trivial) (λk op x y fl ks tg j nt hn=> ?_) (λz aTg ku j'' aT6 hk'' aTh=> ?_)
     ·simp only[aI,dR];exact AP.fC hn
     ·simp only[aI,dR];exact AP.mk rfl rfl rfl rfl (fz3 (J8 hk) (J8 hk') (J8 hk'')) rfl
theorem aMy(a b:Bool)(i:Nat)(nt:iw)(hi:i<=l.length)(hn:nt.length<=i):AP l (M.wH (m+1) a b (au l) (i:Int) false (encS nt)) (ex l (n+1) 3 a b i nt):=by
 have h:=H n (zaN _) m aB;rw[M.Un];simp only[M.wG,dR,aI,ex];refine AP.elim (R:=AP l) (h.e4 a b i nt hi hn) (λ_=>trivial) (λk op x y fl ks tg j nt hn=> ?_) (λx fl ks j nt hk he=> ?_)
 ·rw[show M.yt _ _ _ _ _ _ _ _ _=_ from aO rfl];simp only[aj,aI,dR];exact AP.fC hn
 ·have hs:=gY (EJ aB aB hi) he;rw[M.yt];refine AC.elim (OC hl (lv:=3) (a:=a) (b:=b) (rec:=M.qm m) aB aB ?_ ?_ ?_ n (λn' hn' i nt hi hn=>(H n' hn' m aB).e4 a b i nt hi hn) x j nt _ aB aB (J8 hk)) (by intros;simp only[aI,dR])
  ·intros
   rfl
  ·intro i k op x y ks tg nt hc;have hb:(b && Nat.beq 3 7)=false:=Bool.and_false b;rw[hb] at hc;have hk:(bC l i==44)=false:=by rw[lv3];exact(aeU (lv:=3) rfl).symm.trans hc
   simp only[M.JG,M.yS,Bool.not_false,aI,dR,eU,aj,hk,bH]
  ·intro i k op x y ks tg nt hc hlt hn;have hb:(b && Nat.beq 3 7)=false:=Bool.and_false b;rw[hb] at hc;have hk:(bC l i==44)=true:=by rw[lv3];exact(aeU (lv:=3) rfl).symm.trans hc
   have hk':bC l i=44:=by rwa [beq_iff_eq] at hk
   simp only[M.JG,M.yS,Bool.not_false,aI,dR,eU,aj,hk,mM hl hlt,OB hl (i+1) nt aB aB,M.kG,M.AA];rw[hk'];rfl
theorem aMz(a b:Bool)(i:Nat)(nt:iw)(hi:i<=l.length)(hn:nt.length<=i):AP l (M.qm (m+1) a b (au l) (i:Int) false (encS nt)) (ex l (n+1) 4 a b i nt):=by
 have h:=H n (zaN _) m aB;rw[M.SH];simp only[M.uG,dR,aI,ex];refine AP.elim (R:=AP l) (h.e5 a b i nt hi hn) (λ_=>trivial) (λk op x y fl ks tg j nt hn=> ?_) (λx fl ks j nt hk he=> ?_)
 ·rw[show M.wF _ _ _ _ _ _ _ _ _=_ from aO rfl];simp only[aj,aI,dR];exact AP.fC hn
 ·have hs:=gY (EJ aB aB hi) he;rw[M.wF];refine AC.elim (OC hl (lv:=4) (a:=a) (b:=b) (rec:=M.rY m) aB aB ?_ ?_ ?_ n (λn' hn' i nt hi hn=>(H n' hn' m aB).e5 a b i nt hi hn) x j nt _ aB aB (J8 hk)) (by intros;simp only[aI,dR])
  ·intros
   rfl
  ·intro i k op x y ks tg nt hc;have hb:(b && Nat.beq 4 7)=false:=Bool.and_false b;rw[hb] at hc;have hk:(bC l i==45)=false:=by rw[lv4];exact(aeU (lv:=4) rfl).symm.trans hc
   simp only[M.Iu,M.xR,Bool.not_false,aI,dR,eU,aj,hk,bH]
  ·intro i k op x y ks tg nt hc hlt hn;have hb:(b && Nat.beq 4 7)=false:=Bool.and_false b;rw[hb] at hc;have hk:(bC l i==45)=true:=by rw[lv4];exact(aeU (lv:=4) rfl).symm.trans hc
   have hk':bC l i=45:=by rwa [beq_iff_eq] at hk
   simp only[M.Iu,M.xR,Bool.not_false,aI,dR,eU,aj,hk,mM hl hlt,OB hl (i+1) nt aB aB,M.kG,M.AA];rw[hk'];rfl
theorem aMA(a b:Bool)(i:Nat)(nt:iw)(hi:i<=l.length)(hn:nt.length<=i):AP l (M.ql (m+1) a b (au l) (i:Int) false (encS nt)) (ex l (n+1) 8 a b i nt):=by
 have h:=H n (zaN _) m aB;rw[M.SG];simp only[M.uF,dR,aI,ex];refine AP.elim (R:=AP l) (h.e9 a b i nt hi hn) (λ_=>trivial) (λk op x y fl ks tg j nt hn=> ?_) (λx fl ks j nt hk he=> ?_)
 ·rw[show M.wC _ _ _ _ _ _ _ _ _=_ from aO rfl];simp only[aj,aI,dR];exact AP.fC hn
 ·have hs:=gY (EJ aB aB hi) he;rw[M.wC];refine AC.elim (OC hl (lv:=8) (a:=a) (b:=b) (rec:=M.nY m) aB aB ?_ ?_ ?_ n (λn' hn' i nt hi hn=>(H n' hn' m aB).e9 a b i nt hi hn) x j nt _ aB aB (J8 hk)) (by intros;simp only[aI,dR])
  ·intros
   rfl
  ·intro i k op x y ks tg nt hc;have hb:(b && Nat.beq 8 7)=false:=Bool.and_false b;rw[hb] at hc;have hk:arL (bC l i)=false:=hc;simp only[M.Ir,M.xP,Bool.not_false,aI,dR,eU,aj,aDo,hk,bH]
  ·intro i k op x y ks tg nt hc hlt hn;have hb:(b && Nat.beq 8 7)=false:=Bool.and_false b;rw[hb] at hc;have hk:arL (bC l i)=true:=hc;simp only[M.Ir,M.xP,Bool.not_false,aI,dR,eU,aj,aDo,hk,M.kG,M.AA];rfl
theorem aMB(a b:Bool)(i:Nat)(nt:iw)(hi:i<=l.length)(hn:nt.length<=i):AP l (M.nY (m+1) a b (au l) (i:Int) false (encS nt)) (ex l (n+1) 9 a b i nt):=by
 have h:=H n (zaN _) m aB;rw[M.SE];simp only[M.uD,dR,aI,ex];refine AP.elim (R:=AP l) (h.e10 a b i nt hi hn) (λ_=>trivial) (λk op x y fl ks tg j nt hn=> ?_) (λx fl ks j nt hk he=> ?_)
 ·rw[show M.wB _ _ _ _ _ _ _ _ _=_ from aO rfl];simp only[aj,aI,dR];exact AP.fC hn
 ·have hs:=gY (EJ aB aB hi) he;rw[M.wB];refine AC.elim (OC hl (lv:=9) (a:=a) (b:=b) (rec:=M.qj m) aB aB ?_ ?_ ?_ n (λn' hn' i nt hi hn=>(H n' hn' m aB).e10 a b i nt hi hn) x j nt _ aB aB (J8 hk)) (by intros;simp only[aI,dR])
  ·intros
   rfl
  ·intro i k op x y ks tg nt hc;have hb:(b && Nat.beq 9 7)=false:=Bool.and_false b;rw[hb] at hc;have hk:(EH (bC l i)==9)=false:=(aeU (lv:=9) rfl).symm.trans hc;simp only[M.Iq,M.xO,Bool.not_false,aI,dR,eU,aj,(OA _).1,hk,bH]
  ·intro i k op x y ks tg nt hc hlt hn;have hb:(b && Nat.beq 9 7)=false:=Bool.and_false b;rw[hb] at hc;have hk:(EH (bC l i)==9)=true:=(aeU (lv:=9) rfl).symm.trans hc;simp only[M.Iq,M.xO,Bool.not_false,aI,dR,eU,aj,(OA _).1,hk,mM hl hlt,M.kG,M.AA];rfl
theorem aFr(a b:Bool)(i:Nat)(nt:iw)(hi:i<=l.length)(hn:nt.length<=i):AP l (M.qj (m+1) a b (au l) (i:Int) false (encS nt)) (ex l (n+1) 10 a b i nt):=by
 have h:=H n (zaN _) m aB;rw[M.SC];simp only[M.uz,dR,aI,ex];refine AP.elim (R:=AP l) (h.e11 a b i nt hi hn) (λ_=>trivial) (λk op x y fl ks tg j nt hn=> ?_) (λx fl ks j nt hk he=> ?_)
 ·rw[show M.wz _ _ _ _ _ _ _ _ _=_ from aO rfl];simp only[aj,aI,dR];exact AP.fC hn
 ·have hs:=gY (EJ aB aB hi) he;rw[M.wz];refine AC.elim (OC hl (lv:=10) (a:=a) (b:=b) (rec:=M.jE m) aB aB ?_ ?_ ?_ n (λn' hn' i nt hi hn=>(H n' hn' m aB).e11 a b i nt hi hn) x j nt _ aB aB (J8 hk)) (by intros;simp only[aI,dR])
  ·intros
   rfl
  ·intro i k op x y ks tg nt hc;have hb:(b && Nat.beq 10 7)=false:=Bool.and_false b;rw[hb] at hc;have hk:(EH (bC l i)==10)=false:=(aeU (lv:=10) rfl).symm.trans hc;simp only[M.Ip,M.xM,Bool.not_false,aI,dR,eU,aj,(OA _).1,hk,bH]
  ·intro i k op x y ks tg nt hc hlt hn;have hb:(b && Nat.beq 10 7)=false:=Bool.and_false b;rw[hb] at hc;have hk:(EH (bC l i)==10)=true:=(aeU (lv:=10) rfl).symm.trans hc;simp only[M.Ip,M.xM,Bool.not_false,aI,dR,eU,aj,(OA _).1,hk,mM hl hlt,M.kG,M.AA];rfl
theorem aMC(a b:Bool)(i:Nat)(nt:iw)(hi:i<=l.length)(hn:nt.length<=i):AP l (M.jF (m+1) a b (au l) (i:Int) false (encS nt)) (ex l (n+1) 6 a b i nt):=by
 have h:=H n (zaN _) m aB;rw[M.Qp];simp only[M.qg,dR,aI,ex];refine AP.elim (R:=AP l) (h.e7 a b i nt hi hn) (λ_=>trivial) (λk op x y fl ks tg j nt hn=> ?_) (λx fl ks j nt hk he=> ?_)
 ·simp only[aI,dR];exact AP.fC hn
 ·have hs:=gY (EJ aB aB hi) he;simp only[bH,dR,aI,eU,aj,bne,M.kG,M.AA];have hgo:j<l.length->AP l ((M.lD m a b (au l) ((j+1:Nat):Int) false (encS nt)).bind λr=>
    bif ah r.2.2.2.2.2.2.2.2.2.2 then some (12,bC l j,[],[],false,ak [[D.int .i64 x.1.kind,D.int .i64 x.1.op,D.str x.1.text,D.str x.1.other,D.sl false 5 (ak ks)],[D.int .i64 r.1,D.int .i64 r.2.1,D.str r.2.2.1,D.str r.2.2.2.1,D.sl false 5 (ak r.2.2.2.2.2.1)]],false,
     r.2.2.2.2.2.2.2.1,r.2.2.2.2.2.2.2.2.1,r.2.2.2.2.2.2.2.2.2.1,r.2.2.2.2.2.2.2.2.2.2) else none) ((ex l n 7 a b (j+1) nt).bind λy j' nt=> .ok (.mk 12 (bC l j) [] [] [x.1,y.1],false) j' nt):=by
   intro hlt;refine AP.elim (R:=AP l) (h.e7 a b (j+1) nt aB aB) (λ_=>trivial) (λk op x y fl ks tg j nt hn=> ?_) (λy fl' kt j' VI hk' he'=> ?_)
   ·simp only[aI,dR];exact AP.fC hn
   ·simp only[aI,dR];exact AP.mk rfl rfl rfl rfl (by rw[fz2 (J8 hk) (J8 hk'),iT];rfl) rfl
  cases hc:bC l j==67 with
  |true=>have hlt:=cO hc (by decide);simp only[zaM,bH,aI,Bool.true_or,mM hl hlt];exact hgo hlt
  |false=>
   cases hc':bC l j==46 with
   |true=>have hlt:=cO hc' (by decide);simp only[zaM,Bool.not_false,bH,aI,Bool.or_true,mM hl hlt];exact hgo hlt
   |false=>simp only[Bool.not_false,bH,aI,Bool.or_false];exact AP.mk rfl rfl rfl rfl (J8 hk) rfl
theorem aMD(a b:Bool)(i:Nat)(nt:iw)(hi:i<=l.length)(hn:nt.length<=i):AP l (M.lD (m+1) a b (au l) (i:Int) false (encS nt)) (ex l (n+1) 7 a b i nt):=by
 have h:=H n (zaN _) m aB;rw[M.N7];simp only[M.nS,dR,aI,ex];refine AP.elim (R:=AP l) (h.e8 a b i nt hi hn) (λ_=>trivial) (λk op x y fl ks tg j nt hn=> ?_) (λx fl ks j nt hk he=> ?_)
 ·simp only[aI,dR];exact AP.fC hn
 ·have hs:=gY (EJ aB aB hi) he;simp only[bH,dR,aI,eU,aj,bne,M.kG,M.AA,(OA _).1];have hgo:j<l.length->AP l ((M.ql m a b (au l) ((j+1:Nat):Int) false (encS nt)).bind λr=>
    bif ah r.2.2.2.2.2.2.2.2.2.2 then some (12,bC l j,[],[],false,ak [[D.int .i64 x.1.kind,D.int .i64 x.1.op,D.str x.1.text,D.str x.1.other,D.sl false 5 (ak ks)],[D.int .i64 r.1,D.int .i64 r.2.1,D.str r.2.2.1,D.str r.2.2.2.1,D.sl false 5 (ak r.2.2.2.2.2.1)]],false,
     r.2.2.2.2.2.2.2.1,r.2.2.2.2.2.2.2.2.1,r.2.2.2.2.2.2.2.2.2.1,r.2.2.2.2.2.2.2.2.2.2) else none) ((ex l n 8 a b (j+1) nt).bind λy j' nt=> .ok (.mk 12 (bC l j) [] [] [x.1,y.1],false) j' nt):=by
   intro hlt;refine AP.elim (R:=AP l) (h.e8 a b (j+1) nt aB aB) (λ_=>trivial) (λk op x y fl ks tg j nt hn=> ?_) (λy fl' kt j' VI hk' he'=> ?_)
   ·simp only[aI,dR];exact AP.fC hn
   ·simp only[aI,dR];exact AP.mk rfl rfl rfl rfl (by rw[fz2 (J8 hk) (J8 hk'),iT];rfl) rfl
  have e7:Bg 7 b (bC l j)=(EH (bC l j)==7 && !(b && bC l j==62)):=rfl;rw[e7];cases hc:EH (bC l j)==7 with
  |false=>simp only[Bool.not_false,bH,aI,Bool.false_and];exact AP.mk rfl rfl rfl rfl (J8 hk) rfl
  |true=>
   have hlt:j<l.length:=by
    refine dX λe=> ?_
    rw[e] at hc;exact absurd hc (by decide)
   simp only[zaM,bH,aI,Bool.true_and,mM hl hlt];cases b with
   |false=>simp only[Bool.false_and,Bool.not_false,aI,bH];exact hgo hlt
   |true=>
    simp only[Bool.true_and,aI];cases hc':bC l j==62 with
    |true=>simp only[zaM,bH,aI];exact AP.mk rfl rfl rfl rfl (J8 hk) rfl
    |false=>simp only[Bool.not_false,bH,aI];exact hgo hlt
theorem aFs(a b:Bool)(i:Nat)(nt:iw)(hi:i<=l.length)(hn:nt.length<=i):AP l (M.jE (m+1) a b (au l) (i:Int) false (encS nt)) (ex l (n+1) 11 a b i nt):=by
 have h:=H n (zaN _) m aB;rw[M.Qo];simp only[M.pX,dR,aI,ex,eU,aj,bH,bne];have hgo:i<l.length->AP l ((M.jE m a b (au l) ((i+1:Nat):Int) false (encS nt)).bind λr=>
   bif ah r.2.2.2.2.2.2.2.2.2.2 then some (11,bC l i,[],[],true,[[D.int .i64 r.1,D.int .i64 r.2.1,D.str r.2.2.1,D.str r.2.2.2.1,D.sl false 5 (ak r.2.2.2.2.2.1)]],false,
    r.2.2.2.2.2.2.2.1,r.2.2.2.2.2.2.2.2.1,r.2.2.2.2.2.2.2.2.2.1,r.2.2.2.2.2.2.2.2.2.2) else none) ((ex l n 11 a b (i+1) nt).bind λx j nt=> .ok (.mk 11 (bC l i) [] [] [x.1],false) j nt):=by
  intro hlt;refine AP.elim (R:=AP l) (h.e11 a b (i+1) nt aB aB) (λ_=>trivial) (λk op x y fl ks tg j nt hn=> ?_) (λy fl' kt j' VI hk' he'=> ?_)
  ·simp only[aI,dR];exact AP.fC hn
  ·simp only[aI,dR];exact AP.mk rfl rfl rfl rfl (fz1 (J8 hk')) rfl
 cases h5:bC l i==55 with
 |true=>have hlt:=cO h5 (by decide);simp only[zaM,bH,aI,Bool.true_or,mM hl hlt];exact hgo hlt
 |false=>
  cases h6:bC l i==56 with
  |true=>have hlt:=cO h6 (by decide);simp only[zaM,Bool.not_false,bH,aI,Bool.true_or,Bool.or_true,mM hl hlt];exact hgo hlt
  |false=>
   cases h1:bC l i==61 with
   |true=>have hlt:=cO h1 (by decide);simp only[zaM,Bool.not_false,bH,aI,Bool.true_or,Bool.or_true,mM hl hlt];exact hgo hlt
   |false=>simp only[Bool.not_false,bH,aI,Bool.or_false];exact AP.pass (h.e12 a b i nt hi hn) (by intros;simp only[dR,aI])
theorem aFt(a b:Bool)(i:Nat)(nt:iw)(hi:i<=l.length)(hn:nt.length<=i):AP l (M.uH (m+1) a b (au l) (i:Int) false (encS nt)) (ex l (n+1) 12 a b i nt):=by
 have h:=H n (zaN _) m aB;rw[M.SB];simp only[M.uy,dR,aI,ex];refine AP.elim (R:=AP l) (h.e13 a b i nt hi hn) (λ_=>trivial) (λk op x y fl ks tg j nt hn=> ?_) (λx fl ks j nt hk he=> ?_)
 ·simp only[aI,dR];exact AP.fC hn
 ·have hs:=gY (EJ aB aB hi) he;simp only[bH,dR,aI,eU,aj,bne,M.kG,M.AA];cases hc:bC l j==60 with
  |false=>simp only[Bool.not_false,aI,bH];exact AP.mk rfl rfl rfl rfl (J8 hk) rfl
  |true=>
   have hlt:=cO hc (by decide);simp only[zaM,bH,aI,mM hl hlt];refine AP.elim (R:=AP l) (h.e11 a b (j+1) nt aB aB) (λ_=>trivial) (λk op x y fl ks tg j nt hn=> ?_) (λy fl' kt j' VI hk' he'=> ?_)
   ·simp only[aI,dR];exact AP.fC hn
   ·simp only[aI,dR];exact AP.mk rfl rfl rfl rfl (by rw[fz2 (J8 hk) (J8 hk'),iT];rfl) rfl
theorem aFu(a b:Bool)(i:Nat)(nt:iw)(hi:i<=l.length)(hn:nt.length<=i):AP l (M.rJ (m+1) (au l) (i:Int) false (encS nt)) (ex l (n+1) 13 a b i nt):=by
 have h:=H n (zaN _) m aB;rw[M.Ru];simp only[M.rG,dR,aI,ex,Bool.not_false,eU,aj,arQ];cases hc:isStep (bC l i) with
 |true=>have hlt:=dX (Js hc);simp only[aI];exact AP.pass (h.pre i nt hlt hn) (by intros;simp only[dR,aI])
 |false=>
  simp only[bH];refine AP.elim (R:=AP l) (h.e14 a b i nt hi hn) (λ_=>trivial) (λk op x y fl ks tg j nt hn=> ?_) (λx fl ks j nt hk he=> ?_)
  ·simp only[aI,dR];exact AP.fC hn
  ·have hs:=gY (EJ aB aB hi) he;simp only[bH,dR,aI,eU,aj,arQ];cases ht:tgt x with
   |false=>simp only[Bool.not_false,aI,Bool.false_and,bH];exact AP.mk rfl rfl rfl rfl (J8 hk) ht.symm
   |true=>
    simp only[zaM,bH,Bool.true_and];cases hc:isStep (bC l j) with
    |false=>simp only[Bool.not_false,aI,bH];exact AP.mk rfl rfl rfl rfl (J8 hk) ht.symm
    |true=>have hlt:=dX (Js hc);simp only[zaM,bH,aI,mM hl hlt];exact AP.mk rfl rfl rfl rfl (fz1 (J8 hk)) rfl
theorem aFv(a b:Bool)(i:Nat)(nt:iw)(hi:i<=l.length)(hn:nt.length<=i):AP l (M.lH (m+1) (au l) (i:Int) false (encS nt)) (ex l (n+1) 14 a b i nt):=by
 have h:=H n (zaN _) m aB;rw[M.Qn];simp only[M.pW,dR,aI,bH,ex,eU,aj,bne];cases hc:bC l i==68 with
 |false=>simp only[Bool.not_false,aI,bH];exact AP.pass (h.e15 a b i nt hi hn) (by intros;simp only[dR,aI])
 |true=>
  have hlt:=cO hc (by decide);simp only[zaM,bH,aI,mM hl hlt,eU,aj,arQ];cases hs:isStep (bC l (i+1)) with
  |true=>
   have hlt':=dX (Js hs);simp only[aI,dR];refine AP.elim (R:=AP l) (h.pre (i+1) nt hlt' aB) (λ_=>trivial) (λk op x y fl ks tg j nt hn=> ?_) (λy fl' kt j' VI hk' he'=> ?_)
   ·simp only[aI,dR];exact AP.fC hn
   ·simp only[aI,dR];exact AP.mk rfl rfl rfl rfl (fz1 (J8 hk')) rfl
  |false=>
   simp only[bH,aI,dR];refine AP.elim (R:=AP l) (h.e14 a b (i+1) nt aB aB) (λ_=>trivial) (λk op x y fl ks tg j nt hn=> ?_) (λy fl' kt j' VI hk' he'=> ?_)
   ·simp only[aI,dR];exact AP.fC hn
   ·simp only[aI,dR];exact AP.mk rfl rfl rfl rfl (fz1 (J8 hk')) rfl
end
variable {l:List Tk}
def aeV{L:List Tn}{x:Tn}{ks:aA}(h:ak ks=dO false x.kids):
  dO false L++[[D.int .i64 x.kind,D.int .i64 x.op,D.str x.text,D.str x.other,D.sl false 5 (ak ks)]]=dO false (L++[x]):=by
 rw[zq,h,<-arJ];rfl
def itF(u:zap⊕zaF⊕zap):Option TL:=
 iD u (λt=>bif ah t.2.2.2.2 then some (true,t.2.2.2.1,t.1,t.2.1,t.2.2.1,t.2.2.2.2) else none) λu=>
  iD u (λt=>bif ah t.2.2.2 then some (true,t.2.2.1,t.1,t.2.1,true,t.2.2.2) else none) λu=>
  letE u λt=>bif ah t.2.2.2.2 then some (true,t.2.2.2.1,t.1,t.2.1,t.2.2.1,t.2.2.2.2) else none
def ajs(hl:l.length<=1048576){m:Nat}{a b:Bool}:∀n,(∀n',n'<n->∀i nt,i<=l.length->nt.length<=i->AP l (M.gX m a b (au l) (i:Int) false (encS nt)) (ex l n' 1 a b i nt))->
  ∀L i nt,L.length<6->i<=l.length->nt.length<=i->AL l ((M.rU (M.gX m) a b (au l,(i:Int),false,dO false L,encS nt)).bind itF) (NQ l n a b L i nt)
 |0,_,_,_,_,_,_,_=>by rw[NQ];trivial
 |n+1,hrec,L,i,nt,hL,hi,hn=>by
  have hr:=hrec n (Nat.lt_succ_self n) i nt hi hn;have hs:=(sats l n).ex 1 a b i nt aB aB hi;rw[NQ,M.rU];have hb:M.Fp (M.gX m) a b (au l,(i:Int),false,dO false L,encS nt)=
    (M.gX m a b (au l) (i:Int) false (encS nt)).bind λBD=>
    (bif((dO false L).length+[[D.int .i64 BD.1,D.int .i64 BD.2.1,D.str BD.2.2.1,D.str BD.2.2.2.1,D.sl false 5 (ak BD.2.2.2.2.2.1)]].length) * 72|>.ble 140737488355328 then
    (bif((dO false L).length+[[D.int .i64 BD.1,D.int .i64 BD.2.1,D.str BD.2.2.1,D.str BD.2.2.2.1,D.sl false 5 (ak BD.2.2.2.2.2.1)]].length).ble 140737488355328 then
     (bif BD.2.2.2.2.2.2.2.2.2.1 then
     (some (.inr (.inl ((BD.2.2.2.2.2.2.2.1,BD.2.2.2.2.2.2.2.2.1,BD.2.2.2.2.2.2.2.2.2.1,dO false L++[[D.int .i64 BD.1,D.int .i64 BD.2.1,D.str BD.2.2.1,D.str BD.2.2.2.1,D.sl false 5 (ak BD.2.2.2.2.2.1)]],BD.2.2.2.2.2.2.2.2.2.2))))) else
     (bif ah BD.2.2.2.2.2.2.2.2.2.2 then
      ((M.aC BD.2.2.2.2.2.2.2.1 BD.2.2.2.2.2.2.2.2.1 BD.2.2.2.2.2.2.2.2.2.1 BD.2.2.2.2.2.2.2.2.2.2).bind λafG=>
      (bif afG.1 !=36 then
       (some (.inr (.inl ((afG.2.1,afG.2.2.1,afG.2.2.2.1,dO false L++[[D.int .i64 BD.1,D.int .i64 BD.2.1,D.str BD.2.2.1,D.str BD.2.2.2.1,D.sl false 5 (ak BD.2.2.2.2.2.1)]],afG.2.2.2.2))))) else
       (bif((dO false L++[[D.int .i64 BD.1,D.int .i64 BD.2.1,D.str BD.2.2.1,D.str BD.2.2.2.1,D.sl false 5 (ak BD.2.2.2.2.2.1)]]).length:Int)==6 then
       (some (.inr (.inr (.inl ((afG.2.1,afG.2.2.1,dO false L++[[D.int .i64 BD.1,D.int .i64 BD.2.1,D.str BD.2.2.1,D.str BD.2.2.2.1,D.sl false 5 (ak BD.2.2.2.2.2.1)]],afG.2.2.2.2)))))) else
       (bif ah afG.2.2.2.2 then
        ((M.aN afG.2.1 (i64.wrap (afG.2.2.1+1)) afG.2.2.2.1 afG.2.2.2.2).bind λaCw=>
        (some (.inl ((aCw.1,aCw.2.1,aCw.2.2.1,dO false L++[[D.int .i64 BD.1,D.int .i64 BD.2.1,D.str BD.2.2.1,D.str BD.2.2.2.1,D.sl false 5 (ak BD.2.2.2.2.2.1)]],aCw.2.2.2))))) else none)))) else none)) else none) else none):=by
   simp only[Em,M.Fp,M.zl,Bool.not_false,aI,dR]
  generalize ex l n 1 a b i nt=p at hr hs|-;cases p with
  |out=>trivial
  |bad j=>obtain⟨k,op,x',y',fl,kt,tg,m',h1,h2⟩:=hr;rw[h2,aj] at hb;simp only[dI,y7] at hb;rw[bK aB,aI,bK aB,aI,aI] at hb;rw[aO hb,aj];simp only[itF,iD,dR,aI];exact⟨_,_,_,h1,rfl⟩
  |ok x j m'=>
   obtain⟨fl,kt,h1,h2⟩:=hr;have hs':FE l i nt.length x.1.size j m'.length:=hs;rw[h2,aj] at hb;simp only[aeV h1,dI,y7,zT] at hb;rw[bK aB,aI,bK aB,aI,bH,dR,aI,eU,aj] at hb;simp only[PR.bind];simp only[bne] at hb;cases hc:bC l j==36 with
   |false=>simp only[hc,Bool.not_false,aI] at hb;rw[aO hb,aj];simp only[itF,iD,dR,aI,bH];exact⟨_,rfl⟩
   |true=>
    have hlt:=cO hc (by decide);simp only[hc,zaM,bH,dR,aI,mM hl hlt,OB hl (j+1) m' aB aB,aj] at hb;rw[aI];cases h6:Nat.beq (L.length+1) 6 with
    |true=>
     have e:=Bv h6;have e':(((L.length+1:Nat):Int)==6)=true:=by rw[e];rfl
     rw[e',aI] at hb;rw[aO hb,aj,aI];simp only[itF,iD,dR,aI];exact⟨_,_,_,aB,rfl⟩
    |false=>
     have e:L.length+1≠6:=Nat.ne_of_beq_eq_false h6;have e':(((L.length+1:Nat):Int)==6)=false:=by rw[zbn];omega
     rw[e',bH] at hb;rw[bD hb,bH];have hf:=Bj (l:=l) (i:=j+1) (nt:=m') aB;exact ajs hl n (λn' h=>hrec n' aB) (L++[x.1]) _ _ (by rw[zT,y7];omega) aB aB
section
variable {n m:Nat} (hl:l.length<=1048576) (H:∀n',n'<=n->∀m',4 * n'+30<=m'->RI l n' m') (hm:4 * (n+1)+30<=m+1)
include hl H hm
theorem aFw(a b:Bool)(i:Nat)(nt:iw)(hi:i<=l.length)(hn:nt.length<=i):AL l (M.kF (m+1) a b (au l) (i:Int) false (encS nt)) (NQ l (n+1) a b [] i nt):=by rw[M.ZV];exact ajs hl (n+1) (λn' hn' i nt hi hn=>(H n' aB m aB).e1 a b i nt hi hn) [] i nt (by decide) hi hn
theorem aTi(i:Nat)(nt:iw)(hi:i<=l.length)(hn:nt.length<=i):AP l (M.xU m (au l) (i:Int) false (encS nt)) (bif bC l i==68||bC l i==6 then ex l n 14 false false i nt else .bad i):=by
 obtain⟨m2,rfl⟩:∃m2,m=m2+3:=⟨m - 3,aB⟩
 rw[M.X8];simp only[M.rV,bH,dR,aI,eU,aj];cases h8:bC l i==68 with
 |true=>simp only[aI,Bool.true_or];exact AP.pass ((H n (zaN _) (m2+2) aB).e14 false false i nt hi hn) (by intros;simp only[dR,aI])
 |false=>
  cases h6:bC l i==6 with
  |false=>simp only[bH,Bool.or_self,arR,aj,dR,aI];exact AP.fC aB
  |true=>
   have hlt:=cO h6 (by decide);have e:bC l i=6:=by rwa [beq_iff_eq] at h6
   simp only[aI,bH,Bool.false_or];refine AP.pass ?_ (by intros;simp only[dR,aI]);cases n with
   |zero=>rw[ex];trivial
   |succ n1=>
    have e1:ex l (n1+1) 14 false false i nt=ex l n1 15 false false i nt:=by simp only[ex,h8,bH]
    rw[e1];cases n1 with
    |zero=>rw[ex];trivial
    |succ n2=>
     have h3:(bC l i==3)=false:=by rw[e];rfl
     have h4:(bC l i==4)=false:=by rw[e];rfl
     have h5:(bC l i==5)=false:=by rw[e];rfl
     have e2:ex l (n2+1) 15 false false i nt=avU l n2 i nt:=by simp only[ex,h3,h4,h5,h6,bH,aI,avU]
     rw[e2];exact aDp hl (λi nt hi hn=>(H n2 aB m2 aB).its false false i nt hi hn) hlt hn
theorem aFx(i:Nat)(nt:iw)(hi:i<l.length)(hn:nt.length<=i):AP l (M.oL (m+1) (au l) (i:Int) false (encS nt)) (Zi l (n+1) i nt):=by
 rw[M.X9,Zi];simp only[M.rW,dR,aI,eU,aj,mM hl hi];have e:(bif bC l (i+1)==68||bC l (i+1)==6 then(ex l n 14 false false (i+1) nt).bind λx j nt=> .ok (.mk 9 (bC l i) [] [] [x.1],false) j nt else .bad (i+1):PR Xp)=
   (bif bC l (i+1)==68||bC l (i+1)==6 then ex l n 14 false false (i+1) nt else .bad (i+1)).bind λx j nt=> .ok (.mk 9 (bC l i) [] [] [x.1],false) j nt:=by
  cases(bC l (i+1)==68||bC l (i+1)==6)<;>rfl
 rw[e];refine AP.elim (R:=AP l) (aTi hl H hm (i+1) nt aB aB) (λ_=>trivial) (λk op x y fl ks tg j nt hn=> ?_) (λy fl' kt j' VI hk' he'=> ?_)
 ·simp only[aI,dR];exact AP.fC hn
 ·simp only[aI,dR];exact AP.mk rfl rfl rfl rfl (fz1 (J8 hk')) rfl
theorem az6(kd:Int)(hkd:arE kd=false)(i:Nat)(nt:iw)(hi:i<l.length)(hn:nt.length<=i):
  AP l ((M.aJ 32 (au l) ((i+1:Nat):Int) false (encS nt)).bind λr=>bif r.1 then(bif ah r.2.2.2.2 then(M.jg m 33 r.2.1 r.2.2.1 r.2.2.2.1 r.2.2.2.2).bind λr'=>bif ah r'.2.2.2.2.2 then some (kd,0,zK l i,[],false,ak r'.2.1,false,r'.2.2.1,r'.2.2.2.1,r'.2.2.2.2.1,r'.2.2.2.2.2) else none else none)
   else(bif ah r.2.2.2.2 then some (kd,0,zK l i,[],true,[],false,r.2.1,r.2.2.1,r.2.2.2.1,r.2.2.2.2) else none))
   ((iV l 32 (i+1) nt).bind λ_ j nt=>(PV l n 33 j nt).bind λL j nt=> .ok (.mk kd 0 (zK l i) [] L,false) j nt):=by
 refine JK (R:=AP l) hl (by decide) ?_ (λ_ hlt=> ?_)
 ·simp only[dR,aI,bH];exact AP.fC aB
 ·simp only[dR,aI];obtain⟨m2,rfl⟩:∃m2,m=m2+3:=⟨m - 3,aB⟩
  cases n with
  |zero=>rw[PV];trivial
  |succ n1=>
   refine AL.elim (R:=AP l) (az5 hl ((H n1 aB (m2+2) aB).its false false (i+1+1) nt aB aB) aB aB) (λ_=>trivial) (λfl ks j nt hn=> ?_) (λL fl j nt he=> ?_)
   ·simp only[dR,aI];exact AP.fC hn
   ·simp only[dR,aI,iT];exact AP.mk rfl rfl rfl rfl (iT _ _) (by simp only[tgt,Tn.kind,hkd];rfl)
theorem aFy(a b:Bool)(i:Nat)(nt:iw)(hi:i<=l.length)(hn:nt.length<=i):AP l (M.nT (m+1) (au l) (i:Int) false (encS nt)) (ex l (n+1) 15 a b i nt):=by
 have h:=H n (zaN _) m aB;rw[M.NZ];simp only[M.nR,dR,aI,bH,ex,eU,aj];cases h3:bC l i==3 with
 |true=>have hlt:=cO h3 (by decide);simp only[aI,JJ hl hlt,aj,dR];exact AP.mk rfl rfl rfl rfl rfl rfl
 |false=>
 cases h4:bC l i==4 with
 |true=>have hlt:=cO h4 (by decide);simp only[aI,bH,JJ hl hlt,aj,dR];exact AP.mk rfl rfl rfl rfl rfl rfl
 |false=>
 cases h5:bC l i==5 with
 |true=>have hlt:=cO h5 (by decide);simp only[aI,bH,JJ hl hlt,aj,dR];exact AP.mk rfl rfl rfl rfl rfl rfl
 |false=>
 cases h6:bC l i==6 with
 |true=>
  have hlt:=cO h6 (by decide);simp only[aI,bH];obtain⟨m2,rfl⟩:∃m2,m=m2+2:=⟨m - 2,aB⟩
  exact AP.pass (aDp hl (λi nt hi hn=>(H n (zaN _) m2 aB).its false false i nt hi hn) hlt hn) (by intros;simp only[dR,aI])
 |false=>
 cases h7:bC l i==7 with
 |true=>
  have hlt:=cO h7 (by decide);have e:bC l i=7:=by rwa [beq_iff_eq] at h7
  have h8:(bC l i==8)=false:=by rw[e];rfl
  simp only[aI,bH,JJ hl hlt,aj,dR,h8,Bool.true_or,Bool.false_and];have:=az6 hl H hm 7 rfl i nt hlt hn;rw[e];exact this
 |false=>
 cases h8:bC l i==8 with
 |true=>
  have hlt:=cO h8 (by decide);have e:bC l i=8:=by rwa [beq_iff_eq] at h8
  simp only[aI,bH,JJ hl hlt,aj,dR,Bool.or_true,Bool.true_and];have hcall:=az6 hl H hm 8 rfl i nt hlt hn;cases hx:zK l i==[108,101,110,103,116,104] with
  |false=>simp only[bH,Bool.false_and];rw[e];exact hcall
  |true=>
   simp only[aI,Bool.true_and,eU,aj,bne];cases h32:bC l (i+1)==32 with
   |false=>simp only[Bool.not_false,aI,dR];exact AP.mk rfl rfl rfl rfl rfl rfl
   |true=>simp only[zaM,bH,dR,aI];rw[e];exact hcall
 |false=>
 cases h32:bC l i==32 with
 |true=>
  have hlt:=cO h32 (by decide);simp only[aI,bH,mM hl hlt,Bool.or_self];refine AP.elim (R:=AP l) (h.e1 false false (i+1) nt aB aB) (λ_=>trivial) (λk op x y fl ks tg j nt hn=> ?_) (λx fl ks j VI hk he=> ?_)
  ·simp only[aI,dR,sG,aj];exact AP.fC hn
  ·have hs:=gY (EJ aB aB aB) he;simp only[dR,aI];refine JK (R:=AP l) hl (by decide) ?_ (λ_ hlt=> ?_)
   ·simp only[dR,aI];exact AP.fC aB
   ·simp only[dR,aI];exact AP.mk rfl rfl rfl rfl (J8 hk) rfl
 |false=>simp only[bH,Bool.or_self,arR,aj,dR,aI];exact AP.fC aB
end
variable {l:List Tk}
abbrev Q1:=aA×aA×Int×Bool×Bool×Bool×Int×Int×aP×aP×Bool×Int×Int×aP×aP×Bool×aA
abbrev Q2:=aA×Int×Bool×Bool×Bool×Int×Int×aP×aP×Bool×Int×Int×aP×aP×aA×Bool×aA
abbrev Q3:=aA×Int×Bool×Bool×Bool×Int×Int×aP×aP×Bool×Int×Int×aP×aP×Bool×aA×aA
def inF(u:Q1⊕Q2⊕Q3):Option TP:=iD u (λt=>bif ah t.2.2.2.2.2.2.2.2.2.2.2.2.2.2.2.2 then some (t.2.2.2.2.2.2.2.2.2.2.2.1,t.2.2.2.2.2.2.2.2.2.2.2.2.1,t.2.2.2.2.2.2.2.2.2.2.2.2.2.1,t.2.2.2.2.2.2.2.2.2.2.2.2.2.2.1,true,[],t.2.2.2.2.2.2.2.2.2.2.2.2.2.2.2.1,t.2.1,t.2.2.1,t.2.2.2.1,t.2.2.2.2.2.2.2.2.2.2.2.2.2.2.2.2) else none) λu=>iD u (λt=>bif ah t.2.2.2.2.2.2.2.2.2.2.2.2.2.2.2.2 then some (t.2.2.2.2.2.2.2.2.2.2.1,t.2.2.2.2.2.2.2.2.2.2.2.1,t.2.2.2.2.2.2.2.2.2.2.2.2.1,t.2.2.2.2.2.2.2.2.2.2.2.2.2.1,false,t.2.2.2.2.2.2.2.2.2.2.2.2.2.2.1,t.2.2.2.2.2.2.2.2.2.2.2.2.2.2.2.1,t.1,t.2.1,t.2.2.1,t.2.2.2.2.2.2.2.2.2.2.2.2.2.2.2.2) else none) λu=>letE u λt=>bif ah t.2.2.2.2.2.2.2.2.2.2.2.2.2.2.2.1 then some (t.2.2.2.2.2.2.2.2.2.2.1,t.2.2.2.2.2.2.2.2.2.2.2.1,t.2.2.2.2.2.2.2.2.2.2.2.2.1,t.2.2.2.2.2.2.2.2.2.2.2.2.2.1,true,t.2.2.2.2.2.2.2.2.2.2.2.2.2.2.2.2,t.2.2.2.2.2.2.2.2.2.2.2.2.2.2.1,t.1,t.2.1,t.2.2.1,t.2.2.2.2.2.2.2.2.2.2.2.2.2.2.2.1) else none
def q2(a b:Bool)(c:aA)(c1:Int)(c2:Bool)(k op:Int)(x y:aP)(ks:aA)(tg:Bool)(c3:aA):Q2:=(c,c1,c2,a,b,0,0,[],[],false,k,op,x,y,ks,tg,c3)
def q3(a b:Bool)(c:aA)(c1:Int)(c2:Bool)(k op:Int)(x y:aP)(ks:aA)(tg:Bool)(c3:aA):Q3:=(c,c1,c2,a,b,0,0,[],[],false,k,op,x,y,tg,c3,ks)
def aCx(a b:Bool)(c1:Int)(c2:Bool)(k op:Int)(x y:aP)(ks:aA)(tg:Bool)(nt:iw):inF (.inr (.inl (q2 a b (au l) c1 c2 k op x y ks tg (encS nt))))=some (k,op,x,y,false,ks,tg,au l,c1,c2,encS nt):=by simp only[inF,iD,q2,dR,aI]
def aCy(a b:Bool)(c1:Int)(c2:Bool)(k op:Int)(x y:aP)(ks:aA)(tg:Bool)(nt:iw):inF (.inr (.inr (q3 a b (au l) c1 c2 k op x y ks tg (encS nt))))=some (k,op,x,y,true,ks,tg,au l,c1,c2,encS nt):=by simp only[inF,iD,letE,q3,dR,aI]
def in3(hl:l.length<=1048576){f:Int->aA->Int->Bool->aA->Option TL}{g:Bool->Bool->aA->Int->Bool->aA->Option TP}{a b:Bool}:∀(n:Nat) (x:Xp) (i:Nat) (nt:iw) (ks:aA),i<=l.length->nt.length<=i->ak ks=dO false x.1.kids->
  AP l ((M.gq f g (.inr (.inr (q3 a b (au l) (i:Int) false x.1.kind x.1.op x.1.text x.1.other ks (tgt x) (encS nt))))).bind inF) (inP l n a x i nt)
 |0,_,_,_,_,_,_,_=>by rw[inP];trivial
 |n+1,x,i,nt,ks,hi,hn,hk=>by
  rw[inP,M.gq];cases hc:bC l i==24 with
  |false=>
   have hb:M.gQ f g (.inr (.inr (q3 a b (au l) (i:Int) false x.1.kind x.1.op x.1.text x.1.other ks (tgt x) (encS nt))))=some (.inr (.inr (.inr (q3 a b (au l) (i:Int) false x.1.kind x.1.op x.1.text x.1.other ks (tgt x) (encS nt))))):=by simp only[M.gQ,M.kE,q3,Bool.not_false,aI,bH,dR,eU,aj,hc]
   rw[aO hb,aj,aCy,Bool.false_and,bH];exact AP.mk rfl rfl rfl rfl hk rfl
  |true=>
   cases a with
   |true=>
    have hb:M.gQ f g (.inr (.inr (q3 true b (au l) (i:Int) false x.1.kind x.1.op x.1.text x.1.other ks (tgt x) (encS nt))))=some (.inr (.inr (.inr (q3 true b (au l) (i:Int) false x.1.kind x.1.op x.1.text x.1.other ks (tgt x) (encS nt))))):=by simp only[M.gQ,M.kE,q3,Bool.not_false,zaM,aI,bH,dR,eU,aj,hc]
    rw[aO hb,aj,aCy];simp only[zaM,Bool.and_false,bH];exact AP.mk rfl rfl rfl rfl hk rfl
   |false=>
    have hlt:=cO hc (by decide);have hb:M.gQ f g (.inr (.inr (q3 false b (au l) (i:Int) false x.1.kind x.1.op x.1.text x.1.other ks (tgt x) (encS nt))))=(M.bM (au l) ((i+1:Nat):Int) false (encS nt)).bind λr=>some (.inl (.inr (.inr (q3 false b r.2.1 r.2.2.1 r.2.2.2.1 13 0 r.1 [] [[D.int .i64 x.1.kind,D.int .i64 x.1.op,D.str x.1.text,D.str x.1.other,D.sl true 5 ks]] false r.2.2.2.2)))):=by simp only[M.gQ,M.kE,q3,Bool.not_false,aI,dR,eU,aj,hc,mM hl hlt]
    simp only[Bool.not_false,Bool.and_self,aI];cases h6:bC l (i+1)==6 with
    |false=>
     have hnm:M.bM (au l) ((i+1:Nat):Int) false (encS nt)=some ([],au l,((i+1:Nat):Int),true,encS nt):=by simp only[M.bM,M.iL,dR,aI,bH,eU,aj,bne,h6,Bool.not_false]
     rw[hnm,aj] at hb;rw[bD hb,show gV _ _=_ from aO rfl,aj,nameP,h6];exact⟨_,_,_,_,_,_,_,_,(show nt.length<=l.length by omega),aCy (l:=l) _ _ _ _ _ _ _ _ _ _ _⟩
    |true=>
     have h2:=cO h6 (by decide);have hnm:M.bM (au l) ((i+1:Nat):Int) false (encS nt)=some (zK l (i+1),au l,((i+1+1:Nat):Int),false,encS nt):=by simp only[M.bM,M.iL,dR,aI,bH,eU,aj,bne,h6,zaM,JJ hl h2]
     rw[hnm,aj] at hb;rw[bD hb,nameP,h6];exact in3 hl n (.mk 13 0 (zK l (i+1)) [] [x.1],false) (i+1+1) nt _ aB aB (fz1 hk)
def in2(hl:l.length<=1048576){f:Int->aA->Int->Bool->aA->Option TL}{g:Bool->Bool->aA->Int->Bool->aA->Option TP}{a b:Bool}:∀(n:Nat) (x:Xp) (i:Nat) (nt:iw) (ks:aA),i<=l.length->nt.length<=i->ak ks=dO false x.1.kids->
  AP l ((M.gq f g (.inr (.inl (q2 a b (au l) (i:Int) false x.1.kind x.1.op x.1.text x.1.other ks (tgt x) (encS nt))))).bind inF) (inP l n a x i nt)
 |0,_,_,_,_,_,_,_=>by rw[inP];trivial
 |n+1,x,i,nt,ks,hi,hn,hk=>by
  rw[inP,M.gq];cases hc:bC l i==24 with
  |false=>
   have hb:M.gQ f g (.inr (.inl (q2 a b (au l) (i:Int) false x.1.kind x.1.op x.1.text x.1.other ks (tgt x) (encS nt))))=some (.inr (.inr (.inl (q2 a b (au l) (i:Int) false x.1.kind x.1.op x.1.text x.1.other ks (tgt x) (encS nt))))):=by simp only[M.gQ,M.kE,q2,Bool.not_false,aI,bH,dR,eU,aj,hc]
   rw[aO hb,aj,aCx,Bool.false_and,bH];exact AP.mk rfl rfl rfl rfl hk rfl
  |true=>
   cases a with
   |true=>
    have hb:M.gQ f g (.inr (.inl (q2 true b (au l) (i:Int) false x.1.kind x.1.op x.1.text x.1.other ks (tgt x) (encS nt))))=some (.inr (.inr (.inl (q2 true b (au l) (i:Int) false x.1.kind x.1.op x.1.text x.1.other ks (tgt x) (encS nt))))):=by simp only[M.gQ,M.kE,q2,Bool.not_false,zaM,aI,bH,dR,eU,aj,hc]
    rw[aO hb,aj,aCx];simp only[zaM,Bool.and_false,bH];exact AP.mk rfl rfl rfl rfl hk rfl
   |false=>
    have hlt:=cO hc (by decide);have hb:M.gQ f g (.inr (.inl (q2 false b (au l) (i:Int) false x.1.kind x.1.op x.1.text x.1.other ks (tgt x) (encS nt))))=(M.bM (au l) ((i+1:Nat):Int) false (encS nt)).bind λr=>some (.inl (.inr (.inr (q3 false b r.2.1 r.2.2.1 r.2.2.2.1 13 0 r.1 [] [[D.int .i64 x.1.kind,D.int .i64 x.1.op,D.str x.1.text,D.str x.1.other,D.sl false 5 ks]] false r.2.2.2.2)))):=by simp only[M.gQ,M.kE,q2,q3,Bool.not_false,aI,dR,eU,aj,hc,mM hl hlt]
    simp only[Bool.not_false,Bool.and_self,aI];cases h6:bC l (i+1)==6 with
    |false=>
     have hnm:M.bM (au l) ((i+1:Nat):Int) false (encS nt)=some ([],au l,((i+1:Nat):Int),true,encS nt):=by simp only[M.bM,M.iL,dR,aI,bH,eU,aj,bne,h6,Bool.not_false]
     rw[hnm,aj] at hb;rw[bD hb,show gV _ _=_ from aO rfl,aj,nameP,h6];exact⟨_,_,_,_,_,_,_,_,(show nt.length<=l.length by omega),aCy (l:=l) _ _ _ _ _ _ _ _ _ _ _⟩
    |true=>
     have h2:=cO h6 (by decide);have hnm:M.bM (au l) ((i+1:Nat):Int) false (encS nt)=some (zK l (i+1),au l,((i+1+1:Nat):Int),false,encS nt):=by simp only[M.bM,M.iL,dR,aI,bH,eU,aj,bne,h6,zaM,JJ hl h2]
     rw[hnm,aj] at hb;rw[bD hb,nameP,h6];exact in3 hl n (.mk 13 0 (zK l (i+1)) [] [x.1],false) (i+1+1) nt _ aB aB (fz1 hk)
def apO{α:Type}{x:PR α}:x.sat λ_ _ _=>True:=by cases x<;>trivial
def as9{a b:Bool}:∀(n:Nat) (L:List Tn) (i:Nat) (nt:iw),(NQ l n a b L i nt).sat λL' _ _=>L.length<L'.length
 |0,_,_,_=>by rw[NQ];trivial
 |n+1,L,i,nt=>by
  rw[NQ,dY];refine bP apO λx j m _=> ?_
  rw[eY];refine⟨λ_=> ?_,λ_=> ?_⟩
  ·rw[eY];refine⟨λ_=>trivial,λ_=> ?_⟩;exact bP (as9 n _ _ _) λL' _ _ h=>by rw[zT,y7] at h;omega
  ·show L.length<(L++[x.1]).length;rw[zT,y7];omega
def apP{i:Nat}(h32:bC l i=32)(h:ahead (l.drop i) 0=true):(bC l (i+1)==33)=false:=by
 have hlt:i<l.length:=dX (by rw[h32];decide);obtain⟨t,ht⟩:∃t,l[i]? =some t:=⟨l[i],by simp[hlt]⟩
 have e1:t.kind=32:=by rw[bC,ht] at h32;exact h32
 rw[Uz ht,ahead,e1] at h;have h':ahead (l.drop (i+1)) 1=true:=h;cases hk:l[i+1]? with
 |none=>rw[bC,hk];rfl
 |some u=>
  rw[Uz hk,ahead] at h';rw[bC,hk];show(u.kind==33)=false;cases hu:u.kind==33 with
  |false=>rfl
  |true=>
   have e:u.kind=33:=by rwa [beq_iff_eq] at hu
   rw[e] at h';exact absurd (show false=true from h') Bool.false_ne_true
def az7{n i:Nat}{nt:iw}(h:(bC l i==33)=false):(PV l n 33 i nt).sat λL _ _=>1<=L.length:=by
 cases n with
 |zero=>rw[PV];trivial
 |succ n=>
  rw[PV,h,bH,dY];refine bP (as9 n [] i nt) λL j m hL=> ?_
  rw[dY,vF];exact λ_=>hL
section
variable {n m:Nat} (hl:l.length<=1048576) (H:∀n',n'<=n->∀m',4 * n'+30<=m'->RI l n' m') (hm:4 * (n+1)+30<=m+1)
include hl H hm
theorem aCz(a b:Bool)(i:Nat)(nt:iw)(hi:i<=l.length)(hn:nt.length<=i):
  AP l ((M.jF m a b (au l) (i:Int) false (encS nt)).bind λr=>(M.gq (M.jg m) (M.jF m) (.inr (.inl (q2 a b r.2.2.2.2.2.2.2.1 r.2.2.2.2.2.2.2.2.1 r.2.2.2.2.2.2.2.2.2.1 r.1 r.2.1 r.2.2.1 r.2.2.2.1 (ak r.2.2.2.2.2.1) r.2.2.2.2.2.2.1 r.2.2.2.2.2.2.2.2.2.2)))).bind inF)
   ((ex l n 6 a b i nt).bind λx i nt=>inP l n a x i nt):=by
 have h:=H n (zaN _) m aB;refine AP.elim (R:=AP l) (h.e6 a b i nt hi hn) (λ_=>trivial) (λk op x y fl ks tg j nt hn=> ?_) (λx fl ks j nt hk he=> ?_)
 ·rw[show M.gq _ _ _=_ from aO rfl,aj];exact⟨_,_,_,_,_,_,_,_,hn,aCx (l:=l) _ _ _ _ _ _ _ _ _ _ _⟩
 ·have hs:=gY (EJ aB aB hi) he;exact in2 hl n x j nt _ aB aB (J8 hk)
theorem aME(a b:Bool)(i:Nat)(nt:iw)(hi:i<=l.length)(hn:nt.length<=i):AP l (M.rY (m+1) a b (au l) (i:Int) false (encS nt)) (ex l (n+1) 5 a b i nt):=by
 have hbare:=aCz hl H hm a b i nt hi hn;rw[M.Um];simp only[M.wE,Bool.not_false,dR,aI,ex,eU,aj];cases h32:bC l i==32 with
 |false=>simp only[bH,Bool.false_and];exact hbare
 |true=>
  have hlt:=cO h32 (by decide);have e32:bC l i=32:=by rwa [beq_iff_eq] at h32
  simp only[aI,Bool.true_and];cases a with
  |true=>simp only[zaM,bH,Bool.false_and];exact hbare
  |false=>
   simp only[Bool.not_false,aI,Bool.true_and,dR,aCq hl i nt hi,aj];cases ha:ahead (l.drop i) 0 with
   |false=>simp only[bH,dR,aI];exact hbare
   |true=>
    simp only[aI,dR,mM hl hlt];have hne:=apP e32 ha;obtain⟨m2,rfl⟩:∃m2,m=m2+3:=⟨m - 3,aB⟩
    cases n with
    |zero=>rw[PV];trivial
    |succ n1=>
     refine AL.elim (R:=AP l) (az5 hl ((H n1 aB (m2+2) aB).its false false (i+1) nt aB aB) aB aB) (λ_=>trivial) (λfl ks j nt hn=> ?_) (λL fl j VI he=> ?_)
     ·simp only[zaM,bH];rw[show M.gq _ _ _=_ from aO rfl];simp only[aj,iD,dR,aI];exact AP.fC hn
     ·have hs:=gY ((sats l (n1+1)).lst 33 (i+1) nt (by decide) aB) he;have hlong:=gY (az7 (n:=n1+1) (nt:=nt) hne) he;simp only[Bool.not_false,aI,dR,eU,aj,bne,iT];rw[iV];cases h24:bC l j==24 with
      |false=>simp only[Bool.not_false,aI,dR,arR,aj,bH];exact AP.fC aB
      |true=>
       have hlt':=cO h24 (by decide);simp only[zaM,bH,aI];have hb:M.gQ (M.jg (m2+3)) (M.jF (m2+3)) (.inl (dO false L,false,au l,(j:Int),false,false,b,0,0,[],[],false,0,0,[],[],false,encS VI))=(M.bM (au l) ((j+1:Nat):Int) false (encS VI)).bind λr=>some (.inl (.inr (.inl (q2 false b r.2.1 r.2.2.1 r.2.2.2.1 13 0 r.1 [] (dO false L) false r.2.2.2.2)))):=by simp only[M.gQ,M.kE,q2,Bool.not_false,aI,dR,eU,aj,h24,mM hl hlt',dI];rw[bK hlong,aI]
       show AP l ((M.gq (M.jg (m2+3)) (M.jF (m2+3)) (.inl (dO false L,false,au l,(j:Int),false,false,b,0,0,[],[],false,0,0,[],[],false,encS VI))).bind inF) ((nameP l (j+1) VI).bind λs i nt=>inP l (n1+1) false (Tn.mk 13 0 s [] L,false) i nt);rw[M.gq];cases h6:bC l (j+1)==6 with
       |false=>
        have hnm:M.bM (au l) ((j+1:Nat):Int) false (encS VI)=some ([],au l,((j+1:Nat):Int),true,encS VI):=by simp only[M.bM,M.iL,dR,aI,bH,eU,aj,bne,h6,Bool.not_false]
        rw[hnm,aj] at hb;rw[bD hb,show gV _ _=_ from aO rfl,aj,nameP,h6];exact⟨_,_,_,_,_,_,_,_,(show VI.length<=l.length by omega),aCx (l:=l) _ _ _ _ _ _ _ _ _ _ _⟩
       |true=>
        have h2:=cO h6 (by decide);have hnm:M.bM (au l) ((j+1:Nat):Int) false (encS VI)=some (zK l (j+1),au l,((j+1+1:Nat):Int),false,encS VI):=by simp only[M.bM,M.iL,dR,aI,bH,eU,aj,bne,h6,zaM,JJ hl h2]
        rw[hnm,aj] at hb;rw[bD hb,nameP,h6];exact in2 hl (n1+1) (.mk 13 0 (zK l (j+1)) [] L,false) (j+1+1) VI _ aB aB (iT _ _)
end
def ri(hl:l.length<=1048576):∀N n,n<=N->∀m,4 * n+30<=m->RI l n m:=by
 intro N;induction N with
 |zero=>intro n hn m hm;obtain rfl:n=0:=aB;exact⟨λ_ _ _ _ _ _=>by rw[ex];trivial,λ_ _ _ _ _ _=>by rw[ex];trivial,λ_ _ _ _ _ _=>by rw[ex];trivial,λ_ _ _ _ _ _=>by rw[ex];trivial,λ_ _ _ _ _ _=>by rw[ex];trivial,λ_ _ _ _ _ _=>by rw[ex];trivial,λ_ _ _ _ _ _=>by rw[ex];trivial,λ_ _ _ _ _ _=>by rw[ex];trivial,λ_ _ _ _ _ _=>by rw[ex];trivial,λ_ _ _ _ _ _=>by rw[ex];trivial,λ_ _ _ _ _ _=>by rw[ex];trivial,λ_ _ _ _ _ _=>by rw[ex];trivial,λ_ _ _ _ _ _=>by rw[ex];trivial,λ_ _ _ _ _ _=>by rw[ex];trivial,λ_ _ _ _ _ _=>by rw[ex];trivial,λ_ _ _ _=>by rw[Zi];trivial,λ_ _ _ _ _ _=>by rw[NQ];trivial⟩
 |succ N ih=>
  intro n hn m hm;cases n with
  |zero=>exact ih 0 aB m hm
  |succ n=>
   cases m with
   |zero=>omega
   |succ m=>
    have H:∀n',n'<=n->∀m',4 * n'+30<=m'->RI l n' m':=λn' h=>ih n' aB
    exact⟨aMw hl H hm,aMx hl H hm,aMy hl H hm,aMz hl H hm,aME hl H hm,aMC hl H hm,aMD hl H hm,aMA hl H hm,aMB hl H hm,aFr hl H hm,aFs hl H hm,aFt hl H hm,aFu hl H hm,aFv hl H hm,aFy hl H hm,aFx hl H hm,aFw hl H hm⟩
def RI.of(hl:l.length<=1048576)(n:Nat){m:Nat}(hm:4 * n+30<=m):RI l n m:=ri hl n n (zaN _) m hm
variable {l:List Tk}
def AT.BA{β:Type}{o:Option TT}{j:Nat}(h:AT l o (.bad j)){f:TT->Option β}{R:Option β->Prop}
  (hb:∀k op x y fl ks nt,nt.length<=l.length->R (f (k,op,x,y,fl,ks,au l,(j:Int),true,encS nt))):R (o.bind f):=by
 obtain⟨k,op,x,y,fl,ks,nt,h1,rfl⟩:=h;exact hb k op x y fl ks nt h1
def AT.fC{k op:Int}{x y:aP}{fl:Bool}{ks:aA}{j:Nat}{nt:iw}(hn:nt.length<=l.length):AT l (some (k,op,x,y,fl,ks,au l,(j:Int),true,encS nt)) (.bad j):=⟨_,_,_,_,_,_,_,hn,rfl⟩
def AT.mk{x:Tn}{k op:Int}{s s':aP}{fl:Bool}{ks:aA}{j:Nat}{nt:iw}(h1:k=x.kind)(h2:op=x.op)(h3:s=x.text)(h4:s'=x.other)(h5:ak ks=dO false x.kids):
  AT l (some (k,op,s,s',fl,ks,au l,(j:Int),false,encS nt)) (.ok x j nt):=by
 subst h1 h2 h3 h4;exact⟨_,_,h5,rfl⟩
def AL.BA{β:Type}{o:Option TL}{j:Nat}(h:AL l o (.bad j)){f:TL->Option β}{R:Option β->Prop}
  (hb:∀fl ks nt,nt.length<=l.length->R (f (fl,ks,au l,(j:Int),true,encS nt))):R (o.bind f):=by
 obtain⟨fl,ks,nt,h1,rfl⟩:=h;exact hb fl ks nt h1
def AP.lim{o o':Option TP}{p:PR Xp}(h:AP l o p)(hof:∀r,o=some r->o'=some r):AP l o' p:=by
 cases p with
 |ok x j nt=>obtain⟨fl,ks,h1,h2⟩:=h;exact⟨fl,ks,h1,hof _ h2⟩
 |bad j=>obtain⟨k,op,x,y,fl,ks,tg,nt,h1,h2⟩:=h;exact⟨k,op,x,y,fl,ks,tg,nt,h1,hof _ h2⟩
 |out=>trivial
def AT.lim{o o':Option TT}{p:PR Tn}(h:AT l o p)(hof:∀r,o=some r->o'=some r):AT l o' p:=by
 cases p with
 |ok x j nt=>obtain⟨fl,ks,h1,h2⟩:=h;exact⟨fl,ks,h1,hof _ h2⟩
 |bad j=>obtain⟨k,op,x,y,fl,ks,nt,h1,h2⟩:=h;exact⟨k,op,x,y,fl,ks,nt,h1,hof _ h2⟩
 |out=>trivial
def AL.lim{o o':Option TL}{p:PR (List Tn)}(h:AL l o p)(hof:∀r,o=some r->o'=some r):AL l o' p:=by
 cases p with
 |ok x j nt=>obtain⟨fl,h2⟩:=h;exact⟨fl,hof _ h2⟩
 |bad j=>obtain⟨fl,ks,nt,h1,h2⟩:=h;exact⟨fl,ks,nt,h1,hof _ h2⟩
 |out=>trivial
section
variable (hl:l.length<=1048576)
include hl
theorem ajt(n:Nat)(a b:Bool){i:Nat}{nt:iw}(hi:i<=l.length)(hn:nt.length<=i):AP l (M.bI a b (au l) (i:Int) false (encS nt)) (ex l n 1 a b i nt):=
 AP.lim ((RI.of hl n (zaN _)).e1 a b i nt hi hn) λr h=>M.N8 h
theorem aMF(n:Nat)(a b:Bool){i:Nat}{nt:iw}(hi:i<=l.length)(hn:nt.length<=i):AP l (M.jB a b (au l) (i:Int) false (encS nt)) (ex l n 9 a b i nt):=
 AP.lim ((RI.of hl n (zaN _)).e9 a b i nt hi hn) λr h=>M.adC h
theorem aMG(n:Nat)(a b:Bool){i:Nat}{nt:iw}(hi:i<=l.length)(hn:nt.length<=i):AL l (M.iK a b (au l) (i:Int) false (encS nt)) (NQ l n a b [] i nt):=
 AL.lim ((RI.of hl n (zaN _)).its a b i nt hi hn) λr h=>M.Ya h
theorem aFz(n:Nat){i:Nat}{nt:iw}(hi:i<=l.length)(hn:nt.length<=i):AL l (M.iQ 35 (au l) (i:Int) false (encS nt)) ((NQ l n false false [] i nt).bind λL i nt=>(iV l 35 i nt).bind λ_ i nt=> .ok L i nt):=
 AL.lim (az4 hl ((RI.of hl n (zaN _)).its false false i nt hi hn) hi hn) λr h=>M.ZW h
end
def az8(a b:Bool){i:Nat}{nt:iw}(hn:nt.length<=l.length):AP l (M.bI a b (au l) (i:Int) true (encS nt)) (.bad i):=
 AP.lim (arS 0 hn) λr h=>M.N8 h
def aFA(b:Bool)(c:aA)(c1:Int)(c3:aA)(hf:ah c3=true):M.jc 9 false false false false c c1 b c3=(M.jB false false c c1 b c3).bind λr=>bif ah r.2.2.2.2.2.2.2.2.2.2 then some (r.1,r.2.1,r.2.2.1,r.2.2.2.1,false,ak r.2.2.2.2.2.1,r.2.2.2.2.2.2.1,r.2.2.2.2.2.2.2.1,r.2.2.2.2.2.2.2.2.1,r.2.2.2.2.2.2.2.2.2.1,r.2.2.2.2.2.2.2.2.2.2) else none:=by simp only[M.jc,M.DF,bH,hf,aI];rfl
def ata(hl:l.length<=1048576)(n:Nat){i:Nat}{nt:iw}(hi:i<=l.length)(hn:nt.length<=i):AP l (M.jc 9 false false false false (au l) (i:Int) false (encS nt)) (ex l n 9 false false i nt):=by rw[aFA _ _ _ _ (dR nt)];exact AP.pass (aMF hl n false false hi hn) (by intros;simp only[dR,aI])
def arU(i:Nat)(nt:iw):M.fP (au l) (i:Int) false (encS nt)=some (au l,(i:Int), !(Ei (bC l i)),encS nt):=by simp only[M.fP,M.FD,dR,aI,eU,aj,amT];cases Ei (bC l i)<;>rfl
def az9{k op:Int}{s s':aP}{fl:Bool}{ks:aA}{x:Tn}{j:Nat}{nt:iw}(h1:k=x.kind)(h2:op=x.op)(h3:s=x.text)(h4:s'=x.other)(h5:ak ks=dO false x.kids)(hn:nt.length<=l.length):
  AT l (some (k,op,s,s',fl,ks,au l,(j:Int), !(Ei (bC l j)),encS nt)) (endP l x j nt):=by
 rw[endP];cases Ei (bC l j) with
 |true=>exact AT.mk h1 h2 h3 h4 h5
 |false=>exact AT.fC hn
def aAa{i:Nat}{nt:iw}(hn:nt.length<=l.length):AT l (M.dU (au l) (i:Int) true (encS nt)) (.bad i):=by
 simp only[M.dU,M.rZ,dR,aI,sG,aj];refine AP.BA (R:=λo=>AT l o (.bad i)) (az8 false false hn) λk op x y fl ks tg nt hn=> ?_
 simp only[dR,aI,sG,aj];exact AT.fC hn
def arV(hl:l.length<=1048576)(n:Nat){i:Nat}{nt:iw}(hi:i<=l.length)(hn:nt.length<=i):AT l (M.dU (au l) (i:Int) false (encS nt)) (SN l n i nt):=by
 simp only[M.dU,M.rZ,dR,aI,SN];refine JK (R:=AT l) hl (by decide) ?_ (λ_ hlt=> ?_)
 ·simp only[dR,aI];refine AP.BA (R:=λo=>AT l o (.bad i)) (az8 false false aB) λk op x y fl ks tg nt hn=> ?_
  simp only[dR,aI,sG,aj];exact AT.fC hn
 ·simp only[dR,aI];refine AP.elim (R:=AT l) (ajt hl n false false aB aB) (λ_=>trivial) (λk op x y fl ks tg j nt hn=> ?_) (λx fl ks j nt hk he=> ?_)
  ·simp only[aI,dR,sG,aj];exact AT.fC hn
  ·have hs:=gY (EJ aB aB aB) he;simp only[dR,aI];refine JK (R:=AT l) hl (by decide) ?_ (λ_ hlt=> ?_)
   ·simp only[dR,aI];exact AT.fC aB
   ·simp only[dR,aI];exact AT.mk rfl rfl rfl rfl (J8 hk)
def QH(e:Int)(a b:Bool){i:Nat}{nt:iw}(hn:nt.length<=l.length):AT l (M.dH e a b (au l) (i:Int) true (encS nt)) (.bad i):=by
 simp only[M.dH,M.yT,dR,aI,eU,aj];cases bC l i==e with
 |true=>exact AT.fC hn
 |false=>
  simp only[bH];refine AP.BA (R:=λo=>AT l o (.bad i)) (az8 a b hn) λk op x y fl ks tg nt hn=> ?_
  simp only[dR,aI];exact AT.fC hn
def am0(hl:l.length<=1048576)(n:Nat)(e:Int)(a:Bool){i:Nat}{nt:iw}(hi:i<=l.length)(hn:nt.length<=i):AT l (M.dH e a false (au l) (i:Int) false (encS nt)) (IB l n e a i nt):=by
 simp only[M.dH,M.yT,dR,aI,eU,aj,IB];cases bC l i==e with
 |true=>exact AT.mk rfl rfl rfl rfl rfl
 |false=>
  simp only[bH];refine AP.elim (R:=AT l) (ajt hl n a false hi hn) (λ_=>trivial) (λk op x y fl ks tg j nt hn=> ?_) (λx fl ks j nt hk he=> ?_)
  ·simp only[dR,aI];exact AT.fC hn
  ·simp only[dR,aI];exact AT.mk rfl rfl rfl rfl (J8 hk)
def atb{i:Nat}(h:bC l i=0\/bC l i=31)(nt:iw):∀lv,1<=lv->lv<=15->∀n a b,16 - lv<=n->ex l n lv a b i nt=.bad i:=by
 have hz:∀k:Int,k≠0->k≠31->(bC l i==k)=false:=λk h0 h1=>by rw[zbn];rcases h with h|h<;>rw[h]<;>omega
 have hst:isStep (bC l i)=false:=by simp only[isStep,hz 51 (by decide) (by decide),hz 52 (by decide) (by decide),Bool.or_self]
 have:∀d lv,15 - lv=d->1<=lv->lv<=15->∀n a b,16 - lv<=n->ex l n lv a b i nt=.bad i:=by
  intro d;induction d with
  |zero=>
   intro lv hd h1 h2 n a b hn;obtain rfl:lv=15:=aB;obtain⟨n,rfl⟩:∃m,n=m+1:=⟨n - 1,aB⟩
   simp only[ex,hz 3 (by decide) (by decide),hz 4 (by decide) (by decide),hz 5 (by decide) (by decide),hz 6 (by decide) (by decide),hz 7 (by decide) (by decide),hz 8 (by decide) (by decide),hz 32 (by decide) (by decide),bH,Bool.or_self]
  |succ d ih=>
   intro lv hd h1 h2 n a b hn;obtain⟨n,rfl⟩:∃m,n=m+1:=⟨n - 1,aB⟩
   have hr:=ih (lv+1) aB aB aB n a b aB;have hc:lv=1\/lv=2\/lv=3\/lv=4\/lv=5\/lv=6\/lv=7\/lv=8\/lv=9\/lv=10\/lv=11\/lv=12\/lv=13\/lv=14:=aB;rcases hc with rfl|rfl|rfl|rfl|rfl|rfl|rfl|rfl|rfl|rfl|rfl|rfl|rfl|rfl<;>simp only[ex]<;>
    simp only[hz 32 (by decide) (by decide),hz 55 (by decide) (by decide),hz 56 (by decide) (by decide),hz 61 (by decide) (by decide),hz 68 (by decide) (by decide),hst,Bool.false_and,Bool.or_self,bH,hr]<;>rfl
 exact λlv=>this _ lv rfl
variable {l:List Tk}
section
variable (hl:l.length<=1048576) (n:Nat) {i:Nat} {nt:iw} (hi:i<l.length) (hn:nt.length<=i)
include hl hi hn
theorem aAb(k:Int):AT l (bif !(Ei (bC l (i+1))) then(M.bI false false (au l) ((i+1:Nat):Int) false (encS nt)).bind λr=>bif ah r.2.2.2.2.2.2.2.2.2.2 then
   some (k,0,[],[],true,[[D.int .i64 r.1,D.int .i64 r.2.1,D.str r.2.2.1,D.str r.2.2.2.1,D.sl false 5 (ak r.2.2.2.2.2.1)]],r.2.2.2.2.2.2.2.1,r.2.2.2.2.2.2.2.2.1,r.2.2.2.2.2.2.2.2.2.1,r.2.2.2.2.2.2.2.2.2.2) else none
  else some (k,0,[],[],true,[],au l,((i+1:Nat):Int),false,encS nt)) (acM l n k i nt):=by
 rw[acM];cases Ei (bC l (i+1)) with
 |true=>exact AT.mk rfl rfl rfl rfl rfl
 |false=>
  simp only[Bool.not_false,aI,bH];refine AP.elim (R:=AT l) (ajt hl n false false aB aB) (λ_=>trivial) (λk op x y fl ks tg j nt hn=> ?_) (λx fl ks j nt hk he=> ?_)
  ·simp only[dR,aI];exact AT.fC hn
  ·simp only[dR,aI];exact AT.mk rfl rfl rfl rfl (fz1 (J8 hk))
theorem aMH:AT l ((M.bM (au l) ((i+1:Nat):Int) false (encS nt)).bind λPq=>
  bif !Pq.2.2.2.1 then
   (bif ah Pq.2.2.2.2 then
   ((M.aC Pq.2.1 Pq.2.2.1 Pq.2.2.2.1 Pq.2.2.2.2).bind λVz=>
    (bif Vz.1==34 then
    (bif ah Vz.2.2.2.2 then
     ((M.iQ 35 Vz.2.1 (i64.wrap (Vz.2.2.1+1)) Vz.2.2.2.1 Vz.2.2.2.2).bind λafr=>
     (bif ah afr.2.2.2.2.2 then
      some (27,0,Pq.1,[],false,ak afr.2.1,afr.2.2.1,afr.2.2.2.1,afr.2.2.2.2.1,afr.2.2.2.2.2) else none)) else none) else
    (bif ah Vz.2.2.2.2 then
     some (27,0,Pq.1,[],true,[],Vz.2.1,Vz.2.2.1,Vz.2.2.2.1,Vz.2.2.2.2) else none))) else none) else
   (bif ah Pq.2.2.2.2 then
   some (27,0,Pq.1,[],true,[],Pq.2.1,Pq.2.2.1,Pq.2.2.2.1,Pq.2.2.2.2) else none)) (amN l n i nt):=by
 rw[amN];refine azY (R:=AT l) hl ?_ (λ_ hlt=> ?_)
 ·simp only[zaM,bH,dR,aI];exact AT.fC aB
 ·simp only[Bool.not_false,aI,dR,eU,aj];cases hc:bC l (i+1+1)==34 with
  |false=>exact AT.mk rfl rfl rfl rfl rfl
  |true=>
   have hlt':=cO hc (by decide);simp only[aI,mM hl hlt'];have e:(NQ l n false false [] (i+1+1+1) nt).bind (λL i_1 nt=>(iV l 35 i_1 nt).bind λ_ i_2 nt=>PR.ok (Tn.mk 27 0 (zK l (i+1)) [] L) i_2 nt)=
     ((NQ l n false false [] (i+1+1+1) nt).bind λL i nt=>(iV l 35 i nt).bind λ_ i nt=> .ok L i nt).bind λL j nt=> .ok (Tn.mk 27 0 (zK l (i+1)) [] L) j nt:=by
    cases NQ l n false false [] (i+1+1+1) nt with
    |ok L j m=>simp only[PR.bind];cases iV l 35 j m<;>rfl
    |bad j=>rfl
    |out=>rfl
   rw[e];refine AL.elim (R:=AT l) (aFz hl n aB aB) (λ_=>trivial) (λfl ks j nt hn=> ?_) (λL fl j nt he=> ?_)
   ·simp only[dR,aI];exact AT.fC hn
   ·simp only[dR,aI,iT];exact AT.mk rfl rfl rfl rfl (iT _ _)
end
def aMI(hl:l.length<=1048576)(n:Nat){i:Nat}{nt:iw}(hi:i<=l.length)(hn:nt.length<=i)
  (hp:∀k,k=bC l i->(k=25\/k=26)->AT l (M.kT k (au l) ((i+1:Nat):Int) false (encS nt)) (ag2 l n i nt)):
  AT l (M.kZ (au l) (i:Int) false (encS nt)) (aj8 l n i nt):=by
 simp only[M.kZ,M.xW,dR,aI,eU,aj,aj8];cases h25:bC l i==25 with
 |true=>
  have hlt:=cO h25 (by decide);have e:bC l i=25:=by rwa [beq_iff_eq] at h25
  simp only[aI,Bool.true_or,mM hl hlt];exact AT.pass (hp _ rfl (.inl e)) (by intros;simp only[dR,aI])
 |false=>
 cases h26:bC l i==26 with
 |true=>
  have hlt:=cO h26 (by decide);have e:bC l i=26:=by rwa [beq_iff_eq] at h26
  simp only[aI,bH,Bool.or_true,mM hl hlt];exact AT.pass (hp _ rfl (.inr e)) (by intros;simp only[dR,aI])
 |false=>
 simp only[bH,Bool.or_self];cases h20:bC l i==20 with
 |true=>
  have hlt:=cO h20 (by decide);have e:bC l i=20:=by rwa [beq_iff_eq] at h20
  have n1:(bC l i==21)=false:=by rw[e];rfl
  have n2:(bC l i==22)=false:=by rw[e];rfl
  simp only[n1,n2,aI,bH,mM hl hlt];exact AT.mk rfl rfl rfl rfl rfl
 |false=>
 cases h18:bC l i==18 with
 |true=>
  have hlt:=cO h18 (by decide);have e:bC l i=18:=by rwa [beq_iff_eq] at h18
  have n1:(bC l i==21)=false:=by rw[e];rfl
  have n2:(bC l i==22)=false:=by rw[e];rfl
  simp only[n1,n2,aI,bH,mM hl hlt];exact AT.mk rfl rfl rfl rfl rfl
 |false=>
 cases h19:bC l i==19 with
 |true=>
  have hlt:=cO h19 (by decide);have e:bC l i=19:=by rwa [beq_iff_eq] at h19
  have n1:(bC l i==21)=false:=by rw[e];rfl
  have n2:(bC l i==22)=false:=by rw[e];rfl
  simp only[n1,n2,aI,bH,mM hl hlt];exact AT.mk rfl rfl rfl rfl rfl
 |false=>
 cases h21:bC l i==21 with
 |true=>have hlt:=cO h21 (by decide);simp only[aI,bH,mM hl hlt,eU,aj,amT,dR];exact aAb hl n hlt hn 23
 |false=>
 cases h22:bC l i==22 with
 |true=>have hlt:=cO h22 (by decide);simp only[aI,bH,mM hl hlt,eU,aj,amT,dR];exact aAb hl n hlt hn 24
 |false=>
 cases h23:bC l i==23 with
 |true=>have hlt:=cO h23 (by decide);simp only[aI,bH,mM hl hlt];exact aMH hl n hlt hn
 |false=>
  simp only[bH];refine AP.elim (R:=AT l) (ajt hl n false false hi hn) (λ_=>trivial) (λk op x y fl ks tg j nt hn=> ?_) (λx fl ks j nt hk he=> ?_)
  ·simp only[dR,aI];exact AT.fC hn
  ·simp only[dR,aI];exact AT.mk rfl rfl rfl rfl (fz1 (J8 hk))
variable {l:List Tk}
def ALt(l:List Tk)(o:Option TL):PR (List Tn)->Prop
 | .ok L j nt=>o=some (true,dO false L,au l,(j:Int),false,encS nt)
 | .bad j=>∃ks nt,nt.length<=l.length/\o=some (true,ks,au l,(j:Int),true,encS nt)
 | .out=>True
def AL.own{o:Option TL}{p:PR (List Tn)}(h:AL l o p)(ho:∀r,o=some r->r.1=true):ALt l o p:=by
 cases p with
 |ok L j nt=>obtain⟨fl,e⟩:=h;have:=ho _ e;simp only at this;subst this;exact e
 |bad j=>obtain⟨fl,ks,nt,h1,e⟩:=h;have:=ho _ e;simp only at this;subst this;exact⟨ks,nt,h1,e⟩
 |out=>trivial
def ALt.elim{β γ:Type}{R:Option β->PR γ->Prop}{o:Option TL}{p:PR (List Tn)}(h:ALt l o p){f:TL->Option β}{g:List Tn->Nat->iw->PR γ}(hout:∀o,R o .out)
  (hbad:∀ks j nt,nt.length<=l.length->R (f (true,ks,au l,((j:Nat):Int),true,encS nt)) (.bad j))
  (hok:∀L j nt,p=.ok L j nt->R (f (true,dO false L,au l,(j:Int),false,encS nt)) (g L j nt)):R (o.bind f) (p.bind g):=by
 cases p with
 |ok L j nt=>have h':o=_:=h;rw[h',aj];exact hok L j nt rfl
 |bad j=>obtain⟨ks,nt,h1,rfl⟩:=h;exact hbad ks j nt h1
 |out=>exact hout _
def aCA{b:Bool}{x r:TL}(hx:x.1=true)(h:(bif b then some x else none)=some r):r.1=true:=by
 cases b with
 |true=>cases h;exact hx
 |false=>cases h
def avV{rec:Bool->Bool->aA->Int->Bool->aA->Option TP}{a b:Bool}{c:aA}{c1:Int}{c2:Bool}{c3:aA}{r:TL}(h:M.pV rec a b c c1 c2 c3 some=some r):r.1=true:=by
 simp only[M.pV] at h;cases hu:M.rU rec a b (c,c1,c2,[],c3) with
 |none=>rw[hu] at h;cases h
 |some u=>rw[hu,aj] at h;rcases u with t|t|t<;>simp only[iD,letE] at h<;>exact aCA rfl h
def aCB{a b:Bool}{c:aA}{c1:Int}{c2:Bool}{c3:aA}{r:TL}(h:M.iK a b c c1 c2 c3=some r):r.1=true:=by
 obtain⟨n,hn⟩:=QY h;cases n with
 |zero=>cases hn
 |succ n=>exact avV hn
def aDq(hl:l.length<=1048576)(n:Nat)(a b:Bool){i:Nat}{nt:iw}(hi:i<=l.length)(hn:nt.length<=i):ALt l (M.iK a b (au l) (i:Int) false (encS nt)) (NQ l n a b [] i nt):=
 (aMG hl n a b hi hn).own λr h=>aCB h
def cOw(rows:aA):adL 5 [D.sl true 5 rows] 0=some rows:=rfl
def Zm{a b:Bool}:∀(n:Nat) (L:List Tn) (i:Nat) (nt:iw),L.length<6->(NQ l n a b L i nt).sat λL' _ _=>L'.length<=6
 |0,_,_,_,_=>by rw[NQ];trivial
 |n+1,L,i,nt,hL=>by
  rw[NQ,dY];refine bP apO λx j m _=> ?_
  rw[eY];refine⟨λ_=> ?_,λ_=> ?_⟩
  ·rw[eY];refine⟨λ_=>trivial,λh=> ?_⟩;have:=Nat.ne_of_beq_eq_false h;exact Zm n _ _ _ (by rw[zT,y7];omega)
  ·show(L++[x.1]).length<=6;rw[zT,y7];omega
section
variable (hl:l.length<=1048576) (n:Nat) (kd:Int)
include hl
theorem apQ{L:List Tn}{j:Nat}{nt:iw}(hj:j<=l.length)(hn:nt.length<=j)(hL:L.length<=6):
  AT l (bif wO (bC l j) then(M.dW (au l) (j:Int) false (encS nt)).bind λvU=>
       (bif ah vU.2.2.2.2 then
       ((M.jc 9 false false false false vU.2.1 vU.2.2.1 vU.2.2.2.1 vU.2.2.2.2).bind λF9=>
        (bif(((dO false L).length+[[D.int .i64 F9.1,D.int .i64 F9.2.1,D.str F9.2.2.1,D.str F9.2.2.2.1,D.sl false 5 (ak F9.2.2.2.2.2.1)]].length) * 72).ble 140737488355328 then
        (bif((dO false L).length+[[D.int .i64 F9.1,D.int .i64 F9.2.1,D.str F9.2.2.1,D.str F9.2.2.2.1,D.sl false 5 (ak F9.2.2.2.2.2.1)]].length).ble 140737488355328 then
         (bif ah F9.2.2.2.2.2.2.2.2.2.2 then
         some (21,kd,[],vU.1,true,dO false L++[[D.int .i64 F9.1,D.int .i64 F9.2.1,D.str F9.2.2.1,D.str F9.2.2.2.1,D.sl false 5 (ak F9.2.2.2.2.2.1)]],F9.2.2.2.2.2.2.2.1,F9.2.2.2.2.2.2.2.2.1,F9.2.2.2.2.2.2.2.2.2.1,F9.2.2.2.2.2.2.2.2.2.2) else none) else none) else none)) else none)
    else some (21,kd,[],[],true,dO false L,au l,(j:Int),false,encS nt))
   (bif wO (bC l j) then(ex l n 9 false false (j+1) nt).bind λx k nt=> .ok (.mk 21 kd [] (zK l j) (L++[x.1])) k nt else .ok (.mk 21 kd [] [] L) j nt):=by
 cases hs:wO (bC l j) with
 |false=>exact AT.mk rfl rfl rfl rfl (iT _ _)
 |true=>
  have hlt:=dX (Zl hs);simp only[aI,JJ hl hlt,aj,dR];refine AP.elim (R:=AT l) (ata hl n aB aB) (λ_=>trivial) (λk op x y fl ks tg j nt hn=> ?_) (λx fl ks j nt hk he=> ?_)
  ·simp only[dI,y7,dR,aI];rw[bK aB,aI,bK aB,aI];exact AT.fC hn
  ·simp only[dI,y7,dR,aI,aeV hk];rw[bK aB,aI,bK aB,aI];exact AT.mk rfl rfl rfl rfl (iT _ _)
theorem apR{j:Nat}{nt:iw}(hj:j<=l.length)(hn:nt.length<=j):
  AT l (bif wO (bC l j) then(M.dW (au l) (j:Int) false (encS nt)).bind λvU=>
       (bif ah vU.2.2.2.2 then
       ((M.jc 9 false false false false vU.2.1 vU.2.2.1 vU.2.2.2.1 vU.2.2.2.2).bind λF9=>
         (bif ah F9.2.2.2.2.2.2.2.2.2.2 then
         some (21,kd,[],vU.1,true,[[D.int .i64 F9.1,D.int .i64 F9.2.1,D.str F9.2.2.1,D.str F9.2.2.2.1,D.sl false 5 (ak F9.2.2.2.2.2.1)]],F9.2.2.2.2.2.2.2.1,F9.2.2.2.2.2.2.2.2.1,F9.2.2.2.2.2.2.2.2.2.1,F9.2.2.2.2.2.2.2.2.2.2) else none)) else none)
    else some (21,kd,[],[],true,[],au l,(j:Int),false,encS nt))
   (bif wO (bC l j) then(ex l n 9 false false (j+1) nt).bind λx k nt=> .ok (.mk 21 kd [] (zK l j) ([]++[x.1])) k nt else .ok (.mk 21 kd [] [] []) j nt):=by
 cases hs:wO (bC l j) with
 |false=>exact AT.mk rfl rfl rfl rfl rfl
 |true=>
  have hlt:=dX (Zl hs);simp only[aI,JJ hl hlt,aj,dR];refine AP.elim (R:=AT l) (ata hl n aB aB) (λ_=>trivial) (λk op x y fl ks tg j nt hn=> ?_) (λx fl ks j nt hk he=> ?_)
  ·simp only[dR,aI];exact AT.fC hn
  ·simp only[dR,aI];exact AT.mk rfl rfl rfl rfl (fz1 (J8 hk))
end
def aMJ(hl:l.length<=1048576)(n:Nat){i:Nat}{nt:iw}(hi:i<l.length)(hn:nt.length<=i)(k:Int)(hk:k=bC l i)(h:k=25\/k=26):
  AT l (M.kT k (au l) ((i+1:Nat):Int) false (encS nt)) (ag2 l n i nt):=by
 rcases h with rfl|rfl
 ·have w0:i64.wrap ((25:Int) - 25)=0:=rfl;have w1:((0:Int)==1)=false:=rfl;have w2:((25:Int)==26)=false:=rfl;have w3:(25:Int) - 25=0:=rfl;simp only[Em,M.kT,M.yU,w0,w1,bH,dR,aI,eU,aj,amT,ag2,<-hk,w2,w3,Bool.false_or];cases hE:Ei (bC l (i+1)) with
  |true=>simp only[zaM,Bool.not_false,aI,bH,Bool.true_or,ahs,aj,dR];exact apR hl n 0 aB aB
  |false=>
   simp only[Bool.not_false,aI,ahs,aj,Bool.false_or];cases hS:wO (bC l (i+1)) with
   |true=>simp only[zaM,Bool.not_false,aI,bH,dR];have:=apR hl n 0 (j:=i+1) (nt:=nt) aB aB;rw[hS,aI,aI] at this;show AT l _ (bif wO (bC l (i+1)) then _ else _);rw[hS,aI];exact this
   |false=>
    simp only[Bool.not_false,aI,dR];refine ALt.elim (R:=AT l) (aDq hl n false true aB aB) (λ_=>trivial) (λks j nt hn=> ?_) (λL j nt he=> ?_)
    ·simp only[cOw,aj,zaM,bH,dR,aI];exact AT.fC hn
    ·have hs:=gY (acN aB) he;have hs6:=gY (Zm n [] _ _ (by decide)) he;simp only[cOw,aj,Bool.not_false,aI,dR,eU,ahs];exact apQ hl n 0 aB aB hs6
 ·have w0:i64.wrap ((26:Int) - 25)=1:=rfl;have w3:(26:Int) - 25=1:=rfl;simp only[Em,M.kT,M.yU,w0,BEq.rfl,dR,aI,ag2,<-hk,w3,Bool.true_or];refine ALt.elim (R:=AT l) (aDq hl n false true aB aB) (λ_=>trivial) (λks j nt hn=> ?_) (λL j nt he=> ?_)
  ·simp only[cOw,aj,zaM,bH,dR,aI];exact AT.fC hn
  ·have hs:=gY (acN aB) he;have hs6:=gY (Zm n [] _ _ (by decide)) he;simp only[cOw,aj,Bool.not_false,aI,dR,eU,ahs];exact apQ hl n 1 aB aB hs6
variable {l:List Tk}
def KB(P:List (List Nd)):Prop:=∀R,R∈P->∀n,n∈R->n.kids.length<=100000
def KB.nil:KB []:=λR h=>by cases h
def KB.cons{R:List Nd}{P:List (List Nd)}(h:∀n,n∈R->n.kids.length<=100000)(hP:KB P):KB (R::P):=by
 intro Q hQ;rcases List.mem_cons.1 hQ with rfl|hQ
 ·exact h
 ·exact hP Q hQ
def UA(t:Tn)(h:t.size<=100000):∀n,n∈t.flat 0->n.kids.length<=100000:=(RB.tree t h).2
def KB.tree{t:Tn}{P:List (List Nd)}(h:t.size<=100000)(hP:KB P):KB (t.flat 0::P):=KB.cons (UA t h) hP
def KB.none{P:List (List Nd)}(hP:KB P):KB ([]::P):=KB.cons (λn h=>by cases h) hP
def KB.trees{P:List (List Nd)}:∀ts:List Tn,sizes ts<=100000->KB P->KB ((ts.map λt=>t.flat 0)++P)
 |[],_,hP=>hP
 |t::ts,h,hP=>by rw[sizes] at h;exact KB.tree aB (KB.trees ts aB hP)
def lW:∀ts:List Tn,lens (ts.map λt=>t.flat 0)=sizes ts
 |[]=>rfl
 |t::ts=>by rw[zmc,lens,sizes,t.flat_length,lW ts]
def afH(k op:Int)(x y:aP)(kr:aA){P:List (List Nd)}{b:Nat}(hb:lens P<=b)(hl:b<=90000)(hn:P.length<=100000)(hk:KB P):
  ∃R',M.dn k op x y kr (qo P)=some (false,aV false R',false)/\RB R' (b+1):=by
 obtain⟨R',h1,h2,h3⟩:=apL k op x y kr P aB hn hk;exact⟨R',h1,aB,h3⟩
def adI(k op:Int)(x y:aP)(kr:aA){P:List (List Nd)}{b:Nat}(hb:lens P<=b)(hl:b<=90000)(hn:P.length<=100000)(hk:KB P):
  ∃R',M.aX k op x y kr (qo P)=some (aV true R')/\RB R' (b+1):=by
 obtain⟨R',h1,h2,h3⟩:=apK k op x y kr P aB hn hk;exact⟨R',h1,aB,h3⟩
def oq(L:List Tn):(parts L).length=L.length:=by simp[parts]
def aAc(P:List (List Nd)):(qo P).length=P.length:=by simp[qo]
def FU{L:List Tn}{x:Tn}{rows:aA}(h:ak rows=aV false (x.flat 0)):parts L++[[D.sl false 5 (ak rows)]]=parts (L++[x]):=by rw[h];simp[parts]
def LK{L:List Tn}{R:List Nd}{rows:aA}(h:ak rows=aV false R):parts L++[[D.sl false 5 (ak rows)]]=qo ((L.map λt=>t.flat 0)++[R]):=by rw[h];simp[parts,qo]
def aAd(m:Nat)(p:Int)(p1 p2 p3 p4:Bool)(i:Nat)(ns:List Tk):M.bG (m+1) p p1 p2 p3 p4 (au l) (i:Int) true (au ns)=some (true,[],false,au l,(i:Int),true,au ns):=by rw[M.lG];simp only[M.ji,aI,aW]
def aMK(n:Nat)(a b a' b':Bool)(i:Nat)(nt:iw):ex l n 15 a b i nt=ex l n 15 a' b' i nt:=by
 cases n with
 |zero=>simp only[ex]
 |succ n=>simp only[ex]
def aDr(a b a' b':Bool):∀(n:Nat) (i:Nat) (nt:iw),ex l n 14 a b i nt=ex l n 14 a' b' i nt
 |0,i,nt=>by simp only[ex]
 |n+1,i,nt=>by simp only[ex,aDr a b a' b' n,aMK n a b a' b']
abbrev S6:=Int×aA×Int×Bool×aA×aA
def AI(l:List Tk)(e:Int)(i:Nat)(o:Option (S6⊕S6)):PR (List Tn)->Prop
 | .ok L j nt=>∃ns,txt ns=nt/\o=some (.inl (e,au l,(j:Int),false,parts L,au ns))
 | .bad j=>∃ns P u,i<=j/\j<=l.length/\ns.length<=l.length/\lens P<=3 * (j - i)/\P.length<=8/\KB P/\o=some u/\(u=.inl (e,au l,(j:Int),true,qo P,au ns)\/u=.inr (e,au l,(j:Int),true,qo P,au ns))
 | .out=>True
def aAe(hl:l.length<=3000){f:Int->Bool->Bool->Bool->Bool->aA->Int->Bool->aA->Option TX}(e:Int):
  ∀n,(∀n',n'<n->∀i ns,i<=l.length->ns.length<=i->AX l i (f 1 false false false false (au l) (i:Int) false (au ns)) (ex l n' 1 false false i (txt ns)))->
   ∀(i0:Nat) (L:List Tn) (i:Nat) (ns:List Tk) (s:zaB⊕S6),(s=.inl (e,false,au l,(i:Int),false,[],au ns)/\L=[]\/s=.inr (e,au l,(i:Int),false,parts L,au ns))->
    L.length<6->i0<=i->i<=l.length->ns.length<=i->sizes L+2 * i0<=2 * i->AI l e i0 (M.uT f s) (NQ l n false false L i (txt ns))
 |0,_,_,_,_,_,_,_,_,_,_,_,_=>by rw[NQ];trivial
 |n+1,hrec,i0,L,i,ns,s,hs,hL,hi0,hi,hn,hsz=>by
  rw[NQ,M.uT];have hb:M.Gy f s=(f 1 false false false false (au l) (i:Int) false (au ns)).bind λJC=>
    (bif(((parts L).length+[[D.sl false 5 (ak JC.2.1)]].length) * 24).ble 140737488355328 then
     (bif((parts L).length+[[D.sl false 5 (ak JC.2.1)]].length).ble 140737488355328 then
     (bif ah JC.2.2.2.2.2.2 then
      ((M.aK JC.2.2.2.1 JC.2.2.2.2.1 JC.2.2.2.2.2.1 JC.2.2.2.2.2.2).bind λuf=>
      (bif uf.1 !=36 then
       (some (.inr (.inl ((e,uf.2.1,uf.2.2.1,uf.2.2.2.1,parts L++[[D.sl false 5 (ak JC.2.1)]],uf.2.2.2.2))))) else
       (bif((parts L++[[D.sl false 5 (ak JC.2.1)]]).length:Int)==6 then
       (bif ah uf.2.2.2.2 then
        ((M.aG 36 uf.2.1 uf.2.2.1 true uf.2.2.2.2).bind λRj=>
        (bif ah Rj.2.2.2.2.2.2 then
         ((M.aT Rj.2.2.2.1 Rj.2.2.2.2.1 Rj.2.2.2.2.2.1 Rj.2.2.2.2.2.2).bind λU5=>
         (some (.inl (.inr ((e,U5.1,U5.2.1,U5.2.2.1,parts L++[[D.sl false 5 (ak JC.2.1)]],U5.2.2.2)))))) else none)) else none) else
       (bif ah uf.2.2.2.2 then
        ((M.aG 36 uf.2.1 uf.2.2.1 uf.2.2.2.1 uf.2.2.2.2).bind λRk=>
        (bif ah Rk.2.2.2.2.2.2 then
         ((M.aT Rk.2.2.2.1 Rk.2.2.2.2.1 Rk.2.2.2.2.2.1 Rk.2.2.2.2.2.2).bind λU6=>
         (some (.inl (.inr ((e,U6.1,U6.2.1,U6.2.2.1,parts L++[[D.sl false 5 (ak JC.2.1)]],U6.2.2.2)))))) else none)) else none)))) else none) else none) else none):=by
   rcases hs with⟨rfl,rfl⟩|rfl
   ·simp only[Em,M.Gy,M.Cj,M.ig,M.pU,Bool.not_false,aI,aW,aj];rfl
   ·simp only[Em,M.Gy,M.Cj,M.ig,M.pU,Bool.not_false,aI,aW,aj]
  have hr:=hrec n (Nat.lt_succ_self n) i ns hi hn;have y5:=(sats l n).ex 1 false false i (txt ns) aB aB hi;generalize ex l n 1 false false i (txt ns)=p at hr y5|-;cases p with
  |out=>trivial
  |bad j=>
   obtain⟨fl,rows,hd,ns',R,g1,g2,g3,g4,g5,h2⟩:=hr;have hP:lens ((L.map λt=>t.flat 0)++[R])<=3 * (j - i0):=by rw[vG,lW,lens,lens];have:=g5.1;omega
   have hKB:KB ((L.map λt=>t.flat 0)++[R]):=KB.trees L aB (KB.cons g5.2 KB.nil);have hlen:((L.map λt=>t.flat 0)++[R]).length<=8:=by rw[zT,zaO,y7];omega
   rw[h2,aj] at hb;simp only[LK g4,oq,y7,aW,aI,gu,aj,bne,jO,IC] at hb;rw[bK aB,aI,bK aB,aI] at hb;simp only[PR.bind];cases hc:bC l j==36 with
   |false=>simp only[hc,Bool.not_false,aI] at hb;exact⟨ns',_,_,aB,g2,g3,hP,hlen,hKB,aO hb,.inl rfl⟩
   |true=>simp only[hc,zaM,bH,Bool.cond_self] at hb;rw[bD hb];exact⟨ns',_,_,aB,g2,g3,hP,hlen,hKB,aO rfl,.inr rfl⟩
  |ok x j m=>
   obtain⟨fl,rows,ns',h1,rfl,h2⟩:=hr;have hs':FE l i (txt ns).length x.1.size j (txt ns').length:=y5;simp only[zaO] at hs';rw[h2,aj] at hb;simp only[FU h1,oq,y7,zT,aW,aI,gu,aj,bne] at hb;rw[bK aB,aI,bK aB,aI] at hb;simp only[PR.bind];cases hc:bC l j==36 with
   |false=>simp only[hc,Bool.not_false,aI] at hb;rw[aO hb];exact⟨ns',rfl,rfl⟩
   |true=>
    have hlt:=cO hc (by decide);have e36:bC l j=36:=by rwa [beq_iff_eq] at hc
    simp only[hc,zaM,bH] at hb;simp only[aI];cases h6:Nat.beq (L.length+1) 6 with
    |true=>
     have e:=Bv h6;have e':(((L.length+1:Nat):Int)==6)=true:=by rw[e];rfl
     simp only[e',aI,jO,IC,aj,aW] at hb;rw[bD hb];refine⟨ns',(L++[x.1]).map λt=>t.flat 0,.inr _,aB,aB,aB, ?_, ?_, ?_,aO rfl,.inr (by rw[uI])⟩
     ·rw[lW,sizes1];omega
     ·rw[zaO,zT,y7];omega
     ·have:=KB.trees (P:=[]) (L++[x.1]) (by rw[sizes1];omega) KB.nil
      rwa [List.append_nil] at this
    |false=>
     have hne:L.length+1≠6:=Nat.ne_of_beq_eq_false h6;have e':(((L.length+1:Nat):Int)==6)=false:=by rw[zbn];omega
     obtain⟨Ju,t2,hln⟩:=Hf hl (j+1) ns' aB aB;have hf:=Bj (l:=l) (i:=j+1) (nt:=txt ns') aB;simp only[e',bH,fB hl e36 (by decide),aj,aW,aI,hln] at hb;rw[bD hb,bH,<-t2];rw[<-t2] at hf;simp only[zaO] at hf;exact aAe hl e n (λn' h=>hrec n' aB) i0 (L++[x.1]) _ Ju _ (.inr rfl) (by rw[zT,y7];omega) aB aB aB (by rw[sizes1];omega)
def ag4(l:List Tk)(n:Nat)(e:Int)(i:Nat)(nt:iw):PR (List Tn):=(NQ l n false false [] i nt).bind λL i nt=>(iV l e i nt).bind λ_ i nt=> .ok L i nt
def apS(hl:l.length<=3000){e:Int}(he:e≠0){i0 n i:Nat}{ns:List Tk}(hi:i<=l.length)(hi0:i0<=i)(hn:ns.length<=i){o:Option (S6⊕S6)}(h:AI l e i0 o (NQ l n false false [] i (txt ns))):
  AY l i0 (o.bind λu=>iD u (λt=>bif ah t.2.2.2.2.2 then(M.aG t.1 t.2.1 t.2.2.1 t.2.2.2.1 t.2.2.2.2.2).bind λr=>bif ah r.2.2.2.2.2.2 then some (true,t.2.2.2.2.1,r.2.2.2.1,r.2.2.2.2.1,r.2.2.2.2.2.1,r.2.2.2.2.2.2) else none else none) λu=>letE u λt=>bif ah t.2.2.2.2.2 then(M.aG t.1 t.2.1 t.2.2.1 t.2.2.2.1 t.2.2.2.2.2).bind λr=>bif ah r.2.2.2.2.2.2 then some (true,t.2.2.2.2.1,r.2.2.2.1,r.2.2.2.2.1,r.2.2.2.2.2.1,r.2.2.2.2.2.2) else none else none) (ag4 l n e i (txt ns)):=by
 rw[ag4];have y5:=acN (l:=l) (n:=n) (a:=false) (b:=false) (nt:=txt ns) hi;have hsh:=Zm (l:=l) (a:=false) (b:=false) n [] i (txt ns) (by decide);generalize NQ l n false false [] i (txt ns)=p at h y5 hsh|-;cases p with
 |out=>trivial
 |bad j=>
  obtain⟨ns',P,u,g1,g2,g3,g4,g5,g6,rfl,rfl|rfl⟩:=h
  ·simp only[aj,iD,aW,aI,jO];exact⟨_,ns',P,g1,g2,g3,g4,g5,g6,rfl⟩
  ·simp only[aj,iD,letE,aW,aI,jO];exact⟨_,ns',P,g1,g2,g3,g4,g5,g6,rfl⟩
 |ok L j m=>
  obtain⟨ns',rfl,rfl⟩:=h;have hs':FE l i (txt ns).length (sizes L) j (txt ns').length:=y5;have h6:L.length<=6:=hsh;simp only[zaO] at hs';simp only[aj,iD,aW,aI,PR.bind,iV];cases hc:bC l j==e with
  |true=>
   have e1:bC l j=e:=by rwa [beq_iff_eq] at hc
   simp only[fB hl e1 he,aj,aW,aI];exact⟨_,ns',rfl,rfl⟩
  |false=>
   simp only[sF hc,aj,aW,aI,bH];refine⟨_,ns',L.map λt=>t.flat 0,aB,aB,aB, ?_, ?_, ?_,by rw[uI]⟩
   ·rw[lW];omega
   ·rw[zaO];omega
   ·have:=KB.trees (P:=[]) L aB KB.nil
    rwa [List.append_nil] at this
def arW(hl:l.length<=3000){e:Int}(he:e≠0){m n i:Nat}{ns:List Tk}(h:∀n',n'<n->∀i ns,i<=l.length->ns.length<=i->AX l i (M.bG m 1 false false false false (au l) (i:Int) false (au ns)) (ex l n' 1 false false i (txt ns)))(hi:i<=l.length)(hn:ns.length<=i):
  AY l i (M.lT (m+1) e 1 (au l) (i:Int) false (au ns)) (ag4 l n e i (txt ns)):=by
 rw[M.MQ];have h10:((1:Int)==0)=false:=rfl;simp only[M.ug,h10,bH];exact apS hl he hi (zaN i) hn (aAe hl e n h i [] i ns _ (.inl ⟨rfl,rfl⟩) (by decide) (zaN i) hi hn (by rw[sizes0];omega))
def aFB(hl:l.length<=3000){m n i:Nat}{ns:List Tk}(h:∀n',n'<n->∀i ns,i<=l.length->ns.length<=i->AX l i (M.bG m 1 false false false false (au l) (i:Int) false (au ns)) (ex l n' 1 false false i (txt ns)))(hi:i<=l.length)(hn:ns.length<=i):
  AY l i (M.lT (m+1) 33 0 (au l) (i:Int) false (au ns)) (PV l (n+1) 33 i (txt ns)):=by
 rw[M.MQ,PV];simp only[M.ug,BEq.rfl,aI,aW,gu,aj];cases hc:bC l i==33 with
 |true=>
  have e1:bC l i=33:=by rwa [beq_iff_eq] at hc
  simp only[aI,fB hl e1 (by decide),aj,aW];exact⟨_,ns,rfl,rfl⟩
 |false=>simp only[bH];exact apS hl (by decide) hi (zaN i) hn (aAe hl 33 n h i [] i ns _ (.inl ⟨rfl,rfl⟩) (by decide) (zaN i) hi hn (by rw[sizes0];omega))
def aCC(m:Nat)(i:Nat)(ns:List Tk):M.lT (m+1) 33 0 (au l) (i:Int) true (au ns)=some (true,[],au l,(i:Int),true,au ns):=by
 rw[M.MQ];simp only[M.ug,BEq.rfl,aI,aW,gu,aj,jO];cases bC l i==33 with
 |true=>rfl
 |false=>simp only[bH];rw[show M.uT _ _=_ from aO rfl];simp only[aj,iD,letE,aW,aI,jO]
variable {l:List Tk}
def ag5(A:List Nd):ak [[D.sl false 5 (aV false A)]]=qo [A]:=zu [A]
def arX(A B:List Nd):ak [[D.sl false 5 (aV false A)],[D.sl false 5 (aV false B)]]=qo [A,B]:=zu [A,B]
def aML(A B C:List Nd):ak [[D.sl false 5 (aV false A)],[D.sl false 5 (aV false B)],[D.sl false 5 (aV false C)]]=qo [A,B,C]:=zu [A,B,C]
def arY:ak ([]:aA)=aV false []:=rfl
def Jv(hl:l.length<=3000){i q n0:Nat}{k op:Int}(ts:List Tn){o:Option TX}{p:PR Xp}(h:AX l q o p)(hq:i<=q)(hs:sizes ts+3 * i+1<=3 * q)(y5:p.sat λx j m=>FE l q n0 x.1.size j m.length):
  AX l i (o.bind λr=>(M.dn k op [] [] [] (ak (parts ts++[[D.sl false 5 (ak r.2.1)]]))).bind λr'=>
   bif ah r.2.2.2.2.2.2 then some (false,ak r'.2.1,r'.2.2,r.2.2.2.1,r.2.2.2.2.1,r.2.2.2.2.2.1,r.2.2.2.2.2.2) else none)
   (p.bind λy j nt=> .ok (.mk k op [] [] (ts++[y.1]),false) j nt):=by
 have hlen:(ts.map λt=>t.flat 0).length<=sizes ts:=by rw[zaO];exact zV ts
 cases p with
 |out=>trivial
 |bad j=>obtain⟨fl,rows,hd,ns,R,g1,g2,g3,g4,g5,rfl⟩:=h;have hK:=KB.trees ts aB (KB.cons g5.2 KB.nil);obtain⟨R',e1,e2⟩:=afH k op [] [] [] (P:=(ts.map λt=>t.flat 0)++[R]) (b:=sizes ts+3 * (j - q)) (by rw[vG,lW,lens,lens];have:=g5.1;omega) aB (by rw[zT,y7];omega) hK;simp only[aj,LK g4,zu,e1,aW,aI,aS];exact AX.fC aB g2 g3 (aS _ _) (e2.mono aB)
 |ok y j m=>obtain⟨fl,rows,ns,h1,rfl,rfl⟩:=h;have hs':FE l q n0 y.1.size j (txt ns).length:=y5;have ho:=afF k op [] [] [] (ts++[y.1]) (by rw[sizes1];omega);simp only[aj,FU h1];simp only[uI,zu,ho,aj,aW,aI,aS];exact AX.mk (aS _ _) rfl
structure RX(l:List Tk)(n m:Nat):Prop where
 a1:∀a b (i:Nat) ns,i<=l.length->ns.length<=i->AX l i (M.bG m 1 false a b false (au l) (i:Int) false (au ns)) (ex l n 1 a b i (txt ns))
 a2:∀a b (i:Nat) ns,i<=l.length->ns.length<=i->AX l i (M.bG m 2 false a b false (au l) (i:Int) false (au ns)) (ex l n 2 a b i (txt ns))
 a3:∀a b (i:Nat) ns,i<=l.length->ns.length<=i->AX l i (M.bG m 3 false a b false (au l) (i:Int) false (au ns)) (ex l n 3 a b i (txt ns))
 a4:∀a b (i:Nat) ns,i<=l.length->ns.length<=i->AX l i (M.bG m 4 false a b false (au l) (i:Int) false (au ns)) (ex l n 4 a b i (txt ns))
 a5:∀a b (i:Nat) ns,i<=l.length->ns.length<=i->AX l i (M.bG m 5 false a b false (au l) (i:Int) false (au ns)) (ex l n 5 a b i (txt ns))
 a6:∀a b (i:Nat) ns,i<=l.length->ns.length<=i->AX l i (M.bG m 6 false a b false (au l) (i:Int) false (au ns)) (ex l n 6 a b i (txt ns))
 a7:∀a b (i:Nat) ns,i<=l.length->ns.length<=i->AX l i (M.bG m 7 false a b false (au l) (i:Int) false (au ns)) (ex l n 7 a b i (txt ns))
 a8:∀a b (i:Nat) ns,i<=l.length->ns.length<=i->AX l i (M.bG m 8 false a b false (au l) (i:Int) false (au ns)) (ex l n 8 a b i (txt ns))
 a9:∀a b (i:Nat) ns,i<=l.length->ns.length<=i->AX l i (M.bG m 9 false a b false (au l) (i:Int) false (au ns)) (ex l n 9 a b i (txt ns))
 a10:∀a b (i:Nat) ns,i<=l.length->ns.length<=i->AX l i (M.bG m 10 false a b false (au l) (i:Int) false (au ns)) (ex l n 10 a b i (txt ns))
 a11:∀a b (i:Nat) ns,i<=l.length->ns.length<=i->AX l i (M.bG m 11 false a b false (au l) (i:Int) false (au ns)) (ex l n 11 a b i (txt ns))
 a12:∀a b (i:Nat) ns,i<=l.length->ns.length<=i->AX l i (M.bG m 12 false a b false (au l) (i:Int) false (au ns)) (ex l n 12 a b i (txt ns))
 a13:∀a b (i:Nat) ns,i<=l.length->ns.length<=i->AX l i (M.bG m 13 false a b false (au l) (i:Int) false (au ns)) (ex l n 13 a b i (txt ns))
 a14:∀a b (i:Nat) ns,i<=l.length->ns.length<=i->AX l i (M.bG m 14 false a b false (au l) (i:Int) false (au ns)) (ex l n 14 a b i (txt ns))
 a15:∀a b (i:Nat) ns,i<=l.length->ns.length<=i->AX l i (M.bG m 15 false a b false (au l) (i:Int) false (au ns)) (ex l n 15 a b i (txt ns))
 pow:∀p p1 a b p4 (i:Nat) ns,i<=l.length->ns.length<=i->AX l i (M.Dl m p p1 a b p4 (au l) (i:Int) false (au ns)) (ex l n 12 a b i (txt ns))
 pri:∀a b (i:Nat) ns,i<=l.length->ns.length<=i->AX l i (M.uh m (au l) (i:Int) false (au ns)) (ex l n 15 a b i (txt ns))
 pre:∀p p1 a b p4 (i:Nat) ns,i<l.length->ns.length<=i->isStep (bC l i)=true->AX l i (M.Dn m p p1 a b p4 (au l) (i:Int) false (au ns)) (Zi l n i (txt ns))
def EK{n lv i:Nat}{a b:Bool}{ns:List Tk}(h1:1<=lv)(h2:lv<=15)(hi:i<=l.length):(ex l n lv a b i (txt ns)).sat λx j m=>FE l i ns.length x.1.size j m.length:=by have:=(sats l n).ex lv a b i (txt ns) h1 h2 hi;simpa only[zaO] using this
section
variable {n m:Nat} (hl:l.length<=3000)
include hl
theorem avW(h:RX l n m)(p:Int)(p1 a b p4:Bool)(i:Nat)(ns:List Tk)(hi:i<=l.length)(hn:ns.length<=i):AX l i (M.D9 (m+1) p p1 a b p4 (au l) (i:Int) false (au ns)) (ex l (n+1) 1 a b i (txt ns)):=by
 rw[M.afp];simp only[M.zN,M.bF,M.fG,aj,aW,aI,ex];refine AX.elim (Q:=AX l i) (h.a2 a b i ns hi hn) (λ_=>trivial) (λfl rows hd j ns R g1 g2 g3 g4 g5=> ?_) (λx fl rows j ns h1 he=> ?_)
 ·simp only[aI,aW];exact AX.fC g1 g2 g3 (fzN g4) g5
 ·have hs:=gY (EK aB aB hi) he;simp only[zaO] at hs;simp only[bH,h1,az1 x.1 x.2 aB,aj,aW,aI,gu,(agC _).1];rw[show(!x.2 && arE x.1.kind)=tgt x from rfl];cases ht:tgt x with
  |false=>simp only[Bool.not_false,aI,Bool.false_and,bH];exact AX.mk (aS _ _) rfl
  |true=>
   simp only[zaM,bH,Bool.true_and];cases hc:aji (bC l j) with
   |false=>simp only[Bool.not_false,aI,bH];exact AX.mk (aS _ _) rfl
   |true=>have hlt:=dX (ajo hc);simp only[zaM,bH,aI,fB hl rfl (ajo hc),aj,aW];exact Jv hl [x.1] (h.a1 a b (j+1) ns aB aB) aB (by simp only[sizes];omega) (EK aB aB aB)
theorem aCD(h:RX l n m)(hm:1<=m)(p:Int)(p1 a b p4:Bool)(i:Nat)(ns:List Tk)(hi:i<=l.length)(hn:ns.length<=i):AX l i (M.Ia (m+1) p p1 a b p4 (au l) (i:Int) false (au ns)) (ex l (n+1) 2 a b i (txt ns)):=by
 obtain⟨m1,rfl⟩:∃m1,m=m1+1:=⟨m - 1,aB⟩
 rw[M.aiM];simp only[M.DX,M.bF,M.fG,aj,aW,aI,ex];refine AX.elim (Q:=AX l i) (h.a3 a b i ns hi hn) (λ_=>trivial) (λfl rows hd j ns R g1 g2 g3 g4 g5=> ?_) (λx fl rows j ns h1 he=> ?_)
 ·simp only[aI,aW];exact AX.fC g1 g2 g3 (fzN g4) g5
 ·have hs:=gY (EK aB aB hi) he;simp only[zaO] at hs;simp only[bH,h1,aj,aW,aI,gu,bne];cases hc:bC l j==65 with
  |false=>simp only[Bool.not_false,aI,bH];exact AX.mk (aS _ _) rfl
  |true=>
   have hlt:=cO hc (by decide);have e65:bC l j=65:=by rwa [beq_iff_eq] at hc
   simp only[zaM,bH,aI,fB hl e65 (by decide),aj,aW];refine AX.elim (Q:=AX l i) (h.a2 a b (j+1) ns aB aB) (λ_=>trivial) (λfl rows hd j2 Ju R g1 g2 g3 g4 g5=> ?_) (λy fl' rows' j2 Ju h2 he2=> ?_)
   ·obtain⟨R',e1,e2⟩:=afH 14 0 [] [] [] (P:=[x.1.flat 0,R,[]]) (b:=x.1.size+3 * (j2 - (j+1))) (by simp only[lens,Tn.flat_length,zln];have:=g5.1;omega) aB (by simp) (KB.tree aB (KB.cons g5.2 (KB.none KB.nil)));simp only[aI,aW,jO,aj,aAd,g4,arY,aML,e1,aS];exact AX.fC aB g2 g3 (aS _ _) (e2.mono aB)
   ·have hs2:=gY (EK aB aB aB) he2;simp only[zaO] at hs2;simp only[aI,aW,h2,iV];cases hc2:bC l j2==66 with
    |false=>obtain⟨R',e1,e2⟩:=afH 14 0 [] [] [] (P:=[x.1.flat 0,y.1.flat 0,[]]) (b:=x.1.size+y.1.size) (by simp only[lens,Tn.flat_length,zln];omega) aB (by simp) (KB.tree aB (KB.tree aB (KB.none KB.nil)));simp only[sF hc2,aj,aW,aI,bH,aAd,arY,aML,e1,aS];exact AX.fC aB aB aB (aS _ _) (e2.mono aB)
    |true=>
     have hlt2:=cO hc2 (by decide);have e66:bC l j2=66:=by rwa [beq_iff_eq] at hc2
     simp only[fB hl e66 (by decide),aj,aW,aI];exact Jv hl [x.1,y.1] (h.a2 a b (j2+1) Ju aB aB) aB (by simp only[sizes];omega) (EK aB aB aB)
theorem aAf(h:RX l n m)(p:Int)(p1 a b p4:Bool)(i:Nat)(ns:List Tk)(hi:i<=l.length)(hn:ns.length<=i):AX l i (M.Dl (m+1) p p1 a b p4 (au l) (i:Int) false (au ns)) (ex l (n+1) 12 a b i (txt ns)):=by
 rw[M.ajQ];simp only[M.Gn,M.bF,M.fG,aj,aW,aI,ex];refine AX.elim (Q:=AX l i) (h.a13 a b i ns hi hn) (λ_=>trivial) (λfl rows hd j ns R g1 g2 g3 g4 g5=> ?_) (λx fl rows j ns h1 he=> ?_)
 ·simp only[aI,aW];exact AX.fC g1 g2 g3 (fzN g4) g5
 ·have hs:=gY (EK aB aB hi) he;simp only[zaO] at hs;simp only[bH,h1,aj,aW,aI,gu,bne];cases hc:bC l j==60 with
  |false=>simp only[Bool.not_false,aI,bH];exact AX.mk (aS _ _) rfl
  |true=>
   have hlt:=cO hc (by decide);have e60:bC l j=60:=by rwa [beq_iff_eq] at hc
   simp only[zaM,bH,aI,fB hl e60 (by decide),aj,aW];exact Jv hl [x.1] (h.a11 a b (j+1) ns aB aB) aB (by simp only[sizes];omega) (EK aB aB aB)
theorem aAg(h:RX l n m)(p:Int)(p1 a b p4:Bool)(i:Nat)(ns:List Tk)(hi:i<=l.length)(hn:ns.length<=i):AX l i (M.F6 (m+1) p p1 a b p4 (au l) (i:Int) false (au ns)) (ex l (n+1) 11 a b i (txt ns)):=by
 rw[M.agR];simp only[M.BH,M.bF,M.fG,aj,aW,aI,ex,gu];cases h6:bC l i==56 with
 |true=>
  have hlt:=cO h6 (by decide);have e:bC l i=56:=by rwa [beq_iff_eq] at h6
  simp only[aI,Bool.true_or,Bool.or_true,fB hl rfl (show bC l i≠0 by rw[e];decide),aj,aW];exact Jv hl [] (h.a11 a b (i+1) ns aB aB) aB (by simp only[sizes];omega) (EK aB aB aB)
 |false=>
  cases h5:bC l i==55 with
  |true=>
   have hlt:=cO h5 (by decide);have e:bC l i=55:=by rwa [beq_iff_eq] at h5
   simp only[aI,bH,Bool.true_or,fB hl rfl (show bC l i≠0 by rw[e];decide),aj,aW];exact Jv hl [] (h.a11 a b (i+1) ns aB aB) aB (by simp only[sizes];omega) (EK aB aB aB)
  |false=>
   cases h1:bC l i==61 with
   |true=>
    have hlt:=cO h1 (by decide);have e:bC l i=61:=by rwa [beq_iff_eq] at h1
    simp only[aI,bH,Bool.or_true,fB hl rfl (show bC l i≠0 by rw[e];decide),aj,aW];exact Jv hl [] (h.a11 a b (i+1) ns aB aB) aB (by simp only[sizes];omega) (EK aB aB aB)
   |false=>simp only[bH,Bool.or_self];exact AX.pass (h.pow p p1 a b p4 i ns hi hn) (zaN i) (by intros;simp only[aW,aI])
theorem aFC(h:RX l n m)(hm:1<=m)(p:Int)(p1 a b p4:Bool)(i:Nat)(ns:List Tk)(hi:i<l.length)(hn:ns.length<=i)(hst:isStep (bC l i)=true):AX l i (M.Dn (m+1) p p1 a b p4 (au l) (i:Int) false (au ns)) (Zi l (n+1) i (txt ns)):=by
 obtain⟨m1,rfl⟩:∃m1,m=m1+1:=⟨m - 1,aB⟩
 have hgo:=Jv hl (k:=9) (op:=bC l i) [] (h.a14 a b (i+1) ns aB aB) (i:=i) (n0:=ns.length) aB (by simp only[sizes];omega) (EK aB aB aB);rw[aDr a b false false] at hgo;rw[M.ajR,Zi];simp only[M.Gp,M.bF,M.fG,aj,aW,aI,gu,fB hl rfl (Js hst),bne];cases h6:bC l (i+1)==6 with
 |true=>simp only[zaM,bH,Bool.or_true,aI];exact hgo
 |false=>
  cases h8:bC l (i+1)==68 with
  |true=>simp only[zaM,Bool.not_false,bH,Bool.true_or,aI,aW];exact hgo
  |false=>obtain⟨R',e1,e2⟩:=afH 9 (bC l i) [] [] [] (P:=[[]]) (b:=0) (by simp[lens]) aB (by simp) (KB.none KB.nil);simp only[Bool.not_false,aI,Bool.or_self,bH,aW,aAd,aj,arY,ag5,e1,aS];exact AX.fC aB aB aB (aS _ _) (e2.mono aB)
theorem aCE(h:RX l n m)(p:Int)(p1 a b p4:Bool)(i:Nat)(ns:List Tk)(hi:i<=l.length)(hn:ns.length<=i):AX l i (M.Ib (m+1) p p1 a b p4 (au l) (i:Int) false (au ns)) (ex l (n+1) 13 a b i (txt ns)):=by
 rw[M.aiN];simp only[M.DZ,M.bF,M.fG,aj,aW,aI,ex,gu,amX];cases hst:isStep (bC l i) with
 |true=>have hlt:=dX (Js hst);simp only[aI];exact AX.pass (h.pre p p1 a b p4 i ns hlt hn hst) (zaN i) (by intros;simp only[aW,aI])
 |false=>
  simp only[bH];refine AX.elim (Q:=AX l i) (h.a14 a b i ns hi hn) (λ_=>trivial) (λfl rows hd j ns R g1 g2 g3 g4 g5=> ?_) (λx fl rows j ns h1 he=> ?_)
  ·simp only[aI,aW,gu,aj];exact AX.fC g1 g2 g3 (fzN g4) g5
  ·have hs:=gY (EK aB aB hi) he;simp only[zaO] at hs;simp only[bH,h1,az1 x.1 x.2 aB,aj,aW,aI,gu,amX];rw[show(!x.2 && arE x.1.kind)=tgt x from rfl];cases hc:isStep (bC l j) with
   |false=>simp only[Bool.not_false,aI,Bool.and_false,bH];exact AX.mk (aS _ _) rfl
   |true=>
    have hlt:=dX (Js hc);simp only[zaM,bH,Bool.and_true];cases ht:tgt x with
    |false=>simp only[Bool.not_false,aI,bH];exact AX.mk (aS _ _) rfl
    |true=>have ho:=afF 10 (bC l j) [] [] [] [x.1] (by simp only[sizes];omega);have ho':M.dn 10 (bC l j) [] [] [] (qo [x.1.flat 0])=some (false,aV false ((Tn.mk 10 (bC l j) [] [] [x.1]).flat 0),false):=ho;simp only[zaM,bH,aI,fB hl rfl (Js hc),aj,aW,ag5,ho',aS];exact AX.mk (aS _ _) rfl
theorem aAh(h:RX l n m)(p:Int)(p1 a b p4:Bool)(i:Nat)(ns:List Tk)(hi:i<=l.length)(hn:ns.length<=i):AX l i (M.F7 (m+1) p p1 a b p4 (au l) (i:Int) false (au ns)) (ex l (n+1) 14 a b i (txt ns)):=by
 rw[M.agS];simp only[M.BI,M.bF,M.fG,aj,aW,aI,ex,gu,bne];cases hc:bC l i==68 with
 |false=>simp only[Bool.not_false,aI,bH];exact AX.pass (h.pri a b i ns hi hn) (zaN i) (by intros;simp only[aW,aI])
 |true=>
  have hlt:=cO hc (by decide);have e68:bC l i=68:=by rwa [beq_iff_eq] at hc
  simp only[zaM,bH,aI,fB hl e68 (by decide),aj,aW,gu,amX];cases hs:isStep (bC l (i+1)) with
  |true=>have hlt':=dX (Js hs);simp only[aI,aW];have y5:=(sats l n).pre (i+1) (txt ns) hlt';exact Jv hl [] (h.pre p p1 a b p4 (i+1) ns hlt' aB hs) aB (by simp only[sizes];omega) y5
  |false=>simp only[bH,aW,aI];exact Jv hl [] (h.a14 a b (i+1) ns aB aB) aB (by simp only[sizes];omega) (EK aB aB aB)
end
end Go.Proofs.YtoaeipkhadpbiaaGreatDoor
