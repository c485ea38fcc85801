import Derived.Test.YthmchnpcplgciaaGreatDoorPForms2
import Derived.Lib.IndexLaws
set_option linter.defProp false
set_option linter.unusedVariables false
set_option linter.unusedSimpArgs false
set_option linter.unusedSectionVars false
open Go.IntKind (i64)
namespace Go.Proofs.YthmchnpcplgciaaGreatDoor
open Go Go.Vm
noncomputable section
variable {R:Type}
def M.wP(Au:zaa)(iH:zaa)(r' kU:Bool)(c:au)(c1:Int)(c2:Bool)(c3:au)(k:Int×Int×aI×aI×Bool×au×Bool×au×Int×Bool×au->Option R):=cond (aj c3) ((Au r' kU c c1 c2 c3).bind λa=>cond a.2.2.2.2.2.2.2.2.2.1 (cond (aj a.2.2.2.2.2.2.2.2.2.2) (k (a.1,a.2.1,a.2.2.1,a.2.2.2.1,false,aF a.2.2.2.2.2.1,a.2.2.2.2.2.2)) none) (cond (aj a.2.2.2.2.2.2.2.2.2.2) ((M.aG a.2.2.2.2.2.2.2.1 a.2.2.2.2.2.2.2.2.1 a.2.2.2.2.2.2.2.2.2.1 a.2.2.2.2.2.2.2.2.2.2).bind λf=>cond (f.1 !=65) (cond (aj f.2.2.2.2) (k (a.1,a.2.1,a.2.2.1,a.2.2.2.1,false,aF a.2.2.2.2.2.1,a.2.2.2.2.2.2.1,f.2)) none) (cond (aj f.2.2.2.2) ((iH r' kU f.2.1 (i64.wrap (f.2.2.1+1)) f.2.2.2.1 f.2.2.2.2).bind λb=>cond (aj b.2.2.2.2.2.2.2.2.2.2) ((M.fB 66 b.2.2.2.2.2.2.2.1 b.2.2.2.2.2.2.2.2.1 b.2.2.2.2.2.2.2.2.2.1 b.2.2.2.2.2.2.2.2.2.2).bind λe=>cond e.2.2.2.1 (cond (aj e.2.2.2.2) (k (0,0,[],[],true,[],false,e.2)) none) (cond (aj e.2.2.2.2) ((iH r' kU e.2.1 e.2.2.1 e.2.2.2.1 e.2.2.2.2).bind λd=>cond (aj d.2.2.2.2.2.2.2.2.2.2) (k (14,0,[],[],true,[[D.int .i64 a.1,D.int .i64 a.2.1,D.str a.2.2.1,D.str a.2.2.2.1,D.sl false 5 (aF a.2.2.2.2.2.1)],[D.int .i64 b.1,D.int .i64 b.2.1,D.str b.2.2.1,D.str b.2.2.2.1,D.sl false 5 (aF b.2.2.2.2.2.1)],[D.int .i64 d.1,D.int .i64 d.2.1,D.str d.2.2.1,D.str d.2.2.2.1,D.sl false 5 (aF d.2.2.2.2.2.1)]],false,d.2.2.2.2.2.2.2)) none) none)) none) none)) none)) none
def C.Z9{Au:zaa}{iH:zaa}(adW:S.oI.ok X0 λx=>Au x.1.2.1.1 x.1.2.1.2.1 x.2.1.1 x.2.1.2.1 x.2.1.2.2.1 x.2.1.va.1)(MZ:S.jP.ok X0 λx=>iH x.1.2.1.1 x.1.2.1.2.1 x.2.1.1 x.2.1.2.1 x.2.1.2.2.1 x.2.1.va.1):S.jP.ok X0 λx=>M.wP Au iH x.1.2.1.1 x.1.2.1.2.1 x.2.1.1 x.2.1.2.1 x.2.1.2.2.1 x.2.1.va.1 some:=fnS (λx=>zbI (M.wP Au iH x.1.2.1.1 x.1.2.1.2.1) x.2.1) [fe adW,fe C.aG,fe MZ,fe C.fB] [] (by intros;unfold M.wP;exact zbJ)
abbrev M.LZ(kind:Int)(k:Bool->Option R):=cond (kind==54) (k true) ((M.dM kind 38 43).bind λa=>k a)
def M.uj kind:=M.LZ kind some
def C.uj:=fTa S.uj (λx=>M.LZ x.1.1) [fe C.dM]
def M.tH(iH:zaa)(bH:zaa)(r' kU:Bool)(c:au)(c1:Int)(c2:Bool)(c3:au)(k:Int×Int×aI×aI×Bool×au×Bool×au×Int×Bool×au->Option R):=cond (aj c3) ((iH r' kU c c1 c2 c3).bind λa=>cond a.2.2.2.2.2.2.2.2.2.1 (cond (aj a.2.2.2.2.2.2.2.2.2.2) (k (a.1,a.2.1,a.2.2.1,a.2.2.2.1,false,aF a.2.2.2.2.2.1,a.2.2.2.2.2.2)) none) (cond (!a.2.2.2.2.2.2.1) (cond (aj a.2.2.2.2.2.2.2.2.2.2) (k (a.1,a.2.1,a.2.2.1,a.2.2.2.1,false,aF a.2.2.2.2.2.1,a.2.2.2.2.2.2)) none) (cond (aj a.2.2.2.2.2.2.2.2.2.2) ((M.aG a.2.2.2.2.2.2.2.1 a.2.2.2.2.2.2.2.2.1 a.2.2.2.2.2.2.2.2.2.1 a.2.2.2.2.2.2.2.2.2.2).bind λe=>(M.uj e.1).bind λf=>cond (!f) (cond (aj e.2.2.2.2) (k (a.1,a.2.1,a.2.2.1,a.2.2.2.1,false,aF a.2.2.2.2.2.1,a.2.2.2.2.2.2.1,e.2)) none) (cond (aj e.2.2.2.2) ((M.aG e.2.1 e.2.2.1 e.2.2.2.1 e.2.2.2.2).bind λd=>cond (aj d.2.2.2.2) ((bH r' kU d.2.1 (i64.wrap (d.2.2.1+1)) d.2.2.2.1 d.2.2.2.2).bind λb=>cond (aj b.2.2.2.2.2.2.2.2.2.2) (k (15,d.1,[],[],true,[[D.int .i64 a.1,D.int .i64 a.2.1,D.str a.2.2.1,D.str a.2.2.2.1,D.sl false 5 (aF a.2.2.2.2.2.1)],[D.int .i64 b.1,D.int .i64 b.2.1,D.str b.2.2.1,D.str b.2.2.2.1,D.sl false 5 (aF b.2.2.2.2.2.1)]],false,b.2.2.2.2.2.2.2)) none) none) none)) none))) none
def C.X9{iH:zaa}{bH:zaa}(MZ:S.jP.ok X0 λx=>iH x.1.2.1.1 x.1.2.1.2.1 x.2.1.1 x.2.1.2.1 x.2.1.2.2.1 x.2.1.va.1)(qm:S.fU.ok X0 λx=>bH x.1.2.1.1 x.1.2.1.2.1 x.2.1.1 x.2.1.2.1 x.2.1.2.2.1 x.2.1.va.1):S.fU.ok X0 λx=>M.tH iH bH x.1.2.1.1 x.1.2.1.2.1 x.2.1.1 x.2.1.2.1 x.2.1.2.2.1 x.2.1.va.1 some:=fnS (λx=>zbI (M.tH iH bH x.1.2.1.1 x.1.2.1.2.1) x.2.1) [fe MZ,fe C.aG,fe C.uj,fe qm] [] (by intros;unfold M.tH;exact zbJ)
def M.aH:Nat->(zaa)×(zao)×(zag)×(zad)×(zad)×(zad)×(zad)×(zad)×(zad)×(zaa)×(zaa)×(zaa)×(zaa)×(zaa)×(zaa)×(zaa)×(zaa)×(zaa)×(zaa)×(zaa):=Nat.rec (λ_ _ _ _ _ _=>none,λ_ _ _ _ _ _=>none,λ_ _ _ _ _=>none,λ_ _ _ _=>none,λ_ _ _ _=>none,λ_ _ _ _=>none,λ_ _ _ _=>none,λ_ _ _ _=>none,λ_ _ _ _=>none,λ_ _ _ _ _ _=>none,λ_ _ _ _ _ _=>none,λ_ _ _ _ _ _=>none,λ_ _ _ _ _ _=>none,λ_ _ _ _ _ _=>none,λ_ _ _ _ _ _=>none,λ_ _ _ _ _ _=>none,λ_ _ _ _ _ _=>none,λ_ _ _ _ _ _=>none,λ_ _ _ _ _ _=>none,λ_ _ _ _ _ _=>none) λ_ qz=>(λr' kU c c1 c2 c3=>M.tH qz.2.2.2.2.2.2.2.2.2.2.2.2.2.2.2.2.2.2.2 qz.1 r' kU c c1 c2 c3 some,λr' kU c c1 c2 c3=>M.y5 qz.1 r' kU c c1 c2 c3 some,λshut c c1 c2 c3=>M.sJ qz.2.1 shut c c1 c2 c3 some,λc c1 c2 c3=>M.qK qz.2.2.1 c c1 c2 c3 some,λc c1 c2 c3=>M.rH qz.2.2.2.1 qz.2.2.1 qz.1 c c1 c2 c3 some,λc c1 c2 c3=>M.vk qz.2.2.2.2.1 qz.2.2.2.2.2.2.2.1 qz.2.2.2.2.2.1 c c1 c2 c3 some,λc c1 c2 c3=>M.tu qz.2.2.2.2.2.1 qz.2.2.2.1 c c1 c2 c3 some,λc c1 c2 c3=>M.tC qz.2.2.2.2.2.2.1 c c1 c2 c3 some,λc c1 c2 c3=>M.wO qz.2.2.2.2.2.2.2.1 qz.2.2.2.2.2.1 c c1 c2 c3 some,λr' kU c c1 c2 c3=>M.yj qz.2.2.2.2.2.2.2.2.1 qz.2.2.2.2.2.2.2.2.2.2.1 r' kU c c1 c2 c3 some,λr' kU c c1 c2 c3=>M.vC qz.2.2.2.2.2.2.2.2.2.1 qz.2.2.2.2.2.2.2.2.2.2.1 r' kU c c1 c2 c3 some,λr' kU c c1 c2 c3=>M.yt qz.2.2.2.2.2.2.2.2.2.2.1 r' kU c c1 c2 c3 some,λr' kU c c1 c2 c3=>M.yu qz.2.2.2.2.2.2.2.2.2.2.2.1 r' kU c c1 c2 c3 some,λr' kU c c1 c2 c3=>M.yw qz.2.2.2.2.2.2.2.2.2.2.2.2.1 r' kU c c1 c2 c3 some,λr' kU c c1 c2 c3=>M.rM qz.2.2.2.2.2.2.2.2.2.2.2.2.2.1 r' kU c c1 c2 c3 some,λr' kU c c1 c2 c3=>M.vF qz.2.2.2.2.2.2.2.2.2.2.2.2.2.2.1 r' kU c c1 c2 c3 some,λr' kU c c1 c2 c3=>M.zM qz.2.2.1 qz.2.2.2.2.2.2.2.2.2.2.2.2.2.2.2.1 r' kU c c1 c2 c3 some,λr' kU c c1 c2 c3=>M.yA qz.2.2.2.2.2.2.2.2.2.2.2.2.2.2.2.2.1 r' kU c c1 c2 c3 some,λr' kU c c1 c2 c3=>M.zN qz.2.2.2.2.2.2.2.2.2.2.2.2.2.2.2.2.2.1 r' kU c c1 c2 c3 some,λr' kU c c1 c2 c3=>M.wP qz.2.2.2.2.2.2.2.2.2.2.2.2.2.2.2.2.2.2.1 qz.2.2.2.2.2.2.2.2.2.2.2.2.2.2.2.2.2.2.2 r' kU c c1 c2 c3 some)
def M.gQ n:=(M.aH n).1
def M.o8 n:=(M.aH n).2.1
def M.jX n:=(M.aH n).2.2.1
def M.uT n:=(M.aH n).2.2.2.1
def M.pG n:=(M.aH n).2.2.2.2.1
def M.mX n:=(M.aH n).2.2.2.2.2.1
def M.Dh n:=(M.aH n).2.2.2.2.2.2.1
def M.nV n:=(M.aH n).2.2.2.2.2.2.2.1
def M.sN n:=(M.aH n).2.2.2.2.2.2.2.2.1
def M.uU n:=(M.aH n).2.2.2.2.2.2.2.2.2.1
def M.jF n:=(M.aH n).2.2.2.2.2.2.2.2.2.2.1
def M.ru n:=(M.aH n).2.2.2.2.2.2.2.2.2.2.2.1
def M.rC n:=(M.aH n).2.2.2.2.2.2.2.2.2.2.2.2.1
def M.rD n:=(M.aH n).2.2.2.2.2.2.2.2.2.2.2.2.2.1
def M.mO n:=(M.aH n).2.2.2.2.2.2.2.2.2.2.2.2.2.2.1
def M.jG n:=(M.aH n).2.2.2.2.2.2.2.2.2.2.2.2.2.2.2.1
def M.tJ n:=(M.aH n).2.2.2.2.2.2.2.2.2.2.2.2.2.2.2.2.1
def M.rE n:=(M.aH n).2.2.2.2.2.2.2.2.2.2.2.2.2.2.2.2.2.1
def M.wQ n:=(M.aH n).2.2.2.2.2.2.2.2.2.2.2.2.2.2.2.2.2.2.1
def M.qo n:=(M.aH n).2.2.2.2.2.2.2.2.2.2.2.2.2.2.2.2.2.2.2
def M.YT(n:Nat):M.gQ (n+1)=λr' kU c c1 c2 c3=>M.tH (M.qo n) (M.gQ n) r' kU c c1 c2 c3 some:=rfl
def M.aac(n:Nat):M.o8 (n+1)=λr' kU c c1 c2 c3=>M.y5 (M.gQ n) r' kU c c1 c2 c3 some:=rfl
def M.Uo(n:Nat):M.jX (n+1)=λshut c c1 c2 c3=>M.sJ (M.o8 n) shut c c1 c2 c3 some:=rfl
def M.Xt(n:Nat):M.uT (n+1)=λc c1 c2 c3=>M.qK (M.jX n) c c1 c2 c3 some:=rfl
def M.Ya(n:Nat):M.pG (n+1)=λc c1 c2 c3=>M.rH (M.uT n) (M.jX n) (M.gQ n) c c1 c2 c3 some:=rfl
def M.aad(n:Nat):M.mX (n+1)=λc c1 c2 c3=>M.vk (M.pG n) (M.nV n) (M.mX n) c c1 c2 c3 some:=rfl
def M.YU(n:Nat):M.Dh (n+1)=λc c1 c2 c3=>M.tu (M.mX n) (M.uT n) c c1 c2 c3 some:=rfl
def M.YV(n:Nat):M.nV (n+1)=λc c1 c2 c3=>M.tC (M.Dh n) c c1 c2 c3 some:=rfl
def M.abx(n:Nat):M.sN (n+1)=λc c1 c2 c3=>M.wO (M.nV n) (M.mX n) c c1 c2 c3 some:=rfl
def M.acz(n:Nat):M.uU (n+1)=λr' kU c c1 c2 c3=>M.yj (M.sN n) (M.jF n) r' kU c c1 c2 c3 some:=rfl
def M.aae(n:Nat):M.jF (n+1)=λr' kU c c1 c2 c3=>M.vC (M.uU n) (M.jF n) r' kU c c1 c2 c3 some:=rfl
def M.acA(n:Nat):M.ru (n+1)=λr' kU c c1 c2 c3=>M.yt (M.jF n) r' kU c c1 c2 c3 some:=rfl
def M.acB(n:Nat):M.rC (n+1)=λr' kU c c1 c2 c3=>M.yu (M.ru n) r' kU c c1 c2 c3 some:=rfl
def M.acC(n:Nat):M.rD (n+1)=λr' kU c c1 c2 c3=>M.yw (M.rC n) r' kU c c1 c2 c3 some:=rfl
def M.Yb(n:Nat):M.mO (n+1)=λr' kU c c1 c2 c3=>M.rM (M.rD n) r' kU c c1 c2 c3 some:=rfl
def M.aaf(n:Nat):M.jG (n+1)=λr' kU c c1 c2 c3=>M.vF (M.mO n) r' kU c c1 c2 c3 some:=rfl
def M.adX(n:Nat):M.tJ (n+1)=λr' kU c c1 c2 c3=>M.zM (M.jX n) (M.jG n) r' kU c c1 c2 c3 some:=rfl
def M.acD(n:Nat):M.rE (n+1)=λr' kU c c1 c2 c3=>M.yA (M.tJ n) r' kU c c1 c2 c3 some:=rfl
def M.adY(n:Nat):M.wQ (n+1)=λr' kU c c1 c2 c3=>M.zN (M.rE n) r' kU c c1 c2 c3 some:=rfl
def M.aby(n:Nat):M.qo (n+1)=λr' kU c c1 c2 c3=>M.wP (M.wQ n) (M.qo n) r' kU c c1 c2 c3 some:=rfl
def M.fU r' kU c c1 c2 c3:=lim λn=>M.gQ n r' kU c c1 c2 c3
def M.iW c c1 c2 c3:=lim λn=>M.pG n c c1 c2 c3
def M.fZ c c1 c2 c3:=lim λn=>M.mX n c c1 c2 c3
def M.iT c c1 c2 c3:=lim λn=>M.nV n c c1 c2 c3
def M.lq c c1 c2 c3:=lim λn=>M.sN n c c1 c2 c3
def M.mZ r' kU c c1 c2 c3:=lim λn=>M.uU n r' kU c c1 c2 c3
def M.iq r' kU c c1 c2 c3:=lim λn=>M.jF n r' kU c c1 c2 c3
def M.lu r' kU c c1 c2 c3:=lim λn=>M.ru n r' kU c c1 c2 c3
def M.lC r' kU c c1 c2 c3:=lim λn=>M.rC n r' kU c c1 c2 c3
def M.ny r' kU c c1 c2 c3:=lim λn=>M.rD n r' kU c c1 c2 c3
def M.iY r' kU c c1 c2 c3:=lim λn=>M.mO n r' kU c c1 c2 c3
def M.jk r' kU c c1 c2 c3:=lim λn=>M.jG n r' kU c c1 c2 c3
def M.nI r' kU c c1 c2 c3:=lim λn=>M.tJ n r' kU c c1 c2 c3
def M.lD r' kU c c1 c2 c3:=lim λn=>M.rE n r' kU c c1 c2 c3
def M.oI r' kU c c1 c2 c3:=lim λn=>M.wQ n r' kU c c1 c2 c3
def M.jP r' kU c c1 c2 c3:=lim λn=>M.qo n r' kU c c1 c2 c3
def C.aH:∀n,(S.fU.ok X0 λx=>zbI (M.gQ n x.1.2.1.1 x.1.2.1.2.1) x.2.1)/\(S.NP.ok X0 λx=>zbI (M.o8 n x.1.2.1.1 x.1.2.1.2.1) x.2.1)/\(S.zK.ok X0 λx=>zbI (M.jX n x.1.2.1) x.2.1)/\(S.BX.ok X0 λx=>zbI (M.uT n) x.2.1)/\(S.iW.ok X0 λx=>zbI (M.pG n) x.2.1)/\(S.fZ.ok X0 λx=>zbI (M.mX n) x.2.1)/\(S.MV.ok X0 λx=>zbI (M.Dh n) x.2.1)/\(S.iT.ok X0 λx=>zbI (M.nV n) x.2.1)/\(S.lq.ok X0 λx=>zbI (M.sN n) x.2.1)/\(S.mZ.ok X0 λx=>zbI (M.uU n x.1.2.1.1 x.1.2.1.2.1) x.2.1)/\(S.iq.ok X0 λx=>zbI (M.jF n x.1.2.1.1 x.1.2.1.2.1) x.2.1)/\(S.lu.ok X0 λx=>zbI (M.ru n x.1.2.1.1 x.1.2.1.2.1) x.2.1)/\(S.lC.ok X0 λx=>zbI (M.rC n x.1.2.1.1 x.1.2.1.2.1) x.2.1)/\(S.ny.ok X0 λx=>zbI (M.rD n x.1.2.1.1 x.1.2.1.2.1) x.2.1)/\(S.iY.ok X0 λx=>zbI (M.mO n x.1.2.1.1 x.1.2.1.2.1) x.2.1)/\(S.jk.ok X0 λx=>zbI (M.jG n x.1.2.1.1 x.1.2.1.2.1) x.2.1)/\(S.nI.ok X0 λx=>zbI (M.tJ n x.1.2.1.1 x.1.2.1.2.1) x.2.1)/\(S.lD.ok X0 λx=>zbI (M.rE n x.1.2.1.1 x.1.2.1.2.1) x.2.1)/\(S.oI.ok X0 λx=>zbI (M.wQ n x.1.2.1.1 x.1.2.1.2.1) x.2.1)/\(S.jP.ok X0 λx=>zbI (M.qo n x.1.2.1.1 x.1.2.1.2.1) x.2.1)
 |0=>⟨dJ.zero,dJ.zero,dJ.zero,dJ.zero,dJ.zero,dJ.zero,dJ.zero,dJ.zero,dJ.zero,dJ.zero,dJ.zero,dJ.zero,dJ.zero,dJ.zero,dJ.zero,dJ.zero,dJ.zero,dJ.zero,dJ.zero,dJ.zero⟩
 |n+1=>have h:=C.aH n;⟨C.X9 h.2.2.2.2.2.2.2.2.2.2.2.2.2.2.2.2.2.2.2 h.1,C.YJ h.1,C.Z4 h.2.1,C.Ws h.2.2.1,C.Xq h.2.2.2.1 h.2.2.1 h.1,C.YK h.2.2.2.2.1 h.2.2.2.2.2.2.2.1 h.2.2.2.2.2.1,C.X6 h.2.2.2.2.2.1 h.2.2.2.1,C.X7 h.2.2.2.2.2.2.1,C.Z7 h.2.2.2.2.2.2.2.1 h.2.2.2.2.2.1,C.abq h.2.2.2.2.2.2.2.2.1 h.2.2.2.2.2.2.2.2.2.2.1,C.YM h.2.2.2.2.2.2.2.2.2.1 h.2.2.2.2.2.2.2.2.2.2.1,C.abt h.2.2.2.2.2.2.2.2.2.2.1,C.abu h.2.2.2.2.2.2.2.2.2.2.2.1,C.abv h.2.2.2.2.2.2.2.2.2.2.2.2.1,C.Xr h.2.2.2.2.2.2.2.2.2.2.2.2.2.1,C.YN h.2.2.2.2.2.2.2.2.2.2.2.2.2.2.1,C.acw h.2.2.1 h.2.2.2.2.2.2.2.2.2.2.2.2.2.2.2.1,C.abw h.2.2.2.2.2.2.2.2.2.2.2.2.2.2.2.2.1,C.acy h.2.2.2.2.2.2.2.2.2.2.2.2.2.2.2.2.2.1,C.Z9 h.2.2.2.2.2.2.2.2.2.2.2.2.2.2.2.2.2.2.1 h.2.2.2.2.2.2.2.2.2.2.2.2.2.2.2.2.2.2.2⟩
def C.fU:S.fU.ok X0 λx=>zbI (M.fU x.1.2.1.1 x.1.2.1.2.1) x.2.1:=dJ.lim λn=>(C.aH n).1
def M.Yc{n:Nat}{r' kU:Bool}{c:au}{c1:Int}{c2:Bool}{c3:au}{r:Int×Int×aI×aI×Bool×au×Bool×au×Int×Bool×au}(h:M.gQ n r' kU c c1 c2 c3=some r):M.fU r' kU c c1 c2 c3=some r:=dJ.sF (λn=>(C.aH n).1) (by intro a b h;simp[S.fU,sg] at h;first|exact h|simp[Prod.ext_iff,h]) (x:=(((),(r',kU,()),()),((c,c1,c2,c3,()),()))) h
def C.iW:S.iW.ok X0 λx=>zbI M.iW x.2.1:=dJ.lim λn=>(C.aH n).2.2.2.2.1
def M.Xu{n:Nat}{c:au}{c1:Int}{c2:Bool}{c3:au}{r:Int×Int×aI×aI×Bool×au×Bool×au×Int×Bool×au}(h:M.pG n c c1 c2 c3=some r):M.iW c c1 c2 c3=some r:=dJ.sF (λn=>(C.aH n).2.2.2.2.1) (by intro a b h;simp[S.iW,sg] at h;first|exact h|simp[Prod.ext_iff,h]) (x:=(((),()),((c,c1,c2,c3,()),()))) h
def C.fZ:S.fZ.ok X0 λx=>zbI M.fZ x.2.1:=dJ.lim λn=>(C.aH n).2.2.2.2.2.1
def M.YW{n:Nat}{c:au}{c1:Int}{c2:Bool}{c3:au}{r:Int×Int×aI×aI×Bool×au×Bool×au×Int×Bool×au}(h:M.mX n c c1 c2 c3=some r):M.fZ c c1 c2 c3=some r:=dJ.sF (λn=>(C.aH n).2.2.2.2.2.1) (by intro a b h;simp[S.fZ,sg] at h;first|exact h|simp[Prod.ext_iff,h]) (x:=(((),()),((c,c1,c2,c3,()),()))) h
def C.iT:S.iT.ok X0 λx=>zbI M.iT x.2.1:=dJ.lim λn=>(C.aH n).2.2.2.2.2.2.2.1
def M.Yd{n:Nat}{c:au}{c1:Int}{c2:Bool}{c3:au}{r:Int×Int×aI×aI×Bool×au×Bool×au×Int×Bool×au}(h:M.nV n c c1 c2 c3=some r):M.iT c c1 c2 c3=some r:=dJ.sF (λn=>(C.aH n).2.2.2.2.2.2.2.1) (by intro a b h;simp[S.iT,sg] at h;first|exact h|simp[Prod.ext_iff,h]) (x:=(((),()),((c,c1,c2,c3,()),()))) h
def C.lq:S.lq.ok X0 λx=>zbI M.lq x.2.1:=dJ.lim λn=>(C.aH n).2.2.2.2.2.2.2.2.1
def M.aag{n:Nat}{c:au}{c1:Int}{c2:Bool}{c3:au}{r:Int×Int×aI×aI×Bool×au×Bool×au×Int×Bool×au}(h:M.sN n c c1 c2 c3=some r):M.lq c c1 c2 c3=some r:=dJ.sF (λn=>(C.aH n).2.2.2.2.2.2.2.2.1) (by intro a b h;simp[S.lq,sg] at h;first|exact h|simp[Prod.ext_iff,h]) (x:=(((),()),((c,c1,c2,c3,()),()))) h
def C.mZ:S.mZ.ok X0 λx=>zbI (M.mZ x.1.2.1.1 x.1.2.1.2.1) x.2.1:=dJ.lim λn=>(C.aH n).2.2.2.2.2.2.2.2.2.1
def M.abz{n:Nat}{r' kU:Bool}{c:au}{c1:Int}{c2:Bool}{c3:au}{r:Int×Int×aI×aI×Bool×au×Bool×au×Int×Bool×au}(h:M.uU n r' kU c c1 c2 c3=some r):M.mZ r' kU c c1 c2 c3=some r:=dJ.sF (λn=>(C.aH n).2.2.2.2.2.2.2.2.2.1) (by intro a b h;simp[S.mZ,sg] at h;first|exact h|simp[Prod.ext_iff,h]) (x:=(((),(r',kU,()),()),((c,c1,c2,c3,()),()))) h
def C.iq:S.iq.ok X0 λx=>zbI (M.iq x.1.2.1.1 x.1.2.1.2.1) x.2.1:=dJ.lim λn=>(C.aH n).2.2.2.2.2.2.2.2.2.2.1
def M.YX{n:Nat}{r' kU:Bool}{c:au}{c1:Int}{c2:Bool}{c3:au}{r:Int×Int×aI×aI×Bool×au×Bool×au×Int×Bool×au}(h:M.jF n r' kU c c1 c2 c3=some r):M.iq r' kU c c1 c2 c3=some r:=dJ.sF (λn=>(C.aH n).2.2.2.2.2.2.2.2.2.2.1) (by intro a b h;simp[S.iq,sg] at h;first|exact h|simp[Prod.ext_iff,h]) (x:=(((),(r',kU,()),()),((c,c1,c2,c3,()),()))) h
def C.lu:S.lu.ok X0 λx=>zbI (M.lu x.1.2.1.1 x.1.2.1.2.1) x.2.1:=dJ.lim λn=>(C.aH n).2.2.2.2.2.2.2.2.2.2.2.1
def M.abA{n:Nat}{r' kU:Bool}{c:au}{c1:Int}{c2:Bool}{c3:au}{r:Int×Int×aI×aI×Bool×au×Bool×au×Int×Bool×au}(h:M.ru n r' kU c c1 c2 c3=some r):M.lu r' kU c c1 c2 c3=some r:=dJ.sF (λn=>(C.aH n).2.2.2.2.2.2.2.2.2.2.2.1) (by intro a b h;simp[S.lu,sg] at h;first|exact h|simp[Prod.ext_iff,h]) (x:=(((),(r',kU,()),()),((c,c1,c2,c3,()),()))) h
def C.lC:S.lC.ok X0 λx=>zbI (M.lC x.1.2.1.1 x.1.2.1.2.1) x.2.1:=dJ.lim λn=>(C.aH n).2.2.2.2.2.2.2.2.2.2.2.2.1
def M.abB{n:Nat}{r' kU:Bool}{c:au}{c1:Int}{c2:Bool}{c3:au}{r:Int×Int×aI×aI×Bool×au×Bool×au×Int×Bool×au}(h:M.rC n r' kU c c1 c2 c3=some r):M.lC r' kU c c1 c2 c3=some r:=dJ.sF (λn=>(C.aH n).2.2.2.2.2.2.2.2.2.2.2.2.1) (by intro a b h;simp[S.lC,sg] at h;first|exact h|simp[Prod.ext_iff,h]) (x:=(((),(r',kU,()),()),((c,c1,c2,c3,()),()))) h
def C.ny:S.ny.ok X0 λx=>zbI (M.ny x.1.2.1.1 x.1.2.1.2.1) x.2.1:=dJ.lim λn=>(C.aH n).2.2.2.2.2.2.2.2.2.2.2.2.2.1
def M.abC{n:Nat}{r' kU:Bool}{c:au}{c1:Int}{c2:Bool}{c3:au}{r:Int×Int×aI×aI×Bool×au×Bool×au×Int×Bool×au}(h:M.rD n r' kU c c1 c2 c3=some r):M.ny r' kU c c1 c2 c3=some r:=dJ.sF (λn=>(C.aH n).2.2.2.2.2.2.2.2.2.2.2.2.2.1) (by intro a b h;simp[S.ny,sg] at h;first|exact h|simp[Prod.ext_iff,h]) (x:=(((),(r',kU,()),()),((c,c1,c2,c3,()),()))) h
def C.iY:S.iY.ok X0 λx=>zbI (M.iY x.1.2.1.1 x.1.2.1.2.1) x.2.1:=dJ.lim λn=>(C.aH n).2.2.2.2.2.2.2.2.2.2.2.2.2.2.1
def M.Xv{n:Nat}{r' kU:Bool}{c:au}{c1:Int}{c2:Bool}{c3:au}{r:Int×Int×aI×aI×Bool×au×Bool×au×Int×Bool×au}(h:M.mO n r' kU c c1 c2 c3=some r):M.iY r' kU c c1 c2 c3=some r:=dJ.sF (λn=>(C.aH n).2.2.2.2.2.2.2.2.2.2.2.2.2.2.1) (by intro a b h;simp[S.iY,sg] at h;first|exact h|simp[Prod.ext_iff,h]) (x:=(((),(r',kU,()),()),((c,c1,c2,c3,()),()))) h
def C.jk:S.jk.ok X0 λx=>zbI (M.jk x.1.2.1.1 x.1.2.1.2.1) x.2.1:=dJ.lim λn=>(C.aH n).2.2.2.2.2.2.2.2.2.2.2.2.2.2.2.1
def M.YZ{n:Nat}{r' kU:Bool}{c:au}{c1:Int}{c2:Bool}{c3:au}{r:Int×Int×aI×aI×Bool×au×Bool×au×Int×Bool×au}(h:M.jG n r' kU c c1 c2 c3=some r):M.jk r' kU c c1 c2 c3=some r:=dJ.sF (λn=>(C.aH n).2.2.2.2.2.2.2.2.2.2.2.2.2.2.2.1) (by intro a b h;simp[S.jk,sg] at h;first|exact h|simp[Prod.ext_iff,h]) (x:=(((),(r',kU,()),()),((c,c1,c2,c3,()),()))) h
def C.nI:S.nI.ok X0 λx=>zbI (M.nI x.1.2.1.1 x.1.2.1.2.1) x.2.1:=dJ.lim λn=>(C.aH n).2.2.2.2.2.2.2.2.2.2.2.2.2.2.2.2.1
def M.acE{n:Nat}{r' kU:Bool}{c:au}{c1:Int}{c2:Bool}{c3:au}{r:Int×Int×aI×aI×Bool×au×Bool×au×Int×Bool×au}(h:M.tJ n r' kU c c1 c2 c3=some r):M.nI r' kU c c1 c2 c3=some r:=dJ.sF (λn=>(C.aH n).2.2.2.2.2.2.2.2.2.2.2.2.2.2.2.2.1) (by intro a b h;simp[S.nI,sg] at h;first|exact h|simp[Prod.ext_iff,h]) (x:=(((),(r',kU,()),()),((c,c1,c2,c3,()),()))) h
def C.lD:S.lD.ok X0 λx=>zbI (M.lD x.1.2.1.1 x.1.2.1.2.1) x.2.1:=dJ.lim λn=>(C.aH n).2.2.2.2.2.2.2.2.2.2.2.2.2.2.2.2.2.1
def M.abD{n:Nat}{r' kU:Bool}{c:au}{c1:Int}{c2:Bool}{c3:au}{r:Int×Int×aI×aI×Bool×au×Bool×au×Int×Bool×au}(h:M.rE n r' kU c c1 c2 c3=some r):M.lD r' kU c c1 c2 c3=some r:=dJ.sF (λn=>(C.aH n).2.2.2.2.2.2.2.2.2.2.2.2.2.2.2.2.2.1) (by intro a b h;simp[S.lD,sg] at h;first|exact h|simp[Prod.ext_iff,h]) (x:=(((),(r',kU,()),()),((c,c1,c2,c3,()),()))) h
def C.oI:S.oI.ok X0 λx=>zbI (M.oI x.1.2.1.1 x.1.2.1.2.1) x.2.1:=dJ.lim λn=>(C.aH n).2.2.2.2.2.2.2.2.2.2.2.2.2.2.2.2.2.2.1
def M.acF{n:Nat}{r' kU:Bool}{c:au}{c1:Int}{c2:Bool}{c3:au}{r:Int×Int×aI×aI×Bool×au×Bool×au×Int×Bool×au}(h:M.wQ n r' kU c c1 c2 c3=some r):M.oI r' kU c c1 c2 c3=some r:=dJ.sF (λn=>(C.aH n).2.2.2.2.2.2.2.2.2.2.2.2.2.2.2.2.2.2.1) (by intro a b h;simp[S.oI,sg] at h;first|exact h|simp[Prod.ext_iff,h]) (x:=(((),(r',kU,()),()),((c,c1,c2,c3,()),()))) h
def C.jP:S.jP.ok X0 λx=>zbI (M.jP x.1.2.1.1 x.1.2.1.2.1) x.2.1:=dJ.lim λn=>(C.aH n).2.2.2.2.2.2.2.2.2.2.2.2.2.2.2.2.2.2.2
def M.aah{n:Nat}{r' kU:Bool}{c:au}{c1:Int}{c2:Bool}{c3:au}{r:Int×Int×aI×aI×Bool×au×Bool×au×Int×Bool×au}(h:M.qo n r' kU c c1 c2 c3=some r):M.jP r' kU c c1 c2 c3=some r:=dJ.sF (λn=>(C.aH n).2.2.2.2.2.2.2.2.2.2.2.2.2.2.2.2.2.2.2) (by intro a b h;simp[S.jP,sg] at h;first|exact h|simp[Prod.ext_iff,h]) (x:=(((),(r',kU,()),()),((c,c1,c2,c3,()),()))) h
abbrev M.aU(adZ:Int×Int×aI×aI×Bool×au×Bool×au×Int×Bool×au)(k:Int×Int×aI×aI×Bool×au×Bool×au×Int×Bool×au->Option R):=cond (aj adZ.2.2.2.2.2.2.2.2.2.2) (k (adZ.1,adZ.2.1,adZ.2.2.1,adZ.2.2.2.1,false,aF adZ.2.2.2.2.2.1,adZ.2.2.2.2.2.2)) none
def M.qV(pos:Int)(pos1 pos2 Ru aGj:Bool)(c:au)(c1:Int)(c2:Bool)(c3:au)(k:Int×Int×aI×aI×Bool×au×Bool×au×Int×Bool×au->Option R):=cond aGj (cond (aj c3) ((M.aG c c1 c2 c3).bind λa=>(M.lQ a.1).bind λy=>cond (!y) (cond (aj a.2.2.2.2) ((M.iQ a.2.1 a.2.2.1 a.2.2.2.1 a.2.2.2.2).bind λn=>M.aU n k) none) (cond (pos==1) (cond (aj a.2.2.2.2) ((M.fU pos2 Ru a.2.1 a.2.2.1 a.2.2.2.1 a.2.2.2.2).bind λi=>M.aU i k) none) (cond (pos==2) (cond (aj a.2.2.2.2) ((M.jP pos2 Ru a.2.1 a.2.2.1 a.2.2.2.1 a.2.2.2.2).bind λP=>M.aU P k) none) (cond (pos==3) (cond (aj a.2.2.2.2) ((M.oI pos2 Ru a.2.1 a.2.2.1 a.2.2.2.1 a.2.2.2.2).bind λG=>M.aU G k) none) (cond (pos==4) (cond (aj a.2.2.2.2) ((M.lD pos2 Ru a.2.1 a.2.2.1 a.2.2.2.1 a.2.2.2.2).bind λv=>M.aU v k) none) (cond (pos==5) (cond (aj a.2.2.2.2) ((M.nI pos2 Ru a.2.1 a.2.2.1 a.2.2.2.1 a.2.2.2.2).bind λo=>M.aU o k) none) (cond (pos==6) (cond (aj a.2.2.2.2) ((M.jk pos2 Ru a.2.1 a.2.2.1 a.2.2.2.1 a.2.2.2.2).bind λK=>M.aU K k) none) (cond (pos==7) (cond (aj a.2.2.2.2) ((M.iY pos2 Ru a.2.1 a.2.2.1 a.2.2.2.1 a.2.2.2.2).bind λs=>M.aU s k) none) (cond (pos==8) (cond (aj a.2.2.2.2) ((M.ny pos2 Ru a.2.1 a.2.2.1 a.2.2.2.1 a.2.2.2.2).bind λC=>M.aU C k) none) (cond (pos==9) (cond (aj a.2.2.2.2) ((M.lC pos2 Ru a.2.1 a.2.2.1 a.2.2.2.1 a.2.2.2.2).bind λO=>M.aU O k) none) (cond (pos==10) (cond (aj a.2.2.2.2) ((M.lu pos2 Ru a.2.1 a.2.2.1 a.2.2.2.1 a.2.2.2.2).bind λr=>M.aU r k) none) (cond (pos==11) (cond (aj a.2.2.2.2) ((M.iq pos2 Ru a.2.1 a.2.2.1 a.2.2.2.1 a.2.2.2.2).bind λD=>M.aU D k) none) (cond (pos==12) (cond (aj a.2.2.2.2) ((M.mZ pos2 Ru a.2.1 a.2.2.1 a.2.2.2.1 a.2.2.2.2).bind λL=>M.aU L k) none) (cond (pos==13) (cond (aj a.2.2.2.2) ((M.lq a.2.1 a.2.2.1 a.2.2.2.1 a.2.2.2.2).bind λI=>M.aU I k) none) (cond (pos==14) (cond pos1 (cond (aj a.2.2.2.2) ((M.aG a.2.1 a.2.2.1 a.2.2.2.1 a.2.2.2.2).bind λd=>(M.mG d.1).bind λe=>cond e (cond (aj d.2.2.2.2) ((M.iT d.2.1 d.2.2.1 d.2.2.2.1 d.2.2.2.2).bind λA=>M.aU A k) none) (cond (aj d.2.2.2.2) ((M.fZ d.2.1 d.2.2.1 d.2.2.2.1 d.2.2.2.2).bind λw=>M.aU w k) none)) none) (cond (aj a.2.2.2.2) ((M.fZ a.2.1 a.2.2.1 a.2.2.2.1 a.2.2.2.2).bind λp=>M.aU p k) none)) (cond (aj a.2.2.2.2) ((M.iW a.2.1 a.2.2.1 a.2.2.2.1 a.2.2.2.2).bind λJ=>M.aU J k) none)))))))))))))))) none) (cond (pos==1) (cond (aj c3) ((M.fU pos2 Ru c c1 c2 c3).bind λx=>M.aU x k) none) (cond (pos==2) (cond (aj c3) ((M.jP pos2 Ru c c1 c2 c3).bind λt=>M.aU t k) none) (cond (pos==3) (cond (aj c3) ((M.oI pos2 Ru c c1 c2 c3).bind λT=>M.aU T k) none) (cond (pos==4) (cond (aj c3) ((M.lD pos2 Ru c c1 c2 c3).bind λQ=>M.aU Q k) none) (cond (pos==5) (cond (aj c3) ((M.nI pos2 Ru c c1 c2 c3).bind λH=>M.aU H k) none) (cond (pos==6) (cond (aj c3) ((M.jk pos2 Ru c c1 c2 c3).bind λj=>M.aU j k) none) (cond (pos==7) (cond (aj c3) ((M.iY pos2 Ru c c1 c2 c3).bind λu=>M.aU u k) none) (cond (pos==8) (cond (aj c3) ((M.ny pos2 Ru c c1 c2 c3).bind λB=>M.aU B k) none) (cond (pos==9) (cond (aj c3) ((M.lC pos2 Ru c c1 c2 c3).bind λg=>M.aU g k) none) (cond (pos==10) (cond (aj c3) ((M.lu pos2 Ru c c1 c2 c3).bind λl=>M.aU l k) none) (cond (pos==11) (cond (aj c3) ((M.iq pos2 Ru c c1 c2 c3).bind λE=>M.aU E k) none) (cond (pos==12) (cond (aj c3) ((M.mZ pos2 Ru c c1 c2 c3).bind λF=>M.aU F k) none) (cond (pos==13) (cond (aj c3) ((M.lq c c1 c2 c3).bind λq=>M.aU q k) none) (cond (pos==14) (cond pos1 (cond (aj c3) ((M.aG c c1 c2 c3).bind λb=>(M.mG b.1).bind λm=>cond m (cond (aj b.2.2.2.2) ((M.iT b.2.1 b.2.2.1 b.2.2.2.1 b.2.2.2.2).bind λf=>M.aU f k) none) (cond (aj b.2.2.2.2) ((M.fZ b.2.1 b.2.2.1 b.2.2.2.1 b.2.2.2.2).bind λN=>M.aU N k) none)) none) (cond (aj c3) ((M.fZ c c1 c2 c3).bind λh=>M.aU h k) none)) (cond (aj c3) ((M.iW c c1 c2 c3).bind λz=>M.aU z k) none)))))))))))))))
def M.jR pos pos1 pos2 Ru aGj c c1 c2 c3:=M.qV pos pos1 pos2 Ru aGj c c1 c2 c3 some
def C.jR:S.jR.ok X0 λx=>eH M.jR x.1.2.1 x.2.1.1 x.2.1.2.1 x.2.1.2.2.1 x.2.1.va.1:=fnS (λx=>zbI (M.qV x.1.2.1.1 x.1.2.1.2.1 x.1.2.1.2.2.1 x.1.2.1.va.1 x.1.2.1.va.2.1) x.2.1) [fe C.aG,fe C.lQ,fe C.iQ,fe C.fU,fe C.jP,fe C.oI,fe C.lD,fe C.nI,fe C.jk,fe C.iY,fe C.ny,fe C.lC,fe C.lu,fe C.iq,fe C.mZ,fe C.lq,fe C.mG,fe C.iT,fe C.fZ,fe C.iW] [] (by intros;unfold M.qV M.aU;exact zbJ)
def M.zf(iD:zak)(v7:au)(v8:Int)(s:Int×Int)(kn:Int×Int->Option R)(ke:Int×Int->Option R):Option R:=match s with
 |(sum,v9)=>bif decide (v9<v8) then((idx v7 v9).bind λb=>qh 5 b λaLP aLQ aLR aLS awO=>((iD aLP aLQ aLR aLS awO).bind λa=>kn (i64.wrap (sum+a),i64.wrap (v9+1)))) else ke (sum,v9)
def M.Em iD v7 v8 s:=M.zf iD v7 v8 s (λs=>some (Sum.inl s)) λt=>some (Sum.inr t)
def M.II iD v7 v8 s:=dU (M.Em iD v7 v8) s
def F.II{iD:zak}(Qa:S.oJ.ok X0 λx=>eH iD x.1.1):LE X0 73:=le 3 (I5 [cu 3 pI,cu 7 (pL false 5),cu 8 pI,cu 9 pI] []) (λx=>(x.1.1,x.1.va.1)) (λx s=>((s.1,x.1.2.1,x.1.2.2.1,s.2,()),())) (λx=> .leaf (Int×Int) (λt=>(Ex.exit 0,⟨[(3,iK t.1),(7,wB 5 x.1.2.1),(8,iK x.1.2.2.1),(9,iK t.2),(10,jO false)],[]⟩))) (λx=>M.zf iD x.1.2.1 x.1.2.2.1) [fe Qa] [] (by rintro _ _ ⟨_,_⟩ _ _<;>simp only[qh,M.zf,nb]<;>rfl)
def M.ER(iD:zak)(t' Gs:Int)(RN Yh:aI)(Wu:au)(k:Int->Option R):=(M.II iD Wu ((↑Wu.length:Int)) (1,0)).bind λa=>k a.1
def M.lF:zaA
 |0=>λ_ _ _ _ _=>none
 |n+1=>λt' Gs RN Yh Wu=>M.ER (M.lF n) t' Gs RN Yh Wu some
def M.oJ t' Gs RN Yh Wu:=lim λn=>M.lF n t' Gs RN Yh Wu
def C.acG{iD:zak}(Qa:S.oJ.ok X0 λx=>eH iD x.1.1):S.oJ.ok X0 λx=>eH (M.ER iD) x.1.1 some:=fnS (λx=>M.ER iD x.1.1.1 x.1.1.2.1 x.1.1.2.2.1 x.1.1.va.1 x.1.1.va.2.1) [] [F.II Qa] (by intros;simp only[M.ER,nb]<;>rfl)
def C.lF:∀n,S.oJ.ok X0 λx=>M.lF n x.1.1.1 x.1.1.2.1 x.1.1.2.2.1 x.1.1.va.1 x.1.1.va.2.1
 |0=>dJ.zero
 |n+1=>C.acG (C.lF n)
def C.oJ:S.oJ.ok X0 λx=>eH M.oJ x.1.1:=dJ.lim C.lF
def M.acH{n:Nat}{t' Gs:Int}{RN Yh:aI}{Wu:au}{r:Int}(h:M.lF n t' Gs RN Yh Wu=some r):M.oJ t' Gs RN Yh Wu=some r:=dJ.sF C.lF (by intro a b h;simp[S.oJ,rf,sg] at h;first|exact h|simp[Prod.ext_iff,h]) (x:=(((t',Gs,RN,Yh,Wu,()),()),())) h
def M.qp(gq:zak)(v7:au)(v8:Int)(s:Int×Int)(kn:Int×Int->Option R)(ke:Int×Int->Option R):Option R:=match s with
 |(most,v9)=>bif decide (v9<v8) then((idx v7 v9).bind λb=>qh 5 b λaLV aLW aLX aLY awP=>((gq aLV aLW aLX aLY awP).bind λa=>kn (bif decide (most<a) then a else most,i64.wrap (v9+1)))) else ke (most,v9)
def M.qw gq v7 v8 s:=M.qp gq v7 v8 s (λs=>some (Sum.inl s)) λt=>some (Sum.inr t)
def M.Aw gq v7 v8 s:=dU (M.qw gq v7 v8) s
def F.Aw{gq:zak}(Ov:S.jS.ok X0 λx=>eH gq x.1.1):LE X0 74:=le 3 (I5 [cu 3 pI,cu 7 (pL false 5),cu 8 pI,cu 9 pI] []) (λx=>(x.1.1,x.1.va.1)) (λx s=>((s.1,x.1.2.1,x.1.2.2.1,s.2,()),())) (λx=> .leaf (Int×Int) (λt=>(Ex.exit 0,⟨[(3,iK t.1),(7,wB 5 x.1.2.1),(8,iK x.1.2.2.1),(9,iK t.2),(10,jO false)],[]⟩))) (λx=>M.qp gq x.1.2.1 x.1.2.2.1) [fe Ov] [] (by rintro _ _ ⟨_,_⟩ _ _<;>simp only[qh,M.qp,nb]<;>rfl)
def M.yB(gq:zak)(t' Gs:Int)(RN Yh:aI)(Wu:au)(k:Int->Option R):=(M.Aw gq Wu ((↑Wu.length:Int)) (0,0)).bind λa=>k (i64.wrap (a.1+1))
def M.gu:zaA
 |0=>λ_ _ _ _ _=>none
 |n+1=>λt' Gs RN Yh Wu=>M.yB (M.gu n) t' Gs RN Yh Wu some
def M.jS t' Gs RN Yh Wu:=lim λn=>M.gu n t' Gs RN Yh Wu
def C.abE{gq:zak}(Ov:S.jS.ok X0 λx=>eH gq x.1.1):S.jS.ok X0 λx=>eH (M.yB gq) x.1.1 some:=fnS (λx=>M.yB gq x.1.1.1 x.1.1.2.1 x.1.1.2.2.1 x.1.1.va.1 x.1.1.va.2.1) [] [F.Aw Ov] (by intros;simp only[M.yB,nb]<;>rfl)
def C.gu:∀n,S.jS.ok X0 λx=>M.gu n x.1.1.1 x.1.1.2.1 x.1.1.2.2.1 x.1.1.va.1 x.1.1.va.2.1
 |0=>dJ.zero
 |n+1=>C.abE (C.gu n)
def C.jS:S.jS.ok X0 λx=>eH M.jS x.1.1:=dJ.lim C.gu
def M.Ur{n:Nat}{t' Gs:Int}{RN Yh:aI}{Wu:au}{r:Int}(h:M.gu n t' Gs RN Yh Wu=some r):M.jS t' Gs RN Yh Wu=some r:=dJ.sF C.gu (by intro a b h;simp[S.jS,rf,sg] at h;first|exact h|simp[Prod.ext_iff,h]) (x:=(((t',Gs,RN,Yh,Wu,()),()),())) h
abbrev M.Ox(t' Gs:Int)(RN Yh:aI)(Wu:au)(k:Int×Int->Option R):=(M.oJ t' Gs RN Yh Wu).bind λb=>cond (decide (b>400)) (k (1,0)) ((M.jS t' Gs RN Yh Wu).bind λa=>cond (decide (a>40)) (k (4,0)) (k (0,0)))
def M.BZ t' Gs RN Yh Wu:=M.Ox t' Gs RN Yh Wu some
def C.BZ:=fTa S.BZ (λx=>M.Ox x.1.1.1 x.1.1.2.1 x.1.1.2.2.1 x.1.1.va.1 x.1.1.va.2.1) [fe C.oJ,fe C.jS]
def M.sO(iE:zap)(s:zaE⊕zaF)(kn:zaE⊕zaF->Option R)(ke:zaE⊕zaF->Option R):Option R:=match s with
 | .inl (v18,v19,v20,x',jl,kW,nT,oO)=>bif decide (v20<v19) then((idx v18 v20).bind λd=>qh 5 d λaL2 aL3 aL4 aL5 awQ=>((iE aL2 aL3 aL4 aL5 awQ x').bind λa=>kn (.inr (v18,v19,i64.wrap (v20+1),a,jl,kW,nT,oO,[[D.int .i64 (i64.wrap ((↑a.length:Int) - 1))]])))) else(ke (.inl (v18,v19,v20,x',jl,kW,nT,oO)))
 | .inr (v18,v19,v20,x',jl,kW,nT,oO,rY)=>bif decide (v20<v19) then((idx v18 v20).bind λc=>qh 5 c λaL6 aL7 aL8 aL9 awR=>((iE aL6 aL7 aL8 aL9 awR x').bind λb=>sW rY [[D.int .i64 (i64.wrap ((↑b.length:Int) - 1))]] 8 λe=>kn (.inr (v18,v19,i64.wrap (v20+1),b,jl,kW,nT,oO,e)))) else ke (.inr (v18,v19,v20,x',jl,kW,nT,oO,rY))
def M.wR iE s:=M.sO iE s (λs=>some (Sum.inl s)) λt=>some (Sum.inr t)
def M.Kt iE s:=dU (M.wR iE) s
def F.Kt{iE:zap}(RP:S.qB.ok X0 λx=>eH iE x.1.1 x.1.2.1):LE X0 75:=le 3 (pOr (I5 [cu 1 (pO 300000 0),cu 5 (pP 300001 0),cu 18 (pL false 5),cu 19 pI,cu 20 pI] [cu 300000 zbB,cu 300001 (cB 87 [pI,pI,pS,pS,XZ 1])]) (I5 [cu 1 (pO 300000 0),cu 5 (pP 300001 0),cu 18 (pL false 5),cu 19 pI,cu 20 pI] [cu 300000 zbB,cu 300001 (cB 87 zbH),cu 300002 zbu])) (σ:=zaE⊕zaF) (λx=>(match x with| .inl x=> .inl ((x.1.2.2.1,x.1.va.1,x.1.va.2.1,x.2.1,x.2.2.1.1,x.2.2.1.2.1,x.2.2.1.2.2.1,x.2.2.1.va.1))| .inr x=> .inr ((x.1.2.2.1,x.1.va.1,x.1.va.2.1,x.2.1,x.2.2.1.1,x.2.2.1.2.1,x.2.2.1.2.2.1,x.2.2.1.va.1,x.va.1)))) (λx s=>(match s with| .inl s=> .inl ((((),(),s.1,s.2.1,s.2.2.1,()),(s.va.1,(s.va.2.1,s.va.2.2.1,s.va.va.1,s.va.va.2,(),()),())))| .inr s=> .inr ((((),(),s.1,s.2.1,s.2.2.1,()),(s.va.1,(s.va.2.1,s.va.2.2.1,s.va.va.1,s.va.va.2.1,(),()),s.wd,()))))) (λx=> .sum (.leaf zaE (λt=>(Ex.exit 0,⟨[(1,V.own 300000 0),(5,V.ptr 300001 0),(18,wB 5 t.1),(19,iK t.2.1),(20,iK t.2.2.1),(21,jO false)],[(300000,Cell.arr false false 0 5 t.va.1),(300001,Cell.box 87 [iK t.va.2.1,iK t.va.2.2.1,KI t.va.va.1,KI t.va.va.2,V.nil 1])]⟩))) (.leaf zaF (λt=>(Ex.exit 0,⟨[(1,V.own 300000 0),(5,V.ptr 300001 0),(18,wB 5 t.1),(19,iK t.2.1),(20,iK t.2.2.1),(21,jO false)],[(300000,Cell.arr false false 0 5 t.va.1),(300001,Cell.box 87 [iK t.va.2.1,iK t.va.2.2.1,KI t.va.va.1,KI t.va.va.2.1,V.own 300002 0]),(300002,Cell.arr false true 0 1 t.wd)]⟩)))) (λx=>M.sO iE) [fe RP] [] (by rintro _ _ (⟨_,_,_,_,_,_,_,_⟩|⟨_,_,_,_,_,_,_,_,_⟩) _ _<;>simp only[sW,qh,M.sO,nb]<;>rfl) (hE:=by intro _ _ s _;rcases s with s|s<;>kernel_rfl)
def M.He(iE:zap)(t' Gs:Int)(RN Yh:aI)(Wu l:au)(k:au->Option R):=(M.Kt iE (.inl (Wu,(↑Wu.length:Int),0,l,t',Gs,RN,Yh))).bind λd=>kT d (λb=>sW b.2.2.2.1 [[D.int .i64 b.2.2.2.2.1,D.int .i64 b.2.2.2.2.2.1,D.str b.2.2.2.2.2.2.1,D.str b.2.2.2.2.2.2.2,D.sl true 1 []]] 72 λza=>k za) λc=>letE c λa=>cond (aj a.2.2.2.2.2.2.2.2) (sW a.2.2.2.1 [[D.int .i64 a.2.2.2.2.1,D.int .i64 a.2.2.2.2.2.1,D.str a.2.2.2.2.2.2.1,D.str a.2.2.2.2.2.2.2.1,D.sl true 1 a.2.2.2.2.2.2.2.2]] 72 λza=>k za) none
def M.jT:Nat->Int->Int->aI->aI->au->au->Option (au)
 |0=>λ_ _ _ _ _ _=>none
 |n+1=>λt' Gs RN Yh Wu l=>M.He (M.jT n) t' Gs RN Yh Wu l some
def M.qB t' Gs RN Yh Wu l:=lim λn=>M.jT n t' Gs RN Yh Wu l
def C.ad1{iE:zap}(RP:S.qB.ok X0 λx=>eH iE x.1.1 x.1.2.1):S.qB.ok X0 λx=>eH (M.He iE) x.1.1 x.1.2.1 some:=fnS (λx=>M.He iE x.1.1.1 x.1.1.2.1 x.1.1.2.2.1 x.1.1.va.1 x.1.1.va.2.1 x.1.2.1) [] [F.Kt RP] (by intros;simp only[sW,M.He,nb]<;>rfl)
def C.jT:∀n,S.qB.ok X0 λx=>M.jT n x.1.1.1 x.1.1.2.1 x.1.1.2.2.1 x.1.1.va.1 x.1.1.va.2.1 x.1.2.1
 |0=>dJ.zero
 |n+1=>C.ad1 (C.jT n)
def C.qB:S.qB.ok X0 λx=>eH M.qB x.1.1 x.1.2.1:=dJ.lim C.jT
def M.ad2{n:Nat}{t' Gs:Int}{RN Yh:aI}{Wu l r:au}(h:M.jT n t' Gs RN Yh Wu l=some r):M.qB t' Gs RN Yh Wu l=some r:=dJ.sF C.jT (by intro a b h;simp[S.qB,rc,sg] at h;first|exact h|simp[Prod.ext_iff,h]) (x:=(((t',Gs,RN,Yh,Wu,()),l,()),())) h
abbrev M.Ku(t' Gs:Int)(RN Yh:aI)(Wu:au)(k:au->Option R):=(M.qB t' Gs RN Yh Wu []).bind λa=>k a
def M.rU t' Gs RN Yh Wu:=M.Ku t' Gs RN Yh Wu some
def C.rU:=fTa S.rU (λx=>M.Ku x.1.1.1 x.1.1.2.1 x.1.1.2.2.1 x.1.1.va.1 x.1.1.va.2.1) [fe C.qB]
abbrev M.ES(l:au)(p:Int)(p1 p2 p3 p4:Bool)(k:au×Int×Int×Int->Option R):=(M.Je p p1 p2 p3 p4).bind λd=>cond (!d) (k ([],0,3,0)) ((M.BU l).bind λc=>cond (!cond (c.1==0) (cond (c.2==0) true false) false) (k ([],0,c)) ((M.jR p p1 p2 p3 p4 l 0 false []).bind λa=>cond a.2.2.2.2.2.2.2.2.2.1 ((M.xk l a.2.2.2.2.2.2.2.2.1).bind λf=>k ([],0,3,f)) ((M.BZ a.1 a.2.1 a.2.2.1 a.2.2.2.1 (aF a.2.2.2.2.2.1)).bind λb=>cond (!cond (b.1==0) (cond (b.2==0) true false) false) (k ([],0,b)) ((M.rU a.1 a.2.1 a.2.2.1 a.2.2.2.1 (aF a.2.2.2.2.2.1)).bind λe=>k (e,a.2.2.2.2.2.2.2.2.1,0,0)))))
def M.oK l p p1 p2 p3 p4:=M.ES l p p1 p2 p3 p4 some
def C.oK:=fTa S.oK (λx=>M.ES x.1.1 x.1.2.1.1 x.1.2.1.2.1 x.1.2.1.2.2.1 x.1.2.1.va.1 x.1.2.1.va.2.1) [fe C.Je,fe C.BU,fe C.jR,fe C.xk,fe C.BZ,fe C.rU]
abbrev M.jH(Ld last:Int)(ke:(Unit)⊕(Int×Int)->Option R)(kn:Int×Int->Option R)(i:Int):=cond (Ld==5) ((M.dD last).bind λb=>cond b (ke (.inl ())) (cond (Ld==58) ((M.dD last).bind λe=>cond (!e) (ke (.inl ())) (kn (Ld,i64.wrap (i+1)))) (cond (Ld==41) ((M.dD last).bind λa=>cond (!a) (ke (.inl ())) (kn (Ld,i64.wrap (i+1)))) (kn (Ld,i64.wrap (i+1)))))) (cond (Ld==58) ((M.dD last).bind λc=>cond (!c) (ke (.inl ())) (kn (Ld,i64.wrap (i+1)))) (cond (Ld==41) ((M.dD last).bind λd=>cond (!d) (ke (.inl ())) (kn (Ld,i64.wrap (i+1)))) (kn (Ld,i64.wrap (i+1)))))
def M.Az(l:au)(s:Int×Int)(kn:Int×Int->Option R)(ke:(Unit)⊕(Int×Int)->Option R):Option R:=match s with
 |(last,i)=>bif decide (i<(↑l.length:Int)) then(bif decide (i64.wrap (i+1)<(↑l.length:Int)) then((idx l (i64.wrap (i+1))).bind λr=>(dG .i64 r 0).bind λd=>(idx l i).bind λn=>(dG .i64 n 0).bind λa=>(idx l i).bind λc=>(dG .i64 c 0).bind λk=>(cStr c 1).bind λg=>(dG .i64 c 2).bind λq=>(M.mP k g q).bind λm=>bif !m then(ke (.inl ())) else bif a==7 then(bif d !=32 then(ke (.inl ())) else bif a==2 then(bif d !=1 then(bif decide (i64.wrap (i+1)<(↑l.length:Int)) then(ke (.inl ())) else M.jH a last ke kn i) else M.jH a last ke kn i) else M.jH a last ke kn i) else bif a==2 then(bif d !=1 then(bif decide (i64.wrap (i+1)<(↑l.length:Int)) then(ke (.inl ())) else M.jH a last ke kn i) else M.jH a last ke kn i) else M.jH a last ke kn i) else (idx l i).bind λh=>(dG .i64 h 0).bind λb=>(idx l i).bind λe=>(dG .i64 e 0).bind λf=>(cStr e 1).bind λo=>(dG .i64 e 2).bind λp=>(M.mP f o p).bind λj=>bif !j then(ke (.inl ())) else bif b==7 then(ke (.inl ())) else bif b==2 then(bif decide (i64.wrap (i+1)<(↑l.length:Int)) then(ke (.inl ())) else M.jH b last ke kn i) else M.jH b last ke kn i) else ke (.inr (last,i))
def M.AA l s:=M.Az l s (λs=>some (Sum.inl s)) λt=>some (Sum.inr t)
def M.Kv l s:=dU (M.AA l) s
def F.Kv:LE X0 26:=le 5 (I5 [cu 0 (pL false 3),cu 3 pI,cu 4 pI] []) (λx=>(x.1.2.1,x.1.2.2.1)) (λx s=>((x.1.1,s.1,s.2,()),())) (λx=> .sum (.leaf (Unit) (λt=>(Ex.ret,⟨[(2,jO false)],[]⟩))) (.leaf (Int×Int) (λt=>(Ex.exit 0,⟨[(0,wB 3 x.1.1),(3,iK t.1),(4,iK t.2),(13,jO false)],[]⟩)))) (λx=>M.Az x.1.1) [fe C.mP,fe C.dD] [] (by rintro _ _ ⟨_,_⟩ _ _<;>unfold M.Az M.jH<;>exact zbJ)
abbrev M.L6(l:au)(k:Bool->Option R):=cond (decide ((↑l.length:Int)>3000)) (k false) ((M.Kv l (0,0)).bind λa=>kT a (λd=>k false) λb=>letE b λc=>k true)
def M.um l:=M.L6 l some
def C.um:=fTa S.um (λx=>M.L6 x.1.1) [] [F.Kv]
abbrev M.Hf(kind:Int)(k:Bool->Option R):=cond (kind==33) (k true) (cond (kind==35) (k true) (k (kind==31)))
def M.gG kind:=M.Hf kind some
def C.gG:=fTa S.gG (λx=>M.Hf x.1.1)
abbrev M.Ju(kind:Int)(k:Bool->Option R):=cond (kind==32) (k true) (cond (kind==34) (k true) (k (kind==30)))
def M.iw kind:=M.Ju kind some
def C.iw:=fTa S.iw (λx=>M.Ju x.1.1)
def M.ET(l:au)(s:Int×Int)(kn:Int×Int->Option R)(ke:(Int)⊕(Int×Int)->Option R):Option R:=match s with
 |(d,i)=>bif decide (i<(↑l.length:Int)) then((idx l i).bind λf=>(dG .i64 f 0).bind λg=>(M.gG g).bind λh=>bif h then((idx l i).bind λj=>(dG .i64 j 0).bind λa=>(M.iw a).bind λb=>bif b then(bif decide (i64.wrap ((bif decide (0<i64.wrap (d - 1)) then i64.wrap (d - 1) else 0)+1)>40) then(ke (.inl i)) else kn (i64.wrap ((bif decide (0<i64.wrap (d - 1)) then i64.wrap (d - 1) else 0)+1),i64.wrap (i+1))) else bif decide ((bif decide (0<i64.wrap (d - 1)) then i64.wrap (d - 1) else 0)>40) then(ke (.inl i)) else kn (bif decide (0<i64.wrap (d - 1)) then i64.wrap (d - 1) else 0,i64.wrap (i+1))) else (idx l i).bind λe=>(dG .i64 e 0).bind λc=>(M.iw c).bind λk=>bif k then(bif decide (i64.wrap (d+1)>40) then(ke (.inl i)) else kn (i64.wrap (d+1),i64.wrap (i+1))) else bif decide (d>40) then(ke (.inl i)) else kn (d,i64.wrap (i+1))) else ke (.inr (d,i))
def M.EU l s:=M.ET l s (λs=>some (Sum.inl s)) λt=>some (Sum.inr t)
def M.Oy l s:=dU (M.EU l) s
def F.Oy:LE X0 27:=le 3 (I5 [cu 0 (pL false 3),cu 3 pI,cu 4 pI] []) (λx=>(x.1.2.1,x.1.2.2.1)) (λx s=>((x.1.1,s.1,s.2,()),())) (λx=> .sum (.leaf (Int) (λt=>(Ex.ret,⟨[(2,iK t)],[]⟩))) (.leaf (Int×Int) (λt=>(Ex.exit 0,⟨[(0,wB 3 x.1.1),(3,iK t.1),(4,iK t.2),(8,jO false)],[]⟩)))) (λx=>M.ET x.1.1) [fe C.gG,fe C.iw] [] (by rintro _ _ ⟨_,_⟩ _ _<;>simp only[M.ET,nb]<;>rfl)
abbrev M.QX(l:au)(k:Int->Option R):=(M.Oy l (0,0)).bind λc=>kT c (λb=>k b) λa=>letE a λd=>k (-1)
def M.zD l:=M.QX l some
def C.zD:=fTa S.zD (λx=>M.QX x.1.1) [] [F.Oy]
abbrev M.L8(l:au)(i kind:Int)(k:Int×Int->Option R):=cond (decide (i<(↑l.length:Int))) ((idx l i).bind λb=>(dG .i64 b 2).bind λd=>k (kind,d)) (cond ((↑l.length:Int)==0) (k (kind,0)) ((idx l (i64.wrap ((↑l.length:Int) - 1))).bind λa=>(dG .i64 a 0).bind λf=>(cStr a 1).bind λe=>(dG .i64 a 2).bind λc=>k (kind,i64.wrap (c+(↑e.length:Int)))))
def M.lS l i kind:=M.L8 l i kind some
def C.lS:=fTa S.lS (λx=>M.L8 x.1.1 x.1.2.1 x.1.2.2.1)
abbrev M.Di(kind:Int)(k:Bool->Option R):=cond (kind==3) (k true) (cond (kind==4) (k true) (cond (kind==6) (k true) (cond (kind==7) (k true) (cond (kind==8) (k true) (cond (kind==32) (k true) (cond (kind==68) (k true) (k false)))))))
def M.iy kind:=M.Di kind some
def C.iy:=fTa S.iy (λx=>M.Di x.1.1)
abbrev M.Oz(c:au)(c1:Int)(c2:Bool)(c3:au)(k:Int×au×Int×Bool×au->Option R):=cond (decide (c1>=(↑c.length:Int))) (cond (aj c3) (k (0,c,c1,c2,c3)) none) ((idx c c1).bind λb=>(dG .i64 b 0).bind λa=>cond (aj c3) (k (a,c,c1,c2,c3)) none)
def M.aV c c1 c2 c3:=M.Oz c c1 c2 c3 some
def C.aV:=fTa S.aV (λx=>zbI M.Oz x.2.1)
abbrev M.L9(kind:Int)(k:Bool->Option R):=cond (kind==51) (k true) (k (kind==52))
def M.kR kind:=M.L9 kind some
def C.kR:=fTa S.kR (λx=>M.L9 x.1.1)
abbrev M.EW(kind:Int)(c:au)(c1:Int)(c2:Bool)(c3:au)(k:Int×aI×Int×au×Int×Bool×au->Option R):=cond c2 (cond (aj c3) (k (0,[],0,c,c1,true,c3)) none) (cond (aj c3) ((M.aV c c1 c2 c3).bind λa=>cond (a.1 !=kind) (cond (aj a.2.2.2.2) (k (0,[],0,a.2.1,a.2.2.1,true,a.2.2.2.2)) none) ((idx a.2.1 a.2.2.1).bind λb=>(dG .i64 b 0).bind λd=>(cStr b 1).bind λf=>(dG .i64 b 2).bind λe=>cond (aj a.2.2.2.2) (k (d,f,e,a.2.1,i64.wrap (a.2.2.1+1),a.2.2.2)) none)) none)
def M.bf kind c c1 c2 c3:=M.EW kind c c1 c2 c3 some
def C.bf:=fTa S.bf (λx=>zbI (M.EW x.1.2.1) x.2.1) [fe C.aV]
abbrev M.dY(p:Int)(p1 p2 p3 p4:Bool)(level:Int)(k:Int×Bool×Bool×Bool×Bool->Option R):=k (level,false,p2,p3,false)
def M.bF p p1 p2 p3 p4 level:=M.dY p p1 p2 p3 p4 level some
def C.bF:=fTa S.bF (λx=>M.dY x.1.1.1 x.1.1.2.1 x.1.1.2.2.1 x.1.1.va.1 x.1.1.va.2.1 x.1.2.1)
def M.OA(x':au)(jl:Bool)(k:Int×Int×aI×aI×Bool×au->Option R):=cond ((↑x'.length:Int)==0) (k (0,0,[],[],true,[])) ((idx x' (i64.wrap ((↑x'.length:Int) - 1))).bind λa=>qh 1 a λaMK aML aMM aMN awT=>(k (aMK,aML,aMM,aMN,false,awT)))
def M.Gj x' jl:=M.OA x' jl some
def C.Gj:S.Gj.ok X0 λx=>M.Gj x.1.1.1 x.1.1.2.1:=fnS (λx=>M.OA x.1.1.1 x.1.1.2.1) [] [] (by intros;simp only[M.OA,qh];exact zbJ)
abbrev M.QY(x':au)(jl:Bool)(k:Bool->Option R):=cond (!jl) ((M.Gj x' jl).bind λa=>(M.nP a.1).bind λb=>k b) (k false)
def M.zF x' jl:=M.QY x' jl some
def C.zF:=fTa S.zF (λx=>M.QY x.1.1.1 x.1.1.2.1) [fe C.Gj,fe C.nP]
abbrev M.Jv(n' kC:Int)(lZ pX:aI)(qG parts:au)(k:Bool×au×Bool->Option R):=(M.dW n' kC lZ pX qG parts).bind λa=>k (false,aF a,false)
def M.bW n' kC lZ pX qG parts:=M.Jv n' kC lZ pX qG parts some
def C.bW:=fTa S.bW (λx=>M.Jv x.1.1.1 x.1.1.2.1 x.1.1.2.2.1 x.1.1.va.1 x.1.1.va.2.1 x.1.2.1) [fe C.dW]
def M.zO(aB:zab)(p:Int)(p1 p2 p3 p4:Bool)(c:au)(c1:Int)(c2:Bool)(c3:au)(k:Bool×au×Bool×au×Int×Bool×au->Option R):=(M.bF p p1 p2 p3 p4 2).bind λe=>cond (aj c3) ((aB e.1 e.2.1 e.2.2.1 e.2.2.2.1 e.2.2.2.2 c c1 c2 c3).bind λa=>cond a.2.2.2.2.2.1 (cond (aj a.2.2.2.2.2.2) (k (false,aF a.2.1,a.2.2)) none) ((M.zF (aF a.2.1) a.2.2.1).bind λj=>cond (!j) (cond (aj a.2.2.2.2.2.2) (k (false,aF a.2.1,a.2.2)) none) (cond (aj a.2.2.2.2.2.2) ((M.aV a.2.2.2.1 a.2.2.2.2.1 a.2.2.2.2.2.1 a.2.2.2.2.2.2).bind λh=>(M.qA h.1).bind λl=>cond (!l) (cond (aj h.2.2.2.2) (k (false,aF a.2.1,a.2.2.1,h.2)) none) (cond (aj h.2.2.2.2) ((M.aV h.2.1 h.2.2.1 h.2.2.2.1 h.2.2.2.2).bind λb=>cond (aj b.2.2.2.2) ((M.bf b.1 b.2.1 b.2.2.1 b.2.2.2.1 b.2.2.2.2).bind λf=>(M.bF p p1 p2 p3 p4 1).bind λg=>cond (aj f.2.2.2.2.2.2) ((aB g.1 g.2.1 g.2.2.1 g.2.2.2.1 g.2.2.2.2 f.2.2.2.1 f.2.2.2.2.1 f.2.2.2.2.2.1 f.2.2.2.2.2.2).bind λd=>(M.bW 15 b.1 [] [] [] (aF [[D.sl false 5 (aF a.2.1)],[D.sl false 5 (aF d.2.1)]])).bind λi=>cond (aj d.2.2.2.2.2.2) (k (false,aF i.2.1,i.2.2,d.2.2.2)) none) none) none) none)) none))) none
def C.acI{aB:zab}(eX:S.fC.ok X0 λx=>eH aB x.1.2.1 x.2.1.1 x.2.1.2.1 x.2.1.2.2.1 x.2.1.va.1):S.Ui.ok X0 λx=>eH (M.zO aB) x.1.2.1 x.2.1.1 x.2.1.2.1 x.2.1.2.2.1 x.2.1.va.1 some:=fnS (λx=>zbI (M.zO aB x.1.2.1.1 x.1.2.1.2.1 x.1.2.1.2.2.1 x.1.2.1.va.1 x.1.2.1.va.2.1) x.2.1) [fe C.bF,fe eX,fe C.zF,fe C.aV,fe C.qA,fe C.bf,fe C.bW] [] (by intros;unfold M.zO;exact zbJ)
def M.EY(aB:zab)(p:Int)(p1 p2 p3 p4:Bool)(c:au)(c1:Int)(c2:Bool)(c3:au)(k:Bool×au×Bool×au×Int×Bool×au->Option R):=(M.bF p p1 p2 p3 p4 3).bind λe=>cond (aj c3) ((aB e.1 e.2.1 e.2.2.1 e.2.2.2.1 e.2.2.2.2 c c1 c2 c3).bind λa=>cond a.2.2.2.2.2.1 (cond (aj a.2.2.2.2.2.2) (k (false,aF a.2.1,a.2.2)) none) (cond (aj a.2.2.2.2.2.2) ((M.aV a.2.2.2.1 a.2.2.2.2.1 a.2.2.2.2.2.1 a.2.2.2.2.2.2).bind λg=>cond (g.1 !=65) (cond (aj g.2.2.2.2) (k (false,aF a.2.1,a.2.2.1,g.2)) none) (cond (aj g.2.2.2.2) ((M.bf 65 g.2.1 g.2.2.1 g.2.2.2.1 g.2.2.2.2).bind λf=>(M.bF p p1 p2 p3 p4 2).bind λh=>cond (aj f.2.2.2.2.2.2) ((aB h.1 h.2.1 h.2.2.1 h.2.2.2.1 h.2.2.2.2 f.2.2.2.1 f.2.2.2.2.1 f.2.2.2.2.2.1 f.2.2.2.2.2.2).bind λb=>cond (aj b.2.2.2.2.2.2) ((M.bf 66 b.2.2.2.1 b.2.2.2.2.1 b.2.2.2.2.2.1 b.2.2.2.2.2.2).bind λi=>(M.bF p p1 p2 p3 p4 2).bind λj=>cond (aj i.2.2.2.2.2.2) ((aB j.1 j.2.1 j.2.2.1 j.2.2.2.1 j.2.2.2.2 i.2.2.2.1 i.2.2.2.2.1 i.2.2.2.2.2.1 i.2.2.2.2.2.2).bind λd=>(M.bW 14 0 [] [] [] (aF [[D.sl false 5 (aF a.2.1)],[D.sl false 5 (aF b.2.1)],[D.sl false 5 (aF d.2.1)]])).bind λl=>cond (aj d.2.2.2.2.2.2) (k (false,aF l.2.1,l.2.2,d.2.2.2)) none) none) none) none) none)) none)) none
def C.afA{aB:zab}(eX:S.fC.ok X0 λx=>eH aB x.1.2.1 x.2.1.1 x.2.1.2.1 x.2.1.2.2.1 x.2.1.va.1):S.Xi.ok X0 λx=>eH (M.EY aB) x.1.2.1 x.2.1.1 x.2.1.2.1 x.2.1.2.2.1 x.2.1.va.1 some:=fnS (λx=>zbI (M.EY aB x.1.2.1.1 x.1.2.1.2.1 x.1.2.1.2.2.1 x.1.2.1.va.1 x.1.2.1.va.2.1) x.2.1) [fe C.bF,fe eX,fe C.aV,fe C.bf,fe C.bW] [] (by intros;unfold M.EY;exact zbJ)
def M.jY(v:au)(v1:Int)(v2:Bool)(x':au)(s:Int×Int)(kn:Int×Int->Option R)(ke:(Bool)⊕(Int×Int)->Option R):Option R:=match s with
 |(d,i)=>bif decide (i<(↑v.length:Int)) then((idx v i).bind λb=>(dG .i64 b 0).bind λn=>(M.iw n).bind λq=>bif q then((idx v i).bind λk=>(dG .i64 k 0).bind λa=>(M.gG a).bind λc=>bif c then(bif i64.wrap (i64.wrap (d+1) - 1)==0 then(ke (.inl false)) else bif i64.wrap (i64.wrap (d+1) - 1)==1 then((idx v i).bind λe=>(dG .i64 e 0).bind λo=>bif o==36 then(ke (.inl true)) else kn (i64.wrap (i64.wrap (d+1) - 1),i64.wrap (i+1))) else kn (i64.wrap (i64.wrap (d+1) - 1),i64.wrap (i+1))) else bif i64.wrap (d+1)==0 then(ke (.inl false)) else bif i64.wrap (d+1)==1 then((idx v i).bind λp=>(dG .i64 p 0).bind λf=>bif f==36 then(ke (.inl true)) else kn (i64.wrap (d+1),i64.wrap (i+1))) else kn (i64.wrap (d+1),i64.wrap (i+1))) else (idx v i).bind λr=>(dG .i64 r 0).bind λt=>(M.gG t).bind λh=>bif h then(bif i64.wrap (d - 1)==0 then(ke (.inl false)) else bif i64.wrap (d - 1)==1 then((idx v i).bind λm=>(dG .i64 m 0).bind λj=>bif j==36 then(ke (.inl true)) else kn (i64.wrap (d - 1),i64.wrap (i+1))) else kn (i64.wrap (d - 1),i64.wrap (i+1))) else bif d==0 then(ke (.inl false)) else bif d==1 then((idx v i).bind λg=>(dG .i64 g 0).bind λl=>bif l==36 then(ke (.inl true)) else kn (d,i64.wrap (i+1))) else kn (d,i64.wrap (i+1))) else ke (.inr (d,i))
def M.fA v v1 v2 x' s:=M.jY v v1 v2 x' s (λs=>some (Sum.inl s)) λt=>some (Sum.inr t)
def M.oQ v v1 v2 x' s:=dU (M.fA v v1 v2 x') s
def F.oQ:LE X0 146:=le 5 (I5 [cu 0 (pP 100000 0),cu 3 pI,cu 4 pI] [cu 100000 (cB 68 zbG),cu 300000 zby]) (λx=>(x.1.2.1,x.1.2.2.1)) (λx s=>(((),s.1,s.2,()),((x.2.1.1,x.2.1.2.1,x.2.1.2.2.1,(),()),x.2.2.1,()))) (λx=> .sum (.leaf (Bool) (λt=>(Ex.ret,⟨[(2,jO t)],[(100000,zbf x.2.1 300000),(300000,Cell.arr false true 0 3 x.2.2.1)]⟩))) (.leaf (Int×Int) (λt=>(Ex.exit 0,⟨[(0,V.ptr 100000 0),(3,iK t.1),(4,iK t.2),(24,jO false)],[(100000,zbf x.2.1 300000),(300000,Cell.arr false true 0 3 x.2.2.1)]⟩)))) (λx=>M.jY x.2.1.1 x.2.1.2.1 x.2.1.2.2.1 x.2.2.1) [fe C.iw,fe C.gG] [] (by rintro _ _ ⟨_,_⟩ _ _<;>unfold M.jY<;>exact zbJ)
abbrev M.Mc(c:au)(c1:Int)(c2:Bool)(c3:au)(k:Bool×au×Int×Bool×au->Option R):=cond c2 (cond (aj c3) (k (false,c,c1,c2,c3)) none) (cond (aj c3) ((M.aV c c1 c2 c3).bind λa=>cond (a.1 !=32) (cond (aj a.2.2.2.2) (k (false,a.2)) none) ((M.oQ a.2.1 a.2.2.1 a.2.2.2.1 a.2.2.2.2 (0,a.2.2.1)).bind λd=>kT d (λe=>cond (aj a.2.2.2.2) (k (e,a.2)) none) λb=>letE b λf=>cond (aj a.2.2.2.2) (k (false,a.2)) none)) none)
def M.zG c c1 c2 c3:=M.Mc c c1 c2 c3 some
def C.zG:=fTa S.zG (λx=>zbI M.Mc x.2.1) [fe C.aV] [F.oQ]
def M.wS(s:zaB⊕zaB)(kn:zaB⊕zaB->Option R)(ke:au×Int×Bool×au->Option R):Option R:=match s with
 | .inl (v,v1,v2,v3)=>bif !v2 then(bif aj v3 then((M.aV v v1 v2 v3).bind λh=>bif h.1==1 then(bif aj h.2.2.2.2 then((M.aV h.2.1 h.2.2.1 h.2.2.2.1 h.2.2.2.2).bind λf=>bif f.1==2 then((idx f.2.1 f.2.2.1).bind λj=>(dG .i64 j 0).bind λu=>(cStr j 1).bind λm=>(dG .i64 j 2).bind λz=>sW f.2.2.2.2 [[D.int .i64 u,D.str m,D.int .i64 z]] 32 λza=>kn (.inr (f.2.1,i64.wrap (f.2.2.1+1),f.2.2.2.1,za))) else kn (.inr (f.2.1,i64.wrap (f.2.2.1+1),f.2.2.2.1,f.2.2.2.2))) else none) else bif aj h.2.2.2.2 then((M.aV h.2.1 h.2.2.1 h.2.2.2.1 h.2.2.2.2).bind λa=>bif a.1==2 then(bif aj a.2.2.2.2 then((M.aV a.2.1 a.2.2.1 a.2.2.2.1 a.2.2.2.2).bind λg=>bif g.1==2 then((idx g.2.1 g.2.2.1).bind λk=>(dG .i64 k 0).bind λq=>(cStr k 1).bind λy=>(dG .i64 k 2).bind λr=>sW g.2.2.2.2 [[D.int .i64 q,D.str y,D.int .i64 r]] 32 λza=>kn (.inr (g.2.1,i64.wrap (g.2.2.1+1),g.2.2.2.1,za))) else kn (.inr (g.2.1,i64.wrap (g.2.2.1+1),g.2.2.2.1,g.2.2.2.2))) else none) else ke (a.2.1,a.2.2.1,a.2.2.2.1,a.2.2.2.2)) else none) else none) else(ke (v,v1,v2,v3))
 | .inr (v,v1,v2,x')=>bif !v2 then(bif aj x' then((M.aV v v1 v2 x').bind λc=>bif c.1==1 then(bif aj c.2.2.2.2 then((M.aV c.2.1 c.2.2.1 c.2.2.2.1 c.2.2.2.2).bind λe=>bif e.1==2 then((idx e.2.1 e.2.2.1).bind λl=>(dG .i64 l 0).bind λx=>(cStr l 1).bind λo=>(dG .i64 l 2).bind λw=>sW e.2.2.2.2 [[D.int .i64 x,D.str o,D.int .i64 w]] 32 λza=>kn (.inr (e.2.1,i64.wrap (e.2.2.1+1),e.2.2.2.1,za))) else kn (.inr (e.2.1,i64.wrap (e.2.2.1+1),e.2.2.2.1,e.2.2.2.2))) else none) else bif aj c.2.2.2.2 then((M.aV c.2.1 c.2.2.1 c.2.2.2.1 c.2.2.2.2).bind λb=>bif b.1==2 then(bif aj b.2.2.2.2 then((M.aV b.2.1 b.2.2.1 b.2.2.2.1 b.2.2.2.2).bind λd=>bif d.1==2 then((idx d.2.1 d.2.2.1).bind λi=>(dG .i64 i 0).bind λt=>(cStr i 1).bind λn=>(dG .i64 i 2).bind λp=>sW d.2.2.2.2 [[D.int .i64 t,D.str n,D.int .i64 p]] 32 λza=>kn (.inr (d.2.1,i64.wrap (d.2.2.1+1),d.2.2.2.1,za))) else kn (.inr (d.2.1,i64.wrap (d.2.2.1+1),d.2.2.2.1,d.2.2.2.2))) else none) else ke (b.2.1,b.2.2.1,b.2.2.2.1,b.2.2.2.2)) else none) else none) else ke (v,v1,v2,x')
def M.sQ s:=M.wS s (λs=>some (Sum.inl s)) λt=>some (Sum.inr t)
def M.qL s:=dU (M.sQ) s
def F.qL:LE X0 151:=le 1 (pOr (I5 [cu 0 (pP 100000 0)] [cu 100000 (cB 68 [pL false 3,pI,pB,pO 100001039999 0]),cu 100001039999 zby]) (I5 [cu 0 (pP 100000 0)] [cu 100000 (cB 68 zbG),cu 300000 zby])) (σ:=zaB⊕zaB) (λx=>(match x with| .inl x=> .inl ((x.2.1.1,x.2.1.2.1,x.2.1.2.2.1,x.2.2.1))| .inr x=> .inr ((x.2.1.1,x.2.1.2.1,x.2.1.2.2.1,x.2.2.1)))) (λx s=>(match s with| .inl s=> .inl ((((),()),((s.1,s.2.1,s.2.2.1,(),()),s.va,())))| .inr s=> .inr ((((),()),((s.1,s.2.1,s.2.2.1,(),()),s.va,()))))) (λx=> .leaf zaB (λt=>(Ex.exit 0,⟨[(0,V.ptr 100000 0),(16,jO false)],[(100000,zbf t 300000),(300000,Cell.arr false true 0 3 t.va)]⟩))) (λx=>M.wS) [fe C.aV] [] (by rintro _ _ (⟨_,_,_,_⟩|⟨_,_,_,_⟩) _ _<;>unfold M.wS<;>exact zbJ) (hE:=by intro _ _ s _;rcases s with s|s<;>kernel_rfl)
abbrev M.Hl(c:au)(c1:Int)(c2:Bool)(c3:au)(k:au×Int×Bool×au->Option R):=(M.qL (.inl (c,c1,c2,c3))).bind λa=>cond (aj a.2.2.2) (k (a)) none
def M.jv c c1 c2 c3:=M.Hl c c1 c2 c3 some
def C.jv:=fTa S.jv (λx=>zbI M.Hl x.2.1) [] [F.qL]
def M.Dj(aB:zab)(s:zaO⊕zaC)(kn:zaO⊕zaC->Option R)(ke:zaC⊕zaC->Option R):Option R:=match s with
 | .inl (end',v16,v,v1,v2,x',jl)=>bif !v2 then(M.fO.bind λj=>bif aj jl then((aB j.1 j.2.1 j.2.2.1 j.2.2.2.1 j.2.2.2.2 v v1 v2 jl).bind λc=>sW x' [[D.sl false 5 (aF c.2.1)]] 24 λza=>bif aj c.2.2.2.2.2.2 then((M.aV c.2.2.2.1 c.2.2.2.2.1 c.2.2.2.2.2.1 c.2.2.2.2.2.2).bind λb=>bif b.1 !=36 then(ke (.inl (end',b.2.1,b.2.2.1,b.2.2.2.1,za,b.2.2.2.2))) else bif(↑za.length:Int)==6 then(bif aj b.2.2.2.2 then((M.bf 36 b.2.1 b.2.2.1 true b.2.2.2.2).bind λg=>bif aj g.2.2.2.2.2.2 then((M.jv g.2.2.2.1 g.2.2.2.2.1 g.2.2.2.2.2.1 g.2.2.2.2.2.2).bind λl=>kn (.inr (end',l.1,l.2.1,l.2.2.1,za,l.2.2.2))) else none) else none) else bif aj b.2.2.2.2 then((M.bf 36 b.2.1 b.2.2.1 b.2.2.2.1 b.2.2.2.2).bind λe=>bif aj e.2.2.2.2.2.2 then((M.jv e.2.2.2.1 e.2.2.2.2.1 e.2.2.2.2.2.1 e.2.2.2.2.2.2).bind λk=>kn (.inr (end',k.1,k.2.1,k.2.2.1,za,k.2.2.2))) else none) else none) else none) else none) else(ke (.inr (end',v,v1,v2,x',jl)))
 | .inr (end',v,v1,v2,x',jl)=>bif !v2 then(M.fO.bind λh=>bif aj jl then((aB h.1 h.2.1 h.2.2.1 h.2.2.2.1 h.2.2.2.2 v v1 v2 jl).bind λd=>sW x' [[D.sl false 5 (aF d.2.1)]] 24 λza=>bif aj d.2.2.2.2.2.2 then((M.aV d.2.2.2.1 d.2.2.2.2.1 d.2.2.2.2.2.1 d.2.2.2.2.2.2).bind λa=>bif a.1 !=36 then(ke (.inl (end',a.2.1,a.2.2.1,a.2.2.2.1,za,a.2.2.2.2))) else bif(↑za.length:Int)==6 then(bif aj a.2.2.2.2 then((M.bf 36 a.2.1 a.2.2.1 true a.2.2.2.2).bind λf=>bif aj f.2.2.2.2.2.2 then((M.jv f.2.2.2.1 f.2.2.2.2.1 f.2.2.2.2.2.1 f.2.2.2.2.2.2).bind λn=>kn (.inr (end',n.1,n.2.1,n.2.2.1,za,n.2.2.2))) else none) else none) else bif aj a.2.2.2.2 then((M.bf 36 a.2.1 a.2.2.1 a.2.2.2.1 a.2.2.2.2).bind λi=>bif aj i.2.2.2.2.2.2 then((M.jv i.2.2.2.1 i.2.2.2.2.1 i.2.2.2.2.2.1 i.2.2.2.2.2.2).bind λm=>kn (.inr (end',m.1,m.2.1,m.2.2.1,za,m.2.2.2))) else none) else none) else none) else none) else ke (.inr (end',v,v1,v2,x',jl))
def M.IJ aB s:=M.Dj aB s (λs=>some (Sum.inl s)) λt=>some (Sum.inr t)
def M.yQ aB s:=dU (M.IJ aB) s
def F.yQ{aB:zab}(eX:S.fC.ok X0 λx=>eH aB x.1.2.1 x.2.1.1 x.2.1.2.1 x.2.1.2.2.1 x.2.1.va.1):LE X0 147:=le 5 (pOr (I5 [cu 0 (pP 100000 0),cu 1 pI,cu 7 (pO 300000 0),cu 16 pB] [cu 100000 (cB 68 [pL false 3,pI,pB,pO 300001 0]),cu 300000 (cA false false 0 1),cu 300001 zby]) (I5 [cu 0 (pP 100000 0),cu 1 pI,cu 7 (pO 300000 0)] [cu 100000 (cB 68 [pL false 3,pI,pB,pO 300001 0]),cu 300000 (cA false false 0 1),cu 300001 zby])) (σ:=zaO⊕zaC) (λx=>(match x with| .inl x=> .inl ((x.1.2.1,x.1.va.1,x.2.1.1,x.2.1.2.1,x.2.1.2.2.1,x.2.2.1,x.va.1))| .inr x=> .inr ((x.1.2.1,x.2.1.1,x.2.1.2.1,x.2.1.2.2.1,x.2.2.1,x.va.1)))) (λx s=>(match s with| .inl s=> .inl ((((),s.1,(),s.2.1,()),((s.2.2.1,s.va.1,s.va.2.1,(),()),s.va.2.2.1,s.va.va,())))| .inr s=> .inr ((((),s.1,(),()),((s.2.1,s.2.2.1,s.va.1,(),()),s.va.2.1,s.va.2.2,()))))) (λx=> .sum (.leaf zaC (λt=>(Ex.exit 0,⟨[(0,V.ptr 100000 0),(1,iK t.1),(7,V.own 300000 0),(35,jO true)],[(100000,Cell.box 68 [wB 3 t.2.1,iK t.2.2.1,jO t.va.1,V.own 300001 0]),(300000,Cell.arr false false 0 1 t.va.2.1),(300001,Cell.arr false true 0 3 t.va.2.2)]⟩))) (.leaf zaC (λt=>(Ex.exit 0,⟨[(0,V.ptr 100000 0),(1,iK t.1),(7,V.own 300000 0),(25,jO false)],[(100000,Cell.box 68 [wB 3 t.2.1,iK t.2.2.1,jO t.va.1,V.own 300001 0]),(300000,Cell.arr false false 0 1 t.va.2.1),(300001,Cell.arr false true 0 3 t.va.2.2)]⟩)))) (λx=>M.Dj aB) [fe C.fO,fe eX,fe C.aV,fe C.bf,fe C.jv] [] (by rintro _ _ (⟨_,_,_,_,_,_,_⟩|⟨_,_,_,_,_,_⟩) _ _<;>unfold M.Dj<;>exact zbJ) (hE:=by intro _ _ s _;rcases s with s|s<;>kernel_rfl)
abbrev M.vO(acJ:Int×au×Int×Bool×au×au)(k:Bool×au×au×Int×Bool×au->Option R):=cond (aj acJ.2.2.2.2.2) ((M.bf acJ.1 acJ.2.1 acJ.2.2.1 acJ.2.2.2.1 acJ.2.2.2.2.2).bind λa=>cond (aj a.2.2.2.2.2.2) (k (true,acJ.2.2.2.2.1,a.2.2.2)) none) none
def M.xZ(aB:zab)(end' least:Int)(c:au)(c1:Int)(c2:Bool)(c3:au)(k:Bool×au×au×Int×Bool×au->Option R):=cond (least==0) (cond (aj c3) ((M.aV c c1 c2 c3).bind λa=>cond (a.1==end') (cond (aj a.2.2.2.2) ((M.bf end' a.2.1 a.2.2.1 a.2.2.2.1 a.2.2.2.2).bind λb=>cond (aj b.2.2.2.2.2.2) (k (true,[],b.2.2.2)) none) none) ((M.yQ aB (.inl (end',false,a.2.1,a.2.2.1,a.2.2.2.1,[],a.2.2.2.2))).bind λe=>kT e (λi=>M.vO i k) λj=>letE j λl=>M.vO l k)) none) ((M.yQ aB (.inl (end',false,c,c1,c2,[],c3))).bind λf=>kT f (λd=>M.vO d k) λg=>letE g λh=>M.vO h k)
def C.afB{aB:zab}(eX:S.fC.ok X0 λx=>eH aB x.1.2.1 x.2.1.1 x.2.1.2.1 x.2.1.2.2.1 x.2.1.va.1):S.JO.ok X0 λx=>M.xZ aB x.1.2.1 x.1.2.2.1 x.2.1.1 x.2.1.2.1 x.2.1.2.2.1 x.2.1.va.1 some:=fnS (λx=>zbI (M.xZ aB x.1.2.1 x.1.2.2.1) x.2.1) [fe C.aV,fe C.bf] [F.yQ eX] (by intros;unfold M.xZ M.vO;exact zbJ)
def M.yR(bQ:zah)(aB:zab)(x':Int)(jl kW nT oO rY:Bool)(s:au×Int×Bool×au×Bool×au)(kn:au×Int×Bool×au×Bool×au->Option R)(ke:au×Int×Bool×au×Bool×au->Option R):Option R:=match s with
 |(v,v1,v2,sV,xO,xw)=>bif !v2 then(bif !kW then(bif aj xw then((M.aV v v1 v2 xw).bind λa=>bif a.1==24 then(bif aj a.2.2.2.2 then((M.bf 24 a.2.1 a.2.2.1 a.2.2.2.1 a.2.2.2.2).bind λc=>bif aj c.2.2.2.2.2.2 then((M.bf 6 c.2.2.2.1 c.2.2.2.2.1 c.2.2.2.2.2.1 c.2.2.2.2.2.2).bind λb=>(M.bW 13 0 b.2.1 [] [] (aF [[D.sl false 5 sV]])).bind λd=>kn (b.2.2.2.1,b.2.2.2.2.1,b.2.2.2.2.2.1,aF d.2.1,d.2.2,b.2.2.2.2.2.2)) else none) else none) else ke (a.2.1,a.2.2.1,a.2.2.2.1,sV,xO,a.2.2.2.2)) else none) else ke (v,v1,v2,sV,xO,xw)) else ke (v,v1,v2,sV,xO,xw)
def M.rZ bQ aB x' jl kW nT oO rY s:=M.yR bQ aB x' jl kW nT oO rY s (λs=>some (Sum.inl s)) λt=>some (Sum.inr t)
def M.qC bQ aB x' jl kW nT oO rY s:=dU (M.rZ bQ aB x' jl kW nT oO rY) s
def F.qC{bQ:zah}{aB:zab}(AB:S.JO.ok X0 λx=>bQ x.1.2.1 x.1.2.2.1 x.2.1.1 x.2.1.2.1 x.2.1.2.2.1 x.2.1.va.1)(eX:S.fC.ok X0 λx=>eH aB x.1.2.1 x.2.1.1 x.2.1.2.1 x.2.1.2.2.1 x.2.1.va.1):LE X0 86:=le 9 (I5 [cu 0 (pP 100000 0),cu 3 (pP 300000 0),cu 4 (pP 300001 0),cu 5 (pP 300002 0)] [cu 100000 (cB 68 [pL false 3,pI,pB,pO 300003 0]),cu 300000 (cB 26 zbs),cu 300001 (cB 70 [XZ 5,pB]),cu 300002 (cB 70 [pL false 5,pB]),cu 300003 zby]) (λx=>(x.2.1.1,x.2.1.2.1,x.2.1.2.2.1,x.va.2.1.1,x.va.2.1.2.1,x.va.2.2.1)) (λx s=>(((),(),(),(),()),((s.1,s.2.1,s.2.2.1,(),()),(x.2.2.1.1,x.2.2.1.2.1,x.2.2.1.2.2.1,x.2.2.1.va.1,x.2.2.1.va.2.1,()),((),x.va.1.2.1,()),(s.va.1,s.va.2.1,()),s.va.2.2,()))) (λx=> .leaf (au×Int×Bool×au×Bool×au) (λt=>(Ex.exit 0,⟨[(0,V.ptr 100000 0),(3,V.ptr 300000 0),(4,V.ptr 300001 0),(5,V.ptr 300002 0),(49,jO false)],[(100000,zbf t 300003),(300000,Cell.box 26 [iK x.2.2.1.1,jO x.2.2.1.2.1,jO x.2.2.1.2.2.1,jO x.2.2.1.va.1,jO x.2.2.1.va.2.1]),(300001,Cell.box 70 [V.nil 5,jO x.va.1.2.1]),(300002,Cell.box 70 [wB 5 t.va.1,jO t.va.2.1]),(300003,Cell.arr false true 0 3 t.va.2.2)]⟩))) (λx=>M.yR bQ aB x.2.2.1.1 x.2.2.1.2.1 x.2.2.1.2.2.1 x.2.2.1.va.1 x.2.2.1.va.2.1 x.va.1.2.1) [fe C.aV,fe C.bf,fe C.bW] [] (by rintro _ _ ⟨_,_,_,_,_,_⟩ _ _<;>unfold M.yR<;>exact zbJ)
def M.Kw(bQ:zah)(aB:zab)(p:Int)(p1 p2 p3 p4:Bool)(c:au)(c1:Int)(c2:Bool)(c3:au)(k:Bool×au×Bool×au×Int×Bool×au->Option R):=cond (!p2) (cond (aj c3) ((M.zG c c1 c2 c3).bind λi=>cond i.1 (cond (aj i.2.2.2.2) ((M.bf 32 i.2.1 i.2.2.1 i.2.2.2.1 i.2.2.2.2).bind λj=>cond (aj j.2.2.2.2.2.2) ((bQ 33 1 j.2.2.2.1 j.2.2.2.2.1 j.2.2.2.2.2.1 j.2.2.2.2.2.2).bind λg=>cond (aj g.2.2.2.2.2) ((M.bf 24 g.2.2.1 g.2.2.2.1 g.2.2.2.2.1 g.2.2.2.2.2).bind λl=>cond (aj l.2.2.2.2.2.2) ((M.bf 6 l.2.2.2.1 l.2.2.2.2.1 l.2.2.2.2.2.1 l.2.2.2.2.2.2).bind λh=>(M.dW 13 0 h.2.1 [] [] (aF g.2.1)).bind λo=>(M.qC bQ aB p p1 p2 p3 p4 false (h.2.2.2.1,h.2.2.2.2.1,h.2.2.2.2.2.1,aF o,false,h.2.2.2.2.2.2)).bind λd=>cond (aj d.2.2.2.2.2) (k (false,d.2.2.2.1,d.2.2.2.2.1,d.1,d.2.1,d.2.2.1,d.2.2.2.2.2)) none) none) none) none) none) ((M.bF p p1 p2 p3 p4 6).bind λm=>cond (aj i.2.2.2.2) ((aB m.1 m.2.1 m.2.2.1 m.2.2.2.1 m.2.2.2.2 i.2.1 i.2.2.1 i.2.2.2.1 i.2.2.2.2).bind λf=>(M.qC bQ aB p p1 p2 p3 p4 false (f.2.2.2.1,f.2.2.2.2.1,f.2.2.2.2.2.1,aF f.2.1,f.2.2.1,f.2.2.2.2.2.2)).bind λb=>cond (aj b.2.2.2.2.2) (k (false,b.2.2.2.1,b.2.2.2.2.1,b.1,b.2.1,b.2.2.1,b.2.2.2.2.2)) none) none)) none) ((M.bF p p1 p2 p3 p4 6).bind λn=>cond (aj c3) ((aB n.1 n.2.1 n.2.2.1 n.2.2.2.1 n.2.2.2.2 c c1 c2 c3).bind λe=>(M.qC bQ aB p p1 p2 p3 p4 false (e.2.2.2.1,e.2.2.2.2.1,e.2.2.2.2.2.1,aF e.2.1,e.2.2.1,e.2.2.2.2.2.2)).bind λa=>cond (aj a.2.2.2.2.2) (k (false,a.2.2.2.1,a.2.2.2.2.1,a.1,a.2.1,a.2.2.1,a.2.2.2.2.2)) none) none)
def C.ajL{bQ:zah}{aB:zab}(AB:S.JO.ok X0 λx=>bQ x.1.2.1 x.1.2.2.1 x.2.1.1 x.2.1.2.1 x.2.1.2.2.1 x.2.1.va.1)(eX:S.fC.ok X0 λx=>eH aB x.1.2.1 x.2.1.1 x.2.1.2.1 x.2.1.2.2.1 x.2.1.va.1):S.abj.ok X0 λx=>eH (M.Kw bQ aB) x.1.2.1 x.2.1.1 x.2.1.2.1 x.2.1.2.2.1 x.2.1.va.1 some:=fnS (λx=>zbI (M.Kw bQ aB x.1.2.1.1 x.1.2.1.2.1 x.1.2.1.2.2.1 x.1.2.1.va.1 x.1.2.1.va.2.1) x.2.1) [fe C.zG,fe C.bf,fe AB,fe C.dW,fe C.bF,fe eX] [F.qC AB eX] (by intros;unfold M.Kw;exact zbJ)
abbrev M.VB(level:Int)(k:Int->Option R):=(idx [[D.int .i64 0],[D.int .i64 0],[D.int .i64 0],[D.int .i64 44],[D.int .i64 45],[D.int .i64 0],[D.int .i64 67],[D.int .i64 63],[D.int .i64 99],[D.int .i64 55],[D.int .i64 57]] level).bind λc=>([[D.int .i64 0],[D.int .i64 0],[D.int .i64 0],[D.int .i64 44],[D.int .i64 45],[D.int .i64 0],[D.int .i64 67],[D.int .i64 63],[D.int .i64 99],[D.int .i64 55],[D.int .i64 57]][level.toNat]?).bind λb=>(dG .i64 b 0).bind λa=>k a
def M.sZ level:=M.VB level some
def C.sZ:=fTa S.sZ (λx=>M.VB x.1.1)
abbrev M.OB(level p:Int)(p1 p2 p3 p4:Bool)(c:au)(c1:Int)(c2:Bool)(c3:au)(k:Bool×au×Int×Bool×au->Option R):=cond (aj c3) ((M.aV c c1 c2 c3).bind λa=>cond a.2.2.2.1 (cond (!a.2.2.2.1) ((M.iy a.1).bind λb=>cond (aj a.2.2.2.2) (k (b,a.2)) none) (cond (aj a.2.2.2.2) (k (false,a.2)) none)) (cond (level==8) (cond (!a.2.2.2.1) ((M.iy a.1).bind λd=>cond (aj a.2.2.2.2) (k (d,a.2)) none) (cond (aj a.2.2.2.2) (k (false,a.2)) none)) (cond (a.1 !=0) (cond (a.1 !=99) ((M.qJ a.1).bind λe=>cond (e==level) (cond (a.1 !=62) (cond (aj a.2.2.2.2) (k (true,a.2)) none) (cond (aj a.2.2.2.2) (k (!p3,a.2)) none)) (cond (aj a.2.2.2.2) (k (false,a.2)) none)) (cond (aj a.2.2.2.2) (k (false,a.2)) none)) (cond (aj a.2.2.2.2) (k (false,a.2)) none)))) none
def M.kV level p p1 p2 p3 p4 c c1 c2 c3:=M.OB level p p1 p2 p3 p4 c c1 c2 c3 some
def C.kV:=fTa S.kV (λx=>zbI (M.OB x.1.2.1 x.1.2.2.1.1 x.1.2.2.1.2.1 x.1.2.2.1.2.2.1 x.1.2.2.1.va.1 x.1.2.2.1.va.2.1) x.2.1) [fe C.aV,fe C.iy,fe C.qJ]
abbrev M.bC(Jw:Bool×au×Int×Bool×au)(x':Int)(jl kW nT oO:Bool)(right:Int)(aB:zab)(sV:au)(kn:Int×au×Int×Bool×au×Bool×au->Option R)(n':Int):=cond (aj Jw.2.2.2.2) ((M.jv Jw.2.1 Jw.2.2.1 Jw.2.2.2.1 Jw.2.2.2.2).bind λc=>(M.bF x' jl kW nT oO right).bind λa=>cond (aj c.2.2.2) ((aB a.1 a.2.1 a.2.2.1 a.2.2.2.1 a.2.2.2.2 c.1 c.2.1 c.2.2.1 c.2.2.2).bind λb=>(M.bW 12 99 [] [] [] (aF [[D.sl false 5 sV],[D.sl false 5 (aF b.2.1)]])).bind λd=>kn (i64.wrap (n'+1),b.2.2.2.1,b.2.2.2.2.1,b.2.2.2.2.2.1,aF d.2.1,d.2.2,b.2.2.2.2.2.2)) none) none
abbrev M.bD(Us:Int×au×Int×Bool×au)(x':Int)(jl kW nT oO:Bool)(right:Int)(aB:zab)(sV:au)(kn:Int×au×Int×Bool×au×Bool×au->Option R)(n':Int):=cond (aj Us.2.2.2.2) ((M.jv Us.2.1 (i64.wrap (Us.2.2.1+1)) Us.2.2.2.1 Us.2.2.2.2).bind λa=>(M.bF x' jl kW nT oO right).bind λb=>cond (aj a.2.2.2) ((aB b.1 b.2.1 b.2.2.1 b.2.2.2.1 b.2.2.2.2 a.1 a.2.1 a.2.2.1 a.2.2.2).bind λc=>(M.bW 12 Us.1 [] [] [] (aF [[D.sl false 5 sV],[D.sl false 5 (aF c.2.1)]])).bind λd=>kn (i64.wrap (n'+1),c.2.2.2.1,c.2.2.2.2.1,c.2.2.2.2.2.1,aF d.2.1,d.2.2,c.2.2.2.2.2.2)) none) none
def M.bG(aB:zab)(level most right x':Int)(jl kW nT oO rY:Bool)(s:Int×au×Int×Bool×au×Bool×au)(kn:Int×au×Int×Bool×au×Bool×au->Option R)(ke:Int×au×Int×Bool×au×Bool×au->Option R):Option R:=match s with
 |(n',v,v1,v2,sV,xO,xw)=>bif decide (n'<most) then(bif aj xw then((M.kV level x' jl kW nT oO v v1 v2 xw).bind λa=>bif a.1 then(bif level !=8 then(bif aj a.2.2.2.2 then((M.aV a.2.1 a.2.2.1 a.2.2.2.1 a.2.2.2.2).bind λf=>bif level==3 then(M.bD f x' jl kW nT oO right aB sV kn n') else bif level==4 then(M.bD f x' jl kW nT oO right aB sV kn n') else (M.bF x' jl kW nT oO right).bind λc=>bif aj f.2.2.2.2 then((aB c.1 c.2.1 c.2.2.1 c.2.2.2.1 c.2.2.2.2 f.2.1 (i64.wrap (f.2.2.1+1)) f.2.2.2.1 f.2.2.2.2).bind λe=>(M.bW 12 f.1 [] [] [] (aF [[D.sl false 5 sV],[D.sl false 5 (aF e.2.1)]])).bind λg=>kn (i64.wrap (n'+1),e.2.2.2.1,e.2.2.2.2.1,e.2.2.2.2.2.1,aF g.2.1,g.2.2,e.2.2.2.2.2.2)) else none) else none) else bif level==3 then(M.bC a x' jl kW nT oO right aB sV kn n') else bif level==4 then(M.bC a x' jl kW nT oO right aB sV kn n') else (M.bF x' jl kW nT oO right).bind λd=>bif aj a.2.2.2.2 then((aB d.1 d.2.1 d.2.2.1 d.2.2.2.1 d.2.2.2.2 a.2.1 a.2.2.1 a.2.2.2.1 a.2.2.2.2).bind λb=>(M.bW 12 99 [] [] [] (aF [[D.sl false 5 sV],[D.sl false 5 (aF b.2.1)]])).bind λh=>kn (i64.wrap (n'+1),b.2.2.2.1,b.2.2.2.2.1,b.2.2.2.2.2.1,aF h.2.1,h.2.2,b.2.2.2.2.2.2)) else none) else ke (n',a.2.1,a.2.2.1,a.2.2.2.1,sV,xO,a.2.2.2.2)) else none) else ke (n',v,v1,v2,sV,xO,xw)
def M.aS aB level most right x' jl kW nT oO rY s:=M.bG aB level most right x' jl kW nT oO rY s (λs=>some (Sum.inl s)) λt=>some (Sum.inr t)
def M.jo aB level most right x' jl kW nT oO rY s:=dU (M.aS aB level most right x' jl kW nT oO rY) s
def F.jo{aB:zab}(eX:S.fC.ok X0 λx=>eH aB x.1.2.1 x.2.1.1 x.2.1.2.1 x.2.1.2.2.1 x.2.1.va.1):LE X0 87:=le 6 (I5 [cu 0 (pP 100000 0),cu 2 pI,cu 3 pI,cu 5 (pP 300000 0),cu 8 (pP 300001 0),cu 10 pI,cu 11 (pP 300002 0),cu 12 pI] [cu 100000 (cB 68 [pL false 3,pI,pB,pO 300003 0]),cu 300000 (cB 26 zbs),cu 300001 (cB 70 [XZ 5,pB]),cu 300002 (cB 70 [pL false 5,pB]),cu 300003 zby]) (λx=>(x.1.va.va.2.1,x.2.1.1,x.2.1.2.1,x.2.1.2.2.1,x.va.2.1.1,x.va.2.1.2.1,x.va.2.2.1)) (λx s=>(((),x.1.2.1,x.1.2.2.1,(),(),x.1.va.2.2.1,(),s.1,()),((s.2.1,s.2.2.1,s.va.1,(),()),(x.2.2.1.1,x.2.2.1.2.1,x.2.2.1.2.2.1,x.2.2.1.va.1,x.2.2.1.va.2.1,()),((),x.va.1.2.1,()),(s.va.2.1,s.va.2.2.1,()),s.va.va,()))) (λx=> .leaf (Int×au×Int×Bool×au×Bool×au) (λt=>(Ex.exit 0,⟨[(0,V.ptr 100000 0),(2,iK x.1.2.1),(3,iK x.1.2.2.1),(5,V.ptr 300000 0),(8,V.ptr 300001 0),(10,iK x.1.va.2.2.1),(11,V.ptr 300002 0),(12,iK t.1),(38,jO false)],[(100000,Cell.box 68 [wB 3 t.2.1,iK t.2.2.1,jO t.va.1,V.own 300003 0]),(300000,Cell.box 26 [iK x.2.2.1.1,jO x.2.2.1.2.1,jO x.2.2.1.2.2.1,jO x.2.2.1.va.1,jO x.2.2.1.va.2.1]),(300001,Cell.box 70 [V.nil 5,jO x.va.1.2.1]),(300002,Cell.box 70 [wB 5 t.va.2.1,jO t.va.2.2.1]),(300003,Cell.arr false true 0 3 t.va.va)]⟩))) (λx=>M.bG aB x.1.2.1 x.1.2.2.1 x.1.va.2.2.1 x.2.2.1.1 x.2.2.1.2.1 x.2.2.1.2.2.1 x.2.2.1.va.1 x.2.2.1.va.2.1 x.va.1.2.1) [fe C.kV,fe C.aV,fe C.jv,fe C.bF,fe eX,fe C.bW] [] (by rintro _ _ ⟨_,_,_,_,_,_,_⟩ _ _<;>unfold M.bG M.bD M.bC<;>exact zbJ)
abbrev M.oU(c3:au)(aB:zab)(ahP:Int×Bool×Bool×Bool×Bool)(c:au)(c1:Int)(c2:Bool)(level most:Int)(aou:Int×Int)(p:Int)(p1 p2 p3 p4:Bool)(k:Bool×au×Bool×au×Int×Bool×au->Option R):=cond (aj c3) ((aB ahP.1 ahP.2.1 ahP.2.2.1 ahP.2.2.2.1 ahP.2.2.2.2 c c1 c2 c3).bind λb=>(M.jo aB level most aou.2 p p1 p2 p3 p4 false (0,b.2.2.2.1,b.2.2.2.2.1,b.2.2.2.2.2.1,aF b.2.1,b.2.2.1,b.2.2.2.2.2.2)).bind λa=>cond (aj a.2.2.2.2.2.2) (k (false,a.2.2.2.2.1,a.2.2.2.2.2.1,a.2.1,a.2.2.1,a.2.2.2.1,a.2.2.2.2.2.2)) none) none
def M.nC(aB:zab)(p:Int)(p1 p2 p3 p4:Bool)(level most:Int)(c:au)(c1:Int)(c2:Bool)(c3:au)(k:Bool×au×Bool×au×Int×Bool×au->Option R):=(M.sZ level).bind λd=>(M.kG d).bind λa=>cond (decide (most>1)) ((M.bF p p1 p2 p3 p4 (i64.wrap (level+1))).bind λb=>M.oU c3 aB b c c1 c2 level most a p p1 p2 p3 p4 k) ((M.bF p p1 p2 p3 p4 a.1).bind λe=>M.oU c3 aB e c c1 c2 level most a p p1 p2 p3 p4 k)
def C.ad3{aB:zab}(eX:S.fC.ok X0 λx=>eH aB x.1.2.1 x.2.1.1 x.2.1.2.1 x.2.1.2.2.1 x.2.1.va.1):S.Vw.ok X0 λx=>eH (M.nC aB) x.1.2.1 x.1.2.2.1 x.1.va.1 x.2.1.1 x.2.1.2.1 x.2.1.2.2.1 x.2.1.va.1 some:=fnS (λx=>zbI (M.nC aB x.1.2.1.1 x.1.2.1.2.1 x.1.2.1.2.2.1 x.1.2.1.va.1 x.1.2.1.va.2.1 x.1.2.2.1 x.1.va.1) x.2.1) [fe C.sZ,fe C.kG,fe C.bF,fe eX] [F.jo eX] (by intros;unfold M.nC M.oU;exact zbJ)
def M.H6(aB:zab)(p:Int)(p1 p2 p3 p4:Bool)(c:au)(c1:Int)(c2:Bool)(c3:au)(k:Bool×au×Bool×au×Int×Bool×au->Option R):=(M.bF p p1 p2 p3 p4 13).bind λd=>cond (aj c3) ((aB d.1 d.2.1 d.2.2.1 d.2.2.2.1 d.2.2.2.2 c c1 c2 c3).bind λa=>cond a.2.2.2.2.2.1 (cond (aj a.2.2.2.2.2.2) (k (false,aF a.2.1,a.2.2)) none) (cond (aj a.2.2.2.2.2.2) ((M.aV a.2.2.2.1 a.2.2.2.2.1 a.2.2.2.2.2.1 a.2.2.2.2.2.2).bind λf=>cond (f.1 !=60) (cond (aj f.2.2.2.2) (k (false,aF a.2.1,a.2.2.1,f.2)) none) (cond (aj f.2.2.2.2) ((M.bf 60 f.2.1 f.2.2.1 f.2.2.2.1 f.2.2.2.2).bind λg=>(M.bF p p1 p2 p3 p4 11).bind λe=>cond (aj g.2.2.2.2.2.2) ((aB e.1 e.2.1 e.2.2.1 e.2.2.2.1 e.2.2.2.2 g.2.2.2.1 g.2.2.2.2.1 g.2.2.2.2.2.1 g.2.2.2.2.2.2).bind λb=>(M.bW 12 60 [] [] [] (aF [[D.sl false 5 (aF a.2.1)],[D.sl false 5 (aF b.2.1)]])).bind λh=>cond (aj b.2.2.2.2.2.2) (k (false,aF h.2.1,h.2.2,b.2.2.2)) none) none) none)) none)) none
def C.ahR{aB:zab}(eX:S.fC.ok X0 λx=>eH aB x.1.2.1 x.2.1.1 x.2.1.2.1 x.2.1.2.2.1 x.2.1.va.1):S.U0.ok X0 λx=>eH (M.H6 aB) x.1.2.1 x.2.1.1 x.2.1.2.1 x.2.1.2.2.1 x.2.1.va.1 some:=fnS (λx=>zbI (M.H6 aB x.1.2.1.1 x.1.2.1.2.1 x.1.2.1.2.2.1 x.1.2.1.va.1 x.1.2.1.va.2.1) x.2.1) [fe C.bF,fe eX,fe C.aV,fe C.bf,fe C.bW] [] (by intros;unfold M.H6;exact zbJ)
abbrev M.EZ(OC:Int×au×Int×Bool×au)(p:Int)(p1 p2 p3 p4:Bool)(aB:zab)(k:Bool×au×Bool×au×Int×Bool×au->Option R):=cond (aj OC.2.2.2.2) ((M.bf OC.1 OC.2.1 OC.2.2.1 OC.2.2.2.1 OC.2.2.2.2).bind λb=>(M.bF p p1 p2 p3 p4 11).bind λc=>cond (aj b.2.2.2.2.2.2) ((aB c.1 c.2.1 c.2.2.1 c.2.2.2.1 c.2.2.2.2 b.2.2.2.1 b.2.2.2.2.1 b.2.2.2.2.2.1 b.2.2.2.2.2.2).bind λa=>(M.bW 11 OC.1 [] [] [] (aF [[D.sl false 5 (aF a.2.1)]])).bind λd=>cond (aj a.2.2.2.2.2.2) (k (false,aF d.2.1,d.2.2,a.2.2.2)) none) none) none
def M.BG(aB:zab)(oL:zab)(p:Int)(p1 p2 p3 p4:Bool)(c:au)(c1:Int)(c2:Bool)(c3:au)(k:Bool×au×Bool×au×Int×Bool×au->Option R):=cond (aj c3) ((M.aV c c1 c2 c3).bind λb=>cond (b.1==56) (M.EZ b p p1 p2 p3 p4 aB k) (cond (b.1==55) (M.EZ b p p1 p2 p3 p4 aB k) (cond (b.1==61) (M.EZ b p p1 p2 p3 p4 aB k) (cond (aj b.2.2.2.2) ((oL p p1 p2 p3 p4 b.2.1 b.2.2.1 b.2.2.2.1 b.2.2.2.2).bind λa=>cond (aj a.2.2.2.2.2.2) (k (false,aF a.2.1,a.2.2)) none) none)))) none
def C.ad4{aB:zab}{oL:zab}(eX:S.fC.ok X0 λx=>eH aB x.1.2.1 x.2.1.1 x.2.1.2.1 x.2.1.2.2.1 x.2.1.va.1)(VD:S.U0.ok X0 λx=>eH oL x.1.2.1 x.2.1.1 x.2.1.2.1 x.2.1.2.2.1 x.2.1.va.1):S.Vx.ok X0 λx=>eH (M.BG aB oL) x.1.2.1 x.2.1.1 x.2.1.2.1 x.2.1.2.2.1 x.2.1.va.1 some:=fnS (λx=>zbI (M.BG aB oL x.1.2.1.1 x.1.2.1.2.1 x.1.2.1.2.2.1 x.1.2.1.va.1 x.1.2.1.va.2.1) x.2.1) [fe C.aV,fe C.bf,fe C.bF,fe eX,fe C.bW,fe VD] [] (by intros;unfold M.BG M.EZ;exact zbJ)
def M.E5(oM:zab)(aB:zab)(p:Int)(p1 p2 p3 p4:Bool)(c:au)(c1:Int)(c2:Bool)(c3:au)(k:Bool×au×Bool×au×Int×Bool×au->Option R):=cond (aj c3) ((M.aV c c1 c2 c3).bind λe=>(M.kR e.1).bind λl=>cond l (cond (aj e.2.2.2.2) ((oM p p1 p2 p3 p4 e.2.1 e.2.2.1 e.2.2.2.1 e.2.2.2.2).bind λb=>cond (aj b.2.2.2.2.2.2) (k (false,aF b.2.1,b.2.2)) none) none) ((M.bF p p1 p2 p3 p4 14).bind λf=>cond (aj e.2.2.2.2) ((aB f.1 f.2.1 f.2.2.1 f.2.2.2.1 f.2.2.2.2 e.2.1 e.2.2.1 e.2.2.2.1 e.2.2.2.2).bind λd=>cond (aj d.2.2.2.2.2.2) ((M.aV d.2.2.2.1 d.2.2.2.2.1 d.2.2.2.2.2.1 d.2.2.2.2.2.2).bind λa=>cond a.2.2.2.1 (cond (aj a.2.2.2.2) (k (false,aF d.2.1,d.2.2.1,a.2)) none) ((M.kR a.1).bind λi=>cond (!i) (cond (aj a.2.2.2.2) (k (false,aF d.2.1,d.2.2.1,a.2)) none) ((M.zF (aF d.2.1) d.2.2.1).bind λj=>cond (!j) (cond (aj a.2.2.2.2) (k (false,aF d.2.1,d.2.2.1,a.2)) none) (cond (aj a.2.2.2.2) ((M.bf a.1 a.2.1 a.2.2.1 a.2.2.2.1 a.2.2.2.2).bind λg=>(M.bW 10 a.1 [] [] [] (aF [[D.sl false 5 (aF d.2.1)]])).bind λh=>cond (aj g.2.2.2.2.2.2) (k (false,aF h.2.1,h.2.2,g.2.2.2)) none) none)))) none) none)) none
def C.afC{oM:zab}{aB:zab}(VE:S.ql.ok X0 λx=>eH oM x.1.2.1 x.2.1.1 x.2.1.2.1 x.2.1.2.2.1 x.2.1.va.1)(eX:S.fC.ok X0 λx=>eH aB x.1.2.1 x.2.1.1 x.2.1.2.1 x.2.1.2.2.1 x.2.1.va.1):S.Xj.ok X0 λx=>eH (M.E5 oM aB) x.1.2.1 x.2.1.1 x.2.1.2.1 x.2.1.2.2.1 x.2.1.va.1 some:=fnS (λx=>zbI (M.E5 oM aB x.1.2.1.1 x.1.2.1.2.1 x.1.2.1.2.2.1 x.1.2.1.va.1 x.1.2.1.va.2.1) x.2.1) [fe C.aV,fe C.kR,fe VE,fe C.bF,fe eX,fe C.zF,fe C.bf,fe C.bW] [] (by intros;unfold M.E5;exact zbJ)
abbrev M.OD(kind:Int)(c:au)(c1:Int)(c2:Bool)(c3:au)(k:Bool×au×Bool×au×Int×Bool×au->Option R):=(idx c c1).bind λb=>(dG .i64 b 0).bind λd=>cond (aj c3) ((M.bf d c c1 c2 c3).bind λa=>cond (aj a.2.2.2.2.2.2) (k (true,[[D.int .i64 kind,D.int .i64 0,D.str a.2.1,D.str [],D.sl true 1 []]],false,a.2.2.2)) none) none
def M.xq kind c c1 c2 c3:=M.OD kind c c1 c2 c3 some
def C.xq:=fTa S.xq (λx=>zbI (M.OD x.1.2.1) x.2.1) [fe C.bf]
def M.E8(bQ:zah)(c:au)(c1:Int)(c2:Bool)(c3:au)(k:Bool×au×Bool×au×Int×Bool×au->Option R):=cond (aj c3) ((M.bf 6 c c1 c2 c3).bind λa=>cond (aj a.2.2.2.2.2.2) ((M.aV a.2.2.2.1 a.2.2.2.2.1 a.2.2.2.2.2.1 a.2.2.2.2.2.2).bind λe=>cond (e.1 !=34) (cond (aj e.2.2.2.2) (k (true,[[D.int .i64 1,D.int .i64 0,D.str a.2.1,D.str [],D.sl true 1 []]],false,e.2)) none) (cond (aj e.2.2.2.2) ((M.bf 34 e.2.1 e.2.2.1 e.2.2.2.1 e.2.2.2.2).bind λd=>cond (aj d.2.2.2.2.2.2) ((bQ 35 1 d.2.2.2.1 d.2.2.2.2.1 d.2.2.2.2.2.1 d.2.2.2.2.2.2).bind λb=>(M.dW 5 0 a.2.1 [] [] (aF b.2.1)).bind λf=>cond (aj b.2.2.2.2.2) (k (false,aF f,false,b.2.2)) none) none) none)) none) none
def C.afD{bQ:zah}(AB:S.JO.ok X0 λx=>bQ x.1.2.1 x.1.2.2.1 x.2.1.1 x.2.1.2.1 x.2.1.2.2.1 x.2.1.va.1):S.Xk.ok X0 λx=>M.E8 bQ x.2.1.1 x.2.1.2.1 x.2.1.2.2.1 x.2.1.va.1 some:=fnS (λx=>zbI (M.E8 bQ) x.2.1) [fe C.bf,fe C.aV,fe AB,fe C.dW] [] (by intros;unfold M.E8;exact zbJ)
abbrev M.BH(ahV:Int×aI×Int×au×Int×Bool×au)(bQ:zah)(kind:Int)(Rw:Int×aI×Int×au×Int×Bool×au)(k:Bool×au×Bool×au×Int×Bool×au->Option R):=cond (aj ahV.2.2.2.2.2.2) ((bQ 33 0 ahV.2.2.2.1 ahV.2.2.2.2.1 ahV.2.2.2.2.2.1 ahV.2.2.2.2.2.2).bind λa=>(M.dW kind 0 Rw.2.1 [] [] (aF a.2.1)).bind λb=>cond (aj a.2.2.2.2.2) (k (false,aF b,false,a.2.2)) none) none
def M.AO(bQ:zah)(kind:Int)(c:au)(c1:Int)(c2:Bool)(c3:au)(k:Bool×au×Bool×au×Int×Bool×au->Option R):=cond (aj c3) ((M.aV c c1 c2 c3).bind λd=>cond (aj d.2.2.2.2) ((M.bf d.1 d.2.1 d.2.2.1 d.2.2.2.1 d.2.2.2.2).bind λb=>cond (kind==8) (cond (aj b.2.2.2.2.2.2) ((M.aV b.2.2.2.1 b.2.2.2.2.1 b.2.2.2.2.2.1 b.2.2.2.2.2.2).bind λa=>cond (a.1 !=32) (cond (b.2.1==[108,101,110,103,116,104]) (cond (aj a.2.2.2.2) (k (true,[[D.int .i64 kind,D.int .i64 0,D.str b.2.1,D.str [],D.sl true 1 []]],false,a.2)) none) (cond (aj a.2.2.2.2) ((M.bf 32 a.2.1 a.2.2.1 a.2.2.2.1 a.2.2.2.2).bind λg=>M.BH g bQ kind b k) none)) (cond (aj a.2.2.2.2) ((M.bf 32 a.2.1 a.2.2.1 a.2.2.2.1 a.2.2.2.2).bind λf=>M.BH f bQ kind b k) none)) none) (cond (aj b.2.2.2.2.2.2) ((M.bf 32 b.2.2.2.1 b.2.2.2.2.1 b.2.2.2.2.2.1 b.2.2.2.2.2.2).bind λe=>M.BH e bQ kind b k) none)) none) none
def C.afE{bQ:zah}(AB:S.JO.ok X0 λx=>bQ x.1.2.1 x.1.2.2.1 x.2.1.1 x.2.1.2.1 x.2.1.2.2.1 x.2.1.va.1):S.Xl.ok X0 λx=>M.AO bQ x.1.2.1 x.2.1.1 x.2.1.2.1 x.2.1.2.2.1 x.2.1.va.1 some:=fnS (λx=>zbI (M.AO bQ x.1.2.1) x.2.1) [fe C.aV,fe C.bf,fe AB,fe C.dW] [] (by intros;unfold M.AO M.BH;exact zbJ)
def M.yC(E9:zal)(zQ:zau)(aB:zab)(c:au)(c1:Int)(c2:Bool)(c3:au)(k:Bool×au×Bool×au×Int×Bool×au->Option R):=cond c2 (cond (aj c3) (k (true,[],false,c,c1,c2,c3)) none) (cond (aj c3) ((M.aV c c1 c2 c3).bind λa=>cond (a.1==3) (cond (aj a.2.2.2.2) ((M.xq 2 a.2.1 a.2.2.1 a.2.2.2.1 a.2.2.2.2).bind λe=>cond (aj e.2.2.2.2.2.2) (k (false,aF e.2.1,e.2.2)) none) none) (cond (a.1==4) (cond (aj a.2.2.2.2) ((M.xq 3 a.2.1 a.2.2.1 a.2.2.2.1 a.2.2.2.2).bind λg=>cond (aj g.2.2.2.2.2.2) (k (false,aF g.2.1,g.2.2)) none) none) (cond (a.1==5) (cond (aj a.2.2.2.2) ((M.xq 4 a.2.1 a.2.2.1 a.2.2.2.1 a.2.2.2.2).bind λd=>cond (aj d.2.2.2.2.2.2) (k (false,aF d.2.1,d.2.2)) none) none) (cond (a.1==6) (cond (aj a.2.2.2.2) ((E9 a.2.1 a.2.2.1 a.2.2.2.1 a.2.2.2.2).bind λb=>cond (aj b.2.2.2.2.2.2) (k (false,aF b.2.1,b.2.2)) none) none) (cond (a.1==7) (cond (aj a.2.2.2.2) ((zQ 7 a.2.1 a.2.2.1 a.2.2.2.1 a.2.2.2.2).bind λh=>cond (aj h.2.2.2.2.2.2) (k (false,aF h.2.1,h.2.2)) none) none) (cond (a.1==8) (cond (aj a.2.2.2.2) ((zQ 8 a.2.1 a.2.2.1 a.2.2.2.1 a.2.2.2.2).bind λf=>cond (aj f.2.2.2.2.2.2) (k (false,aF f.2.1,f.2.2)) none) none) (cond (aj a.2.2.2.2) ((M.bf 32 a.2.1 a.2.2.1 a.2.2.2.1 a.2.2.2.2).bind λl=>M.fO.bind λj=>cond (aj l.2.2.2.2.2.2) ((aB j.1 j.2.1 j.2.2.1 j.2.2.2.1 j.2.2.2.2 l.2.2.2.1 l.2.2.2.2.1 l.2.2.2.2.2.1 l.2.2.2.2.2.2).bind λi=>cond (aj i.2.2.2.2.2.2) ((M.bf 33 i.2.2.2.1 i.2.2.2.2.1 i.2.2.2.2.2.1 i.2.2.2.2.2.2).bind λm=>cond (aj m.2.2.2.2.2.2) (k (false,aF i.2.1,true,m.2.2.2)) none) none) none) none))))))) none)
def C.abG{E9:zal}{zQ:zau}{aB:zab}(ah2:S.Xk.ok X0 λx=>E9 x.2.1.1 x.2.1.2.1 x.2.1.2.2.1 x.2.1.va.1)(ah3:S.Xl.ok X0 λx=>zQ x.1.2.1 x.2.1.1 x.2.1.2.1 x.2.1.2.2.1 x.2.1.va.1)(eX:S.fC.ok X0 λx=>eH aB x.1.2.1 x.2.1.1 x.2.1.2.1 x.2.1.2.2.1 x.2.1.va.1):S.Lu.ok X0 λx=>M.yC E9 zQ aB x.2.1.1 x.2.1.2.1 x.2.1.2.2.1 x.2.1.va.1 some:=fnS (λx=>zbI (M.yC E9 zQ aB) x.2.1) [fe C.aV,fe C.xq,fe ah2,fe ah3,fe C.bf,fe C.fO,fe eX] [] (by intros;unfold M.yC;exact zbJ)
def M.BI(jI:zal)(oM:zab)(aB:zab)(p:Int)(p1 p2 p3 p4:Bool)(c:au)(c1:Int)(c2:Bool)(c3:au)(k:Bool×au×Bool×au×Int×Bool×au->Option R):=cond (aj c3) ((M.aV c c1 c2 c3).bind λf=>cond (f.1 !=68) (cond (aj f.2.2.2.2) ((jI f.2.1 f.2.2.1 f.2.2.2.1 f.2.2.2.2).bind λa=>cond (aj a.2.2.2.2.2.2) (k (false,aF a.2.1,a.2.2)) none) none) (cond (aj f.2.2.2.2) ((M.bf 68 f.2.1 f.2.2.1 f.2.2.2.1 f.2.2.2.2).bind λg=>cond (aj g.2.2.2.2.2.2) ((M.aV g.2.2.2.1 g.2.2.2.2.1 g.2.2.2.2.2.1 g.2.2.2.2.2.2).bind λh=>(M.kR h.1).bind λl=>cond l (cond (aj h.2.2.2.2) ((oM p p1 p2 p3 p4 h.2.1 h.2.2.1 h.2.2.2.1 h.2.2.2.2).bind λd=>(M.bW 6 0 [] [] [] (aF [[D.sl false 5 (aF d.2.1)]])).bind λj=>cond (aj d.2.2.2.2.2.2) (k (false,aF j.2.1,j.2.2,d.2.2.2)) none) none) ((M.bF p p1 p2 p3 p4 14).bind λe=>cond (aj h.2.2.2.2) ((aB e.1 e.2.1 e.2.2.1 e.2.2.2.1 e.2.2.2.2 h.2.1 h.2.2.1 h.2.2.2.1 h.2.2.2.2).bind λb=>(M.bW 6 0 [] [] [] (aF [[D.sl false 5 (aF b.2.1)]])).bind λi=>cond (aj b.2.2.2.2.2.2) (k (false,aF i.2.1,i.2.2,b.2.2.2)) none) none)) none) none)) none
def C.ad5{jI:zal}{oM:zab}{aB:zab}(OE:S.Lu.ok X0 λx=>jI x.2.1.1 x.2.1.2.1 x.2.1.2.2.1 x.2.1.va.1)(VE:S.ql.ok X0 λx=>eH oM x.1.2.1 x.2.1.1 x.2.1.2.1 x.2.1.2.2.1 x.2.1.va.1)(eX:S.fC.ok X0 λx=>eH aB x.1.2.1 x.2.1.1 x.2.1.2.1 x.2.1.2.2.1 x.2.1.va.1):S.Vy.ok X0 λx=>eH (M.BI jI oM aB) x.1.2.1 x.2.1.1 x.2.1.2.1 x.2.1.2.2.1 x.2.1.va.1 some:=fnS (λx=>zbI (M.BI jI oM aB x.1.2.1.1 x.1.2.1.2.1 x.1.2.1.2.2.1 x.1.2.1.va.1 x.1.2.1.va.2.1) x.2.1) [fe C.aV,fe OE,fe C.bf,fe C.kR,fe VE,fe C.bW,fe C.bF,fe eX] [] (by intros;unfold M.BI;exact zbJ)
abbrev M.gI(c3:au)(jq:zaq)(p:Int)(p1 p2 p3 p4:Bool)(c:au)(c1:Int)(c2:Bool)(k:Bool×au×Bool×au×Int×Bool×au->Option R):=cond (aj c3) ((jq p p1 p2 p3 p4 p 3000 c c1 c2 c3).bind λa=>cond (aj a.2.2.2.2.2.2) (k (false,aF a.2.1,a.2.2)) none) none
def M.je(AQ:zab)(Fa:zab)(Jy:zab)(jq:zaq)(Dk:zab)(oL:zab)(Fb:zab)(Dl:zab)(jI:zal)(p:Int)(p1 p2 p3 p4:Bool)(c:au)(c1:Int)(c2:Bool)(c3:au)(k:Bool×au×Bool×au×Int×Bool×au->Option R):=cond c2 (cond (aj c3) (k (true,[],false,c,c1,c2,c3)) none) (cond (p==1) (cond (aj c3) ((AQ p p1 p2 p3 p4 c c1 c2 c3).bind λh=>cond (aj h.2.2.2.2.2.2) (k (false,aF h.2.1,h.2.2)) none) none) (cond (p==2) (cond (aj c3) ((Fa p p1 p2 p3 p4 c c1 c2 c3).bind λe=>cond (aj e.2.2.2.2.2.2) (k (false,aF e.2.1,e.2.2)) none) none) (cond (p==5) (cond (aj c3) ((Jy p p1 p2 p3 p4 c c1 c2 c3).bind λb=>cond (aj b.2.2.2.2.2.2) (k (false,aF b.2.1,b.2.2)) none) none) (cond (p==6) (cond (aj c3) ((jq p p1 p2 p3 p4 p 1 c c1 c2 c3).bind λd=>cond (aj d.2.2.2.2.2.2) (k (false,aF d.2.1,d.2.2)) none) none) (cond (p==7) (cond (aj c3) ((jq p p1 p2 p3 p4 p 1 c c1 c2 c3).bind λf=>cond (aj f.2.2.2.2.2.2) (k (false,aF f.2.1,f.2.2)) none) none) (cond (p==3) (M.gI c3 jq p p1 p2 p3 p4 c c1 c2 k) (cond (p==4) (M.gI c3 jq p p1 p2 p3 p4 c c1 c2 k) (cond (p==8) (M.gI c3 jq p p1 p2 p3 p4 c c1 c2 k) (cond (p==9) (M.gI c3 jq p p1 p2 p3 p4 c c1 c2 k) (cond (p==10) (M.gI c3 jq p p1 p2 p3 p4 c c1 c2 k) (cond (p==11) (cond (aj c3) ((Dk p p1 p2 p3 p4 c c1 c2 c3).bind λl=>cond (aj l.2.2.2.2.2.2) (k (false,aF l.2.1,l.2.2)) none) none) (cond (p==12) (cond (aj c3) ((oL p p1 p2 p3 p4 c c1 c2 c3).bind λg=>cond (aj g.2.2.2.2.2.2) (k (false,aF g.2.1,g.2.2)) none) none) (cond (p==13) (cond (aj c3) ((Fb p p1 p2 p3 p4 c c1 c2 c3).bind λi=>cond (aj i.2.2.2.2.2.2) (k (false,aF i.2.1,i.2.2)) none) none) (cond (p==14) (cond (aj c3) ((Dl p p1 p2 p3 p4 c c1 c2 c3).bind λj=>cond (aj j.2.2.2.2.2.2) (k (false,aF j.2.1,j.2.2)) none) none) (cond (aj c3) ((jI c c1 c2 c3).bind λa=>cond (aj a.2.2.2.2.2.2) (k (false,aF a.2.1,a.2.2)) none) none)))))))))))))))
def C.ajM{AQ:zab}{Fa:zab}{Jy:zab}{jq:zaq}{Dk:zab}{oL:zab}{Fb:zab}{Dl:zab}{jI:zal}(ad6:S.Ui.ok X0 λx=>eH AQ x.1.2.1 x.2.1.1 x.2.1.2.1 x.2.1.2.2.1 x.2.1.va.1)(aij:S.Xi.ok X0 λx=>eH Fa x.1.2.1 x.2.1.1 x.2.1.2.1 x.2.1.2.2.1 x.2.1.va.1)(amn:S.abj.ok X0 λx=>eH Jy x.1.2.1 x.2.1.1 x.2.1.2.1 x.2.1.2.2.1 x.2.1.va.1)(afF:S.Vw.ok X0 λx=>eH jq x.1.2.1 x.1.2.2.1 x.1.va.1 x.2.1.1 x.2.1.2.1 x.2.1.2.2.1 x.2.1.va.1)(afG:S.Vx.ok X0 λx=>eH Dk x.1.2.1 x.2.1.1 x.2.1.2.1 x.2.1.2.2.1 x.2.1.va.1)(VD:S.U0.ok X0 λx=>eH oL x.1.2.1 x.2.1.1 x.2.1.2.1 x.2.1.2.2.1 x.2.1.va.1)(aik:S.Xj.ok X0 λx=>eH Fb x.1.2.1 x.2.1.1 x.2.1.2.1 x.2.1.2.2.1 x.2.1.va.1)(afH:S.Vy.ok X0 λx=>eH Dl x.1.2.1 x.2.1.1 x.2.1.2.1 x.2.1.2.2.1 x.2.1.va.1)(OE:S.Lu.ok X0 λx=>jI x.2.1.1 x.2.1.2.1 x.2.1.2.2.1 x.2.1.va.1):S.fC.ok X0 λx=>eH (M.je AQ Fa Jy jq Dk oL Fb Dl jI) x.1.2.1 x.2.1.1 x.2.1.2.1 x.2.1.2.2.1 x.2.1.va.1 some:=fnS (λx=>zbI (M.je AQ Fa Jy jq Dk oL Fb Dl jI x.1.2.1.1 x.1.2.1.2.1 x.1.2.1.2.2.1 x.1.2.1.va.1 x.1.2.1.va.2.1) x.2.1) [fe ad6,fe aij,fe amn,fe afF,fe afG,fe VD,fe aik,fe afH,fe OE] [] (by intros;unfold M.je M.gI;exact zbJ)
abbrev M.OG(p:Int)(p1 p2 p3 p4:Bool)(XP:Int×au×Int×Bool×au)(aB:zab)(Zg:Int×au×Int×Bool×au)(k:Bool×au×Bool×au×Int×Bool×au->Option R):=(M.bF p p1 p2 p3 p4 14).bind λb=>cond (aj XP.2.2.2.2) ((aB b.1 b.2.1 b.2.2.1 b.2.2.2.1 b.2.2.2.2 XP.2.1 XP.2.2.1 XP.2.2.2.1 XP.2.2.2.2).bind λa=>(M.bW 9 Zg.1 [] [] [] (aF [[D.sl false 5 (aF a.2.1)]])).bind λc=>cond (aj a.2.2.2.2.2.2) (k (false,aF c.2.1,c.2.2,a.2.2.2)) none) none
def M.H7(aB:zab)(p:Int)(p1 p2 p3 p4:Bool)(c:au)(c1:Int)(c2:Bool)(c3:au)(k:Bool×au×Bool×au×Int×Bool×au->Option R):=cond (aj c3) ((M.aV c c1 c2 c3).bind λf=>cond (aj f.2.2.2.2) ((M.bf f.1 f.2.1 f.2.2.1 f.2.2.2.1 f.2.2.2.2).bind λe=>cond (aj e.2.2.2.2.2.2) ((M.aV e.2.2.2.1 e.2.2.2.2.1 e.2.2.2.2.2.1 e.2.2.2.2.2.2).bind λa=>cond (a.1 !=6) (cond (aj a.2.2.2.2) ((M.aV a.2.1 a.2.2.1 a.2.2.2.1 a.2.2.2.2).bind λg=>cond (g.1 !=68) ((M.bF p p1 p2 p3 p4 14).bind λd=>cond (aj g.2.2.2.2) ((aB d.1 d.2.1 d.2.2.1 d.2.2.2.1 d.2.2.2.2 g.2.1 g.2.2.1 true g.2.2.2.2).bind λb=>(M.bW 9 f.1 [] [] [] (aF [[D.sl false 5 (aF b.2.1)]])).bind λh=>cond (aj b.2.2.2.2.2.2) (k (false,aF h.2.1,h.2.2,b.2.2.2)) none) none) (M.OG p p1 p2 p3 p4 g aB f k)) none) (M.OG p p1 p2 p3 p4 a aB f k)) none) none) none
def C.ain{aB:zab}(eX:S.fC.ok X0 λx=>eH aB x.1.2.1 x.2.1.1 x.2.1.2.1 x.2.1.2.2.1 x.2.1.va.1):S.ql.ok X0 λx=>eH (M.H7 aB) x.1.2.1 x.2.1.1 x.2.1.2.1 x.2.1.2.2.1 x.2.1.va.1 some:=fnS (λx=>zbI (M.H7 aB x.1.2.1.1 x.1.2.1.2.1 x.1.2.1.2.2.1 x.1.2.1.va.1 x.1.2.1.va.2.1) x.2.1) [fe C.aV,fe C.bf,fe C.bF,fe eX,fe C.bW] [] (by intros;unfold M.H7 M.OG;exact zbJ)
end
noncomputable section
variable {R:Type}
def M.iI:Nat->(zab)×(zab)×(zab)×(zah)×(zab)×(zaq)×(zab)×(zab)×(zab)×(zal)×(zau)×(zal)×(zab)×(zab):=Nat.rec (λ_ _ _ _ _ _ _ _ _=>none,λ_ _ _ _ _ _ _ _ _=>none,λ_ _ _ _ _ _ _ _ _=>none,λ_ _ _ _ _ _=>none,λ_ _ _ _ _ _ _ _ _=>none,λ_ _ _ _ _ _ _ _ _ _ _=>none,λ_ _ _ _ _ _ _ _ _=>none,λ_ _ _ _ _ _ _ _ _=>none,λ_ _ _ _ _ _ _ _ _=>none,λ_ _ _ _=>none,λ_ _ _ _ _=>none,λ_ _ _ _=>none,λ_ _ _ _ _ _ _ _ _=>none,λ_ _ _ _ _ _ _ _ _=>none) λ_ qz=>(λp p1 p2 p3 p4 c c1 c2 c3=>M.H7 qz.2.2.2.2.2.2.2.2.2.2.2.2.2 p p1 p2 p3 p4 c c1 c2 c3 some,λp p1 p2 p3 p4 c c1 c2 c3=>M.zO qz.2.2.2.2.2.2.2.2.2.2.2.2.2 p p1 p2 p3 p4 c c1 c2 c3 some,λp p1 p2 p3 p4 c c1 c2 c3=>M.EY qz.2.2.2.2.2.2.2.2.2.2.2.2.2 p p1 p2 p3 p4 c c1 c2 c3 some,λend' least c c1 c2 c3=>M.xZ qz.2.2.2.2.2.2.2.2.2.2.2.2.2 end' least c c1 c2 c3 some,λp p1 p2 p3 p4 c c1 c2 c3=>M.Kw qz.2.2.2.1 qz.2.2.2.2.2.2.2.2.2.2.2.2.2 p p1 p2 p3 p4 c c1 c2 c3 some,λp p1 p2 p3 p4 level most c c1 c2 c3=>M.nC qz.2.2.2.2.2.2.2.2.2.2.2.2.2 p p1 p2 p3 p4 level most c c1 c2 c3 some,λp p1 p2 p3 p4 c c1 c2 c3=>M.H6 qz.2.2.2.2.2.2.2.2.2.2.2.2.2 p p1 p2 p3 p4 c c1 c2 c3 some,λp p1 p2 p3 p4 c c1 c2 c3=>M.BG qz.2.2.2.2.2.2.2.2.2.2.2.2.2 qz.2.2.2.2.2.2.1 p p1 p2 p3 p4 c c1 c2 c3 some,λp p1 p2 p3 p4 c c1 c2 c3=>M.E5 qz.1 qz.2.2.2.2.2.2.2.2.2.2.2.2.2 p p1 p2 p3 p4 c c1 c2 c3 some,λc c1 c2 c3=>M.E8 qz.2.2.2.1 c c1 c2 c3 some,λkind c c1 c2 c3=>M.AO qz.2.2.2.1 kind c c1 c2 c3 some,λc c1 c2 c3=>M.yC qz.2.2.2.2.2.2.2.2.2.1 qz.2.2.2.2.2.2.2.2.2.2.1 qz.2.2.2.2.2.2.2.2.2.2.2.2.2 c c1 c2 c3 some,λp p1 p2 p3 p4 c c1 c2 c3=>M.BI qz.2.2.2.2.2.2.2.2.2.2.2.1 qz.1 qz.2.2.2.2.2.2.2.2.2.2.2.2.2 p p1 p2 p3 p4 c c1 c2 c3 some,λp p1 p2 p3 p4 c c1 c2 c3=>M.je qz.2.1 qz.2.2.1 qz.2.2.2.2.1 qz.2.2.2.2.2.1 qz.2.2.2.2.2.2.2.1 qz.2.2.2.2.2.2.1 qz.2.2.2.2.2.2.2.2.1 qz.2.2.2.2.2.2.2.2.2.2.2.2.1 qz.2.2.2.2.2.2.2.2.2.2.2.1 p p1 p2 p3 p4 c c1 c2 c3 some)
def M.zJ n:=(M.iI n).1
def M.Ky n:=(M.iI n).2.1
def M.OH n:=(M.iI n).2.2.1
def M.qx n:=(M.iI n).2.2.2.1
def M.Tz n:=(M.iI n).2.2.2.2.1
def M.qE n:=(M.iI n).2.2.2.2.2.1
def M.H8 n:=(M.iI n).2.2.2.2.2.2.1
def M.Md n:=(M.iI n).2.2.2.2.2.2.2.1
def M.OI n:=(M.iI n).2.2.2.2.2.2.2.2.1
def M.OJ n:=(M.iI n).2.2.2.2.2.2.2.2.2.1
def M.Ut n:=(M.iI n).2.2.2.2.2.2.2.2.2.2.1
def M.yD n:=(M.iI n).2.2.2.2.2.2.2.2.2.2.2.1
def M.Me n:=(M.iI n).2.2.2.2.2.2.2.2.2.2.2.2.1
def M.aY n:=(M.iI n).2.2.2.2.2.2.2.2.2.2.2.2.2
def M.ajN(n:Nat):M.zJ (n+1)=λp p1 p2 p3 p4 c c1 c2 c3=>M.H7 (M.aY n) p p1 p2 p3 p4 c c1 c2 c3 some:=rfl
def M.ad7(n:Nat):M.Ky (n+1)=λp p1 p2 p3 p4 c c1 c2 c3=>M.zO (M.aY n) p p1 p2 p3 p4 c c1 c2 c3 some:=rfl
def M.aio(n:Nat):M.OH (n+1)=λp p1 p2 p3 p4 c c1 c2 c3=>M.EY (M.aY n) p p1 p2 p3 p4 c c1 c2 c3 some:=rfl
def M.Uu(n:Nat):M.qx (n+1)=λend' least c c1 c2 c3=>M.xZ (M.aY n) end' least c c1 c2 c3 some:=rfl
def M.amo(n:Nat):M.Tz (n+1)=λp p1 p2 p3 p4 c c1 c2 c3=>M.Kw (M.qx n) (M.aY n) p p1 p2 p3 p4 c c1 c2 c3 some:=rfl
def M.yS(n:Nat):M.qE (n+1)=λp p1 p2 p3 p4 level most c c1 c2 c3=>M.nC (M.aY n) p p1 p2 p3 p4 level most c c1 c2 c3 some:=rfl
def M.ajO(n:Nat):M.H8 (n+1)=λp p1 p2 p3 p4 c c1 c2 c3=>M.H6 (M.aY n) p p1 p2 p3 p4 c c1 c2 c3 some:=rfl
def M.afI(n:Nat):M.Md (n+1)=λp p1 p2 p3 p4 c c1 c2 c3=>M.BG (M.aY n) (M.H8 n) p p1 p2 p3 p4 c c1 c2 c3 some:=rfl
def M.aip(n:Nat):M.OI (n+1)=λp p1 p2 p3 p4 c c1 c2 c3=>M.E5 (M.zJ n) (M.aY n) p p1 p2 p3 p4 c c1 c2 c3 some:=rfl
def M.aiq(n:Nat):M.OJ (n+1)=λc c1 c2 c3=>M.E8 (M.qx n) c c1 c2 c3 some:=rfl
def M.Zh(n:Nat):M.Ut (n+1)=λkind c c1 c2 c3=>M.AO (M.qx n) kind c c1 c2 c3 some:=rfl
def M.acK(n:Nat):M.yD (n+1)=λc c1 c2 c3=>M.yC (M.OJ n) (M.Ut n) (M.aY n) c c1 c2 c3 some:=rfl
def M.afJ(n:Nat):M.Me (n+1)=λp p1 p2 p3 p4 c c1 c2 c3=>M.BI (M.yD n) (M.zJ n) (M.aY n) p p1 p2 p3 p4 c c1 c2 c3 some:=rfl
def M.mY(n:Nat):M.aY (n+1)=λp p1 p2 p3 p4 c c1 c2 c3=>M.je (M.Ky n) (M.OH n) (M.Tz n) (M.qE n) (M.Md n) (M.H8 n) (M.OI n) (M.Me n) (M.yD n) p p1 p2 p3 p4 c c1 c2 c3 some:=rfl
def M.ql p p1 p2 p3 p4 c c1 c2 c3:=lim λn=>M.zJ n p p1 p2 p3 p4 c c1 c2 c3
def M.fC p p1 p2 p3 p4 c c1 c2 c3:=lim λn=>M.aY n p p1 p2 p3 p4 c c1 c2 c3
def C.iI:∀n,(S.ql.ok X0 λx=>eH (M.zJ n) x.1.2.1 x.2.1.1 x.2.1.2.1 x.2.1.2.2.1 x.2.1.va.1)/\(S.Ui.ok X0 λx=>eH (M.Ky n) x.1.2.1 x.2.1.1 x.2.1.2.1 x.2.1.2.2.1 x.2.1.va.1)/\(S.Xi.ok X0 λx=>eH (M.OH n) x.1.2.1 x.2.1.1 x.2.1.2.1 x.2.1.2.2.1 x.2.1.va.1)/\(S.JO.ok X0 λx=>zbI (M.qx n x.1.2.1 x.1.2.2.1) x.2.1)/\(S.abj.ok X0 λx=>eH (M.Tz n) x.1.2.1 x.2.1.1 x.2.1.2.1 x.2.1.2.2.1 x.2.1.va.1)/\(S.Vw.ok X0 λx=>eH (M.qE n) x.1.2.1 x.1.2.2.1 x.1.va.1 x.2.1.1 x.2.1.2.1 x.2.1.2.2.1 x.2.1.va.1)/\(S.U0.ok X0 λx=>eH (M.H8 n) x.1.2.1 x.2.1.1 x.2.1.2.1 x.2.1.2.2.1 x.2.1.va.1)/\(S.Vx.ok X0 λx=>eH (M.Md n) x.1.2.1 x.2.1.1 x.2.1.2.1 x.2.1.2.2.1 x.2.1.va.1)/\(S.Xj.ok X0 λx=>eH (M.OI n) x.1.2.1 x.2.1.1 x.2.1.2.1 x.2.1.2.2.1 x.2.1.va.1)/\(S.Xk.ok X0 λx=>zbI (M.OJ n) x.2.1)/\(S.Xl.ok X0 λx=>zbI (M.Ut n x.1.2.1) x.2.1)/\(S.Lu.ok X0 λx=>zbI (M.yD n) x.2.1)/\(S.Vy.ok X0 λx=>eH (M.Me n) x.1.2.1 x.2.1.1 x.2.1.2.1 x.2.1.2.2.1 x.2.1.va.1)/\(S.fC.ok X0 λx=>eH (M.aY n) x.1.2.1 x.2.1.1 x.2.1.2.1 x.2.1.2.2.1 x.2.1.va.1)
 |0=>⟨dJ.zero,dJ.zero,dJ.zero,dJ.zero,dJ.zero,dJ.zero,dJ.zero,dJ.zero,dJ.zero,dJ.zero,dJ.zero,dJ.zero,dJ.zero,dJ.zero⟩
 |n+1=>have h:=C.iI n;⟨C.ain h.2.2.2.2.2.2.2.2.2.2.2.2.2,C.acI h.2.2.2.2.2.2.2.2.2.2.2.2.2,C.afA h.2.2.2.2.2.2.2.2.2.2.2.2.2,C.afB h.2.2.2.2.2.2.2.2.2.2.2.2.2,C.ajL h.2.2.2.1 h.2.2.2.2.2.2.2.2.2.2.2.2.2,C.ad3 h.2.2.2.2.2.2.2.2.2.2.2.2.2,C.ahR h.2.2.2.2.2.2.2.2.2.2.2.2.2,C.ad4 h.2.2.2.2.2.2.2.2.2.2.2.2.2 h.2.2.2.2.2.2.1,C.afC h.1 h.2.2.2.2.2.2.2.2.2.2.2.2.2,C.afD h.2.2.2.1,C.afE h.2.2.2.1,C.abG h.2.2.2.2.2.2.2.2.2.1 h.2.2.2.2.2.2.2.2.2.2.1 h.2.2.2.2.2.2.2.2.2.2.2.2.2,C.ad5 h.2.2.2.2.2.2.2.2.2.2.2.1 h.1 h.2.2.2.2.2.2.2.2.2.2.2.2.2,C.ajM h.2.1 h.2.2.1 h.2.2.2.2.1 h.2.2.2.2.2.1 h.2.2.2.2.2.2.2.1 h.2.2.2.2.2.2.1 h.2.2.2.2.2.2.2.2.1 h.2.2.2.2.2.2.2.2.2.2.2.2.1 h.2.2.2.2.2.2.2.2.2.2.2.1⟩
def C.ql:S.ql.ok X0 λx=>eH M.ql x.1.2.1 x.2.1.1 x.2.1.2.1 x.2.1.2.2.1 x.2.1.va.1:=dJ.lim λn=>(C.iI n).1
def M.air{n:Nat}{p:Int}{p1 p2 p3 p4:Bool}{c:au}{c1:Int}{c2:Bool}{c3:au}{r:Bool×au×Bool×au×Int×Bool×au}(h:M.zJ n p p1 p2 p3 p4 c c1 c2 c3=some r):M.ql p p1 p2 p3 p4 c c1 c2 c3=some r:=dJ.sF (λn=>(C.iI n).1) (by intro a b h;simp[S.ql,sg] at h;first|exact h|simp[Prod.ext_iff,h]) (x:=(((),(p,p1,p2,p3,p4,()),()),((c,c1,c2,c3,()),()))) h
def C.fC:S.fC.ok X0 λx=>eH M.fC x.1.2.1 x.2.1.1 x.2.1.2.1 x.2.1.2.2.1 x.2.1.va.1:=dJ.lim λn=>(C.iI n).2.2.2.2.2.2.2.2.2.2.2.2.2
def M.ajP{n:Nat}{p:Int}{p1 p2 p3 p4:Bool}{c:au}{c1:Int}{c2:Bool}{c3:au}{r:Bool×au×Bool×au×Int×Bool×au}(h:M.aY n p p1 p2 p3 p4 c c1 c2 c3=some r):M.fC p p1 p2 p3 p4 c c1 c2 c3=some r:=dJ.sF (λn=>(C.iI n).2.2.2.2.2.2.2.2.2.2.2.2.2) (by intro a b h;simp[S.fC,sg] at h;first|exact h|simp[Prod.ext_iff,h]) (x:=(((),(p,p1,p2,p3,p4,()),()),((c,c1,c2,c3,()),()))) h
abbrev M.OL(l:au)(k:Int×Int->Option R):=cond (decide ((↑l.length:Int)>400)) (k (1,0)) ((M.wY l).bind λa=>cond (decide (a>40)) (k (4,0)) (k (0,0)))
def M.zn l:=M.OL l some
def C.zn:=fTa S.zn (λx=>M.OL x.1.1) [fe C.wY]
abbrev M.Dn(ais:Bool×au×Bool×au×Int×Bool×au)(l:au)(k:Bool×au×Int×Int×Int->Option R):=cond ais.2.2.2.2.2.1 ((M.lS l ais.2.2.2.2.1 3).bind λb=>k (true,[],0,b)) ((M.zn (aF ais.2.1)).bind λa=>cond (a.1 !=0) (k (true,[],0,a)) (k (false,aF ais.2.1,ais.2.2.2.2.1,0,0)))
abbrev M.IL(p1:Bool)(l:au)(p:Int)(p2 p3 p4:Bool)(k:Bool×au×Int×Int×Int->Option R):=cond p1 ((M.aV l 0 false []).bind λa=>(M.kR a.1).bind λc=>cond c (cond (aj a.2.2.2.2) ((M.ql p p1 p2 p3 p4 a.2.1 a.2.2.1 a.2.2.2.1 a.2.2.2.2).bind λe=>M.Dn e l k) none) (cond (aj a.2.2.2.2) ((M.fC p p1 p2 p3 p4 a.2.1 a.2.2.1 a.2.2.2.1 a.2.2.2.2).bind λd=>M.Dn d l k) none)) ((M.fC p p1 p2 p3 p4 l 0 false []).bind λb=>M.Dn b l k)
def M.Kz(l:au)(p:Int)(p1 p2 p3 p4:Bool)(k:Bool×au×Int×Int×Int->Option R):=(M.pz p p1 p2 p3 p4).bind λh=>cond (!h) (k (true,[],0,3,0)) ((M.um l).bind λe=>cond (!e) (k (true,[],0,2,0)) ((M.zD l).bind λd=>cond (decide (d>=0)) ((M.lS l d 4).bind λa=>k (true,[],0,a)) (cond p4 (cond ((↑l.length:Int)==0) ((M.lS l 0 3).bind λc=>k (true,[],0,c)) ((idx l 0).bind λi=>(dG .i64 i 0).bind λg=>(M.iy g).bind λf=>cond (!f) ((M.lS l 0 3).bind λb=>k (true,[],0,b)) (M.IL p1 l p p2 p3 p4 k))) (M.IL p1 l p p2 p3 p4 k))))
def M.xI l p p1 p2 p3 p4:=M.Kz l p p1 p2 p3 p4 some
def C.xI:S.xI.ok X0 λx=>eH (M.xI x.1.1) x.1.2.1:=fnS (λx=>M.Kz x.1.1 x.1.2.1.1 x.1.2.1.2.1 x.1.2.1.2.2.1 x.1.2.1.va.1 x.1.2.1.va.2.1) [fe C.pz,fe C.um,fe C.zD,fe C.lS,fe C.iy,fe C.aV,fe C.kR,fe C.ql,fe C.zn,fe C.fC] [] (by intros;unfold M.Kz M.IL;exact zbJ)
def M.zh(fP:zar)(x':au)(jl kW:Int)(nT oO:aI)(rY:au)(sV:Int)(xO:aI)(xw:Int)(s:Int×au)(kn:Int×au->Option R)(ke:Int×au->Option R):Option R:=match s with
 |(k',FD)=>bif decide (k'<(↑rY.length:Int)) then((idx rY k').bind λc=>(dG .i64 c 0).bind λb=>(fP x' b).bind λa=>sW FD a 32 λd=>kn (i64.wrap (k'+1),d)) else ke (k',FD)
def M.KP fP x' jl kW nT oO rY sV xO xw s:=M.zh fP x' jl kW nT oO rY sV xO xw s (λs=>some (Sum.inl s)) λt=>some (Sum.inr t)
def M.nS fP x' jl kW nT oO rY sV xO xw s:=dU (M.KP fP x' jl kW nT oO rY sV xO xw) s
def F.nS{fP:zar}(RQ:S.jc.ok X0 λx=>fP x.1.1 x.1.2.1):LE X0 36:=le 12 (I5 [cu 0 (pL false 5),cu 5 (pP 300000 0),cu 6 (pP 300001 0),cu 7 (pO 300002 0),cu 8 pI] [cu 300000 (cB 87 zbr),cu 300001 (cB 35 [pI,pS,pI]),cu 300002 zby]) (λx=>(x.1.va.2.1,x.va.1)) (λx s=>((x.1.1,(),(),(),s.1,()),((x.2.1.1,x.2.1.2.1,x.2.1.2.2.1,x.2.1.va.1,x.2.1.va.2.1,()),(x.2.2.1.1,x.2.2.1.2.1,x.2.2.1.2.2.1,()),s.2,()))) (λx=> .leaf (Int×au) (λt=>(Ex.exit 1,⟨[(0,wB 5 x.1.1),(5,V.ptr 300000 0),(6,V.ptr 300001 0),(7,V.own 300002 0),(8,iK t.1),(46,jO false)],[(300000,Cell.box 87 [iK x.2.1.1,iK x.2.1.2.1,KI x.2.1.2.2.1,KI x.2.1.va.1,wB 1 x.2.1.va.2.1]),(300001,Cell.box 35 [iK x.2.2.1.1,KI x.2.2.1.2.1,iK x.2.2.1.2.2.1]),(300002,Cell.arr false true 0 3 t.2)]⟩))) (λx=>M.zh fP x.1.1 x.2.1.1 x.2.1.2.1 x.2.1.2.2.1 x.2.1.va.1 x.2.1.va.2.1 x.2.2.1.1 x.2.2.1.2.1 x.2.2.1.2.2.1) [fe RQ] [] (by rintro _ _ ⟨_,_⟩ _ _<;>simp only[sW,M.zh,nb]<;>rfl)
abbrev M.qM(U5:Int)(SC:Int×au)(Lh:aI)(qR:Int×aI×Int)(k:au->Option R):=cond (U5==13) (cond (((SC.2.length+[[D.int .i64 6,D.str Lh,D.int .i64 0]].length) * 32).ble 140737488355328) (cond ((SC.2.length+[[D.int .i64 6,D.str Lh,D.int .i64 0]].length).ble 140737488355328) (cond (qR.1 !=0) (cond ((((SC.2++[[D.int .i64 6,D.str Lh,D.int .i64 0]]).length+[[D.int .i64 qR.1,D.str qR.2.1,D.int .i64 qR.2.2]].length) * 32).ble 140737488355328) (cond (((SC.2++[[D.int .i64 6,D.str Lh,D.int .i64 0]]).length+[[D.int .i64 qR.1,D.str qR.2.1,D.int .i64 qR.2.2]].length).ble 140737488355328) (cond (aj (SC.2++[[D.int .i64 6,D.str Lh,D.int .i64 0]]++[[D.int .i64 qR.1,D.str qR.2.1,D.int .i64 qR.2.2]])) (k (SC.2++[[D.int .i64 6,D.str Lh,D.int .i64 0]]++[[D.int .i64 qR.1,D.str qR.2.1,D.int .i64 qR.2.2]])) none) none) none) (cond (aj (SC.2++[[D.int .i64 6,D.str Lh,D.int .i64 0]])) (k (SC.2++[[D.int .i64 6,D.str Lh,D.int .i64 0]])) none)) none) none) (cond (qR.1 !=0) (cond (((SC.2.length+[[D.int .i64 qR.1,D.str qR.2.1,D.int .i64 qR.2.2]].length) * 32).ble 140737488355328) (cond ((SC.2.length+[[D.int .i64 qR.1,D.str qR.2.1,D.int .i64 qR.2.2]].length).ble 140737488355328) (cond (aj (SC.2++[[D.int .i64 qR.1,D.str qR.2.1,D.int .i64 qR.2.2]])) (k (SC.2++[[D.int .i64 qR.1,D.str qR.2.1,D.int .i64 qR.2.2]])) none) none) none) (cond (aj SC.2) (k SC.2) none))
def M.Ho(fP:zar)(x':au)(i:Int)(k:au->Option R):=(idx x' i).bind λc=>qh 1 c λU5 aoN Lh aoO Zi=>((M.lH U5 aoN Lh aoO Zi).bind λa=>cond (U5==5) ((M.nS fP x' U5 aoN Lh aoO Zi a.1 a.2.1 a.2.2 (0,[[D.int .i64 6,D.str Lh,D.int .i64 0]])).bind λf=>M.qM U5 f Lh a k) (cond (U5==7) ((M.nS fP x' U5 aoN Lh aoO Zi a.1 a.2.1 a.2.2 (0,[[D.int .i64 7,D.str Lh,D.int .i64 0]])).bind λb=>M.qM U5 b Lh a k) (cond (U5==8) ((M.nS fP x' U5 aoN Lh aoO Zi a.1 a.2.1 a.2.2 (0,[[D.int .i64 8,D.str Lh,D.int .i64 0]])).bind λe=>M.qM U5 e Lh a k) ((M.nS fP x' U5 aoN Lh aoO Zi a.1 a.2.1 a.2.2 (0,[])).bind λd=>M.qM U5 d Lh a k))))
def M.nD:Nat->au->Int->Option (au)
 |0=>λ_ _=>none
 |n+1=>λx' i=>M.Ho (M.nD n) x' i some
def M.jc x' i:=lim λn=>M.nD n x' i
def C.ad8{fP:zar}(RQ:S.jc.ok X0 λx=>fP x.1.1 x.1.2.1):S.jc.ok X0 λx=>M.Ho fP x.1.1 x.1.2.1 some:=fnS (λx=>M.Ho fP x.1.1 x.1.2.1) [fe C.lH] [F.nS RQ] (by intros;unfold M.Ho M.qM;exact zbJ)
def C.nD:∀n,S.jc.ok X0 λx=>M.nD n x.1.1 x.1.2.1
 |0=>dJ.zero
 |n+1=>C.ad8 (C.nD n)
def C.jc:S.jc.ok X0 λx=>M.jc x.1.1 x.1.2.1:=dJ.lim C.nD
def M.ad9{n:Nat}{x':au}{i:Int}{r:au}(h:M.nD n x' i=some r):M.jc x' i=some r:=dJ.sF C.nD (by intro a b h;simp[S.jc,rk,sg] at h;first|exact h|simp[Prod.ext_iff,h]) (x:=((x',i,()),())) h
abbrev M.OM(kind:Int)(k:Bool->Option R):=(M.dL kind 3 8).bind λa=>k a
def M.Gl kind:=M.OM kind some
def C.Gl:=fTa S.Gl (λx=>M.OM x.1.1) [fe C.dL]
def M.AU(l:au)(s:Int×Int)(kn:Int×Int->Option R)(ke:Int×Int->Option R):Option R:=match s with
 |(n',i)=>bif decide (i<(↑l.length:Int)) then((idx l i).bind λb=>(dG .i64 b 0).bind λc=>(M.Gl c).bind λa=>bif a then(kn (i64.wrap (n'+1),i64.wrap (i+1))) else kn (n',i64.wrap (i+1))) else ke (n',i)
def M.GH l s:=M.AU l s (λs=>some (Sum.inl s)) λt=>some (Sum.inr t)
def M.KA l s:=dU (M.GH l) s
def F.KA:LE X0 97:=le 3 (I5 [cu 0 (pL false 3),cu 3 pI,cu 4 pI] []) (λx=>(x.1.2.1,x.1.2.2.1)) (λx s=>((x.1.1,s.1,s.2,()),())) (λx=> .leaf (Int×Int) (λt=>(Ex.exit 0,⟨[(0,wB 3 x.1.1),(3,iK t.1),(4,iK t.2),(8,jO false)],[]⟩))) (λx=>M.AU x.1.1) [fe C.Gl] [] (by rintro _ _ ⟨_,_⟩ _ _<;>simp only[M.AU,nb]<;>rfl)
abbrev M.MB(l:au)(k:Int->Option R):=(M.KA l (0,0)).bind λa=>k a.1
def M.zH l:=M.MB l some
def C.zH:=fTa S.zH (λx=>M.MB x.1.1) [] [F.KA]
def M.Dp(l:au)(s:Int×Int)(kn:Int×Int->Option R)(ke:(Unit)⊕(Int×Int)->Option R):Option R:=match s with
 |(d,i)=>bif decide (i<(↑l.length:Int)) then((idx l i).bind λg=>(dG .i64 g 0).bind λa=>(M.iw a).bind λj=>bif j then((idx l i).bind λk=>(dG .i64 k 0).bind λf=>(M.gG f).bind λe=>bif e then(bif decide (i64.wrap (i64.wrap (d+1) - 1)<0) then(ke (.inl ())) else kn (i64.wrap (i64.wrap (d+1) - 1),i64.wrap (i+1))) else bif decide (i64.wrap (d+1)<0) then(ke (.inl ())) else kn (i64.wrap (d+1),i64.wrap (i+1))) else (idx l i).bind λc=>(dG .i64 c 0).bind λb=>(M.gG b).bind λh=>bif h then(bif decide (i64.wrap (d - 1)<0) then(ke (.inl ())) else kn (i64.wrap (d - 1),i64.wrap (i+1))) else bif decide (d<0) then(ke (.inl ())) else kn (d,i64.wrap (i+1))) else ke (.inr (d,i))
def M.IQ l s:=M.Dp l s (λs=>some (Sum.inl s)) λt=>some (Sum.inr t)
def M.MC l s:=dU (M.IQ l) s
def F.MC:LE X0 98:=le 3 (I5 [cu 0 (pL false 3),cu 3 pI,cu 4 pI] []) (λx=>(x.1.2.1,x.1.2.2.1)) (λx s=>((x.1.1,s.1,s.2,()),())) (λx=> .sum (.leaf (Unit) (λt=>(Ex.ret,⟨[(2,jO false)],[]⟩))) (.leaf (Int×Int) (λt=>(Ex.exit 0,⟨[(0,wB 3 x.1.1),(3,iK t.1),(4,iK t.2),(8,jO false)],[]⟩)))) (λx=>M.Dp x.1.1) [fe C.iw,fe C.gG] [] (by rintro _ _ ⟨_,_⟩ _ _<;>simp only[M.Dp,nb]<;>rfl)
abbrev M.OO(l:au)(k:Bool->Option R):=(M.MC l (0,0)).bind λb=>kT b (λd=>k false) λa=>letE a λc=>k (c.1==0)
def M.Cb l:=M.OO l some
def C.Cb:=fTa S.Cb (λx=>M.OO x.1.1) [] [F.MC]
def M.JA(l:au)(kind:Int)(s:Int×Int)(kn:Int×Int->Option R)(ke:(Unit)⊕(Int×Int)->Option R):Option R:=match s with
 |(d,i)=>bif decide (i<(↑l.length:Int)) then((idx l i).bind λj=>(dG .i64 j 0).bind λm=>(M.gG m).bind λg=>bif g then((idx l i).bind λk=>(dG .i64 k 0).bind λa=>bif a==kind then(bif i64.wrap (d - 1)==0 then(ke (.inl ())) else (idx l i).bind λt=>(dG .i64 t 0).bind λb=>(M.iw b).bind λw=>bif w then(kn (i64.wrap (i64.wrap (d - 1)+1),i64.wrap (i+1))) else kn (i64.wrap (d - 1),i64.wrap (i+1))) else (idx l i).bind λr=>(dG .i64 r 0).bind λe=>(M.iw e).bind λn=>bif n then(kn (i64.wrap (i64.wrap (d - 1)+1),i64.wrap (i+1))) else kn (i64.wrap (d - 1),i64.wrap (i+1))) else (idx l i).bind λq=>(dG .i64 q 0).bind λh=>bif h==kind then(bif d==0 then(ke (.inl ())) else (idx l i).bind λp=>(dG .i64 p 0).bind λu=>(M.iw u).bind λo=>bif o then(kn (i64.wrap (d+1),i64.wrap (i+1))) else kn (d,i64.wrap (i+1))) else (idx l i).bind λv=>(dG .i64 v 0).bind λf=>(M.iw f).bind λc=>bif c then(kn (i64.wrap (d+1),i64.wrap (i+1))) else kn (d,i64.wrap (i+1))) else ke (.inr (d,i))
def M.OQ l kind s:=M.JA l kind s (λs=>some (Sum.inl s)) λt=>some (Sum.inr t)
def M.TA l kind s:=dU (M.OQ l kind) s
def F.TA:LE X0 99:=le 3 (I5 [cu 0 (pL false 3),cu 1 pI,cu 5 pI,cu 6 pI] []) (λx=>(x.1.2.2.1,x.1.va.1)) (λx s=>((x.1.1,x.1.2.1,s.1,s.2,()),())) (λx=> .sum (.leaf (Unit) (λt=>(Ex.ret,⟨[(4,jO true)],[]⟩))) (.leaf (Int×Int) (λt=>(Ex.exit 0,⟨[(0,wB 3 x.1.1),(1,iK x.1.2.1),(5,iK t.1),(6,iK t.2),(10,jO false)],[]⟩)))) (λx=>M.JA x.1.1 x.1.2.1) [fe C.gG,fe C.iw] [] (by rintro _ _ ⟨_,_⟩ _ _<;>simp only[M.JA,nb]<;>rfl)
abbrev M.U6(l:au)(kind:Int)(k:Bool->Option R):=(M.TA l kind (0,0)).bind λa=>kT a (λc=>k true) λb=>letE b λd=>k false
def M.zL l kind:=M.U6 l kind some
def C.zL:=fTa S.zL (λx=>M.U6 x.1.1 x.1.2.1) [] [F.TA]
def M.Dq(l:au)(s:Int×Int)(kn:Int×Int->Option R)(ke:(Unit)⊕(Int×Int)->Option R):Option R:=match s with
 |(d,i)=>bif decide (i<(↑l.length:Int)) then((idx l i).bind λh=>(dG .i64 h 0).bind λg=>(M.iw g).bind λb=>bif b then((idx l i).bind λk=>(dG .i64 k 0).bind λc=>(M.gG c).bind λe=>bif e then(bif i64.wrap (i64.wrap (d+1) - 1)==0 then(bif decide (i<i64.wrap ((↑l.length:Int) - 1)) then(ke (.inl ())) else kn (i64.wrap (i64.wrap (d+1) - 1),i64.wrap (i+1))) else kn (i64.wrap (i64.wrap (d+1) - 1),i64.wrap (i+1))) else bif i64.wrap (d+1)==0 then(bif decide (i<i64.wrap ((↑l.length:Int) - 1)) then(ke (.inl ())) else kn (i64.wrap (d+1),i64.wrap (i+1))) else kn (i64.wrap (d+1),i64.wrap (i+1))) else (idx l i).bind λf=>(dG .i64 f 0).bind λj=>(M.gG j).bind λa=>bif a then(bif i64.wrap (d - 1)==0 then(bif decide (i<i64.wrap ((↑l.length:Int) - 1)) then(ke (.inl ())) else kn (i64.wrap (d - 1),i64.wrap (i+1))) else kn (i64.wrap (d - 1),i64.wrap (i+1))) else bif d==0 then(bif decide (i<i64.wrap ((↑l.length:Int) - 1)) then(ke (.inl ())) else kn (d,i64.wrap (i+1))) else kn (d,i64.wrap (i+1))) else ke (.inr (d,i))
def M.IU l s:=M.Dq l s (λs=>some (Sum.inl s)) λt=>some (Sum.inr t)
def M.MF l s:=dU (M.IU l) s
def F.MF:LE X0 100:=le 5 (I5 [cu 0 (pL false 3),cu 3 pI,cu 4 pI] []) (λx=>(x.1.2.1,x.1.2.2.1)) (λx s=>((x.1.1,s.1,s.2,()),())) (λx=> .sum (.leaf (Unit) (λt=>(Ex.ret,⟨[(2,jO false)],[]⟩))) (.leaf (Int×Int) (λt=>(Ex.exit 0,⟨[(0,wB 3 x.1.1),(3,iK t.1),(4,iK t.2),(28,jO false)],[]⟩)))) (λx=>M.Dq x.1.1) [fe C.iw,fe C.gG] [] (by rintro _ _ ⟨_,_⟩ _ _<;>simp only[M.Dq,nb]<;>rfl)
abbrev M.OT(l:au)(k:Bool->Option R):=cond (decide ((↑l.length:Int)<2)) (k false) ((idx l 0).bind λa=>(dG .i64 a 0).bind λc=>cond (c !=32) (k false) ((idx l (i64.wrap ((↑l.length:Int) - 1))).bind λd=>(dG .i64 d 0).bind λe=>cond (e !=33) (k false) ((M.MF l (0,0)).bind λb=>kT b (λh=>k false) λf=>letE f λg=>k true)))
def M.jK l:=M.OT l some
def C.jK:=fTa S.jK (λx=>M.OT x.1.1) [] [F.MF]
def M.yE(x' jl kW:au)(s:Int)(kn:Int->Option R)(ke:Int->Option R):Option R:=match s with
 |a=>bif decide (a<(↑x'.length:Int)) then((idx x' a).bind λb=>(dG .i64 b 0).bind λc=>bif c==1 then(kn (i64.wrap (a+1))) else ke a) else ke a
def M.IV x' jl kW s:=M.yE x' jl kW s (λs=>some (Sum.inl s)) λt=>some (Sum.inr t)
def M.BJ x' jl kW s:=dU (M.IV x' jl kW) s
def F.BJ:LE X0 201:=le 1 (I5 [cu 1 pI,cu 2 (pP 300000 0)] [cu 300000 (cB 77 zbt)]) (λx=>x.1.1) (λx s=>((s,(),()),((x.2.1.1,x.2.1.2.1,x.2.1.2.2.1,()),()))) (λx=> .leaf (Int) (λt=>(Ex.exit 0,⟨[(1,iK t),(2,V.ptr 300000 0),(18,jO false)],[(300000,Cell.box 77 [wB 3 x.2.1.1,wB 5 x.2.1.2.1,wB 1 x.2.1.2.2.1])]⟩))) (λx=>M.yE x.2.1.1 x.2.1.2.1 x.2.1.2.2.1) [] [] (by rintro _ _ _ _ _<;>simp only[M.yE,nb]<;>rfl)
abbrev M.Fe(d d1 d2:au)(a:Int)(k:Int->Option R):=(M.BJ d d1 d2 a).bind λb=>k b
def M.rX d d1 d2 a:=M.Fe d d1 d2 a some
def C.rX:=fTa S.rX (λx=>M.Fe x.1.1.1 x.1.1.2.1 x.1.1.2.2.1 x.1.2.1) [] [F.BJ]
def M.Dt(aC:zac)(bZ:zai)(kids:au)(a b:Int)(x' jl kW:au)(s:Int)(kn:Int->Option R)(ke:(Unit)⊕(Int)->Option R):Option R:=match s with
 |m=>bif decide (m<b) then((idx x' m).bind λe=>(dG .i64 e 0).bind λj=>bif j==36 then((idx kids 0).bind λh=>(dG .i64 h 0).bind λi=>M.fO.bind λc=>(aC x' jl kW i a m c.1 c.2.1 c.2.2.1 c.2.2.2.1 c.2.2.2.2).bind λk=>bif k then((cut kids 1 (↑kids.length:Int)).bind λf=>(M.rX x' jl kW (i64.wrap (m+1))).bind λd=>(bZ x' jl kW f (bif decide (d<b) then d else b) b).bind λg=>bif g then(ke (.inl ())) else kn (i64.wrap (m+1))) else kn (i64.wrap (m+1))) else kn (i64.wrap (m+1))) else ke (.inr m)
def M.OU aC bZ kids a b x' jl kW s:=M.Dt aC bZ kids a b x' jl kW s (λs=>some (Sum.inl s)) λt=>some (Sum.inr t)
def M.RS aC bZ kids a b x' jl kW s:=dU (M.OU aC bZ kids a b x' jl kW) s
def F.RS{aC:zac}{bZ:zai}(iF:S.jW.ok X0 λx=>eH (aC x.1.1.1 x.1.1.2.1 x.1.1.2.2.1 x.1.2.1 x.1.2.2.1 x.1.va.1) x.1.va.2.1)(AV:S.JQ.ok X0 λx=>bZ x.1.1.1 x.1.1.2.1 x.1.1.2.2.1 x.1.2.1 x.1.2.2.1 x.1.va.1):LE X0 200:=le 6 (I5 [cu 1 (pL false 1),cu 2 pI,cu 3 pI,cu 4 (pP 300000 0),cu 9 pI] [cu 300000 (cB 77 zbt)]) (λx=>x.1.va.2.1) (λx s=>((x.1.1,x.1.2.1,x.1.2.2.1,(),s,()),((x.2.1.1,x.2.1.2.1,x.2.1.2.2.1,()),()))) (λx=> .sum (.leaf (Unit) (λt=>(Ex.ret,⟨[(8,jO true)],[]⟩))) (.leaf (Int) (λt=>(Ex.exit 0,⟨[(1,wB 1 x.1.1),(2,iK x.1.2.1),(3,iK x.1.2.2.1),(4,V.ptr 300000 0),(9,iK t),(30,jO false)],[(300000,Cell.box 77 [wB 3 x.2.1.1,wB 5 x.2.1.2.1,wB 1 x.2.1.2.2.1])]⟩)))) (λx=>M.Dt aC bZ x.1.1 x.1.2.1 x.1.2.2.1 x.2.1.1 x.2.1.2.1 x.2.1.2.2.1) [fe C.fO,fe iF,fe C.rX,fe AV] [] (by rintro _ _ _ _ _<;>simp only[M.Dt,nb]<;>rfl)
def M.uV(aC:zac)(bZ:zai)(d d1 d2 kids:au)(a b:Int)(k:Bool->Option R):=cond ((↑kids.length:Int)==0) (k (a==b)) (cond ((↑kids.length:Int)==1) ((idx kids 0).bind λf=>(dG .i64 f 0).bind λi=>M.fO.bind λc=>(aC d d1 d2 i a b c.1 c.2.1 c.2.2.1 c.2.2.2.1 c.2.2.2.2).bind λh=>k h) ((M.RS aC bZ kids a b d d1 d2 a).bind λe=>kT e (λl=>k true) λg=>letE g λj=>k false))
def C.afK{aC:zac}{bZ:zai}(iF:S.jW.ok X0 λx=>eH (aC x.1.1.1 x.1.1.2.1 x.1.1.2.2.1 x.1.2.1 x.1.2.2.1 x.1.va.1) x.1.va.2.1)(AV:S.JQ.ok X0 λx=>bZ x.1.1.1 x.1.1.2.1 x.1.1.2.2.1 x.1.2.1 x.1.2.2.1 x.1.va.1):S.JQ.ok X0 λx=>M.uV aC bZ x.1.1.1 x.1.1.2.1 x.1.1.2.2.1 x.1.2.1 x.1.2.2.1 x.1.va.1 some:=fnS (λx=>M.uV aC bZ x.1.1.1 x.1.1.2.1 x.1.1.2.2.1 x.1.2.1 x.1.2.2.1 x.1.va.1) [fe C.fO,fe iF] [F.RS iF AV] (by intros;simp only[M.uV,nb]<;>rfl)
abbrev M.Fg(b a:Int)(d:au)(kind:Int)(lZ:aI)(open':Int)(bZ:zai)(d1 d2 qG:au)(k:Bool->Option R):=cond (decide (i64.wrap (b - a)>=3)) ((idx d a).bind λf=>(dG .i64 f 0).bind λg=>cond (g==kind) ((idx d a).bind λe=>(cStr e 1).bind λj=>cond (j==lZ) ((idx d (i64.wrap (a+1))).bind λm=>(dG .i64 m 0).bind λh=>cond (h==open') ((idx d (i64.wrap (b - 1))).bind λc=>(dG .i64 c 0).bind λl=>cond (l==i64.wrap (open'+1)) ((bZ d d1 d2 qG (i64.wrap (a+2)) (i64.wrap (b - 1))).bind λi=>k i) (k false)) (k false)) (k false)) (k false)) (k false)
def M.vP(bZ:zai)(d d1 d2:au)(n' kC:Int)(lZ pX:aI)(qG:au)(kind open' a b:Int)(k:Bool->Option R):=cond (kind==8) (cond (i64.wrap (b - a)==1) (cond (b==(↑d.length:Int)) (cond (lZ==[108,101,110,103,116,104]) (cond ((↑qG.length:Int)==0) ((idx d a).bind λh=>(dG .i64 h 0).bind λm=>cond (m==kind) ((idx d a).bind λn=>(cStr n 1).bind λf=>k (f==lZ)) (k false)) (k false)) (k false)) ((idx d b).bind λe=>(dG .i64 e 0).bind λl=>cond (l !=32) (cond (lZ==[108,101,110,103,116,104]) (cond ((↑qG.length:Int)==0) ((idx d a).bind λc=>(dG .i64 c 0).bind λj=>cond (j==kind) ((idx d a).bind λg=>(cStr g 1).bind λi=>k (i==lZ)) (k false)) (k false)) (k false)) (k false))) (M.Fg b a d kind lZ open' bZ d1 d2 qG k)) (M.Fg b a d kind lZ open' bZ d1 d2 qG k)
def C.aea{bZ:zai}(AV:S.JQ.ok X0 λx=>bZ x.1.1.1 x.1.1.2.1 x.1.1.2.2.1 x.1.2.1 x.1.2.2.1 x.1.va.1):S.Vz.ok X0 λx=>eH (M.vP bZ x.1.1.1 x.1.1.2.1 x.1.1.2.2.1) x.1.2.1 x.1.2.2.1 x.1.va.1 x.1.va.2.1 x.1.va.2.2.1 some:=fnS (λx=>M.vP bZ x.1.1.1 x.1.1.2.1 x.1.1.2.2.1 x.1.2.1.1 x.1.2.1.2.1 x.1.2.1.2.2.1 x.1.2.1.va.1 x.1.2.1.va.2.1 x.1.2.2.1 x.1.va.1 x.1.va.2.1 x.1.va.2.2.1) [fe AV] [] (by intros;unfold M.vP M.Fg;exact zbJ)
def M.D9(aC:zac)(d d1 d2:au)(i a b:Int)(k:Bool->Option R):=cond (decide (a<b)) ((cut d a b).bind λc=>(M.jK c).bind λe=>cond (!e) ((aC d d1 d2 i a b 14 false false false false).bind λf=>k f) (k false)) (k false)
def C.ait{aC:zac}(iF:S.jW.ok X0 λx=>eH (aC x.1.1.1 x.1.1.2.1 x.1.1.2.2.1 x.1.2.1 x.1.2.2.1 x.1.va.1) x.1.va.2.1):S.Rt.ok X0 λx=>M.D9 aC x.1.1.1 x.1.1.2.1 x.1.1.2.2.1 x.1.2.1 x.1.2.2.1 x.1.va.1 some:=fnS (λx=>M.D9 aC x.1.1.1 x.1.1.2.1 x.1.1.2.2.1 x.1.2.1 x.1.2.2.1 x.1.va.1) [fe C.jK,fe iF] [] (by intros;simp only[M.D9,nb]<;>rfl)
def M.GI(aC:zac)(bZ:zai)(d d1 d2:au)(n' kC:Int)(lZ pX:aI)(qG:au)(a b p:Int)(p1 p2 p3 p4:Bool)(k:Bool->Option R):=cond (decide (i64.wrap (b - a)<3)) (k false) ((idx d (i64.wrap (b - 1))).bind λf=>(dG .i64 f 0).bind λh=>cond (h !=6) (k false) ((idx d (i64.wrap (b - 1))).bind λm=>(cStr m 1).bind λl=>cond (!l==lZ) (k false) ((idx d (i64.wrap (b - 2))).bind λe=>(dG .i64 e 0).bind λi=>cond (i !=24) (k false) (cond ((↑qG.length:Int)==1) ((idx qG 0).bind λo=>(dG .i64 o 0).bind λn=>(M.dw n' kC lZ pX qG 0 p p1 p2 p3 p4).bind λc=>(aC d d1 d2 n a (i64.wrap (b - 2)) c.1 c.2.1 c.2.2.1 c.2.2.2.1 c.2.2.2.2).bind λq=>k q) ((cut d a (i64.wrap (b - 2))).bind λr=>(M.jK r).bind λg=>cond g ((bZ d d1 d2 qG (i64.wrap (a+1)) (i64.wrap (b - 3))).bind λj=>k j) (k false))))))
def C.ajQ{aC:zac}{bZ:zai}(iF:S.jW.ok X0 λx=>eH (aC x.1.1.1 x.1.1.2.1 x.1.1.2.2.1 x.1.2.1 x.1.2.2.1 x.1.va.1) x.1.va.2.1)(AV:S.JQ.ok X0 λx=>bZ x.1.1.1 x.1.1.2.1 x.1.1.2.2.1 x.1.2.1 x.1.2.2.1 x.1.va.1):S.abk.ok X0 λx=>eH (eH (M.GI aC bZ x.1.1.1 x.1.1.2.1 x.1.1.2.2.1) x.1.2.1 x.1.2.2.1 x.1.va.1) x.1.va.2.1 some:=fnS (λx=>M.GI aC bZ x.1.1.1 x.1.1.2.1 x.1.1.2.2.1 x.1.2.1.1 x.1.2.1.2.1 x.1.2.1.2.2.1 x.1.2.1.va.1 x.1.2.1.va.2.1 x.1.2.2.1 x.1.va.1 x.1.va.2.1.1 x.1.va.2.1.2.1 x.1.va.2.1.2.2.1 x.1.va.2.1.va.1 x.1.va.2.1.va.2.1) [fe C.dw,fe iF,fe C.jK,fe AV] [] (by intros;unfold M.GI;exact zbJ)
def M.yF(aC:zac)(a b m:Int)(x' jl kW:au)(nT oO:Int)(rY sV:aI)(xO:au)(xw:Int)(FD pF pU lT:Bool)(s:Int)(kn:Int->Option R)(ke:(Unit)⊕(Int)->Option R):Option R:=match s with
 |k'=>bif decide (k'<b) then((idx x' k').bind λh=>(dG .i64 h 0).bind λl=>bif l==66 then((idx xO 1).bind λg=>(dG .i64 g 0).bind λf=>(M.dw nT oO rY sV xO 1 xw FD pF pU lT).bind λd=>(aC x' jl kW f (i64.wrap (m+1)) k' d.1 d.2.1 d.2.2.1 d.2.2.2.1 d.2.2.2.2).bind λk=>bif k then((idx xO 2).bind λi=>(dG .i64 i 0).bind λj=>(M.dw nT oO rY sV xO 2 xw FD pF pU lT).bind λc=>(aC x' jl kW j (i64.wrap (k'+1)) b c.1 c.2.1 c.2.2.1 c.2.2.2.1 c.2.2.2.2).bind λe=>bif e then(ke (.inl ())) else kn (i64.wrap (k'+1))) else kn (i64.wrap (k'+1))) else kn (i64.wrap (k'+1))) else ke (.inr k')
def M.IW aC a b m x' jl kW nT oO rY sV xO xw FD pF pU lT s:=M.yF aC a b m x' jl kW nT oO rY sV xO xw FD pF pU lT s (λs=>some (Sum.inl s)) λt=>some (Sum.inr t)
def M.yT aC a b m x' jl kW nT oO rY sV xO xw FD pF pU lT s:=dU (M.IW aC a b m x' jl kW nT oO rY sV xO xw FD pF pU lT) s
def F.yT{aC:zac}(iF:S.jW.ok X0 λx=>eH (aC x.1.1.1 x.1.1.2.1 x.1.1.2.2.1 x.1.2.1 x.1.2.2.1 x.1.va.1) x.1.va.2.1):LE X0 164:=le 6 (I5 [cu 2 pI,cu 3 pI,cu 5 (pP 300000 0),cu 6 (pP 300001 0),cu 9 (pP 300002 0),cu 11 pI,cu 12 pI] [cu 300000 (cB 77 zbt),cu 300001 (cB 87 zbr),cu 300002 (cB 26 zbs)]) (λx=>x.1.va.va.1) (λx s=>((x.1.1,x.1.2.1,(),(),(),x.1.va.2.2.1,s,()),((x.2.1.1,x.2.1.2.1,x.2.1.2.2.1,()),(x.2.2.1.1,x.2.2.1.2.1,x.2.2.1.2.2.1,x.2.2.1.va.1,x.2.2.1.va.2.1,()),(x.va.1.1,x.va.1.2.1,x.va.1.2.2.1,x.va.1.va.1,x.va.1.va.2.1,()),()))) (λx=> .sum (.leaf (Unit) (λt=>(Ex.ret,⟨[(10,jO true)],[]⟩))) (.leaf (Int) (λt=>(Ex.exit 2,⟨[(2,iK x.1.1),(3,iK x.1.2.1),(5,V.ptr 300000 0),(6,V.ptr 300001 0),(9,V.ptr 300002 0),(11,iK x.1.va.2.2.1),(12,iK t),(45,jO false)],[(300000,Cell.box 77 [wB 3 x.2.1.1,wB 5 x.2.1.2.1,wB 1 x.2.1.2.2.1]),(300001,Cell.box 87 [iK x.2.2.1.1,iK x.2.2.1.2.1,KI x.2.2.1.2.2.1,KI x.2.2.1.va.1,wB 1 x.2.2.1.va.2.1]),(300002,Cell.box 26 [iK x.va.1.1,jO x.va.1.2.1,jO x.va.1.2.2.1,jO x.va.1.va.1,jO x.va.1.va.2.1])]⟩)))) (λx=>M.yF aC x.1.1 x.1.2.1 x.1.va.2.2.1 x.2.1.1 x.2.1.2.1 x.2.1.2.2.1 x.2.2.1.1 x.2.2.1.2.1 x.2.2.1.2.2.1 x.2.2.1.va.1 x.2.2.1.va.2.1 x.va.1.1 x.va.1.2.1 x.va.1.2.2.1 x.va.1.va.1 x.va.1.va.2.1) [fe C.dw,fe iF] [] (by rintro _ _ _ _ _<;>unfold M.yF<;>exact zbJ)
def M.Du(aC:zac)(a b:Int)(x' jl kW:au)(nT oO:Int)(rY sV:aI)(xO:au)(xw:Int)(FD pF pU lT:Bool)(s:Int)(kn:Int->Option R)(ke:(Unit)⊕(Int)->Option R):Option R:=match s with
 |m=>bif decide (m<b) then((idx x' m).bind λj=>(dG .i64 j 0).bind λe=>bif e !=65 then(kn (i64.wrap (m+1))) else (idx xO 0).bind λd=>(dG .i64 d 0).bind λh=>(M.dw nT oO rY sV xO 0 xw FD pF pU lT).bind λc=>(aC x' jl kW h a m c.1 c.2.1 c.2.2.1 c.2.2.2.1 c.2.2.2.2).bind λi=>bif !i then(kn (i64.wrap (m+1))) else (M.yT aC a b m x' jl kW nT oO rY sV xO xw FD pF pU lT (i64.wrap (m+2))).bind λg=>kT g (λl=>ke (.inl ())) λf=>letE f λk=>kn (i64.wrap (m+1))) else ke (.inr m)
def M.OV aC a b x' jl kW nT oO rY sV xO xw FD pF pU lT s:=M.Du aC a b x' jl kW nT oO rY sV xO xw FD pF pU lT s (λs=>some (Sum.inl s)) λt=>some (Sum.inr t)
def M.RU aC a b x' jl kW nT oO rY sV xO xw FD pF pU lT s:=dU (M.OV aC a b x' jl kW nT oO rY sV xO xw FD pF pU lT) s
def F.RU{aC:zac}(iF:S.jW.ok X0 λx=>eH (aC x.1.1.1 x.1.1.2.1 x.1.1.2.2.1 x.1.2.1 x.1.2.2.1 x.1.va.1) x.1.va.2.1):LE X0 164:=le 2 (I5 [cu 2 pI,cu 3 pI,cu 5 (pP 300000 0),cu 6 (pP 300001 0),cu 9 (pP 300002 0),cu 11 pI] [cu 300000 (cB 77 zbt),cu 300001 (cB 87 zbr),cu 300002 (cB 26 zbs)]) (λx=>x.1.va.2.2.1) (λx s=>((x.1.1,x.1.2.1,(),(),(),s,()),((x.2.1.1,x.2.1.2.1,x.2.1.2.2.1,()),(x.2.2.1.1,x.2.2.1.2.1,x.2.2.1.2.2.1,x.2.2.1.va.1,x.2.2.1.va.2.1,()),(x.va.1.1,x.va.1.2.1,x.va.1.2.2.1,x.va.1.va.1,x.va.1.va.2.1,()),()))) (λx=> .sum (.leaf (Unit) (λt=>(Ex.ret,⟨[(10,jO true)],[]⟩))) (.leaf (Int) (λt=>(Ex.exit 0,⟨[(2,iK x.1.1),(3,iK x.1.2.1),(5,V.ptr 300000 0),(6,V.ptr 300001 0),(9,V.ptr 300002 0),(11,iK t),(17,jO false)],[(300000,Cell.box 77 [wB 3 x.2.1.1,wB 5 x.2.1.2.1,wB 1 x.2.1.2.2.1]),(300001,Cell.box 87 [iK x.2.2.1.1,iK x.2.2.1.2.1,KI x.2.2.1.2.2.1,KI x.2.2.1.va.1,wB 1 x.2.2.1.va.2.1]),(300002,Cell.box 26 [iK x.va.1.1,jO x.va.1.2.1,jO x.va.1.2.2.1,jO x.va.1.va.1,jO x.va.1.va.2.1])]⟩)))) (λx=>M.Du aC x.1.1 x.1.2.1 x.2.1.1 x.2.1.2.1 x.2.1.2.2.1 x.2.2.1.1 x.2.2.1.2.1 x.2.2.1.2.2.1 x.2.2.1.va.1 x.2.2.1.va.2.1 x.va.1.1 x.va.1.2.1 x.va.1.2.2.1 x.va.1.va.1 x.va.1.va.2.1) [fe C.dw,fe iF] [F.yT iF] (by rintro _ _ _ _ _<;>unfold M.Du<;>exact zbJ)
def M.A8(aC:zac)(d d1 d2:au)(n' kC:Int)(lZ pX:aI)(qG:au)(a b p:Int)(p1 p2 p3 p4:Bool)(k:Bool->Option R):=(M.RU aC a b d d1 d2 n' kC lZ pX qG p p1 p2 p3 p4 (i64.wrap (a+1))).bind λc=>kT c (λg=>k true) λe=>letE e λf=>k false
def C.afL{aC:zac}(iF:S.jW.ok X0 λx=>eH (aC x.1.1.1 x.1.1.2.1 x.1.1.2.2.1 x.1.2.1 x.1.2.2.1 x.1.va.1) x.1.va.2.1):S.Xm.ok X0 λx=>eH (eH (M.A8 aC x.1.1.1 x.1.1.2.1 x.1.1.2.2.1) x.1.2.1 x.1.2.2.1 x.1.va.1) x.1.va.2.1 some:=fnS (λx=>M.A8 aC x.1.1.1 x.1.1.2.1 x.1.1.2.2.1 x.1.2.1.1 x.1.2.1.2.1 x.1.2.1.2.2.1 x.1.2.1.va.1 x.1.2.1.va.2.1 x.1.2.2.1 x.1.va.1 x.1.va.2.1.1 x.1.va.2.1.2.1 x.1.va.2.1.2.2.1 x.1.va.2.1.va.1 x.1.va.2.1.va.2.1) [] [F.RU iF] (by intros;unfold M.A8;exact zbJ)
abbrev M.qW(xw:Int)(lT:au)(FD:Int)(pF pU:aI)(nT:Int)(oO rY sV xO:Bool)(aC:zac)(x' jl kW:au)(a m b:Int)(ke:(Unit)⊕(Int)->Option R)(kn:Int->Option R):=cond (xw !=15) ((idx lT 0).bind λi=>(dG .i64 i 0).bind λf=>(M.dw xw FD pF pU lT 0 nT oO rY sV xO).bind λd=>(aC x' jl kW f a m d.1 d.2.1 d.2.2.1 d.2.2.2.1 d.2.2.2.2).bind λj=>cond j ((idx lT 1).bind λg=>(dG .i64 g 0).bind λe=>(M.dw xw FD pF pU lT 1 nT oO rY sV xO).bind λc=>(aC x' jl kW e m b c.1 c.2.1 c.2.2.1 c.2.2.2.1 c.2.2.2.2).bind λh=>cond h (ke (.inl ())) (kn (i64.wrap (m+1)))) (kn (i64.wrap (m+1)))) (kn (i64.wrap (m+1)))
abbrev M.oh(xw:Int)(lT:au)(FD:Int)(pF pU:aI)(nT:Int)(oO rY sV xO:Bool)(aC:zac)(x' jl kW:au)(a m b:Int)(ke:(Unit)⊕(Int)->Option R)(kn:Int->Option R):=cond (xw !=15) ((idx lT 0).bind λj=>(dG .i64 j 0).bind λh=>(M.dw xw FD pF pU lT 0 nT oO rY sV xO).bind λc=>(aC x' jl kW h a m c.1 c.2.1 c.2.2.1 c.2.2.2.1 c.2.2.2.2).bind λi=>cond i ((idx lT 1).bind λg=>(dG .i64 g 0).bind λe=>(M.dw xw FD pF pU lT 1 nT oO rY sV xO).bind λd=>(aC x' jl kW e (i64.wrap (m+1)) b d.1 d.2.1 d.2.2.1 d.2.2.2.1 d.2.2.2.2).bind λf=>cond f (ke (.inl ())) (kn (i64.wrap (m+1)))) (kn (i64.wrap (m+1)))) (kn (i64.wrap (m+1)))
abbrev M.oq(x' jl kW:au)(m xw:Int)(lT:au)(cZ:zaj)(a FD:Int)(pF pU:aI)(nT:Int)(oO rY sV xO:Bool)(aC:zac)(b:Int)(ke:(Unit)⊕(Int)->Option R)(kn:Int->Option R):=(M.rX x' jl kW (i64.wrap (m+1))).bind λc=>cond (xw==15) ((idx lT 0).bind λw=>(dG .i64 w 0).bind λv=>(cZ x' jl kW v a m).bind λr=>cond r ((idx lT 1).bind λq=>(dG .i64 q 0).bind λn=>(M.dw xw FD pF pU lT 1 nT oO rY sV xO).bind λg=>(aC x' jl kW n (cond (decide (c<b)) c b) b g.1 g.2.1 g.2.2.1 g.2.2.2.1 g.2.2.2.2).bind λx=>cond x (ke (.inl ())) (kn (i64.wrap (m+1)))) (cond (xw !=15) ((idx lT 0).bind λu=>(dG .i64 u 0).bind λj=>(M.dw xw FD pF pU lT 0 nT oO rY sV xO).bind λd=>(aC x' jl kW j a m d.1 d.2.1 d.2.2.1 d.2.2.2.1 d.2.2.2.2).bind λs=>cond s ((idx lT 1).bind λl=>(dG .i64 l 0).bind λi=>(M.dw xw FD pF pU lT 1 nT oO rY sV xO).bind λe=>(aC x' jl kW i (cond (decide (c<b)) c b) b e.1 e.2.1 e.2.2.1 e.2.2.2.1 e.2.2.2.2).bind λo=>cond o (ke (.inl ())) (kn (i64.wrap (m+1)))) (kn (i64.wrap (m+1)))) (kn (i64.wrap (m+1))))) (cond (xw !=15) ((idx lT 0).bind λt=>(dG .i64 t 0).bind λz=>(M.dw xw FD pF pU lT 0 nT oO rY sV xO).bind λf=>(aC x' jl kW z a m f.1 f.2.1 f.2.2.1 f.2.2.2.1 f.2.2.2.2).bind λk=>cond k ((idx lT 1).bind λA=>(dG .i64 A 0).bind λp=>(M.dw xw FD pF pU lT 1 nT oO rY sV xO).bind λh=>(aC x' jl kW p (cond (decide (c<b)) c b) b h.1 h.2.1 h.2.2.1 h.2.2.2.1 h.2.2.2.2).bind λy=>cond y (ke (.inl ())) (kn (i64.wrap (m+1)))) (kn (i64.wrap (m+1)))) (kn (i64.wrap (m+1))))
abbrev M.qX(x':au)(m FD:Int)(kn:Int->Option R)(jl kW:au)(xw:Int)(lT:au)(cZ:zaj)(a:Int)(pF pU:aI)(nT:Int)(oO rY sV xO:Bool)(aC:zac)(b:Int)(ke:(Unit)⊕(Int)->Option R):=(idx x' m).bind λd=>(dG .i64 d 0).bind λh=>cond (h !=FD) (kn (i64.wrap (m+1))) (cond (FD==45) (M.oq x' jl kW m xw lT cZ a FD pF pU nT oO rY sV xO aC b ke kn) (cond (FD==44) (M.oq x' jl kW m xw lT cZ a FD pF pU nT oO rY sV xO aC b ke kn) (cond (xw==15) ((idx lT 0).bind λi=>(dG .i64 i 0).bind λe=>(cZ x' jl kW e a m).bind λf=>cond f ((idx lT 1).bind λj=>(dG .i64 j 0).bind λg=>(M.dw xw FD pF pU lT 1 nT oO rY sV xO).bind λc=>(aC x' jl kW g (i64.wrap (m+1)) b c.1 c.2.1 c.2.2.1 c.2.2.2.1 c.2.2.2.2).bind λk=>cond k (ke (.inl ())) (kn (i64.wrap (m+1)))) (M.oh xw lT FD pF pU nT oO rY sV xO aC x' jl kW a m b ke kn)) (M.oh xw lT FD pF pU nT oO rY sV xO aC x' jl kW a m b ke kn))))
def M.sS(cZ:zaj)(aC:zac)(a b:Int)(x' jl kW:au)(nT:Int)(oO rY sV xO:Bool)(xw FD:Int)(pF pU:aI)(lT:au)(s:Int)(kn:Int->Option R)(ke:(Unit)⊕(Int)->Option R):Option R:=match s with
 |m=>bif decide (m<b) then(bif xw==12 then(bif FD==99 then(bif xw==15 then((idx lT 0).bind λd=>(dG .i64 d 0).bind λi=>(cZ x' jl kW i a m).bind λf=>bif f then((idx lT 1).bind λh=>(dG .i64 h 0).bind λg=>(M.dw xw FD pF pU lT 1 nT oO rY sV xO).bind λc=>(aC x' jl kW g m b c.1 c.2.1 c.2.2.1 c.2.2.2.1 c.2.2.2.2).bind λe=>bif e then(ke (.inl ())) else kn (i64.wrap (m+1))) else M.qW xw lT FD pF pU nT oO rY sV xO aC x' jl kW a m b ke kn) else M.qW xw lT FD pF pU nT oO rY sV xO aC x' jl kW a m b ke kn) else M.qX x' m FD kn jl kW xw lT cZ a pF pU nT oO rY sV xO aC b ke) else M.qX x' m FD kn jl kW xw lT cZ a pF pU nT oO rY sV xO aC b ke) else ke (.inr m)
def M.Ba cZ aC a b x' jl kW nT oO rY sV xO xw FD pF pU lT s:=M.sS cZ aC a b x' jl kW nT oO rY sV xO xw FD pF pU lT s (λs=>some (Sum.inl s)) λt=>some (Sum.inr t)
def M.Qb cZ aC a b x' jl kW nT oO rY sV xO xw FD pF pU lT s:=dU (M.Ba cZ aC a b x' jl kW nT oO rY sV xO xw FD pF pU lT) s
def F.Qb{cZ:zaj}{aC:zac}(Lj:S.Rt.ok X0 λx=>cZ x.1.1.1 x.1.1.2.1 x.1.1.2.2.1 x.1.2.1 x.1.2.2.1 x.1.va.1)(iF:S.jW.ok X0 λx=>eH (aC x.1.1.1 x.1.1.2.1 x.1.1.2.2.1 x.1.2.1 x.1.2.2.1 x.1.va.1) x.1.va.2.1):LE X0 165:=le 3 (I5 [cu 2 pI,cu 3 pI,cu 5 (pP 300000 0),cu 9 (pP 300001 0),cu 11 (pP 300002 0),cu 12 pI] [cu 300000 (cB 77 zbt),cu 300001 (cB 26 zbs),cu 300002 (cB 87 zbr)]) (λx=>x.1.va.2.2.1) (λx s=>((x.1.1,x.1.2.1,(),(),(),s,()),((x.2.1.1,x.2.1.2.1,x.2.1.2.2.1,()),(x.2.2.1.1,x.2.2.1.2.1,x.2.2.1.2.2.1,x.2.2.1.va.1,x.2.2.1.va.2.1,()),(x.va.1.1,x.va.1.2.1,x.va.1.2.2.1,x.va.1.va.1,x.va.1.va.2.1,()),()))) (λx=> .sum (.leaf (Unit) (λt=>(Ex.ret,⟨[(10,jO true)],[]⟩))) (.leaf (Int) (λt=>(Ex.exit 0,⟨[(2,iK x.1.1),(3,iK x.1.2.1),(5,V.ptr 300000 0),(9,V.ptr 300001 0),(11,V.ptr 300002 0),(12,iK t),(24,jO false)],[(300000,Cell.box 77 [wB 3 x.2.1.1,wB 5 x.2.1.2.1,wB 1 x.2.1.2.2.1]),(300001,Cell.box 26 [iK x.2.2.1.1,jO x.2.2.1.2.1,jO x.2.2.1.2.2.1,jO x.2.2.1.va.1,jO x.2.2.1.va.2.1]),(300002,Cell.box 87 [iK x.va.1.1,iK x.va.1.2.1,KI x.va.1.2.2.1,KI x.va.1.va.1,wB 1 x.va.1.va.2.1])]⟩)))) (λx=>M.sS cZ aC x.1.1 x.1.2.1 x.2.1.1 x.2.1.2.1 x.2.1.2.2.1 x.2.2.1.1 x.2.2.1.2.1 x.2.2.1.2.2.1 x.2.2.1.va.1 x.2.2.1.va.2.1 x.va.1.1 x.va.1.2.1 x.va.1.2.2.1 x.va.1.va.1 x.va.1.va.2.1) [fe Lj,fe C.dw,fe iF,fe C.rX] [] (by rintro _ _ _ _ _<;>unfold M.sS M.qX M.oq M.oh M.qW<;>exact zbJ)
def M.su(cZ:zaj)(aC:zac)(d d1 d2:au)(i a b p:Int)(p1 p2 p3 p4:Bool)(k:Bool->Option R):=(idx d1 i).bind λe=>qh 1 e λaPw aPx aPy aPz aw3=>((M.Qb cZ aC a b d d1 d2 p p1 p2 p3 p4 aPw aPx aPy aPz aw3 (i64.wrap (a+1))).bind λc=>kT c (λh=>k true) λf=>letE f λg=>k false)
def C.aeb{cZ:zaj}{aC:zac}(Lj:S.Rt.ok X0 λx=>cZ x.1.1.1 x.1.1.2.1 x.1.1.2.2.1 x.1.2.1 x.1.2.2.1 x.1.va.1)(iF:S.jW.ok X0 λx=>eH (aC x.1.1.1 x.1.1.2.1 x.1.1.2.2.1 x.1.2.1 x.1.2.2.1 x.1.va.1) x.1.va.2.1):S.VA.ok X0 λx=>eH (M.su cZ aC x.1.1.1 x.1.1.2.1 x.1.1.2.2.1 x.1.2.1 x.1.2.2.1 x.1.va.1) x.1.va.2.1 some:=fnS (λx=>M.su cZ aC x.1.1.1 x.1.1.2.1 x.1.1.2.2.1 x.1.2.1 x.1.2.2.1 x.1.va.1 x.1.va.2.1.1 x.1.va.2.1.2.1 x.1.va.2.1.2.2.1 x.1.va.2.1.va.1 x.1.va.2.1.va.2.1) [] [F.Qb Lj iF] (by intros;simp only[M.su,qh];exact zbJ)
def M.Fh(uX:zav)(cZ:zaj)(aC:zac)(JB:zam)(Fj:zam)(Dw:zac)(d d1 d2:au)(i a b p:Int)(p1 p2 p3 p4:Bool)(k:Bool->Option R):=(idx d1 i).bind λt=>qh 1 t λRx Zj ae7 ae8 Hq=>((M.lH Rx Zj ae7 ae8 Hq).bind λf=>cond (f.1 !=0) (cond (i64.wrap (b - a)==1) ((idx d a).bind λy=>(dG .i64 y 0).bind λA=>cond (A==f.1) ((idx d a).bind λG=>(cStr G 1).bind λL=>k (L==f.2.1)) (k false)) (k false)) (cond (Rx==5) ((uX d d1 d2 Rx Zj ae7 ae8 Hq 6 34 a b).bind λF=>k F) (cond (Rx==7) ((uX d d1 d2 Rx Zj ae7 ae8 Hq 7 32 a b).bind λl=>k l) (cond (Rx==8) ((uX d d1 d2 Rx Zj ae7 ae8 Hq 8 32 a b).bind λg=>k g) (cond (Rx==9) ((idx d a).bind λO=>(dG .i64 O 0).bind λx=>cond (x==Zj) ((idx Hq 0).bind λm=>(dG .i64 m 0).bind λw=>(cZ d d1 d2 w (i64.wrap (a+1)) b).bind λK=>k K) (k false)) (cond (Rx==10) ((idx d (i64.wrap (b - 1))).bind λE=>(dG .i64 E 0).bind λB=>cond (B==Zj) ((idx Hq 0).bind λC=>(dG .i64 C 0).bind λu=>(cZ d d1 d2 u a (i64.wrap (b - 1))).bind λI=>k I) (k false)) (cond (Rx==6) ((idx d a).bind λJ=>(dG .i64 J 0).bind λz=>cond (z==68) ((idx Hq 0).bind λH=>(dG .i64 H 0).bind λj=>(M.dw Rx Zj ae7 ae8 Hq 0 p p1 p2 p3 p4).bind λe=>(aC d d1 d2 j (i64.wrap (a+1)) b e.1 e.2.1 e.2.2.1 e.2.2.2.1 e.2.2.2.2).bind λh=>k h) (k false)) (cond (Rx==11) ((idx d a).bind λN=>(dG .i64 N 0).bind λs=>cond (s==Zj) ((idx Hq 0).bind λn=>(dG .i64 n 0).bind λq=>(M.dw Rx Zj ae7 ae8 Hq 0 p p1 p2 p3 p4).bind λc=>(aC d d1 d2 q (i64.wrap (a+1)) b c.1 c.2.1 c.2.2.1 c.2.2.2.1 c.2.2.2.2).bind λv=>k v) (k false)) (cond (Rx==13) ((JB d d1 d2 Rx Zj ae7 ae8 Hq a b p p1 p2 p3 p4).bind λo=>k o) (cond (Rx==14) ((Fj d d1 d2 Rx Zj ae7 ae8 Hq a b p p1 p2 p3 p4).bind λr=>k r) ((Dw d d1 d2 i a b p p1 p2 p3 p4).bind λD=>k D)))))))))))
def C.afM{uX:zav}{cZ:zaj}{aC:zac}{JB:zam}{Fj:zam}{Dw:zac}(afN:S.Vz.ok X0 λx=>eH (uX x.1.1.1 x.1.1.2.1 x.1.1.2.2.1) x.1.2.1 x.1.2.2.1 x.1.va.1 x.1.va.2.1 x.1.va.2.2.1)(Lj:S.Rt.ok X0 λx=>cZ x.1.1.1 x.1.1.2.1 x.1.1.2.2.1 x.1.2.1 x.1.2.2.1 x.1.va.1)(iF:S.jW.ok X0 λx=>eH (aC x.1.1.1 x.1.1.2.1 x.1.1.2.2.1 x.1.2.1 x.1.2.2.1 x.1.va.1) x.1.va.2.1)(amw:S.abk.ok X0 λx=>eH (eH (JB x.1.1.1 x.1.1.2.1 x.1.1.2.2.1) x.1.2.1 x.1.2.2.1 x.1.va.1) x.1.va.2.1)(aiu:S.Xm.ok X0 λx=>eH (eH (Fj x.1.1.1 x.1.1.2.1 x.1.1.2.2.1) x.1.2.1 x.1.2.2.1 x.1.va.1) x.1.va.2.1)(afO:S.VA.ok X0 λx=>eH (Dw x.1.1.1 x.1.1.2.1 x.1.1.2.2.1 x.1.2.1 x.1.2.2.1 x.1.va.1) x.1.va.2.1):S.Xn.ok X0 λx=>eH (M.Fh uX cZ aC JB Fj Dw x.1.1.1 x.1.1.2.1 x.1.1.2.2.1 x.1.2.1 x.1.2.2.1 x.1.va.1) x.1.va.2.1 some:=fnS (λx=>M.Fh uX cZ aC JB Fj Dw x.1.1.1 x.1.1.2.1 x.1.1.2.2.1 x.1.2.1 x.1.2.2.1 x.1.va.1 x.1.va.2.1.1 x.1.va.2.1.2.1 x.1.va.2.1.2.2.1 x.1.va.2.1.va.1 x.1.va.2.1.va.2.1) [fe C.lH,fe afN,fe Lj,fe C.dw,fe iF,fe amw,fe aiu,fe afO] [] (by intros;simp only[M.Fh,qh];exact zbJ)
def M.Dy(aC:zac)(eU:zac)(d d1 d2:au)(i a b p:Int)(p1 p2 p3 p4:Bool)(k:Bool->Option R):=(cut d a b).bind λc=>cond ((↑c.length:Int)==0) (k false) ((M.zH c).bind λT=>(idx d2 i).bind λaB6=>(dG .i64 aB6 0).bind λaPV=>cond (T !=aPV) (k false) ((M.Cb c).bind λK=>cond (!K) (k false) (cond p4 ((idx c 0).bind λaB7=>(dG .i64 aB7 0).bind λF=>(M.iy F).bind λaPY=>cond (!aPY) (k false) (cond p2 ((M.zL c 24).bind λaPZ=>cond aPZ (k false) (cond p3 ((M.zL c 62).bind λaP0=>cond aP0 (k false) ((M.jK c).bind λV=>cond V (M.fO.bind λf=>(aC d d1 d2 i (i64.wrap (a+1)) (i64.wrap (b - 1)) f.1 f.2.1 f.2.2.1 f.2.2.2.1 f.2.2.2.2).bind λX=>cond X (k true) ((idx d1 i).bind λo=>qh 1 o λaP3 aP4 aP5 aP6 aw7=>((M.kM aP3 aP4 aP5 aP6 aw7 p p1 false false false).bind λU=>cond U ((eU d d1 d2 i a b p p1 p2 p3 p4).bind λaP8=>k aP8) (k false)))) ((idx d1 i).bind λaB9=>qh 1 aB9 λaP9 aQa aQb aQc aw8=>((M.kM aP9 aQa aQb aQc aw8 p p1 false false false).bind λaQd=>cond aQd ((eU d d1 d2 i a b p p1 p2 p3 p4).bind λaQe=>k aQe) (k false))))) ((M.jK c).bind λaQf=>cond aQf (M.fO.bind λl=>(aC d d1 d2 i (i64.wrap (a+1)) (i64.wrap (b - 1)) l.1 l.2.1 l.2.2.1 l.2.2.2.1 l.2.2.2.2).bind λO=>cond O (k true) ((idx d1 i).bind λaCa=>qh 1 aCa λaQh aQi aQj aQk aw9=>((M.kM aQh aQi aQj aQk aw9 p p1 false false false).bind λI=>cond I ((eU d d1 d2 i a b p p1 p2 p3 p4).bind λaQm=>k aQm) (k false)))) ((idx d1 i).bind λaCb=>qh 1 aCb λaQn aQo aQp aQq axa=>((M.kM aQn aQo aQp aQq axa p p1 false false false).bind λJ=>cond J ((eU d d1 d2 i a b p p1 p2 p3 p4).bind λaQs=>k aQs) (k false)))))) (cond p3 ((M.zL c 62).bind λaQt=>cond aQt (k false) ((M.jK c).bind λaQu=>cond aQu (M.fO.bind λg=>(aC d d1 d2 i (i64.wrap (a+1)) (i64.wrap (b - 1)) g.1 g.2.1 g.2.2.1 g.2.2.2.1 g.2.2.2.2).bind λr=>cond r (k true) ((idx d1 i).bind λZ=>qh 1 Z λaQw aQx aQy aQz axb=>((M.kM aQw aQx aQy aQz axb p p1 false false false).bind λaQA=>cond aQA ((eU d d1 d2 i a b p p1 p2 p3 p4).bind λv=>k v) (k false)))) ((idx d1 i).bind λaCd=>qh 1 aCd λaQC aQD aQE aQF axc=>((M.kM aQC aQD aQE aQF axc p p1 false false false).bind λaQG=>cond aQG ((eU d d1 d2 i a b p p1 p2 p3 p4).bind λaQH=>k aQH) (k false))))) ((M.jK c).bind λQ=>cond Q (M.fO.bind λj=>(aC d d1 d2 i (i64.wrap (a+1)) (i64.wrap (b - 1)) j.1 j.2.1 j.2.2.1 j.2.2.2.1 j.2.2.2.2).bind λaQJ=>cond aQJ (k true) ((idx d1 i).bind λt=>qh 1 t λaQK aQL aQM aQN axd=>((M.kM aQK aQL aQM aQN axd p p1 false false false).bind λaQO=>cond aQO ((eU d d1 d2 i a b p p1 p2 p3 p4).bind λaQP=>k aQP) (k false)))) ((idx d1 i).bind λaCf=>qh 1 aCf λaQQ aQR aQS aQT axe=>((M.kM aQQ aQR aQS aQT axe p p1 false false false).bind λx=>cond x ((eU d d1 d2 i a b p p1 p2 p3 p4).bind λs=>k s) (k false))))))) (cond p2 ((M.zL c 24).bind λaQW=>cond aQW (k false) (cond p3 ((M.zL c 62).bind λy=>cond y (k false) ((M.jK c).bind λaQY=>cond aQY (M.fO.bind λm=>(aC d d1 d2 i (i64.wrap (a+1)) (i64.wrap (b - 1)) m.1 m.2.1 m.2.2.1 m.2.2.2.1 m.2.2.2.2).bind λw=>cond w (k true) ((idx d1 i).bind λz=>qh 1 z λaQ0 aQ1 aQ2 aQ3 axf=>((M.kM aQ0 aQ1 aQ2 aQ3 axf p p1 false false false).bind λaQ4=>cond aQ4 ((eU d d1 d2 i a b p p1 p2 p3 p4).bind λG=>k G) (k false)))) ((idx d1 i).bind λB=>qh 1 B λaQ6 aQ7 aQ8 aQ9 axg=>((M.kM aQ6 aQ7 aQ8 aQ9 axg p p1 false false false).bind λaRa=>cond aRa ((eU d d1 d2 i a b p p1 p2 p3 p4).bind λaRb=>k aRb) (k false))))) ((M.jK c).bind λaRc=>cond aRc (M.fO.bind λh=>(aC d d1 d2 i (i64.wrap (a+1)) (i64.wrap (b - 1)) h.1 h.2.1 h.2.2.1 h.2.2.2.1 h.2.2.2.2).bind λaRd=>cond aRd (k true) ((idx d1 i).bind λE=>qh 1 E λn2009 aRe aRf aRg axh=>((M.kM n2009 aRe aRf aRg axh p p1 false false false).bind λaRh=>cond aRh ((eU d d1 d2 i a b p p1 p2 p3 p4).bind λW=>k W) (k false)))) ((idx d1 i).bind λaCj=>qh 1 aCj λaRj aRk aRl aRm axi=>((M.kM aRj aRk aRl aRm axi p p1 false false false).bind λaRn=>cond aRn ((eU d d1 d2 i a b p p1 p2 p3 p4).bind λP=>k P) (k false)))))) (cond p3 ((M.zL c 62).bind λaRp=>cond aRp (k false) ((M.jK c).bind λaRq=>cond aRq (M.fO.bind λn=>(aC d d1 d2 i (i64.wrap (a+1)) (i64.wrap (b - 1)) n.1 n.2.1 n.2.2.1 n.2.2.2.1 n.2.2.2.2).bind λu=>cond u (k true) ((idx d1 i).bind λL=>qh 1 L λaRs aRt aRu aRv axj=>((M.kM aRs aRt aRu aRv axj p p1 false false false).bind λaRw=>cond aRw ((eU d d1 d2 i a b p p1 p2 p3 p4).bind λD=>k D) (k false)))) ((idx d1 i).bind λH=>qh 1 H λaRy aRz aRA aRB axk=>((M.kM aRy aRz aRA aRB axk p p1 false false false).bind λY=>cond Y ((eU d d1 d2 i a b p p1 p2 p3 p4).bind λq=>k q) (k false))))) ((M.jK c).bind λaRE=>cond aRE (M.fO.bind λe=>(aC d d1 d2 i (i64.wrap (a+1)) (i64.wrap (b - 1)) e.1 e.2.1 e.2.2.1 e.2.2.2.1 e.2.2.2.2).bind λA=>cond A (k true) ((idx d1 i).bind λaCm=>qh 1 aCm λaRG aRH aRI aRJ axl=>((M.kM aRG aRH aRI aRJ axl p p1 false false false).bind λaRK=>cond aRK ((eU d d1 d2 i a b p p1 p2 p3 p4).bind λC=>k C) (k false)))) ((idx d1 i).bind λaCn=>qh 1 aCn λaRM aRN aRO aRP axn=>((M.kM aRM aRN aRO aRP axn p p1 false false false).bind λN=>cond N ((eU d d1 d2 i a b p p1 p2 p3 p4).bind λaRR=>k aRR) (k false)))))))))
def C.ajR{aC:zac}{eU:zac}(iF:S.jW.ok X0 λx=>eH (aC x.1.1.1 x.1.1.2.1 x.1.1.2.2.1 x.1.2.1 x.1.2.2.1 x.1.va.1) x.1.va.2.1)(aiv:S.Xn.ok X0 λx=>eH (eU x.1.1.1 x.1.1.2.1 x.1.1.2.2.1 x.1.2.1 x.1.2.2.1 x.1.va.1) x.1.va.2.1):S.jW.ok X0 λx=>eH (M.Dy aC eU x.1.1.1 x.1.1.2.1 x.1.1.2.2.1 x.1.2.1 x.1.2.2.1 x.1.va.1) x.1.va.2.1 some:=fnS (λx=>M.Dy aC eU x.1.1.1 x.1.1.2.1 x.1.1.2.2.1 x.1.2.1 x.1.2.2.1 x.1.va.1 x.1.va.2.1.1 x.1.va.2.1.2.1 x.1.va.2.1.2.2.1 x.1.va.2.1.va.1 x.1.va.2.1.va.2.1) [fe C.zH,fe C.Cb,fe C.iy,fe C.zL,fe C.jK,fe C.fO,fe iF,fe C.kM,fe aiv] [] (by intros;simp only[M.Dy,qh];exact zbJ)
def M.sD:Nat->(zac)×(zai)×(zav)×(zaj)×(zam)×(zam)×(zac)×(zac):=Nat.rec (λ_ _ _ _ _ _ _ _ _ _ _=>none,λ_ _ _ _ _ _=>none,λ_ _ _ _ _ _ _ _ _ _ _ _=>none,λ_ _ _ _ _ _=>none,λ_ _ _ _ _ _ _ _ _ _ _ _ _ _ _=>none,λ_ _ _ _ _ _ _ _ _ _ _ _ _ _ _=>none,λ_ _ _ _ _ _ _ _ _ _ _=>none,λ_ _ _ _ _ _ _ _ _ _ _=>none) λ_ qz=>(λd d1 d2 i a b p p1 p2 p3 p4=>M.Dy qz.1 qz.2.2.2.2.2.2.2 d d1 d2 i a b p p1 p2 p3 p4 some,λd d1 d2 kids a b=>M.uV qz.1 qz.2.1 d d1 d2 kids a b some,λd d1 d2 n' kC lZ pX qG kind open' a b=>M.vP qz.2.1 d d1 d2 n' kC lZ pX qG kind open' a b some,λd d1 d2 i a b=>M.D9 qz.1 d d1 d2 i a b some,λd d1 d2 n' kC lZ pX qG a b p p1 p2 p3 p4=>M.GI qz.1 qz.2.1 d d1 d2 n' kC lZ pX qG a b p p1 p2 p3 p4 some,λd d1 d2 n' kC lZ pX qG a b p p1 p2 p3 p4=>M.A8 qz.1 d d1 d2 n' kC lZ pX qG a b p p1 p2 p3 p4 some,λd d1 d2 i a b p p1 p2 p3 p4=>M.su qz.2.2.2.1 qz.1 d d1 d2 i a b p p1 p2 p3 p4 some,λd d1 d2 i a b p p1 p2 p3 p4=>M.Fh qz.2.2.1 qz.2.2.2.1 qz.1 qz.2.2.2.2.1 qz.2.2.2.2.2.1 qz.2.2.2.2.2.2.1 d d1 d2 i a b p p1 p2 p3 p4 some)
def M.qN n:=(M.sD n).1
def M.Fp n:=(M.sD n).2.1
def M.RV n:=(M.sD n).2.2.1
def M.H9 n:=(M.sD n).2.2.2.1
def M.Xw n:=(M.sD n).2.2.2.2.1
def M.Uw n:=(M.sD n).2.2.2.2.2.1
def M.RY n:=(M.sD n).2.2.2.2.2.2.1
def M.OW n:=(M.sD n).2.2.2.2.2.2.2
def M.amx(n:Nat):M.qN (n+1)=λd d1 d2 i a b p p1 p2 p3 p4=>M.Dy (M.qN n) (M.OW n) d d1 d2 i a b p p1 p2 p3 p4 some:=rfl
def M.Zk(n:Nat):M.Fp (n+1)=λd d1 d2 kids a b=>M.uV (M.qN n) (M.Fp n) d d1 d2 kids a b some:=rfl
def M.RZ(n:Nat):M.RV (n+1)=λd d1 d2 n' kC lZ pX qG kind open' a b=>M.vP (M.Fp n) d d1 d2 n' kC lZ pX qG kind open' a b some:=rfl
def M.ajS(n:Nat):M.H9 (n+1)=λd d1 d2 i a b=>M.D9 (M.qN n) d d1 d2 i a b some:=rfl
def M.amy(n:Nat):M.Xw (n+1)=λd d1 d2 n' kC lZ pX qG a b p p1 p2 p3 p4=>M.GI (M.qN n) (M.Fp n) d d1 d2 n' kC lZ pX qG a b p p1 p2 p3 p4 some:=rfl
def M.aiw(n:Nat):M.Uw (n+1)=λd d1 d2 n' kC lZ pX qG a b p p1 p2 p3 p4=>M.A8 (M.qN n) d d1 d2 n' kC lZ pX qG a b p p1 p2 p3 p4 some:=rfl
def M.XQ(n:Nat):M.RY (n+1)=λd d1 d2 i a b p p1 p2 p3 p4=>M.su (M.H9 n) (M.qN n) d d1 d2 i a b p p1 p2 p3 p4 some:=rfl
def M.aix(n:Nat):M.OW (n+1)=λd d1 d2 i a b p p1 p2 p3 p4=>M.Fh (M.RV n) (M.H9 n) (M.qN n) (M.Xw n) (M.Uw n) (M.RY n) d d1 d2 i a b p p1 p2 p3 p4 some:=rfl
def M.jW d d1 d2 i a b p p1 p2 p3 p4:=lim λn=>M.qN n d d1 d2 i a b p p1 p2 p3 p4
def C.sD:∀n,(S.jW.ok X0 λx=>eH (M.qN n x.1.1.1 x.1.1.2.1 x.1.1.2.2.1 x.1.2.1 x.1.2.2.1 x.1.va.1) x.1.va.2.1)/\(S.JQ.ok X0 λx=>M.Fp n x.1.1.1 x.1.1.2.1 x.1.1.2.2.1 x.1.2.1 x.1.2.2.1 x.1.va.1)/\(S.Vz.ok X0 λx=>eH (M.RV n x.1.1.1 x.1.1.2.1 x.1.1.2.2.1) x.1.2.1 x.1.2.2.1 x.1.va.1 x.1.va.2.1 x.1.va.2.2.1)/\(S.Rt.ok X0 λx=>M.H9 n x.1.1.1 x.1.1.2.1 x.1.1.2.2.1 x.1.2.1 x.1.2.2.1 x.1.va.1)/\(S.abk.ok X0 λx=>eH (eH (M.Xw n x.1.1.1 x.1.1.2.1 x.1.1.2.2.1) x.1.2.1 x.1.2.2.1 x.1.va.1) x.1.va.2.1)/\(S.Xm.ok X0 λx=>eH (eH (M.Uw n x.1.1.1 x.1.1.2.1 x.1.1.2.2.1) x.1.2.1 x.1.2.2.1 x.1.va.1) x.1.va.2.1)/\(S.VA.ok X0 λx=>eH (M.RY n x.1.1.1 x.1.1.2.1 x.1.1.2.2.1 x.1.2.1 x.1.2.2.1 x.1.va.1) x.1.va.2.1)/\(S.Xn.ok X0 λx=>eH (M.OW n x.1.1.1 x.1.1.2.1 x.1.1.2.2.1 x.1.2.1 x.1.2.2.1 x.1.va.1) x.1.va.2.1)
 |0=>⟨dJ.zero,dJ.zero,dJ.zero,dJ.zero,dJ.zero,dJ.zero,dJ.zero,dJ.zero⟩
 |n+1=>have h:=C.sD n;⟨C.ajR h.1 h.2.2.2.2.2.2.2,C.afK h.1 h.2.1,C.aea h.2.1,C.ait h.1,C.ajQ h.1 h.2.1,C.afL h.1,C.aeb h.2.2.2.1 h.1,C.afM h.2.2.1 h.2.2.2.1 h.1 h.2.2.2.2.1 h.2.2.2.2.2.1 h.2.2.2.2.2.2.1⟩
def C.jW:S.jW.ok X0 λx=>eH (M.jW x.1.1.1 x.1.1.2.1 x.1.1.2.2.1 x.1.2.1 x.1.2.2.1 x.1.va.1) x.1.va.2.1:=dJ.lim λn=>(C.sD n).1
def M.ajT{n:Nat}{d d1 d2:au}{i a b p:Int}{p1 p2 p3 p4 r:Bool}(h:M.qN n d d1 d2 i a b p p1 p2 p3 p4=some r):M.jW d d1 d2 i a b p p1 p2 p3 p4=some r:=dJ.sF (λn=>(C.sD n).1) (by intro a b h;simp[S.jW,ra,sg] at h;first|exact h|simp[Prod.ext_iff,h]) (x:=(((d,d1,d2,()),i,a,b,(p,p1,p2,p3,p4,()),()),())) h
def M.yG(s:zaG⊕zaH)(kn:zaG⊕zaH->Option R)(ke:zaG⊕zaH->Option R):Option R:=match s with
 | .inl (l,x',i,jl,kW,nT,oO,rY,sV,xO)=>bif decide (i<(↑x'.length:Int)) then((M.jc x' i).bind λa=>kn (.inr (l,x',i64.wrap (i+1),jl,kW,nT,oO,rY,sV,xO,[[D.int .i64 (↑a.length:Int)]]))) else(ke (.inl (l,x',i,jl,kW,nT,oO,rY,sV,xO)))
 | .inr (l,x',i,jl,kW,nT,oO,rY,sV,xO,xw)=>bif decide (i<(↑x'.length:Int)) then((M.jc x' i).bind λb=>sW xw [[D.int .i64 (↑b.length:Int)]] 8 λc=>kn (.inr (l,x',i64.wrap (i+1),jl,kW,nT,oO,rY,sV,xO,c))) else ke (.inr (l,x',i,jl,kW,nT,oO,rY,sV,xO,xw))
def M.Dz s:=M.yG s (λs=>some (Sum.inl s)) λt=>some (Sum.inr t)
def M.Hr s:=dU (M.Dz) s
def F.Hr:LE X0 9:=le 5 (pOr (I5 [cu 0 (pL false 3),cu 1 (pL false 5),cu 5 (pP 300000 0),cu 7 (pP 300001 0),cu 8 pI] [cu 300000 (cB 26 zbs),cu 300001 (cB 77 [pL false 3,pL false 5,XZ 1])]) (I5 [cu 0 (pL false 3),cu 1 (pL false 5),cu 5 (pP 300000 0),cu 7 (pP 300001 0),cu 8 pI] [cu 300000 (cB 26 zbs),cu 300001 (cB 77 [pL false 3,pL false 5,pO 300002 0]),cu 300002 zbu])) (σ:=zaG⊕zaH) (λx=>(match x with| .inl x=> .inl ((x.1.1,x.1.2.1,x.1.va.2.1,x.2.1.1,x.2.1.2.1,x.2.1.2.2.1,x.2.1.va.1,x.2.1.va.2.1,x.2.2.1.1,x.2.2.1.2.1))| .inr x=> .inr ((x.1.1,x.1.2.1,x.1.va.2.1,x.2.1.1,x.2.1.2.1,x.2.1.2.2.1,x.2.1.va.1,x.2.1.va.2.1,x.2.2.1.1,x.2.2.1.2.1,x.va.1)))) (λx s=>(match s with| .inl s=> .inl (((s.1,s.2.1,(),(),s.2.2.1,()),((s.va.1,s.va.2.1,s.va.2.2.1,s.va.va.1,s.va.va.2.1,()),(s.wd.1,s.wd.2,(),()),())))| .inr s=> .inr (((s.1,s.2.1,(),(),s.2.2.1,()),((s.va.1,s.va.2.1,s.va.2.2.1,s.va.va.1,s.va.va.2.1,()),(s.wd.1,s.wd.2.1,(),()),s.wd.2.2,()))))) (λx=> .sum (.leaf zaG (λt=>(Ex.exit 0,⟨[(0,wB 3 t.1),(1,wB 5 t.2.1),(5,V.ptr 300000 0),(7,V.ptr 300001 0),(8,iK t.2.2.1),(38,jO false)],[(300000,Cell.box 26 [iK t.va.1,jO t.va.2.1,jO t.va.2.2.1,jO t.va.va.1,jO t.va.va.2.1]),(300001,Cell.box 77 [wB 3 t.wd.1,wB 5 t.wd.2,V.nil 1])]⟩))) (.leaf zaH (λt=>(Ex.exit 0,⟨[(0,wB 3 t.1),(1,wB 5 t.2.1),(5,V.ptr 300000 0),(7,V.ptr 300001 0),(8,iK t.2.2.1),(38,jO false)],[(300000,Cell.box 26 [iK t.va.1,jO t.va.2.1,jO t.va.2.2.1,jO t.va.va.1,jO t.va.va.2.1]),(300001,Cell.box 77 [wB 3 t.wd.1,wB 5 t.wd.2.1,V.own 300002 0]),(300002,Cell.arr false true 0 1 t.wd.2.2)]⟩)))) (λx=>M.yG) [fe C.jc] [] (by rintro _ _ (⟨_,_,_,_,_,_,_,_,_,_⟩|⟨_,_,_,_,_,_,_,_,_,_,_⟩) _ _<;>unfold M.yG<;>exact zbJ) (hE:=by intro _ _ s _;rcases s with s|s<;>kernel_rfl)
abbrev M.OX(l x':au)(p:Int)(p1 p2 p3 p4:Bool)(k:Bool->Option R):=(M.um l).bind λd=>cond (!d) (k false) ((M.oW x').bind λg=>cond (!g) (k false) ((M.pz p p1 p2 p3 p4).bind λf=>cond (!f) (k false) (cond (decide ((↑l.length:Int)>400)) (k false) ((M.zD l).bind λj=>cond (decide (j>=0)) (k false) ((M.Hr (.inl (l,x',0,p,p1,p2,p3,p4,l,x'))).bind λc=>kT c (λb=>(M.jW b.2.2.2.2.2.2.2.2.1 b.2.2.2.2.2.2.2.2.2 [] (i64.wrap ((↑b.2.1.length:Int) - 1)) 0 ((↑b.1.length:Int)) b.2.2.2.1 b.2.2.2.2.1 b.2.2.2.2.2.1 b.2.2.2.2.2.2.1 b.2.2.2.2.2.2.2.1).bind λh=>k h) λi=>letE i λa=>(M.jW a.2.2.2.2.2.2.2.2.1 a.2.2.2.2.2.2.2.2.2.1 a.2.2.2.2.2.2.2.2.2.2 (i64.wrap ((↑a.2.1.length:Int) - 1)) 0 ((↑a.1.length:Int)) a.2.2.2.1 a.2.2.2.2.1 a.2.2.2.2.2.1 a.2.2.2.2.2.2.1 a.2.2.2.2.2.2.2.1).bind λe=>k e)))))
def M.Cc l x' p p1 p2 p3 p4:=M.OX l x' p p1 p2 p3 p4 some
def C.Cc:=fTa S.Cc (λx=>M.OX x.1.1 x.1.2.1 x.1.2.2.1.1 x.1.2.2.1.2.1 x.1.2.2.1.2.2.1 x.1.2.2.1.va.1 x.1.2.2.1.va.2.1) [fe C.um,fe C.oW,fe C.pz,fe C.zD,fe C.jW] [F.Hr]
def C.kQ:S.kQ.ok X0 λx=>M.kQ x.1.1:=dJ.VO (p:=Prim.kQ)
abbrev M.OY(l:au)(k:Bool->Option R):=(M.kQ l).bind λa=>k a.2
def M.Ce l:=M.OY l some
def C.Ce:=fTa S.Ce (λx=>M.OY x.1.1) [fe C.kQ]
abbrev M.QZ(kind:Int)(k:Bool->Option R):=(M.dM kind 1 15).bind λa=>k a
def M.iM kind:=M.QZ kind some
def C.iM:=fTa S.iM (λx=>M.QZ x.1.1) [fe C.dM]
abbrev M.jr(n':Int)(lZ:aI)(k:Bool×Bool×Bool×Int×Int->Option R)(kC:Int):=cond (decide (0<=i64.wrap (n' - 2)) && decide (i64.wrap (n' - 2)<3)) ((dG .i64 [D.int .i64 3,D.int .i64 4,D.int .i64 5] (i64.wrap (n' - 2)).toNat).bind λb=>(M.lI b lZ 0).bind λa=>k (kC==0,a,false,0,0)) none
def M.lG(n' kC:Int)(lZ pX:aI)(qG:au)(k:Bool×Bool×Bool×Int×Int->Option R):=cond (n'==1) ((M.kN lZ).bind λe=>k (kC==0,e,false,0,0)) (cond (n'==2) (M.jr n' lZ k kC) (cond (n'==3) (M.jr n' lZ k kC) (cond (n'==4) (M.jr n' lZ k kC) (cond (n'==5) ((M.kN lZ).bind λd=>k (kC==0,d,false,1,6)) (cond (n'==13) ((M.kN lZ).bind λf=>k (kC==0,f,false,1,6)) (cond (n'==6) (k (kC==0,lZ==[],false,1,1)) (cond (n'==7) ((M.kN lZ).bind λb=>k (kC==0,b,false,0,6)) (cond (n'==8) ((M.oH lZ).bind λi=>k (kC==0,i,false,0,6)) (cond (n'==9) ((M.mG kC).bind λg=>k (g,lZ==[],false,1,1)) (cond (n'==10) ((M.mG kC).bind λc=>k (c,lZ==[],false,1,1)) (cond (n'==11) (cond (kC==55) (k (true,lZ==[],false,1,1)) (cond (kC==56) (k (true,lZ==[],false,1,1)) (k (kC==61,lZ==[],false,1,1)))) (cond (n'==12) ((M.mV kC).bind λa=>k (a !=0,lZ==[],false,2,2)) (cond (n'==14) (k (kC==0,lZ==[],false,3,3)) ((M.uj kC).bind λh=>k (h,lZ==[],false,2,2)))))))))))))))
def M.jd n' kC lZ pX qG:=M.lG n' kC lZ pX qG some
def C.jd:S.jd.ok X0 λx=>eH M.jd x.1.1:=fnS (λx=>M.lG x.1.1.1 x.1.1.2.1 x.1.1.2.2.1 x.1.1.va.1 x.1.1.va.2.1) [fe C.kN,fe C.lI,fe C.oH,fe C.mG,fe C.mV,fe C.uj] [] (by intros;unfold M.lG M.jr;exact zbJ)
abbrev M.VF(kind:Int)(k:Bool->Option R):=(M.dM kind 20 34).bind λa=>k a
def M.FZ kind:=M.VF kind some
def C.FZ:=fTa S.FZ (λx=>M.VF x.1.1) [fe C.dM]
abbrev M.Si(n' kC:Int)(lZ pX:aI)(qG:au)(k:Bool×Bool×Bool×Int×Int->Option R):=cond (n'==20) (k (kC==0,lZ==[],pX==[],1,1)) (cond (n'==21) (cond (kC==0) ((M.slices_Contains ([[D.str []],[D.str [62]],[D.str [62,62]],[D.str [124]]]) pX).bind λb=>cond (!pX==[]) (k (true,lZ==[],b,i64.wrap (kC+1),7)) (k (true,lZ==[],b,kC,6))) ((M.slices_Contains ([[D.str []],[D.str [62]],[D.str [62,62]],[D.str [124]]]) pX).bind λa=>cond (!pX==[]) (k (kC==1,lZ==[],a,i64.wrap (kC+1),7)) (k (kC==1,lZ==[],a,kC,6)))) (cond (n'==23) (k (kC==0,lZ==[],pX==[],0,1)) (cond (n'==24) (k (kC==0,lZ==[],pX==[],0,1)) (cond (n'==27) ((M.kN lZ).bind λc=>k (kC==0,c,pX==[],0,6)) (cond (n'==28) (k (kC==0,lZ==[],pX==[],2,3)) (cond (n'==29) (k (kC==0,lZ==[],pX==[],2,2)) (cond (n'==30) (k (kC==0,lZ==[],pX==[],2,2)) (cond (n'==31) (k (kC==0,lZ==[],pX==[],4,4)) (cond (n'==32) ((M.kN lZ).bind λf=>(M.kN pX).bind λd=>k (kC==0,f,d,1,1)) (cond (n'==33) (k (kC==0,lZ==[],pX==[],0,400)) (cond (n'==34) ((M.lI 2 lZ 0).bind λe=>k (kC==0,e,pX==[],0,0)) (k (kC==0,lZ==[],pX==[],0,0)))))))))))))
def M.Hy n' kC lZ pX qG:=M.Si n' kC lZ pX qG some
def C.Hy:=fTa S.Hy (λx=>M.Si x.1.1.1 x.1.1.2.1 x.1.1.2.2.1 x.1.1.va.1 x.1.1.va.2.1) [fe C.slices_Contains,fe C.kN,fe C.lI]
abbrev M.Sj(n' kC:Int)(lZ pX:aI)(qG:au)(k:Bool×Bool×Bool×Int×Int->Option R):=cond (n'==40) (k (kC==0,lZ==[],pX==[],1,1)) (cond (n'==41) (k (kC==0,lZ==[],pX==[],1,1)) (cond (n'==42) ((M.dM kC 1 3).bind λa=>cond (kC==3) (k (a,lZ==[],pX==[],2,2)) (k (a,lZ==[],pX==[],1,1))) (cond (n'==43) (cond (kC==1) (cond (kC==3) (k (true,lZ==[],pX==[],3,3)) (k (true,lZ==[],pX==[],2,2))) (cond (kC==3) (k (kC==3,lZ==[],pX==[],3,3)) (k (kC==3,lZ==[],pX==[],2,2)))) (cond (n'==44) ((M.kN lZ).bind λb=>k (kC==0,b,pX==[],1,7)) (k (kC==0,lZ==[],pX==[],0,400))))))
def M.Hz n' kC lZ pX qG:=M.Sj n' kC lZ pX qG some
def C.Hz:=fTa S.Hz (λx=>M.Sj x.1.1.1 x.1.1.2.1 x.1.1.2.2.1 x.1.1.va.1 x.1.1.va.2.1) [fe C.dM,fe C.kN]
abbrev M.iZ(n' kC:Int)(lZ pX:aI)(qG:au)(k:Bool->Option R):=(M.iM n').bind λd=>cond d ((M.jd n' kC lZ pX qG).bind λc=>cond c.1 (cond c.2.1 (cond (pX==[]) ((M.dM ((↑qG.length:Int)) c.2.2.2.1 c.2.2.2.2).bind λh=>k h) (k false)) (k false)) (k false)) (cond (n'==16) (cond (kC==0) (cond (lZ==[]) (cond (pX==[]) ((M.dM ((↑qG.length:Int)) 0 0).bind λi=>k i) (k false)) (k false)) (k false)) ((M.FZ n').bind λj=>cond j ((M.Hy n' kC lZ pX qG).bind λa=>cond a.1 (cond a.2.1 (cond a.2.2.1 ((M.dM ((↑qG.length:Int)) a.2.2.2.1 a.2.2.2.2).bind λe=>k e) (k false)) (k false)) (k false)) ((M.dM n' 40 45).bind λf=>cond f ((M.Hz n' kC lZ pX qG).bind λb=>cond b.1 (cond b.2.1 (cond b.2.2.1 ((M.dM ((↑qG.length:Int)) b.2.2.2.1 b.2.2.2.2).bind λg=>k g) (k false)) (k false)) (k false)) (k false))))
def M.ig n' kC lZ pX qG:=M.iZ n' kC lZ pX qG some
def C.ig:=fTa S.ig (λx=>M.iZ x.1.1.1 x.1.1.2.1 x.1.1.2.2.1 x.1.1.va.1 x.1.1.va.2.1) [fe C.iM,fe C.jd,fe C.dM,fe C.FZ,fe C.Hy,fe C.Hz]
abbrev M.MG(kind:Int)(k:Bool->Option R):=cond (kind==1) (k true) (cond (kind==5) (k true) (k (kind==6)))
def M.uo kind:=M.MG kind some
def C.uo:=fTa S.uo (λx=>M.MG x.1.1)
abbrev M.VG(kind:Int)(k:Bool->Option R):=(M.dM kind 40 44).bind λa=>k a
def M.Nv kind:=M.VG kind some
def C.Nv:=fTa S.Nv (λx=>M.VG x.1.1) [fe C.dM]
abbrev M.KC(n' kC:Int)(lZ pX:aI)(qG:au)(k' kid:Int)(k:Bool->Option R):=cond (n'==9) ((M.uo kid).bind λn=>k n) (cond (n'==10) ((M.uo kid).bind λb=>k b) (cond (n'==15) (cond (k'==0) ((M.uo kid).bind λc=>cond c (k true) (cond (decide (k'>0)) ((M.iM kid).bind λr=>k r) (k false))) (cond (decide (k'>0)) ((M.iM kid).bind λj=>k j) (k false))) (cond (n'==28) (cond (decide (k'>0)) (k (kid==33)) ((M.iM kid).bind λo=>k o)) (cond (n'==29) (cond (decide (k'>0)) (k (kid==33)) ((M.iM kid).bind λa=>k a)) (cond (n'==31) (cond (decide (k'<3)) (cond (kid==16) (k true) (cond (k'==i64.wrap ((↑qG.length:Int) - 1)) (k (kid==33)) ((M.iM kid).bind λe=>k e))) (cond (k'==i64.wrap ((↑qG.length:Int) - 1)) (k (kid==33)) ((M.iM kid).bind λp=>k p))) (cond (n'==30) (cond (k'==0) (k (kid==33)) ((M.iM kid).bind λg=>k g)) (cond (n'==32) (k (kid==33)) (cond (n'==40) (k (kid==33)) (cond (n'==41) (k (kid==33)) (cond (n'==33) ((M.FZ kid).bind λl=>k l) (cond (n'==42) (cond (k'==i64.wrap ((↑qG.length:Int) - 1)) (cond (decide (kC>=2)) (k (kid==33)) ((M.iM kid).bind λh=>k h)) ((M.iM kid).bind λq=>k q)) (cond (n'==43) (cond (k'==i64.wrap ((↑qG.length:Int) - 1)) (cond (kC==3) (k (kid==33)) ((M.iM kid).bind λm=>k m)) ((M.iM kid).bind λi=>k i)) (cond (n'==44) (cond (!k'==i64.wrap ((↑qG.length:Int) - 1)) (k (kid==1)) (k (kid==33))) (cond (n'==45) ((M.Nv kid).bind λd=>cond d (k true) (k (kid==34))) ((M.iM kid).bind λf=>k f)))))))))))))))
def M.zX n' kC lZ pX qG k' kid:=M.KC n' kC lZ pX qG k' kid some
def C.zX:=fTa S.zX (λx=>M.KC x.1.1.1 x.1.1.2.1 x.1.1.2.2.1 x.1.1.va.1 x.1.1.va.2.1 x.1.2.1 x.1.2.2.1) [fe C.uo,fe C.iM,fe C.FZ,fe C.Nv]
def M.wU(jB:zas)(s:zaI⊕zaJ)(kn:zaI⊕zaJ->Option R)(ke:zaI⊕zaJ->Option R):Option R:=match s with
 | .inl (l,v23,v24,v25,x',jl,kW,nT,oO,rY,sV,xO)=>bif decide (v25<v24) then((idx v23 v25).bind λd=>(dG .i64 d 0).bind λe=>(jB l e).bind λb=>kn (.inr (l,v23,v24,i64.wrap (v25+1),x',jl,kW,nT,oO,rY,sV,xO,[[D.int .i64 b.1,D.int .i64 b.2.1,D.str b.2.2.1,D.str b.2.2.2.1,D.sl true 5 b.2.2.2.2]]))) else(ke (.inl (l,v23,v24,v25,x',jl,kW,nT,oO,rY,sV,xO)))
 | .inr (l,v23,v24,v25,x',jl,kW,nT,oO,rY,sV,xO,xw)=>bif decide (v25<v24) then((idx v23 v25).bind λf=>(dG .i64 f 0).bind λc=>(jB l c).bind λa=>sW xw [[D.int .i64 a.1,D.int .i64 a.2.1,D.str a.2.2.1,D.str a.2.2.2.1,D.sl true 5 a.2.2.2.2]] 72 λg=>kn (.inr (l,v23,v24,i64.wrap (v25+1),x',jl,kW,nT,oO,rY,sV,xO,g))) else ke (.inr (l,v23,v24,v25,x',jl,kW,nT,oO,rY,sV,xO,xw))
def M.zS jB s:=M.wU jB s (λs=>some (Sum.inl s)) λt=>some (Sum.inr t)
def M.OZ jB s:=dU (M.zS jB) s
def F.OZ{jB:zas}(VH:S.vN.ok X0 λx=>jB x.1.1 x.1.2.1):LE X0 209:=le 4 (pOr (I5 [cu 0 (pL false 5),cu 4 (pP 300000 0),cu 6 (pP 300001 0),cu 23 (pL false 1),cu 24 pI,cu 25 pI] [cu 300000 (cB 55 [pI,pI,pS,pS,XZ 5]),cu 300001 (cB 55 [pI,pI,pS,pS,XZ 5])]) (I5 [cu 0 (pL false 5),cu 4 (pP 300000 0),cu 6 (pP 300001 0),cu 23 (pL false 1),cu 24 pI,cu 25 pI] [cu 300000 (cB 55 [pI,pI,pS,pS,XZ 5]),cu 300001 (cB 55 zbH),cu 300002 zbB])) (σ:=zaI⊕zaJ) (λx=>(match x with| .inl x=> .inl ((x.1.1,x.1.va.1,x.1.va.2.1,x.1.va.2.2.1,x.2.1.1,x.2.1.2.1,x.2.1.2.2.1,x.2.1.va.1,x.2.2.1.1,x.2.2.1.2.1,x.2.2.1.2.2.1,x.2.2.1.va.1))| .inr x=> .inr ((x.1.1,x.1.va.1,x.1.va.2.1,x.1.va.2.2.1,x.2.1.1,x.2.1.2.1,x.2.1.2.2.1,x.2.1.va.1,x.2.2.1.1,x.2.2.1.2.1,x.2.2.1.2.2.1,x.2.2.1.va.1,x.va.1)))) (λx s=>(match s with| .inl s=> .inl (((s.1,(),(),s.2.1,s.2.2.1,s.va.1,()),((s.va.2.1,s.va.2.2.1,s.va.va.1,s.va.va.2.1,(),()),(s.wd.1,s.wd.2.1,s.wd.2.2.1,s.wd.va,(),()),())))| .inr s=> .inr (((s.1,(),(),s.2.1,s.2.2.1,s.va.1,()),((s.va.2.1,s.va.2.2.1,s.va.va.1,s.va.va.2.1,(),()),(s.wd.1,s.wd.2.1,s.wd.2.2.1,s.wd.va.1,(),()),s.wd.va.2,()))))) (λx=> .sum (.leaf zaI (λt=>(Ex.exit 0,⟨[(0,wB 5 t.1),(4,V.ptr 300000 0),(6,V.ptr 300001 0),(23,wB 1 t.2.1),(24,iK t.2.2.1),(25,iK t.va.1),(26,jO false)],[(300000,Cell.box 55 [iK t.va.2.1,iK t.va.2.2.1,KI t.va.va.1,KI t.va.va.2.1,V.nil 5]),(300001,Cell.box 55 [iK t.wd.1,iK t.wd.2.1,KI t.wd.2.2.1,KI t.wd.va,V.nil 5])]⟩))) (.leaf zaJ (λt=>(Ex.exit 0,⟨[(0,wB 5 t.1),(4,V.ptr 300000 0),(6,V.ptr 300001 0),(23,wB 1 t.2.1),(24,iK t.2.2.1),(25,iK t.va.1),(26,jO false)],[(300000,Cell.box 55 [iK t.va.2.1,iK t.va.2.2.1,KI t.va.va.1,KI t.va.va.2.1,V.nil 5]),(300001,Cell.box 55 [iK t.wd.1,iK t.wd.2.1,KI t.wd.2.2.1,KI t.wd.va.1,V.own 300002 0]),(300002,Cell.arr false false 0 5 t.wd.va.2)]⟩)))) (λx=>M.wU jB) [fe VH] [] (by rintro _ _ (⟨_,_,_,_,_,_,_,_,_,_,_,_⟩|⟨_,_,_,_,_,_,_,_,_,_,_,_,_⟩) _ _<;>simp only[sW,M.wU,nb]<;>rfl) (hE:=by intro _ _ s _;rcases s with s|s<;>kernel_rfl)
def M.Ll(jB:zas)(l:au)(i:Int)(k:Int×Int×aI×aI×au->Option R):=(idx l i).bind λc=>qh 1 c λaSL aSM aSN aSO apl=>((M.OZ jB (.inl (l,apl,(↑apl.length:Int),0,0,0,[],[],aSL,aSM,aSN,aSO))).bind λd=>kT d (λb=>k (b.2.2.2.2.2.2.2.2.1,b.2.2.2.2.2.2.2.2.2.1,b.2.2.2.2.2.2.2.2.2.2.1,b.2.2.2.2.2.2.2.2.2.2.2,[])) λe=>letE e λa=>k (a.2.2.2.2.2.2.2.2))
def M.qF:Nat->au->Int->Option zaV
 |0=>λ_ _=>none
 |n+1=>λl i=>M.Ll (M.qF n) l i some
def M.vN l i:=lim λn=>M.qF n l i
def C.aiy{jB:zas}(VH:S.vN.ok X0 λx=>jB x.1.1 x.1.2.1):S.vN.ok X0 λx=>M.Ll jB x.1.1 x.1.2.1 some:=fnS (λx=>M.Ll jB x.1.1 x.1.2.1) [] [F.OZ VH] (by intros;simp only[qh,M.Ll,nb]<;>rfl)
def C.qF:∀n,S.vN.ok X0 λx=>M.qF n x.1.1 x.1.2.1
 |0=>dJ.zero
 |n+1=>C.aiy (C.qF n)
def C.vN:S.vN.ok X0 λx=>M.vN x.1.1 x.1.2.1:=dJ.lim C.qF
def M.aiz{n:Nat}{l:au}{i:Int}{r:Int×Int×aI×aI×au}(h:M.qF n l i=some r):M.vN l i=some r:=dJ.sF C.qF (by intro a b h;simp[S.vN,rn,sg] at h;first|exact h|simp[Prod.ext_iff,h]) (x:=((l,i,()),())) h
abbrev M.Q5(l:au)(k:Int×Int×aI×aI×au->Option R):=(M.vN l (i64.wrap ((↑l.length:Int) - 1))).bind λa=>k (a)
def M.Jf l:=M.Q5 l some
def C.Jf:=fTa S.Jf (λx=>M.Q5 x.1.1) [fe C.vN]
def M.Fq(l v10:au)(v11 v12:Int)(v20:au)(v21 x' jl:Int)(kW nT:aI)(oO:au)(s:Int)(kn:Int->Option R)(ke:(Unit)⊕(Int)->Option R):Option R:=match s with
 |v22=>bif decide (v22<v21) then((idx v20 v22).bind λe=>(dG .i64 e 0).bind λc=>(idx l c).bind λd=>(dG .i64 d 0).bind λa=>(M.zX x' jl kW nT oO v22 a).bind λb=>bif !b then(ke (.inl ())) else kn (i64.wrap (v22+1))) else ke (.inr v22)
def M.Qc l v10 v11 v12 v20 v21 x' jl kW nT oO s:=M.Fq l v10 v11 v12 v20 v21 x' jl kW nT oO s (λs=>some (Sum.inl s)) λt=>some (Sum.inr t)
def M.JC l v10 v11 v12 v20 v21 x' jl kW nT oO s:=dU (M.Qc l v10 v11 v12 v20 v21 x' jl kW nT oO) s
def F.JC:LE X0 103:=le 9 (I5 [cu 0 (pL false 5),cu 4 (pP 300000 0),cu 10 (pL false 5),cu 11 pI,cu 12 pI,cu 20 (pL false 1),cu 21 pI,cu 22 pI] [cu 300000 (cB 87 zbr)]) (λx=>x.1.va.va.2.1) (λx s=>((x.1.1,(),x.1.2.2.1,x.1.va.1,x.1.va.2.1,x.1.va.2.2.1,x.1.va.va.1,s,()),((x.2.1.1,x.2.1.2.1,x.2.1.2.2.1,x.2.1.va.1,x.2.1.va.2.1,()),()))) (λx=> .sum (.leaf (Unit) (λt=>(Ex.ret,⟨[(2,jO false)],[]⟩))) (.leaf (Int) (λt=>(Ex.exit 2,⟨[(0,wB 5 x.1.1),(4,V.ptr 300000 0),(10,wB 5 x.1.2.2.1),(11,iK x.1.va.1),(12,iK x.1.va.2.1),(20,wB 1 x.1.va.2.2.1),(21,iK x.1.va.va.1),(22,iK t),(23,jO false)],[(300000,Cell.box 87 [iK x.2.1.1,iK x.2.1.2.1,KI x.2.1.2.2.1,KI x.2.1.va.1,wB 1 x.2.1.va.2.1])]⟩)))) (λx=>M.Fq x.1.1 x.1.2.2.1 x.1.va.1 x.1.va.2.1 x.1.va.2.2.1 x.1.va.va.1 x.2.1.1 x.2.1.2.1 x.2.1.2.2.1 x.2.1.va.1 x.2.1.va.2.1) [fe C.zX] [] (by rintro _ _ _ _ _<;>simp only[M.Fq,nb]<;>rfl)
def M.Fv(l v10:au)(v11 s:Int)(kn:Int->Option R)(ke:(Unit)⊕(Int)->Option R):Option R:=match s with
 |v12=>bif decide (v12<v11) then((idx v10 v12).bind λa=>qh 1 a λaEf aEg aEh aEi acM=>((M.ig aEf aEg aEh aEi acM).bind λc=>bif !c then(ke (.inl ())) else (M.JC l v10 v11 v12 acM ((↑acM.length:Int)) aEf aEg aEh aEi acM 0).bind λd=>kT d (λe=>ke (.inl ())) λb=>letE b λf=>kn (i64.wrap (v12+1)))) else ke (.inr v12)
def M.Qd l v10 v11 s:=M.Fv l v10 v11 s (λs=>some (Sum.inl s)) λt=>some (Sum.inr t)
def M.JD l v10 v11 s:=dU (M.Qd l v10 v11) s
def F.JD:LE X0 103:=le 4 (I5 [cu 0 (pL false 5),cu 10 (pL false 5),cu 11 pI,cu 12 pI] []) (λx=>x.1.va.1) (λx s=>((x.1.1,x.1.2.1,x.1.2.2.1,s,()),())) (λx=> .sum (.leaf (Unit) (λt=>(Ex.ret,⟨[(2,jO false)],[]⟩))) (.leaf (Int) (λt=>(Ex.exit 0,⟨[(0,wB 5 x.1.1),(10,wB 5 x.1.2.1),(11,iK x.1.2.2.1),(12,iK t),(13,jO false)],[]⟩)))) (λx=>M.Fv x.1.1 x.1.2.1 x.1.2.2.1) [fe C.ig] [F.JC] (by rintro _ _ _ _ _<;>simp only[qh,M.Fv,nb]<;>rfl)
abbrev M.Q7(l:au)(k:Bool->Option R):=(M.Ce l).bind λb=>cond (!b) (k false) ((M.JD l l ((↑l.length:Int)) 0).bind λc=>kT c (λg=>k false) λd=>letE d λf=>(M.Jf l).bind λa=>(M.jS a.1 a.2.1 a.2.2.1 a.2.2.2.1 (aF a.2.2.2.2)).bind λe=>k (decide (e<=40)))
def M.F5 l:=M.Q7 l some
def C.F5:=fTa S.F5 (λx=>M.Q7 x.1.1) [fe C.Ce,fe C.Jf,fe C.jS] [F.JD]
abbrev M.Q8(l:au)(k:Bool->Option R):=(M.F5 l).bind λa=>cond a ((idx l (i64.wrap ((↑l.length:Int) - 1))).bind λb=>(dG .i64 b 0).bind λd=>(M.iM d).bind λc=>k c) (k false)
def M.F6 l:=M.Q8 l some
def C.F6:=fTa S.F6 (λx=>M.Q8 x.1.1) [fe C.F5,fe C.iM]
abbrev M.IX(t':Int)(Gs:aI)(RN:Int)(k:Bool->Option R):=k (t'==2)
def M.yO t' Gs RN:=M.IX t' Gs RN some
def C.yO:=fTa S.yO (λx=>M.IX x.1.1.1 x.1.1.2.1 x.1.1.2.2.1)
def M.vX(s':au)(v7 s:Int)(kn:Int->Option R)(ke:(Int)⊕(Int)->Option R):Option R:=match s with
 |v8=>bif decide (v8<v7) then((idx s' v8).bind λa=>(dG .i64 a 0).bind λb=>(cStr a 1).bind λc=>(dG .i64 a 2).bind λd=>(M.yO b c d).bind λe=>bif e then(ke (.inl v8)) else kn (i64.wrap (v8+1))) else ke (.inr v8)
def M.vY s' v7 s:=M.vX s' v7 s (λs=>some (Sum.inl s)) λt=>some (Sum.inr t)
def M.En s' v7 s:=dU (M.vY s' v7) s
def F.En:LE X0 105:=le 2 (I5 [cu 0 (pL false 3),cu 1 (avS 40 [] []),cu 7 pI,cu 8 pI] []) (λx=>x.1.va.1) (λx s=>((x.1.1,((),()),x.1.2.2.1,s,()),())) (λx=> .sum (.leaf (Int) (λt=>(Ex.ret,⟨[(4,iK t)],[]⟩))) (.leaf (Int) (λt=>(Ex.exit 0,⟨[(0,wB 3 x.1.1),(1,V.clo 40 [] []),(7,iK x.1.2.2.1),(8,iK t),(9,jO false)],[]⟩)))) (λx=>M.vX x.1.1 x.1.2.2.1) [fe C.yO] [] (by rintro _ _ _ _ _<;>simp only[M.vX,nb]<;>rfl)
abbrev M.GK(s':au)(k:Int->Option R):=(M.En s' ((↑s'.length:Int)) 0).bind λb=>kT b (λa=>k a) λc=>letE c λd=>k (-1)
def M.slices_IndexFunc s':=M.GK s' some
def C.slices_IndexFunc:=fTa S.slices_IndexFunc (λx=>M.GK x.1.1) [] [F.En]
abbrev M.Bf(s':au)(k:Bool->Option R):=(M.slices_IndexFunc s').bind λa=>k (decide (a>=0))
def M.slices_ContainsFunc(s':au):Option (Bool):=M.Bf s' some
def C.slices_ContainsFunc:=fTa S.slices_ContainsFunc (λx=>M.Bf x.1.1) [fe C.slices_IndexFunc]
abbrev M.TB(l:au)(p:Int)(p1 p2 p3 p4:Bool)(k:au×Bool->Option R):=(M.oK l p p1 p2 p3 p4).bind λa=>cond (cond (a.2.2.1==0) (cond (a.2.2.2==0) true false) false) (k (a.1,a.2.1==(↑l.length:Int))) (k (a.1,false))
def M.MW l p p1 p2 p3 p4:=M.TB l p p1 p2 p3 p4 some
def C.MW:=fTa S.MW (λx=>M.TB x.1.1 x.1.2.1.1 x.1.2.1.2.1 x.1.2.1.2.2.1 x.1.2.1.va.1 x.1.2.1.va.2.1) [fe C.oK]
def M.DC(s1 s2:au)(v12 s:Int)(kn:Int->Option R)(ke:(Unit)⊕(Int)->Option R):Option R:=match s with
 |v13=>bif decide (v13<v12) then((idx s1 v13).bind λa=>(dG .i64 a 0).bind λb=>(idx s2 v13).bind λc=>(dG .i64 c 0).bind λd=>bif b !=d then(ke (.inl ())) else kn (i64.wrap (v13+1))) else ke (.inr v13)
def M.IY s1 s2 v12 s:=M.DC s1 s2 v12 s (λs=>some (Sum.inl s)) λt=>some (Sum.inr t)
def M.MH s1 s2 v12 s:=dU (M.IY s1 s2 v12) s
def F.MH:LE X0 108:=le 4 (I5 [cu 0 (pL false 1),cu 1 (pL false 1),cu 12 pI,cu 13 pI] []) (λx=>x.1.va.1) (λx s=>((x.1.1,x.1.2.1,x.1.2.2.1,s,()),())) (λx=> .sum (.leaf (Unit) (λt=>(Ex.ret,⟨[(4,jO false)],[]⟩))) (.leaf (Int) (λt=>(Ex.exit 0,⟨[(0,wB 1 x.1.1),(1,wB 1 x.1.2.1),(12,iK x.1.2.2.1),(13,iK t),(14,jO false)],[]⟩)))) (λx=>M.DC x.1.1 x.1.2.1 x.1.2.2.1) [] [] (by rintro _ _ _ _ _<;>simp only[M.DC,nb]<;>rfl)
abbrev M.O1(s1 s2:au)(k:Bool->Option R):=cond ((↑s1.length:Int) !=(↑s2.length:Int)) (k false) ((M.MH s1 s2 ((↑s1.length:Int)) 0).bind λb=>kT b (λd=>k false) λa=>letE a λc=>k true)
def M.slices_Equal s1 s2:=M.O1 s1 s2 some
def C.slices_Equal:=fTa S.slices_Equal (λx=>M.O1 x.1.1 x.1.2.1) [] [F.MH]
abbrev M.GL(x' jl:Int)(kW nT:aI)(oO:au)(y y1:Int)(y2 y3:aI)(y4:au)(k:Bool->Option R):=cond (x'==y) (cond (jl==y1) (cond (kW==y2) (cond (nT==y3) ((M.slices_Equal oO y4).bind λa=>k a) (k false)) (k false)) (k false)) (k false)
def M.wC x' jl kW nT oO y y1 y2 y3 y4:=M.GL x' jl kW nT oO y y1 y2 y3 y4 some
def C.wC:=fTa S.wC (λx=>M.GL x.1.1.1 x.1.1.2.1 x.1.1.2.2.1 x.1.1.va.1 x.1.1.va.2.1 x.1.2.1.1 x.1.2.1.2.1 x.1.2.1.2.2.1 x.1.2.1.va.1 x.1.2.1.va.2.1) [fe C.slices_Equal]
def M.vZ(s2 v15:au)(v16 s:Int)(kn:Int->Option R)(ke:(Unit)⊕(Int)->Option R):Option R:=match s with
 |v17=>bif decide (v17<v16) then((idx v15 v17).bind λb=>qh 1 b λaTh aTi aTj aTk axp=>((idx s2 v17).bind λc=>qh 1 c λaTl aTm aTn aTo axq=>((M.wC aTh aTi aTj aTk axp aTl aTm aTn aTo axq).bind λa=>bif !a then(ke (.inl ())) else kn (i64.wrap (v17+1))))) else ke (.inr v17)
def M.Bg s2 v15 v16 s:=M.vZ s2 v15 v16 s (λs=>some (Sum.inl s)) λt=>some (Sum.inr t)
def M.Eo s2 v15 v16 s:=dU (M.Bg s2 v15 v16) s
def F.Eo:LE X0 106:=le 4 (I5 [cu 1 (pL false 5),cu 2 (avS 107 [] []),cu 15 (pL false 5),cu 16 pI,cu 17 pI] []) (λx=>x.1.va.2.1) (λx s=>((x.1.1,((),()),x.1.2.2.1,x.1.va.1,s,()),())) (λx=> .sum (.leaf (Unit) (λt=>(Ex.ret,⟨[(6,jO false)],[]⟩))) (.leaf (Int) (λt=>(Ex.exit 0,⟨[(1,wB 5 x.1.1),(2,V.clo 107 [] []),(15,wB 5 x.1.2.2.1),(16,iK x.1.va.1),(17,iK t),(18,jO false)],[]⟩)))) (λx=>M.vZ x.1.1 x.1.2.2.1 x.1.va.1) [fe C.wC] [] (by rintro _ _ _ _ _<;>simp only[qh,M.vZ,nb]<;>rfl)
abbrev M.GN(s1 s2:au)(k:Bool->Option R):=cond ((↑s1.length:Int) !=(↑s2.length:Int)) (k false) ((M.Eo s2 s1 ((↑s1.length:Int)) 0).bind λb=>kT b (λc=>k false) λa=>letE a λd=>k true)
def M.wE s1 s2:=M.GN s1 s2 some
def C.wE:=fTa S.wE (λx=>M.GN x.1.1 x.1.2.1) [] [F.Eo]
abbrev M.MI(a b:au)(k:Bool->Option R):=(M.wE a b).bind λc=>k c
def M.zI a b:=M.MI a b some
def C.zI:=fTa S.zI (λx=>M.MI x.1.1 x.1.2.1) [fe C.wE]
abbrev M.O4(l x':au)(p:Int)(p1 p2 p3 p4:Bool)(k:Bool->Option R):=(M.F6 x').bind λb=>cond (!b) (k false) (cond (decide ((↑l.length:Int)>400)) (k false) ((M.slices_ContainsFunc l).bind λd=>cond d (k false) ((M.MW l p p1 p2 p3 p4).bind λa=>cond a.2 ((M.zI (aF a.1) x').bind λc=>k c) (k false))))
def M.Ci l x' p p1 p2 p3 p4:=M.O4 l x' p p1 p2 p3 p4 some
def C.Ci:=fTa S.Ci (λx=>M.O4 x.1.1 x.1.2.1 x.1.2.2.1.1 x.1.2.2.1.2.1 x.1.2.2.1.2.2.1 x.1.2.2.1.va.1 x.1.2.2.1.va.2.1) [fe C.F6,fe C.slices_ContainsFunc,fe C.MW,fe C.zI]
def M.x8(n':Int)(x':au)(jl:Int)(kW nT oO rY:Bool)(sV:au)(s:Int)(kn:Int->Option R)(ke:(Unit)⊕(Int)->Option R):Option R:=match s with
 |i=>bif decide (i<n') then((idx x' i).bind λc=>x'[i.toNat]?.bind λb=>(dG .i64 b 0).bind λa=>bif a==2 then(ke (.inl ())) else kn (i64.wrap (i+1))) else ke (.inr i)
def M.DI n' x' jl kW nT oO rY sV s:=M.x8 n' x' jl kW nT oO rY sV s (λs=>some (Sum.inl s)) λt=>some (Sum.inr t)
def M.ou n' x' jl kW nT oO rY sV s:=dU (M.DI n' x' jl kW nT oO rY sV) s
def F.ou:LE X0 3:=le 11 (I5 [cu 3 (pO 300000 0),cu 4 (pP 300001 0),cu 5 (pO 300002 0),cu 6 pI,cu 11 pI] [cu 300000 zby,cu 300001 (cB 26 zbs),cu 300002 zbB]) (λx=>x.1.va.2.1) (λx s=>(((),(),(),x.1.va.1,s,()),(x.2.1,(x.2.2.1.1,x.2.2.1.2.1,x.2.2.1.2.2.1,x.2.2.1.va.1,x.2.2.1.va.2.1,()),x.va.1,()))) (λx=> .sum (.leaf (Unit) (λt=>(Ex.ret,⟨[(2,jO true)],[]⟩))) (.leaf (Int) (λt=>(Ex.exit 0,⟨[(3,V.own 300000 0),(4,V.ptr 300001 0),(5,V.own 300002 0),(6,iK x.1.va.1),(11,iK t),(58,jO false)],[(300000,Cell.arr false true 0 3 x.2.1),(300001,Cell.box 26 [iK x.2.2.1.1,jO x.2.2.1.2.1,jO x.2.2.1.2.2.1,jO x.2.2.1.va.1,jO x.2.2.1.va.2.1]),(300002,Cell.arr false false 0 5 x.va.1)]⟩)))) (λx=>M.x8 x.1.va.1 x.2.1 x.2.2.1.1 x.2.2.1.2.1 x.2.2.1.2.2.1 x.2.2.1.va.1 x.2.2.1.va.2.1 x.va.1) [] [] (by rintro _ _ _ _ _<;>unfold M.x8<;>exact zbJ)
abbrev M.KD(code:au)(k:Bool->Option R):=(M.Ug code).bind λj=>cond j (k true) ((M.qj code).bind λa=>(M.oK a.1 a.2.1 a.2.2.1 a.2.2.2.1 a.2.2.2.2.1 a.2.2.2.2.2).bind λb=>cond ([[D.sl true 5 b.1],[D.int .i64 b.2.1],[D.int .i64 b.2.2.1,D.int .i64 b.2.2.2]].all lU) (cond (b.2.2.1 !=0) ((M.xI a.1 a.2.1 a.2.2.1 a.2.2.2.1 a.2.2.2.2.1 a.2.2.2.2.2).bind λc=>cond (cond (b.2.2.1==c.2.2.2.1) (cond (b.2.2.2==c.2.2.2.2) true false) false) (cond (b.2.1==0) (k ((↑b.1.length:Int)==0)) (k false)) (k false)) (cond (decide (b.2.1<1)) (k false) (cond (decide (b.2.1>(↑a.1.length:Int))) (k false) ((M.ou b.2.1 a.1 a.2.1 a.2.2.1 a.2.2.2.1 a.2.2.2.2.1 a.2.2.2.2.2 b.1 0).bind λd=>kT d (λm=>k true) λe=>letE e λl=>cond (decide (b.2.1>300)) (k true) ((cut a.1 0 b.2.1).bind λi=>(M.Cc i (aF b.1) a.2.1 a.2.2.1 a.2.2.2.1 a.2.2.2.2.1 a.2.2.2.2.2).bind λf=>cond f ((cut a.1 0 b.2.1).bind λh=>(M.Ci h (aF b.1) a.2.1 a.2.2.1 a.2.2.2.1 a.2.2.2.2.1 a.2.2.2.2.2).bind λg=>k g) (k false)))))) none)
def M.zY code:=M.KD code some
def C.zY:=fTa S.zY (λx=>M.KD x.1.1) [fe C.Ug,fe C.qj,fe C.oK,fe C.xI,fe C.Cc,fe C.Ci] [F.ou]
end
def a1f:(∀a b:Int,(a>=b)=(b<=a))/\(∀a b:Int,(a>b)=(b<a))/\(∀h:Decidable True,@decide True h=true)/\(∀h:Decidable False,@decide False h=false)/\(∀(α:Type) (a b:α),cond true a b=a)/\(∀(α:Type) (a b:α),cond false a b=b)/\(∀b:Bool,(b && true)=b)/\(∀b:Bool,(b && false)=false)/\(∀b:Bool,(true && b)=b)/\(∀b:Bool,(false && b)=false)/\((!true)=false)/\((!false)=true):=
 ⟨λ_ _=>rfl,λ_ _=>rfl,λh=>@decide_eq_true True h trivial,λh=>@decide_eq_false False h id,λ_ _ _=>rfl,λ_ _ _=>rfl,λb=>by cases b<;>rfl,λb=>by cases b<;>rfl,λ_=>rfl,λ_=>rfl,rfl,rfl⟩
def fM{m n:Nat}(h:m<=n):m.ble n=true:=Nat.ble_eq_true_of_le h
def ah{α β:Type}(a:α)(f:α->Option β):(some a).bind f=f a:=rfl
def x9:((0:Nat):Int)=0:=rfl
def TD(s:aI)(a:Int):Int:=if 0<=a then(match s[a.toNat]? with|some c=>(c.toNat:Int)|none=> -1) else -1
def isD(b:Int):Bool:=decide (b>=48) && decide (b<=57)
def Nz(s:aI)(a:Int):Int:=if 0<=a then a+(((s.drop a.toNat).takeWhile λc=>isD (c.toNat:Int)).length:Nat) else a
def asB(c:UInt8):c.toNat<256:=c.toNat_lt
def U7(s:aI)(i:Nat):TD s (i:Int)=(match s[i]? with|some c=>(c.toNat:Int)|none=> -1):=by rw[TD,if_pos ak,Yf]
section
variable {s:aI} (h:s.length<=1048576)
include h
theorem O5(a:Int):M.jD s a=some (TD s a):=by
 simp only[M.jD,M.QD]
 by_cases h0:a<0
 ·rw[zdt h0,aJ,TD,if_neg ak]
 ·rw[rF h0,aW];obtain⟨i,rfl⟩:∃i:Nat,a=i:=⟨a.toNat,ak⟩
  rw[U7]
  by_cases h1:(i:Int)>=(s.length:Int)
  ·rw[zdt h1,aJ,List.getElem?_eq_none ak]
  ·obtain⟨c,hc⟩:∃c,s[i]? =some c:=⟨s[i]'ak,by simp⟩
   have:=asB c;rw[rF h1,aW,bK,hc,ah,aK ak ak]
theorem O6(a:Int):M.nU s a=some (TD s a):=by
 simp only[M.nU,M.QO,M.dM,M.D8];rw[aK ak ak]
 by_cases h0:a<0
 ·rw[rF ak,aW,ah,Bool.not_false,aJ,TD,if_neg ak]
 ·rw[zdt ak,aJ,ah];obtain⟨i,rfl⟩:∃i:Nat,a=i:=⟨a.toNat,ak⟩
  rw[U7]
  by_cases h1:(i:Int)>=(s.length:Int)
  ·rw[rF ak,Bool.not_false,aJ,List.getElem?_eq_none ak]
  ·obtain⟨c,hc⟩:∃c,s[i]? =some c:=⟨s[i]'ak,by simp⟩
   have:=asB c;rw[zdt ak,zaZ,aW,bK,hc,ah,aK ak ak]
end
def apr(b:Int):M.wZ b=some (isD b):=by simp only[M.wZ,M.NZ,M.dL,M.Cj,isD];cases decide (b>=48)<;>rfl
def aps(b:Int):M.xg b=some (isD b):=by simp only[M.xg,M.Oh,isD];cases decide (b>=48)<;>rfl
def aEl{s:aI}{b:Int->Option (Int⊕Int)}(hb:∀a,0<=a->a<=2000000->b a=some (bif isD (TD s a) then .inl (a+1) else .inr a))(h:s.length<=1048576):
  ∀(rest pre:aI),s=pre++rest->dU b (pre.length:Int)=some ((pre.length:Int)+((rest.takeWhile λc=>isD (c.toNat:Int)).length:Nat))
 |[],pre,e=>by
  have hl:pre.length=s.length:=by rw[e];simp
  refine aQ ?_;rw[hb _ ak ak,U7,List.getElem?_eq_none ak];simp[isD]
 |c::rest,pre,e=>by
  have hl:s.length=pre.length+(rest.length+1):=by rw[e];simp
  have hget:s[pre.length]? =some c:=by rw[e,List.getElem?_append_right (zba _),Nat.sub_self];rfl
  have hs:=hb (pre.length:Int) ak ak;rw[U7,hget] at hs;simp only at hs;cases hd:isD (c.toNat:Int) with
  |true=>have:=aEl hb h rest (pre++[c]) (by rw[e];simp);rw[PD,TG] at this;rw[hd,aJ] at hs;rw[bI hs,List.takeWhile_cons,if_pos hd,show(pre.length:Int)+1=((pre.length+1:Nat):Int) by omega,this];simp;omega
  |false=>rw[hd,aW] at hs;rw[aQ hs,List.takeWhile_cons,hd];simp
def axu{s:aI}{b:Int->Option (Int⊕Int)}(hb:∀a,0<=a->a<=2000000->b a=some (bif isD (TD s a) then .inl (a+1) else .inr a))(h:s.length<=1048576)(a:Int)(h0:0<=a)(h1:a<=2000000):dU b a=some (Nz s a):=by
 obtain⟨i,rfl⟩:∃i:Nat,a=i:=⟨a.toNat,ak⟩
 rw[Nz,if_pos h0,Yf]
 by_cases hi:i<=s.length
 ·have:=aEl hb h (s.drop i) (s.take i) (List.take_append_drop i s).symm;rw[zlt,Nat.min_eq_left hi] at this;exact this
 ·rw[List.drop_eq_nil_of_le ak];refine aQ ?_;rw[hb _ h0 h1,U7,List.getElem?_eq_none ak];simp[isD]
def Xx{s:aI}(h:s.length<=1048576){a:Int}(h0:0<=a):a<=Nz s a/\(Nz s a<=a\/Nz s a<=s.length):=by have h1:=(List.takeWhile_sublist (p:=λc:UInt8=>isD (c.toNat:Int)) (l:=s.drop a.toNat)).length_le;rw[List.length_drop] at h1;rw[Nz,if_pos h0];omega
section
variable {s:aI} (h:s.length<=1048576)
include h
theorem Fz(a:Int)(h0:0<=a)(h1:a<=2000000):M.eu s a=some (Nz s a):=by simp only[M.eu,M.LM,M.JZ];rw[axu (λa h0 h1=>by simp only[M.Ul,M.Gq,O5 h,apr,ah];rw[aK ak ak];cases isD (TD s a)<;>rfl) h a h0 h1,ah]
theorem DJ(a:Int)(h0:0<=a)(h1:a<=2000000):M.iJ s a=some (Nz s a):=by simp only[M.iJ,M.J6,M.Io];rw[axu (λa h0 h1=>by simp only[M.Sv,M.Eh,O6 h,aps,ah];rw[aK ak ak];cases isD (TD s a)<;>rfl) h a h0 h1,ah]
end
def aec(s:aI)(r:Int):Int:=bif(TD s r==101)||(TD s r==69) then
  (bif(TD s (r+1)==43)||(TD s (r+1)==45) then(bif decide (Nz s (r+1+1)>r+1+1) then Nz s (r+1+1) else r) else(bif decide (Nz s (r+1)>r+1) then Nz s (r+1) else r)) else r
def aiA(s:aI)(a:Int):Int:=if a<0\/(s.length:Int)<=a then -1 else
 bif TD s (Nz s a)==46 then(bif(Nz s a==a) &&(Nz s (Nz s a+1)==Nz s a+1) then -1 else aec s (Nz s (Nz s a+1))) else(bif Nz s a==a then -1 else aec s (Nz s a))
section
variable {s:aI} (h:s.length<=1048576)
include h
set_option maxHeartbeats 2000000 in
theorem aiB(a:Int)(ha:a<=1048576):M.FV s a=some (aiA s a):=by
 simp only[M.FV,M.QS,M.EN,M.dM,M.D8,aiA];rw[aK ak ak]
 by_cases h0:a<0
 ·rw[rF ak,aW,ah,Bool.not_false,aJ,if_pos (.inl h0)]
 ·rw[zdt ak,aJ,ah]
  by_cases h1:(s.length:Int)<=a
  ·rw[rF ak,Bool.not_false,aJ,if_pos (.inr h1)]
  ·rw[zdt ak,zaZ,aW,if_neg ak,DJ h a ak ak,ah];have e1:=Xx h (a:=a) ak;generalize hE:Nz s a=e at e1|-;simp only[O6 h,ah];rw[aK (n:=e+1) ak ak,aK (n:=e - a) ak ak,DJ h (e+1) ak ak,ah];have e2:=Xx h (a:=e+1) ak;generalize hK:Nz s (e+1)=k at e2|-;have hz:(i64.wrap (e - a+i64.wrap (i64.wrap (k - e) - 1))==0)=((e==a) &&(k==e+1)):=by rw[aK (n:=k - e) ak ak,aK (n:=k - e - 1) ak ak,aK ak ak,Bool.eq_iff_iff];simp only[wo,beq_iff_eq];omega
   have hz2:(e - a==0)=(e==a):=by rw[Bool.eq_iff_iff];simp only[beq_iff_eq];omega
   rw[hz,hz2];have ex:∀r:Int,0<=r->r<=1048578->(bif TD s r==101 then
      ((some (TD s (i64.wrap (r+1)))).bind λaTB=>
      (bif aTB==43 then
       ((M.iJ s (i64.wrap (i64.wrap (r+1)+1))).bind λaTC=>
       (bif decide (aTC>i64.wrap (i64.wrap (r+1)+1)) then(some aTC) else(some r))) else
       (bif aTB==45 then
       ((M.iJ s (i64.wrap (i64.wrap (r+1)+1))).bind λaTD=>(bif decide (aTD>i64.wrap (i64.wrap (r+1)+1)) then(some aTD) else(some r))) else
       ((M.iJ s (i64.wrap (r+1))).bind λaTE=>(bif decide (aTE>i64.wrap (r+1)) then(some aTE) else(some r)))))) else
      (bif TD s r==69 then
      ((some (TD s (i64.wrap (r+1)))).bind λaTF=>
       (bif aTF==43 then
       ((M.iJ s (i64.wrap (i64.wrap (r+1)+1))).bind λaTG=>(bif decide (aTG>i64.wrap (i64.wrap (r+1)+1)) then(some aTG) else(some r))) else
       (bif aTF==45 then
        ((M.iJ s (i64.wrap (i64.wrap (r+1)+1))).bind λaAl=>
        (bif decide (aAl>i64.wrap (i64.wrap (r+1)+1)) then(some aAl) else(some r))) else
        ((M.iJ s (i64.wrap (r+1))).bind λacN=>(bif decide (acN>i64.wrap (r+1)) then(some acN) else(some r)))))) else(some r)))=some (aec s r):=by
    intro r h0 h1;rw[aK (n:=r+1) ak ak,aK (n:=r+1+1) ak ak,DJ h (r+1) ak ak,DJ h (r+1+1) ak ak,aec];simp only[ah];cases TD s r==101<;>cases TD s r==69<;>cases TD s (r+1)==43<;>cases TD s (r+1)==45<;>cases decide (Nz s (r+1+1)>r+1+1)<;>cases decide (Nz s (r+1)>r+1)<;>rfl
   simp only[ah] at ex;cases TD s e==46 with
   |true=>
    simp only[aJ];cases(e==a) &&(k==e+1) with
    |true=>rfl
    |false=>simp only[aW];exact ex k ak ak
   |false=>
    simp only[aW];cases e==a with
    |true=>rfl
    |false=>simp only[aW];have h2:=ex e ak ak;rw[aK (n:=e+1) ak ak,DJ h (e+1) ak ak,hK] at h2;simp only[ah] at h2;exact h2
theorem aiC(a:Int)(ha:a<=1048576):M.FK s a=some (aiA s a):=by
 simp only[M.FK,M.QE,M.xK,aiA]
 by_cases h0:a<0
 ·rw[zdt h0,aJ,if_pos (.inl h0)]
 ·rw[rF h0,aW];have e1:=Xx h (a:=a) ak;rw[Fz h a ak ak,ah];simp only[O5 h,ah]
  by_cases h1:(s.length:Int)<=a
  ·have he:Nz s a=a:=ak;obtain⟨i,rfl⟩:∃i:Nat,a=i:=⟨a.toNat,ak⟩
   have hb:TD s (i:Int)= -1:=by rw[U7,List.getElem?_eq_none ak]
   rw[he,hb,if_pos (.inr h1),show((-1:Int)==46)=false from rfl,aW,beq_self_eq_true,aJ]
  ·rw[if_neg ak];generalize hE:Nz s a=e at e1|-;have e2:=Xx h (a:=e+1) ak;rw[aK (n:=e+1) ak ak,Fz h (e+1) ak ak,ah];have ex:∀r:Int,0<=r->r<=1048578->(bif TD s r==101 then
      (bif TD s (i64.wrap (r+1))==43 then
       ((M.eu s (i64.wrap (i64.wrap (r+1)+1))).bind λatU=>
        (bif decide (atU>i64.wrap (i64.wrap (r+1)+1)) then
        ((M.eu s (i64.wrap (i64.wrap (r+1)+1))).bind λatV=>(some atV)) else(some r))) else
        (bif TD s (i64.wrap (r+1))==45 then
        ((M.eu s (i64.wrap (i64.wrap (r+1)+1))).bind λaq9=>
         (bif decide (aq9>i64.wrap (i64.wrap (r+1)+1)) then
         ((M.eu s (i64.wrap (i64.wrap (r+1)+1))).bind λxJ=>(some xJ)) else(some r))) else
        ((M.eu s (i64.wrap (r+1))).bind λatW=>(bif decide (atW>i64.wrap (r+1)) then((M.eu s (i64.wrap (r+1))).bind λadJ=>(some adJ)) else(some r))))) else
       (bif TD s r==69 then
        (bif TD s (i64.wrap (r+1))==43 then
        ((M.eu s (i64.wrap (i64.wrap (r+1)+1))).bind λa1g=>
         (bif decide (a1g>i64.wrap (i64.wrap (r+1)+1)) then
         ((M.eu s (i64.wrap (i64.wrap (r+1)+1))).bind λa1h=>(some a1h)) else(some r))) else
         (bif TD s (i64.wrap (r+1))==45 then
         ((M.eu s (i64.wrap (i64.wrap (r+1)+1))).bind λa1i=>
          (bif decide (a1i>i64.wrap (i64.wrap (r+1)+1)) then
          ((M.eu s (i64.wrap (i64.wrap (r+1)+1))).bind λa1j=>(some a1j)) else(some r))) else
         ((M.eu s (i64.wrap (r+1))).bind λa1k=>(bif decide (a1k>i64.wrap (r+1)) then((M.eu s (i64.wrap (r+1))).bind λa1l=>(some a1l)) else(some r))))) else(some r)))=some (aec s r):=by
    intro r h0 h1;rw[aK (n:=r+1) ak ak,aK (n:=r+1+1) ak ak,Fz h (r+1) ak ak,Fz h (r+1+1) ak ak,aec];simp only[ah];cases TD s r==101<;>cases TD s r==69<;>cases TD s (r+1)==43<;>cases TD s (r+1)==45<;>cases decide (Nz s (r+1+1)>r+1+1)<;>cases decide (Nz s (r+1)>r+1)<;>rfl
   generalize hK:Nz s (e+1)=k at e2|-;have hka:(k==a)=false:=by rw[nY];omega
   rw[hka];cases TD s e==46 with
   |true=>
    simp only[aJ,aW];cases e==a with
    |true=>
     simp only[aJ,Bool.true_and];cases k==e+1 with
     |true=>rfl
     |false=>simp only[aW];exact ex k ak ak
    |false=>simp only[aW,Bool.false_and];exact ex k ak ak
   |false=>
    simp only[aW];cases e==a with
    |true=>rfl
    |false=>simp only[aW];have h2:=ex e ak ak;rw[aK (n:=e+1) ak ak,Fz h (e+1) ak ak,hK] at h2;simp only[ah] at h2;exact h2
end
def ajU(q:Int):aI->Int->Int
 |[],_=> -1
 |c::l,i=>if(c.toNat:Int)=q then i+1 else if(c.toNat:Int)=10 then -1 else if(c.toNat:Int)=92 then(match l with
   |[]=> -1
   |d::l'=>if(d.toNat:Int)=10 then -1 else ajU q l' (i+2)) else ajU q l (i+1)
def ak1(q:Int)(c:UInt8)(l:aI)(i:Int):ajU q (c::l) i=if(c.toNat:Int)=q then i+1 else if(c.toNat:Int)=10 then -1 else if(c.toNat:Int)=92 then(match l with
   |[]=> -1
   |d::l'=>if(d.toNat:Int)=10 then -1 else ajU q l' (i+2)) else ajU q l (i+1):=by
 cases l with
 |nil=>simp[ajU]
 |cons d l=>simp[ajU]
def hdI:aI->Int
 |[]=> -1
 |d::_=>(d.toNat:Int)
def quoted(s:aI)(a q:Int):Int:=if TD s a=q then ajU q (s.drop (a+1).toNat) (a+1) else -1
def axv{s:aI}(h:s.length<=1048576)(q:Int)(hq:q≠10):∀(n:Nat) (rest pre:aI),rest.length<=n->s=pre++rest->
  (∃r,M.wL s q (pre.length:Int)=some r/\(kT r some λu=>letE u λ_=>some (-1))=some (ajU q rest (pre.length:Int)))/\
  (∃r,M.uQ s q (pre.length:Int)=some r/\(kT r some λu=>letE u λ_=>some (-1))=some (ajU q rest (pre.length:Int)))
 |n,[],pre,hn,e=>by
  have hl:pre.length=s.length:=by rw[e];simp
  constructor
  ·refine⟨.inr (pre.length:Int), ?_,rfl⟩;rw[M.wL];refine aQ ?_;simp only[M.Af,M.wK];rw[rF ak,aW]
  ·refine⟨.inr (pre.length:Int), ?_,rfl⟩;rw[M.uQ];refine aQ ?_;simp only[M.yY,M.vg];rw[rF ak,aW]
 |0,c::rest,pre,hn,e=>by simp at hn
 |n+1,c::rest,pre,hn,e=>by
  simp only[ZE] at hn;have hl:s.length=pre.length+(rest.length+1):=by rw[e];simp
  have hget:s[pre.length]? =some c:=by rw[e,List.getElem?_append_right (zba _),Nat.sub_self];rfl
  have hc:=asB c;have hw:i64.wrap ((c.toNat:Nat):Int)=(c.toNat:Int):=aK ak ak;have hw1:i64.wrap ((pre.length:Int)+1)=((pre.length+1:Nat):Int):=by rw[aK ak ak];omega
  have hw2:i64.wrap (((pre.length+1:Nat):Int)+1)=((pre.length+2:Nat):Int):=by rw[aK ak ak];omega
  have hnext:TD s ((pre.length+1:Nat):Int)=hdI rest:=by rw[U7,e,List.getElem?_append_right ak,show pre.length+1 - pre.length=1 by omega];cases rest<;>rfl
  have hS:M.Af s q (pre.length:Int)=some (if(c.toNat:Int)=q then .inr (.inl ((pre.length+1:Nat):Int)) else if(c.toNat:Int)=10 then .inr (.inl (-1)) else if(c.toNat:Int)=92 then
    (if TD s ((pre.length+1:Nat):Int)=10 then .inr (.inl (-1)) else .inl ((pre.length+2:Nat):Int)) else .inl ((pre.length+1:Nat):Int)):=by
   simp only[M.Af,M.wK,bK,hget,ah,hw,hw1,hw2,O5 h];rw[zdt ak,aJ]
   by_cases c1:(c.toNat:Int)=q
   ·rw[if_pos c1,show((c.toNat:Int)==q)=true by simpa using c1,aJ]
   ·rw[if_neg c1,show((c.toNat:Int)==q)=false by simpa using c1,aW]
    by_cases c2:(c.toNat:Int)=10
    ·rw[if_pos c2,show((c.toNat:Int)==10)=true by simpa using c2,aJ]
    ·rw[if_neg c2,show((c.toNat:Int)==10)=false by simpa using c2,aW]
     by_cases c3:(c.toNat:Int)=92
     ·rw[if_pos c3,show((c.toNat:Int)==92)=true by simpa using c3,aJ]
      by_cases c4:TD s ((pre.length+1:Nat):Int)=10
      ·rw[if_pos c4,c4];rfl
      ·rw[if_neg c4,show(TD s ((pre.length+1:Nat):Int)==10)=false by simpa using c4,aW]
     ·rw[if_neg c3,show((c.toNat:Int)==92)=false by simpa using c3,aW]
  have hI:M.yY s q (pre.length:Int)=some (if(c.toNat:Int)=10 then .inr (.inr (pre.length:Int)) else if(c.toNat:Int)=q then .inr (.inl ((pre.length+1:Nat):Int)) else if(c.toNat:Int)=92 then
    (if TD s ((pre.length+1:Nat):Int)=10 then .inl ((pre.length+1:Nat):Int) else .inl ((pre.length+2:Nat):Int)) else .inl ((pre.length+1:Nat):Int)):=by
   simp only[M.yY,M.vg,bK,hget,ah,hw,hw1,hw2,O6 h];rw[zdt ak,aJ]
   by_cases c2:(c.toNat:Int)=10
   ·rw[if_pos c2,show((c.toNat:Int) !=10)=false by simpa using c2,aW]
   ·rw[if_neg c2,show((c.toNat:Int) !=10)=true by simpa using c2,aJ]
    by_cases c1:(c.toNat:Int)=q
    ·rw[if_pos c1,show((c.toNat:Int)==q)=true by simpa using c1,aJ]
    ·rw[if_neg c1,show((c.toNat:Int)==q)=false by simpa using c1,aW]
     by_cases c3:(c.toNat:Int)=92
     ·rw[if_pos c3,show((c.toNat:Int)==92)=true by simpa using c3,aJ]
      by_cases c4:TD s ((pre.length+1:Nat):Int)=10
      ·rw[if_pos c4,c4];rfl
      ·rw[if_neg c4,show(TD s ((pre.length+1:Nat):Int) !=10)=true by simpa using c4,aJ]
     ·rw[if_neg c3,show((c.toNat:Int)==92)=false by simpa using c3,aW]
  have e1:s=(pre++[c])++rest:=by rw[e];simp
  have ih1:=axv h q hq n rest (pre++[c]) ak e1;rw[PD,TG] at ih1;rw[M.wL,M.uQ] at ih1|-;rw[ak1]
  by_cases c1:(c.toNat:Int)=q
  ·have c2:¬(c.toNat:Int)=10:=ak;rw[if_pos c1];rw[if_pos c1] at hS;rw[if_neg c2,if_pos c1] at hI;refine⟨⟨_,aQ hS, ?_⟩,⟨_,aQ hI, ?_⟩⟩<;>simp[kT]
  ·rw[if_neg c1];rw[if_neg c1] at hS
   by_cases c2:(c.toNat:Int)=10
   ·rw[if_pos c2];rw[if_pos c2] at hS hI;exact⟨⟨_,aQ hS,rfl⟩,⟨_,aQ hI,rfl⟩⟩
   ·rw[if_neg c2];rw[if_neg c2] at hS hI;rw[if_neg c1] at hI
    by_cases c3:(c.toNat:Int)=92
    ·rw[if_pos c3];rw[if_pos c3] at hS hI;cases rest with
     |nil=>
      rw[hnext,hdI] at hS hI;simp only[show¬((-1:Int)=10) by omega,if_false] at hS hI;have hend:∀(b:Int->Option (Int⊕(Int⊕Int))),True:=λ_=>trivial
      simp only[zln] at hl;refine⟨⟨.inr ((pre.length+2:Nat):Int), ?_,rfl⟩,⟨.inr ((pre.length+2:Nat):Int), ?_,rfl⟩⟩
      ·rw[bI hS];refine aQ ?_;simp only[M.Af,M.wK];rw[rF ak,aW]
      ·rw[bI hI];refine aQ ?_;simp only[M.yY,M.vg];rw[rF ak,aW]
     |cons d rest'=>
      simp only[hdI] at hnext|-;rw[hnext] at hS hI
      by_cases c4:(d.toNat:Int)=10
      ·rw[if_pos c4];rw[if_pos c4] at hS hI;refine⟨⟨_,aQ hS,rfl⟩, ?_⟩;obtain⟨r,h1,h2⟩:=ih1.2;refine⟨r,by rw[bI hI];exact h1, ?_⟩;rw[h2,ak1,if_neg ak,if_pos c4]
      ·rw[if_neg c4];rw[if_neg c4] at hS hI;have e2:s=(pre++[c,d])++rest':=by rw[e];simp
       simp only[ZE] at hn;have ih2:=axv h q hq n rest' (pre++[c,d]) ak e2;rw[PD,show[c,d].length=2 from rfl,M.wL,M.uQ] at ih2;rw[bI hS,bI hI,show(pre.length:Int)+2=((pre.length+2:Nat):Int) by omega];exact ih2
    ·rw[if_neg c3];rw[if_neg c3] at hS hI;rw[bI hS,bI hI,show(pre.length:Int)+1=((pre.length+1:Nat):Int) by omega];exact ih1
section
variable {s:aI} (h:s.length<=1048576)
include h
theorem ak2(a q:Int)(h0:0<=a)(h1:a<=1048576)(hq:0<=q)(hq2:q≠10):M.ug s a q=some (quoted s a q)/\M.rQ s a q=some (quoted s a q):=by
 simp only[M.ug,M.LP,M.rQ,M.J7,O5 h,O6 h,ah,quoted]
 by_cases hb:TD s a=q
 ·rw[if_pos hb,show(TD s a !=q)=false by simpa using hb,aW,aW,aK ak ak];obtain⟨i,rfl⟩:∃i:Nat,a=i:=⟨a.toNat,ak⟩
  have hi:i<s.length:=by
   rcases Nat.lt_or_ge i s.length with hlt|hge
   ·exact hlt
   ·rw[U7,List.getElem?_eq_none hge] at hb;simp only at hb;omega
  obtain⟨⟨r,k1,k2⟩,⟨r',k3,k4⟩⟩:=axv h q hq2 _ (s.drop (i+1)) (s.take (i+1)) (zba _) (List.take_append_drop _ s).symm;rw[zlt,Nat.min_eq_left ak] at k1 k2 k3 k4;rw[show(i:Int)+1=((i+1:Nat):Int) by omega,Yf,k1,k3,ah,ah];exact⟨k2,k4⟩
 ·rw[if_neg hb,show(TD s a !=q)=true by simpa using hb,aJ,aJ];exact⟨rfl,rfl⟩
theorem auw(a:Int)(h0:0<=a)(h1:a<=1048576):M.FM s a=some (quoted s a 34)/\M.FW s a=some (quoted s a 34):=by have:=ak2 h a 34 h0 h1 ak ak;simp only[M.FM,M.QF,M.FW,M.QT,this.1,this.2,ah];constructor<;>first|rfl|trivial
def aiD(s:aI)(a:Int):Int:=bif quoted s a 47==a+2 then -1 else quoted s a 47
theorem auy(a:Int)(h0:0<=a)(h1:a<=1048576):M.FP s a=some (aiD s a)/\M.FX s a=some (aiD s a):=by have:=ak2 h a 47 h0 h1 ak ak;simp only[M.FP,M.QG,M.FX,M.QU,this.1,this.2,ah,aiD];rw[aK ak ak];cases quoted s a 47==a+2<;>simp
end
end Go.Proofs.YthmchnpcplgciaaGreatDoor
namespace Go.Proofs.YthmchnpcplgciaaGreatDoor
open Go Go.Vm
@[simp] theorem Zl(l:List (aI)):(encS l).length=l.length:=by simp[encS]
@[simp] theorem acO(l:List (aI))(i:Nat):(encS l)[i]? =(l[i]?).map λs=>[D.str s]:=by simp[encS]
def cS0(s:aI):cStr [D.str s] 0=some s:=rfl
def strsOf:Row->List (aI)
 |[]=>[]
 | .str s::r=>s::strsOf r
 |_::r=>strsOf r
def Zm:List (aI):=strsOf FI
def amB:List (aI):=strsOf Wq
def apt:List (aI):=strsOf Nu
def U8(s:aI):List (aI)->Int->Int
 |[],_=> -1
 |x::l,i=>if x==s then i else U8 s l (i+1)
def ae9(s:aI):∀(l:List (aI)) (i:Int),0<=i-> -1<=U8 s l i/\U8 s l i<i+l.length
 |[],i,h=>by simp[U8];omega
 |x::l,i,h=>by
  rw[U8];split
  ·simp;omega
  ·have:=ae9 s l (i+1) ak;simp only[ZE];omega
def ak3(s:aI)(l:List (aI))(hl:l.length<=1048576){b:Int->Option (Int⊕(Int⊕Int))}
  (hb:∀(i:Nat) x,l[i]? =some x->b (i:Int)=some (if x==s then .inr (.inl (i:Int)) else .inl ((i:Int)+1))) (he:b (l.length:Int)=some (.inr (.inr (l.length:Int)))):
  ∃r,dU b 0=some r/\(kT r some λu=>letE u λ_=>some (-1))=some (U8 s l 0):=by
 have key:∀(t:List (aI)) (i:Nat),l.drop i=t->i<=l.length->∃r,dU b (i:Int)=some r/\(kT r some λu=>letE u λ_=>some (-1))=some (U8 s t (i:Int)):=by
  intro t;induction t with
  |nil=>
   intro i hd hi;have:i=l.length:=by have:=congrArg List.length hd;simp at this;omega
   subst this;exact⟨_,aQ he,rfl⟩
  |cons x t ih=>
   intro i hd hi;have hx:l[i]? =some x:=by
    have:(l.drop i)[0]? =some x:=by rw[hd];rfl
    simpa using this
   have hlt:i<l.length:=(Qm.1 hx).1;have hd':l.drop (i+1)=t:=by rw[<-List.drop_drop,hd];rfl
   have hs:=hb i x hx;rw[U8];cases hxs:x==s with
   |true=>rw[hxs] at hs;exact⟨_,aQ hs,rfl⟩
   |false=>
    rw[hxs] at hs;obtain⟨r,h1,h2⟩:=ih (i+1) hd' hlt;refine⟨r, ?_, ?_⟩
    ·rw[bI hs,show(i:Int)+1=((i+1:Nat):Int) by omega];exact h1
    ·rw[h2];simp
 exact key l 0 rfl (Nat.zero_le _)
def ak4(s:aI)(l:List (aI))(hl:l.length<=1048576):M.zB (encS l) s=some (U8 s l 0):=by
 obtain⟨r,h1,h2⟩:=ak3 s l hl (b:=M.JW (encS l) s)
  (λi x hx=>by have hi:=(Qm.1 hx).1;simp only[M.JW,M.ED,Zl,bK,acO,hx,Ht,ah,cS0];rw[zdt ak,aJ,aK ak ak];cases x==s<;>rfl)
  (by simp only[M.JW,M.ED,Zl];rw[rF ak,aW])
 simp only[M.zB,M.QB,M.N7];rw[h1,ah];exact h2
def apu(s:aI)(l:List (aI))(hl:l.length<=1048576):M.slices_Index (encS l) s=some (U8 s l 0):=by
 obtain⟨r,h1,h2⟩:=ak3 s l hl (b:=M.Ir (encS l) s (l.length:Int))
  (λi x hx=>by have hi:=(Qm.1 hx).1;simp only[M.Ir,M.CW,bK,acO,hx,Ht,ah,cS0];rw[zdt ak,aJ,aK ak ak,show(s==x)=(x==s) by rw[Bool.eq_iff_iff,beq_iff_eq,beq_iff_eq];exact⟨Eq.symm,Eq.symm⟩];cases x==s<;>rfl)
  (by simp only[M.Ir,M.CW];rw[rF ak,aW])
 simp only[M.slices_Index,M.Oi,M.LX,Zl];rw[h1,ah];exact h2
def axw(s:aI):Int:=if U8 s Zm 0<0 then 0 else 10+U8 s Zm 0
def acP(s:aI):Bool:=decide (U8 s apt 0>=0)
def apv:M.zl=some (encS Zm):=rfl
def apw:M.qy=some (encS apt):=rfl
def axx:M.Gg=some (encS amB):=rfl
def aGk:List.map (λx=>[x]) FI=encS Zm:=rfl
def aCA:List.map (λx=>[x]) Nu=encS apt:=rfl
def amC(s:aI):M.xF s=some (axw s)/\M.xH s=some (axw s):=by
 have hr:=ae9 s Zm 0 ak;have hl:Zm.length=17:=rfl;simp only[M.xF,M.JX,M.xH,M.J9,apv,aGk,ah,ak4 s Zm (by rw[hl];omega),apu s Zm (by rw[hl];omega),axw]
 by_cases h:U8 s Zm 0<0
 ·rw[zdt h,aJ,if_pos h];exact⟨rfl,rfl⟩
 ·rw[rF h,aW,if_neg h,aK ak ak];exact⟨rfl,rfl⟩
def O7(s:aI):M.oD s=some (acP s)/\M.oH s=some (acP s):=by have hl:apt.length=21:=rfl;simp only[M.oD,M.JY,M.oH,M.Ko,M.slices_Contains,M.Iu,apw,aCA,ah,ak4 s apt (by rw[hl];omega),apu s apt (by rw[hl];omega),acP];constructor<;>first|rfl|trivial
def isL(b:Int):Bool:=(decide (b>=97) && decide (b<=122))||((decide (b>=65) && decide (b<=90))||(b==95))
def isW(b:Int):Bool:=isL b||isD b
def afa(b:Int):M.uf b=some (isL b)/\M.uh b=some (isL b):=by simp only[M.uf,M.LJ,M.dL,M.Cj,M.uh,M.LW,isL];cases decide (b>=97)<;>cases decide (b<=122)<;>cases decide (b>=65)<;>cases decide (b<=90)<;>cases(b==95)<;>exact⟨rfl,rfl⟩
def aaI(b:Int):M.vH b=some (isW b)/\M.vM b=some (isW b):=by simp only[M.vH,M.Ih,M.vM,M.Ip,afa,apr,aps,ah,isW];cases isL b<;>cases isD b<;>exact⟨rfl,rfl⟩
def axy(s:aI):Bool:=s.all λc=>isW (c.toNat:Int)
def a1m:aI->Bool
 |[]=>false
 |c::_=>isL (c.toNat:Int)
def Wx(s:aI):Bool:=axy s &&((decide ((s.length:Int)>=1) && decide ((s.length:Int)<=12)) && a1m s)
def aiE(s:aI){b:Int->Option (Int⊕(Unit⊕Int))}
  (hb:∀(i:Nat) c,s[i]? =some c->b (i:Int)=some (bif isW (c.toNat:Int) then .inl ((i:Int)+1) else .inr (.inl ()))) (he:b (s.length:Int)=some (.inr (.inr (s.length:Int)))):
  dU b 0=some (bif axy s then .inr (s.length:Int) else .inl ()):=by
 have key:∀(t:aI) (i:Nat),s.drop i=t->i<=s.length->dU b (i:Int)=some (bif axy t then .inr (s.length:Int) else .inl ()):=by
  intro t;induction t with
  |nil=>
   intro i hd hi;have:i=s.length:=by have:=congrArg List.length hd;simp at this;omega
   subst this;exact aQ he
  |cons x t ih=>
   intro i hd hi;have hx:s[i]? =some x:=by
    have:(s.drop i)[0]? =some x:=by rw[hd];rfl
    simpa using this
   have hlt:i<s.length:=(Qm.1 hx).1;have hd':s.drop (i+1)=t:=by rw[<-List.drop_drop,hd];rfl
   have hs:=hb i x hx;rw[axy,List.all_cons];cases hw:isW (x.toNat:Int) with
   |true=>rw[hw,aJ] at hs;rw[bI hs,show(i:Int)+1=((i+1:Nat):Int) by omega,ih (i+1) hd' hlt,Bool.true_and];rfl
   |false=>rw[hw,aW] at hs;rw[aQ hs];rfl
 exact key s 0 rfl (Nat.zero_le _)
def amD(s:aI)(h:s.length<=1048576):M.xE s=some (Wx s)/\M.xG s=some (Wx s):=by
 have hw:∀c:UInt8,i64.wrap ((c.toNat:Nat):Int)=(c.toNat:Int):=λc=>by have:=asB c;exact aK ak ak
 have h1:=aiE s (b:=M.Ef s)
  (λi c hc=>by have hi:=(Qm.1 hc).1;simp only[M.Ef,M.yX,bK,hc,ah,hw,aaI];rw[zdt ak,aJ,aK ak ak];cases isW (c.toNat:Int)<;>rfl)
  (by simp only[M.Ef,M.yX];rw[rF ak,aW])
 have h2:=aiE s (b:=M.Ei s (s.length:Int))
  (λi c hc=>by have hi:=(Qm.1 hc).1;simp only[M.Ei,M.yZ,bK,hc,ah,hw,aaI];rw[zdt ak,aJ,aK ak ak];cases isW (c.toNat:Int)<;>rfl)
  (by simp only[M.Ei,M.yZ];rw[rF ak,aW])
 simp only[M.xE,M.JV,M.xG,M.J8,M.Ii,M.Iq,M.dL,M.Cj,M.dM,M.D8];rw[h1,h2,ah,ah,Wx];cases axy s with
 |false=>exact⟨rfl,rfl⟩
 |true=>
  simp only[aJ,kT,letE,Bool.true_and];cases s with
  |nil=>exact⟨rfl,rfl⟩
  |cons c l=>have hi:idx (c::l) 0=some c:=rfl;simp only[hi,ah,hw,afa];cases decide (((c::l).length:Int)>=1)<;>cases decide (((c::l).length:Int)<=12)<;>exact⟨rfl,rfl⟩
def O8(s:aI):Bool:=Wx s &&((axw s==0) && !(acP s))
def Wy(s:aI)(h:s.length<=1048576):M.mD s=some (O8 s)/\M.kN s=some (O8 s):=by have h1:=amD s h;simp only[M.mD,M.QC,M.kN,M.QV,h1.1,h1.2,amC,O7,ah,O8];cases Wx s<;>cases axw s==0<;>cases acP s<;>exact⟨rfl,rfl⟩
end Go.Proofs.YthmchnpcplgciaaGreatDoor
namespace Go.Proofs.YthmchnpcplgciaaGreatDoor
open Go Go.Vm
def aTH(c:UInt8)(n:Nat)(h:n<256):(((c.toNat:Nat):Int)==(n:Int))=(c==UInt8.ofNat n):=by
 rw[Bool.eq_iff_iff,beq_iff_eq,beq_iff_eq];constructor
 ·intro e;apply UInt8.toNat_inj.1;rw[UInt8.toNat_ofNat',Nat.mod_eq_of_lt h];omega
 ·rintro rfl;rw[UInt8.toNat_ofNat',Nat.mod_eq_of_lt h]
def hasB(c:UInt8)(s:aI):Bool:=s.any (· ==c)
def auz(s:aI)(c:UInt8):decide (0<=Lib.indexByte s c)=hasB c s:=by
 have hge:=Lib.indexByte_ge s c;rw[Bool.eq_iff_iff,decide_eq_true_eq,hasB,List.any_eq_true];constructor
 ·intro h;obtain⟨i,hi⟩:∃i:Nat,Lib.indexByte s c=i:=⟨(Lib.indexByte s c).toNat,ak⟩
  exact⟨c,ZF (Lib.indexByte_some hi).1,by simp⟩
 ·rintro⟨x,hx,hc⟩;have:=beq_iff_eq.1 hc;subst this;rcases Int.lt_or_le (Lib.indexByte s x) 0 with h|h
  ·obtain⟨i,hi⟩:=List.mem_iff_getElem?.1 hx;exact absurd hi (Lib.indexByte_none ak i)
  ·exact h
def axz(s:aI)(h:s.length<=1000000000):M.BQ s=some (!(hasB 10 s)):=by
 have key:∀(t:aI) (i:Nat),s.drop i=t->i<=s.length->dU (M.CJ s) (i:Int)=some (bif hasB 10 t then .inl () else .inr (s.length:Int)):=by
  intro t;induction t with
  |nil=>
   intro i hd hi;have:i=s.length:=by have:=congrArg List.length hd;simp at this;omega
   subst this;refine aQ ?_;simp only[M.CJ,M.CG];rw[rF ak,aW];rfl
  |cons x t ih=>
   intro i hd hi;have hx:s[i]? =some x:=by
    have:(s.drop i)[0]? =some x:=by rw[hd];rfl
    simpa using this
   have hlt:i<s.length:=(Qm.1 hx).1;have hd':s.drop (i+1)=t:=by rw[<-List.drop_drop,hd];rfl
   have hs:M.CJ s (i:Int)=some (bif x==10 then .inr (.inl ()) else .inl ((i:Int)+1)):=by simp only[M.CJ,M.CG,bK,hx,ah];rw[zdt ak,aJ,show(10:Int)=((10:Nat):Int) from rfl,aTH _ _ ak,aK ak ak,show(x==UInt8.ofNat 10)=(x==10) from rfl];cases x==10<;>rfl
   rw[hasB,List.any_cons];cases hc:x==10 with
   |true=>rw[hc,aJ] at hs;rw[aQ hs];rfl
   |false=>rw[hc,aW] at hs;rw[bI hs,show(i:Int)+1=((i+1:Nat):Int) by omega,ih (i+1) hd' hlt,Bool.false_or];rfl
 have:=key s 0 rfl (Nat.zero_le _);rw[x9] at this;simp only[M.BQ,M.N8,M.LK];rw[this,ah];cases hasB 10 s<;>rfl
def aCB:∀i,i<17->cStr FI i=Zm[i]? :=by decide+kernel
def aCC:∀i,i<39->cStr Wq i=amB[i]? :=by decide+kernel
def spell(k:Int):aI:=if k=1 then[10] else if 10<=k/\k<=26 then Zm[(k - 10).toNat]?.getD [] else if 30<=k/\k<=68 then amB[(k - 30).toNat]?.getD [] else[]
def Ux(k:Int)(hk:I64 k):M.qI k=some (spell k)/\M.BR k=some (spell k):=by
 have l1:Zm.length=17:=rfl;have l2:amB.length=39:=rfl;simp only[M.qI,M.NQ,M.BR,M.Oj,M.sG,M.CX,M.yL,M.Iw,M.dM,M.D8,M.dL,M.Cj,apv,axx,ah,spell]
 by_cases h1:k=1
 ·subst h1;exact⟨rfl,rfl⟩
 ·rw[show(k==1)=false by simpa using h1,aW,aW,if_neg h1]
  by_cases h2:10<=k/\k<=26
  ·obtain⟨i,hi⟩:∃i:Nat,k=10+i:=⟨(k - 10).toNat,ak⟩
   have hw:i64.wrap (k - 10)=(i:Int):=by rw[aK ak ak];omega
   obtain⟨x,hx⟩:∃x,Zm[i]? =some x:=⟨Zm[i]'ak,by simp⟩
   rw[if_pos h2,zdt (show k>=10 by omega),aJ,zdt (show k<=26 by omega),hw,zdt (show(0:Int)<=(i:Int) by omega),zdt (show(i:Int)<17 by omega)];simp only[ah,aJ,bK,Yf,acO,hx,Ht,cS0,Bool.and_self,Nat.zero_add,Nat.mul_one,aCB i ak];rw[show(k - 10).toNat=i by omega,hx];exact⟨rfl,rfl⟩
  ·have hf:(bif decide (k>=10) then some (decide (k<=26)) else some false)=some false:=by
    by_cases h3:k>=10
    ·rw[zdt h3,aJ,rF ak]
    ·rw[rF h3,aW]
   rw[if_neg h2,hf];simp only[ah,aW]
   by_cases h4:30<=k/\k<=68
   ·obtain⟨i,hi⟩:∃i:Nat,k=30+i:=⟨(k - 30).toNat,ak⟩
    have hw:i64.wrap (k - 30)=(i:Int):=by rw[aK ak ak];omega
    obtain⟨x,hx⟩:∃x,amB[i]? =some x:=⟨amB[i]'ak,by simp⟩
    rw[if_pos h4,zdt (show k>=30 by omega),aJ,zdt (show k<=68 by omega),hw,zdt (show(0:Int)<=(i:Int) by omega),zdt (show(i:Int)<39 by omega)];simp only[ah,aJ,bK,Yf,acO,hx,Ht,cS0,Bool.and_self,Nat.zero_add,Nat.mul_one,aCC i ak];rw[show(k - 30).toNat=i by omega,hx];exact⟨rfl,rfl⟩
   ·have hf:(bif decide (k>=30) then some (decide (k<=68)) else some false)=some false:=by
     by_cases h3:k>=30
     ·rw[zdt h3,aJ,rF ak]
     ·rw[rF h3,aW]
    rw[if_neg h4,hf];exact⟨rfl,rfl⟩
def uY(k:Int)(s:aI):Bool:=bif s==[] then false else
 bif k==2 then(TD s 0==35) && !(hasB 10 s) else bif k==3 then aiA s 0==(s.length:Int) else bif k==4 then quoted s 0 34==(s.length:Int) else bif k==5 then aiD s 0==(s.length:Int) else
 bif k==6 then O8 s else bif k==7 then O8 s else bif k==8 then acP s else s==spell k
def Nj(k:Int)(s:aI)(a:Int)(h:s.length<=1048576)(hk:I64 k):M.mP k s a=some (uY k s)/\M.lI k s a=some (uY k s):=by
 have hn:=Wy s h;have hb:=O7 s;have hst:=auw h 0 ak ak;have her:=auy h 0 ak ak;have hsp:=Ux k hk;have hct:M.strings_Contains s [10]=some (hasB 10 s):=by rw[M.strings_Contains,auz]
 simp only[M.mP,M.N9,M.lI,M.Ol,hn.1,hn.2,hb.1,hb.2,hst.1,hst.2,her.1,her.2,hsp.1,hsp.2,hct,axz s ak,aiC h 0 ak,aiB h 0 ak,ah,uY];cases s with
 |nil=>refine⟨?_,rfl⟩;have q1:O8 []=false:=rfl;have q2:acP []=false:=rfl;have q3:(quoted [] 0 34==(([]:aI).length:Int))=false:=rfl;have q4:(aiD [] 0==(([]:aI).length:Int))=false:=rfl;rw[q1,q2,q3,q4];cases k==2<;>cases k==3<;>cases k==4<;>cases k==5<;>cases k==6<;>cases k==7<;>cases k==8<;>rfl
 |cons c l=>
  have hi:idx (c::l) 0=some c:=rfl;have hb0:TD (c::l) 0=(c.toNat:Int):=rfl;have hne:((c::l:aI)==[])=false:=rfl;have hgt:decide (((c::l).length:Int)>0)=true:=by simp
  have hsw:(spell k==c::l)=(c::l==spell k):=by rw[Bool.eq_iff_iff,beq_iff_eq,beq_iff_eq];exact⟨Eq.symm,Eq.symm⟩
  rw[hi,hb0,hne,hgt,hsw];simp only[ah,aJ,aW,Bool.not_false];cases k==2<;>cases k==3<;>cases k==4<;>cases k==5<;>cases k==6<;>cases k==7<;>cases k==8<;>cases(c.toNat:Int)==35<;>exact⟨rfl,rfl⟩
end Go.Proofs.YthmchnpcplgciaaGreatDoor
namespace Go.Proofs.YthmchnpcplgciaaGreatDoor
open Go Go.Vm
def tX(x a b:Int):M.dL x a b=some (decide (x>=a) && decide (x<=b)):=by simp only[M.dL,M.Cj];cases decide (x>=a)<;>rfl
def rO(x a b:Int):M.dM x a b=some (decide (x>=a) && decide (x<=b)):=tX x a b
def WA(op:Int):Bool:=op==60||op==57||op==58||op==59||op==55||op==56||op==99||op==63||op==48||op==47||op==50||op==62||op==49||op==67||op==46||op==45||op==44
def aiF(op:Int):M.BP op=some (WA op)/\∃lv,M.mV op=some lv/\(lv !=0)=WA op:=by
 by_cases h44:op=44
 ·subst h44;exact⟨rfl,_,rfl,rfl⟩
 have e44:(op==44)=false:=by simpa using h44
 by_cases h45:op=45
 ·subst h45;exact⟨rfl,_,rfl,rfl⟩
 have e45:(op==45)=false:=by simpa using h45
 by_cases h67:op=67
 ·subst h67;exact⟨rfl,_,rfl,rfl⟩
 have e67:(op==67)=false:=by simpa using h67
 by_cases h46:op=46
 ·subst h46;exact⟨rfl,_,rfl,rfl⟩
 have e46:(op==46)=false:=by simpa using h46
 by_cases h63:op=63
 ·subst h63;exact⟨rfl,_,rfl,rfl⟩
 have e63:(op==63)=false:=by simpa using h63
 by_cases h48:op=48
 ·subst h48;exact⟨rfl,_,rfl,rfl⟩
 have e48:(op==48)=false:=by simpa using h48
 by_cases h47:op=47
 ·subst h47;exact⟨rfl,_,rfl,rfl⟩
 have e47:(op==47)=false:=by simpa using h47
 by_cases h50:op=50
 ·subst h50;exact⟨rfl,_,rfl,rfl⟩
 have e50:(op==50)=false:=by simpa using h50
 by_cases h62:op=62
 ·subst h62;exact⟨rfl,_,rfl,rfl⟩
 have e62:(op==62)=false:=by simpa using h62
 by_cases h49:op=49
 ·subst h49;exact⟨rfl,_,rfl,rfl⟩
 have e49:(op==49)=false:=by simpa using h49
 by_cases ZO:op=99
 ·subst ZO;exact⟨rfl,_,rfl,rfl⟩
 have e99:(op==99)=false:=by simpa using ZO
 by_cases h55:op=55
 ·subst h55;exact⟨rfl,_,rfl,rfl⟩
 have e55:(op==55)=false:=by simpa using h55
 by_cases h56:op=56
 ·subst h56;exact⟨rfl,_,rfl,rfl⟩
 have e56:(op==56)=false:=by simpa using h56
 by_cases h57:op=57
 ·subst h57;exact⟨rfl,_,rfl,rfl⟩
 have e57:(op==57)=false:=by simpa using h57
 by_cases h58:op=58
 ·subst h58;exact⟨rfl,_,rfl,rfl⟩
 have e58:(op==58)=false:=by simpa using h58
 by_cases h59:op=59
 ·subst h59;exact⟨rfl,_,rfl,rfl⟩
 have e59:(op==59)=false:=by simpa using h59
 by_cases h60:op=60
 ·subst h60;exact⟨rfl,_,rfl,rfl⟩
 have e60:(op==60)=false:=by simpa using h60
 simp only[M.BP,M.NY,M.mV,M.Jp,WA,e44,e45,e67,e46,e63,e48,e47,e50,e62,e49,e99,e55,e56,e57,e58,e59,e60,aW,Bool.or_self];exact⟨trivial,0,rfl,rfl⟩
def F7(op:Int):Bool:=op==54||(decide (op>=38) && decide (op<=43))
def Ry(op:Int):M.qA op=some (F7 op)/\M.uj op=some (F7 op):=by simp only[M.qA,M.Ig,M.uj,M.LZ,tX,rO,ah,F7];cases op==54<;>exact⟨rfl,rfl⟩
def tb{α:Type}{c:Bool}{x y:Option α}(hx:∃b,x=some b)(hy:∃b,y=some b):∃b,(bif c then x else y)=some b:=by cases c<;>assumption
def tn{α β:Type}{m:Option α}{f:α->Option β}(hm:∃a,m=some a)(hf:∀a,∃b,f a=some b):∃b,m.bind f=some b:=by obtain⟨a,rfl⟩:=hm;exact hf a
def FOk(k op:Int)(t o:aI)(kids:au):Prop:=∃b,M.dQ k op t o kids=some b/\True
def apx(k:Int)(op:Int)(t o:aI)(kids:au)(ht:t.length<=1048576)(ho:o.length<=1048576)(hk:kids.length<=400):FOk k op t o kids:=by
 have hM:∃r,M.jC k op t o kids=some r:=by
  simp only[M.jC,M.jy]
  repeat' first|exact⟨_,rfl⟩|apply tb
 have hO:∃r,M.lW k op t o kids=some r:=by
  simp only[M.lW,M.mJ,(aiF op).1,(Ry op).1,tX,ah]
  repeat' first|exact⟨_,rfl⟩|apply tb
 have hT:∃r,M.iL k op t o kids=some r:=by
  have hk:∀q:Int,2<=q->q<=5->M.mP q t 0=some (uY q t):=λq h1 h2=>(Nj q t 0 ht ⟨ak,ak⟩).1
  simp only[M.iL,M.jA,(Wy t ht).1,(Wy o ho).1,(O7 t).1,hk 2 ak ak,hk 3 ak ak,hk 4 ak ak,hk 5 ak ak,ah]
  repeat' first|exact⟨_,rfl⟩|apply tb
 have h:∃b,M.dQ k op t o kids=some b:=by
  simp only[M.dQ,M.gW,tX,ah]
  repeat' first|exact⟨_,rfl⟩|apply tb|(apply tn hM;intro _)|(apply tn hO;intro _)|(apply tn hT;intro _)
 obtain⟨b,h⟩:=h;exact⟨b,h,trivial⟩
end Go.Proofs.YthmchnpcplgciaaGreatDoor
namespace Go.Proofs.YthmchnpcplgciaaGreatDoor
open Go Go.Vm
def acQ(k:Int):Bool:=decide (1<=k) && decide (k<=15)
def Ee(k:Int):Bool:=k==1||(k==5||k==6)
def aTI(k:Int):Bool:=decide (20<=k) && decide (k<=34)
def WB(k:Int):M.kL k=some (acQ k)/\True:=by simp only[M.kL,M.QH,tX,rO,ah,acQ,ge_iff_le];constructor<;>first|rfl|trivial
def auA(k:Int):M.FQ k=some (aTI k)/\True:=by simp only[M.FQ,M.QI,tX,rO,ah,aTI,ge_iff_le];constructor<;>first|rfl|trivial
def Zn(k:Int):M.nP k=some (Ee k)/\True:=by simp only[M.nP,M.G7,Ee];cases k==1<;>cases k==5<;>exact⟨rfl,trivial⟩
def aGl(k:Int)(op:Int)(t o:aI)(kids:au)(j d:Int):∃b,M.o9 k op t o kids j d=some b/\True:=by
 have h:∃b,M.o9 k op t o kids j d=some b:=by
  simp only[M.o9,M.CO,M.uq,(WB d).1,(auA d).1,(Zn d).1,tX,ah]
  repeat' first|exact⟨_,rfl⟩|apply tb
 obtain⟨b,h⟩:=h;exact⟨b,h,trivial⟩
end Go.Proofs.YthmchnpcplgciaaGreatDoor
namespace Go.Proofs.YthmchnpcplgciaaGreatDoor
open Go Go.Vm
def amE(x lo hi:Int):M.dL x lo hi=some (decide (lo<=x) && decide (x<=hi)):=by
 simp only[M.dL,M.Cj]
 by_cases h:lo<=x
 ·rw[zdt (show x>=lo from h)];rfl
 ·rw[rF (show¬x>=lo from h)];rfl
def apy:∀k:List Int,al4 (encI k)=some k
 |[]=>rfl
 |x::k=>by have:encI (x::k)=[D.int .i64 x]::encI k:=rfl;rw[this];simp only[al4,apy k,Ht]
def nk(n:Nd):Nk:=⟨n.kind,n.op,⟨⟨n.text⟩⟩,⟨⟨n.other⟩⟩,n.kids⟩
def ak5(o:Bool):∀l:List Nd,(∀n,n∈l->n.kids.length<=1048576)->YH (aP o l)=some (l.map nk)
 |[],_=>rfl
 |n::l,h=>by
  have:aP o (n::l)=Xe o n::aP o l:=rfl;rw[this,YH];have hk:aq4 (Xe o n)=some (nk n):=by simp only[Xe,aq4,apy,ah];rw[if_pos (h n zmf)];rfl
  rw[hk,ah,ak5 o l (λm hm=>h m (zmm _ hm))];rfl
def aTJ(l:List Nd):(l.map nk).map (·.kids)=ks l:=by simp[ks,nk]
def afP(l:List Nd)(o:Bool)(hl:l.length<=1048576)(hk:∀n,n∈l->n.kids.length<=1048576):M.Ce (aP o l)=some (MR l):=by
 simp only[M.Ce,M.OY,M.kQ,ak5 o l hk,ah,aTJ,zbb];rw[if_pos hl,MR];cases uG (ks l) with
 |none=>rfl
 |some st=>rfl
def acR(l:List Nd)(o:Bool){i:Nat}{n:Nd}{st:List Int}(hi:l[i]? =some n)(hl:l.length<=1048576)(hkl:n.kids.length<=1048576)(hst:aci st)(hs:st.length=i):
  ∀(j:Nat) (a:Int),j<=n.kids.length->0<=a->a<=i->M.wI (aP o l) (i:Int) (encI st) (a,(j:Int) - 1)=some (match gX st (n.kids.take j).reverse (a - 1) with
   |none=> .inl ()
   |some r=> .inr (r+1, -1))
 |0,a,hj,h0,h1=>by rw[M.wI];apply aQ;simp only[M.Gn,M.Ad];rw[rF ak,aW,List.take_zero,List.reverse_nil,gX];simp
 |j+1,a,hj,h0,h1=>by
  have hlt:i<l.length:=(Qm.1 hi).1;obtain⟨k,hk⟩:∃k,n.kids[j]? =some k:=⟨n.kids[j]'ak,by simp⟩
  have ht:(n.kids.take (j+1)).reverse=k::(n.kids.take j).reverse:=by rw[List.take_add_one,hk,Option.toList_some,List.reverse_append];rfl
  rw[ht,gX];have e1:(((j+1:Nat):Int) - 1)=(j:Int):=ak;rw[e1];have hstep:M.Gn (aP o l) (i:Int) (encI st) (a,(j:Int))=if a - 1<0\/k≠a - 1 then some (.inr (.inl ())) else some (.inl (st[k.toNat]?.getD 0,(j:Int) - 1)):=by
   simp only[M.Gn,M.Ad,bK,nH,hi,Ht,ah,cN4,Eu,hk,cI0];rw[zdt ak,aJ,aK (n:=a - 1) ak ak]
   by_cases h2:k=a - 1
   ·have:(k !=a - 1)=false:=by simp[h2]
    rw[this,aW]
    by_cases h3:a=0
    ·have:(a==0)=true:=by simp[h3]
     rw[this,aJ,if_pos (.inl ak)]
    ·have:(a==0)=false:=by simp[h3]
     rw[this,aW,if_neg ak];obtain⟨d,hd⟩:∃d:Nat,a - 1=(d:Int):=⟨(a - 1).toNat,ak⟩
     have hdl:d<st.length:=ak;rw[h2,hd];simp only[anD,bK,Eu,Yf];rw[List.getElem?_eq_getElem hdl];simp only[Ht,ah,cI0,Option.getD_some];rw[aK ak ak]
   ·have:(k !=a - 1)=true:=by simp[h2]
    rw[this,aJ,if_pos (.inr h2)]
  by_cases hc:a - 1<0\/k≠a - 1
  ·rw[if_pos hc];rw[if_pos hc] at hstep;exact aQ hstep
  ·rw[if_neg hc];rw[if_neg hc] at hstep;rw[M.wI,bI hstep];have hz:=Wn hst k.toNat;have:=acR l o hi hl hkl hst hs j (st[k.toNat]?.getD 0) ak hz.1 ak;rw[M.wI] at this;exact this
def aaJ(l:List Nd)(o:Bool)(hl:l.length<=1048576)(hk:∀n,n∈l->n.kids.length<=1048576):∀(rest:List Nd) (i:Nat) (st:List Int),l.drop i=rest->st.length=i->i<=l.length->aci st->
  M.wJ (aP o l) ((i:Int),encI st)=some (match jg st (ks rest) with
   |none=> .inl ()
   |some r=> .inr ((l.length:Int),encI r))
 |[],i,st,hd,hs,hi,hst=>by have:l.length<=i:=List.drop_eq_nil_iff.1 hd;rw[M.wJ];apply aQ;simp only[I7,M.Gp,M.Ae,dI];rw[rF ak,aW];have:i=l.length:=ak;subst this;rfl
 |n::rest,i,st,hd,hs,hi,hst=>by
  have hn:l[i]? =some n:=by
   have:(l.drop i)[0]? =some n:=by rw[hd];rfl
   simpa using this
  have hlt:i<l.length:=(Qm.1 hn).1;have hd':l.drop (i+1)=rest:=by rw[<-List.drop_drop,hd];rfl
  have hkn:=hk n (ZF hn);have hin:=acR l o hn hl hkn hst hs n.kids.length (i:Int) (zba _) ak ak;rw[List.take_length] at hin;have hks:ks (n::rest)=n.kids::ks rest:=rfl;rw[hks,jg,hs];have hstep:M.Gp (aP o l) ((i:Int),encI st)=some (match gX st n.kids.reverse ((i:Int) - 1) with
    |none=> .inr (.inl ())
    |some a=> .inl (((i+1:Nat):Int),encI (st++[a+1]))):=by
   simp only[I7,M.Gp,M.Ae,dI,bK,nH,hn,Ht,ah,cN4,dV];rw[zdt ak,aJ,aK (n:=(n.kids.length:Int) - 1) ak ak,hin];cases hw:gX st n.kids.reverse ((i:Int) - 1) with
   |none=>rfl
   |some a=>simp only[ah,kT,letE,TG];rw[fM ak,aJ,fM ak,aJ,aK ak ak];simp[encI]
  cases hw:gX st n.kids.reverse ((i:Int) - 1) with
  |none=>rw[hw] at hstep;exact aQ hstep
  |some a=>rw[hw] at hstep;rw[M.wJ,bI hstep];have hr:=MS hst _ _ _ ak ak hw;have:=aaJ l o hl hk rest (i+1) (st++[a+1]) hd' (by simp[hs]) hlt (ZN hst hr.1 hr.2);rw[M.wJ] at this;exact this
def XR(l:List Nd)(o:Bool)(hl:l.length<=1048576)(hk:∀n,n∈l->n.kids.length<=1048576):M.wX (aP o l)=some (MR l):=by
 simp only[M.wX,M.NV,amE,ah,dI]
 by_cases h1:1<=l.length/\l.length<=400
 ·have hb:(decide ((1:Int)<=(l.length:Int)) && decide ((l.length:Int)<=400))=true:=by simp;omega
  rw[hb,zaZ,aW];have h:=aaJ l o hl hk l 0 [] rfl rfl (Nat.zero_le _) YG;have e0:((0:Nat):Int)=0:=rfl;rw[e0] at h;simp only[M.DZ,M.LG];rw[show([]:au)=encI [] from rfl,h,MR,uG,if_pos (by rw[Wi];exact h1)];cases hs:jg [] (ks l) with
  |none=>rfl
  |some r=>
   have hrl:r.length=l.length:=by have:=abg _ _ _ hs;rw[Wi] at this;simpa using this
   simp only[ah,kT,letE,TM,aJ];rw[aK ak ak,show(l.length:Int) - 1=((l.length - 1:Nat):Int) by omega];simp only[anD,bK,Eu,Yf];rw[List.getElem?_eq_getElem ak];simp only[Ht,ah,cI0,Option.getD_some]
 ·have hb:(decide ((1:Int)<=(l.length:Int)) && decide ((l.length:Int)<=400))=false:=by
   cases hq:(decide ((1:Int)<=(l.length:Int)) && decide ((l.length:Int)<=400)) with
   |false=>rfl
   |true=>simp at hq;omega
  rw[hb,Bool.not_false,aJ,MR,uG,if_neg (by rw[Wi];exact h1)]
def ak6{st:List Int}(h:aci st):∀(l:List Int) (a r:Int),a<st.length->gX st l a=some r->∀k,k∈l->0<=k/\k<st.length
 |[],a,r,h1,e,k,hk=>absurd hk List.not_mem_nil
 |x::l,a,r,h1,e,k,hk=>by
  rw[gX] at e;split at e
  ·cases e
  ·rename_i hc;have hz:=Wn h x.toNat;rcases List.mem_cons.1 hk with rfl|hk
   ·omega
   ·exact ak6 h l _ r ak e k hk
def afb:∀(l:List (List Int)) (st r:List Int),aci st->jg st l=some r->∀(i:Nat) n,l[i]? =some n->∀k,k∈n->0<=k/\k<st.length+i
 |[],st,r,h0,h,i,n,hn=>by simp at hn
 |m::l,st,r,h0,h,i,n,hn=>by
  rw[jg] at h;split at h
  ·cases h
  ·rename_i a ha;have hr:=MS h0 _ _ _ ak ak ha;cases i with
   |zero=>simp only[List.getElem?_cons_zero,lM] at hn;subst hn;intro k hk;have:=ak6 h0 _ _ _ ak ha k (List.mem_reverse.2 hk);omega
   |succ i=>simp only[List.getElem?_cons_succ] at hn;intro k hk;have:=afb l _ r (ZN h0 hr.1 hr.2) h i n hn k hk;simp at this;omega
def ak7{l:List Nd}(h:MR l=true):1<=l.length/\l.length<=400:=by
 unfold MR at h;cases hs:uG (ks l) with
 |none=>rw[hs] at h;cases h
 |some r=>
  unfold uG at hs;split at hs
  ·rename_i hq;rw[Wi] at hq;exact hq
  ·cases hs
def aaK:∀(l:List (List Int)) (st r:List Int),jg st l=some r->∃t,r=st++t
 |[],st,r,h=>by rw[jg] at h;cases h;exact⟨[],by simp⟩
 |n::l,st,r,h=>by
  rw[jg] at h;split at h
  ·cases h
  ·obtain⟨t,ht⟩:=aaK l _ r h;exact⟨_,by rw[ht,VN]⟩
def apz{st t:List Int}(h:aci st):∀(ks:List Int) (a:Int),a<st.length->gX (st++t) ks a=gX st ks a
 |[],a,_=>rfl
 |k::ks,a,ha=>by
  rw[gX,gX];split
  ·rfl
  ·rename_i hc;have hk:k.toNat<st.length:=ak;have e:(st++t)[k.toNat]? =st[k.toNat]? :=List.getElem?_append_left hk;rw[e];have hz:=Wn h k.toNat;exact apz h ks _ ak
def ak8:∀(l:List (List Int)) (st r:List Int),aci st->jg st l=some r->∀(i:Nat) n,l[i]? =some n->∃a,gX r n.reverse ((st.length:Int)+i - 1)=some a/\r[st.length+i]? =some (a+1)
 |[],st,r,h0,h,i,n,hn=>by simp at hn
 |m::l,st,r,h0,h,i,n,hn=>by
  rw[jg] at h;split at h
  ·cases h
  ·rename_i a ha;have hr:=MS h0 _ _ _ ak ak ha;obtain⟨t,ht⟩:=aaK l _ r h;cases i with
   |zero=>
    simp only[List.getElem?_cons_zero,lM] at hn;subst hn;refine⟨a, ?_, ?_⟩
    ·rw[ht,VN,apz h0 _ _ (by simp;omega)];simpa using ha
    ·rw[ht];simp
   |succ i=>
    simp only[List.getElem?_cons_succ] at hn;obtain⟨b,h1,h2⟩:=ak8 l _ r (ZN h0 hr.1 hr.2) h i n hn;refine⟨b, ?_, ?_⟩
    ·rw[<-h1];congr 1;simp;omega
    ·rw[<-h2];congr 1;simp;omega
def Zo:List Int->Int
 |[]=>0
 |x::l=>x+Zo l
def afc:∀(a b:List Int),Zo (a++b)=Zo a+Zo b
 |[],b=>by simp[Zo]
 |x::a,b=>by rw[zca,Zo,Zo,afc a b];omega
def acS:∀l:List Int,Zo l.reverse=Zo l
 |[]=>rfl
 |x::l=>by rw[List.reverse_cons,afc,acS l];simp[Zo];omega
def sz(r:List Int)(k:Int):Int:=k - (r[k.toNat]?.getD 0)+1
def apA(r:List Int):∀(ks:List Int) (a b:Int),gX r ks a=some b->Zo (ks.map (sz r))=a - b
 |[],a,b,h=>by rw[gX] at h;cases h;simp[Zo]
 |k::ks,a,b,h=>by
  rw[gX] at h;split at h
  ·cases h
  ·rename_i hc;have:=apA r ks _ b h;rw[zmc,Zo,this,sz];omega
structure Val(l:List Nd)(r:List Int):Prop where
 st:jg [] (ks l)=some r
 pos:1<=l.length
 le:l.length<=400
def amF{l:List Nd}(h:MR l=true):∃r,Val l r:=by
 have hl:=ak7 h;unfold MR at h;cases hs:uG (ks l) with
 |none=>rw[hs] at h;cases h
 |some r=>
  unfold uG at hs;split at hs
  ·exact⟨r,hs,hl.1,hl.2⟩
  ·cases hs
section
variable {l:List Nd} {r:List Int}
def Val.ok(h:Val l r):aci r:=adF _ _ _ YG h.st
def Val.kids(h:Val l r){i:Nat}{n:Nd}(hn:l[i]? =some n):∀k,k∈n.kids->0<=k/\k<i:=by have:=afb _ _ _ YG h.st i n.kids (by simp[ks,hn]);simpa using this
def Val.sum(h:Val l r){i:Nat}{n:Nd}(hn:l[i]? =some n):Zo (n.kids.map (sz r))+1=sz r i:=by obtain⟨a,h1,h2⟩:=ak8 _ _ _ YG h.st i n.kids (by simp[ks,hn]);have:=apA r _ _ _ h1;rw[List.map_reverse,acS] at this;simp at h2;rw[this,sz,Yf,h2];simp;omega
def Val.Qe(h:Val l r){k:Int}(h0:0<=k):1<=sz r k/\sz r k<=k+1:=by have:=Wn h.ok k.toNat;rw[sz];omega
end
def aiG(l:List Nd)(i:Nat):List Int:=match l[i]? with|some n=>n.kids|none=>[]
def Nw{l:List Nd}{i:Nat}{n:Nd}(h:l[i]? =some n):aiG l i=n.kids:=by rw[aiG,h]
def mx:Int->List Int->Int
 |a,[]=>a
 |a,x::l=>mx (bif decide (a<x) then x else a) l
def acT(B:Int):∀(l:List Int) (a:Int),a<=B->(∀x,x∈l->x<=B)->a<=mx a l/\mx a l<=B
 |[],a,h,_=>⟨Int.le_refl _,h⟩
 |x::l,a,h,hl=>by
  have hx:=hl x zmf;rw[mx]
  by_cases c:a<x
  ·rw[zdt c,aJ];have:=acT B l x hx λy hy=>hl y (zmm _ hy)
   omega
  ·rw[rF c,aW];exact acT B l a h λy hy=>hl y (zmm _ hy)
def af6:∀(l:List Int) (a x:Int),mx a (l++[x])=(bif decide (mx a l<x) then x else mx a l)
 |[],a,x=>rfl
 |y::l,a,x=>by rw[zca,mx,mx,af6 l]
def axA:∀(l:List Int) (a:Int),mx (1+a) (l.map λd=>1+d)=1+mx a l
 |[],a=>rfl
 |x::l,a=>by
  rw[zmc,mx,mx,<-axA l]
  by_cases c:a<x
  ·rw[zdt c,aJ,zdt ak,aJ]
  ·rw[rF c,aW,rF ak,aW]
def dep(l:List Nd):Nat->Nat->Int
 |0,_=>0
 |f+1,i=>mx 0 ((aiG l i).map λk=>dep l f k.toNat)+1
def aed(l:List Nd):∀f i,0<=dep l f i/\dep l f i<=f
 |0,i=>by simp[dep]
 |f+1,i=>by have:=acT (f:Int) ((aiG l i).map λk=>dep l f k.toNat) 0 ak (λx hx=>by obtain⟨k,_,rfl⟩:=List.mem_map.1 hx;exact(aed l f k.toNat).2);rw[dep];omega
section
variable {l:List Nd} {r:List Int} {o:Bool}
def apB(h:Val l r):∀(f f' i:Nat),i<f->i<f'->i<l.length->dep l f i=dep l f' i
 |0,_,i,h1,_,_=>absurd h1 (Nat.not_lt_zero _)
 |f+1,0,i,_,h2,_=>absurd h2 (Nat.not_lt_zero _)
 |f+1,f'+1,i,h1,h2,h3=>by
  obtain⟨n,hn⟩:∃n,l[i]? =some n:=⟨l[i],by simp⟩
  rw[dep,dep,Nw hn];congr 2;refine List.map_congr_left λk hk=> ?_
  have hkr:=h.kids hn k hk;exact apB h f f' k.toNat ak ak ak
def aiH(l:List Nd)(i:Nat):List Int:=(List.range i).map λj=>dep l (j+1) j
def axB(l:List Nd)(i:Nat):(aiH l i).length=i:=by simp[aiH]
def apC(l:List Nd){i j:Nat}(h:j<i):(aiH l i)[j]? =some (dep l (j+1) j):=by simp[aiH,List.getElem?_range h]
def auB(l:List Nd)(i:Nat):aiH l (i+1)=aiH l i++[dep l (i+1) i]:=by simp[aiH,List.range_succ]
def apD(h:Val l r){i:Nat}{n:Nd}(hn:l[i]? =some n)(hk:n.kids.length<=1048576):M.GZ (aP o l) (i:Int) (encI (aiH l i)) (1,0)=some (dep l (i+1) i,(n.kids.length:Int)):=by
 have hil:=(Qm.1 hn).1;have hle:=h.le;have hdk:∀k,k∈n.kids->dep l i k.toNat=dep l (k.toNat+1) k.toNat:=λk hkm=>by have:=h.kids hn k hkm;exact apB h _ _ _ ak ak ak
 have hval:∀(j:Nat),(1:Int)+mx 0 ((n.kids.take j).map λk=>dep l i k.toNat)=mx 1 ((n.kids.take j).map λk=>1+dep l i k.toNat):=λj=>by have:=axA ((n.kids.take j).map λk=>dep l i k.toNat) 0;rw[List.map_map] at this;exact this.symm
 have hloop:=yg (b:=M.Ic (aP o l) (i:Int) (encI (aiH l i))) (t:=(dep l (i+1) i,(n.kids.length:Int))) (λj=>(mx 1 ((n.kids.take j).map λk=>1+dep l i k.toNat),(j:Int))) n.kids.length
  (by
   intro j hj;obtain⟨k,hkj⟩:∃k,n.kids[j]? =some k:=⟨n.kids[j],by simp⟩
   have hkm:=ZF hkj;have hkr:=h.kids hn k hkm;obtain⟨q,hq⟩:∃q:Nat,k=q:=⟨k.toNat,ak⟩
   have hd:=hdk k hkm;have hr:=aed l (q+1) q;subst hq;rw[Yf] at hd;simp only[M.Ic,M.Cm,bK,nH,hn,Ht,ah,cN4,dV,Eu,hkj,cI0,Yf,apC l (show q<i by omega)];rw[zdt ak,aJ,aK (n:=(j:Int)+1) ak ak,aK (n:=1+dep l (q+1) q) ak ak,List.take_add_one,hkj,Option.toList_some,List.map_append,zmc,List.map_nil,af6,Yf,hd];rfl)
  (by simp only[M.Ic,M.Cm,bK,nH,hn,Ht,ah,cN4,dV];rw[rF ak,aW,<-hval,List.take_length,dep,Nw hn,Int.add_comm]) 0 (Nat.zero_le _)
 rw[M.GZ];exact hloop
def depth(l:List Nd):Int:=if MR l then dep l l.length (l.length - 1) else 0
def XT(l:List Nd)(o:Bool)(hl:l.length<=1048576)(hk:∀n,n∈l->n.kids.length<=1048576):M.wY (aP o l)=some (depth l):=by
 simp only[M.wY,M.NW,XR l o hl hk,ah,dI,depth];cases hs:MR l with
 |false=>rfl
 |true=>
  obtain⟨r,h⟩:=amF hs;have h1:=h.pos;have h2:=h.le;have hloop:=yg (b:=M.Ie (aP o l)) (t:=((l.length:Int),encI (aiH l l.length))) (λi=>((i:Int),encI (aiH l i))) l.length
   (by
    intro i hi;obtain⟨n,hn⟩:∃n,l[i]? =some n:=⟨l[i],by simp⟩
    have hin:=apD (o:=o) h hn (hk n (ZF hn));simp only[I7,M.Ie,M.CB,dI,hin,ah,dV,axB,TG];rw[zdt ak,aJ,fM ak,aJ,fM ak,aJ,aK ak ak,auB];simp[encI])
   (by simp only[I7,M.Ie,M.CB,dI];rw[rF ak,aW]) 0 (Nat.zero_le _)
  have Qg:M.LH (aP o l) (0,[])=_:=hloop;rw[zaZ,aW,Qg,ah,aK ak ak,show(l.length:Int) - 1=((l.length - 1:Nat):Int) by omega,if_pos rfl];simp only[bK,Yf,Eu,apC l (show l.length - 1<l.length by omega),Ht,ah,cI0];rw[show l.length - 1+1=l.length by omega]
def Zp(l:List Nd)(i:Nat):Nd:=match l[i]? with|some n=>n|none=>⟨0,0,[],[],[]⟩
def aiI(n:Nd)(rows:au):Row:=[.int .i64 n.kind,.int .i64 n.op,.str n.text,.str n.other,.sl true 5 rows]
def IZ(l:List Nd):Nat->Nat->au
 |0,_=>[]
 |f+1,i=>(aiG l i).map λk=>aiI (Zp l k.toNat) (IZ l f k.toNat)
def ak9(h:Val l r)(hk:∀n,n∈l->n.kids.length<=400):∀(f i:Nat) (n:Nd),i<f->l[i]? =some n->M.qF f (aP o l) (i:Int)=some (n.kind,n.op,n.text,n.other,IZ l f i)
 |0,i,n,hf,_=>absurd hf (Nat.not_lt_zero _)
 |f+1,i,n,hf,hn=>by
  have hkn:=hk n (ZF hn);have hil:=(Qm.1 hn).1;have hkl:=h.kids hn;simp only[I7,M.qF,M.Ll,bK,nH,hn,Ht,ah,cN0,cN1,cN2,cN3,cN4,dV];have hrec:∀(j:Nat) k,n.kids[j]? =some k->M.qF f (aP o l) k=some ((Zp l k.toNat).kind,(Zp l k.toNat).op,(Zp l k.toNat).text,(Zp l k.toNat).other,IZ l f k.toNat):=by
   intro j k hj;have hkr:=hkl k (ZF hj);obtain⟨q,hq⟩:∃q:Nat,k=q:=⟨k.toNat,ak⟩
   subst hq;obtain⟨m,hm⟩:∃m,l[q]? =some m:=⟨l[q]'ak,by simp⟩
   have:=ak9 h hk f q m ak hm;rw[this,Yf,Zp,hm]
  have hloop:=yg (b:=M.zS (M.qF f))
   (t:=if n.kids=[] then .inl (aP o l,encI n.kids,(n.kids.length:Int),0,0,0,[],[],n.kind,n.op,n.text,n.other) else .inr (aP o l,encI n.kids,(n.kids.length:Int),(n.kids.length:Int),0,0,[],[],n.kind,n.op,n.text,n.other,IZ l (f+1) i))
   (λj=>if j=0 then .inl (aP o l,encI n.kids,(n.kids.length:Int),0,0,0,[],[],n.kind,n.op,n.text,n.other) else .inr (aP o l,encI n.kids,(n.kids.length:Int),(j:Int),0,0,[],[],n.kind,n.op,n.text,n.other,(n.kids.take j).map λk=>aiI (Zp l k.toNat) (IZ l f k.toNat))) n.kids.length
   (by
    intro j hj;obtain⟨k,hkj⟩:∃k,n.kids[j]? =some k:=⟨n.kids[j],by simp⟩
    have hr:=hrec j k hkj;have htk:(n.kids.take (j+1)).map (λk=>aiI (Zp l k.toNat) (IZ l f k.toNat))=(n.kids.take j).map (λk=>aiI (Zp l k.toNat) (IZ l f k.toNat))++[aiI (Zp l k.toNat) (IZ l f k.toNat)]:=by rw[List.take_add_one,hkj,Option.toList_some,List.map_append];rfl
    rw[if_neg (show¬j+1=0 by omega),htk]
    by_cases h0:j=0
    ·subst h0;rw[if_pos rfl];have a1n:idx (encI n.kids) 0=some [D.int .i64 k]:=by have:=bK (encI n.kids) 0;rw[x9] at this;rw[this,Eu,hkj];rfl
     simp only[I7,M.zS,M.wU,a1n,ah,cI0,hr];rw[zdt ak,aJ];rfl
    ·rw[if_neg h0];simp only[I7,M.zS,M.wU,bK,Eu,hkj,Ht,ah,cI0,hr,zbb,zlt,TG];rw[zdt ak,aJ,fM ak,aJ,fM ak,aJ,aK ak ak];rfl)
   (by
    by_cases h0:n.kids.length=0
    ·have he:n.kids=[]:=List.length_eq_zero_iff.1 h0;rw[if_pos h0,if_pos he];simp only[I7,M.zS,M.wU];rw[rF ak,aW]
    ·have he:¬n.kids=[]:=λe=>h0 (by rw[e];rfl)
     rw[if_neg h0,if_neg he,List.take_length];simp only[I7,M.zS,M.wU];rw[rF ak,aW,IZ,Nw hn]) 0 (Nat.zero_le _)
  rw[if_pos rfl] at hloop;rw[M.OZ,hloop,ah]
  by_cases he:n.kids=[]
  ·rw[if_pos he,IZ,Nw hn,he];rfl
  ·rw[if_neg he];rfl
def Uy:∀rows:au,aF rows=rows.map Bl
 |[]=>rfl
 |x::rows=>by rw[aF,Uy rows,zmc]
def apE(h:Val l r)(hk:∀n,n∈l->n.kids.length<=400):∀(f i:Nat) (n:Nd) (a b:Int) (c d:aI),i<f->f<=1000->l[i]? =some n->M.gu f a b c d (aF (IZ l f i))=some (dep l f i)
 |0,i,n,a,b,c,d,hf,_,_=>absurd hf (Nat.not_lt_zero _)
 |f+1,i,n,a,b,c,d,hf,hf2,hn=>by
  have hkn:=hk n (ZF hn);have hil:=(Qm.1 hn).1;have hkl:=h.kids hn;have hdr:=aed l (f+1) i;have hlen:(aF (IZ l (f+1) i)).length=n.kids.length:=by rw[Uy,IZ,Nw hn];simp
  simp only[M.gu,M.yB,hlen];have hloop:=yg (b:=M.qw (M.gu f) (aF (IZ l (f+1) i)) (n.kids.length:Int)) (t:=(mx 0 (n.kids.map λk=>dep l f k.toNat),(n.kids.length:Int)))
   (λj=>(mx 0 ((n.kids.take j).map λk=>dep l f k.toNat),(j:Int))) n.kids.length
   (by
    intro j hj;obtain⟨k,hkj⟩:∃k,n.kids[j]? =some k:=⟨n.kids[j],by simp⟩
    have hkr:=hkl k (ZF hkj);obtain⟨q,hq⟩:∃q:Nat,k=q:=⟨k.toNat,ak⟩
    subst hq;obtain⟨m,hm⟩:∃m,l[q]? =some m:=⟨l[q]'ak,by simp⟩
    have hrow:(aF (IZ l (f+1) i))[j]? =some (Bl (aiI m (IZ l f q))):=by rw[Uy,IZ,Nw hn,List.getElem?_map,List.getElem?_map,hkj];simp only[Ht,Yf,Zp,hm]
    have hrec:=apE h hk f q m m.kind m.op m.text m.other ak ak hm;have k0:dG .i64 (Bl (aiI m (IZ l f q))) 0=some m.kind:=rfl;have k1:dG .i64 (Bl (aiI m (IZ l f q))) 1=some m.op:=rfl;have k2:cStr (Bl (aiI m (IZ l f q))) 2=some m.text:=rfl;have k3:cStr (Bl (aiI m (IZ l f q))) 3=some m.other:=rfl;have k4:cSl 5 (Bl (aiI m (IZ l f q))) 4=some (aF (IZ l f q)):=rfl;simp only[I7,M.qw,M.qp,bK,hrow,ah,k0,k1,k2,k3,k4,hrec];rw[zdt ak,aJ,aK ak ak,List.take_add_one,hkj,Option.toList_some,List.map_append,zmc,List.map_nil,af6,Yf];rfl)
   (by simp only[I7,M.qw,M.qp];rw[rF ak,aW,List.take_length]) 0 (Nat.zero_le _)
  have Qg:M.Aw (M.gu f) (aF (IZ l (f+1) i)) (n.kids.length:Int) (0,0)=_:=hloop;rw[Qg,ah];rw[dep,Nw hn] at hdr|-;rw[aK ak ak]
end
def Zq{α:Type}(p:Nat->α->Bool):List α->Nat->Bool
 |[],_=>true
 |x::l,i=>p i x && Zq p l (i+1)
def apF{α:Type}(l:List α)(p:Nat->α->Bool){b:Int->Option (Int⊕(Unit⊕Int))}
  (hb:∀(i:Nat) x,l[i]? =some x->b (i:Int)=some (bif p i x then .inl ((i:Int)+1) else .inr (.inl ()))) (he:b (l.length:Int)=some (.inr (.inr (l.length:Int)))):
  dU b 0=some (bif Zq p l 0 then .inr (l.length:Int) else .inl ()):=by
 have key:∀(t:List α) (i:Nat),l.drop i=t->i<=l.length->dU b (i:Int)=some (bif Zq p t i then .inr (l.length:Int) else .inl ()):=by
  intro t;induction t with
  |nil=>
   intro i hd hi;have:i=l.length:=by have:=congrArg List.length hd;simp at this;omega
   subst this;exact aQ he
  |cons x t ih=>
   intro i hd hi;have hx:l[i]? =some x:=by
    have:(l.drop i)[0]? =some x:=by rw[hd];rfl
    simpa using this
   have hlt:i<l.length:=(Qm.1 hx).1;have hd':l.drop (i+1)=t:=by rw[<-List.drop_drop,hd];rfl
   have hs:=hb i x hx;rw[Zq];cases hw:p i x with
   |true=>rw[hw,aJ] at hs;rw[bI hs,show(i:Int)+1=((i+1:Nat):Int) by omega,ih (i+1) hd' hlt,Bool.true_and]
   |false=>rw[hw,aW] at hs;rw[aQ hs];rfl
 exact key l 0 rfl (Nat.zero_le _)
noncomputable def fOk(n:Nd):Bool:=(M.dQ n.kind n.op n.text n.other (encI n.kids)).getD false
noncomputable def kOk(n:Nd)(j:Int)(d:Int):Bool:=(M.o9 n.kind n.op n.text n.other (encI n.kids) j d).getD false
structure Small(n:Nd):Prop where
 text:n.text.length<=1048576
 other:n.other.length<=1048576
def axC{n:Nd}(hs:Small n)(hk:n.kids.length<=400):M.dQ n.kind n.op n.text n.other (encI n.kids)=some (fOk n)/\True:=by obtain⟨b,h1,h2⟩:=apx n.kind n.op n.text n.other (encI n.kids) hs.text hs.other (by rw[dV];exact hk);rw[fOk,h1];exact⟨rfl,h2⟩
def axD{n:Nd}(hs:Small n)(hk:n.kids.length<=400)(hf:fOk n=true)(j:Nat)(hj:j<n.kids.length)(d:Int):
  M.o9 n.kind n.op n.text n.other (encI n.kids) (j:Int) d=some (kOk n j d)/\True:=by
 obtain⟨b,h1,h2⟩:=aGl n.kind n.op n.text n.other (encI n.kids) (j:Int) d;rw[kOk,h1];exact⟨rfl,h2⟩
def asC:∀(l:List Int),(∀x,x∈l->1<=x)->(l.length:Int)<=Zo l
 |[],_=>by simp[Zo]
 |x::l,h=>by
  have:=asC l λy hy=>h y (zmm _ hy)
  have:=h x zmf;simp only[ZE,Zo];omega
section
variable {l:List Nd} {r:List Int} {o:Bool}
def Val.aiJ(h:Val l r){i:Nat}{n:Nd}(hn:l[i]? =some n):n.kids.length<=400:=by have hil:=(Qm.1 hn).1;have h1:=h.sum hn;have h2:=asC (n.kids.map (sz r)) (λx hx=>by obtain⟨k,hk,rfl⟩:=List.mem_map.1 hx;exact(h.Qe (h.kids hn k hk).1).1);rw[zbb] at h2;have h3:=(h.Qe (k:=(i:Int)) ak).2;have:=h.le;omega
def Val.axE(h:Val l r):∀n,n∈l->n.kids.length<=400:=λn hn=>by obtain⟨i,hi⟩:=List.mem_iff_getElem?.1 hn;exact h.aiJ hi
noncomputable def kp(l:List Nd)(n:Nd)(j:Nat)(k:Int):Bool:=kOk n j (Zp l k.toNat).kind
def aro(h:Val l r)(hsm:∀n,n∈l->Small n){i:Nat}{n:Nd}(hn:l[i]? =some n)(hf:fOk n=true)(v10:au)(v11 v12:Int):
  M.Ji (aP o l) (i:Int) 0=some (bif Zq (kp l n) n.kids 0 then .inr (n.kids.length:Int) else .inl ())/\
  True:=by
 have hkl:=h.aiJ hn;have hs:=hsm n (ZF hn);have step:∀(j:Nat) k,n.kids[j]? =some k->∃(q:Nat) (m:Nd),k=(q:Int)/\l[q]? =some m/\(Zp l k.toNat).kind=m.kind:=by
  intro j k hj;have hkr:=h.kids hn k (ZF hj);have hil:=(Qm.1 hn).1;obtain⟨q,hq⟩:∃q:Nat,k=q:=⟨k.toNat,ak⟩
  obtain⟨m,hm⟩:∃m,l[q]? =some m:=⟨l[q]'ak,by simp⟩
  refine⟨q,m,hq,hm, ?_⟩;rw[hq,Yf,Zp,hm]
 constructor
 ·rw[M.Ji];refine apF n.kids (kp l n) (λj k hj=> ?_) ?_
  ·obtain⟨q,m,hq,hm,he⟩:=step j k hj;have hjl:=(Qm.1 hj).1;have hok:=(axD hs hkl hf j hjl m.kind).1;rw[kp,he];subst hq;simp only[I7,M.P6,M.EF,bK,nH,hn,hm,Ht,ah,cN0,cN1,cN2,cN3,cN4,dV,Eu,hj,cI0,hok];rw[zdt ak,aJ,aK ak ak];cases kOk n j m.kind<;>rfl
  ·simp only[I7,M.P6,M.EF,bK,nH,hn,Ht,ah,cN4,dV];rw[rF ak,aW]
 ·trivial
noncomputable def np(l:List Nd)(_:Nat)(n:Nd):Bool:=fOk n && Zq (kp l n) n.kids 0
def apG(h:Val l r)(hsm:∀n,n∈l->Small n):
  M.Jj (aP o l) 0=some (bif Zq (np l) l 0 then .inr (l.length:Int) else .inl ())/\
  True:=by
 have hle:=h.le;constructor
 ·rw[M.Jj];refine apF l (np l) (λi n hi=> ?_) ?_
  ·have hil:=(Qm.1 hi).1;have hf:=(axC (hsm n (ZF hi)) (h.aiJ hi)).1;simp only[I7,M.P7,M.EH,dI,bK,nH,hi,Ht,ah,cN0,cN1,cN2,cN3,cN4,hf,np];rw[zdt ak,aJ,aK ak ak];cases hff:fOk n with
   |false=>rfl
   |true=>have:=(aro (o:=o) h hsm hi hff [] 0 0).1;rw[zaZ,aW,this,ah];cases Zq (kp l n) n.kids 0<;>rfl
  ·simp only[I7,M.P7,M.EH,dI];rw[rF ak,aW]
 ·trivial
end
noncomputable def Xy(l:List Nd):Bool:=MR l &&(decide (depth l<=40) && Zq (np l) l 0)
section
variable (l:List Nd) (o:Bool) (hl:l.length<=1048576) (hk:∀n,n∈l->n.kids.length<=1048576) (hsm:∀n,n∈l->Small n)
include hl hk hsm
theorem Zr:M.FT (aP o l)=some (Xy l):=by
 simp only[M.FT,M.QJ,XR l o hl hk,XT l o hl hk,ah,Xy];cases hs:MR l with
 |false=>rfl
 |true=>
  obtain⟨r,h⟩:=amF hs;rw[zaZ,aW,(apG (o:=o) h hsm).1,ah,Bool.true_and]
  by_cases hd:depth l<=40
  ·rw[rF (show¬depth l>40 by omega),aW,zdt hd,Bool.true_and];cases Zq (np l) l 0<;>rfl
  ·rw[zdt (show depth l>40 by omega),aJ,rF hd];rfl
theorem apH(ht:Xy l=true):∃n,l.getLast? =some n/\idx (aP o l) (i64.wrap ((l.length:Int) - 1))=some (Xe o n):=by
 unfold Xy at ht;rw[wo] at ht;have hp:=ak7 ht.1;have hn:l≠[]:=by rintro rfl;simp at hp
 obtain⟨n,hn⟩:∃n,l.getLast? =some n:=⟨_,List.getLast?_eq_some_getLast hn⟩
 have hn':l[l.length - 1]? =some n:=by rw[<-List.getLast?_eq_getElem?];exact hn
 refine⟨n,hn, ?_⟩;rw[aK ak ak,show(l.length:Int) - 1=((l.length - 1:Nat):Int) by omega,bK,nH,hn'];rfl
end
@[simp] theorem aHG(l:List Int):I9 (encI l)=true:=by
 induction l with
 |nil=>rfl
 |cons x l ih=>simp only[encI,zmc] at ih|-;simp[I9,lU,D.pure,ih]
@[simp] theorem aHH(l:List Int):[[D.sl true 1 (encI l)]].all lU=true:=by simp[lU,D.pure]
def DK(o:Bool)(a b:List Nd):aP o (a++b)=aP o a++aP o b:=by simp[aP]
def arp(w:Bool):∀t:Tn,t.row w=[.int .i64 t.kind,.int .i64 t.op,.str t.text,.str t.other,.sl w 5 (iV w t.kids)]
 | .mk k o x y ks=>rfl
def amG(w:Bool)(a b:List Tn):iV w (a++b)=iV w a++iV w b:=by simp[Wj]
def KE(w:Bool)(a:List Tn):(iV w a).length=a.length:=by simp[Wj]
def xA{α:Type}{l:List α}{j:Nat}{t:α}(h:l[j]? =some t):l.take (j+1)=l.take j++[t]:=by rw[List.take_add_one,h];rfl
def apI{α:Type}{l:List α}{j:Nat}{t:α}(h:l[j]? =some t):l=l.take j++t::l.drop (j+1):=by obtain⟨hj,rfl⟩:=Qm.1 h;rw[<-List.drop_eq_getElem_cons hj,List.take_append_drop]
def Qh{ks:List Tn}{j:Nat}{t:Tn}(h:ks[j]? =some t):sizes (ks.take j)+t.size<=sizes ks:=by have:=congrArg sizes (apI h);rw[Gf,sizes] at this;omega
section
variable {l:List Nd} {b:Nat} {k op:Int} {x y:aI} {ks:List Tn}
def Lies.abH(h:Lies l b (.mk k op x y ks)){j:Nat}{t:Tn}(hj:ks[j]? =some t):Lies l (b+sizes (ks.take j)) t:=by have e:=apI hj;rw[e] at h;exact h.kid
def af7{j:Nat}{t:Tn}(hj:ks[j]? =some t):(ends ks b)[j]? =some ((b+sizes (ks.take j)+sizes t.kids:Nat):Int):=by have hlt:=(Qm.1 hj).1;have hs:=t.Hw;rw[avV hlt,xA hj,Gf,sizes,sizes];congr 1;omega
def Lies.root'{t:Tn}(h:Lies l b t):l[b+sizes t.kids]? =some ⟨t.kind,t.op,t.text,t.other,ends t.kids b⟩:=by cases t;exact h.root
def ala{j:Nat}{t:Tn}(hj:ks[j]? =some t):ends (ks.take (j+1)) b=ends (ks.take j) b++[((b+sizes (ks.take j)+t.size:Nat):Int) - 1]:=by rw[xA hj,YE,ends,ends];congr 2<;>omega
def aiK{j:Nat}{t:Tn}(hj:ks[j]? =some t):qg (ks.take (j+1)) b=qg (ks.take j) b++t.flat (b+sizes (ks.take j)):=by rw[xA hj,Xg,qg,qg,List.append_nil]
def ends_range:∀(ks:List Tn) (b:Nat),∀e,e∈ends ks b->(b:Int)<=e/\e<b+sizes ks
 |[],b,e,h=>by simp[ends] at h
 |t::ts,b,e,h=>by
  have hp:=t.size_pos;rw[ends] at h;have hs:(sizes (t::ts):Int)=t.size+sizes ts:=by rw[sizes];omega
  rcases List.mem_cons.1 h with rfl|h
  ·omega
  ·have:=ends_range ts _ e h;omega
end
mutual
def KF:∀(t:Tn) (b:Nat),∀n,n∈t.flat b->n.kids.length<=t.size/\∀e,e∈n.kids->(0:Int)<=e/\e<b+t.size
 | .mk k o x y ks,b,n,h=>by
  rw[Tn.flat] at h;rw[Tn.size];rcases List.mem_append.1 h with h|h
  ·have:=aiL ks b n h;exact⟨ak,λe he=>by have:=this.2 e he;omega⟩
  ·simp only[List.mem_singleton] at h;subst h;refine⟨by simp only[jM];have:=zW ks;omega,λe he=> ?_⟩;have:=ends_range ks b e he;omega
def aiL:∀(ks:List Tn) (b:Nat),∀n,n∈qg ks b->n.kids.length<=sizes ks/\∀e,e∈n.kids->(0:Int)<=e/\e<b+sizes ks
 |[],b,n,h=>by simp[qg] at h
 |t::ts,b,n,h=>by
  rw[qg] at h;rw[sizes];rcases List.mem_append.1 h with h|h
  ·have:=KF t b n h;exact⟨ak,λe he=>by have:=this.2 e he;omega⟩
  ·have:=aiL ts _ n h;exact⟨ak,λe he=>by have:=this.2 e he;omega⟩
end
def axF(l:List Nd)(o:Bool)(d:Int)(hl:l.length<=1048576)(hk:∀n,n∈l->n.kids.length<=1048576/\∀e,e∈n.kids-> -4000000000<=e+d/\e+d<=4000000000):
  M.uH (aP o l) d=some (aP true (l.map (Nd.up d))):=by
 simp only[M.uH,M.Jg];have hloop:=yg (b:=M.uN (aP o l) d) (t:=((l.length:Int),aP true (l.map (Nd.up d)))) (λi=>((i:Int),aP true ((l.take i).map (Nd.up d)))) l.length
  (by
   intro i hi;obtain⟨n,hn⟩:∃n,l[i]? =some n:=⟨l[i],by simp[hi]⟩
   obtain⟨hkl,hke⟩:=hk n (ZF hn);have hin:=yg (b:=M.uK (aP o l) d (i:Int) (aP true ((l.take i).map (Nd.up d))) n.kind n.op n.text n.other) (t:=((n.kids.length:Int),encI (n.kids.map (· +d)))) (λj=>((j:Int),encI ((n.kids.take j).map (· +d)))) n.kids.length
    (by
     intro j hj;obtain⟨e,he⟩:∃e,n.kids[j]? =some e:=⟨n.kids[j],by simp[hj]⟩
     have:=hke e (ZF he);simp only[I7,M.uK,M.uJ,bK,nH,hn,Ht,ah,cN4,dV,Eu,he,cI0,zbb,zlt,TG];rw[zdt ak,aJ,fM ak,aJ,fM ak,aJ,aK ak ak,aK ak ak,xA he];simp[encI])
    (by simp only[I7,M.uK,M.uJ,bK,nH,hn,Ht,ah,cN4,dV];rw[rF ak,aW,List.take_length]) 0 (Nat.zero_le _)
   simp only[x9,List.take_zero,List.map_nil] at hin;have hin':M.GX (aP o l) d (i:Int) (aP true ((l.take i).map (Nd.up d))) n.kind n.op n.text n.other (0,[])=some ((n.kids.length:Int),encI (n.kids.map (· +d))):=hin;simp only[I7,M.uN,M.uM,dI,bK,nH,hn,Ht,ah,cN0,cN1,cN2,cN3,cN4,hin',TM,aJ,zbb,zlt,TG];rw[zdt ak,aJ,fM ak,aJ,fM ak,aJ,aK ak ak,xA hn,List.map_append,DK];rfl)
  (by simp only[I7,M.uN,M.uM,dI];rw[rF ak,aW,List.take_length]) 0 (Nat.zero_le _)
 simp only[x9,List.take_zero,List.map_nil] at hloop;have Qg:M.GY (aP o l) d (0,[])=some ((l.length:Int),aP true (l.map (Nd.up d))):=hloop;rw[Qg,ah]
def aGm(t:Tn):∀(f:Nat) (w:Bool) (p:List Nd),t.size<=f->p.length+t.size<=1048576->
  M.jT f t.kind t.op t.text t.other (iV w t.kids) (aP true p)=some (aP true (p++t.flat p.length)):=by
 refine Tn.ind (P:=λt=>∀(f:Nat) (w:Bool) (p:List Nd),t.size<=f->p.length+t.size<=1048576->M.jT f t.kind t.op t.text t.other (iV w t.kids) (aP true p)=some (aP true (p++t.flat p.length))) ?_ t;intro k op x y ks ih f w p hf hp;cases f with
 |zero=>rw[Tn.size] at hf;omega
 |succ f=>
  rw[Tn.size] at hf hp;have hkl:=zW ks;simp only[I7,M.jT,M.He,Tn.kids,Tn.kind,Tn.op,Tn.text,Tn.other,KE];have hrec:∀j t,ks[j]? =some t->M.jT f t.kind t.op t.text t.other (iV w t.kids) (aP true (p++qg (ks.take j) p.length))=some (aP true (p++qg (ks.take (j+1)) p.length)):=by
   intro j t hj;have hst:=Qh hj;have hfl:(p++qg (ks.take j) p.length).length=p.length+sizes (ks.take j):=by rw[PD,wW]
   have:=ih t (ZF hj) f w (p++qg (ks.take j) p.length) ak (by rw[hfl];omega);rw[this,hfl,aiK hj,VN]
  have hloop:=yg (b:=M.wR (M.jT f))
   (t:=if ks=[] then .inl (iV w ks,(ks.length:Int),0,aP true p,k,op,x,y) else .inr (iV w ks,(ks.length:Int),(ks.length:Int),aP true (p++qg ks p.length),k,op,x,y,encI (ends ks p.length)))
   (λj=>if j=0 then .inl (iV w ks,(ks.length:Int),0,aP true p,k,op,x,y) else .inr (iV w ks,(ks.length:Int),(j:Int),aP true (p++qg (ks.take j) p.length),k,op,x,y,encI (ends (ks.take j) p.length))) ks.length
   (by
    intro j hj;obtain⟨t,ht⟩:∃t,ks[j]? =some t:=⟨ks[j],by simp⟩
    have hr:=hrec j t ht;have hst:=Qh ht;have hp1:=t.size_pos;have hg:(iV w ks)[j]? =some (t.row w):=by rw[Wj];simp[ht]
    have hc0:dG .i64 (t.row w) 0=some t.kind:=by cases t;rfl
    have hc1:dG .i64 (t.row w) 1=some t.op:=by cases t;rfl
    have hc2:cStr (t.row w) 2=some t.text:=by cases t;rfl
    have hc3:cStr (t.row w) 3=some t.other:=by cases t;rfl
    have hc4:cSl 5 (t.row w) 4=some (iV w t.kids):=by cases t;rfl
    have hfl:(aP true (p++qg (ks.take (j+1)) p.length)).length=p.length+sizes (ks.take j)+t.size:=by rw[dI,PD,wW,xA ht,Gf,sizes,sizes];omega
    rw[if_neg (show¬j+1=0 by omega),ala ht]
    by_cases h0:j=0
    ·subst h0;rw[if_pos rfl];have hi:idx (iV w ks) 0=some (t.row w):=by have:=bK (iV w ks) 0;rw[x9] at this;rw[this,hg]
     have hr0:M.jT f t.kind t.op t.text t.other (iV w t.kids) (aP true p)=some (aP true (p++qg (ks.take (0+1)) p.length)):=by rw[<-hr];simp[qg]
     simp only[I7,M.wR,M.sO,hi,ah,hc0,hc1,hc2,hc3,hc4,hr0,hfl];rw[zdt ak,aJ,aK ak ak,aK ak ak];rfl
    ·rw[if_neg h0];simp only[I7,M.wR,M.sO,bK,hg,ah,hc0,hc1,hc2,hc3,hc4,hr,hfl,dV,jM,zlt,TG];rw[zdt ak,aJ,fM ak,aJ,fM ak,aJ,aK ak ak,aK ak ak];simp[encI])
   (by
    by_cases h0:ks.length=0
    ·have he:ks=[]:=List.length_eq_zero_iff.1 h0;rw[if_pos h0,if_pos he];simp only[I7,M.wR,M.sO];rw[rF ak,aW]
    ·have he:¬ks=[]:=λe=>h0 (by rw[e];rfl)
     rw[if_neg h0,if_neg he,List.take_length];simp only[I7,M.wR,M.sO];rw[rF ak,aW]) 0 (Nat.zero_le _)
  rw[if_pos rfl] at hloop;rw[M.Kt,hloop,ah]
  by_cases he:ks=[]
  ·rw[if_pos he];subst he;simp only[kT,dI,TG];rw[fM ak,aJ,fM ak,aJ,DK];rfl
  ·rw[if_neg he];simp only[kT,letE,dI,PD,wW,TG,TM,aJ];rw[fM ak,aJ,fM ak,aJ,Tn.flat,<-VN];simp only[DK];rfl
def asD{t:Tn}{w:Bool}(h:t.size<=1048576):M.rU t.kind t.op t.text t.other (iV w t.kids)=some (aP true (t.flat 0)):=by have:=M.ad2 (aGm t t.size w [] (zba _) (by simpa using h));simp only[M.rU,M.Ku];have e:aP true ([]:List Nd)=[]:=rfl;rw[e] at this;rw[this,ah];simp
def abI:∀l:List Nd,I9 (aP true l)=true
 |[]=>rfl
 |n::l=>by have:aP true (n::l)=Xe true n::aP true l:=rfl;rw[this,I9,abI l];simp[Xe,lU,D.pure]
def auC(l:List Nd):[[D.sl true 5 (aP true l)]].all lU=true:=by simp[lU,D.pure,abI]
def parts(ts:List Tn):au:=ts.map λt=>[.sl false 5 (aP false (t.flat 0))]
def acU(k op:Int)(x y:aI)(kr:au)(ts:List Tn)(hs:sizes ts<=900000):M.dW k op x y kr (parts ts)=some (aP true ((Tn.mk k op x y ts).flat 0)):=by
 have htl:=zW ts;simp only[I7,M.dW,M.KX];have hpl:(parts ts).length=ts.length:=by simp[parts]
 have hloop:=yg (b:=M.wH (parts ts) k op x y) (t:=((ts.length:Int),aP true (qg ts 0),encI (ends ts 0))) (λj=>((j:Int),aP true (qg (ts.take j) 0),encI (ends (ts.take j) 0))) ts.length
  (by
   intro j hj;obtain⟨t,ht⟩:∃t,ts[j]? =some t:=⟨ts[j],by simp[hj]⟩
   have hst:=Qh ht;have hp:=t.size_pos;have hr:(parts ts)[j]? =some [.sl false 5 (aP false (t.flat 0))]:=by simp[parts,ht]
   have c0:cSl 5 [D.sl false 5 (aP false (t.flat 0))] 0=some (aP false (t.flat 0)):=rfl;have hfl:(aP true (qg (ts.take j) 0)).length=sizes (ts.take j):=by rw[dI,wW]
   have hsh:M.uH (aP false (t.flat 0)) ((sizes (ts.take j):Nat):Int)=some (aP true (t.flat (sizes (ts.take j)))):=by
    rw[axF (t.flat 0) false _ (by rw[t.flat_length];omega) (λn hn=> ?_)]
    ·rw[t.asi 0 (sizes (ts.take j))];congr 4<;>omega
    ·obtain⟨h1,h2⟩:=KF t 0 n hn;refine⟨ak,λe he=> ?_⟩;have:=h2 e he;omega
   have hrl:(aP true (t.flat (sizes (ts.take j)))).length=t.size:=by rw[dI,t.flat_length]
   have hel:(encI (ends (ts.take j) 0)).length=j:=by rw[dV,jM,zlt];omega
   simp only[I7,M.wH,M.wG,hpl,bK,hr,ah,c0,hfl,hsh,hrl,hel,PD,TG];rw[zdt ak,aJ,fM ak,aJ,fM ak,aJ,fM ak,aJ,fM ak,aJ,aK ak ak,aK ak ak,aiK ht,ala ht,DK,Nat.zero_add];simp[encI])
  (by simp only[I7,M.wH,M.wG,hpl];rw[rF ak,aW,List.take_length]) 0 (Nat.zero_le _)
 have e0:aP true (qg (ts.take 0) 0)=[]:=rfl;have e1:encI (ends (ts.take 0) 0)=[]:=rfl;rw[x9,e0,e1] at hloop;have Qg:M.Ac (parts ts) k op x y (0,[],[])=some ((ts.length:Int),aP true (qg ts 0),encI (ends ts 0)):=hloop;rw[Qg,ah];simp only[TM,aJ,dI,wW,TG];rw[fM ak,aJ,fM ak,aJ,Tn.flat,DK];rfl
def axG(o w:Bool)(ts:List Tn):aF (ts.map λt=>[D.sl w 5 (aP o (t.flat 0))])=parts ts:=by rw[Uy,List.map_map];unfold parts;congr 1;funext t;simp[Bl,D.fz,bV]
def cR(s:Cu):au:=s.code.map byteRow
structure abJ(s:Cu):Prop where
 i:s.i<=s.code.length
 l:s.code.length<=1048576
def abJ.st{s:Cu}(h:abJ s)(p:Nat):abJ (s.st p):=⟨by rw[Cu.av1 s h.i,Cu.Ls];omega,by rw[Cu.Ls];exact h.l⟩
def auD(x:Int):i64.wrap (↑(BitVec.ofInt 64 x &&& BitVec.ofInt 64 255).toNat:Int)=(ach x:Int):=by have:=asl x;show i64.wrap (ach x:Int)=_;exact aK ak ak
def aCD{s:Cu}(h:abJ s):M.qY (cR s) s.i s.h=some ((s.byte:Int),cR s.nx,(s.nx.i:Int),s.nx.h):=by
 have hi:=h.i;have hl:=h.l;simp only[M.qY,M.Qu,auD];have e1:(cR s).length=s.code.length:=by simp[cR]
 have e2:cR s.nx=cR s:=rfl;have e3:s.nx.h=i64.wrap (i64.wrap (s.h * 6364136223846793005)+1442695040888963407):=rfl;rw[e1,e2,e3]
 by_cases hlt:s.i<s.code.length
 ·obtain⟨b,hb⟩:∃b,s.code[s.i]? =some b:=⟨s.code[s.i],by simp[hlt]⟩
  have hr:idx (cR s) (s.i:Int)=some (byteRow b):=by rw[bK,cR,List.getElem?_map,hb];rfl
  have hc:dG .u8 (byteRow b) 0=some (b.toNat:Int):=rfl;have hn:(s.nx.i:Int)=(s.i:Int)+1:=by show((if s.i<s.code.length then s.i+1 else s.i:Nat):Int)=_;rw[if_pos hlt];omega
  have hby:s.byte=ach (i64.wrap ((ach (anL (nxH s.h)):Int)+b.toNat)):=by rw[Cu.byte,hb]
  have hb8:(b.toNat:Int)<=255:=by have:=b.toNat_lt;omega
  rw[zdt ak,aJ,hr,ah,hc,ah,aK (n:=(b.toNat:Int)) ak ak,aK (n:=(s.i:Int)+1) ak ak,hn,hby];rfl
 ·have hb:s.code[s.i]? =none:=List.getElem?_eq_none ak;have hn:(s.nx.i:Int)=(s.i:Int):=by show((if s.i<s.code.length then s.i+1 else s.i:Nat):Int)=_;rw[if_neg hlt]
  have hby:s.byte=ach (anL (nxH s.h)):=by rw[Cu.byte,hb]
  rw[rF ak,aW,hn,hby];rfl
def cS(s:Cu)(p:Nat):au×Int×Int:=(cR (s.st p),((s.st p).i:Int),(s.st p).h)
section
variable {s:Cu} (h:abJ s)
include h
theorem byte_at(p:Nat):M.qY (cS s p).1 (cS s p).2.1 (cS s p).2.2=some ((s.g p:Int),cS s (p+1)):=by show M.qY (cR (s.st p)) ((s.st p).i:Int) (s.st p).h=_;rw[aCD (h.st p)];show _=some (((s.st p).byte:Int),(cR (s.st (p+1)),((s.st (p+1)).i:Int),(s.st (p+1)).h));rw[Cu.st_succ]
theorem tV(p n:Nat)(h1:1<=n)(h2:n<=256):M.bT (n:Int) (cS s p).1 (cS s p).2.1 (cS s p).2.2=some (((s.g p % n:Nat):Int),cS s (p+1)):=by simp only[M.bT,M.Ey,byte_at h,ah];rw[rF ak,aW,zdt ak,aJ,rF ak];simp only[Bool.not_false,aJ];rw[Int.tmod_eq_emod_of_nonneg ak,Int.natCast_emod]
theorem auE(p:Nat)(n:Int)(hn:n<=9000000000000000000):∃(k:Int) (q:Nat),M.bT n (cS s p).1 (cS s p).2.1 (cS s p).2.2=some (k,cS s q)/\p<=q/\q<=p+4/\0<=k/\(k<n\/(n<=0/\k=0)):=by
 by_cases h0:n<=0
 ·refine⟨0,p, ?_,zba _,ak,ak,.inr ⟨h0,rfl⟩⟩;simp only[M.bT,M.Ey];rw[zdt h0,aJ]
 ·by_cases h1:n<=256
  ·obtain⟨m,rfl⟩:=Int.eq_ofNat_of_zero_le (a:=n) ak;have h1':m<=256:=ak;have h0':1<=m:=ak;refine⟨_,_,tV h p m h0' h1',ak,ak,ak,.inl ?_⟩;have:=Nat.mod_lt (s.g p) (show 0<m by omega);exact Int.ofNat_lt.2 this
  ·refine⟨((((s.g p:Int) * 16777216+(s.g (p+1):Int) * 65536)+(s.g (p+2):Int) * 256)+(s.g (p+3):Int)) % n,p+4, ?_,ak,ak,Int.emod_nonneg _ ak,.inl (Int.emod_lt_of_pos _ ak)⟩;have hb:∀q,(s.g q:Int)<256:=λq=>by have:=(s.st q).azv;exact Int.ofNat_lt.2 this
   have b0:=hb p;have b1:=hb (p+1);have b2:=hb (p+2);have b3:=hb (p+3);simp only[M.bT,M.Ey,byte_at h,ah];rw[rF h0,aW,rF h1,aW,rF ak];simp only[Bool.not_false,aJ];rw[show p+1+1=p+2 from rfl,show p+2+1=p+3 from rfl,show p+3+1=p+4 from rfl];rw[aK (n:=(s.g p:Int) * 16777216) ak ak,aK (n:=(s.g (p+1):Int) * 65536) ak ak,aK (n:=(s.g (p+2):Int) * 256) ak ak,
    aK (n:=(s.g p:Int) * 16777216+(s.g (p+1):Int) * 65536) ak ak,aK (n:=(s.g p:Int) * 16777216+(s.g (p+1):Int) * 65536+(s.g (p+2):Int) * 256) ak ak,
    aK (n:=(s.g p:Int) * 16777216+(s.g (p+1):Int) * 65536+(s.g (p+2):Int) * 256+(s.g (p+3):Int)) ak ak,Int.tmod_eq_emod_of_nonneg ak]
theorem MJ(p n:Nat)(h1:1<=n)(h2:n<=256):M.gZ (n:Int) (cS s p).1 (cS s p).2.1 (cS s p).2.2=some (s.g p % n==0,cS s (p+1)):=by
 simp only[M.gZ,M.Qx,tV h p n h1 h2,ah];congr 2;cases hc:s.g p % n==0 with
 |true=>simp only[beq_iff_eq] at hc;rw[hc];rfl
 |false=>simp only[nY,ne_eq] at hc;exact nY.2 ak
end
def uZ(t:aI):Prop:=t.length<=100
def pkS(rows:au)(k:Nat):aI:=match rows[k % rows.length]? with
 |some [.str t]=>t
 |_=>[]
def pkI(rows:au)(k:Nat):Int:=match rows[k % rows.length]? with
 |some [.int .i64 n]=>n
 |_=>0
def aiM(f:Row->Bool)(rows:au):Bool:=rows.all f &&(Nat.ble 1 rows.length && Nat.ble rows.length 256)
def sB:Row->Bool
 |[.str t]=>Nat.ble t.length 100
 |_=>false
def iB:Row->Bool
 |[.int .i64 n]=>decide (-1000<=n) && decide (n<=1000)
 |_=>false
def acV{f:Row->Bool}{rows:au}(hr:aiM f rows=true)(k:Nat):∃r,rows[k % rows.length]? =some r/\f r=true/\1<=rows.length/\rows.length<=256:=by simp only[aiM,wo] at hr;have h1:=Nat.le_of_ble_eq_true hr.2.1;have h2:=Nat.le_of_ble_eq_true hr.2.2;have hm:=Nat.mod_lt k (show 0<rows.length by omega);exact⟨rows[k % rows.length],by simp[hm],List.all_eq_true.1 hr.1 _ (List.getElem_mem hm),h1,h2⟩
def yH{rows:au}(hr:aiM sB rows=true)(k:Nat):uZ (pkS rows k):=by
 obtain⟨r,h1,h2,_⟩:=acV hr k;unfold pkS;rw[h1];unfold sB at h2;split at h2
 ·exact Nat.le_of_ble_eq_true h2
 ·cases h2
def TN{rows:au}(hr:aiM iB rows=true)(k:Nat): -1000<=pkI rows k/\pkI rows k<=1000:=by
 obtain⟨r,h1,h2,_⟩:=acV hr k;unfold pkI;rw[h1];unfold iB at h2;split at h2
 ·simpa using h2
 ·cases h2
section
variable {s:Cu} (h:abJ s)
include h
theorem Xz(p:Nat)(rows:au)(hr:aiM sB rows=true):M.kK rows (cS s p).1 (cS s p).2.1 (cS s p).2.2=some (pkS rows (s.g p),cS s (p+1)):=by
 obtain⟨r,h1,h2,h3,h4⟩:=acV hr (s.g p);simp only[M.kK,M.Qv];rw[tV h p rows.length h3 h4,ah];simp only[bK,h1,ah,pkS];unfold sB at h2;split at h2
 ·rfl
 ·cases h2
theorem WC(p:Nat)(rows:au)(hr:aiM iB rows=true):M.jV rows (cS s p).1 (cS s p).2.1 (cS s p).2.2=some (pkI rows (s.g p),cS s (p+1)):=by
 obtain⟨r,h1,h2,h3,h4⟩:=acV hr (s.g p);simp only[M.jV,M.JU];rw[tV h p rows.length h3 h4,ah];simp only[bK,h1,ah,pkI];unfold iB at h2;split at h2
 ·rfl
 ·cases h2
theorem ZP(p:Nat):∃t,uZ t/\M.mg (cS s p).1 (cS s p).2.1 (cS s p).2.2=some (t,cS s (p+1)):=by refine⟨_, ?_,by simp only[M.mg,M.Qw];rw[Xz h p _ rfl];rfl⟩;exact yH rfl _
theorem axH(p:Nat):∃t,uZ t/\M.DV (cS s p).1 (cS s p).2.1 (cS s p).2.2=some (t,cS s (p+1)):=by refine⟨_, ?_,by simp only[M.DV,M.Td];rw[Xz h p _ rfl];rfl⟩;exact yH rfl _
theorem axI(p:Nat):∃t,uZ t/\M.DW (cS s p).1 (cS s p).2.1 (cS s p).2.2=some (t,cS s (p+1)):=by refine⟨_, ?_,by simp only[M.DW,M.Tf];rw[Xz h p _ rfl];rfl⟩;exact yH rfl _
theorem axJ(p:Nat):∃t,uZ t/\M.DY (cS s p).1 (cS s p).2.1 (cS s p).2.2=some (t,cS s (p+1)):=by refine⟨_, ?_,by simp only[M.DY,M.Ti];rw[Xz h p _ rfl];rfl⟩;exact yH rfl _
theorem axK(p:Nat):∃t:Int, -1000<=t/\t<=1000/\M.BN (cS s p).1 (cS s p).2.1 (cS s p).2.2=some (t,cS s (p+1)):=by
 refine⟨_, ?_, ?_,by simp only[M.BN,M.NT];rw[WC h p _ rfl];rfl⟩
 ·exact(TN rfl _).1
 ·exact(TN rfl _).2
end
structure Ps where
 level:Int
 gU:Bool
 nN:Bool
 oC:Bool
 fD:Bool
 deriving DecidableEq,Inhabited
def Ps.top:Ps:=⟨1,false,false,false,false⟩
def Ps.zero:Ps:=⟨0,false,false,false,false⟩
def dP(op:Int):Int:=bif op==44 then 3 else bif op==45 then 4 else bif op==67||op==46 then 6 else
 bif op==63||(op==48||(op==47||(op==50||(op==62||op==49)))) then 7 else bif op==99 then 8 else bif op==55||op==56 then 9 else
 bif op==57||(op==58||op==59) then 10 else bif op==60 then 12 else 0
def lvl(k op:Int):Int:=bif k==15 then 1 else bif k==14 then 2 else bif k==13 then 5 else bif k==12 then dP op else bif k==11 then 11 else
 bif k==9||k==10 then 13 else bif k==6 then 14 else bif k==1||(k==2||(k==3||(k==4||(k==5||(k==7||k==8))))) then 15 else 0
def gY(p:Ps):Bool:=(decide (1<=p.level) && decide (p.level<=15)) &&(!p.gU||p.level==14)
def fits(k op:Int)(p:Ps):Bool:=bif !(gY p)||lvl k op==0 then false else bif p.nN && k==13 then false else bif p.oC &&(k==12 && op==62) then false else
 bif p.fD &&(k==11||(k==9||k==4)) then false else(p.gU && k==9)||decide (p.level<=lvl k op)
def sides(op:Int):Int×Int:=bif dP op==3 then(3,4) else bif dP op==4 then(4,5) else bif dP op==6 then(7,7) else bif dP op==7 then(8,8) else
 bif dP op==8 then(8,9) else bif dP op==9 then(9,10) else bif dP op==10 then(10,11) else(13,11)
def VI(k op:Int)(j:Nat):Int:=bif k==15 then(bif Nat.beq j 0 then 14 else 1) else bif k==14 then(bif Nat.beq j 0 then 3 else 2) else bif k==13 then 5 else bif k==11 then 11 else
 bif k==12 then(bif Nat.beq j 0 then(sides op).1 else(sides op).2) else 14
def cO(k op:Int)(n j:Nat)(p:Ps):Ps:=bif !(gY p)||(!(Nat.blt j n)||lvl k op==0) then .zero else bif lvl k op==15||(k==13 && Nat.blt 1 n) then .top else
 ⟨VI k op j,k==6,p.nN,p.oC,bif k==11||(k==9||(k==10||k==6)) then false else(Nat.beq j 0 && p.fD)||(Nat.beq j 1 &&(k==12 && op==99))⟩
structure Cnt(k op:Int)(y:aI)(n:Nat):Prop where
 one:k=6\/k=9\/k=10\/k=11\/k=20\/k=32\/k=40\/k=41->n=1
 two:k=12\/k=15\/k=29\/k=30->n=2
 some_:k=5\/k=13\/k=44->1<=n
 three:k=14->n=3
 four:k=31->n=4
 cnd:k=28->n=2\/n=3
 prn:k=21->(op=0\/op=1)/\(y≠[]->1<=n)
 wrd:k=23\/k=24->n<=1
 non:k=1\/k=2\/k=3\/k=4\/k=16\/k=22\/k=25\/k=26\/k=34->n=0
 rule:k=42->(op=1/\n=1)\/(op=2/\n=1)\/(op=3/\n=2)
 range:k=43->(op=1/\n=2)\/(op=3/\n=3)
 few:k≠33->k≠45->n<=7
 bin:k=12->dP op≠0/\op≠61
 asg:k=15->op=54\/(38<=op/\op<=43)
 stp:k=9\/k=10->op=51\/op=52
 una:k=11->op=55\/op=56\/op=61
def cls(k op:Int)(n j:Nat):Nat:=
 if k=9\/k=10\/(k=15/\j=0) then 6 else if k=28\/k=29 then(if j=0 then 0 else 1) else if k=30 then(if j=0 then 1 else 0) else
 if k=31 then(if j<3 then 3 else 1) else if k=32\/k=40\/k=41 then 1 else if k=33 then 2 else if k=42 then(if op=2\/(op=3/\j+1=n) then 1 else 0) else
 if k=43 then(if j=2 then 1 else 0) else if k=44 then(if j+1=n then 1 else 4) else if k=45 then 5 else 0
def SE(c:Nat)(d:Int):Prop:=match c with
 |0=>1<=d/\d<=15
 |1=>d=33
 |2=>20<=d/\d<=34
 |3=>d=16\/(1<=d/\d<=15)
 |4=>d=1
 |5=>(40<=d/\d<=44)\/d=34
 |_=>d=1\/d=5\/d=6
def aGn(k:Int):Prop:=(1<=k/\k<=16)\/(20<=k/\k<=34)\/(40<=k/\k<=45)
mutual
def Yg:Tn->Prop
 | .mk k op x y ks=>aGn k/\Cnt k op y ks.length/\oks k op ks.length ks 0
def oks(k op:Int)(n:Nat):List Tn->Nat->Prop
 |[],_=>True
 |t::ts,j=>SE (cls k op n j) t.kind/\(Yg t)/\oks k op n ts (j+1)
end
def asE{k op:Int}{n:Nat}:∀{ks:List Tn} {j i:Nat} {t:Tn},oks k op n ks j->ks[i]? =some t->SE (cls k op n (j+i)) t.kind/\(Yg t)
 |[],_,i,_,_,h=>by simp at h
 |u::ts,j,0,t,h,e=>by rw[oks] at h;cases e;exact⟨h.1,h.2.1⟩
 |u::ts,j,i+1,t,h,e=>by rw[oks] at h;rw[List.getElem?_cons_succ] at e;have:=asE h.2.2 e;rw[show j+1+i=j+(i+1) by omega] at this;exact this
def aGo{k op:Int}{x y:aI}{ks:List Tn}(h:(Yg (Tn.mk k op x y ks))){i:Nat}{t:Tn}(e:ks[i]? =some t):SE (cls k op ks.length i) t.kind/\(Yg t):=by
 rw[Yg] at h;have:=asE h.2.2 e
 rwa [Nat.zero_add] at this
def aGp{k op:Int}{x y:aI}{ks:List Tn}(h:(Yg (Tn.mk k op x y ks))):Cnt k op y ks.length:=by rw[Yg] at h;exact h.2.1
def isE(t:Tn):Prop:=1<=t.kind/\t.kind<=15
def aTK{k op:Int}{x y:aI}{ks:List Tn}(h:(Yg (Tn.mk k op x y ks)))(he:1<=k/\k<=15){i:Nat}{t:Tn}(e:ks[i]? =some t):(isE t)/\(Yg t):=by
 obtain⟨h1,h2⟩:=aGo h e;refine⟨?_,h2⟩;unfold isE;have:cls k op ks.length i=6\/cls k op ks.length i=0:=by
  unfold cls;split
  ·exact .inl rfl
  ·repeat(rw[if_neg ak])
   exact .inr rfl
 rcases this with h|h<;>rw[h] at h1<;>simp only[SE] at h1<;>omega
def KQ{a b lo hi:Int}(c:Bool)(ha:lo<=a/\a<=hi)(hb:lo<=b/\b<=hi):lo<=(bif c then a else b)/\(bif c then a else b)<=hi:=by cases c<;>assumption
def Zt(op:Int):0<=dP op/\dP op<=12:=by unfold dP;exact KQ _ ⟨by decide,by decide⟩ (KQ _ ⟨by decide,by decide⟩ (KQ _ ⟨by decide,by decide⟩ (KQ _ ⟨by decide,by decide⟩ (KQ _ ⟨by decide,by decide⟩ (KQ _ ⟨by decide,by decide⟩ (KQ _ ⟨by decide,by decide⟩ (KQ _ ⟨by decide,by decide⟩ ⟨by decide,by decide⟩)))))))
def aCE{k op:Int}{y:aI}{n:Nat}(he:1<=k/\k<=15)(hc:Cnt k op y n):1<=lvl k op/\lvl k op<=15:=by
 obtain⟨h1,h2⟩:=he;have hk:k=1\/k=2\/k=3\/k=4\/k=5\/k=6\/k=7\/k=8\/k=9\/k=10\/k=11\/k=13\/k=14\/k=15\/k=12:=ak;rcases hk with rfl|rfl|rfl|rfl|rfl|rfl|rfl|rfl|rfl|rfl|rfl|rfl|rfl|rfl|rfl
 case inr.inr.inr.inr.inr.inr.inr.inr.inr.inr.inr.inr.inr.inr=>have hb:=(hc.bin rfl).1;have:=Zt op;change 1<=dP op/\dP op<=15;omega
 all_goals simp[lvl]
def abK{a b:Int×Int}(c:Bool)(ha:(1<=a.1/\a.1<=14)/\1<=a.2/\a.2<=14)(hb:(1<=b.1/\b.1<=14)/\1<=b.2/\b.2<=14):(1<=(bif c then a else b).1/\(bif c then a else b).1<=14)/\1<=(bif c then a else b).2/\(bif c then a else b).2<=14:=by cases c<;>assumption
def apJ(op:Int):(1<=(sides op).1/\(sides op).1<=14)/\1<=(sides op).2/\(sides op).2<=14:=by unfold sides;exact abK _ (by decide) (abK _ (by decide) (abK _ (by decide) (abK _ (by decide) (abK _ (by decide) (abK _ (by decide) (abK _ (by decide) (by decide)))))))
def amH(k op:Int)(j:Nat):1<=VI k op j/\VI k op j<=14:=by have h:=apJ op;unfold VI;exact KQ _ (KQ _ (by decide) (by decide)) (KQ _ (KQ _ (by decide) (by decide)) (KQ _ (by decide) (KQ _ (by decide) (KQ _ (KQ _ h.1 h.2) (by decide)))))
def jJ{k op:Int}{n j:Nat}{p:Ps}(hp:gY p=true)(hj:j<n)(hl:lvl k op≠0):gY (cO k op n j p)=true:=by
 have h1:Nat.blt j n=true:=by rw[Nat.blt_eq];exact hj
 have h2:(lvl k op==0)=false:=by simpa using hl
 unfold cO;rw[hp,h1,h2];simp only[zaZ,Bool.or_false,aW];cases(lvl k op==15||(k==13 && Nat.blt 1 n)) with
 |true=>rfl
 |false=>
  have hr:=amH k op j;simp only[aW,gY];rw[zdt hr.1,zdt (show VI k op j<=15 by omega)]
  by_cases h6:k=6
  ·subst h6;rfl
  ·have:(k==6)=false:=by simpa using h6
   rw[this];rfl
def aiN{α:Type}(a b:Bool)(x y:α):(bif a||b then x else y)=bif a then x else bif b then x else y:=by cases a<;>rfl
def aCF{α:Type}(a b:Bool)(x y:α):(bif a && b then x else y)=bif a then(bif b then x else y) else y:=by cases a<;>rfl
def Zu{α:Type}(a:Bool)(x y:α):some (bif a then x else y)=bif a then some x else some y:=by cases a<;>rfl
def aee(op:Int):M.qJ op=some (dP op):=by
 simp only[M.qJ,M.Oa,dP,aiN,Zu]
 first|done|rfl
def Qi(op:Int):M.mV op=some (dP op)/\M.qJ op=some (dP op):=by
 refine⟨?_,aee op⟩;simp only[M.mV,M.Jp,dP,aiN,Zu]
 first|done|rfl
def aef(k op:Int)(x y:aI)(r:au):M.mQ k op x y r=some (lvl k op):=by
 simp only[M.mQ,M.Ob,lvl,aiN,Zu,aee,ah]
 first|done|rfl
def af8(p:Ps):M.pz p.level p.gU p.nN p.oC p.fD=some (gY p):=by simp only[M.pz,M.Tj,tX,ah,gY,ge_iff_le];cases(decide (1<=p.level) && decide (p.level<=15))<;>cases p.gU<;>rfl
def aiO(p:Ps):M.Je p.level p.gU p.nN p.oC p.fD=some (gY p)/\M.pz p.level p.gU p.nN p.oC p.fD=some (gY p):=by refine⟨?_,af8 p⟩;simp only[M.Je,M.Tt,rO,ah,gY,ge_iff_le];cases(decide (1<=p.level) && decide (p.level<=15))<;>cases p.gU<;>rfl
def aaL:M.fO=some (1,false,false,false,false):=rfl
def aCG(k op:Int)(p:Ps):fits k op p=bif !(gY p) then false else bif lvl k op==0 then false else bif p.nN && k==13 then false else bif p.oC &&(k==12 && op==62) then false else
  bif p.fD &&(k==11||(k==9||k==4)) then false else bif p.gU && k==9 then true else decide (p.level<=lvl k op):=by
 unfold fits;rw[aiN];cases(p.gU && k==9)<;>rfl
def axL(k op:Int)(x y:aI)(r:au)(p:Ps):M.kM k op x y r p.level p.gU p.nN p.oC p.fD=some (fits k op p):=by
 rw[aCG];simp only[M.kM,M.U1,M.CP,aef k op x y r,af8 p,ah,aiN,aCF,Zu]
 first|done|rfl
def nb0(j:Nat):((j:Int)==0)=Nat.beq j 0:=by cases j<;>rfl
def gt0(j:Nat):decide ((j:Int)>0)= !(Nat.beq j 0):=by
 cases j with
 |zero=>rfl
 |succ j=>rw[zdt ak];rfl
def arq(op:Int):M.kG op=some (sides op):=by simp only[M.kG,M.Oe,(Qi op).2,ah,sides,Zu]
def Ps.XH(p:Ps):Int×Bool×Bool×Bool×Bool:=(p.level,p.gU,p.nN,p.oC,p.fD)
def aCH(j n:Nat)(h:n<=1048576):(decide ((j:Int)>=0) && decide ((j:Int)<=i64.wrap ((n:Int) - 1)))=Nat.blt j n:=by
 rw[aK ak ak];cases hb:Nat.blt j n with
 |true=>rw[Nat.blt_eq] at hb;rw[zdt ak,zdt ak];rfl
 |false=>
  have:¬j<n:=by rw[<-Nat.blt_eq,hb];simp
  rw[rF (show¬(j:Int)<=(n:Int) - 1 by omega),Bool.and_false]
def many(n:Nat):decide ((n:Int)>1)=Nat.blt 1 n:=by
 cases hb:Nat.blt 1 n with
 |true=>rw[Nat.blt_eq] at hb;exact zdt ak
 |false=>
  have:¬1<n:=by rw[<-Nat.blt_eq,hb];simp
  exact rF ak
def ars(k:Int)(hk:I64 k):M.eY k=some (k,spell k,0):=by simp only[M.eY,M.QK,(Ux k hk).1,(Ux k hk).2,ah]
end Go.Proofs.YthmchnpcplgciaaGreatDoor
