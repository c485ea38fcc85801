import Derived.Test.YtbgadfelmhoheaaGreatDoorPForms2
set_option linter.defProp false
namespace Go.Proofs.YtbgadfelmhoheaaGreatDoor
open Go Go.Vm
open Go.IntKind (i64)
set_option linter.unusedVariables false
set_option linter.unusedSimpArgs false
noncomputable section
def M.oN{R:Type}(dJ:Int->Int->aA->aA->au->Int->Bool->Bool->Bool->Bool->au->au->Bool->Option (au×au×Bool))(t' gX:Int)(je lq:aA)(kC:au)(p:Int)(p1 p2 p3 p4:Bool)(c c1:au)(c2:Bool)(k:au×au×Bool->Option R):Option R:=
 (M.iW t' gX je lq kC).bind λRN=>
 ((M.Bo RN.1 RN.2.1 RN.2.2.1 RN.2.2.2.1 RN.2.2.2.2 p p1 p2 p3 p4).bind λaCl=>
 (bif c2 then
 ((M.lS RN.1 RN.2.1 RN.2.2.1 RN.2.2.2.1 RN.2.2.2.2).bind λaCm=>
 (bif aCm !=15 then
 ((M.gJ 32).bind λaov=>
 (bif ay c then
 (bif ay c1 then
 ((M.aP ([[D.int .i64 aov.1,D.str aov.2.1,D.int .i64 aov.2.2]]) c c1 c2).bind λagB=>
 (M.pz.bind λagC=>
 (bif ay agB.1 then
 (bif ay agB.2.1 then
 ((dJ t' gX je lq kC agC.1 agC.2.1 agC.2.2.1 agC.2.2.2.1 agC.2.2.2.2 agB.1 agB.2.1 agB.2.2).bind λagD=>
 ((M.gJ 33).bind λaow=>
 (bif ay agD.1 then
 (bif ay agD.2.1 then
 ((M.aP ([[D.int .i64 aow.1,D.str aow.2.1,D.int .i64 aow.2.2]]) agD.1 agD.2.1 agD.2.2).bind λagE=>
 (bif ay agE.1 then(bif ay agE.2.1 then(k ((agE.1,agE.2.1,agE.2.2))) else none) else none)) else none) else none))) else none) else none))) else none) else none)) else
 (bif !RN.1==4 then
 (bif ay c then
 (bif ay c1 then
 ((dJ t' gX je lq kC p p1 p2 p3 p4 c c1 c2).bind λagF=>
 (bif ay agF.1 then(bif ay agF.2.1 then(k ((agF.1,agF.2.1,agF.2.2))) else none) else none)) else none) else none) else
 ((M.gJ 32).bind λaox=>
 (bif ay c then
 (bif ay c1 then
 ((M.aP ([[D.int .i64 aox.1,D.str aox.2.1,D.int .i64 aox.2.2]]) c c1 c2).bind λagG=>
 (M.pz.bind λagH=>
 (bif ay agG.1 then
 (bif ay agG.2.1 then
 ((dJ t' gX je lq kC agH.1 agH.2.1 agH.2.2.1 agH.2.2.2.1 agH.2.2.2.2 agG.1 agG.2.1 agG.2.2).bind λagI=>
 ((M.gJ 33).bind λaoy=>
 (bif ay agI.1 then
 (bif ay agI.2.1 then
 ((M.aP ([[D.int .i64 aoy.1,D.str aoy.2.1,D.int .i64 aoy.2.2]]) agI.1 agI.2.1 agI.2.2).bind λagJ=>
 (bif ay agJ.1 then(bif ay agJ.2.1 then(k ((agJ.1,agJ.2.1,agJ.2.2))) else none) else none)) else none) else none))) else none) else none))) else none) else none))))) else
 (bif !!aCl then
 (bif ay c then
 (bif ay c1 then
 ((dJ t' gX je lq kC p p1 p2 p3 p4 c c1 c2).bind λagK=>
 (bif ay agK.1 then(bif ay agK.2.1 then(k ((agK.1,agK.2.1,agK.2.2))) else none) else none)) else none) else none) else
 ((M.gJ 32).bind λaoz=>
 (bif ay c then
 (bif ay c1 then
 ((M.aP ([[D.int .i64 aoz.1,D.str aoz.2.1,D.int .i64 aoz.2.2]]) c c1 c2).bind λagL=>
 (M.pz.bind λagM=>
 (bif ay agL.1 then
 (bif ay agL.2.1 then
 ((dJ t' gX je lq kC agM.1 agM.2.1 agM.2.2.1 agM.2.2.2.1 agM.2.2.2.2 agL.1 agL.2.1 agL.2.2).bind λagN=>
 ((M.gJ 33).bind λaoA=>
 (bif ay agN.1 then
 (bif ay agN.2.1 then
 ((M.aP ([[D.int .i64 aoA.1,D.str aoA.2.1,D.int .i64 aoA.2.2]]) agN.1 agN.2.1 agN.2.2).bind λagO=>
 (bif ay agO.1 then(bif ay agO.2.1 then(k ((agO.1,agO.2.1,agO.2.2))) else none) else none)) else none) else none))) else none) else none))) else none) else none)))))
def C.RP{dJ:Int->Int->aA->aA->au->Int->Bool->Bool->Bool->Bool->au->au->Bool->Option (au×au×Bool)}(EX:S.mD.ok X0 λx=>dJ x.1.2.1.1 x.1.2.1.2.1 x.1.2.1.2.2.1 x.1.2.1.2.2.2.1 x.1.2.1.2.2.2.2.1 x.1.2.2.1.1 x.1.2.2.1.2.1 x.1.2.2.1.2.2.1 x.1.2.2.1.2.2.2.1 x.1.2.2.1.2.2.2.2.1 x.2.1.1 x.2.1.2.1 x.2.1.2.2.1):S.oz.ok X0 λx=>M.oN dJ x.1.2.1.1 x.1.2.1.2.1 x.1.2.1.2.2.1 x.1.2.1.2.2.2.1 x.1.2.1.2.2.2.2.1 x.1.2.2.1.1 x.1.2.2.1.2.1 x.1.2.2.1.2.2.1 x.1.2.2.1.2.2.2.1 x.1.2.2.1.2.2.2.2.1 x.2.1.1 x.2.1.2.1 x.2.1.2.2.1 some:=fnS (λx=>M.oN dJ x.1.2.1.1 x.1.2.1.2.1 x.1.2.1.2.2.1 x.1.2.1.2.2.2.1 x.1.2.1.2.2.2.2.1 x.1.2.2.1.1 x.1.2.2.1.2.1 x.1.2.2.1.2.2.1 x.1.2.2.1.2.2.2.1 x.1.2.2.1.2.2.2.2.1 x.2.1.1 x.2.1.2.1 x.2.1.2.2.1) [fe C.iW,fe C.Bo,fe C.lS,fe C.gJ,fe C.aP,fe C.pz,fe EX] [] (by intros;unfold M.oN;repeat' first|with_reducible apply iw|with_reducible apply Lh|with_reducible apply Lj|with_reducible apply Ll|with_reducible apply Lm|(intro _)|apply iw|rfl)
def M.qm{R:Type}(dJ:Int->Int->aA->aA->au->Int->Bool->Bool->Bool->Bool->au->au->Bool->Option (au×au×Bool))(pF:Int->Int->aA->aA->au->Int->Bool->Bool->Bool->Bool->au->au->Bool->Option (au×au×Bool))(t' gX:Int)(je lq:aA)(kC:au)(k' p:Int)(p1 p2 p3 p4:Bool)(c c1:au)(c2:Bool)(k:au×au×Bool->Option R):Option R:=
 (M.iW t' gX je lq kC).bind λUg=>
 ((idx kC k').bind λaqN=>
 (kZ 5 aqN λarU arV arW arX agP=>
 ((M.tZ Ug.1 Ug.2.1 Ug.2.2.1 Ug.2.2.2.1 Ug.2.2.2.2 k' p p1 p2 p3 p4).bind λUh=>
 ((M.nX Ug.1 Ug.2.1 Ug.2.2.1 Ug.2.2.2.1 Ug.2.2.2.2 k').bind λaCn=>
 (bif aCn then
 (bif ay c then
 (bif ay c1 then
 ((dJ arU arV arW arX agP Uh.1 Uh.2.1 Uh.2.2.1 Uh.2.2.2.1 Uh.2.2.2.2 c c1 c2).bind λagQ=>
 (bif ay agQ.1 then(bif ay agQ.2.1 then(k ((agQ.1,agQ.2.1,agQ.2.2))) else none) else none)) else none) else none) else
 (bif ay c then
 (bif ay c1 then
 ((pF arU arV arW arX agP Uh.1 Uh.2.1 Uh.2.2.1 Uh.2.2.2.1 Uh.2.2.2.2 c c1 c2).bind λagR=>
 (bif ay agR.1 then(bif ay agR.2.1 then(k ((agR.1,agR.2.1,agR.2.2))) else none) else none)) else none) else none))))))
def C.TD{dJ:Int->Int->aA->aA->au->Int->Bool->Bool->Bool->Bool->au->au->Bool->Option (au×au×Bool)}{pF:Int->Int->aA->aA->au->Int->Bool->Bool->Bool->Bool->au->au->Bool->Option (au×au×Bool)}(EX:S.mD.ok X0 λx=>dJ x.1.2.1.1 x.1.2.1.2.1 x.1.2.1.2.2.1 x.1.2.1.2.2.2.1 x.1.2.1.2.2.2.2.1 x.1.2.2.1.1 x.1.2.2.1.2.1 x.1.2.2.1.2.2.1 x.1.2.2.1.2.2.2.1 x.1.2.2.1.2.2.2.2.1 x.2.1.1 x.2.1.2.1 x.2.1.2.2.1)(TF:S.oz.ok X0 λx=>pF x.1.2.1.1 x.1.2.1.2.1 x.1.2.1.2.2.1 x.1.2.1.2.2.2.1 x.1.2.1.2.2.2.2.1 x.1.2.2.1.1 x.1.2.2.1.2.1 x.1.2.2.1.2.2.1 x.1.2.2.1.2.2.2.1 x.1.2.2.1.2.2.2.2.1 x.2.1.1 x.2.1.2.1 x.2.1.2.2.1):S.iM.ok X0 λx=>M.qm dJ pF x.1.2.1.1 x.1.2.1.2.1 x.1.2.1.2.2.1 x.1.2.1.2.2.2.1 x.1.2.1.2.2.2.2.1 x.1.2.2.1 x.1.2.2.2.1.1 x.1.2.2.2.1.2.1 x.1.2.2.2.1.2.2.1 x.1.2.2.2.1.2.2.2.1 x.1.2.2.2.1.2.2.2.2.1 x.2.1.1 x.2.1.2.1 x.2.1.2.2.1 some:=fnS (λx=>M.qm dJ pF x.1.2.1.1 x.1.2.1.2.1 x.1.2.1.2.2.1 x.1.2.1.2.2.2.1 x.1.2.1.2.2.2.2.1 x.1.2.2.1 x.1.2.2.2.1.1 x.1.2.2.2.1.2.1 x.1.2.2.2.1.2.2.1 x.1.2.2.2.1.2.2.2.1 x.1.2.2.2.1.2.2.2.2.1 x.2.1.1 x.2.1.2.1 x.2.1.2.2.1) [fe C.iW,fe C.tZ,fe C.nX,fe EX,fe TF] [] (by intros;simp only[M.qm,kZ];repeat' first|with_reducible apply iw|with_reducible apply Lh|with_reducible apply Lj|with_reducible apply Ll|with_reducible apply Lm|(intro _)|apply iw|rfl)
def M.gG:Nat->(Int->Int->aA->aA->au->Int->Int->Bool->Bool->Bool->Bool->au->au->Bool->Option (au×au×Bool))×(Int->Int->aA->aA->au->Int->Int->Int->Bool->Bool->Bool->Bool->au->au->Bool->Option (au×au×Bool))×(Int->Int->aA->aA->au->Int->Bool->Bool->Bool->Bool->au->au->Bool->Option (au×au×Bool))×(Int->Int->aA->aA->au->Int->Bool->Bool->Bool->Bool->au->au->Bool->Option (au×au×Bool))×(Int->Int->aA->aA->au->Int->Bool->Bool->Bool->Bool->au->au->Bool->Option (au×au×Bool)):=
 Nat.rec (λ_ _ _ _ _ _ _ _ _ _ _ _ _ _=>none,λ_ _ _ _ _ _ _ _ _ _ _ _ _ _ _=>none,λ_ _ _ _ _ _ _ _ _ _ _ _ _=>none,λ_ _ _ _ _ _ _ _ _ _ _ _ _=>none,λ_ _ _ _ _ _ _ _ _ _ _ _ _=>none) λ_ qz=>(λt' gX je lq kC k' p p1 p2 p3 p4 c c1 c2=>M.qm qz.2.2.2.1 qz.2.2.2.2 t' gX je lq kC k' p p1 p2 p3 p4 c c1 c2 some,λt' gX je lq kC open' shut p p1 p2 p3 p4 c c1 c2=>M.oM qz.1 t' gX je lq kC open' shut p p1 p2 p3 p4 c c1 c2 some,λt' gX je lq kC p p1 p2 p3 p4 c c1 c2=>M.cO qz.1 qz.2.1 t' gX je lq kC p p1 p2 p3 p4 c c1 c2 some,λt' gX je lq kC p p1 p2 p3 p4 c c1 c2=>M.fG qz.2.1 qz.2.2.1 t' gX je lq kC p p1 p2 p3 p4 c c1 c2 some,λt' gX je lq kC p p1 p2 p3 p4 c c1 c2=>M.oN qz.2.2.2.1 t' gX je lq kC p p1 p2 p3 p4 c c1 c2 some)
def M.jF(n:Nat):Int->Int->aA->aA->au->Int->Int->Bool->Bool->Bool->Bool->au->au->Bool->Option (au×au×Bool):=(M.gG n).1
def M.oO(n:Nat):Int->Int->aA->aA->au->Int->Int->Int->Bool->Bool->Bool->Bool->au->au->Bool->Option (au×au×Bool):=(M.gG n).2.1
def M.nJ(n:Nat):Int->Int->aA->aA->au->Int->Bool->Bool->Bool->Bool->au->au->Bool->Option (au×au×Bool):=(M.gG n).2.2.1
def M.oP(n:Nat):Int->Int->aA->aA->au->Int->Bool->Bool->Bool->Bool->au->au->Bool->Option (au×au×Bool):=(M.gG n).2.2.2.1
def M.sN(n:Nat):Int->Int->aA->aA->au->Int->Bool->Bool->Bool->Bool->au->au->Bool->Option (au×au×Bool):=(M.gG n).2.2.2.2
def M.Vg(n:Nat):M.jF (n+1)=λt' gX je lq kC k' p p1 p2 p3 p4 c c1 c2=>M.qm (M.oP n) (M.sN n) t' gX je lq kC k' p p1 p2 p3 p4 c c1 c2 some:=rfl
def M.TG(n:Nat):M.oO (n+1)=λt' gX je lq kC open' shut p p1 p2 p3 p4 c c1 c2=>M.oM (M.jF n) t' gX je lq kC open' shut p p1 p2 p3 p4 c c1 c2 some:=rfl
def M.PE(n:Nat):M.nJ (n+1)=λt' gX je lq kC p p1 p2 p3 p4 c c1 c2=>M.cO (M.jF n) (M.oO n) t' gX je lq kC p p1 p2 p3 p4 c c1 c2 some:=rfl
def M.TI(n:Nat):M.oP (n+1)=λt' gX je lq kC p p1 p2 p3 p4 c c1 c2=>M.fG (M.oO n) (M.nJ n) t' gX je lq kC p p1 p2 p3 p4 c c1 c2 some:=rfl
def M.TJ(n:Nat):M.sN (n+1)=λt' gX je lq kC p p1 p2 p3 p4 c c1 c2=>M.oN (M.oP n) t' gX je lq kC p p1 p2 p3 p4 c c1 c2 some:=rfl
def M.iM(t' gX:Int)(je lq:aA)(kC:au)(k' p:Int)(p1 p2 p3 p4:Bool)(c c1:au)(c2:Bool):Option (au×au×Bool):=lim λn=>M.jF n t' gX je lq kC k' p p1 p2 p3 p4 c c1 c2
def M.mg(t' gX:Int)(je lq:aA)(kC:au)(open' shut p:Int)(p1 p2 p3 p4:Bool)(c c1:au)(c2:Bool):Option (au×au×Bool):=lim λn=>M.oO n t' gX je lq kC open' shut p p1 p2 p3 p4 c c1 c2
def M.kT(t' gX:Int)(je lq:aA)(kC:au)(p:Int)(p1 p2 p3 p4:Bool)(c c1:au)(c2:Bool):Option (au×au×Bool):=lim λn=>M.nJ n t' gX je lq kC p p1 p2 p3 p4 c c1 c2
def M.mD(t' gX:Int)(je lq:aA)(kC:au)(p:Int)(p1 p2 p3 p4:Bool)(c c1:au)(c2:Bool):Option (au×au×Bool):=lim λn=>M.oP n t' gX je lq kC p p1 p2 p3 p4 c c1 c2
def M.oz(t' gX:Int)(je lq:aA)(kC:au)(p:Int)(p1 p2 p3 p4:Bool)(c c1:au)(c2:Bool):Option (au×au×Bool):=lim λn=>M.sN n t' gX je lq kC p p1 p2 p3 p4 c c1 c2
def C.gG:∀n,(S.iM.ok X0 λx=>M.jF n x.1.2.1.1 x.1.2.1.2.1 x.1.2.1.2.2.1 x.1.2.1.2.2.2.1 x.1.2.1.2.2.2.2.1 x.1.2.2.1 x.1.2.2.2.1.1 x.1.2.2.2.1.2.1 x.1.2.2.2.1.2.2.1 x.1.2.2.2.1.2.2.2.1 x.1.2.2.2.1.2.2.2.2.1 x.2.1.1 x.2.1.2.1 x.2.1.2.2.1)∧(S.mg.ok X0 λx=>M.oO n x.1.2.1.1 x.1.2.1.2.1 x.1.2.1.2.2.1 x.1.2.1.2.2.2.1 x.1.2.1.2.2.2.2.1 x.1.2.2.1 x.1.2.2.2.1 x.1.2.2.2.2.1.1 x.1.2.2.2.2.1.2.1 x.1.2.2.2.2.1.2.2.1 x.1.2.2.2.2.1.2.2.2.1 x.1.2.2.2.2.1.2.2.2.2.1 x.2.1.1 x.2.1.2.1 x.2.1.2.2.1)∧(S.kT.ok X0 λx=>M.nJ n x.1.2.1.1 x.1.2.1.2.1 x.1.2.1.2.2.1 x.1.2.1.2.2.2.1 x.1.2.1.2.2.2.2.1 x.1.2.2.1.1 x.1.2.2.1.2.1 x.1.2.2.1.2.2.1 x.1.2.2.1.2.2.2.1 x.1.2.2.1.2.2.2.2.1 x.2.1.1 x.2.1.2.1 x.2.1.2.2.1)∧(S.mD.ok X0 λx=>M.oP n x.1.2.1.1 x.1.2.1.2.1 x.1.2.1.2.2.1 x.1.2.1.2.2.2.1 x.1.2.1.2.2.2.2.1 x.1.2.2.1.1 x.1.2.2.1.2.1 x.1.2.2.1.2.2.1 x.1.2.2.1.2.2.2.1 x.1.2.2.1.2.2.2.2.1 x.2.1.1 x.2.1.2.1 x.2.1.2.2.1)∧(S.oz.ok X0 λx=>M.sN n x.1.2.1.1 x.1.2.1.2.1 x.1.2.1.2.2.1 x.1.2.1.2.2.2.1 x.1.2.1.2.2.2.2.1 x.1.2.2.1.1 x.1.2.2.1.2.1 x.1.2.2.1.2.2.1 x.1.2.2.1.2.2.2.1 x.1.2.2.1.2.2.2.2.1 x.2.1.1 x.2.1.2.1 x.2.1.2.2.1)
 |0=>⟨eP.zero,eP.zero,eP.zero,eP.zero,eP.zero⟩
 |n+1=>have h:=C.gG n;⟨C.TD h.2.2.2.1 h.2.2.2.2,C.RI h.1,C.OG h.1 h.2.1,C.RJ h.2.1 h.2.2.1,C.RP h.2.2.2.1⟩
def C.iM:S.iM.ok X0 λx=>M.iM x.1.2.1.1 x.1.2.1.2.1 x.1.2.1.2.2.1 x.1.2.1.2.2.2.1 x.1.2.1.2.2.2.2.1 x.1.2.2.1 x.1.2.2.2.1.1 x.1.2.2.2.1.2.1 x.1.2.2.2.1.2.2.1 x.1.2.2.2.1.2.2.2.1 x.1.2.2.2.1.2.2.2.2.1 x.2.1.1 x.2.1.2.1 x.2.1.2.2.1:=eP.lim λn=>(C.gG n).1
def M.TK{n:Nat}{t' gX:Int}{je lq:aA}{kC:au}{k' p:Int}{p1 p2 p3 p4:Bool}{c c1:au}{c2:Bool}{r:au×au×Bool}(h:M.jF n t' gX je lq kC k' p p1 p2 p3 p4 c c1 c2=some r):M.iM t' gX je lq kC k' p p1 p2 p3 p4 c c1 c2=some r:=
 eP.Jl (λn=>(C.gG n).1) (by intro a b h;simp[S.iM,sg] at h;first|exact h|simp[Prod.ext_iff,h]) (x:=(((),(t',gX,je,lq,kC,()),k',(p,p1,p2,p3,p4,()),()),((c,c1,c2,()),()))) h
def C.mg:S.mg.ok X0 λx=>M.mg x.1.2.1.1 x.1.2.1.2.1 x.1.2.1.2.2.1 x.1.2.1.2.2.2.1 x.1.2.1.2.2.2.2.1 x.1.2.2.1 x.1.2.2.2.1 x.1.2.2.2.2.1.1 x.1.2.2.2.2.1.2.1 x.1.2.2.2.2.1.2.2.1 x.1.2.2.2.2.1.2.2.2.1 x.1.2.2.2.2.1.2.2.2.2.1 x.2.1.1 x.2.1.2.1 x.2.1.2.2.1:=eP.lim λn=>(C.gG n).2.1
def C.kT:S.kT.ok X0 λx=>M.kT x.1.2.1.1 x.1.2.1.2.1 x.1.2.1.2.2.1 x.1.2.1.2.2.2.1 x.1.2.1.2.2.2.2.1 x.1.2.2.1.1 x.1.2.2.1.2.1 x.1.2.2.1.2.2.1 x.1.2.2.1.2.2.2.1 x.1.2.2.1.2.2.2.2.1 x.2.1.1 x.2.1.2.1 x.2.1.2.2.1:=eP.lim λn=>(C.gG n).2.2.1
def C.mD:S.mD.ok X0 λx=>M.mD x.1.2.1.1 x.1.2.1.2.1 x.1.2.1.2.2.1 x.1.2.1.2.2.2.1 x.1.2.1.2.2.2.2.1 x.1.2.2.1.1 x.1.2.2.1.2.1 x.1.2.2.1.2.2.1 x.1.2.2.1.2.2.2.1 x.1.2.2.1.2.2.2.2.1 x.2.1.1 x.2.1.2.1 x.2.1.2.2.1:=eP.lim λn=>(C.gG n).2.2.2.1
def C.oz:S.oz.ok X0 λx=>M.oz x.1.2.1.1 x.1.2.1.2.1 x.1.2.1.2.2.1 x.1.2.1.2.2.2.1 x.1.2.1.2.2.2.2.1 x.1.2.2.1.1 x.1.2.2.1.2.1 x.1.2.2.1.2.2.1 x.1.2.2.1.2.2.2.1 x.1.2.2.1.2.2.2.2.1 x.2.1.1 x.2.1.2.1 x.2.1.2.2.1:=eP.lim λn=>(C.gG n).2.2.2.2
def M.kX{R:Type}(s' WC:aA)(k:Bool->Option R):Option R:=
 bif decide ((↑s'.length:Int)>=(↑WC.length:Int)) then((cut s' 0 (↑WC.length:Int)).bind λaCo=>(k (aCo==WC))) else(k false)
def M.gu(s' WC:aA):Option (Bool):=M.kX s' WC some
def C.gu:S.gu.ok X0 λx=>M.gu x.1.1 x.1.2.1:=fnS (λx=>M.kX x.1.1 x.1.2.1) [] [] (by intros;simp only[M.kX,nb]<;>rfl)
def M.yE{R:Type}(s' WC:aA)(k:Bool->Option R):Option R:=
 (M.gu s' WC).bind λaCp=>(k aCp)
def M.strings_HasPrefix(s' WC:aA):Option (Bool):=M.yE s' WC some
def C.strings_HasPrefix:S.strings_HasPrefix.ok X0 λx=>M.strings_HasPrefix x.1.1 x.1.2.1:=fnS (λx=>M.yE x.1.1 x.1.2.1) [fe C.gu] [] (by intros;simp only[M.yE,nb]<;>rfl)
def M.IQ{R:Type}(s':aA)(at':Int)(v16 aoB v162 aoC v164 aoD aoE v167 v168 aoF agS agT agU agV agW agX agY agZ ag0 ag1 ag2 ag3 ag4 ag5 ag6 ag7 ag8 ag9 aha ahb ahc ahd ahe ahf ahg ahh ahi ahj ahk:aA)(s:Int×Int×Int)(kn:Int×Int×Int->Option R)(ke:Int×Int×Int->Option R):Option R:=match s with
 |(kind,most,v17)=>
 bif decide (v17<39) then
 (bif decide (0<=v17) && decide (v17<39) then
 ((cStr [D.str v16,D.str aoB,D.str v162,D.str aoC,D.str v164,D.str aoD,D.str aoE,D.str v167,D.str v168,D.str aoF,D.str agS,D.str agT,D.str agU,D.str agV,D.str agW,D.str agX,D.str agY,D.str agZ,D.str ag0,D.str ag1,D.str ag2,D.str ag3,D.str ag4,D.str ag5,D.str ag6,D.str ag7,D.str ag8,D.str ag9,D.str aha,D.str ahb,D.str ahc,D.str ahd,D.str ahe,D.str ahf,D.str ahg,D.str ahh,D.str ahi,D.str ahj,D.str ahk] v17.toNat).bind λaoG=>
 (bif decide ((↑aoG.length:Int)>most) then
 ((cut s' at' (↑s'.length:Int)).bind λaCq=>
 ((M.strings_HasPrefix aCq aoG).bind λaCr=>
 (bif aCr then(kn ((i64.wrap (30+v17),(↑aoG.length:Int),i64.wrap (v17+1)))) else(kn ((kind,most,i64.wrap (v17+1))))))) else(kn ((kind,most,i64.wrap (v17+1)))))) else none) else(ke ((kind,most,v17)))
def M.RQ(s':aA)(at':Int)(v16 aoB v162 aoC v164 aoD aoE v167 v168 aoF agS agT agU agV agW agX agY agZ ag0 ag1 ag2 ag3 ag4 ag5 ag6 ag7 ag8 ag9 aha ahb ahc ahd ahe ahf ahg ahh ahi ahj ahk:aA)(s:Int×Int×Int):=M.IQ s' at' v16 aoB v162 aoC v164 aoD aoE v167 v168 aoF agS agT agU agV agW agX agY agZ ag0 ag1 ag2 ag3 ag4 ag5 ag6 ag7 ag8 ag9 aha ahb ahc ahd ahe ahf ahg ahh ahi ahj ahk s (λs=>some (Sum.inl s)) λt=>some (Sum.inr t)
def M.Mc(s':aA)(at':Int)(v16 aoB v162 aoC v164 aoD aoE v167 v168 aoF agS agT agU agV agW agX agY agZ ag0 ag1 ag2 ag3 ag4 ag5 ag6 ag7 ag8 ag9 aha ahb ahc ahd ahe ahf ahg ahh ahi ahj ahk:aA)(s:Int×Int×Int):Option (Int×Int×Int):=eF (M.RQ s' at' v16 aoB v162 aoC v164 aoD aoE v167 v168 aoF agS agT agU agV agW agX agY agZ ag0 ag1 ag2 ag3 ag4 ag5 ag6 ag7 ag8 ag9 aha ahb ahc ahd ahe ahf ahg ahh ahi ahj ahk) s
def F.Mc:LE X0 180:=le 5 (GN [dG 0 pS,dG 1 pI,dG 6 pI,dG 7 pI,dG 16 (jD [pS,pS,pS,pS,pS,pS,pS,pS,pS,pS,pS,pS,pS,pS,pS,pS,pS,pS,pS,pS,pS,pS,pS,pS,pS,pS,pS,pS,pS,pS,pS,pS,pS,pS,pS,pS,pS,pS,pS]),dG 17 pI] []) (λx=>(x.1.2.2.1,x.1.2.2.2.1,x.1.2.2.2.2.2.1)) (λx s=>((x.1.1,x.1.2.1,s.1,s.2.1,(x.1.2.2.2.2.1.1,x.1.2.2.2.2.1.2.1,x.1.2.2.2.2.1.2.2.1,x.1.2.2.2.2.1.2.2.2.1,x.1.2.2.2.2.1.2.2.2.2.1,x.1.2.2.2.2.1.2.2.2.2.2.1,x.1.2.2.2.2.1.2.2.2.2.2.2.1,x.1.2.2.2.2.1.2.2.2.2.2.2.2.1,x.1.2.2.2.2.1.2.2.2.2.2.2.2.2.1,x.1.2.2.2.2.1.2.2.2.2.2.2.2.2.2.1,x.1.2.2.2.2.1.2.2.2.2.2.2.2.2.2.2.1,x.1.2.2.2.2.1.2.2.2.2.2.2.2.2.2.2.2.1,x.1.2.2.2.2.1.2.2.2.2.2.2.2.2.2.2.2.2.1,x.1.2.2.2.2.1.2.2.2.2.2.2.2.2.2.2.2.2.2.1,x.1.2.2.2.2.1.2.2.2.2.2.2.2.2.2.2.2.2.2.2.1,x.1.2.2.2.2.1.2.2.2.2.2.2.2.2.2.2.2.2.2.2.2.1,x.1.2.2.2.2.1.2.2.2.2.2.2.2.2.2.2.2.2.2.2.2.2.1,x.1.2.2.2.2.1.2.2.2.2.2.2.2.2.2.2.2.2.2.2.2.2.2.1,x.1.2.2.2.2.1.2.2.2.2.2.2.2.2.2.2.2.2.2.2.2.2.2.2.1,x.1.2.2.2.2.1.2.2.2.2.2.2.2.2.2.2.2.2.2.2.2.2.2.2.2.1,x.1.2.2.2.2.1.2.2.2.2.2.2.2.2.2.2.2.2.2.2.2.2.2.2.2.2.1,x.1.2.2.2.2.1.2.2.2.2.2.2.2.2.2.2.2.2.2.2.2.2.2.2.2.2.2.1,x.1.2.2.2.2.1.2.2.2.2.2.2.2.2.2.2.2.2.2.2.2.2.2.2.2.2.2.2.1,x.1.2.2.2.2.1.2.2.2.2.2.2.2.2.2.2.2.2.2.2.2.2.2.2.2.2.2.2.2.1,x.1.2.2.2.2.1.2.2.2.2.2.2.2.2.2.2.2.2.2.2.2.2.2.2.2.2.2.2.2.2.1,x.1.2.2.2.2.1.2.2.2.2.2.2.2.2.2.2.2.2.2.2.2.2.2.2.2.2.2.2.2.2.2.1,x.1.2.2.2.2.1.2.2.2.2.2.2.2.2.2.2.2.2.2.2.2.2.2.2.2.2.2.2.2.2.2.2.1,x.1.2.2.2.2.1.2.2.2.2.2.2.2.2.2.2.2.2.2.2.2.2.2.2.2.2.2.2.2.2.2.2.2.1,x.1.2.2.2.2.1.2.2.2.2.2.2.2.2.2.2.2.2.2.2.2.2.2.2.2.2.2.2.2.2.2.2.2.2.1,x.1.2.2.2.2.1.2.2.2.2.2.2.2.2.2.2.2.2.2.2.2.2.2.2.2.2.2.2.2.2.2.2.2.2.2.1,x.1.2.2.2.2.1.2.2.2.2.2.2.2.2.2.2.2.2.2.2.2.2.2.2.2.2.2.2.2.2.2.2.2.2.2.2.1,x.1.2.2.2.2.1.2.2.2.2.2.2.2.2.2.2.2.2.2.2.2.2.2.2.2.2.2.2.2.2.2.2.2.2.2.2.2.1,x.1.2.2.2.2.1.2.2.2.2.2.2.2.2.2.2.2.2.2.2.2.2.2.2.2.2.2.2.2.2.2.2.2.2.2.2.2.2.1,x.1.2.2.2.2.1.2.2.2.2.2.2.2.2.2.2.2.2.2.2.2.2.2.2.2.2.2.2.2.2.2.2.2.2.2.2.2.2.2.1,x.1.2.2.2.2.1.2.2.2.2.2.2.2.2.2.2.2.2.2.2.2.2.2.2.2.2.2.2.2.2.2.2.2.2.2.2.2.2.2.2.1,x.1.2.2.2.2.1.2.2.2.2.2.2.2.2.2.2.2.2.2.2.2.2.2.2.2.2.2.2.2.2.2.2.2.2.2.2.2.2.2.2.2.1,x.1.2.2.2.2.1.2.2.2.2.2.2.2.2.2.2.2.2.2.2.2.2.2.2.2.2.2.2.2.2.2.2.2.2.2.2.2.2.2.2.2.2.1,x.1.2.2.2.2.1.2.2.2.2.2.2.2.2.2.2.2.2.2.2.2.2.2.2.2.2.2.2.2.2.2.2.2.2.2.2.2.2.2.2.2.2.2.1,x.1.2.2.2.2.1.2.2.2.2.2.2.2.2.2.2.2.2.2.2.2.2.2.2.2.2.2.2.2.2.2.2.2.2.2.2.2.2.2.2.2.2.2.2.1,()),s.2.2,()),())) (λx=> .leaf (Int×Int×Int) (λt=>(Ex.exit 0,{tm:=[(0,V.d (D.str x.1.1)),(1,V.d (D.int .i64 x.1.2.1)),(6,V.d (D.int .i64 t.1)),(7,V.d (D.int .i64 t.2.1)),(16,V.agg [V.d (D.str x.1.2.2.2.2.1.1),V.d (D.str x.1.2.2.2.2.1.2.1),V.d (D.str x.1.2.2.2.2.1.2.2.1),V.d (D.str x.1.2.2.2.2.1.2.2.2.1),V.d (D.str x.1.2.2.2.2.1.2.2.2.2.1),V.d (D.str x.1.2.2.2.2.1.2.2.2.2.2.1),V.d (D.str x.1.2.2.2.2.1.2.2.2.2.2.2.1),V.d (D.str x.1.2.2.2.2.1.2.2.2.2.2.2.2.1),V.d (D.str x.1.2.2.2.2.1.2.2.2.2.2.2.2.2.1),V.d (D.str x.1.2.2.2.2.1.2.2.2.2.2.2.2.2.2.1),V.d (D.str x.1.2.2.2.2.1.2.2.2.2.2.2.2.2.2.2.1),V.d (D.str x.1.2.2.2.2.1.2.2.2.2.2.2.2.2.2.2.2.1),V.d (D.str x.1.2.2.2.2.1.2.2.2.2.2.2.2.2.2.2.2.2.1),V.d (D.str x.1.2.2.2.2.1.2.2.2.2.2.2.2.2.2.2.2.2.2.1),V.d (D.str x.1.2.2.2.2.1.2.2.2.2.2.2.2.2.2.2.2.2.2.2.1),V.d (D.str x.1.2.2.2.2.1.2.2.2.2.2.2.2.2.2.2.2.2.2.2.2.1),V.d (D.str x.1.2.2.2.2.1.2.2.2.2.2.2.2.2.2.2.2.2.2.2.2.2.1),V.d (D.str x.1.2.2.2.2.1.2.2.2.2.2.2.2.2.2.2.2.2.2.2.2.2.2.1),V.d (D.str x.1.2.2.2.2.1.2.2.2.2.2.2.2.2.2.2.2.2.2.2.2.2.2.2.1),V.d (D.str x.1.2.2.2.2.1.2.2.2.2.2.2.2.2.2.2.2.2.2.2.2.2.2.2.2.1),V.d (D.str x.1.2.2.2.2.1.2.2.2.2.2.2.2.2.2.2.2.2.2.2.2.2.2.2.2.2.1),V.d (D.str x.1.2.2.2.2.1.2.2.2.2.2.2.2.2.2.2.2.2.2.2.2.2.2.2.2.2.2.1),V.d (D.str x.1.2.2.2.2.1.2.2.2.2.2.2.2.2.2.2.2.2.2.2.2.2.2.2.2.2.2.2.1),V.d (D.str x.1.2.2.2.2.1.2.2.2.2.2.2.2.2.2.2.2.2.2.2.2.2.2.2.2.2.2.2.2.1),V.d (D.str x.1.2.2.2.2.1.2.2.2.2.2.2.2.2.2.2.2.2.2.2.2.2.2.2.2.2.2.2.2.2.1),V.d (D.str x.1.2.2.2.2.1.2.2.2.2.2.2.2.2.2.2.2.2.2.2.2.2.2.2.2.2.2.2.2.2.2.1),V.d (D.str x.1.2.2.2.2.1.2.2.2.2.2.2.2.2.2.2.2.2.2.2.2.2.2.2.2.2.2.2.2.2.2.2.1),V.d (D.str x.1.2.2.2.2.1.2.2.2.2.2.2.2.2.2.2.2.2.2.2.2.2.2.2.2.2.2.2.2.2.2.2.2.1),V.d (D.str x.1.2.2.2.2.1.2.2.2.2.2.2.2.2.2.2.2.2.2.2.2.2.2.2.2.2.2.2.2.2.2.2.2.2.1),V.d (D.str x.1.2.2.2.2.1.2.2.2.2.2.2.2.2.2.2.2.2.2.2.2.2.2.2.2.2.2.2.2.2.2.2.2.2.2.1),V.d (D.str x.1.2.2.2.2.1.2.2.2.2.2.2.2.2.2.2.2.2.2.2.2.2.2.2.2.2.2.2.2.2.2.2.2.2.2.2.1),V.d (D.str x.1.2.2.2.2.1.2.2.2.2.2.2.2.2.2.2.2.2.2.2.2.2.2.2.2.2.2.2.2.2.2.2.2.2.2.2.2.1),V.d (D.str x.1.2.2.2.2.1.2.2.2.2.2.2.2.2.2.2.2.2.2.2.2.2.2.2.2.2.2.2.2.2.2.2.2.2.2.2.2.2.1),V.d (D.str x.1.2.2.2.2.1.2.2.2.2.2.2.2.2.2.2.2.2.2.2.2.2.2.2.2.2.2.2.2.2.2.2.2.2.2.2.2.2.2.1),V.d (D.str x.1.2.2.2.2.1.2.2.2.2.2.2.2.2.2.2.2.2.2.2.2.2.2.2.2.2.2.2.2.2.2.2.2.2.2.2.2.2.2.2.1),V.d (D.str x.1.2.2.2.2.1.2.2.2.2.2.2.2.2.2.2.2.2.2.2.2.2.2.2.2.2.2.2.2.2.2.2.2.2.2.2.2.2.2.2.2.1),V.d (D.str x.1.2.2.2.2.1.2.2.2.2.2.2.2.2.2.2.2.2.2.2.2.2.2.2.2.2.2.2.2.2.2.2.2.2.2.2.2.2.2.2.2.2.1),V.d (D.str x.1.2.2.2.2.1.2.2.2.2.2.2.2.2.2.2.2.2.2.2.2.2.2.2.2.2.2.2.2.2.2.2.2.2.2.2.2.2.2.2.2.2.2.1),V.d (D.str x.1.2.2.2.2.1.2.2.2.2.2.2.2.2.2.2.2.2.2.2.2.2.2.2.2.2.2.2.2.2.2.2.2.2.2.2.2.2.2.2.2.2.2.2.1)]),(17,V.d (D.int .i64 t.2.2)),(18,V.d (D.bool false))],mem:=[]}))) (λx=>M.IQ x.1.1 x.1.2.1 x.1.2.2.2.2.1.1 x.1.2.2.2.2.1.2.1 x.1.2.2.2.2.1.2.2.1 x.1.2.2.2.2.1.2.2.2.1 x.1.2.2.2.2.1.2.2.2.2.1 x.1.2.2.2.2.1.2.2.2.2.2.1 x.1.2.2.2.2.1.2.2.2.2.2.2.1 x.1.2.2.2.2.1.2.2.2.2.2.2.2.1 x.1.2.2.2.2.1.2.2.2.2.2.2.2.2.1 x.1.2.2.2.2.1.2.2.2.2.2.2.2.2.2.1 x.1.2.2.2.2.1.2.2.2.2.2.2.2.2.2.2.1 x.1.2.2.2.2.1.2.2.2.2.2.2.2.2.2.2.2.1 x.1.2.2.2.2.1.2.2.2.2.2.2.2.2.2.2.2.2.1 x.1.2.2.2.2.1.2.2.2.2.2.2.2.2.2.2.2.2.2.1 x.1.2.2.2.2.1.2.2.2.2.2.2.2.2.2.2.2.2.2.2.1 x.1.2.2.2.2.1.2.2.2.2.2.2.2.2.2.2.2.2.2.2.2.1 x.1.2.2.2.2.1.2.2.2.2.2.2.2.2.2.2.2.2.2.2.2.2.1 x.1.2.2.2.2.1.2.2.2.2.2.2.2.2.2.2.2.2.2.2.2.2.2.1 x.1.2.2.2.2.1.2.2.2.2.2.2.2.2.2.2.2.2.2.2.2.2.2.2.1 x.1.2.2.2.2.1.2.2.2.2.2.2.2.2.2.2.2.2.2.2.2.2.2.2.2.1 x.1.2.2.2.2.1.2.2.2.2.2.2.2.2.2.2.2.2.2.2.2.2.2.2.2.2.1 x.1.2.2.2.2.1.2.2.2.2.2.2.2.2.2.2.2.2.2.2.2.2.2.2.2.2.2.1 x.1.2.2.2.2.1.2.2.2.2.2.2.2.2.2.2.2.2.2.2.2.2.2.2.2.2.2.2.1 x.1.2.2.2.2.1.2.2.2.2.2.2.2.2.2.2.2.2.2.2.2.2.2.2.2.2.2.2.2.1 x.1.2.2.2.2.1.2.2.2.2.2.2.2.2.2.2.2.2.2.2.2.2.2.2.2.2.2.2.2.2.1 x.1.2.2.2.2.1.2.2.2.2.2.2.2.2.2.2.2.2.2.2.2.2.2.2.2.2.2.2.2.2.2.1 x.1.2.2.2.2.1.2.2.2.2.2.2.2.2.2.2.2.2.2.2.2.2.2.2.2.2.2.2.2.2.2.2.1 x.1.2.2.2.2.1.2.2.2.2.2.2.2.2.2.2.2.2.2.2.2.2.2.2.2.2.2.2.2.2.2.2.2.1 x.1.2.2.2.2.1.2.2.2.2.2.2.2.2.2.2.2.2.2.2.2.2.2.2.2.2.2.2.2.2.2.2.2.2.1 x.1.2.2.2.2.1.2.2.2.2.2.2.2.2.2.2.2.2.2.2.2.2.2.2.2.2.2.2.2.2.2.2.2.2.2.1 x.1.2.2.2.2.1.2.2.2.2.2.2.2.2.2.2.2.2.2.2.2.2.2.2.2.2.2.2.2.2.2.2.2.2.2.2.1 x.1.2.2.2.2.1.2.2.2.2.2.2.2.2.2.2.2.2.2.2.2.2.2.2.2.2.2.2.2.2.2.2.2.2.2.2.2.1 x.1.2.2.2.2.1.2.2.2.2.2.2.2.2.2.2.2.2.2.2.2.2.2.2.2.2.2.2.2.2.2.2.2.2.2.2.2.2.1 x.1.2.2.2.2.1.2.2.2.2.2.2.2.2.2.2.2.2.2.2.2.2.2.2.2.2.2.2.2.2.2.2.2.2.2.2.2.2.2.1 x.1.2.2.2.2.1.2.2.2.2.2.2.2.2.2.2.2.2.2.2.2.2.2.2.2.2.2.2.2.2.2.2.2.2.2.2.2.2.2.2.1 x.1.2.2.2.2.1.2.2.2.2.2.2.2.2.2.2.2.2.2.2.2.2.2.2.2.2.2.2.2.2.2.2.2.2.2.2.2.2.2.2.2.1 x.1.2.2.2.2.1.2.2.2.2.2.2.2.2.2.2.2.2.2.2.2.2.2.2.2.2.2.2.2.2.2.2.2.2.2.2.2.2.2.2.2.2.1 x.1.2.2.2.2.1.2.2.2.2.2.2.2.2.2.2.2.2.2.2.2.2.2.2.2.2.2.2.2.2.2.2.2.2.2.2.2.2.2.2.2.2.2.1 x.1.2.2.2.2.1.2.2.2.2.2.2.2.2.2.2.2.2.2.2.2.2.2.2.2.2.2.2.2.2.2.2.2.2.2.2.2.2.2.2.2.2.2.2.1) [fe C.strings_HasPrefix] [] (by rintro _ _ ⟨_,_,_⟩ _ _<;>simp only[M.IQ,nb]<;>rfl)
def M.Ot{R:Type}(s':aA)(at':Int)(k:Int×Int->Option R):Option R:=
 (M.bG at' 0 (i64.wrap ((↑s'.length:Int) - 1))).bind λaCs=>
 (bif !aCs then(k ((0,0))) else
 ((M.Mc s' at' [123] [125] [40] [41] [91] [93] [44] [59] [43,61] [45,61] [42,61] [47,61] [37,61] [94,61] [124,124] [38,38] [33,126] [61,61] [60,61] [62,61] [33,61] [43,43] [45,45] [62,62] [61] [43] [45] [42] [47] [37] [94] [33] [62] [60] [124] [63] [58] [126] [36] ((0,0,0))).bind λarY=>(k ((arY.1,arY.2.1)))))
def M.pX(s':aA)(at':Int):Option (Int×Int):=M.Ot s' at' some
def C.pX:S.pX.ok X0 λx=>M.pX x.1.1 x.1.2.1:=fnS (λx=>M.Ot x.1.1 x.1.2.1) [fe C.bG] [F.Mc] (by intros;simp only[M.Ot,nb]<;>rfl)
def M.F8{R:Type}(a:Int)(a1:aA)(a2 b:Int)(b1:aA)(b2:Int)(k:Bool->Option R):Option R:=
 bif a1==[] then(k false) else
 (bif b1==[] then(k false) else
 (bif a==2 then(k false) else
 (bif a==1 then(k false) else
 (bif b==1 then(k false) else
 ((idx a1 (i64.wrap ((↑a1.length:Int) - 1))).bind λaCt=>
 ((idx b1 0).bind λahl=>
 ((M.jm (i64.wrap (↑aCt.toNat:Int))).bind λaCu=>
 (bif aCu then
 ((M.jm (i64.wrap (↑ahl.toNat:Int))).bind λaCv=>
 (bif aCv then(k true) else
 (bif a==3 then
 ((M.jm (i64.wrap (↑ahl.toNat:Int))).bind λaCw=>
 (bif aCw then(k true) else
 (bif i64.wrap (↑ahl.toNat:Int)==46 then(k true) else
 (bif a==6 then
 (bif b==32 then(k true) else
 ((M.fJ a).bind λaCx=>
 (bif !aCx then(k false) else
 (bif(a1.length+b1.length).ble 9223372036854775807 then
 ((M.pX (a1++b1) 0).bind λaCy=>(k (decide (aCy.2>(↑a1.length:Int))))) else none)))) else
 ((M.fJ a).bind λaCz=>
 (bif !aCz then(k false) else
 (bif(a1.length+b1.length).ble 9223372036854775807 then
 ((M.pX (a1++b1) 0).bind λaCA=>(k (decide (aCA.2>(↑a1.length:Int))))) else none))))))) else
 (bif a==6 then
 (bif b==32 then(k true) else
 ((M.fJ a).bind λaCB=>
 (bif !aCB then(k false) else
 (bif(a1.length+b1.length).ble 9223372036854775807 then
 ((M.pX (a1++b1) 0).bind λaCC=>(k (decide (aCC.2>(↑a1.length:Int))))) else none)))) else
 ((M.fJ a).bind λaCD=>
 (bif !aCD then(k false) else
 (bif(a1.length+b1.length).ble 9223372036854775807 then
 ((M.pX (a1++b1) 0).bind λaCE=>(k (decide (aCE.2>(↑a1.length:Int))))) else none))))))) else
 (bif a==3 then
 ((M.jm (i64.wrap (↑ahl.toNat:Int))).bind λaCF=>
 (bif aCF then(k true) else
 (bif i64.wrap (↑ahl.toNat:Int)==46 then(k true) else
 (bif a==6 then
 (bif b==32 then(k true) else
 ((M.fJ a).bind λaCG=>
 (bif !aCG then(k false) else
 (bif(a1.length+b1.length).ble 9223372036854775807 then
 ((M.pX (a1++b1) 0).bind λaCH=>(k (decide (aCH.2>(↑a1.length:Int))))) else none)))) else
 ((M.fJ a).bind λaCI=>
 (bif !aCI then(k false) else
 (bif(a1.length+b1.length).ble 9223372036854775807 then
 ((M.pX (a1++b1) 0).bind λaCJ=>(k (decide (aCJ.2>(↑a1.length:Int))))) else none))))))) else
 (bif a==6 then
 (bif b==32 then(k true) else
 ((M.fJ a).bind λaCK=>
 (bif !aCK then(k false) else
 (bif(a1.length+b1.length).ble 9223372036854775807 then
 ((M.pX (a1++b1) 0).bind λaCL=>(k (decide (aCL.2>(↑a1.length:Int))))) else none)))) else
 ((M.fJ a).bind λaCM=>
 (bif !aCM then(k false) else
 (bif(a1.length+b1.length).ble 9223372036854775807 then
 ((M.pX (a1++b1) 0).bind λaCN=>(k (decide (aCN.2>(↑a1.length:Int))))) else none)))))))))))))
def M.qI(a:Int)(a1:aA)(a2 b:Int)(b1:aA)(b2:Int):Option (Bool):=M.F8 a a1 a2 b b1 b2 some
def C.qI:S.qI.ok X0 λx=>M.qI x.1.1.1 x.1.1.2.1 x.1.1.2.2.1 x.1.2.1.1 x.1.2.1.2.1 x.1.2.1.2.2.1:=fnS (λx=>M.F8 x.1.1.1 x.1.1.2.1 x.1.1.2.2.1 x.1.2.1.1 x.1.2.1.2.1 x.1.2.1.2.2.1) [fe C.jm,fe C.fJ,fe C.pX] [] (by intros;unfold M.F8;repeat' first|with_reducible apply iw|with_reducible apply Lh|with_reducible apply Lj|with_reducible apply Ll|with_reducible apply Lm|(intro _)|apply iw|rfl)
def M.vS{R:Type}(dV:Int->Int->aA->aA->au->Int->Int->Bool->Bool->Bool->Bool->Option (Int×Int×aA×au×Int))(t' gX:Int)(je lq:aA)(kC:au)(p:Int)(p1 p2 p3 p4:Bool)(k:Int×Int×aA×au×Int->Option R):Option R:=
 (M.iM t' gX je lq kC 0 p p1 p2 p3 p4 [] [] false).bind λarZ=>
 ((M.fD gX).bind λaoH=>
 ((M.gJ gX).bind λaoI=>
 ((idx arZ.1 0).bind λaFO=>
 (arZ.1[0]?.bind λaeG=>
 ((fQ .i64 aeG 0).bind λaCO=>
 ((cStr aeG 1).bind λaCP=>
 ((fQ .i64 aeG 2).bind λaCQ=>
 ((M.qI aoI.1 aoI.2.1 aoI.2.2 aCO aCP aCQ).bind λaCR=>
 (bif aCR then
 (bif(aoH.length+1).ble 9223372036854775807 then
 ((M.dO (aoH++[32])).bind λaCS=>
 ((dV t' gX je lq kC 0 p p1 p2 p3 p4).bind λaCT=>
 ((M.gV ([lu aCS,lu aCT])).bind λaCU=>
 (k ((AL aCU)))))) else none) else
 ((M.dO aoH).bind λaCV=>
 ((dV t' gX je lq kC 0 p p1 p2 p3 p4).bind λaCW=>
 ((M.gV ([lu aCV,lu aCW])).bind λaCX=>
 (k ((AL aCX)))))))))))))))
def C.XO{dV:Int->Int->aA->aA->au->Int->Int->Bool->Bool->Bool->Bool->Option (Int×Int×aA×au×Int)}(OH:S.zO.ok X0 λx=>dV x.1.1.1 x.1.1.2.1 x.1.1.2.2.1 x.1.1.2.2.2.1 x.1.1.2.2.2.2.1 x.1.2.1 x.1.2.2.1.1 x.1.2.2.1.2.1 x.1.2.2.1.2.2.1 x.1.2.2.1.2.2.2.1 x.1.2.2.1.2.2.2.2.1):S.xX.ok X0 λx=>M.vS dV x.1.1.1 x.1.1.2.1 x.1.1.2.2.1 x.1.1.2.2.2.1 x.1.1.2.2.2.2.1 x.1.2.1.1 x.1.2.1.2.1 x.1.2.1.2.2.1 x.1.2.1.2.2.2.1 x.1.2.1.2.2.2.2.1 some:=fnS (λx=>M.vS dV x.1.1.1 x.1.1.2.1 x.1.1.2.2.1 x.1.1.2.2.2.1 x.1.1.2.2.2.2.1 x.1.2.1.1 x.1.2.1.2.1 x.1.2.1.2.2.1 x.1.2.1.2.2.2.1 x.1.2.1.2.2.2.2.1) [fe C.iM,fe C.fD,fe C.gJ,fe C.qI,fe C.dO,fe OH,fe C.gV] [] (by intros;simp only[M.vS,lu,AL];repeat' first|with_reducible apply iw|with_reducible apply Lh|with_reducible apply Lj|with_reducible apply Ll|with_reducible apply Lm|(intro _)|apply iw|rfl)
def M.dL{R:Type}(nK:au->Option (Int×Int×aA×au×Int))(dV:Int->Int->aA->aA->au->Int->Int->Bool->Bool->Bool->Bool->Option (Int×Int×aA×au×Int))(xG:Int->Int->aA->aA->au->Int->Bool->Bool->Bool->Bool->Option (Int×Int×aA×au×Int))(t' gX:Int)(je lq:aA)(kC:au)(p:Int)(p1 p2 p3 p4:Bool)(k:Int×Int×aA×au×Int->Option R):Option R:=
 bif t'==1 then
 ((M.dO je).bind λaCY=>
 (k ((AL aCY)))) else
 (bif t'==2 then
 ((M.dO je).bind λaCZ=>
 (k ((AL aCZ)))) else
 (bif t'==3 then
 ((M.dO je).bind λaC0=>
 (k ((AL aC0)))) else
 (bif t'==4 then
 ((M.dO je).bind λaC1=>
 (k ((AL aC1)))) else
 (bif t'==5 then
 (bif(je.length+1).ble 9223372036854775807 then
 ((M.dO (je++[91])).bind λaC2=>
 ((nK kC).bind λaC3=>
 ((M.dO [93]).bind λaC4=>
 ((M.gV ([lu aC2,lu aC3,lu aC4])).bind λaC5=>
 (k ((AL aC5))))))) else none) else
 (bif t'==7 then
 (bif(je.length+1).ble 9223372036854775807 then
 ((M.dO (je++[40])).bind λaC6=>
 ((nK kC).bind λaC7=>
 ((M.dO [41]).bind λaC8=>
 ((M.gV ([lu aC6,lu aC7,lu aC8])).bind λaC9=>
 (k ((AL aC9))))))) else none) else
 (bif t'==8 then
 (bif(je.length+1).ble 9223372036854775807 then
 ((M.dO (je++[40])).bind λaDa=>
 ((nK kC).bind λaDb=>
 ((M.dO [41]).bind λaDc=>
 ((M.gV ([lu aDa,lu aDb,lu aDc])).bind λaDd=>
 (k ((AL aDd))))))) else none) else
 (bif t'==9 then
 ((M.fD gX).bind λaDe=>
 ((M.dO aDe).bind λaDf=>
 ((dV t' gX je lq kC 0 p p1 p2 p3 p4).bind λaDg=>
 ((M.gV ([lu aDf,lu aDg])).bind λaDh=>
 (k ((AL aDh))))))) else
 (bif t'==10 then
 ((dV t' gX je lq kC 0 p p1 p2 p3 p4).bind λaDi=>
 ((M.fD gX).bind λaDj=>
 ((M.dO aDj).bind λaDk=>
 ((M.gV ([lu aDi,lu aDk])).bind λaDl=>
 (k ((AL aDl))))))) else
 (bif t'==6 then
 ((M.dO [36]).bind λaDm=>
 ((dV t' gX je lq kC 0 p p1 p2 p3 p4).bind λaDn=>
 ((M.gV ([lu aDm,lu aDn])).bind λaDo=>
 (k ((AL aDo)))))) else
 (bif t'==11 then
 ((xG t' gX je lq kC p p1 p2 p3 p4).bind λaDp=>
 (k ((AL aDp)))) else
 (bif t'==14 then
 ((dV t' gX je lq kC 0 p p1 p2 p3 p4).bind λaDq=>
 ((M.dO [32,63,32]).bind λaDr=>
 ((dV t' gX je lq kC 1 p p1 p2 p3 p4).bind λaDs=>
 ((M.dO [32,58,32]).bind λaDt=>
 ((dV t' gX je lq kC 2 p p1 p2 p3 p4).bind λaDu=>
 ((M.gV ([lu aDq,lu aDr,lu aDs,lu aDt,lu aDu])).bind λaDv=>
 (k ((AL aDv))))))))) else
 (bif t'==13 then
 (bif decide ((↑kC.length:Int)>1) then
 ((M.dO [40]).bind λaDw=>
 ((nK kC).bind λaDx=>
 (bif(5+je.length).ble 9223372036854775807 then
 ((M.dO ([41,32,105,110,32]++je)).bind λaDy=>
 ((M.gV ([lu aDw,lu aDx,lu aDy])).bind λaDz=>
 (k ((AL aDz))))) else none))) else
 ((dV t' gX je lq kC 0 p p1 p2 p3 p4).bind λaDA=>
 (bif(4+je.length).ble 9223372036854775807 then
 ((M.dO ([32,105,110,32]++je)).bind λaDB=>
 ((M.gV ([lu aDA,lu aDB])).bind λaDC=>
 (k ((AL aDC))))) else none))) else
 ((dV t' gX je lq kC 0 p p1 p2 p3 p4).bind λWE=>
 ((dV t' gX je lq kC 1 p p1 p2 p3 p4).bind λWG=>
 (bif t'==12 then
 (bif gX==99 then
 ((M.dO [32]).bind λaDD=>
 ((M.gV ([lu WE,lu aDD,lu WG])).bind λaDE=>
 (k ((AL aDE))))) else
 (bif t'==12 then
 (bif gX==45 then
 ((M.fD gX).bind λar0=>
 (bif(1+ar0.length).ble 9223372036854775807 then
 ((M.dO ([32]++ar0)).bind λaDF=>
 (M.vM.bind λaDG=>
 ((M.gV ([lu WE,lu aDF,lu aDG,lu WG])).bind λahm=>
 ((M.vN ahm.1 ahm.2.1 ahm.2.2.1 (bJ ahm.2.2.2.1) ahm.2.2.2.2).bind λahn=>
 ((M.rY ahn.1 ahn.2.1 ahn.2.2.1 (bJ ahn.2.2.2.1) ahn.2.2.2.2).bind λaDH=>
 (k ((AL aDH)))))))) else none)) else
 (bif gX==44 then
 ((M.fD gX).bind λar1=>
 (bif(1+ar1.length).ble 9223372036854775807 then
 ((M.dO ([32]++ar1)).bind λaDI=>
 (M.vM.bind λaDJ=>
 ((M.gV ([lu WE,lu aDI,lu aDJ,lu WG])).bind λaho=>
 ((M.vN aho.1 aho.2.1 aho.2.2.1 (bJ aho.2.2.2.1) aho.2.2.2.2).bind λahp=>
 ((M.rY ahp.1 ahp.2.1 ahp.2.2.1 (bJ ahp.2.2.2.1) ahp.2.2.2.2).bind λaDK=>
 (k ((AL aDK)))))))) else none)) else
 ((M.fD gX).bind λaoJ=>
 (bif(1+aoJ.length).ble 9223372036854775807 then
 (bif(([32]++aoJ).length+1).ble 9223372036854775807 then
 ((M.dO ([32]++aoJ++[32])).bind λaDL=>
 ((M.gV ([lu WE,lu aDL,lu WG])).bind λaDM=>
 (k ((AL aDM))))) else none) else none)))) else
 ((M.fD gX).bind λaoK=>
 (bif(1+aoK.length).ble 9223372036854775807 then
 (bif(([32]++aoK).length+1).ble 9223372036854775807 then
 ((M.dO ([32]++aoK++[32])).bind λaDN=>
 ((M.gV ([lu WE,lu aDN,lu WG])).bind λaDO=>
 (k ((AL aDO))))) else none) else none)))) else
 (bif t'==12 then
 (bif gX==45 then
 ((M.fD gX).bind λar2=>
 (bif(1+ar2.length).ble 9223372036854775807 then
 ((M.dO ([32]++ar2)).bind λaDP=>
 (M.vM.bind λaDQ=>
 ((M.gV ([lu WE,lu aDP,lu aDQ,lu WG])).bind λahq=>
 ((M.vN ahq.1 ahq.2.1 ahq.2.2.1 (bJ ahq.2.2.2.1) ahq.2.2.2.2).bind λahr=>
 ((M.rY ahr.1 ahr.2.1 ahr.2.2.1 (bJ ahr.2.2.2.1) ahr.2.2.2.2).bind λaDR=>
 (k ((AL aDR)))))))) else none)) else
 (bif gX==44 then
 ((M.fD gX).bind λar4=>
 (bif(1+ar4.length).ble 9223372036854775807 then
 ((M.dO ([32]++ar4)).bind λaDS=>
 (M.vM.bind λaDT=>
 ((M.gV ([lu WE,lu aDS,lu aDT,lu WG])).bind λahs=>
 ((M.vN ahs.1 ahs.2.1 ahs.2.2.1 (bJ ahs.2.2.2.1) ahs.2.2.2.2).bind λaht=>
 ((M.rY aht.1 aht.2.1 aht.2.2.1 (bJ aht.2.2.2.1) aht.2.2.2.2).bind λaDU=>
 (k ((AL aDU)))))))) else none)) else
 ((M.fD gX).bind λaoL=>
 (bif(1+aoL.length).ble 9223372036854775807 then
 (bif(([32]++aoL).length+1).ble 9223372036854775807 then
 ((M.dO ([32]++aoL++[32])).bind λaDV=>
 ((M.gV ([lu WE,lu aDV,lu WG])).bind λaDW=>
 (k ((AL aDW))))) else none) else none)))) else
 ((M.fD gX).bind λaoM=>
 (bif(1+aoM.length).ble 9223372036854775807 then
 (bif(([32]++aoM).length+1).ble 9223372036854775807 then
 ((M.dO ([32]++aoM++[32])).bind λaDX=>
 ((M.gV ([lu WE,lu aDX,lu WG])).bind λaDY=>
 (k ((AL aDY))))) else none) else none))))))))))))))))))
def C.Zt{nK:au->Option (Int×Int×aA×au×Int)}{dV:Int->Int->aA->aA->au->Int->Int->Bool->Bool->Bool->Bool->Option (Int×Int×aA×au×Int)}{xG:Int->Int->aA->aA->au->Int->Bool->Bool->Bool->Bool->Option (Int×Int×aA×au×Int)}(abl:S.zX.ok X0 λx=>nK x.1.1)(OH:S.zO.ok X0 λx=>dV x.1.1.1 x.1.1.2.1 x.1.1.2.2.1 x.1.1.2.2.2.1 x.1.1.2.2.2.2.1 x.1.2.1 x.1.2.2.1.1 x.1.2.2.1.2.1 x.1.2.2.1.2.2.1 x.1.2.2.1.2.2.2.1 x.1.2.2.1.2.2.2.2.1)(Zu:S.xX.ok X0 λx=>xG x.1.1.1 x.1.1.2.1 x.1.1.2.2.1 x.1.1.2.2.2.1 x.1.1.2.2.2.2.1 x.1.2.1.1 x.1.2.1.2.1 x.1.2.1.2.2.1 x.1.2.1.2.2.2.1 x.1.2.1.2.2.2.2.1):S.wH.ok X0 λx=>M.dL nK dV xG x.1.1.1 x.1.1.2.1 x.1.1.2.2.1 x.1.1.2.2.2.1 x.1.1.2.2.2.2.1 x.1.2.1.1 x.1.2.1.2.1 x.1.2.1.2.2.1 x.1.2.1.2.2.2.1 x.1.2.1.2.2.2.2.1 some:=fnS (λx=>M.dL nK dV xG x.1.1.1 x.1.1.2.1 x.1.1.2.2.1 x.1.1.2.2.2.1 x.1.1.2.2.2.2.1 x.1.2.1.1 x.1.2.1.2.1 x.1.2.1.2.2.1 x.1.2.1.2.2.2.1 x.1.2.1.2.2.2.2.1) [fe C.dO,fe abl,fe C.gV,fe C.fD,fe OH,fe Zu,fe C.vM,fe C.vN,fe C.rY] [] (by intros;simp only[M.dL,lu,AL];repeat' first|with_reducible apply iw|with_reducible apply Lh|with_reducible apply Lj|with_reducible apply Ll|with_reducible apply Lm|(intro _)|apply iw|rfl)
def M.zf{R:Type}(jq:Int->Int->aA->aA->au->Int->Bool->Bool->Bool->Bool->Option (Int×Int×aA×au×Int))(t' gX:Int)(je lq:aA)(kC:au)(p:Int)(p1 p2 p3 p4:Bool)(k:Int×Int×aA×au×Int->Option R):Option R:=
 (M.iW t' gX je lq kC).bind λahu=>
 ((M.Bo ahu.1 ahu.2.1 ahu.2.2.1 ahu.2.2.2.1 ahu.2.2.2.2 p p1 p2 p3 p4).bind λaDZ=>
 (bif aDZ then
 ((jq t' gX je lq kC p p1 p2 p3 p4).bind λaD0=>
 (k ((AL aD0)))) else
 ((M.dO [40]).bind λaD1=>
 (M.pz.bind λahv=>
 ((jq t' gX je lq kC ahv.1 ahv.2.1 ahv.2.2.1 ahv.2.2.2.1 ahv.2.2.2.2).bind λaD2=>
 ((M.dO [41]).bind λaD3=>
 ((M.gV ([lu aD1,lu aD2,lu aD3])).bind λaD4=>
 (k ((AL aD4))))))))))
def C.Zv{jq:Int->Int->aA->aA->au->Int->Bool->Bool->Bool->Bool->Option (Int×Int×aA×au×Int)}(NG:S.wH.ok X0 λx=>jq x.1.1.1 x.1.1.2.1 x.1.1.2.2.1 x.1.1.2.2.2.1 x.1.1.2.2.2.2.1 x.1.2.1.1 x.1.2.1.2.1 x.1.2.1.2.2.1 x.1.2.1.2.2.2.1 x.1.2.1.2.2.2.2.1):S.kW.ok X0 λx=>M.zf jq x.1.1.1 x.1.1.2.1 x.1.1.2.2.1 x.1.1.2.2.2.1 x.1.1.2.2.2.2.1 x.1.2.1.1 x.1.2.1.2.1 x.1.2.1.2.2.1 x.1.2.1.2.2.2.1 x.1.2.1.2.2.2.2.1 some:=fnS (λx=>M.zf jq x.1.1.1 x.1.1.2.1 x.1.1.2.2.1 x.1.1.2.2.2.1 x.1.1.2.2.2.2.1 x.1.2.1.1 x.1.2.1.2.1 x.1.2.1.2.2.1 x.1.2.1.2.2.2.1 x.1.2.1.2.2.2.2.1) [fe C.iW,fe C.Bo,fe NG,fe C.dO,fe C.pz,fe C.gV] [] (by intros;simp only[M.zf,lu,AL];repeat' first|with_reducible apply iw|with_reducible apply Lh|with_reducible apply Lj|with_reducible apply Ll|with_reducible apply Lm|(intro _)|apply iw|rfl)
def M.jT:Nat->(Int->Int->aA->aA->au->Int->Bool->Bool->Bool->Bool->Option (Int×Int×aA×au×Int))×(au->Option (Int×Int×aA×au×Int))×(Int->Int->aA->aA->au->Int->Int->Bool->Bool->Bool->Bool->Option (Int×Int×aA×au×Int))×(Int->Int->aA->aA->au->Int->Bool->Bool->Bool->Bool->Option (Int×Int×aA×au×Int))×(Int->Int->aA->aA->au->Int->Bool->Bool->Bool->Bool->Option (Int×Int×aA×au×Int)):=
 Nat.rec (λ_ _ _ _ _ _ _ _ _ _=>none,λ_=>none,λ_ _ _ _ _ _ _ _ _ _ _=>none,λ_ _ _ _ _ _ _ _ _ _=>none,λ_ _ _ _ _ _ _ _ _ _=>none) λ_ qz=>(λt' gX je lq kC p p1 p2 p3 p4=>M.zf qz.2.2.2.2 t' gX je lq kC p p1 p2 p3 p4 some,λkids=>M.y9 qz.1 kids some,λt' gX je lq kC k' p p1 p2 p3 p4=>M.Bv qz.2.2.2.2 qz.1 t' gX je lq kC k' p p1 p2 p3 p4 some,λt' gX je lq kC p p1 p2 p3 p4=>M.vS qz.2.2.1 t' gX je lq kC p p1 p2 p3 p4 some,λt' gX je lq kC p p1 p2 p3 p4=>M.dL qz.2.1 qz.2.2.1 qz.2.2.2.1 t' gX je lq kC p p1 p2 p3 p4 some)
def M.uS(n:Nat):Int->Int->aA->aA->au->Int->Bool->Bool->Bool->Bool->Option (Int×Int×aA×au×Int):=(M.jT n).1
def M.DR(n:Nat):au->Option (Int×Int×aA×au×Int):=(M.jT n).2.1
def M.xZ(n:Nat):Int->Int->aA->aA->au->Int->Int->Bool->Bool->Bool->Bool->Option (Int×Int×aA×au×Int):=(M.jT n).2.2.1
def M.Ba(n:Nat):Int->Int->aA->aA->au->Int->Bool->Bool->Bool->Bool->Option (Int×Int×aA×au×Int):=(M.jT n).2.2.2.1
def M.zh(n:Nat):Int->Int->aA->aA->au->Int->Bool->Bool->Bool->Bool->Option (Int×Int×aA×au×Int):=(M.jT n).2.2.2.2
def M.abm(n:Nat):M.uS (n+1)=λt' gX je lq kC p p1 p2 p3 p4=>M.zf (M.zh n) t' gX je lq kC p p1 p2 p3 p4 some:=rfl
def M.abn(n:Nat):M.DR (n+1)=λkids=>M.y9 (M.uS n) kids some:=rfl
def M.acH(n:Nat):M.xZ (n+1)=λt' gX je lq kC k' p p1 p2 p3 p4=>M.Bv (M.zh n) (M.uS n) t' gX je lq kC k' p p1 p2 p3 p4 some:=rfl
def M.Zw(n:Nat):M.Ba (n+1)=λt' gX je lq kC p p1 p2 p3 p4=>M.vS (M.xZ n) t' gX je lq kC p p1 p2 p3 p4 some:=rfl
def M.abo(n:Nat):M.zh (n+1)=λt' gX je lq kC p p1 p2 p3 p4=>M.dL (M.DR n) (M.xZ n) (M.Ba n) t' gX je lq kC p p1 p2 p3 p4 some:=rfl
def M.kW(t' gX:Int)(je lq:aA)(kC:au)(p:Int)(p1 p2 p3 p4:Bool):Option (Int×Int×aA×au×Int):=lim λn=>M.uS n t' gX je lq kC p p1 p2 p3 p4
def M.zX(kids:au):Option (Int×Int×aA×au×Int):=lim λn=>M.DR n kids
def M.zO(t' gX:Int)(je lq:aA)(kC:au)(k' p:Int)(p1 p2 p3 p4:Bool):Option (Int×Int×aA×au×Int):=lim λn=>M.xZ n t' gX je lq kC k' p p1 p2 p3 p4
def M.xX(t' gX:Int)(je lq:aA)(kC:au)(p:Int)(p1 p2 p3 p4:Bool):Option (Int×Int×aA×au×Int):=lim λn=>M.Ba n t' gX je lq kC p p1 p2 p3 p4
def M.wH(t' gX:Int)(je lq:aA)(kC:au)(p:Int)(p1 p2 p3 p4:Bool):Option (Int×Int×aA×au×Int):=lim λn=>M.zh n t' gX je lq kC p p1 p2 p3 p4
def C.jT:∀n,(S.kW.ok X0 λx=>M.uS n x.1.1.1 x.1.1.2.1 x.1.1.2.2.1 x.1.1.2.2.2.1 x.1.1.2.2.2.2.1 x.1.2.1.1 x.1.2.1.2.1 x.1.2.1.2.2.1 x.1.2.1.2.2.2.1 x.1.2.1.2.2.2.2.1)∧(S.zX.ok X0 λx=>M.DR n x.1.1)∧(S.zO.ok X0 λx=>M.xZ n x.1.1.1 x.1.1.2.1 x.1.1.2.2.1 x.1.1.2.2.2.1 x.1.1.2.2.2.2.1 x.1.2.1 x.1.2.2.1.1 x.1.2.2.1.2.1 x.1.2.2.1.2.2.1 x.1.2.2.1.2.2.2.1 x.1.2.2.1.2.2.2.2.1)∧(S.xX.ok X0 λx=>M.Ba n x.1.1.1 x.1.1.2.1 x.1.1.2.2.1 x.1.1.2.2.2.1 x.1.1.2.2.2.2.1 x.1.2.1.1 x.1.2.1.2.1 x.1.2.1.2.2.1 x.1.2.1.2.2.2.1 x.1.2.1.2.2.2.2.1)∧(S.wH.ok X0 λx=>M.zh n x.1.1.1 x.1.1.2.1 x.1.1.2.2.1 x.1.1.2.2.2.1 x.1.1.2.2.2.2.1 x.1.2.1.1 x.1.2.1.2.1 x.1.2.1.2.2.1 x.1.2.1.2.2.2.1 x.1.2.1.2.2.2.2.1)
 |0=>⟨eP.zero,eP.zero,eP.zero,eP.zero,eP.zero⟩
 |n+1=>have h:=C.jT n;⟨C.Zv h.2.2.2.2,C.Zr h.1,C.abk h.2.2.2.2 h.1,C.XO h.2.2.1,C.Zt h.2.1 h.2.2.1 h.2.2.2.1⟩
def C.kW:S.kW.ok X0 λx=>M.kW x.1.1.1 x.1.1.2.1 x.1.1.2.2.1 x.1.1.2.2.2.1 x.1.1.2.2.2.2.1 x.1.2.1.1 x.1.2.1.2.1 x.1.2.1.2.2.1 x.1.2.1.2.2.2.1 x.1.2.1.2.2.2.2.1:=eP.lim λn=>(C.jT n).1
def M.Zx{n:Nat}{t' gX:Int}{je lq:aA}{kC:au}{p:Int}{p1 p2 p3 p4:Bool}{r:Int×Int×aA×au×Int}(h:M.uS n t' gX je lq kC p p1 p2 p3 p4=some r):M.kW t' gX je lq kC p p1 p2 p3 p4=some r:=
 eP.Jl (λn=>(C.jT n).1) (by intro a b h;simp[S.kW,sg] at h;first|exact h|simp[Prod.ext_iff,h]) (x:=(((t',gX,je,lq,kC,()),(p,p1,p2,p3,p4,()),()),())) h
def C.zX:S.zX.ok X0 λx=>M.zX x.1.1:=eP.lim λn=>(C.jT n).2.1
def C.zO:S.zO.ok X0 λx=>M.zO x.1.1.1 x.1.1.2.1 x.1.1.2.2.1 x.1.1.2.2.2.1 x.1.1.2.2.2.2.1 x.1.2.1 x.1.2.2.1.1 x.1.2.2.1.2.1 x.1.2.2.1.2.2.1 x.1.2.2.1.2.2.2.1 x.1.2.2.1.2.2.2.2.1:=eP.lim λn=>(C.jT n).2.2.1
def C.xX:S.xX.ok X0 λx=>M.xX x.1.1.1 x.1.1.2.1 x.1.1.2.2.1 x.1.1.2.2.2.1 x.1.1.2.2.2.2.1 x.1.2.1.1 x.1.2.1.2.1 x.1.2.1.2.2.1 x.1.2.1.2.2.2.1 x.1.2.1.2.2.2.2.1:=eP.lim λn=>(C.jT n).2.2.2.1
def C.wH:S.wH.ok X0 λx=>M.wH x.1.1.1 x.1.1.2.1 x.1.1.2.2.1 x.1.1.2.2.2.1 x.1.1.2.2.2.2.1 x.1.2.1.1 x.1.2.1.2.1 x.1.2.1.2.2.1 x.1.2.1.2.2.2.1 x.1.2.1.2.2.2.2.1:=eP.lim λn=>(C.jT n).2.2.2.2
def M.Kv{R:Type}(t' gX:Int)(je lq:aA)(kC:au)(k:Int×Int×aA×au×Int->Option R):Option R:=
 M.pz.bind λahw=>
 ((M.kW t' gX je lq kC ahw.1 ahw.2.1 ahw.2.2.1 ahw.2.2.2.1 ahw.2.2.2.2).bind λaD5=>
 (k ((AL aD5))))
def M.zQ(t' gX:Int)(je lq:aA)(kC:au):Option (Int×Int×aA×au×Int):=M.Kv t' gX je lq kC some
def C.zQ:S.zQ.ok X0 λx=>M.zQ x.1.1.1 x.1.1.2.1 x.1.1.2.2.1 x.1.1.2.2.2.1 x.1.1.2.2.2.2.1:=fnS (λx=>M.Kv x.1.1.1 x.1.1.2.1 x.1.1.2.2.1 x.1.1.2.2.2.1 x.1.1.2.2.2.2.1) [fe C.pz,fe C.kW] [] (by intros;simp only[AL,M.Kv,nb]<;>rfl)
def M.oQ{R:Type}(gq:Int->Int->aA->au->Int->Option (aA×Bool))(v21:au)(v22:Int)(s:Int×au)(kn:Int×au->Option R)(ke:(Unit)⊕(Int×au)->Option R):Option R:=match s with
 |(v23,x')=>
 bif decide (v23<v22) then
 ((idx v21 v23).bind λWH=>
 ((fQ .i64 WH 0).bind λaD6=>
 ((fQ .i64 WH 1).bind λaD7=>
 ((cStr WH 2).bind λaD8=>
 ((SK 5 WH 3).bind λaoN=>
 ((fQ .i64 WH 4).bind λaD9=>
 ((gq aD6 aD7 aD8 aoN aD9).bind λakq=>
 (bif !akq.2 then(ke (.inl ())) else
 (bif((x'.length+(List.map byteRow akq.1).length) * 1).ble 140737488355328 then
 (bif(x'.length+(List.map byteRow akq.1).length).ble 140737488355328 then(kn ((i64.wrap (v23+1),x'++List.map byteRow akq.1))) else none) else none))))))))) else(ke (.inr ((v23,x'))))
def M.oU(gq:Int->Int->aA->au->Int->Option (aA×Bool))(v21:au)(v22:Int)(s:Int×au):=M.oQ gq v21 v22 s (λs=>some (Sum.inl s)) λt=>some (Sum.inr t)
def M.CQ(gq:Int->Int->aA->au->Int->Option (aA×Bool))(v21:au)(v22:Int)(s:Int×au):Option ((Unit)⊕(Int×au)):=eF (M.oU gq v21 v22) s
def F.CQ{gq:Int->Int->aA->au->Int->Option (aA×Bool)}(Ls:S.kQ.ok X0 λx=>gq x.1.1.1 x.1.1.2.1 x.1.1.2.2.1 x.1.1.2.2.2.1 x.1.1.2.2.2.2.1):LE X0 57:=le 10 (GN [dG 4 (pO 300000 0),dG 21 (pL false 5),dG 22 pI,dG 23 pI] [dG 300000 (cA false true 0 1)]) (λx=>(x.1.2.2.2.1,x.2.1)) (λx s=>(((),x.1.2.1,x.1.2.2.1,s.1,()),(s.2,()))) (λx=> .sum (.leaf (Unit) (λt=>(Ex.ret,{tm:=[(2,V.d (D.str [])),(3,V.d (D.bool false))],mem:=[]}))) (.leaf (Int×au) (λt=>(Ex.exit 1,{tm:=[(4,V.own 300000 0),(21,V.d (D.sl false 5 x.1.2.1)),(22,V.d (D.int .i64 x.1.2.2.1)),(23,V.d (D.int .i64 t.1)),(24,V.d (D.bool false))],mem:=[(300000,Cell.arr false true 0 1 t.2)]})))) (λx=>M.oQ gq x.1.2.1 x.1.2.2.1) [fe Ls] [] (by rintro _ _ ⟨_,_⟩ _ _<;>simp only[M.oQ,nb]<;>rfl)
def M.Bc{R:Type}(gq:Int->Int->aA->au->Int->Option (aA×Bool))(d d1:Int)(d2:aA)(d3:au)(d4:Int)(k:aA×Bool->Option R):Option R:=
 bif d==1 then(k ((d2,true))) else
 (bif d==2 then(k (([32],true))) else
 (bif d==3 then(k (([],false))) else
 ((M.CQ gq d3 ((↑d3.length:Int)) ((0,[]))).bind λaEa=>
 qR aEa (λaQC=>(k (([],false)))) λaEb=>
 letE aEb λaEc=>((bytesOf aEc.2).bind λaEd=>(k ((aEd,true)))))))
def M.jr:Nat->Int->Int->aA->au->Int->Option (aA×Bool)
 |0=>λ_ _ _ _ _=>none
 |n+1=>λd d1 d2 d3 d4=>M.Bc (M.jr n) d d1 d2 d3 d4 some
def M.kQ(d d1:Int)(d2:aA)(d3:au)(d4:Int):Option (aA×Bool):=lim λn=>M.jr n d d1 d2 d3 d4
def C.XP{gq:Int->Int->aA->au->Int->Option (aA×Bool)}(Ls:S.kQ.ok X0 λx=>gq x.1.1.1 x.1.1.2.1 x.1.1.2.2.1 x.1.1.2.2.2.1 x.1.1.2.2.2.2.1):S.kQ.ok X0 λx=>M.Bc gq x.1.1.1 x.1.1.2.1 x.1.1.2.2.1 x.1.1.2.2.2.1 x.1.1.2.2.2.2.1 some:=fnS (λx=>M.Bc gq x.1.1.1 x.1.1.2.1 x.1.1.2.2.1 x.1.1.2.2.2.1 x.1.1.2.2.2.2.1) [] [F.CQ Ls] (by intros;simp only[M.Bc,nb]<;>rfl)
def C.jr:∀n,S.kQ.ok X0 λx=>M.jr n x.1.1.1 x.1.1.2.1 x.1.1.2.2.1 x.1.1.2.2.2.1 x.1.1.2.2.2.2.1
 |0=>eP.zero
 |n+1=>C.XP (C.jr n)
def C.kQ:S.kQ.ok X0 λx=>M.kQ x.1.1.1 x.1.1.2.1 x.1.1.2.2.1 x.1.1.2.2.2.1 x.1.1.2.2.2.2.1:=eP.lim C.jr
def M.XQ{n:Nat}{d d1:Int}{d2:aA}{d3:au}{d4:Int}{r:aA×Bool}(h:M.jr n d d1 d2 d3 d4=some r):M.kQ d d1 d2 d3 d4=some r:=
 eP.Jl C.jr (by intro a b h;simp[S.kQ,sg] at h;first|exact h|simp[Prod.ext_iff,h]) (x:=(((d,d1,d2,d3,d4,()),()),())) h
def M.xH{R:Type}(v40:au)(v41:Int)(s:Int×au)(kn:Int×au->Option R)(ke:Int×au->Option R):Option R:=match s with
 |(v42,x')=>
 bif decide (v42<v41) then
 ((idx v40 v42).bind λavF=>
 (kZ 5 avF λn193 n194 aPX aPY aqO=>
 (bif n193 !=33 then
 ((M.zQ n193 n194 aPX aPY aqO).bind λaoO=>
 ((M.kQ aoO.1 aoO.2.1 aoO.2.2.1 (bJ aoO.2.2.2.1) aoO.2.2.2.2).bind λaPZ=>
 (iV x' [[D.str aPZ.1]] 16 λza=>(kn ((i64.wrap (v42+1),za)))))) else(kn ((i64.wrap (v42+1),x')))))) else(ke ((v42,x')))
def M.CS(v40:au)(v41:Int)(s:Int×au):=M.xH v40 v41 s (λs=>some (Sum.inl s)) λt=>some (Sum.inr t)
def M.Bd(v40:au)(v41:Int)(s:Int×au):Option (Int×au):=eF (M.CS v40 v41) s
def F.Bd:LE X0 27:=le 15 (GN [dG 6 (pO 300000 0),dG 40 (pL false 5),dG 41 pI,dG 42 pI] [dG 300000 (cA false true 0 1)]) (λx=>(x.1.2.2.2.1,x.2.1)) (λx s=>(((),x.1.2.1,x.1.2.2.1,s.1,()),(s.2,()))) (λx=> .leaf (Int×au) (λt=>(Ex.exit 1,{tm:=[(6,V.own 300000 0),(40,V.d (D.sl false 5 x.1.2.1)),(41,V.d (D.int .i64 x.1.2.2.1)),(42,V.d (D.int .i64 t.1)),(43,V.d (D.bool false))],mem:=[(300000,Cell.arr false true 0 1 t.2)]}))) (λx=>M.xH x.1.2.1 x.1.2.2.1) [fe C.zQ,fe C.kQ] [] (by rintro _ _ ⟨_,_⟩ _ _<;>simp only[iV,kZ,M.xH,nb]<;>rfl)
def M.Kw{R:Type}(l:au)(i:Int)(k:aA->Option R):Option R:=
 (M.tX l).bind λate=>
 (bif !ate then(k []) else
 ((M.bG i 0 (i64.wrap ((↑l.length:Int) - 1))).bind λatf=>
 (bif !atf then(k []) else
 ((M.jZ l i).bind λTB=>
 (bif TB.1==40 then(k [66,69,71,73,78]) else
 (bif TB.1==41 then(k [69,78,68]) else
 (bif TB.1==44 then
 ((M.zN TB.1 TB.2.1 TB.2.2.1 TB.2.2.2.1 (bJ TB.2.2.2.2)).bind λaP0=>(k aP0)) else
 (bif TB.1==42 then
 ((M.Bd (bJ TB.2.2.2.2) ((↑(bJ TB.2.2.2.2).length:Int)) ((0,[]))).bind λaP1=>((M.strings_Join aP1.2 [44,32]).bind λaP2=>(k aP2))) else
 (bif TB.1==43 then
 ((M.Bd (bJ TB.2.2.2.2) ((↑(bJ TB.2.2.2.2).length:Int)) ((0,[]))).bind λaP3=>((M.strings_Join aP3.2 [44,32]).bind λaP4=>(k aP4))) else(k []))))))))))
def M.zS(l:au)(i:Int):Option (aA):=M.Kw l i some
def C.zS:S.zS.ok X0 λx=>M.zS x.1.1 x.1.2.1:=fnS (λx=>M.Kw x.1.1 x.1.2.1) [fe C.tX,fe C.bG,fe C.jZ,fe C.zN,fe C.strings_Join] [F.Bd] (by intros;simp only[M.Kw,nb]<;>rfl)
def M.xI{R:Type}(l v17:au)(v18:Int)(s:Int×au)(kn:Int×au->Option R)(ke:Int×au->Option R):Option R:=match s with
 |(v19,x')=>
 bif decide (v19<v18) then
 ((idx v17 v19).bind λavG=>
 ((fQ .i64 avG 0).bind λavH=>
 ((idx l avH).bind λavI=>
 ((fQ .i64 avI 0).bind λaP5=>
 (bif aP5 !=34 then
 ((M.GV l avH).bind λaEe=>
 ((M.o8 (bJ aEe)).bind λaEf=>
 ((M.KQ aEf).bind λaoP=>
 (bif(aoP.length+1).ble 9223372036854775807 then
 ((M.zS l avH).bind λar5=>
 (bif((aoP++[32]).length+ar5.length).ble 9223372036854775807 then
 (iV x' [[D.str (aoP++[32]++ar5)]] 16 λza=>(kn ((i64.wrap (v19+1),za)))) else none)) else none)))) else(kn ((i64.wrap (v19+1),x')))))))) else(ke ((v19,x')))
def M.CU(l v17:au)(v18:Int)(s:Int×au):=M.xI l v17 v18 s (λs=>some (Sum.inl s)) λt=>some (Sum.inr t)
def M.F9(l v17:au)(v18:Int)(s:Int×au):Option (Int×au):=eF (M.CU l v17 v18) s
def F.F9:LE X0 8:=le 5 (GN [dG 0 (pL false 5),dG 3 (pO 300000 0),dG 17 (pL false 1),dG 18 pI,dG 19 pI] [dG 300000 (cA false true 0 1)]) (λx=>(x.1.2.2.2.2.1,x.2.1)) (λx s=>((x.1.1,(),x.1.2.2.1,x.1.2.2.2.1,s.1,()),(s.2,()))) (λx=> .leaf (Int×au) (λt=>(Ex.exit 0,{tm:=[(0,V.d (D.sl false 5 x.1.1)),(3,V.own 300000 0),(17,V.d (D.sl false 1 x.1.2.2.1)),(18,V.d (D.int .i64 x.1.2.2.2.1)),(19,V.d (D.int .i64 t.1)),(20,V.d (D.bool false))],mem:=[(300000,Cell.arr false true 0 1 t.2)]}))) (λx=>M.xI x.1.1 x.1.2.2.1 x.1.2.2.2.1) [fe C.GV,fe C.o8,fe C.KQ,fe C.zS] [] (by rintro _ _ ⟨_,_⟩ _ _<;>simp only[iV,M.xI,nb]<;>rfl)
def M.IU{R:Type}(l:au)(k:au->Option R):Option R:=
 (M.uH l).bind λaP6=>
 (bif !aP6 then(k []) else
 ((idx l (i64.wrap ((↑l.length:Int) - 1))).bind λavJ=>
 ((SK 1 avJ 4).bind λakr=>
 ((M.F9 l akr ((↑akr.length:Int)) ((0,[]))).bind λar6=>(bif ay ar6.2 then(k ar6.2) else none)))))
def M.tq(l:au):Option (au):=M.IU l some
def C.tq:S.tq.ok X0 λx=>M.tq x.1.1:=fnS (λx=>M.IU x.1.1) [fe C.uH] [F.F9] (by intros;simp only[M.IU,nb]<;>rfl)
def M.sO{R:Type}(a b:au)(s:Int)(kn:Int->Option R)(ke:(Unit)⊕(Int)->Option R):Option R:=match s with
 |i=>
 bif decide (i<(↑a.length:Int)) then
 ((idx a i).bind λaqP=>
 ((cStr aqP 0).bind λaEg=>
 ((idx b i).bind λaqQ=>
 ((cStr aqQ 0).bind λaEh=>(bif !aEg==aEh then(ke (.inl ())) else(kn (i64.wrap (i+1)))))))) else(ke (.inr i))
def M.yF(a b:au)(s:Int):=M.sO a b s (λs=>some (Sum.inl s)) λt=>some (Sum.inr t)
def M.CV(a b:au)(s:Int):Option ((Unit)⊕(Int)):=eF (M.yF a b) s
def F.CV:LE X0 9:=le 4 (GN [dG 0 (pL false 1),dG 1 (pL false 1),dG 5 pI] []) (λx=>x.1.2.2.1) (λx s=>((x.1.1,x.1.2.1,s,()),())) (λx=> .sum (.leaf (Unit) (λt=>(Ex.ret,{tm:=[(4,V.d (D.bool false))],mem:=[]}))) (.leaf (Int) (λt=>(Ex.exit 0,{tm:=[(0,V.d (D.sl false 1 x.1.1)),(1,V.d (D.sl false 1 x.1.2.1)),(5,V.d (D.int .i64 t)),(14,V.d (D.bool false))],mem:=[]})))) (λx=>M.sO x.1.1 x.1.2.1) [] [] (by rintro _ _ _ _ _<;>simp only[M.sO,nb]<;>rfl)
def M.EL{R:Type}(a b:au)(k:Bool->Option R):Option R:=
 bif(↑a.length:Int) !=(↑b.length:Int) then(k false) else
 ((M.CV a b 0).bind λaEi=>
 qR aEi (λaQD=>(k false)) λaEj=>
 letE aEj λaQE=>(k true))
def M.mQ(a b:au):Option (Bool):=M.EL a b some
def C.mQ:S.mQ.ok X0 λx=>M.mQ x.1.1 x.1.2.1:=fnS (λx=>M.EL x.1.1 x.1.2.1) [] [F.CV] (by intros;simp only[M.EL,nb]<;>rfl)
def M.zi{R:Type}(a b:au)(s:Int)(kn:Int->Option R)(ke:(Unit)⊕(Int)->Option R):Option R:=match s with
 |i=>
 bif decide (i<(↑a.length:Int)) then
 ((idx a i).bind λaqR=>
 ((fQ .i64 aqR 0).bind λaEk=>
 ((idx b i).bind λaqS=>
 ((fQ .i64 aqS 0).bind λaEl=>(bif aEk !=aEl then(ke (.inl ())) else(kn (i64.wrap (i+1)))))))) else(ke (.inr i))
def M.EM(a b:au)(s:Int):=M.zi a b s (λs=>some (Sum.inl s)) λt=>some (Sum.inr t)
def M.IV(a b:au)(s:Int):Option ((Unit)⊕(Int)):=eF (M.EM a b) s
def F.IV:LE X0 59:=le 4 (GN [dG 0 (pL false 1),dG 1 (pL false 1),dG 5 pI] []) (λx=>x.1.2.2.1) (λx s=>((x.1.1,x.1.2.1,s,()),())) (λx=> .sum (.leaf (Unit) (λt=>(Ex.ret,{tm:=[(4,V.d (D.bool false))],mem:=[]}))) (.leaf (Int) (λt=>(Ex.exit 0,{tm:=[(0,V.d (D.sl false 1 x.1.1)),(1,V.d (D.sl false 1 x.1.2.1)),(5,V.d (D.int .i64 t)),(14,V.d (D.bool false))],mem:=[]})))) (λx=>M.zi x.1.1 x.1.2.1) [] [] (by rintro _ _ _ _ _<;>simp only[M.zi,nb]<;>rfl)
def M.Ky{R:Type}(a b:au)(k:Bool->Option R):Option R:=
 bif(↑a.length:Int) !=(↑b.length:Int) then(k false) else
 ((M.IV a b 0).bind λaEm=>
 qR aEm (λaQF=>(k false)) λaEn=>
 letE aEn λaQG=>(k true))
def M.zT(a b:au):Option (Bool):=M.Ky a b some
def C.zT:S.zT.ok X0 λx=>M.zT x.1.1 x.1.2.1:=fnS (λx=>M.Ky x.1.1 x.1.2.1) [] [F.IV] (by intros;simp only[M.Ky,nb]<;>rfl)
def M.Kz{R:Type}(a a1:Int)(a2 a3:aA)(a4:au)(b b1:Int)(b2 b3:aA)(b4:au)(k:Bool->Option R):Option R:=
 bif a !=b then(k false) else
 (bif a1 !=b1 then(k false) else
 (bif !a2==b2 then(k false) else
 (bif !a3==b3 then(k false) else((M.zT a4 b4).bind λaEo=>(bif !aEo then(k false) else(k true))))))
def M.zU(a a1:Int)(a2 a3:aA)(a4:au)(b b1:Int)(b2 b3:aA)(b4:au):Option (Bool):=M.Kz a a1 a2 a3 a4 b b1 b2 b3 b4 some
def C.zU:S.zU.ok X0 λx=>M.zU x.1.1.1 x.1.1.2.1 x.1.1.2.2.1 x.1.1.2.2.2.1 x.1.1.2.2.2.2.1 x.1.2.1.1 x.1.2.1.2.1 x.1.2.1.2.2.1 x.1.2.1.2.2.2.1 x.1.2.1.2.2.2.2.1:=fnS (λx=>M.Kz x.1.1.1 x.1.1.2.1 x.1.1.2.2.1 x.1.1.2.2.2.1 x.1.1.2.2.2.2.1 x.1.2.1.1 x.1.2.1.2.1 x.1.2.1.2.2.1 x.1.2.1.2.2.2.1 x.1.2.1.2.2.2.2.1) [fe C.zT] [] (by intros;simp only[M.Kz,nb]<;>rfl)
def M.xJ{R:Type}(a b:au)(s:Int)(kn:Int->Option R)(ke:(Unit)⊕(Int)->Option R):Option R:=match s with
 |i=>
 bif decide (i<(↑a.length:Int)) then
 ((idx a i).bind λaqT=>
 (kZ 1 aqT λaEp aEq aEr aEs aoQ=>
 ((idx b i).bind λaqU=>
 (kZ 1 aqU λaEt aEu aEv aEw aoR=>
 ((M.zU aEp aEq aEr aEs aoQ aEt aEu aEv aEw aoR).bind λaEx=>(bif !aEx then(ke (.inl ())) else(kn (i64.wrap (i+1))))))))) else(ke (.inr i))
def M.CW(a b:au)(s:Int):=M.xJ a b s (λs=>some (Sum.inl s)) λt=>some (Sum.inr t)
def M.Gf(a b:au)(s:Int):Option ((Unit)⊕(Int)):=eF (M.CW a b) s
def F.Gf:LE X0 10:=le 4 (GN [dG 0 (pL false 5),dG 1 (pL false 5),dG 5 pI] []) (λx=>x.1.2.2.1) (λx s=>((x.1.1,x.1.2.1,s,()),())) (λx=> .sum (.leaf (Unit) (λt=>(Ex.ret,{tm:=[(4,V.d (D.bool false))],mem:=[]}))) (.leaf (Int) (λt=>(Ex.exit 0,{tm:=[(0,V.d (D.sl false 5 x.1.1)),(1,V.d (D.sl false 5 x.1.2.1)),(5,V.d (D.int .i64 t)),(14,V.d (D.bool false))],mem:=[]})))) (λx=>M.xJ x.1.1 x.1.2.1) [fe C.zU] [] (by rintro _ _ _ _ _<;>simp only[kZ,M.xJ,nb]<;>rfl)
def M.IW{R:Type}(a b:au)(k:Bool->Option R):Option R:=
 bif(↑a.length:Int) !=(↑b.length:Int) then(k false) else
 ((M.Gf a b 0).bind λaEy=>
 qR aEy (λaQH=>(k false)) λaEz=>
 letE aEz λaQI=>(k true))
def M.wI(a b:au):Option (Bool):=M.IW a b some
def C.wI:S.wI.ok X0 λx=>M.wI x.1.1 x.1.2.1:=fnS (λx=>M.IW x.1.1 x.1.2.1) [] [F.Gf] (by intros;simp only[M.IW,nb]<;>rfl)
def M.uT{R:Type}(s:Int×aA)(kn:Int×aA->Option R)(ke:Int×aA->Option R):Option R:=match s with
 |(k',out')=>
 bif decide (k'>0) then
 (bif([UInt8.ofNat (IntKind.u8.wrap (i64.wrap (48+k'.tmod 10))).toNat].length+out'.length).ble 9223372036854775807 then
 (kn ((i64.wrap (k'.tdiv 10),[UInt8.ofNat (IntKind.u8.wrap (i64.wrap (48+k'.tmod 10))).toNat]++out'))) else none) else(ke ((k',out')))
def M.Ap(s:Int×aA):=M.uT s (λs=>some (Sum.inl s)) λt=>some (Sum.inr t)
def M.um(s:Int×aA):Option (Int×aA):=eF (M.Ap) s
def F.um:LE X0 29:=le 4 (GN [dG 0 pI,dG 3 pS] []) (λx=>(x.1.1,x.1.2.1)) (λx s=>((s.1,s.2,()),())) (λx=> .leaf (Int×aA) (λt=>(Ex.exit 0,{tm:=[(0,V.d (D.int .i64 t.1)),(3,V.d (D.str t.2)),(7,V.d (D.bool false))],mem:=[]}))) (λx=>M.uT) [] [] (by rintro _ _ ⟨_,_⟩ _ _<;>simp only[M.uT,nb]<;>rfl)
def M.Gg{R:Type}(k':Int)(k:aA->Option R):Option R:=
 bif decide (k'<=0) then(k [109,48]) else
 ((M.um ((k',[]))).bind λar7=>
 (bif(1+ar7.2.length).ble 9223372036854775807 then(k ([109]++ar7.2)) else none))
def M.jE(k':Int):Option (aA):=M.Gg k' some
def C.jE:S.jE.ok X0 λx=>M.jE x.1.1:=fnS (λx=>M.Gg x.1.1) [] [F.um] (by intros;simp only[M.Gg,nb]<;>rfl)
def M.uU{R:Type}(s:Int×Int×au)(kn:Int×Int×au->Option R)(ke:Int×Int×au->Option R):Option R:=match s with
 |(k',i,v)=>
 bif decide (i<(↑v.length:Int)) then
 ((idx v i).bind λaFP=>
 (v[i.toNat]?.bind λaqV=>
 (kn ((i64.wrap (k'+1),i64.wrap (i+1),v.set i.toNat (splice aqV 0 [D.int .i64 k'])))))) else(ke ((k',i,v)))
def M.Aq(s:Int×Int×au):=M.uU s (λs=>some (Sum.inl s)) λt=>some (Sum.inr t)
def M.EN(s:Int×Int×au):Option (Int×Int×au):=eF (M.Aq) s
def F.EN:LE X0 30:=le 2 (GN [dG 0 (pO 100000 0),dG 1 pI,dG 5 pI] [dG 100000 (cA false true 0 1)]) (λx=>(x.1.2.1,x.1.2.2.1,x.2.1)) (λx s=>(((),s.1,s.2.1,()),(s.2.2,()))) (λx=> .leaf (Int×Int×au) (λt=>(Ex.exit 0,{tm:=[(0,V.own 100000 0),(1,V.d (D.int .i64 t.1)),(5,V.d (D.int .i64 t.2.1)),(9,V.d (D.bool false))],mem:=[(100000,Cell.arr false true 0 1 t.2.2)]}))) (λx=>M.uU) [] [] (by rintro _ _ ⟨_,_,_⟩ _ _<;>simp only[M.uU,nb]<;>rfl)
def M.Gi{R:Type}(k':Int)(c:au)(k:Int×au->Option R):Option R:=
 (M.EN ((k',0,c))).bind λar8=>(k ((ar8.1,ar8.2.2)))
def M.uf(k':Int)(c:au):Option (Int×au):=M.Gi k' c some
def C.uf:S.uf.ok X0 λx=>M.uf x.1.2.1 x.2.1:=fnS (λx=>M.Gi x.1.2.1 x.2.1) [] [F.EN] (by intros;simp only[M.Gi,nb]<;>rfl)
def M.sQ{R:Type}(s:Int×Int×au)(kn:Int×Int×au->Option R)(ke:Int×Int×au->Option R):Option R:=match s with
 |(k',i,v)=>
 bif decide (i<(↑v.length:Int)) then
 ((idx v i).bind λaFQ=>
 (v[i.toNat]?.bind λMd=>
 ((idx (v.set i.toNat (splice Md 0 [D.int .i64 k'])) i).bind λaFR=>
 (((v.set i.toNat (splice Md 0 [D.int .i64 k']))[i.toNat]?).bind λQr=>
 ((M.jE (i64.wrap (i64.wrap (k'+1)+1))).bind λahx=>
 ((idx ((v.set i.toNat (splice Md 0 [D.int .i64 k'])).set i.toNat (splice Qr 1 [D.int .i64 (i64.wrap (k'+1))])) i).bind λaFS=>
 ((((v.set i.toNat (splice Md 0 [D.int .i64 k'])).set i.toNat (splice Qr 1 [D.int .i64 (i64.wrap (k'+1))]))[i.toNat]?).bind λWI=>
 ((M.jE (i64.wrap (i64.wrap (i64.wrap (k'+1)+1)+1))).bind λaoS=>
 ((idx (((v.set i.toNat (splice Md 0 [D.int .i64 k'])).set i.toNat (splice Qr 1 [D.int .i64 (i64.wrap (k'+1))])).set i.toNat (splice WI 2 [D.str ahx])) i).bind λaFT=>
 (((((v.set i.toNat (splice Md 0 [D.int .i64 k'])).set i.toNat (splice Qr 1 [D.int .i64 (i64.wrap (k'+1))])).set i.toNat (splice WI 2 [D.str ahx]))[i.toNat]?).bind λaeH=>
 ((idx ((((v.set i.toNat (splice Md 0 [D.int .i64 k'])).set i.toNat (splice Qr 1 [D.int .i64 (i64.wrap (k'+1))])).set i.toNat (splice WI 2 [D.str ahx])).set i.toNat (splice aeH 3 [D.str aoS])) i).bind λaFU=>
 ((((((v.set i.toNat (splice Md 0 [D.int .i64 k'])).set i.toNat (splice Qr 1 [D.int .i64 (i64.wrap (k'+1))])).set i.toNat (splice WI 2 [D.str ahx])).set i.toNat (splice aeH 3 [D.str aoS]))[i.toNat]?).bind λaks=>
 ((aiE 1 aks 4).bind λahy=>
 (bif ay ahy then
 ((M.uf (i64.wrap (i64.wrap (i64.wrap (i64.wrap (k'+1)+1)+1)+1)) ahy).bind λakt=>
 (bif Nat.beq 1 1 &&(true==true &&(ay akt.2 && uy akt.2)) then
 (kn ((akt.1,i64.wrap (i+1),((((v.set i.toNat (splice Md 0 [D.int .i64 k'])).set i.toNat (splice Qr 1 [D.int .i64 (i64.wrap (k'+1))])).set i.toNat (splice WI 2 [D.str ahx])).set i.toNat (splice aeH 3 [D.str aoS])).set i.toNat (splice aks 4 [D.sl true 1 akt.2])))) else none)) else none)))))))))))))) else(ke ((k',i,v)))
def M.yG(s:Int×Int×au):=M.sQ s (λs=>some (Sum.inl s)) λt=>some (Sum.inr t)
def M.CX(s:Int×Int×au):Option (Int×Int×au):=eF (M.yG) s
def F.CX:LE X0 11:=le 2 (GN [dG 0 (pO 100000 0),dG 1 pI,dG 5 pI] [dG 100000 (cA false false 0 5)]) (λx=>(x.1.2.1,x.1.2.2.1,x.2.1)) (λx s=>(((),s.1,s.2.1,()),(s.2.2,()))) (λx=> .leaf (Int×Int×au) (λt=>(Ex.exit 0,{tm:=[(0,V.own 100000 0),(1,V.d (D.int .i64 t.1)),(5,V.d (D.int .i64 t.2.1)),(9,V.d (D.bool false))],mem:=[(100000,Cell.arr false false 0 5 t.2.2)]}))) (λx=>M.sQ) [fe C.jE,fe C.uf] [] (by rintro _ _ ⟨_,_,_⟩ _ _<;>simp only[M.sQ,nb]<;>rfl)
def M.EO{R:Type}(k':Int)(c:au)(k:Int×au->Option R):Option R:=
 (M.CX ((k',0,c))).bind λar9=>(k ((ar9.1,ar9.2.2)))
def M.rC(k':Int)(c:au):Option (Int×au):=M.EO k' c some
def C.rC:S.rC.ok X0 λx=>M.rC x.1.2.1 x.2.1:=fnS (λx=>M.EO x.1.2.1 x.2.1) [] [F.CX] (by intros;simp only[M.EO,nb]<;>rfl)
def M.pG{R:Type}(s:Int×Int×au)(kn:Int×Int×au->Option R)(ke:Int×Int×au->Option R):Option R:=match s with
 |(k',i,v)=>
 bif decide (i<(↑v.length:Int)) then
 ((M.jE k').bind λaEA=>
 ((idx v i).bind λaFV=>
 (v[i.toNat]?.bind λaqW=>
 (kn ((i64.wrap (k'+1),i64.wrap (i+1),v.set i.toNat (splice aqW 0 [D.str aEA]))))))) else(ke ((k',i,v)))
def M.vg(s:Int×Int×au):=M.pG s (λs=>some (Sum.inl s)) λt=>some (Sum.inr t)
def M.yH(s:Int×Int×au):Option (Int×Int×au):=eF (M.vg) s
def F.yH:LE X0 12:=le 2 (GN [dG 0 (pO 100000 0),dG 1 pI,dG 5 pI] [dG 100000 (cA false true 0 1)]) (λx=>(x.1.2.1,x.1.2.2.1,x.2.1)) (λx s=>(((),s.1,s.2.1,()),(s.2.2,()))) (λx=> .leaf (Int×Int×au) (λt=>(Ex.exit 0,{tm:=[(0,V.own 100000 0),(1,V.d (D.int .i64 t.1)),(5,V.d (D.int .i64 t.2.1)),(9,V.d (D.bool false))],mem:=[(100000,Cell.arr false true 0 1 t.2.2)]}))) (λx=>M.pG) [fe C.jE] [] (by rintro _ _ ⟨_,_,_⟩ _ _<;>simp only[M.pG,nb]<;>rfl)
def M.Ar{R:Type}(k':Int)(c:au)(k:Int×au->Option R):Option R:=
 (M.yH ((k',0,c))).bind λasa=>(k ((asa.1,asa.2.2)))
def M.nI(k':Int)(c:au):Option (Int×au):=M.Ar k' c some
def C.nI:S.nI.ok X0 λx=>M.nI x.1.2.1 x.2.1:=fnS (λx=>M.Ar x.1.2.1 x.2.1) [] [F.yH] (by intros;simp only[M.Ar,nb]<;>rfl)
def M.pJ{R:Type}(a:au)(s:Int×Int)(kn:Int×Int->Option R)(ke:(Unit)⊕(Int×Int)->Option R):Option R:=match s with
 |(k',i)=>
 bif decide (i<(↑a.length:Int)) then
 ((idx a i).bind λaqX=>
 ((cStr aqX 0).bind λaEB=>
 ((M.jE k').bind λaEC=>
 (bif !aEB==aEC then(ke (.inl ())) else(kn ((i64.wrap (k'+1),i64.wrap (i+1)))))))) else(ke (.inr ((k',i))))
def M.vk(a:au)(s:Int×Int):=M.pJ a s (λs=>some (Sum.inl s)) λt=>some (Sum.inr t)
def M.yI(a:au)(s:Int×Int):Option ((Unit)⊕(Int×Int)):=eF (M.vk a) s
def F.yI:LE X0 13:=le 2 (GN [dG 0 (pL false 1),dG 1 pI,dG 5 pI] []) (λx=>(x.1.2.1,x.1.2.2.1)) (λx s=>((x.1.1,s.1,s.2,()),())) (λx=> .sum (.leaf (Unit) (λt=>(Ex.ret,{tm:=[(4,V.d (D.int .i64 (-1)))],mem:=[]}))) (.leaf (Int×Int) (λt=>(Ex.exit 0,{tm:=[(0,V.d (D.sl false 1 x.1.1)),(1,V.d (D.int .i64 t.1)),(5,V.d (D.int .i64 t.2)),(9,V.d (D.bool false))],mem:=[]})))) (λx=>M.pJ x.1.1) [fe C.jE] [] (by rintro _ _ ⟨_,_⟩ _ _<;>simp only[M.pJ,nb]<;>rfl)
def M.Au{R:Type}(a:au)(k':Int)(k:Int->Option R):Option R:=
 (M.yI a ((k',0))).bind λaED=>
 qR aED (λaQJ=>(k (-1))) λaEE=>
 letE aEE λaEF=>(k aEF.1)
def M.lT(a:au)(k':Int):Option (Int):=M.Au a k' some
def C.lT:S.lT.ok X0 λx=>M.lT x.1.1 x.1.2.1:=fnS (λx=>M.Au x.1.1 x.1.2.1) [] [F.yI] (by intros;simp only[M.Au,nb]<;>rfl)
def M.vC{R:Type}(aL:au)(k:Bool->Option R):Option R:=
 (M.vX aL 1048576).bind λr12=>
 (bif decide (r12<0) then(k true) else
 ((M.oh aL).bind λr29=>
 ((M.wE (bJ r29)).bind λaqY=>
 (bif[[D.sl true 1 aqY]].all eY then
 ((M.oh aL).bind λavK=>
 ((M.tq (bJ avK)).bind λaku=>
 (bif[[D.sl true 1 aku]].all eY then
 ((M.mQ aku aqY).bind λaEG=>
 (bif !aEG then(k false) else
 ((M.oh aL).bind λaEH=>
 ((M.wI (bJ avK) (bJ aEH)).bind λaEI=>
 (bif !aEI then(k false) else
 ((M.rC 1 avK).bind λaEJ=>
 (bif decide (aEJ.1<0) then(k false) else
 ((M.mQ aku aqY).bind λaEK=>
 (bif !aEK then(k false) else
 ((M.nI 1 aku).bind λakv=>
 ((M.lT akv.2 1).bind λasb=>
 (bif decide (asb<0) then(k false) else
 (bif asb !=akv.1 then(k false) else
 ((M.oh aL).bind λaEL=>
 ((M.tq (bJ aEL)).bind λasc=>
 (bif[[D.sl true 1 asc]].all eY then
 ((M.mQ asc aqY).bind λaEM=>
 (bif !aEM then(k false) else
 ((M.lT akv.2 1).bind λase=>
 (bif decide (ase<0) then(k false) else(bif ase !=akv.1 then(k false) else(k true)))))) else none)))))))))))))))) else none))) else none))))
def M.lZ(aL:au):Option (Bool):=M.vC aL some
def C.lZ:S.lZ.ok X0 λx=>M.lZ x.1.1:=fnS (λx=>M.vC x.1.1) [fe C.vX,fe C.oh,fe C.wE,fe C.tq,fe C.mQ,fe C.wI,fe C.rC,fe C.nI,fe C.lT] [] (by intros;simp only[M.vC,nb]<;>rfl)
end
end Go.Proofs.YtbgadfelmhoheaaGreatDoor
