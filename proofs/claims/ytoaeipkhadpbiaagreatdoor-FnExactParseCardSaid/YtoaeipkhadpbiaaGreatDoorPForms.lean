import Derived.Test.YtoaeipkhadpbiaaGreatDoorVm4
import Derived.Test.YtoaeipkhadpbiaaGreatDoorProg
import Derived.Test.YtoaeipkhadpbiaaGreatDoorPPrim
set_option linter.defProp false
namespace Go.Proofs.YtoaeipkhadpbiaaGreatDoor
open Go Go.Vm
open Go.IntKind (i64)
set_option linter.unusedVariables false
set_option linter.unusedSimpArgs false
abbrev EX{R:Type}(x r:ay)(n:Nat)(k:ay->Option R):Option R:=bif((x.length+r.length) * n).ble 140737488355328 then(bif(x.length+r.length).ble 140737488355328 then k (x++r) else none) else none
def aMT(r:Int×Int×aJ×ay×Int):Row:=[D.int .i64 r.1,D.int .i64 r.2.1,D.str r.2.2.1,D.sl false 5 (ak r.2.2.2.1),D.int .i64 r.2.2.2.2]
def aMU(r:Int×Int×aJ×ay×Int):Int×Int×aJ×ay×Int:=(r.1,r.2.1,r.2.2.1,ak r.2.2.2.1,r.2.2.2.2)
def Ud{R:Type}(n:Nat)(x:Row)(k:Int->Int->aJ->aJ->ay->Option R):Option R:=(mg .i64 x 0).bind λa=>(mg .i64 x 1).bind λb=>(cStr x 2).bind λc=>(cStr x 3).bind λd=>(cSl n x 4).bind λe=>k a b c d e
abbrev ng{A B C D E F G:Type}(f:A->B->C->D->E->G)(p:A×B×C×D×E×F):G:=f p.1 p.2.1 p.2.2.1 p.2.2.2.1 p.2.2.2.2.1
abbrev iP(n:Int):V:=V.d (D.int .i64 n)
abbrev lD(b:Bool):V:=V.d (D.bool b)
abbrev qY(s:aJ):V:=V.d (D.str s)
abbrev Gm(n:Nat)(r:ay):V:=V.d (D.sl false n r)
def LJ:(∀(R:Type) (x r:ay) (n:Nat) (k:ay->Option R),EX x r n k=bif((x.length+r.length) * n).ble 140737488355328 then(bif(x.length+r.length).ble 140737488355328 then k (x++r) else none) else none)/\(∀r,aMT r=[D.int .i64 r.1,D.int .i64 r.2.1,D.str r.2.2.1,D.sl false 5 (ak r.2.2.2.1),D.int .i64 r.2.2.2.2])/\(∀r,aMU r=(r.1,r.2.1,r.2.2.1,ak r.2.2.2.1,r.2.2.2.2))/\(∀(R:Type) (n:Nat) (x:Row) (k:Int->Int->aJ->aJ->ay->Option R),Ud n x k=(mg .i64 x 0).bind λa=>(mg .i64 x 1).bind λb=>(cStr x 2).bind λc=>(cStr x 3).bind λd=>(cSl n x 4).bind λe=>k a b c d e):= ⟨λ_ _ _ _ _=>rfl,λ_=>rfl,λ_=>rfl,λ_ _ _ _=>rfl⟩
noncomputable section
variable {R:Type}
def kp4:=[[0],[0,13],[2],[0,3,4],[0,3,4,5,6],[0,3,4,5,33],[2],[0,3,4,5,7],[0,3,4,5,7],[0,3,4,5,7,8],[0,3,4,5,7,8],[0,3,4,5,7,8,41],[2],[0,3,4,5,7,44],[2],[3,4,5,7,9,10],[5,7,59],[2],[5,7,8],[7,8],[7,8,64],[2],[67],[2],[2]]
def kp7:=[[0,3],[0,3,11],[2,3],[0,3,4],[0,3,4,17],[2,3],[0,3,5],[0,3,5,6],[0,3,5,6],[0,3,5,6],[0,3,5,6,40],[0,3,5,6,43],[0,3,5,6],[0,3,5,6],[0,3,5,6,55],[2,3],[3,7],[3,7,8],[3,7,8,70],[2,3],[2,3]]
def kp9:=[[0,3],[0,3,4],[0,3,4,12],[2,3],[0,3,5,6],[0,3,5,6],[0,3,5,6,33],[0,3,5,6],[0,3,5,6],[0,3,5,6],[0,3,5,6,52],[2,3],[3,6],[3,6,7],[3,6,7,70],[2,3],[2,3]]
def aMV:=[[0,1],[0,1,10],[4],[0,1,5],[0,1,5,14],[0,1,5],[0,1,5,26],[4],[4]]
def aMW:=[[2,3],[2,3,9],[4],[14],[4],[4]]
def aMX:=[[0,1],[0,1,5],[0,1,5,9],[0,1,5],[0,1,5],[0,1,5],[0,1,5],[0,1,5],[0,1,5],[0,1,5],[0,1,5],[0,1,5],[0,1,5],[4]]
def aMY:=[[0,1],[0,1,5],[0,1,5,9],[0,1,5],[0,1,5,18],[4],[0,1,5],[0,1,5,27],[4],[0,1,5],[0,1,5,37],[4],[0,1,5],[0,1,5,47],[4],[0,1,5],[0,1,5],[0,1,5,58],[4],[4]]
def aMZ:=[[0,3],[3,4,5],[3,4,5,14],[2,3],[3,5,6],[2,3]]
def aM0:=[[0,3],[3,4,5],[3,4,5,13],[2,3],[2,3]]
def aM1:=[[0],[0,9],[2],[0,3],[0,3,4],[0,3,4,13],[0,3,4],[0,3,4,5],[0,3,4,5,20],[0,3,4,5],[0,3,4,5,6],[0,3,4,6,60],[2],[0,4,6,79],[2],[0,3,4],[2]]
def aM2:=[[0],[0,3],[0,3,4],[0,3,4,8],[0,3,4],[0,3,4,16],[0,3,4],[0,3,4,25],[0,3,4],[0,3,4,29],[2],[2]]
def aM3:=[[0,1,2,6],[0,1,2,6,11],[6],[0,2,6,21],[6],[2,6,7],[6]]
def aM4:=[[0],[0,13],[0],[0]]
def aM5:=[[0],[0,3],[0,3,4],[0,3,4,12],[0,3,4],[0,3,4],[3],[2]]
def aM6:=[[0],[0,12],[2],[2]]
def aM7:=[[0],[0,3],[0,3,8],[0,3,8,9],[0,3,8,9],[0,3],[2],[0,8,23],[2],[0,27],[2],[0,4],[0,4,5],[0,4,5,49],[0,4,5],[0,4,5],[0,4,5],[0,4,5],[0,4,5,71],[0,4,5],[4,5],[4,5],[2]]
def aM8:=[[1,2],[1,2,5],[1,2,5],[1,2,5,6],[1,2,5,6,13],[1,2,5,6],[1,2,5,6],[1,2,5,6],[4]]
def aM9:=[[0,2],[0,2,5],[2],[2,9],[2],[2]]
def aNa:=[[0,2],[0,2,6],[2],[0,2,3],[0,2,3,11],[2],[2]]
def aNb:=[[0],[0,12],[0]]
def aNc:=[[0],[0,3],[0,3,10,11,12],[0,3,10,11,12,13],[0,3,5,10,11,12],[0,3,10,11,12],[0,3,10,11,12],[3],[2]]
def aNd:=[[0,2],[0,2,5],[0,2,5,6],[0,2],[2],[0,2,5,19],[0,2],[2],[0,2,5,32],[0,2],[2],[0,2,43],[2],[0,2,3],[0,2,3,64],[0,2,3],[0,2,3],[0,2,3],[0,2,3,93],[2,3],[2],[0,2,3,107],[2,3],[2]]
def aNe:=[[0,1],[0,1,5],[4],[0,15],[4],[4]]
def aNf:=[[1,2],[1,2,3],[2],[2,8],[2],[2]]
def aNg:=[[1],[2]]
def aNh:=[[2,3],[2,3,9],[4],[2,3,14],[4],[2,3,19],[4],[2,3,24],[4],[30],[4],[4]]
def aNi:=[[0],[0,5],[2],[0,3],[0,3,7],[0,3],[0,3],[2]]
def aNj:=[[0,1],[0,1,5],[0,1,5,9],[0,1,5],[0,1,5],[0,1,5],[4]]
def aNk:=[[0,1],[0,1,5],[0,1,5,9],[0,1,5],[0,1,5,17],[4],[0,1,5],[4]]
def aNl:=[[0,3],[0,3,4],[0,3,4,11],[2,3],[0,3,4,5],[0,3,4,5,6],[0,3,4,5,6,17],[0,3,4,5,6,22],[0,3,4,5,6],[0,3,4,5,6,35],[0,3,4,5,6],[0,3,4,6,7],[0,3,4,6,7,46],[2,3],[0,3,4,6,7,52],[2,3],[0,3,4,6,7],[0,3,4,5,6,7],[0,3,4,5,6],[2,3]]
def aNm:=[[0,3],[0,3,6],[2,3],[2,3]]
def aNn:=[[1],[1,3],[1,3,8],[1,3,8,9],[2],[1,3,8,24],[2],[1,3,8,35],[2],[1,3,8,42],[2],[1,8,49],[1,8,49],[2],[1,55],[2],[2]]
def aNo:=[[0],[3],[3,4],[3,4],[3,4],[3,4],[3,4],[3,4],[3,4],[3,4],[4],[2],[2]]
def aNp:=[[0],[2]]
def aNq:=[[0],[2]]
def aNr:=[[0,16],[0,19],[0],[0]]
def aNs:=[[0,1,4],[0,4,15],[4],[4],[0,4,5],[4,5],[4]]
def aNt:=[[1,2],[4]]
def aNu:=[[0],[0],[0,3],[0,3],[0,3],[0,3,26],[0,3],[3],[2]]
def aNv:=[[0],[0],[0,10],[0],[0],[0,3],[0,3,19],[0,3],[0,3],[0,3,4],[0,3,4,49],[0,3,4,5],[0,3,4],[0,3,4,61],[0,3,4,64],[0,3,4],[0,3,4],[0,3,4],[0,3,4],[0,3,4],[2]]
def aNw:=[[0,3,4],[0,3,4,8],[4],[0,3,4,11],[0,3,4,11,12],[4],[0,3,4,11,17],[4],[0,3,4,11,22],[4],[0,3,4,11,27],[0,3,4,11,27],[4],[0,3,4,11,35],[0,3,4,11,35],[0,3,4,11,35],[0,3,4,11,35],[0,3,4,11,35],[4],[0,3,4,11,46],[4],[0,3,4,11,51],[4],[0,3,4,11,56],[4],[0,3,4,61],[4],[4]]
def aNx:=[[0],[0]]
def aNy:=[[0,5],[]]
def aNz:=[[0,1],[0,1,5],[0,1,5,6],[0,1,5,6,13],[0,1,5,6],[0,1,5,6,7],[0,1,5,6,7],[0,1,5,6,7,8],[0,1,5,6,7,8,29],[0,1,5,6,7,8],[0,1,5,6,7,8],[0,1,5,6],[4]]
def aNA:=[[0],[0,9],[2],[0,3],[0,3,4],[0,3,4,14],[0,3,4],[0,3,4,5],[0,3,4,5,6],[0,3,4,5,6,24],[0,3,4,5,6],[0,3,4,5,6],[0,3,4],[2]]
def aNB:=[[0],[0,9],[2],[0,3],[0,3,10,11,12],[0,3,10,11,12,13],[0,3,4,5,10,11,12],[0,3,4,5,6,10,11,12],[0,3,4,5,6,10,11,12,21],[0,3,5,6,10,11,12],[0,3,5,6,10,11,12,28],[2],[0,3,5,6,10,11,12,32],[2],[0,3,5,10,11,12,40],[2],[0,3,5,10,11,12,52],[0,5,10,11,12,52],[2],[0,3,10,11,12],[0,3,10,11,12],[2]]
def aNC:=[[0],[0,3],[3,6,7,8],[3,6,7,8,9],[3,4,5,6,7,8],[3,4,5,6,7,8,13],[3,4,6,7,8],[3,4,6,7,8,19],[3,4,6,7,8],[3,4,6,7,8,27],[2],[3,6,7,8],[2]]
def aND:=[[0,6],[0,8],[0,8,9],[0,11],[0],[0]]
def aNE:=[[0],[0,12],[2],[2]]
def aNF:=[[0,2],[0,2,3],[0,2,3],[0,2,3],[0,2,3,18],[0,2,3],[0,2,3],[0,2,3],[0,2,3],[2,3],[2]]
def aNG:=[[0,2],[0,2,3],[0,2,3,12],[2,3],[2],[0,2,3],[0,2,3],[0,2,3,31],[0,2,3,36],[0,2,3],[0,2,3,53],[0,2,3,57],[0,2,3],[0,2,3],[0,2,3],[0,2,3],[0,2,3],[2,3],[2]]
def aNH:=[[0,3,4],[0,3,4,5],[0,3,4,5,25],[4],[0,3,4,5,6],[0,3,4,5,6],[4,5,6,7],[4]]
def aNI:=[[0,5],[]]
def aNJ:=[[1],[1,3],[3,7,8,9],[3,7,8,9,10],[3,5,7,8,9],[3,7,8,9],[3,7,8,9],[2]]
def aNK:=[[1],[1,3],[3,7,8,9],[3,7,8,9,10],[3,5,7,8,9],[3,7,8,9],[3,7,8,9],[2]]
def aNL:=[[1,2],[1,2,5],[1,5,18,19,20],[1,5,18,19,20,21],[1,5,7,18,19,20],[1,5,18,19,20],[1,5,18,19,20],[1,5,18,19,20],[4]]
def aNM:=[[0,1],[0,1,10],[4],[0,1,5],[0,1,5,14],[0,1,5],[0,1,5,25],[4],[4]]
def aNN:=[[0],[2]]
def aNO:=[[0,1],[0,1,12],[4],[4]]
def aNP:=[[0,1,2,6],[0,1,2,6,7],[0,1,2,6,7,8],[0,1,2,6,7,8],[0,1,6,8,11,12],[0,1,6,8,11,12,26],[6],[0,1,6,8,12],[0,1,6,8,9],[0,1,2,6,7,8,33],[6],[0,1,2,6,7,8,38],[0,1,6,8,9],[0,1,6,8,9,51],[0,1,6,8,9],[0,1,6,8,9],[0,1,2,6,7,8,55],[0,1,6,8,9],[0,1,6,8,9],[0,1,2,6,7,8,66],[0,1,6,8,9],[0,1,6,8,9],[0,1,6,7,8,73],[0,1,6,8,9],[0,1,6,8,9],[0,1,6,8,83],[6,8,10],[6,8,10,95],[6],[6],[0,1,6,8,9,99],[6],[6,8],[6]]
def aNQ:=[[0,1,2,7],[0,1,2,7,8],[0,1,2,7,8,14],[0,1,2,7,8,15],[0,1,2,7,8],[0,1,2,7,8,23],[0,1,2,7,8],[0,1,7,8,9],[0,1,7,8,9,43],[6,7],[0,1,7,8,9],[0,1,2,7,8],[6,7]]
def aNR:=[[0],[0,3],[0,3,7],[0,3],[0,3,13],[2],[2]]
def aNS:=[[0,1],[0,1,9],[4],[0,1,5],[0,1,5,16],[0,1,5,6],[0,1,6,29],[4],[0,1,5],[0,5,33],[4],[0,5,43],[0,5,7],[0,5,7,55],[0,5,7],[0,5,7,62],[4],[4]]
def aNT:=[[0,1],[4]]
def aNU:=[[0,1],[1,5],[5,12],[4],[4]]
def aNV:=[[0],[2]]
def aNW:=[[0],[2]]
def aNX:=[[0],[0,3],[2],[0,6],[2],[0,14],[2],[2]]
def aNY:=[[0],[0,8],[2],[0,12],[0,12,13],[2],[0,12,17],[0],[0,3],[2],[0,12,29],[2],[0,33],[2],[0,4],[4],[2]]
def aNZ:=[[0,3,4],[0,3,4,5],[0,3,4,5,26],[4],[0,3,4,5,6],[0,3,4,5,6],[4,5,6,7],[4]]
def aN0:=[[0,3,4],[0,3,4,5],[0,3,4,5,20],[4],[0,3,4,5],[0,3,4,5,6],[0,3,4,5,6],[4,5,6,7],[4]]
def aN1:=[[0,3,4],[0,3,4,5],[0,3,4,5,16],[0,3,4,5],[0,3,4,5,6],[0,3,4,5,6],[0,3,4,5,6,7],[0,3,4,5],[0,3,4,5],[0,3,4,5,49],[0,3,4,5],[0,3,4,5,8],[0,3,4,5],[4]]
def aN2:=[[0,2,3,5,8],[0,2,3,5,8,9,10],[0,2,3,5,8,9,10,22],[0,2,3,5,8,9,10],[0,2,3,5,8,10,11],[0,2,3,5,8,10,11,12],[0,2,3,5,8,10,11,12,38],[0,2,3,5,8,10,11,12],[0,2,3,5,8,10,11,12,13],[0,2,3,5,8,10,11,12,13,42],[0,2,3,5,8,10,11,12,13],[0,2,3,5,8,10,11,12,13],[0,2,3,5,8,10,11,12,13,58],[0,2,3,5,8,10,11,12,13],[0,2,3,5,8,10,11,12,13,14],[0,2,3,5,8,10,11,12],[8]]
def aEW:=[[0,3,4],[0,3,4,5],[0,3,4,5,18],[0,3,4,5],[4,5,6],[4],[4]]
def aEX:=[[0,3,4],[0,3,4,5],[0,3,4,5,19],[4],[0,3,4,5],[4,5,6],[4]]
def aEY:=[[0,3,4],[0,3,4,9],[4],[0,4,5],[0,4,5,6],[0,4,5,6,32],[4],[4,5,6],[4]]
def aEZ:=[[0,3,4],[0,3,4,8],[4],[0,3,4],[0,3,4,5],[0,3,4,5,16],[4,5],[4,5],[4]]
def aE0:=[[0,2],[0,2,7],[2],[0,2,10],[0,2,10,11],[2],[0,2,10,15],[2],[0,2,10,19],[2],[0,2,10,23],[2],[0,2,10,27],[2],[0,2,31],[2],[0,2],[0,2,3],[2,3],[2,3],[2]]
def aE1:=[[0],[2]]
def aE2:=[[0],[0,8],[2],[0,3,4],[2]]
def aE3:=[[1],[1,5],[2],[1,7],[1,7,8],[2],[1,7,20],[2],[1,7,29],[2],[1,7,38],[2],[1,7,47],[1,7,47],[2],[1,53],[2],[2]]
def aE4:=[[0],[3],[3,4],[3,4],[3,4],[3,4],[3,4],[3,4],[3,4],[3,4],[4],[2],[2]]
def aE5:=[[0],[2]]
def aE6:=[[0],[2]]
def aE7:=[[0,1],[0,14],[],[4],[],[4]]
def aE8:=[[0,2],[0,2,3],[0,2,3,10],[0,2,4],[0,2,4,17],[2,4],[2],[0,2,3,10,21],[2],[0,2,3,10,25],[0,2,3,10,25],[0,2,3,10,25],[0,2,3,25],[0,2,3],[0,2,37],[0,2,37,38],[2],[0,2,37,42],[0,2,5],[2],[0,2,51],[0,2,6],[0,2,6],[0,2,6],[0,2,6,7],[0,2,6,7,65],[2,6,7],[2],[2]]
def aE9:=[[0],[0,3],[3],[2]]
def aFa:=[[0],[0,11],[],[2],[2]]
def aFb:=[[0,3,4],[0,3,4,5],[0,3,4,5,19],[4],[0,3,4,5],[0,3,4,5,6],[0,3,4,5,6],[0,3,4,5,6,36],[4],[4,5,6,7],[4]]
def aFc:=[[0],[2]]
def aFd:=[[0],[2]]
def aFe:=[[0],[2]]
def aFf:=[[0],[2]]
def aFg:=[[0,1,2,6],[0,2,6,7],[0,2,6,7,14],[6,7],[0,2,6,7,23],[6,7],[6,7,28],[6,7],[6]]
def aFh:=[[0,1],[0,1,9],[4],[0,1,13],[0,1],[4]]
def aFi:=[[0],[0,3],[0,3,7],[0,3],[0,3,15],[2],[2]]
def aFj:=[[0,1],[0,1,6],[0,1,6,7],[0,1,6,7,8],[0,1,6,7,8,9],[0,1,6,7,8,9,15],[0,1,6,7,8,9],[0,1,6,7,8,9,10],[0,1,6,7,8,9,10,56],[0,1,6,8,9,10],[0,1,6,7,8,9],[4,5]]
def aFk:=[[0],[2]]
def aFl:=[[0,1],[0,1,10],[4],[4]]
def aFm:=[[0,1,2,6],[0,1,2,6,7],[0,1,2,6,7,9],[0,1,6,11,12],[0,1,6,7,8],[0,1,2,6,7,9,27],[0,1,6,7,8],[0,1,2,6,7,9,32],[0,1,6,7,8],[0,1,6,7,8,10],[0,1,6,7,8,10,42],[0,1,6,7,8],[0,1,2,6,7,9,46],[0,1,6,7,8],[0,1,2,6,7,9,56],[0,1,6,7,8],[0,1,6,7,9,62],[0,1,6,7,8],[0,1,6,7,73],[0,1,6,7,8],[0,1,6,7,8,83],[6],[0,1,6,7,8,93],[6],[6]]
def aFo:=[[0,1],[0,1,8],[0,1],[4]]
def aFp:=[[0,1,2],[0,1,2,12],[6],[0,2,7],[0,2,7,18],[0,2,7],[0,2,7,24],[0,2,7,24,25],[6],[0,2,7,24,30],[6],[0,2,7,32],[0,2,7],[0,2,7,39],[6],[6]]
def aFq:=[[0],[3],[3,8],[2],[2]]
def aFr:=[[0,1],[0,1,5],[0,1,5,9],[0,1,5],[0,1,5,17],[4],[4]]
def aFs:=[[],[0]]
def aFt:=[[0,1,2],[6]]
def aFu:=[[],[0]]
def aFv:=[[],[0]]
def aFw:=[[0],[0],[0,3],[0,3,4],[0,3,4,13],[2],[2]]
def aFx:=[[0],[0],[0,3],[3],[2]]
def aFy:=[[0],[0],[0,7],[0,7,8],[2],[0,12],[0],[2],[0,3],[2]]
def aFz:=[[0],[0],[0],[0,3],[0,54],[0,4],[0,4],[0,4,5],[0,4,5],[2],[0,6],[0,6],[0,6],[0,6,7],[0,6,7],[0,6,7],[0,6,7,8],[0,6,7,8],[2]]
def aFA:=[[0],[0,5],[0,5,6],[0,5,6],[2],[0,5,11],[2],[0,5,15],[2],[0,5,19],[2],[0,5,23],[2],[0,5,27],[2],[0,5,31],[2],[0,35],[0],[0,3],[0,3],[0,3],[2],[2]]
def aFB:=[[1,2,4],[4]]
def aFC:=[[1],[2]]
def aFD:=[[0],[2]]
def aFE:=[[1,2,4],[4]]
def aFF:=[[0],[0,13],[2],[0,3],[0,3,4],[0,3,4,24],[0,3,4],[0,3,4,35],[0,3,4],[0,3,4,46],[0,3,4],[0,3,4,50],[2],[0,3,4,63],[2],[2]]
def aFG:=[[0,1,2],[0,1,2,7],[0,1,7,16],[7],[6],[0,1,7,25],[0,1,7],[0,1,7,35],[0,1,7,38],[0,1,7],[0,1,7],[0,1,7],[7],[6]]
def aFH:=[[0],[5],[5,6],[2,3],[5,8],[2,3],[5,10],[2,3],[5,12],[2,3],[5,14],[2,3],[5,16],[2,3],[18],[2,3],[2,3]]
def aFI:=[[0],[2]]
def aFJ:=[[0,1,5],[0,1,5,7],[0,1,5,7,17],[6],[6]]
def aFK:=[[0],[2]]
def aFL:=[[0,3,4],[0,3,4,5],[0,3,4,5],[0,3,4,5,19],[0,3,4,5],[4,5,6],[4]]
def aFM:=[[0,1,4],[1,4,5],[4]]
def aFN:=[[0,2],[0,2,3],[0,2,3,8],[2],[0,2,3],[2]]
def aFO:=[[0,1,4],[0,1,4,5],[0,1,4,5,21],[4],[0,1,4,5],[4]]
def aFP:=[[0],[0,4],[0,4,5],[0,4,5,12],[0,4,5],[0,4,5,6],[0,4,5,6,7],[0,4,5,6,7,24],[0,4,5,6,7],[0,4,5,6,7,41],[2,3],[0,4,5,6,7],[0,4,5],[2,3]]
def aFQ:=[[0,1],[4]]
def aFR:=[[0,1],[0,1,17],[4],[0,1,5],[0,5,6],[0,5,6,27],[0,5,6,7],[0,6,7],[0,5,6],[0,5,40],[4],[0,5,8],[0,5,49],[0,5,9],[0,5,9,10],[0,5,9,60],[0,5,9],[5,9,11],[5,11,68],[4],[4]]
def aFS:=[[0,1],[4]]
def aFT:=[[0,1],[1,5],[5,12],[4],[4]]
def aFU:=[[0],[2]]
def aFV:=[[0],[2]]
def aFW:=[[0],[0,3],[2],[0,6],[2],[0,13],[2],[2]]
def aFX:=[[0,2],[0,2,3],[0,2,3,4],[0,2,3,4,8],[2],[0,2,3,4,8,15],[0,2,3,4,8,15],[0,2,3],[2],[0,2,3,4,8,28],[0,2,3,4],[0,2,3,4,8,31],[0,2,3,4],[0,2,3,4,8,34],[0,2,3,4],[0,2,3,4,8,37],[0,2,3,4],[0,2,3,4,8,40],[0,2,3,4],[0,2,4,43],[0,2,4],[0,2,4],[0,2,4,65],[0,2,4],[2,4],[2],[0,2,3,4],[0,2,4,95],[2,4],[2]]
def aFY:=[[0,2],[0,2,3],[0,2,4],[0,2,4,5,6],[0,2,4,5,6],[0,2,4,5,6,33],[0,2,4,5,6,38],[2,4],[2],[0,2,4],[2,4],[2]]
def aFZ:=[[0,2],[0,2],[0,2,3],[2,3],[2]]
def aF0:=[[0,2],[0,2],[0,2,9],[2],[0,2,13],[2],[0,2,3],[0,2,3,21],[2,3],[2],[2,3],[2]]
def aF1:=[[0,2],[0,2],[0,2,46],[0,2,3],[0,2,3],[0,2,3],[0,2,3],[2,3],[2],[0,2,4],[0,2,4],[0,2,4],[0,2,4,5],[0,2,4,5],[0,2,4,5],[0,2,4,5,6],[0,2,4,5,6],[2]]
def aF2:=[[0,3,4],[0,3,4,5],[0,3,4,5,18],[0,3,4,5],[0,3,4,5],[0,3,4,5],[4]]
def aF3:=[[0,1,2],[6]]
def aF4:=[[0],[2]]
def aF5:=[[0,1],[4]]
def aF6:=[[0],[2]]
def aF7:=[[0],[2]]
def aF8:=[[0,1],[0,1,9],[4],[0,1,13],[0,1],[4]]
def aF9:=[[0],[0,5,6],[0,5,6,7],[0,3,5,6],[0,5,6,14],[2],[0,5,6],[2]]
def aGa:=[[0,1,2,6],[0,1,2,6,7],[0,1,2,6,7,12],[6],[0,1,2,6,7,21],[6],[1,6,7,27],[6],[6]]
def aGb:=[[0,1],[0,1,15],[4,5],[0,1,6,7],[0,1,6,7,16,17],[0,1,6,7,16,17,18],[0,1,6,7,8,9,16,17],[0,1,6,7,8,9,16,17,31],[0,1,6,7,16,17],[0,1,6,7,16,17],[4,5]]
def aGc:=[[0],[2]]
def aGd:=[[0],[0,3],[0,3,47],[0,3],[0,73],[2],[0],[],[2]]
def aGe:=[[0,1,5],[0,5,10],[6],[6]]
def aGf:=[[0],[0,3],[0,3,9],[0,3],[0,3],[0,3,4],[0,3,4,42],[0,3,4],[0,3,4,52],[0,3,4,55],[0,3,4],[0,3,4],[0,3,4],[0,3,4,5],[0,3,4,5,73],[0,3,4,5],[0,3,4],[3,4],[2]]
def aGg:=[[0,1,2],[0,1,2],[0,1,17],[6],[6]]
def aGh:=[[0],[0],[0,3],[0,4],[0,4,14],[2],[0,4],[2]]
def aGi:=[[1,2],[1,2,6],[2],[2]]
def aGj:=[[0],[3],[3,4],[2],[3,6],[2],[3,8],[3,8],[2],[3,11],[3,11],[3,11],[3,11],[3,11],[3,11],[2],[3,18],[2],[3,20],[3,20],[2],[3,23],[3,23],[3,23],[2],[27],[2],[2]]
def aGk:=[[0],[3],[3,4],[3,4],[3,4],[3,4],[3,4],[3,4],[4],[2],[2]]
def aGl:=[[0,1],[0,1,8],[0,1],[4]]
def aGm:=[[0,1,2],[0,1,2,12],[6],[0,2,7],[0,2,7,24],[0,2,7],[0,2,7,27],[6],[0,2,7,36],[0,2,7],[6]]
def aGn:=[[0],[3],[3,8],[2],[2]]
def aGo:=[[0,1],[4]]
def aGp:=[[0],[2]]
def aGq:=[[0],[2]]
def aGr:=[[0,1,4],[0,4,5],[0,4,5,23],[0,4,5],[0,4,5,37],[0,4,5],[4,5],[4]]
def aGs:=[[0,1],[0,1,5],[0,1,5,14],[5],[4],[0,1,5],[5],[4]]
def aGt:=[[0,1,5,6],[0,5,6,10],[6],[6]]
def aGu:=[[0,3,4],[0,3,4,5],[0,3,4,5,18],[0,3,4,5],[0,3,4,5],[0,3,4,5],[4]]
def aGv:=[[0,4,5,6],[6]]
def aGw:=[[0],[2]]
def aGx:=[[0,1],[4]]
def aGy:=[[0],[2]]
def aGz:=[[0],[3],[3,4],[2],[3,6],[2],[3,8],[3,8],[2],[3,11],[3,11],[3,11],[3,11],[3,11],[3,11],[2],[3,18],[2],[3,20],[3,20],[2],[3,23],[3,23],[3,23],[2],[27],[2],[2]]
def aGA:=[[0],[2]]
def aGB:=[[0,1],[0,1,7,8],[0,1,7,8,9],[0,1,5,7,8],[0,1,5,7,8,16],[4],[0,1,7,8],[4]]
def aGC:=[[0],[2]]
def aGD:=[[0,3],[0,3,5],[0,3,5,11],[0,3,5],[0,3,5,27],[0,3,5,30],[5],[0,3,5],[0,3,5],[4]]
def aGE:=[[0,3,4],[0,3,4,5],[0,3,4,5,18],[4],[0,3,4,5,22],[0,3,4,5,22,23],[4],[0,3,4,5,22,28],[4],[0,3,4,5,22,33],[4],[0,3,4,5,22,38],[4],[0,3,4,5,22,43],[4],[0,3,4,5,22,48],[4],[0,3,4,5,22,53],[4],[0,3,4,5,22,58],[4],[0,3,4,5,22,63],[4],[0,3,4,5,22,68],[4],[0,3,4,5,22,73],[4],[0,3,4,5,22,78],[4],[0,3,4,22,83],[4],[0,3,4,87],[0,4,95],[4],[4],[4]]
def aGF:=[[0,3,4],[0,3,4,5,6],[0,3,4,5,6,26],[0,3,4,5],[0,3,4,5,6],[0,3,4,5,6,45],[4],[0,3,4,5,6],[0,3,4,5,6,65],[0,3,4,5,6],[0,3,4,5,6,74],[0,3,4,5,6],[0,3,4,5],[0,3,4,5,6],[4]]
def aGG:=[[0,1],[4]]
def aGH:=[[0],[3],[3,4],[3,4],[3,4],[3,4],[3,4],[3,4],[4],[2],[2]]
def aGI:=[[0,2],[2],[2]]
def aGJ:=[[0,3,4],[0,3,4,5],[0,3,4,5,23],[4],[0,3,4,5,6],[0,3,4,5,6],[4]]
def aGK:=[[0,3,4],[0,3,4,5],[0,3,4,5,28],[4],[0,3,4,5,6],[0,3,4,5,6],[4]]
def aGL:=[[0,3,4],[0,3,4,5],[0,3,4,5,18],[0,3,4,5],[4]]
def aGM:=[[0,3,4],[0,3,4,5],[0,3,4,5,20],[0,3,4,5,6],[0,3,4,5,6],[0,3,4,5],[4]]
def aGN:=[[0,3,4],[0,3,4,5],[0,3,4,5,20],[0,3,4,5,6],[0,3,4,5,6],[0,3,4,5],[4]]
def aGO:=[[0,3,4],[0,3,4,5],[0,3,4,5,24],[4],[0,3,4,5],[4,5,6],[4]]
def aGP:=[[0,3,4],[0,3,4,5],[0,3,4,5,16],[4],[0,3,4,5],[4]]
def aGQ:=[[0,2],[0,2,14],[2],[0,2,3],[0,2,3,33],[2],[0,2,3,4],[2,3,4],[2]]
def aGR:=[[0,2],[0,2,3],[0,2,3],[2,3,4],[2]]
def aGS:=[[0,2],[0,2,12],[2],[0,2],[0,2,3],[0,2,3,25],[2,3],[2,3],[2]]
def aGT:=[[0,2],[0,2,9],[2],[0,2,3],[0,2,3,13],[0,2,3,13,14],[2],[0,2,3,13,20],[2],[0,2,3,13,26],[2],[0,2,3,13,32],[2],[0,2,3,13,36],[0,2,3,13,36],[0,2,3,4],[0,2,4,43],[0,2,4],[0,2,4,52],[2],[0,2,4,56],[2,4],[2],[0,2,62],[0,2],[0,2,5],[2,5],[2],[2]]
def aGU:=[[0],[0,3],[3,14,15,16],[3,14,15,16,17],[3,5,14,15,16],[3,5,14,15,16,20],[3,14,15,16],[3,5,14,15,16,26],[3,14,15,16],[3,14,15,16,32],[2],[3,14,15,16,41],[3,14,15,16],[2]]
def aGV:=[[0,2],[0,2,3],[0,2,8],[2],[0,2,14],[2],[2]]
def aGW:=[[0,2],[0,2,3],[0,2,3,9],[0,2,3],[2,3],[2]]
def aGX:List (List (List Nat)):=[[],[],[],[],kp4,[],[],kp7,[],kp9,aMV,aMW,[],[],aMX,aMY,aMZ,aM0,[],[],[],aM1,aM2,aM3,aM4,aM5,aM6,aM7,aM8,aM9,[],aNa,aNb,aNc,aNd,aNe,aNf,aNg,aNh,[],aNi,aNj,aNk,aNl,aNm,[],[],[],[],aNn,aNo,aNp,aNq,aNr,aNs,aNt,aNu,aNv,aNw,aNx,aNy,aNz,aNA,aNB,aNC,aND,aNE,aNF,aNG,aNH,aNI,aNJ,aNK,aNL,aNM,aNN,aNO,aNP,aNQ,[],[],[],[],[],[],[],[],[],aNR,aNS,aNT,aNU,aNV,aNW,aNX,aNY,aNZ,aN0,aN1,aN2,aEW,aEX,aEY,aEZ,aE0,aE1,aE2,aE3,aE4,aE5,aE6,aE7,aE8,aE9,aFa,aFb,aFc,aFd,aFe,aFf,aFg,aFh,aFi,aFj,aFk,aFl,aFm,[],[],[],[],[],[],[],aFo,aFp,aFq,aFr,aFs,aFt,aFu,aFv,aFw,aFx,aFy,aFz,aFA,aFB,aFC,aFD,aFE,aFF,aFG,aFH,aFI,aFJ,aFK,aFL,aFM,aFN,aFO,aFP,aFQ,aFR,aFS,aFT,aFU,aFV,aFW,aFX,aFY,aFZ,aF0,aF1,aF2,aF3,aF4,aF5,aF6,aF7,aF8,aF9,aGa,aGb,[],[],[],aGc,[],[],[],[],[],[],[],[],[],[],aGd,aGe,aGf,aGg,aGh,aGi,aGj,aGk,[],aGl,aGm,aGn,aGo,aGp,aGq,aGr,aGs,aGt,aGu,aGv,[],aGw,aGx,[],[],aGy,aGz,aGA,[],aGB,aGC,aGD,aGE,aGF,[],aGG,[],[],[],[],aGH,aGI,aGJ,aGK,aGL,aGM,aGN,aGO,aGP,aGQ,aGR,aGS,aGT,aGU,[],aGV,aGW,[],[],[],[],[],[],[],[],[],[],[],[],[],[],[],[],[],[],[],[],[],[],[],[],[]]
def aN3(f:Nat):List Nat:=bif Nat.beq f 13 then[0] else bif Nat.beq f 14 then[0] else bif Nat.beq f 41 then[0] else[]
def aGY(f:Nat):List Nat:=bif Nat.beq f 73 then[1] else[]
def aGZ:List (List Nat):=[[],[],[],[],[],[],[],[],[],[],[],[],[],[],[0,0,0,0,0,0,0,0,0,0,0,0,5]]
def aN4(f:Nat):List Nat:=([(3,[22]),(4,[16]),(7,[21,27,30,38,42,49,62,65,67]),(9,[19,35,39,45,63]),(16,[19]),(18,[11,16]),(24,[3,11,15,17]),(27,[7,14,20,22,26,31,33,37,47,51,53,58,69,75,79,82]),(32,[3,10]),(34,[5,16,29,42,46,51,62,73,78,91,97,109]),(53,[9,13,18]),(54,[12]),(55,[7]),(56,[5,8,11,19,24,29,33,36]),(57,[7,9,12,14,33,46,51,60,69,71,73,75,80,83]),(58,[16,21,26,34,45,50,55,60,65,67]),(60,[3]),(65,[8]),(67,[6,8,16,20,24,30,35,39]),(68,[6,10,18,21,29,40,51,69,71,73,77]),(69,[10,22,28,38]),(70,[3]),(81,[49]),(95,[12,16,20,22,26,28,32,36,38,40]),(96,[10,11,18,23,29,32,35,36,44]),(97,[10,11,18,23,26,27,29,32,33,42]),(98,[15,18,20,22,24,29,33,34,47,51,53,60]),(99,[17,28,29,37,44,60,64,65,73]),(100,[8,21,24,25,31,34]),(101,[9,10,17,22,25,26,33]),(102,[8,9,12,15,16,18,25,30,36,42]),(103,[7,10,12,15,16,19,22,23,28]),(104,[10,14,18,22,26,30,34,36,39,41]),(111,[11]),(112,[9,12,19,24,41,45,48,54,56,58,60,67,73]),(114,[9,16]),(115,[10,17,30,32,40]),(142,[6,8,10,12,18,23,25]),(143,[5,8,10]),(144,[5,7,11,15,19,25,28]),(145,[10,12,56,58,60,62,69,71,74,76,78,81,83,85,88,90,96,98]),(146,[5,10,14,18,22,26,30,34,38,40,42,44,48,50,54,57]),(148,[8]),(150,[7]),(151,[11]),(152,[13,19,29,34,43,45,48]),(155,[9]),(157,[8,11,13,17,25,26,32]),(158,[18]),(159,[5,7,15,20,21]),(160,[8,9,14,29,35,36]),(169,[6,11,27,53,63,74,92,98]),(170,[8,11,24,31,63]),(171,[5,8,10]),(172,[5,12,15,20,33]),(173,[8,16,48,51,53,56,58,64,66,68,71,73,75,78,80,85]),(174,[8,16,27,31,32]),(198,[75,77]),(199,[8,15]),(200,[8,13,14,32,37,38,46,51,60,62,64,72,76,83,89]),(201,[9,10,15,25,28]),(202,[6,8,13,18,21,22]),(213,[14,19,35,39,45]),(214,[8,25,28]),(215,[8,14]),(216,[8,16,27,31,32]),(229,[15,25,42]),(230,[15,20,27,32,37,42,47,52,57,62,67,72,77,82,86,93,97,99,101]),(231,[15,25,35,43,47,50,58,79]),(240,[9,16,20,26,38,39]),(241,[9,16,25,31,43,44]),(242,[8,16,22,23]),(243,[9,17,22,34,35]),(244,[9,17,22,34,35]),(245,[8,27,37]),(246,[7,14,28,29]),(247,[12,16,18,30,36]),(248,[6,15]),(249,[10,14,24,27,29]),(250,[12,17,23,29,35,40,50,56,58,73,75,80]),(253,[10,13,16,19,21]),(254,[5,8,18])]:List (Nat×List Nat)).foldr (λx r=>bif Nat.beq f x.1 then x.2 else r) []
def aN5(f d:Nat):List Nat:=bif mem? d (aN4 f) then[] else List.range 200
def aG0(f:Nat):List Nat:=bif Nat.beq f 48 then[3] else bif Nat.beq f 65 then[3] else[]
def aN6:List (List Nat):=[]
def aG1(f:Nat):List Nat:=[]
def aCv(f:Nat):List Nat:=bif Nat.beq f 170 then[47] else[]
noncomputable def PS:Adv:=⟨λf r=>(aGX.getD f []).getD r [],λf=>aGY f,λf=>aN3 f,aN5,λt=>(aG0 t),λf r=>(aGZ.getD f []).getD r 0,λf d=>mem? d (aCv f),λf=>aN6.getD f [],λf=>aG1 f⟩
theorem zaN:(!true)=false:=rfl
theorem zaO:∀n:Nat,n≤n:=Nat.le_refl
theorem zaP:∀{A B:Type}{l:List A}(f:A->B),(l.map f).length=l.length:=fun f=>List.length_map f
abbrev zao:=ay×Int×Bool×ay
abbrev zap:=ay×Int×Bool×ay×ay
abbrev zaq:=ay×Int×Bool×Int×Int×aJ×aJ×Int×Int×aJ×aJ×ay×ay
abbrev zar:=ay×Int×Bool×Int×Int×aJ×aJ×Int×Int×aJ×aJ×ay
abbrev zas:=Int×ay×Int×Bool×ay×ay
abbrev zat:=Int×aJ
abbrev zau:=ay×Int×Int×ay×Int×Int×aJ×aJ
abbrev zav:=ay×Int×Int×ay×Int×Int×aJ×aJ×ay
abbrev zaw:=ay×Int×Int×ay×Int×Bool×Int×Int×aJ×aJ×ay
abbrev zax:=ay×Int×Int×ay×Int×Bool×Int×Int×aJ×aJ×ay×ay
abbrev zay:=ay×Int×Bool×Int×Int×aJ×aJ×ay×Bool×ay
abbrev zaz:=ay×Int×Bool×Bool×Bool×Int×Int×aJ×aJ×Bool×Int×Int×aJ×aJ×ay×Bool×ay
abbrev zaA:=ay×Int×Bool×Bool×Bool×Int×Int×aJ×aJ×Bool×Int×Int×aJ×aJ×Bool×ay×ay
abbrev zaB:=ay×Int×Int×ay×Int×Bool×ay×ay
abbrev zaC:=Int×Bool×ay×Int×Bool×ay×ay
abbrev zaD:=Bool×ay×Bool×ay×Int×Bool×ay
abbrev zaE:=Bool×ay×ay×Int×Bool×ay
abbrev zaF:=Bool×ay×Int×Bool×Int×Int×aJ×aJ×Int×Int×aJ×aJ×ay
abbrev zaG:=ay×Int×ay×ay
abbrev zaH:=ay×Bool×ay×Int×Bool×Bool×Bool×Int×Int×aJ×aJ×Bool×Int×Int×aJ×aJ×Bool×ay
abbrev zaI:=ay×Int×Int×ay×Int×Bool×ay
abbrev zaJ:=ay×Int×Int×Int×aJ×aJ×Int×Int×aJ×aJ×ay×ay
abbrev zaK:=ay×ay×Int×Bool×Bool×Bool×Int×Int×aJ×aJ×Bool×Int×Int×aJ×aJ×Bool×ay
abbrev zaL:=ay×Int×Int×ay×Int×ay×ay
abbrev zaM:=Int×Int×aJ×aJ×Bool×ay×Bool×ay×Int×Bool×ay
abbrev zaa:=Bool->Bool->ay->Int->Bool->ay->Option zaM
abbrev zab:=Int->Bool->Bool->Bool->Bool->ay->Int->Bool->ay->Option zaD
abbrev zac:=ay->Int->Bool->ay->Option zaE
abbrev zad:=ay->Int->Bool->ay->Option (Int×Int×aJ×aJ×Bool×ay×ay×Int×Bool×ay)
abbrev zae:=ay->Int->Bool->ay->Option zaM
abbrev zaf:=Int->ay->Int->Bool->ay->Option zaE
abbrev zag:=Int->Int->ay->Int->Bool->ay->Option zaE
abbrev zah:=Int->Int->aJ->aJ->ay->Option (Int)
abbrev zai:=ay->Int->Bool->ay->Option zaD
abbrev zaj:=Int->Int->aJ->aJ->ay->ay->Option (ay)
abbrev zak:=Bool->Bool->ay->Int->Bool->ay->Option zaE
abbrev zal:=Int->Bool->Bool->Bool->Bool->Int->Int->ay->Int->Bool->ay->Option zaD
abbrev zam:=Int->ay->Int->Bool->ay->Option zaD
abbrev zan:=Nat->Int->Int->aJ->aJ->ay->Option (Int)
noncomputable def X0:Ctx:=⟨Tryz.prog,PS,λf=>bif Nat.beq f 177 then some Prim.strings_IndexByte else bif Nat.beq f 162 then some Prim.strings_Contains else none,λg=>bif Nat.beq g 2 then some Uc else bif Nat.beq g 1 then some Gn else bif Nat.beq g 0 then some NW else none,λg=>bif Nat.beq g 3 then true else false,λg=>false⟩
def fTa(S:fB)(C:∀{R:Type},S.α->(S.ρ->Option R)->Option R)(K:List (FE X0):=[])(L:List (LE X0 S.f):=[])(hn:∀{R:Type} x (k:S.ρ->Option R),C x k=(C x some).bind k:=by intros;repeat' first|(with_reducible first|apply dn|apply uM|apply uN|apply uO|apply uP)|intro _|apply dn|rfl)
  (hE:∀{R:Type} x (k:List Row->List Cell->Option R),bodyC X0 (kt K) (lt L) S.f (S.p.enc x.1) (S.q.enc x.2) k=C x (λr=>k (S.enc r).1 (S.enc r).2):=by intros;kernel_rfl)
  (hL:loops (codeOf X0.P S.f)=L.map LE.c:=by kernel_rfl) (hd:apart (L.map LE.n)=true:=by kernel_rfl) (hp:X0.adr S.f=none:=by kernel_rfl):S.ok X0 λx=>C x some:=fnS C K L hn hE hL hd hp (λ_=>rfl)
abbrev re:=λn a=>sg n a [] (ρ:=Bool) λr=>([[D.bool r]],[])
abbrev rf:=λn a=>sg n a [] (ρ:=Int) λr=>([[D.int .i64 r]],[])
abbrev rg:=λn a=>sg n a [] (ρ:=ay) λr=>([[D.sl true 1 r]],[])
abbrev rh:=λn a=>sg n a [] (ρ:=aJ) λr=>([[D.str r]],[])
abbrev rj:=λn a=>sg n a [] (ρ:=Int×Int) λr=>([[D.int .i64 r.1,D.int .i64 r.2]],[])
abbrev rk:=λn a=>sg n a [] (ρ:=Int×Bool×Bool×Bool×Bool) λr=>([[D.int .i64 r.1,D.bool r.2.1,D.bool r.2.2.1,D.bool r.2.2.2.1,D.bool r.2.2.2.2]],[])
abbrev rl:=λn a=>sg n a [] (ρ:=ay) λr=>([[D.sl true 5 r]],[])
abbrev rm:=λn a=>sg n a [] (ρ:=Int×Int) λr=>([[D.int .i64 r.1],[D.int .i64 r.2]],[])
abbrev rn:=λn a=>sg n a [] (ρ:=Bool×ay×Int×Int) λr=>([[D.sl r.1 5 r.2.1],[D.int .i64 r.2.2.1,D.int .i64 r.2.2.2]],[])
abbrev rp:=λn a=>sg n a [] (ρ:=ay×Int×Int) λr=>([[D.sl true 5 r.1],[D.int .i64 r.2.1,D.int .i64 r.2.2]],[])
abbrev rq:=λn a=>sg n a [] (ρ:=Int×aJ×Int) λr=>([[D.int .i64 r.1,D.str r.2.1,D.int .i64 r.2.2]],[])
abbrev rr:=λn a=>sg n a [] (ρ:=ay×Int×Int) λr=>([[D.sl true 3 r.1],[D.int .i64 r.2.1,D.int .i64 r.2.2]],[])
abbrev _root_.Prod.va{A B C D:Type _}(x:A×B×C×D):D:=x.2.2.2
abbrev _root_.Prod.wc{A B C D E F G H I:Type _}(x:A×B×C×D×E×F×G×H×I):I:=x.2.2.2.2.2.2.2.2
abbrev S.DI:=re 88 [pS]
abbrev S.fO:=rf 76 [pS,pI]
abbrev S.kG:=re 139 [pI,pI,pI]
abbrev S.rX:=re 118 [pI]
abbrev S.fH:=rf 134 [pS,pI]
abbrev S.yB:=rf 89 [pS,pI]
abbrev S.uF:=rf 135 [pS,pI,pI]
abbrev S.Aw:=rf 90 [pS,pI]
abbrev S.Az:=rf 91 [pS,pI]
abbrev S.lF:=re 119 [pI]
abbrev S.nO:=re 176 [pI]
abbrev S.o7:=re 122 [pS]
abbrev S.zX:=rg 140 []
abbrev S.AA:=rf 137 [pL false 1,pS]
abbrev S.o8:=rf 136 [pS]
abbrev S.zn:=rg 138 []
abbrev S.nP:=re 93 [pS]
abbrev S.DJ:=re 92 [pS]
abbrev S.zY:=rg 141 []
abbrev S.qw:=rh 94 [pI]
abbrev S.zZ:=re 49 [BH [pI,pS,pI]]
abbrev S.iQ:=re 50 [pI]
abbrev S.yg:=re 21 [pL false 3]
abbrev S.ou:=re 51 [pI]
abbrev S.qx:=re 52 [pI]
abbrev S.DK:=rf 22 [pL false 3]
abbrev S.rM:=rj 23 [pL false 3,pI,pI]
abbrev S.aK:fB:=sg 26 [pP 100000 0] [cB 48 [pL false 3,pI,pB,pL true 3]] (ρ:=Int×ay×Int×Bool×ay) λr=>([[D.int .i64 r.1]],[Cell.box 48 [V.d (D.sl false 3 r.2.1),V.d (D.int .i64 r.2.2.1),V.d (D.bool r.2.2.2.1),V.d (D.sl true 3 r.2.2.2.2)]])
abbrev S.bT:fB:=sg 53 [pP 100000 0] [cB 48 [pL false 3,pI,pB,pL true 3]] (ρ:=ay×Int×Bool×ay) λr=>([],[Cell.box 48 [V.d (D.sl false 3 r.1),V.d (D.int .i64 r.2.1),V.d (D.bool r.2.2.1),V.d (D.sl true 3 r.2.2.2)]])
abbrev S.aH:fB:=sg 54 [pP 100000 0,pI] [cB 48 [pL false 3,pI,pB,pL true 3]] (ρ:=Int×aJ×Int×ay×Int×Bool×ay) λr=>([[D.int .i64 r.1,D.str r.2.1,D.int .i64 r.2.2.1]],[Cell.box 48 [V.d (D.sl false 3 r.2.2.2.1),V.d (D.int .i64 r.2.2.2.2.1),V.d (D.bool r.2.2.2.2.2.1),V.d (D.sl true 3 r.2.2.2.2.2.2)]])
abbrev S.kD:fB:=sg 24 [pP 100000 0] [cB 48 [pL false 3,pI,pB,pL true 3]] (ρ:=ay×Int×Bool×ay) λr=>([],[Cell.box 48 [V.d (D.sl false 3 r.1),V.d (D.int .i64 r.2.1),V.d (D.bool r.2.2.1),V.d (D.sl true 3 r.2.2.2)]])
abbrev S.mV:fB:=sg 25 [pP 100000 0] [cB 48 [pL false 3,pI,pB,pL true 3]] (ρ:=Bool×ay×ay×Int×Bool×ay) λr=>([[D.sl r.1 1 r.2.1]],[Cell.box 48 [V.d (D.sl false 3 r.2.2.1),V.d (D.int .i64 r.2.2.2.1),V.d (D.bool r.2.2.2.2.1),V.d (D.sl true 3 r.2.2.2.2.2)]])
abbrev S.jc:=rk 59 []
abbrev S.bP:=rk 147 [BH [pI,pB,pB,pB,pB],pI]
abbrev S.GI:fB:=sg 203 [BH [pL false 5,pB]] [] (ρ:=Int×Int×aJ×aJ×Bool×ay) λr=>([[D.int .i64 r.1,D.int .i64 r.2.1,D.str r.2.2.1,D.str r.2.2.2.1,D.sl r.2.2.2.2.1 1 r.2.2.2.2.2]],[])
abbrev S.AO:=re 187 [pI]
abbrev S.AU:=re 148 [BH [pL false 5,pB]]
abbrev S.wB:=re 149 [pI]
abbrev S.uQ:=rl 61 [pL false 5,pI]
abbrev S.bV:=rl 28 [BH [pI,pI,pS,pS,pL false 1],pL false 1]
abbrev S.dJ:fB:=sg 150 [BH [pI,pI,pS,pS,pL false 1],pL false 1] [] (ρ:=Bool×ay×Bool) λr=>([[D.sl r.1 5 r.2.1,D.bool r.2.2]],[])
abbrev S.BJ:fB:=sg 96 [pP 100000 0,BH [pI,pB,pB,pB,pB]] [cB 48 [pL false 3,pI,pB,pL true 3]] (ρ:=Bool×ay×Bool×ay×Int×Bool×ay) λr=>([[D.sl r.1 5 r.2.1,D.bool r.2.2.1]],[Cell.box 48 [V.d (D.sl false 3 r.2.2.2.1),V.d (D.int .i64 r.2.2.2.2.1),V.d (D.bool r.2.2.2.2.2.1),V.d (D.sl true 3 r.2.2.2.2.2.2)]])
abbrev S.GK:fB:=sg 97 [pP 100000 0,BH [pI,pB,pB,pB,pB]] [cB 48 [pL false 3,pI,pB,pL true 3]] (ρ:=Bool×ay×Bool×ay×Int×Bool×ay) λr=>([[D.sl r.1 5 r.2.1,D.bool r.2.2.1]],[Cell.box 48 [V.d (D.sl false 3 r.2.2.2.1),V.d (D.int .i64 r.2.2.2.2.1),V.d (D.bool r.2.2.2.2.2.1),V.d (D.sl true 3 r.2.2.2.2.2.2)]])
abbrev S.A8:fB:=sg 151 [pP 100000 0] [cB 48 [pL false 3,pI,pB,pL true 3]] (ρ:=Bool×ay×Int×Bool×ay) λr=>([[D.bool r.1]],[Cell.box 48 [V.d (D.sl false 3 r.2.1),V.d (D.int .i64 r.2.2.1),V.d (D.bool r.2.2.2.1),V.d (D.sl true 3 r.2.2.2.2)]])
abbrev S.lT:fB:=sg 152 [pP 100000 0,pI,pI] [cB 48 [pL false 3,pI,pB,pL true 3]] (ρ:=Bool×ay×ay×Int×Bool×ay) λr=>([[D.sl r.1 1 r.2.1]],[Cell.box 48 [V.d (D.sl false 3 r.2.2.1),V.d (D.int .i64 r.2.2.2.1),V.d (D.bool r.2.2.2.2.1),V.d (D.sl true 3 r.2.2.2.2.2)]])
abbrev S.NG:fB:=sg 98 [pP 100000 0,BH [pI,pB,pB,pB,pB]] [cB 48 [pL false 3,pI,pB,pL true 3]] (ρ:=Bool×ay×Bool×ay×Int×Bool×ay) λr=>([[D.sl r.1 5 r.2.1,D.bool r.2.2.1]],[Cell.box 48 [V.d (D.sl false 3 r.2.2.2.1),V.d (D.int .i64 r.2.2.2.2.1),V.d (D.bool r.2.2.2.2.2.1),V.d (D.sl true 3 r.2.2.2.2.2.2)]])
abbrev S.tV:=rf 154 [pI]
abbrev S.yh:=rf 204 [pI]
abbrev S.qy:=rm 153 [pI]
abbrev S.nJ:=re 205 [pI]
abbrev S.kS:fB:=sg 155 [pP 100000 0,pI,BH [pI,pB,pB,pB,pB]] [cB 48 [pL false 3,pI,pB,pL true 3]] (ρ:=Bool×ay×Int×Bool×ay) λr=>([[D.bool r.1]],[Cell.box 48 [V.d (D.sl false 3 r.2.1),V.d (D.int .i64 r.2.2.1),V.d (D.bool r.2.2.2.1),V.d (D.sl true 3 r.2.2.2.2)]])
abbrev S.EI:fB:=sg 99 [pP 100000 0,BH [pI,pB,pB,pB,pB],pI,pI] [cB 48 [pL false 3,pI,pB,pL true 3]] (ρ:=Bool×ay×Bool×ay×Int×Bool×ay) λr=>([[D.sl r.1 5 r.2.1,D.bool r.2.2.1]],[Cell.box 48 [V.d (D.sl false 3 r.2.2.2.1),V.d (D.int .i64 r.2.2.2.2.1),V.d (D.bool r.2.2.2.2.2.1),V.d (D.sl true 3 r.2.2.2.2.2.2)]])
abbrev S.Gp:fB:=sg 101 [pP 100000 0,BH [pI,pB,pB,pB,pB]] [cB 48 [pL false 3,pI,pB,pL true 3]] (ρ:=Bool×ay×Bool×ay×Int×Bool×ay) λr=>([[D.sl r.1 5 r.2.1,D.bool r.2.2.1]],[Cell.box 48 [V.d (D.sl false 3 r.2.2.2.1),V.d (D.int .i64 r.2.2.2.2.1),V.d (D.bool r.2.2.2.2.2.1),V.d (D.sl true 3 r.2.2.2.2.2.2)]])
abbrev S.EJ:fB:=sg 100 [pP 100000 0,BH [pI,pB,pB,pB,pB]] [cB 48 [pL false 3,pI,pB,pL true 3]] (ρ:=Bool×ay×Bool×ay×Int×Bool×ay) λr=>([[D.sl r.1 5 r.2.1,D.bool r.2.2.1]],[Cell.box 48 [V.d (D.sl false 3 r.2.2.2.1),V.d (D.int .i64 r.2.2.2.2.1),V.d (D.bool r.2.2.2.2.2.1),V.d (D.sl true 3 r.2.2.2.2.2.2)]])
abbrev S.rO:=re 156 [pI]
abbrev S.Gq:fB:=sg 157 [pP 100000 0,BH [pI,pB,pB,pB,pB]] [cB 48 [pL false 3,pI,pB,pL true 3]] (ρ:=Bool×ay×Bool×ay×Int×Bool×ay) λr=>([[D.sl r.1 5 r.2.1,D.bool r.2.2.1]],[Cell.box 48 [V.d (D.sl false 3 r.2.2.2.1),V.d (D.int .i64 r.2.2.2.2.1),V.d (D.bool r.2.2.2.2.2.1),V.d (D.sl true 3 r.2.2.2.2.2.2)]])
abbrev S.GL:fB:=sg 102 [pP 100000 0,BH [pI,pB,pB,pB,pB]] [cB 48 [pL false 3,pI,pB,pL true 3]] (ρ:=Bool×ay×Bool×ay×Int×Bool×ay) λr=>([[D.sl r.1 5 r.2.1,D.bool r.2.2.1]],[Cell.box 48 [V.d (D.sl false 3 r.2.2.2.1),V.d (D.int .i64 r.2.2.2.2.1),V.d (D.bool r.2.2.2.2.2.1),V.d (D.sl true 3 r.2.2.2.2.2.2)]])
abbrev S.yj:fB:=sg 158 [pP 100000 0,pI] [cB 48 [pL false 3,pI,pB,pL true 3]] (ρ:=Bool×ay×Bool×ay×Int×Bool×ay) λr=>([[D.sl r.1 5 r.2.1,D.bool r.2.2.1]],[Cell.box 48 [V.d (D.sl false 3 r.2.2.2.1),V.d (D.int .i64 r.2.2.2.2.1),V.d (D.bool r.2.2.2.2.2.1),V.d (D.sl true 3 r.2.2.2.2.2.2)]])
abbrev S.GN:fB:=sg 159 [pP 100000 0] [cB 48 [pL false 3,pI,pB,pL true 3]] (ρ:=Bool×ay×Bool×ay×Int×Bool×ay) λr=>([[D.sl r.1 5 r.2.1,D.bool r.2.2.1]],[Cell.box 48 [V.d (D.sl false 3 r.2.2.2.1),V.d (D.int .i64 r.2.2.2.2.1),V.d (D.bool r.2.2.2.2.2.1),V.d (D.sl true 3 r.2.2.2.2.2.2)]])
abbrev S.GR:fB:=sg 160 [pP 100000 0,pI] [cB 48 [pL false 3,pI,pB,pL true 3]] (ρ:=Bool×ay×Bool×ay×Int×Bool×ay) λr=>([[D.sl r.1 5 r.2.1,D.bool r.2.2.1]],[Cell.box 48 [V.d (D.sl false 3 r.2.2.2.1),V.d (D.int .i64 r.2.2.2.2.1),V.d (D.bool r.2.2.2.2.2.1),V.d (D.sl true 3 r.2.2.2.2.2.2)]])
abbrev S.wC:fB:=sg 104 [pP 100000 0] [cB 48 [pL false 3,pI,pB,pL true 3]] (ρ:=Bool×ay×Bool×ay×Int×Bool×ay) λr=>([[D.sl r.1 5 r.2.1,D.bool r.2.2.1]],[Cell.box 48 [V.d (D.sl false 3 r.2.2.2.1),V.d (D.int .i64 r.2.2.2.2.1),V.d (D.bool r.2.2.2.2.2.1),V.d (D.sl true 3 r.2.2.2.2.2.2)]])
abbrev S.EK:fB:=sg 103 [pP 100000 0,BH [pI,pB,pB,pB,pB]] [cB 48 [pL false 3,pI,pB,pL true 3]] (ρ:=Bool×ay×Bool×ay×Int×Bool×ay) λr=>([[D.sl r.1 5 r.2.1,D.bool r.2.2.1]],[Cell.box 48 [V.d (D.sl false 3 r.2.2.2.1),V.d (D.int .i64 r.2.2.2.2.1),V.d (D.bool r.2.2.2.2.2.1),V.d (D.sl true 3 r.2.2.2.2.2.2)]])
abbrev S.dX:fB:=sg 58 [pP 100000 0,BH [pI,pB,pB,pB,pB]] [cB 48 [pL false 3,pI,pB,pL true 3]] (ρ:=Bool×ay×Bool×ay×Int×Bool×ay) λr=>([[D.sl r.1 5 r.2.1,D.bool r.2.2.1]],[Cell.box 48 [V.d (D.sl false 3 r.2.2.2.1),V.d (D.int .i64 r.2.2.2.2.1),V.d (D.bool r.2.2.2.2.2.1),V.d (D.sl true 3 r.2.2.2.2.2.2)]])
abbrev S.mW:fB:=sg 143 [pP 100000 0] [cB 48 [pL false 3,pI,pB,pL true 3]] (ρ:=Bool×ay×ay×Int×Bool×ay) λr=>([[D.sl r.1 5 r.2.1]],[Cell.box 48 [V.d (D.sl false 3 r.2.2.1),V.d (D.int .i64 r.2.2.2.1),V.d (D.bool r.2.2.2.2.1),V.d (D.sl true 3 r.2.2.2.2.2)]])
abbrev S.yt:fB:=sg 144 [pP 100000 0] [cB 48 [pL false 3,pI,pB,pL true 3]] (ρ:=Bool×ay×ay×Int×Bool×ay) λr=>([[D.sl r.1 5 r.2.1]],[Cell.box 48 [V.d (D.sl false 3 r.2.2.1),V.d (D.int .i64 r.2.2.2.1),V.d (D.bool r.2.2.2.2.1),V.d (D.sl true 3 r.2.2.2.2.2)]])
abbrev S.qA:fB:=sg 198 [pP 100000 0] [cB 48 [pL false 3,pI,pB,pL true 3]] (ρ:=Bool×ay×Int×Bool×ay) λr=>([[D.bool r.1]],[Cell.box 48 [V.d (D.sl false 3 r.2.1),V.d (D.int .i64 r.2.2.1),V.d (D.bool r.2.2.2.1),V.d (D.sl true 3 r.2.2.2.2)]])
abbrev S.dR:fB:=sg 55 [BH [pI,pI,pS,pS,pL false 1],pL false 1] [] (ρ:=Bool×ay) λr=>([[D.sl r.1 5 r.2]],[])
abbrev S.NH:fB:=sg 142 [pP 100000 0] [cB 48 [pL false 3,pI,pB,pL true 3]] (ρ:=Bool×ay×ay×Int×Bool×ay) λr=>([[D.sl r.1 5 r.2.1]],[Cell.box 48 [V.d (D.sl false 3 r.2.2.1),V.d (D.int .i64 r.2.2.2.1),V.d (D.bool r.2.2.2.2.1),V.d (D.sl true 3 r.2.2.2.2.2)]])
abbrev S.lq:fB:=sg 199 [pP 100000 0,pI,BH [pI,pB,pB,pB,pB]] [cB 48 [pL false 3,pI,pB,pL true 3]] (ρ:=Bool×ay×ay×Int×Bool×ay) λr=>([[D.sl r.1 5 r.2.1]],[Cell.box 48 [V.d (D.sl false 3 r.2.2.1),V.d (D.int .i64 r.2.2.2.1),V.d (D.bool r.2.2.2.2.1),V.d (D.sl true 3 r.2.2.2.2.2)]])
abbrev S.Jr:fB:=sg 145 [pP 100000 0] [cB 48 [pL false 3,pI,pB,pL true 3]] (ρ:=Bool×ay×ay×Int×Bool×ay) λr=>([[D.sl r.1 5 r.2.1]],[Cell.box 48 [V.d (D.sl false 3 r.2.2.1),V.d (D.int .i64 r.2.2.2.1),V.d (D.bool r.2.2.2.2.1),V.d (D.sl true 3 r.2.2.2.2.2)]])
abbrev S.pX:=re 105 [pI]
abbrev S.kV:=re 225 [pI]
abbrev S.uG:fB:=sg 200 [pP 100000 0] [cB 48 [pL false 3,pI,pB,pL true 3]] (ρ:=Bool×ay×ay×Int×Bool×ay) λr=>([[D.sl r.1 5 r.2.1]],[Cell.box 48 [V.d (D.sl false 3 r.2.2.1),V.d (D.int .i64 r.2.2.2.1),V.d (D.bool r.2.2.2.2.1),V.d (D.sl true 3 r.2.2.2.2.2)]])
abbrev S.oN:fB:=sg 201 [pP 100000 0,pI,pB] [cB 48 [pL false 3,pI,pB,pL true 3]] (ρ:=Bool×ay×ay×Int×Bool×ay) λr=>([[D.sl r.1 5 r.2.1]],[Cell.box 48 [V.d (D.sl false 3 r.2.2.1),V.d (D.int .i64 r.2.2.2.1),V.d (D.bool r.2.2.2.2.1),V.d (D.sl true 3 r.2.2.2.2.2)]])
abbrev S.yC:fB:=sg 202 [pP 100000 0] [cB 48 [pL false 3,pI,pB,pL true 3]] (ρ:=Bool×ay×ay×Int×Bool×ay) λr=>([[D.sl r.1 5 r.2.1]],[Cell.box 48 [V.d (D.sl false 3 r.2.2.1),V.d (D.int .i64 r.2.2.2.1),V.d (D.bool r.2.2.2.2.1),V.d (D.sl true 3 r.2.2.2.2.2)]])
abbrev S.BK:fB:=sg 146 [pP 100000 0] [cB 48 [pL false 3,pI,pB,pL true 3]] (ρ:=Bool×ay×ay×Int×Bool×ay) λr=>([[D.sl r.1 5 r.2.1]],[Cell.box 48 [V.d (D.sl false 3 r.2.2.1),V.d (D.int .i64 r.2.2.2.1),V.d (D.bool r.2.2.2.2.1),V.d (D.sl true 3 r.2.2.2.2.2)]])
abbrev S.ni:fB:=sg 60 [pP 100000 0] [cB 48 [pL false 3,pI,pB,pL true 3]] (ρ:=ay×Int×Bool×ay) λr=>([],[Cell.box 48 [V.d (D.sl false 3 r.1),V.d (D.int .i64 r.2.1),V.d (D.bool r.2.2.1),V.d (D.sl true 3 r.2.2.2)]])
abbrev S.Aa:fB:=sg 95 [pP 100000 0] [cB 48 [pL false 3,pI,pB,pL true 3]] (ρ:=Bool×ay×ay×Int×Bool×ay) λr=>([[D.sl r.1 5 r.2.1]],[Cell.box 48 [V.d (D.sl false 3 r.2.2.1),V.d (D.int .i64 r.2.2.2.1),V.d (D.bool r.2.2.2.2.1),V.d (D.sl true 3 r.2.2.2.2.2)]])
abbrev S.fZ:fB:=sg 56 [pP 100000 0] [cB 48 [pL false 3,pI,pB,pL true 3]] (ρ:=Bool×ay×ay×Int×Bool×ay) λr=>([[D.sl r.1 5 r.2.1]],[Cell.box 48 [V.d (D.sl false 3 r.2.2.1),V.d (D.int .i64 r.2.2.2.1),V.d (D.bool r.2.2.2.2.1),V.d (D.sl true 3 r.2.2.2.2.2)]])
abbrev S.DL:fB:=sg 57 [pP 100000 0] [cB 48 [pL false 3,pI,pB,pL true 3]] (ρ:=Bool×ay×ay×Int×Bool×ay) λr=>([[D.sl r.1 5 r.2.1]],[Cell.box 48 [V.d (D.sl false 3 r.2.2.1),V.d (D.int .i64 r.2.2.2.1),V.d (D.bool r.2.2.2.2.1),V.d (D.sl true 3 r.2.2.2.2.2)]])
abbrev S.yu:fB:=sg 27 [pP 100000 0] [cB 48 [pL false 3,pI,pB,pL true 3]] (ρ:=Bool×ay×ay×Int×Bool×ay) λr=>([[D.sl r.1 5 r.2.1]],[Cell.box 48 [V.d (D.sl false 3 r.2.2.1),V.d (D.int .i64 r.2.2.2.1),V.d (D.bool r.2.2.2.2.1),V.d (D.sl true 3 r.2.2.2.2.2)]])
abbrev S.EL:fB:=sg 161 [pL false 5] [] (ρ:=ay×Bool) λr=>([[D.sl true 1 r.1],[D.bool r.2]],[])
abbrev S.DN:=re 106 [pL false 5]
abbrev S.DR:=rf 62 [pL false 5]
abbrev S.Ac:=rj 29 [pL false 5]
abbrev S.mG:=rn 7 [pL false 3]
abbrev S.strings_Contains:=re 162 [pS,pS]
abbrev S.jr:=re 175 [pI,pI,pI]
abbrev S.iG:=rf 125 [pS,pI]
abbrev S.rY:=re 178 [pI]
abbrev S.jd:=rf 207 [pS,pI]
abbrev S.yD:=rf 163 [pS,pI]
abbrev S.rP:=rf 208 [pS,pI,pI]
abbrev S.Ba:=rf 164 [pS,pI]
abbrev S.Bc:=rf 165 [pS,pI]
abbrev S.lG:=re 179 [pI]
abbrev S.nR:=re 219 [pI]
abbrev S.o9:=re 181 [pS]
abbrev S.slices_Index:=rf 227 [pL false 1,pS]
abbrev S.pq:=rf 209 [pS]
abbrev S.slices_Contains:=re 210 [pL false 1,pS]
abbrev S.nS:=re 167 [pS]
abbrev S.DT:=re 166 [pS]
abbrev S.sJ:=re 211 [pI]
abbrev S.zo:=re 212 [pI]
abbrev S.DU:=rh 168 [pI]
abbrev S.Ad:=re 107 [BH [pI,pS,pI]]
abbrev S.iR:=re 108 [pI]
abbrev S.Bd:=re 63 [pL false 3]
abbrev S.zq:=re 109 [pI]
abbrev S.zu:=re 110 [pI]
abbrev S.Gs:=rf 64 [pL false 3]
abbrev S.oO:=rf 35 [pL false 3,pI]
abbrev S.uS:=rj 31 [pL false 3]
abbrev S.aF:fB:=sg 66 [pP 100000 0] [cB 65 [pL false 3,pI,pB,pL true 1]] (ρ:=Int×ay×Int×Bool×ay) λr=>([[D.int .i64 r.1]],[Cell.box 65 [V.d (D.sl false 3 r.2.1),V.d (D.int .i64 r.2.2.1),V.d (D.bool r.2.2.2.1),V.d (D.sl true 1 r.2.2.2.2)]])
abbrev S.aQ:fB:=sg 65 [pP 100000 0] [cB 65 [pL false 3,pI,pB,pL true 1]] (ρ:=ay×Int×Bool×ay) λr=>([],[Cell.box 65 [V.d (D.sl false 3 r.1),V.d (D.int .i64 r.2.1),V.d (D.bool r.2.2.1),V.d (D.sl true 1 r.2.2.2)]])
abbrev S.bZ:fB:=sg 32 [pP 100000 0] [cB 65 [pL false 3,pI,pB,pL true 1]] (ρ:=ay×Int×Bool×ay) λr=>([],[Cell.box 65 [V.d (D.sl false 3 r.1),V.d (D.int .i64 r.2.1),V.d (D.bool r.2.2.1),V.d (D.sl true 1 r.2.2.2)]])
abbrev S.dU:fB:=sg 33 [pP 100000 0] [cB 65 [pL false 3,pI,pB,pL true 1]] (ρ:=Bool×ay×ay×Int×Bool×ay) λr=>([[D.sl r.1 5 r.2.1]],[Cell.box 65 [V.d (D.sl false 3 r.2.2.1),V.d (D.int .i64 r.2.2.2.1),V.d (D.bool r.2.2.2.2.1),V.d (D.sl true 1 r.2.2.2.2.2)]])
abbrev S.aP:fB:=sg 111 [pP 100000 0,pI] [cB 65 [pL false 3,pI,pB,pL true 1]] (ρ:=Bool×ay×Int×Bool×ay) λr=>([[D.bool r.1]],[Cell.box 65 [V.d (D.sl false 3 r.2.1),V.d (D.int .i64 r.2.2.1),V.d (D.bool r.2.2.2.1),V.d (D.sl true 1 r.2.2.2.2)]])
abbrev S.lN:fB:=sg 251 [pP 100000 0] [cB 65 [pL false 3,pI,pB,pL true 1]] (ρ:=Bool×ay×Int×Bool×ay) λr=>([[D.bool r.1]],[Cell.box 65 [V.d (D.sl false 3 r.2.1),V.d (D.int .i64 r.2.2.1),V.d (D.bool r.2.2.2.1),V.d (D.sl true 1 r.2.2.2.2)]])
abbrev S.iH:fB:=sg 229 [pP 100000 0,BH [pB,pB]] [cB 65 [pL false 3,pI,pB,pL true 1]] (ρ:=Bool×ay×ay×Int×Bool×ay) λr=>([[D.sl r.1 5 r.2.1]],[Cell.box 65 [V.d (D.sl false 3 r.2.2.1),V.d (D.int .i64 r.2.2.2.1),V.d (D.bool r.2.2.2.2.1),V.d (D.sl true 1 r.2.2.2.2.2)]])
abbrev S.iT:fB:=sg 214 [pP 100000 0,pI] [cB 65 [pL false 3,pI,pB,pL true 1]] (ρ:=Bool×ay×ay×Int×Bool×ay) λr=>([[D.sl r.1 5 r.2.1]],[Cell.box 65 [V.d (D.sl false 3 r.2.2.1),V.d (D.int .i64 r.2.2.2.1),V.d (D.bool r.2.2.2.2.1),V.d (D.sl true 1 r.2.2.2.2.2)]])
abbrev S.jh:fB:=sg 239 [pP 100000 0] [cB 65 [pL false 3,pI,pB,pL true 1]] (ρ:=Int×Int×aJ×aJ×Bool×ay×Bool×ay×Int×Bool×ay) λr=>([[D.int .i64 r.1,D.int .i64 r.2.1,D.str r.2.2.1,D.str r.2.2.2.1,D.sl r.2.2.2.2.1 5 r.2.2.2.2.2.1,D.bool r.2.2.2.2.2.2.1]],[Cell.box 65 [V.d (D.sl false 3 r.2.2.2.2.2.2.2.1),V.d (D.int .i64 r.2.2.2.2.2.2.2.2.1),V.d (D.bool r.2.2.2.2.2.2.2.2.2.1),V.d (D.sl true 1 r.2.2.2.2.2.2.2.2.2.2)]])
abbrev S.fC:fB:=sg 113 [pP 100000 0] [cB 65 [pL false 3,pI,pB,pL true 1]] (ρ:=aJ×ay×Int×Bool×ay) λr=>([[D.str r.1]],[Cell.box 65 [V.d (D.sl false 3 r.2.1),V.d (D.int .i64 r.2.2.1),V.d (D.bool r.2.2.2.1),V.d (D.sl true 1 r.2.2.2.2)]])
abbrev S.bI:fB:=sg 114 [pP 100000 0] [cB 65 [pL false 3,pI,pB,pL true 1]] (ρ:=aJ×ay×Int×Bool×ay) λr=>([[D.str r.1]],[Cell.box 65 [V.d (D.sl false 3 r.2.1),V.d (D.int .i64 r.2.2.1),V.d (D.bool r.2.2.2.1),V.d (D.sl true 1 r.2.2.2.2)]])
abbrev S.qQ:=re 223 [pI]
abbrev S.ny:fB:=sg 254 [pP 100000 0] [cB 65 [pL false 3,pI,pB,pL true 1]] (ρ:=Int×Int×aJ×aJ×Bool×ay×Bool×ay×Int×Bool×ay) λr=>([[D.int .i64 r.1,D.int .i64 r.2.1,D.str r.2.2.1,D.str r.2.2.2.1,D.sl r.2.2.2.2.1 5 r.2.2.2.2.2.1,D.bool r.2.2.2.2.2.2.1]],[Cell.box 65 [V.d (D.sl false 3 r.2.2.2.2.2.2.2.1),V.d (D.int .i64 r.2.2.2.2.2.2.2.2.1),V.d (D.bool r.2.2.2.2.2.2.2.2.2.1),V.d (D.sl true 1 r.2.2.2.2.2.2.2.2.2.2)]])
abbrev S.kK:fB:=sg 250 [pP 100000 0] [cB 65 [pL false 3,pI,pB,pL true 1]] (ρ:=Int×Int×aJ×aJ×Bool×ay×Bool×ay×Int×Bool×ay) λr=>([[D.int .i64 r.1,D.int .i64 r.2.1,D.str r.2.2.1,D.str r.2.2.2.1,D.sl r.2.2.2.2.1 5 r.2.2.2.2.2.1,D.bool r.2.2.2.2.2.2.1]],[Cell.box 65 [V.d (D.sl false 3 r.2.2.2.2.2.2.2.1),V.d (D.int .i64 r.2.2.2.2.2.2.2.2.1),V.d (D.bool r.2.2.2.2.2.2.2.2.2.1),V.d (D.sl true 1 r.2.2.2.2.2.2.2.2.2.2)]])
abbrev S.jg:fB:=sg 249 [pP 100000 0] [cB 65 [pL false 3,pI,pB,pL true 1]] (ρ:=Int×Int×aJ×aJ×Bool×ay×Bool×ay×Int×Bool×ay) λr=>([[D.int .i64 r.1,D.int .i64 r.2.1,D.str r.2.2.1,D.str r.2.2.2.1,D.sl r.2.2.2.2.1 5 r.2.2.2.2.2.1,D.bool r.2.2.2.2.2.2.1]],[Cell.box 65 [V.d (D.sl false 3 r.2.2.2.2.2.2.2.1),V.d (D.int .i64 r.2.2.2.2.2.2.2.2.1),V.d (D.bool r.2.2.2.2.2.2.2.2.2.1),V.d (D.sl true 1 r.2.2.2.2.2.2.2.2.2.2)]])
abbrev S.sK:fB:=sg 253 [pP 100000 0] [cB 65 [pL false 3,pI,pB,pL true 1]] (ρ:=Int×Int×aJ×aJ×Bool×ay×Bool×ay×Int×Bool×ay) λr=>([[D.int .i64 r.1,D.int .i64 r.2.1,D.str r.2.2.1,D.str r.2.2.2.1,D.sl r.2.2.2.2.1 5 r.2.2.2.2.2.1,D.bool r.2.2.2.2.2.2.1]],[Cell.box 65 [V.d (D.sl false 3 r.2.2.2.2.2.2.2.1),V.d (D.int .i64 r.2.2.2.2.2.2.2.2.1),V.d (D.bool r.2.2.2.2.2.2.2.2.2.1),V.d (D.sl true 1 r.2.2.2.2.2.2.2.2.2.2)]])
abbrev S.jX:fB:=sg 248 [pP 100000 0] [cB 65 [pL false 3,pI,pB,pL true 1]] (ρ:=Int×Int×aJ×aJ×Bool×ay×Bool×ay×Int×Bool×ay) λr=>([[D.int .i64 r.1,D.int .i64 r.2.1,D.str r.2.2.1,D.str r.2.2.2.1,D.sl r.2.2.2.2.1 5 r.2.2.2.2.2.1,D.bool r.2.2.2.2.2.2.1]],[Cell.box 65 [V.d (D.sl false 3 r.2.2.2.2.2.2.2.1),V.d (D.int .i64 r.2.2.2.2.2.2.2.2.1),V.d (D.bool r.2.2.2.2.2.2.2.2.2.1),V.d (D.sl true 1 r.2.2.2.2.2.2.2.2.2.2)]])
abbrev S.oz:fB:=sg 247 [pP 100000 0] [cB 65 [pL false 3,pI,pB,pL true 1]] (ρ:=Int×Int×aJ×aJ×Bool×ay×Bool×ay×Int×Bool×ay) λr=>([[D.int .i64 r.1,D.int .i64 r.2.1,D.str r.2.2.1,D.str r.2.2.2.1,D.sl r.2.2.2.2.1 5 r.2.2.2.2.2.1,D.bool r.2.2.2.2.2.2.1]],[Cell.box 65 [V.d (D.sl false 3 r.2.2.2.2.2.2.2.1),V.d (D.int .i64 r.2.2.2.2.2.2.2.2.1),V.d (D.bool r.2.2.2.2.2.2.2.2.2.1),V.d (D.sl true 1 r.2.2.2.2.2.2.2.2.2.2)]])
abbrev S.lM:fB:=sg 217 [pI,BH [pI,pI,pS,pS,pL false 5,pB],BH [pI,pI,pS,pS,pL false 5,pB]] [] (ρ:=Int×Int×aJ×aJ×Bool×ay×Bool) λr=>([[D.int .i64 r.1,D.int .i64 r.2.1,D.str r.2.2.1,D.str r.2.2.2.1,D.sl r.2.2.2.2.1 5 r.2.2.2.2.2.1,D.bool r.2.2.2.2.2.2]],[])
abbrev S.pY:fB:=sg 246 [pP 100000 0,BH [pB,pB]] [cB 65 [pL false 3,pI,pB,pL true 1]] (ρ:=Int×Int×aJ×aJ×Bool×ay×Bool×ay×Int×Bool×ay) λr=>([[D.int .i64 r.1,D.int .i64 r.2.1,D.str r.2.2.1,D.str r.2.2.2.1,D.sl r.2.2.2.2.1 5 r.2.2.2.2.2.1,D.bool r.2.2.2.2.2.2.1]],[Cell.box 65 [V.d (D.sl false 3 r.2.2.2.2.2.2.2.1),V.d (D.int .i64 r.2.2.2.2.2.2.2.2.1),V.d (D.bool r.2.2.2.2.2.2.2.2.2.1),V.d (D.sl true 1 r.2.2.2.2.2.2.2.2.2.2)]])
abbrev S.jy:fB:=sg 245 [pP 100000 0,BH [pB,pB]] [cB 65 [pL false 3,pI,pB,pL true 1]] (ρ:=Int×Int×aJ×aJ×Bool×ay×Bool×ay×Int×Bool×ay) λr=>([[D.int .i64 r.1,D.int .i64 r.2.1,D.str r.2.2.1,D.str r.2.2.2.1,D.sl r.2.2.2.2.1 5 r.2.2.2.2.2.1,D.bool r.2.2.2.2.2.2.1]],[Cell.box 65 [V.d (D.sl false 3 r.2.2.2.2.2.2.2.1),V.d (D.int .i64 r.2.2.2.2.2.2.2.2.1),V.d (D.bool r.2.2.2.2.2.2.2.2.2.1),V.d (D.sl true 1 r.2.2.2.2.2.2.2.2.2.2)]])
abbrev S.rZ:=rf 224 [pI]
abbrev S.nT:fB:=sg 244 [pP 100000 0,BH [pB,pB]] [cB 65 [pL false 3,pI,pB,pL true 1]] (ρ:=Int×Int×aJ×aJ×Bool×ay×Bool×ay×Int×Bool×ay) λr=>([[D.int .i64 r.1,D.int .i64 r.2.1,D.str r.2.2.1,D.str r.2.2.2.1,D.sl r.2.2.2.2.1 5 r.2.2.2.2.2.1,D.bool r.2.2.2.2.2.2.1]],[Cell.box 65 [V.d (D.sl false 3 r.2.2.2.2.2.2.2.1),V.d (D.int .i64 r.2.2.2.2.2.2.2.2.1),V.d (D.bool r.2.2.2.2.2.2.2.2.2.1),V.d (D.sl true 1 r.2.2.2.2.2.2.2.2.2.2)]])
abbrev S.jF:fB:=sg 243 [pP 100000 0,BH [pB,pB]] [cB 65 [pL false 3,pI,pB,pL true 1]] (ρ:=Int×Int×aJ×aJ×Bool×ay×Bool×ay×Int×Bool×ay) λr=>([[D.int .i64 r.1,D.int .i64 r.2.1,D.str r.2.2.1,D.str r.2.2.2.1,D.sl r.2.2.2.2.1 5 r.2.2.2.2.2.1,D.bool r.2.2.2.2.2.2.1]],[Cell.box 65 [V.d (D.sl false 3 r.2.2.2.2.2.2.2.1),V.d (D.int .i64 r.2.2.2.2.2.2.2.2.1),V.d (D.bool r.2.2.2.2.2.2.2.2.2.1),V.d (D.sl true 1 r.2.2.2.2.2.2.2.2.2.2)]])
abbrev S.lH:=re 238 [pI]
abbrev S.qg:fB:=sg 242 [pP 100000 0,BH [pB,pB]] [cB 65 [pL false 3,pI,pB,pL true 1]] (ρ:=Int×Int×aJ×aJ×Bool×ay×Bool×ay×Int×Bool×ay) λr=>([[D.int .i64 r.1,D.int .i64 r.2.1,D.str r.2.2.1,D.str r.2.2.2.1,D.sl r.2.2.2.2.1 5 r.2.2.2.2.2.1,D.bool r.2.2.2.2.2.2.1]],[Cell.box 65 [V.d (D.sl false 3 r.2.2.2.2.2.2.2.1),V.d (D.int .i64 r.2.2.2.2.2.2.2.2.1),V.d (D.bool r.2.2.2.2.2.2.2.2.2.1),V.d (D.sl true 1 r.2.2.2.2.2.2.2.2.2.2)]])
abbrev S.kL:fB:=sg 241 [pP 100000 0,BH [pB,pB]] [cB 65 [pL false 3,pI,pB,pL true 1]] (ρ:=Int×Int×aJ×aJ×Bool×ay×Bool×ay×Int×Bool×ay) λr=>([[D.int .i64 r.1,D.int .i64 r.2.1,D.str r.2.2.1,D.str r.2.2.2.1,D.sl r.2.2.2.2.1 5 r.2.2.2.2.2.1,D.bool r.2.2.2.2.2.2.1]],[Cell.box 65 [V.d (D.sl false 3 r.2.2.2.2.2.2.2.1),V.d (D.int .i64 r.2.2.2.2.2.2.2.2.1),V.d (D.bool r.2.2.2.2.2.2.2.2.2.1),V.d (D.sl true 1 r.2.2.2.2.2.2.2.2.2.2)]])
abbrev S.lu:fB:=sg 240 [pP 100000 0,BH [pB,pB]] [cB 65 [pL false 3,pI,pB,pL true 1]] (ρ:=Int×Int×aJ×aJ×Bool×ay×Bool×ay×Int×Bool×ay) λr=>([[D.int .i64 r.1,D.int .i64 r.2.1,D.str r.2.2.1,D.str r.2.2.2.1,D.sl r.2.2.2.2.1 5 r.2.2.2.2.2.1,D.bool r.2.2.2.2.2.2.1]],[Cell.box 65 [V.d (D.sl false 3 r.2.2.2.2.2.2.2.1),V.d (D.int .i64 r.2.2.2.2.2.2.2.2.1),V.d (D.bool r.2.2.2.2.2.2.2.2.2.1),V.d (D.sl true 1 r.2.2.2.2.2.2.2.2.2.2)]])
abbrev S.pz:fB:=sg 231 [pP 100000 0,BH [pB,pB]] [cB 65 [pL false 3,pI,pB,pL true 1]] (ρ:=Int×Int×aJ×aJ×Bool×ay×Bool×ay×Int×Bool×ay) λr=>([[D.int .i64 r.1,D.int .i64 r.2.1,D.str r.2.2.1,D.str r.2.2.2.1,D.sl r.2.2.2.2.1 5 r.2.2.2.2.2.1,D.bool r.2.2.2.2.2.2.1]],[Cell.box 65 [V.d (D.sl false 3 r.2.2.2.2.2.2.2.1),V.d (D.int .i64 r.2.2.2.2.2.2.2.2.1),V.d (D.bool r.2.2.2.2.2.2.2.2.2.1),V.d (D.sl true 1 r.2.2.2.2.2.2.2.2.2.2)]])
abbrev S.nU:fB:=sg 216 [pP 100000 0,BH [pB,pB]] [cB 65 [pL false 3,pI,pB,pL true 1]] (ρ:=Int×Int×aJ×aJ×Bool×ay×Bool×ay×Int×Bool×ay) λr=>([[D.int .i64 r.1,D.int .i64 r.2.1,D.str r.2.2.1,D.str r.2.2.2.1,D.sl r.2.2.2.2.1 5 r.2.2.2.2.2.1,D.bool r.2.2.2.2.2.2.1]],[Cell.box 65 [V.d (D.sl false 3 r.2.2.2.2.2.2.2.1),V.d (D.int .i64 r.2.2.2.2.2.2.2.2.1),V.d (D.bool r.2.2.2.2.2.2.2.2.2.1),V.d (D.sl true 1 r.2.2.2.2.2.2.2.2.2.2)]])
abbrev S.rQ:fB:=sg 174 [pP 100000 0,BH [pB,pB]] [cB 65 [pL false 3,pI,pB,pL true 1]] (ρ:=Int×Int×aJ×aJ×Bool×ay×Bool×ay×Int×Bool×ay) λr=>([[D.int .i64 r.1,D.int .i64 r.2.1,D.str r.2.2.1,D.str r.2.2.2.1,D.sl r.2.2.2.2.1 5 r.2.2.2.2.2.1,D.bool r.2.2.2.2.2.2.1]],[Cell.box 65 [V.d (D.sl false 3 r.2.2.2.2.2.2.2.1),V.d (D.int .i64 r.2.2.2.2.2.2.2.2.1),V.d (D.bool r.2.2.2.2.2.2.2.2.2.1),V.d (D.sl true 1 r.2.2.2.2.2.2.2.2.2.2)]])
abbrev S.mJ:fB:=sg 115 [pP 100000 0,BH [pB,pB]] [cB 65 [pL false 3,pI,pB,pL true 1]] (ρ:=Int×Int×aJ×aJ×Bool×ay×Bool×ay×Int×Bool×ay) λr=>([[D.int .i64 r.1,D.int .i64 r.2.1,D.str r.2.2.1,D.str r.2.2.2.1,D.sl r.2.2.2.2.1 5 r.2.2.2.2.2.1,D.bool r.2.2.2.2.2.2.1]],[Cell.box 65 [V.d (D.sl false 3 r.2.2.2.2.2.2.2.1),V.d (D.int .i64 r.2.2.2.2.2.2.2.2.1),V.d (D.bool r.2.2.2.2.2.2.2.2.2.1),V.d (D.sl true 1 r.2.2.2.2.2.2.2.2.2.2)]])
abbrev S.Bf:=re 116 [pI]
abbrev S.bY:fB:=sg 69 [pP 100000 0,BH [pB,pB]] [cB 65 [pL false 3,pI,pB,pL true 1]] (ρ:=Int×Int×aJ×aJ×Bool×ay×Bool×ay×Int×Bool×ay) λr=>([[D.int .i64 r.1,D.int .i64 r.2.1,D.str r.2.2.1,D.str r.2.2.2.1,D.sl r.2.2.2.2.1 5 r.2.2.2.2.2.1,D.bool r.2.2.2.2.2.2.1]],[Cell.box 65 [V.d (D.sl false 3 r.2.2.2.2.2.2.2.1),V.d (D.int .i64 r.2.2.2.2.2.2.2.2.1),V.d (D.bool r.2.2.2.2.2.2.2.2.2.1),V.d (D.sl true 1 r.2.2.2.2.2.2.2.2.2.2)]])
abbrev S.gV:fB:=sg 171 [pP 100000 0] [cB 65 [pL false 3,pI,pB,pL true 1]] (ρ:=Int×Int×aJ×aJ×Bool×ay×ay×Int×Bool×ay) λr=>([[D.int .i64 r.1,D.int .i64 r.2.1,D.str r.2.2.1,D.str r.2.2.2.1,D.sl r.2.2.2.2.1 5 r.2.2.2.2.2.1]],[Cell.box 65 [V.d (D.sl false 3 r.2.2.2.2.2.2.1),V.d (D.int .i64 r.2.2.2.2.2.2.2.1),V.d (D.bool r.2.2.2.2.2.2.2.2.1),V.d (D.sl true 1 r.2.2.2.2.2.2.2.2.2)]])
abbrev S.qB:fB:=sg 172 [pP 100000 0] [cB 65 [pL false 3,pI,pB,pL true 1]] (ρ:=Int×Int×aJ×aJ×Bool×ay×ay×Int×Bool×ay) λr=>([[D.int .i64 r.1,D.int .i64 r.2.1,D.str r.2.2.1,D.str r.2.2.2.1,D.sl r.2.2.2.2.1 5 r.2.2.2.2.2.1]],[Cell.box 65 [V.d (D.sl false 3 r.2.2.2.2.2.2.1),V.d (D.int .i64 r.2.2.2.2.2.2.2.1),V.d (D.bool r.2.2.2.2.2.2.2.2.1),V.d (D.sl true 1 r.2.2.2.2.2.2.2.2.2)]])
abbrev S.sN:fB:=sg 170 [pP 100000 0] [cB 65 [pL false 3,pI,pB,pL true 1]] (ρ:=Int×Int×aJ×aJ×Bool×ay×ay×Int×Bool×ay) λr=>([[D.int .i64 r.1,D.int .i64 r.2.1,D.str r.2.2.1,D.str r.2.2.2.1,D.sl r.2.2.2.2.1 5 r.2.2.2.2.2.1]],[Cell.box 65 [V.d (D.sl false 3 r.2.2.2.2.2.2.1),V.d (D.int .i64 r.2.2.2.2.2.2.2.1),V.d (D.bool r.2.2.2.2.2.2.2.2.1),V.d (D.sl true 1 r.2.2.2.2.2.2.2.2.2)]])
abbrev S.kM:=re 117 [pI]
abbrev S.iU:fB:=sg 70 [pP 100000 0] [cB 65 [pL false 3,pI,pB,pL true 1]] (ρ:=ay×Int×Bool×ay) λr=>([],[Cell.box 65 [V.d (D.sl false 3 r.1),V.d (D.int .i64 r.2.1),V.d (D.bool r.2.2.1),V.d (D.sl true 1 r.2.2.2)]])
abbrev S.eY:fB:=sg 215 [pP 100000 0,pI,BH [pB,pB]] [cB 65 [pL false 3,pI,pB,pL true 1]] (ρ:=Int×Int×aJ×aJ×Bool×ay×ay×Int×Bool×ay) λr=>([[D.int .i64 r.1,D.int .i64 r.2.1,D.str r.2.2.1,D.str r.2.2.2.1,D.sl r.2.2.2.2.1 5 r.2.2.2.2.2.1]],[Cell.box 65 [V.d (D.sl false 3 r.2.2.2.2.2.2.1),V.d (D.int .i64 r.2.2.2.2.2.2.2.1),V.d (D.bool r.2.2.2.2.2.2.2.2.1),V.d (D.sl true 1 r.2.2.2.2.2.2.2.2.2)]])
abbrev S.wY:fB:=sg 173 [pP 100000 0] [cB 65 [pL false 3,pI,pB,pL true 1]] (ρ:=Int×Int×aJ×aJ×Bool×ay×ay×Int×Bool×ay) λr=>([[D.int .i64 r.1,D.int .i64 r.2.1,D.str r.2.2.1,D.str r.2.2.2.1,D.sl r.2.2.2.2.1 5 r.2.2.2.2.2.1]],[Cell.box 65 [V.d (D.sl false 3 r.2.2.2.2.2.2.1),V.d (D.int .i64 r.2.2.2.2.2.2.2.1),V.d (D.bool r.2.2.2.2.2.2.2.2.1),V.d (D.sl true 1 r.2.2.2.2.2.2.2.2.2)]])
abbrev S.EM:=re 228 [pI]
abbrev S.jT:fB:=sg 230 [pP 100000 0,BH [pI,pB,pB,pB,pB]] [cB 65 [pL false 3,pI,pB,pL true 1]] (ρ:=Int×Int×aJ×aJ×Bool×ay×Bool×ay×Int×Bool×ay) λr=>([[D.int .i64 r.1,D.int .i64 r.2.1,D.str r.2.2.1,D.str r.2.2.2.1,D.sl r.2.2.2.2.1 5 r.2.2.2.2.2.1,D.bool r.2.2.2.2.2.2.1]],[Cell.box 65 [V.d (D.sl false 3 r.2.2.2.2.2.2.2.1),V.d (D.int .i64 r.2.2.2.2.2.2.2.2.1),V.d (D.bool r.2.2.2.2.2.2.2.2.2.1),V.d (D.sl true 1 r.2.2.2.2.2.2.2.2.2.2)]])
abbrev S.mX:fB:=sg 213 [pP 100000 0,pI] [cB 65 [pL false 3,pI,pB,pL true 1]] (ρ:=Int×Int×aJ×aJ×Bool×ay×ay×Int×Bool×ay) λr=>([[D.int .i64 r.1,D.int .i64 r.2.1,D.str r.2.2.1,D.str r.2.2.2.1,D.sl r.2.2.2.2.1 5 r.2.2.2.2.2.1]],[Cell.box 65 [V.d (D.sl false 3 r.2.2.2.2.2.2.1),V.d (D.int .i64 r.2.2.2.2.2.2.2.1),V.d (D.bool r.2.2.2.2.2.2.2.2.1),V.d (D.sl true 1 r.2.2.2.2.2.2.2.2.2)]])
abbrev S.lI:fB:=sg 169 [pP 100000 0] [cB 65 [pL false 3,pI,pB,pL true 1]] (ρ:=Int×Int×aJ×aJ×Bool×ay×ay×Int×Bool×ay) λr=>([[D.int .i64 r.1,D.int .i64 r.2.1,D.str r.2.2.1,D.str r.2.2.2.1,D.sl r.2.2.2.2.1 5 r.2.2.2.2.2.1]],[Cell.box 65 [V.d (D.sl false 3 r.2.2.2.2.2.2.1),V.d (D.int .i64 r.2.2.2.2.2.2.2.1),V.d (D.bool r.2.2.2.2.2.2.2.2.1),V.d (D.sl true 1 r.2.2.2.2.2.2.2.2.2)]])
abbrev S.kE:fB:=sg 112 [pP 100000 0] [cB 65 [pL false 3,pI,pB,pL true 1]] (ρ:=Int×Int×aJ×aJ×Bool×ay×ay×Int×Bool×ay) λr=>([[D.int .i64 r.1,D.int .i64 r.2.1,D.str r.2.2.1,D.str r.2.2.2.1,D.sl r.2.2.2.2.1 5 r.2.2.2.2.2.1]],[Cell.box 65 [V.d (D.sl false 3 r.2.2.2.2.2.2.1),V.d (D.int .i64 r.2.2.2.2.2.2.2.1),V.d (D.bool r.2.2.2.2.2.2.2.2.1),V.d (D.sl true 1 r.2.2.2.2.2.2.2.2.2)]])
abbrev S.dA:fB:=sg 67 [pP 100000 0] [cB 65 [pL false 3,pI,pB,pL true 1]] (ρ:=Int×Int×aJ×aJ×Bool×ay×ay×Int×Bool×ay) λr=>([[D.int .i64 r.1,D.int .i64 r.2.1,D.str r.2.2.1,D.str r.2.2.2.1,D.sl r.2.2.2.2.1 5 r.2.2.2.2.2.1]],[Cell.box 65 [V.d (D.sl false 3 r.2.2.2.2.2.2.1),V.d (D.int .i64 r.2.2.2.2.2.2.2.1),V.d (D.bool r.2.2.2.2.2.2.2.2.1),V.d (D.sl true 1 r.2.2.2.2.2.2.2.2.2)]])
abbrev S.nC:fB:=sg 68 [pP 100000 0] [cB 65 [pL false 3,pI,pB,pL true 1]] (ρ:=Int×Int×aJ×aJ×Bool×ay×ay×Int×Bool×ay) λr=>([[D.int .i64 r.1,D.int .i64 r.2.1,D.str r.2.2.1,D.str r.2.2.2.1,D.sl r.2.2.2.2.1 5 r.2.2.2.2.2.1]],[Cell.box 65 [V.d (D.sl false 3 r.2.2.2.2.2.2.1),V.d (D.int .i64 r.2.2.2.2.2.2.2.1),V.d (D.bool r.2.2.2.2.2.2.2.2.1),V.d (D.sl true 1 r.2.2.2.2.2.2.2.2.2)]])
abbrev S.kW:fB:=sg 34 [pP 100000 0] [cB 65 [pL false 3,pI,pB,pL true 1]] (ρ:=Int×Int×aJ×aJ×Bool×ay×ay×Int×Bool×ay) λr=>([[D.int .i64 r.1,D.int .i64 r.2.1,D.str r.2.2.1,D.str r.2.2.2.1,D.sl r.2.2.2.2.1 5 r.2.2.2.2.2.1]],[Cell.box 65 [V.d (D.sl false 3 r.2.2.2.2.2.2.1),V.d (D.int .i64 r.2.2.2.2.2.2.2.1),V.d (D.bool r.2.2.2.2.2.2.2.2.1),V.d (D.sl true 1 r.2.2.2.2.2.2.2.2.2)]])
abbrev S.nV:=rf 71 [BH [pI,pI,pS,pS,pL false 5]]
abbrev S.lZ:=rf 72 [BH [pI,pI,pS,pS,pL false 5]]
abbrev S.uT:=rj 36 [BH [pI,pI,pS,pS,pL false 5]]
abbrev S.qh:=rl 73 [BH [pI,pI,pS,pS,pL false 5],pL true 5]
abbrev S.pF:=rl 37 [BH [pI,pI,pS,pS,pL false 5]]
abbrev S.jR:=rp 9 [pL false 3]
abbrev S.Gt:=re 74 [pL false 1,pL false 1]
abbrev S.Gu:=re 38 [BH [pI,pI,pS,pS,pL false 1],BH [pI,pI,pS,pS,pL false 1]]
abbrev S.Ae:=re 10 [pL false 5,pL false 5]
abbrev S.Af:=re 11 [BH [pI,pI],BH [pI,pI]]
abbrev S.mY:=rh 40 [pI]
abbrev S.Bg:fB:=sg 41 [pO 100000 0,pI] [cA false true 0 1] (ρ:=Int×ay) λr=>([[D.int .i64 r.1]],[Cell.arr false true 0 1 r.2])
abbrev S.yE:fB:=sg 14 [pO 100000 0,pI] [cA false false 0 5] (ρ:=Int×ay) λr=>([[D.int .i64 r.1]],[Cell.arr false false 0 5 r.2])
abbrev S.Bh:=rf 42 [pL false 1,pI]
abbrev S.uU:=rf 15 [pL false 5,pI]
def M.DV(s':aJ)(s:Int)(kn:Int->Option R)(ke:(Unit)⊕(Int)->Option R):Option R:=match s with
 |i=>bif decide (i<(↑s'.length:Int)) then((idx s' i).bind λa=>bif(↑a.toNat:Int)==10 then(ke (.inl ())) else kn (i64.wrap (i+1))) else ke (.inr i)
def M.DW s' s:=M.DV s' s (λs=>some (Sum.inl s)) λt=>some (Sum.inr t)
def M.L9 s' s:=fQ (M.DW s') s
def F.L9:LE X0 88:=le 2 (Iw [dH 0 pS,dH 3 pI] []) (λx=>x.1.2.1) (λx s=>((x.1.1,s,()),())) (λx=> .sum (.leaf (Unit) (λt=>(Ex.ret,⟨[(2,lD false)],[]⟩))) (.leaf (Int) (λt=>(Ex.exit 0,⟨[(0,qY x.1.1),(3,iP t),(7,lD false)],[]⟩)))) (λx=>M.DV x.1.1) [] [] (by rintro _ _ _ _ _<;>simp only[M.DV,nb]<;>rfl)
abbrev M.Oo(s':aJ)(k:Bool->Option R):=(M.L9 s' 0).bind λb=>iO b (λd=>k false) λa=>letE a λc=>k true
def M.DI s':=M.Oo s' some
def C.DI:=fTa S.DI (λx=>M.Oo x.1.1) [] [F.L9]
abbrev M.QB(s':aJ)(at':Int)(k:Int->Option R):=bif decide (at'<0) then(k (-1)) else bif decide (at'>=(↑s'.length:Int)) then(k (-1)) else (idx s' at').bind λa=>k (i64.wrap (↑a.toNat:Int))
def M.fO s' at':=M.QB s' at' some
def C.fO:=fTa S.fO (λx=>M.QB x.1.1 x.1.2.1)
abbrev M.DX(x' low high:Int)(k:Bool->Option R):=bif decide (x'>=low) then(k (decide (x'<=high))) else k false
def M.kG x' low high:=M.DX x' low high some
def C.kG:=fTa S.kG (λx=>M.DX x.1.1 x.1.2.1 x.1.2.2.1)
abbrev M.Oq(b:Int)(k:Bool->Option R):=(M.kG b 48 57).bind λa=>k a
def M.rX b:=M.Oq b some
def C.rX:=fTa S.rX (λx=>M.Oq x.1.1) [fe C.kG]
def M.GU(s':aJ)(s:Int)(kn:Int->Option R)(ke:Int->Option R):Option R:=match s with
 |at'=>(M.fO s' at').bind λb=>(M.rX b).bind λa=>bif a then(kn (i64.wrap (at'+1))) else ke at'
def M.Ue s' s:=M.GU s' s (λs=>some (Sum.inl s)) λt=>some (Sum.inr t)
def M.J7 s' s:=fQ (M.Ue s') s
def F.J7:LE X0 134:=le 1 (Iw [dH 0 pS,dH 1 pI] []) (λx=>x.1.2.1) (λx s=>((x.1.1,s,()),())) (λx=> .leaf (Int) (λt=>(Ex.exit 0,⟨[(0,qY x.1.1),(1,iP t),(8,lD false)],[]⟩))) (λx=>M.GU x.1.1) [fe C.fO,fe C.rX] [] (by rintro _ _ _ _ _<;>simp only[M.GU,nb]<;>rfl)
abbrev M.Mc(s':aJ)(at':Int)(k:Int->Option R):=(M.J7 s' at').bind λa=>k a
def M.fH s' at':=M.Mc s' at' some
def C.fH:=fTa S.fH (λx=>M.Mc x.1.1 x.1.2.1) [] [F.J7]
abbrev M.yF(s':aJ)(r41:Int)(k:Int->Option R):=(M.fO s' (i64.wrap (r41+1))).bind λb=>bif b==43 then((M.fH s' (i64.wrap (i64.wrap (r41+1)+1))).bind λd=>bif decide (d>i64.wrap (i64.wrap (r41+1)+1)) then((M.fH s' (i64.wrap (i64.wrap (r41+1)+1))).bind λc=>k c) else k r41) else (M.fO s' (i64.wrap (r41+1))).bind λe=>bif e==45 then((M.fH s' (i64.wrap (i64.wrap (r41+1)+1))).bind λa=>bif decide (a>i64.wrap (i64.wrap (r41+1)+1)) then((M.fH s' (i64.wrap (i64.wrap (r41+1)+1))).bind λh=>k h) else k r41) else (M.fH s' (i64.wrap (r41+1))).bind λf=>bif decide (f>i64.wrap (r41+1)) then((M.fH s' (i64.wrap (r41+1))).bind λg=>k g) else k r41
def M.QC(s':aJ)(at':Int)(k:Int->Option R):=bif decide (at'<0) then(k (-1)) else (M.fH s' at').bind λb=>(M.fO s' b).bind λf=>bif f==46 then((M.fH s' (i64.wrap (b+1))).bind λa=>bif b==at' then(bif a==i64.wrap (b+1) then(k (-1)) else bif a==at' then(k (-1)) else (M.fO s' a).bind λc=>bif c==101 then(M.yF s' a k) else (M.fO s' a).bind λg=>bif g==69 then(M.yF s' a k) else k a) else bif a==at' then(k (-1)) else (M.fO s' a).bind λh=>bif h==101 then(M.yF s' a k) else (M.fO s' a).bind λd=>bif d==69 then(M.yF s' a k) else k a) else bif b==at' then(k (-1)) else (M.fO s' b).bind λe=>bif e==101 then(M.yF s' b k) else (M.fO s' b).bind λi=>bif i==69 then(M.yF s' b k) else k b
def M.yB s' at':=M.QC s' at' some
def C.yB:S.yB.ok X0 λx=>M.yB x.1.1 x.1.2.1:=fnS (λx=>M.QC x.1.1 x.1.2.1) [fe C.fH,fe C.fO] [] (by intros;unfold M.QC M.yF;repeat' first|(with_reducible first|apply dn|apply uM|apply uN|apply uO|apply uP)|intro _|apply dn|rfl)
def M.wZ(s':aJ)(sign s:Int)(kn:Int->Option R)(ke:(Int)⊕(Int)->Option R):Option R:=match s with
 |i=>bif decide (i<(↑s'.length:Int)) then((idx s' i).bind λa=>bif i64.wrap (↑a.toNat:Int)==sign then(ke (.inl (i64.wrap (i+1)))) else bif i64.wrap (↑a.toNat:Int)==10 then(ke (.inl (-1))) else bif i64.wrap (↑a.toNat:Int)==92 then((M.fO s' (i64.wrap (i+1))).bind λb=>bif b==10 then(ke (.inl (-1))) else kn (i64.wrap (i64.wrap (i+1)+1))) else kn (i64.wrap (i+1))) else ke (.inr i)
def M.BL s' sign s:=M.wZ s' sign s (λs=>some (Sum.inl s)) λt=>some (Sum.inr t)
def M.xg s' sign s:=fQ (M.BL s' sign) s
def F.xg:LE X0 135:=le 4 (Iw [dH 0 pS,dH 2 pI,dH 7 pI] []) (λx=>x.1.2.2.1) (λx s=>((x.1.1,x.1.2.1,s,()),())) (λx=> .sum (.leaf (Int) (λt=>(Ex.ret,⟨[(6,iP t)],[]⟩))) (.leaf (Int) (λt=>(Ex.exit 0,⟨[(0,qY x.1.1),(2,iP x.1.2.1),(7,iP t),(18,lD false)],[]⟩)))) (λx=>M.wZ x.1.1 x.1.2.1) [fe C.fO] [] (by rintro _ _ _ _ _<;>simp only[M.wZ,nb]<;>rfl)
abbrev M.Md(s':aJ)(at' sign:Int)(k:Int->Option R):=(M.fO s' at').bind λd=>bif d !=sign then(k (-1)) else (M.xg s' sign (i64.wrap (at'+1))).bind λc=>iO c (λa=>k a) λb=>letE b λe=>k (-1)
def M.uF s' at' sign:=M.Md s' at' sign some
def C.uF:=fTa S.uF (λx=>M.Md x.1.1 x.1.2.1 x.1.2.2.1) [fe C.fO] [F.xg]
abbrev M.QD(s':aJ)(at':Int)(k:Int->Option R):=(M.uF s' at' 34).bind λa=>k a
def M.Aw s' at':=M.QD s' at' some
def C.Aw:=fTa S.Aw (λx=>M.QD x.1.1 x.1.2.1) [fe C.uF]
abbrev M.QE(s':aJ)(at':Int)(k:Int->Option R):=(M.uF s' at' 47).bind λa=>bif a==i64.wrap (at'+2) then(k (-1)) else k a
def M.Az s' at':=M.QE s' at' some
def C.Az:=fTa S.Az (λx=>M.QE x.1.1 x.1.2.1) [fe C.uF]
abbrev M.Me(b:Int)(k:Bool->Option R):=(M.kG b 97 122).bind λc=>bif c then(k true) else (M.kG b 65 90).bind λa=>bif a then(k true) else k (b==95)
def M.lF b:=M.Me b some
def C.lF:=fTa S.lF (λx=>M.Me x.1.1) [fe C.kG]
abbrev M.IK(b:Int)(k:Bool->Option R):=(M.lF b).bind λa=>bif a then(k true) else (M.rX b).bind λc=>k c
def M.nO b:=M.IK b some
def C.nO:=fTa S.nO (λx=>M.IK x.1.1) [fe C.lF,fe C.rX]
def M.zG(s':aJ)(s:Int)(kn:Int->Option R)(ke:(Unit)⊕(Int)->Option R):Option R:=match s with
 |i=>bif decide (i<(↑s'.length:Int)) then((idx s' i).bind λa=>(M.nO (i64.wrap (↑a.toNat:Int))).bind λb=>bif !b then(ke (.inl ())) else kn (i64.wrap (i+1))) else ke (.inr i)
def M.EY s' s:=M.zG s' s (λs=>some (Sum.inl s)) λt=>some (Sum.inr t)
def M.IL s' s:=fQ (M.EY s') s
def F.IL:LE X0 122:=le 2 (Iw [dH 0 pS,dH 3 pI] []) (λx=>x.1.2.1) (λx s=>((x.1.1,s,()),())) (λx=> .sum (.leaf (Unit) (λt=>(Ex.ret,⟨[(2,lD false)],[]⟩))) (.leaf (Int) (λt=>(Ex.exit 0,⟨[(0,qY x.1.1),(3,iP t),(7,lD false)],[]⟩)))) (λx=>M.zG x.1.1) [fe C.nO] [] (by rintro _ _ _ _ _<;>simp only[M.zG,nb]<;>rfl)
abbrev M.J8(s':aJ)(k:Bool->Option R):=(M.IL s' 0).bind λa=>iO a (λf=>k false) λe=>letE e λg=>(M.kG ((↑s'.length:Int)) 1 12).bind λc=>bif c then((idx s' 0).bind λb=>(M.lF (i64.wrap (↑b.toNat:Int))).bind λd=>k d) else k false
def M.o7 s':=M.J8 s' some
def C.o7:=fTa S.o7 (λx=>M.J8 x.1.1) [fe C.kG,fe C.lF] [F.IL]
abbrev M.Uf(k:ay->Option R):=k ([[D.str [66,69,71,73,78]],[D.str [69,78,68]],[D.str [102,117,110,99,116,105,111,110]],[D.str [105,102]],[D.str [101,108,115,101]],[D.str [119,104,105,108,101]],[D.str [102,111,114]],[D.str [100,111]],[D.str [98,114,101,97,107]],[D.str [99,111,110,116,105,110,117,101]],[D.str [110,101,120,116]],[D.str [101,120,105,116]],[D.str [114,101,116,117,114,110]],[D.str [100,101,108,101,116,101]],[D.str [105,110]],[D.str [112,114,105,110,116]],[D.str [112,114,105,110,116,102]]])
def M.zX:Option (ay):=M.Uf some
def C.zX:=fTa S.zX (λx=>M.Uf)
def M.FC(l:ay)(s':aJ)(s:Int)(kn:Int->Option R)(ke:(Int)⊕(Int)->Option R):Option R:=match s with
 |i=>bif decide (i<(↑l.length:Int)) then((idx l i).bind λa=>(cStr a 0).bind λb=>bif b==s' then(ke (.inl i)) else kn (i64.wrap (i+1))) else ke (.inr i)
def M.J9 l s' s:=M.FC l s' s (λs=>some (Sum.inl s)) λt=>some (Sum.inr t)
def M.Ot l s' s:=fQ (M.J9 l s') s
def F.Ot:LE X0 137:=le 2 (Iw [dH 0 (pL false 1),dH 1 pS,dH 5 pI] []) (λx=>x.1.2.2.1) (λx s=>((x.1.1,x.1.2.1,s,()),())) (λx=> .sum (.leaf (Int) (λt=>(Ex.ret,⟨[(4,iP t)],[]⟩))) (.leaf (Int) (λt=>(Ex.exit 0,⟨[(0,Gm 1 x.1.1),(1,qY x.1.2.1),(5,iP t),(9,lD false)],[]⟩)))) (λx=>M.FC x.1.1 x.1.2.1) [] [] (by rintro _ _ _ _ _<;>simp only[M.FC,nb]<;>rfl)
abbrev M.QF(l:ay)(s':aJ)(k:Int->Option R):=(M.Ot l s' 0).bind λa=>iO a (λc=>k c) λb=>letE b λd=>k (-1)
def M.AA l s':=M.QF l s' some
def C.AA:=fTa S.AA (λx=>M.QF x.1.1 x.1.2.1) [] [F.Ot]
abbrev M.Ko(s':aJ)(k:Int->Option R):=M.zX.bind λb=>(M.AA b s').bind λa=>bif decide (a<0) then(k 0) else k (i64.wrap (10+a))
def M.o8 s':=M.Ko s' some
def C.o8:=fTa S.o8 (λx=>M.Ko x.1.1) [fe C.zX,fe C.AA]
abbrev M.Ou(k:ay->Option R):=k ([[D.str [97,116,97,110,50]],[D.str [99,108,111,115,101]],[D.str [99,111,115]],[D.str [101,120,112]],[D.str [103,115,117,98]],[D.str [105,110,100,101,120]],[D.str [105,110,116]],[D.str [108,101,110,103,116,104]],[D.str [108,111,103]],[D.str [109,97,116,99,104]],[D.str [114,97,110,100]],[D.str [115,105,110]],[D.str [115,112,108,105,116]],[D.str [115,112,114,105,110,116,102]],[D.str [115,113,114,116]],[D.str [115,114,97,110,100]],[D.str [115,117,98]],[D.str [115,117,98,115,116,114]],[D.str [115,121,115,116,101,109]],[D.str [116,111,108,111,119,101,114]],[D.str [116,111,117,112,112,101,114]]])
def M.zn:Option (ay):=M.Ou some
def C.zn:=fTa S.zn (λx=>M.Ou)
abbrev M.Kq(s':aJ)(k:Bool->Option R):=M.zn.bind λa=>(M.AA a s').bind λb=>k (decide (b>=0))
def M.nP s':=M.Kq s' some
def C.nP:=fTa S.nP (λx=>M.Kq x.1.1) [fe C.zn,fe C.AA]
abbrev M.QG(s':aJ)(k:Bool->Option R):=(M.o7 s').bind λa=>bif a then((M.o8 s').bind λb=>bif b==0 then((M.nP s').bind λc=>k !c) else k false) else k false
def M.DJ s':=M.QG s' some
def C.DJ:=fTa S.DJ (λx=>M.QG x.1.1) [fe C.o7,fe C.o8,fe C.nP]
abbrev M.Ug(k:ay->Option R):=k ([[D.str [123]],[D.str [125]],[D.str [40]],[D.str [41]],[D.str [91]],[D.str [93]],[D.str [44]],[D.str [59]],[D.str [43,61]],[D.str [45,61]],[D.str [42,61]],[D.str [47,61]],[D.str [37,61]],[D.str [94,61]],[D.str [124,124]],[D.str [38,38]],[D.str [33,126]],[D.str [61,61]],[D.str [60,61]],[D.str [62,61]],[D.str [33,61]],[D.str [43,43]],[D.str [45,45]],[D.str [62,62]],[D.str [61]],[D.str [43]],[D.str [45]],[D.str [42]],[D.str [47]],[D.str [37]],[D.str [94]],[D.str [33]],[D.str [62]],[D.str [60]],[D.str [124]],[D.str [63]],[D.str [58]],[D.str [126]],[D.str [36]]])
def M.zY:Option (ay):=M.Ug some
def C.zY:=fTa S.zY (λx=>M.Ug)
abbrev M.Ov(kind:Int)(k:aJ->Option R):=bif kind==1 then(k [10]) else (M.kG kind 10 26).bind λc=>bif c then(M.zX.bind λb=>(idx b (i64.wrap (kind - 10))).bind λi=>(b[(i64.wrap (kind - 10)).toNat]?).bind λd=>(cStr d 0).bind λh=>k h) else (M.kG kind 30 68).bind λf=>bif f then(M.zY.bind λa=>(idx a (i64.wrap (kind - 30))).bind λj=>(a[(i64.wrap (kind - 30)).toNat]?).bind λg=>(cStr g 0).bind λe=>k e) else k []
def M.qw kind:=M.Ov kind some
def C.qw:=fTa S.qw (λx=>M.Ov x.1.1) [fe C.kG,fe C.zX,fe C.zY]
abbrev M.Ox(t':Int)(JZ:aJ)(VF:Int)(k:Bool->Option R):=bif t'==2 then(bif decide ((↑JZ.length:Int)>0) then((idx JZ 0).bind λg=>bif(↑g.toNat:Int)==35 then((M.DI JZ).bind λc=>k c) else k false) else k false) else bif t'==3 then(bif decide ((↑JZ.length:Int)>0) then((M.yB JZ 0).bind λf=>k (f==(↑JZ.length:Int))) else k false) else bif t'==4 then((M.Aw JZ 0).bind λa=>k (a==(↑JZ.length:Int))) else bif t'==5 then((M.Az JZ 0).bind λb=>k (b==(↑JZ.length:Int))) else bif t'==6 then((M.DJ JZ).bind λd=>k d) else bif t'==7 then((M.DJ JZ).bind λe=>k e) else bif t'==8 then((M.nP JZ).bind λh=>k h) else bif !JZ==[] then((M.qw t').bind λi=>k (i==JZ)) else k false
def M.zZ t' JZ VF:=M.Ox t' JZ VF some
def C.zZ:=fTa S.zZ (λx=>M.Ox x.1.1.1 x.1.1.2.1 x.1.1.2.2.1) [fe C.DI,fe C.yB,fe C.Aw,fe C.Az,fe C.DJ,fe C.nP,fe C.qw]
abbrev M.BM(kind:Int)(k:Bool->Option R):=bif kind==3 then(k true) else bif kind==4 then(k true) else bif kind==5 then(k true) else bif kind==6 then(k true) else bif kind==8 then(k true) else bif kind==33 then(k true) else bif kind==35 then(k true) else bif kind==51 then(k true) else bif kind==52 then(k true) else k false
def M.iQ kind:=M.BM kind some
def C.iQ:=fTa S.iQ (λx=>M.BM x.1.1)
abbrev M.jH(n22 last:Int)(ke:(Unit)⊕(Int×Int)->Option R)(kn:Int×Int->Option R)(i:Int):=bif n22==5 then((M.iQ last).bind λb=>bif b then(ke (.inl ())) else bif n22==58 then((M.iQ last).bind λe=>bif !e then(ke (.inl ())) else kn (n22,i64.wrap (i+1))) else bif n22==41 then((M.iQ last).bind λd=>bif !d then(ke (.inl ())) else kn (n22,i64.wrap (i+1))) else kn (n22,i64.wrap (i+1))) else bif n22==58 then((M.iQ last).bind λa=>bif !a then(ke (.inl ())) else kn (n22,i64.wrap (i+1))) else bif n22==41 then((M.iQ last).bind λc=>bif !c then(ke (.inl ())) else kn (n22,i64.wrap (i+1))) else kn (n22,i64.wrap (i+1))
def M.BN(l:ay)(s:Int×Int)(kn:Int×Int->Option R)(ke:(Unit)⊕(Int×Int)->Option R):Option R:=match s with
 |(last,i)=>bif decide (i<(↑l.length:Int)) then(bif decide (i64.wrap (i+1)<(↑l.length:Int)) then((idx l (i64.wrap (i+1))).bind λk=>(mg .i64 k 0).bind λd=>(idx l i).bind λn=>(mg .i64 n 0).bind λa=>(idx l i).bind λb=>(mg .i64 b 0).bind λj=>(cStr b 1).bind λh=>(mg .i64 b 2).bind λq=>(M.zZ j h q).bind λm=>bif !m then(ke (.inl ())) else bif a==7 then(bif d !=32 then(ke (.inl ())) else bif a==2 then(bif d !=1 then(bif decide (i64.wrap (i+1)<(↑l.length:Int)) then(ke (.inl ())) else M.jH a last ke kn i) else M.jH a last ke kn i) else M.jH a last ke kn i) else bif a==2 then(bif d !=1 then(bif decide (i64.wrap (i+1)<(↑l.length:Int)) then(ke (.inl ())) else M.jH a last ke kn i) else M.jH a last ke kn i) else M.jH a last ke kn i) else (idx l i).bind λr=>(mg .i64 r 0).bind λc=>(idx l i).bind λe=>(mg .i64 e 0).bind λf=>(cStr e 1).bind λo=>(mg .i64 e 2).bind λg=>(M.zZ f o g).bind λp=>bif !p then(ke (.inl ())) else bif c==7 then(ke (.inl ())) else bif c==2 then(bif decide (i64.wrap (i+1)<(↑l.length:Int)) then(ke (.inl ())) else M.jH c last ke kn i) else M.jH c last ke kn i) else ke (.inr (last,i))
def M.BO l s:=M.BN l s (λs=>some (Sum.inl s)) λt=>some (Sum.inr t)
def M.Kr l s:=fQ (M.BO l) s
def F.Kr:LE X0 21:=le 5 (Iw [dH 0 (pL false 3),dH 3 pI,dH 4 pI] []) (λx=>(x.1.2.1,x.1.2.2.1)) (λx s=>((x.1.1,s.1,s.2,()),())) (λx=> .sum (.leaf (Unit) (λt=>(Ex.ret,⟨[(2,lD false)],[]⟩))) (.leaf (Int×Int) (λt=>(Ex.exit 0,⟨[(0,Gm 3 x.1.1),(3,iP t.1),(4,iP t.2),(13,lD false)],[]⟩)))) (λx=>M.BN x.1.1) [fe C.zZ,fe C.iQ] [] (by rintro _ _ ⟨_,_⟩ _ _<;>unfold M.BN M.jH<;>repeat' first|(with_reducible first|apply dn|apply uM|apply uN|apply uO|apply uP)|intro _|apply dn|rfl)
abbrev M.MB(l:ay)(k:Bool->Option R):=bif decide ((↑l.length:Int)>3000) then(k false) else (M.Kr l (0,0)).bind λa=>iO a (λc=>k false) λb=>letE b λd=>k true
def M.yg l:=M.MB l some
def C.yg:=fTa S.yg (λx=>M.MB x.1.1) [] [F.Kr]
abbrev M.Ib(kind:Int)(k:Bool->Option R):=bif kind==33 then(k true) else bif kind==35 then(k true) else k (kind==31)
def M.ou kind:=M.Ib kind some
def C.ou:=fTa S.ou (λx=>M.Ib x.1.1)
abbrev M.Js(kind:Int)(k:Bool->Option R):=bif kind==32 then(k true) else bif kind==34 then(k true) else k (kind==30)
def M.qx kind:=M.Js kind some
def C.qx:=fTa S.qx (λx=>M.Js x.1.1)
def M.FD(l:ay)(s:Int×Int)(kn:Int×Int->Option R)(ke:(Int)⊕(Int×Int)->Option R):Option R:=match s with
 |(d,i)=>bif decide (i<(↑l.length:Int)) then((idx l i).bind λh=>(mg .i64 h 0).bind λa=>(M.ou a).bind λg=>bif g then((idx l i).bind λj=>(mg .i64 j 0).bind λb=>(M.qx b).bind λk=>bif k then(bif decide (i64.wrap ((bif decide (0<i64.wrap (d - 1)) then i64.wrap (d - 1) else 0)+1)>40) then(ke (.inl i)) else kn (i64.wrap ((bif decide (0<i64.wrap (d - 1)) then i64.wrap (d - 1) else 0)+1),i64.wrap (i+1))) else bif decide ((bif decide (0<i64.wrap (d - 1)) then i64.wrap (d - 1) else 0)>40) then(ke (.inl i)) else kn (bif decide (0<i64.wrap (d - 1)) then i64.wrap (d - 1) else 0,i64.wrap (i+1))) else (idx l i).bind λe=>(mg .i64 e 0).bind λc=>(M.qx c).bind λf=>bif f then(bif decide (i64.wrap (d+1)>40) then(ke (.inl i)) else kn (i64.wrap (d+1),i64.wrap (i+1))) else bif decide (d>40) then(ke (.inl i)) else kn (d,i64.wrap (i+1))) else ke (.inr (d,i))
def M.FH l s:=M.FD l s (λs=>some (Sum.inl s)) λt=>some (Sum.inr t)
def M.Oy l s:=fQ (M.FH l) s
def F.Oy:LE X0 22:=le 3 (Iw [dH 0 (pL false 3),dH 3 pI,dH 4 pI] []) (λx=>(x.1.2.1,x.1.2.2.1)) (λx s=>((x.1.1,s.1,s.2,()),())) (λx=> .sum (.leaf (Int) (λt=>(Ex.ret,⟨[(2,iP t)],[]⟩))) (.leaf (Int×Int) (λt=>(Ex.exit 0,⟨[(0,Gm 3 x.1.1),(3,iP t.1),(4,iP t.2),(8,lD false)],[]⟩)))) (λx=>M.FD x.1.1) [fe C.ou,fe C.qx] [] (by rintro _ _ ⟨_,_⟩ _ _<;>simp only[M.FD,nb]<;>rfl)
abbrev M.QH(l:ay)(k:Int->Option R):=(M.Oy l (0,0)).bind λb=>iO b (λa=>k a) λc=>letE c λd=>k (-1)
def M.DK l:=M.QH l some
def C.DK:=fTa S.DK (λx=>M.QH x.1.1) [] [F.Oy]
abbrev M.MC(l:ay)(i kind:Int)(k:Int×Int->Option R):=bif decide (i<(↑l.length:Int)) then((idx l i).bind λd=>(mg .i64 d 2).bind λc=>k (kind,c)) else bif(↑l.length:Int)==0 then(k (kind,0)) else (idx l (i64.wrap ((↑l.length:Int) - 1))).bind λa=>(mg .i64 a 0).bind λf=>(cStr a 1).bind λe=>(mg .i64 a 2).bind λb=>k (kind,i64.wrap (b+(↑e.length:Int)))
def M.rM l i kind:=M.MC l i kind some
def C.rM:=fTa S.rM (λx=>M.MC x.1.1 x.1.2.1 x.1.2.2.1)
abbrev M.Oz(c:ay)(c1:Int)(c2:Bool)(c3:ay)(k:Int×ay×Int×Bool×ay->Option R):=bif decide (c1>=(↑c.length:Int)) then(bif ah c3 then(k (0,c,c1,c2,c3)) else none) else (idx c c1).bind λb=>(mg .i64 b 0).bind λa=>bif ah c3 then(k (a,c,c1,c2,c3)) else none
def M.aK c c1 c2 c3:=M.Oz c c1 c2 c3 some
def C.aK:=fTa S.aK (λx=>M.Oz x.2.1.1 x.2.1.2.1 x.2.1.2.2.1 x.2.1.va.1)
def M.xk(s:zao⊕zao)(kn:zao⊕zao->Option R)(ke:ay×Int×Bool×ay->Option R):Option R:=match s with
 | .inl (v,v1,v2,v3)=>bif !v2 then(bif ah v3 then((M.aK v v1 v2 v3).bind λe=>bif e.1==1 then(bif ah e.2.2.2.2 then((M.aK e.2.1 e.2.2.1 e.2.2.2.1 e.2.2.2.2).bind λd=>bif d.1==2 then((idx d.2.1 d.2.2.1).bind λj=>(mg .i64 j 0).bind λq=>(cStr j 1).bind λz=>(mg .i64 j 2).bind λu=>EX d.2.2.2.2 [[D.int .i64 q,D.str z,D.int .i64 u]] 32 λza=>kn (.inr (d.2.1,i64.wrap (d.2.2.1+1),d.2.2.2.1,za))) else kn (.inr (d.2.1,i64.wrap (d.2.2.1+1),d.2.2.2.1,d.2.2.2.2))) else none) else bif ah e.2.2.2.2 then((M.aK e.2.1 e.2.2.1 e.2.2.2.1 e.2.2.2.2).bind λg=>bif g.1==2 then(bif ah g.2.2.2.2 then((M.aK g.2.1 g.2.2.1 g.2.2.2.1 g.2.2.2.2).bind λb=>bif b.1==2 then((idx b.2.1 b.2.2.1).bind λk=>(mg .i64 k 0).bind λn=>(cStr k 1).bind λy=>(mg .i64 k 2).bind λr=>EX b.2.2.2.2 [[D.int .i64 n,D.str y,D.int .i64 r]] 32 λza=>kn (.inr (b.2.1,i64.wrap (b.2.2.1+1),b.2.2.2.1,za))) else kn (.inr (b.2.1,i64.wrap (b.2.2.1+1),b.2.2.2.1,b.2.2.2.2))) else none) else ke (g.2.1,g.2.2.1,g.2.2.2.1,g.2.2.2.2)) else none) else none) else(ke (v,v1,v2,v3))
 | .inr (v,v1,v2,x')=>bif !v2 then(bif ah x' then((M.aK v v1 v2 x').bind λf=>bif f.1==1 then(bif ah f.2.2.2.2 then((M.aK f.2.1 f.2.2.1 f.2.2.2.1 f.2.2.2.2).bind λa=>bif a.1==2 then((idx a.2.1 a.2.2.1).bind λl=>(mg .i64 l 0).bind λp=>(cStr l 1).bind λw=>(mg .i64 l 2).bind λm=>EX a.2.2.2.2 [[D.int .i64 p,D.str w,D.int .i64 m]] 32 λza=>kn (.inr (a.2.1,i64.wrap (a.2.2.1+1),a.2.2.2.1,za))) else kn (.inr (a.2.1,i64.wrap (a.2.2.1+1),a.2.2.2.1,a.2.2.2.2))) else none) else bif ah f.2.2.2.2 then((M.aK f.2.1 f.2.2.1 f.2.2.2.1 f.2.2.2.2).bind λh=>bif h.1==2 then(bif ah h.2.2.2.2 then((M.aK h.2.1 h.2.2.1 h.2.2.2.1 h.2.2.2.2).bind λc=>bif c.1==2 then((idx c.2.1 c.2.2.1).bind λi=>(mg .i64 i 0).bind λo=>(cStr i 1).bind λx=>(mg .i64 i 2).bind λt=>EX c.2.2.2.2 [[D.int .i64 o,D.str x,D.int .i64 t]] 32 λza=>kn (.inr (c.2.1,i64.wrap (c.2.2.1+1),c.2.2.2.1,za))) else kn (.inr (c.2.1,i64.wrap (c.2.2.1+1),c.2.2.2.1,c.2.2.2.2))) else none) else ke (h.2.1,h.2.2.1,h.2.2.2.1,h.2.2.2.2)) else none) else none) else ke (v,v1,v2,x')
def M.sO s:=M.xk s (λs=>some (Sum.inl s)) λt=>some (Sum.inr t)
def M.qC s:=fQ (M.sO) s
def F.qC:LE X0 53:=le 1 (pOr (Iw [dH 0 (pP 100000 0)] [dH 100000 (cB 48 [pL false 3,pI,pB,pO 100001039999 0]),dH 100001039999 (cA false true 0 3)]) (Iw [dH 0 (pP 100000 0)] [dH 100000 (cB 48 [pL false 3,pI,pB,pO 300000 0]),dH 300000 (cA false true 0 3)])) (σ:=zao⊕zao) (λx=>(match x with| .inl x=> .inl ((x.2.1.1,x.2.1.2.1,x.2.1.2.2.1,x.2.2.1))| .inr x=> .inr ((x.2.1.1,x.2.1.2.1,x.2.1.2.2.1,x.2.2.1)))) (λx s=>(match s with| .inl s=> .inl ((((),()),((s.1,s.2.1,s.2.2.1,(),()),s.va,())))| .inr s=> .inr ((((),()),((s.1,s.2.1,s.2.2.1,(),()),s.va,()))))) (λx=> .leaf zao (λt=>(Ex.exit 0,⟨[(0,V.ptr 100000 0),(16,lD false)],[(100000,Cell.box 48 [Gm 3 t.1,iP t.2.1,lD t.2.2.1,V.own 300000 0]),(300000,Cell.arr false true 0 3 t.va)]⟩))) (λx=>M.xk) [fe C.aK] [] (by rintro _ _ (⟨_,_,_,_⟩|⟨_,_,_,_⟩) _ _<;>unfold M.xk<;>repeat' first|(with_reducible first|apply dn|apply uM|apply uN|apply uO|apply uP)|intro _|apply dn|rfl) (hE:=by intro _ _ s _;rcases s with s|s<;>kernel_rfl)
abbrev M.Ic(c:ay)(c1:Int)(c2:Bool)(c3:ay)(k:ay×Int×Bool×ay->Option R):=(M.qC (.inl (c,c1,c2,c3))).bind λa=>bif ah a.2.2.2 then(k (a.1,a.2.1,a.2.2.1,a.2.2.2)) else none
def M.bT c c1 c2 c3:=M.Ic c c1 c2 c3 some
def C.bT:=fTa S.bT (λx=>M.Ic x.2.1.1 x.2.1.2.1 x.2.1.2.2.1 x.2.1.va.1) [] [F.qC]
abbrev M.FI(kind:Int)(c:ay)(c1:Int)(c2:Bool)(c3:ay)(k:Int×aJ×Int×ay×Int×Bool×ay->Option R):=bif c2 then(bif ah c3 then(k (0,[],0,c,c1,true,c3)) else none) else bif ah c3 then((M.aK c c1 c2 c3).bind λa=>bif a.1 !=kind then(bif ah a.2.2.2.2 then(k (0,[],0,a.2.1,a.2.2.1,true,a.2.2.2.2)) else none) else (idx a.2.1 a.2.2.1).bind λb=>(mg .i64 b 0).bind λe=>(cStr b 1).bind λf=>(mg .i64 b 2).bind λd=>bif ah a.2.2.2.2 then(k (e,f,d,a.2.1,i64.wrap (a.2.2.1+1),a.2.2.2.1,a.2.2.2.2)) else none) else none
def M.aH kind c c1 c2 c3:=M.FI kind c c1 c2 c3 some
def C.aH:=fTa S.aH (λx=>M.FI x.1.2.1 x.2.1.1 x.2.1.2.1 x.2.1.2.2.1 x.2.1.va.1) [fe C.aK]
def M.yX(s:ay×Int×Bool×ay)(kn:ay×Int×Bool×ay->Option R)(ke:ay×Int×Bool×ay->Option R):Option R:=match s with
 |(v,v1,v2,x')=>bif !v2 then(bif ah x' then((M.aK v v1 v2 x').bind λa=>bif a.1==37 then(bif ah a.2.2.2.2 then((M.aH 37 a.2.1 a.2.2.1 a.2.2.2.1 a.2.2.2.2).bind λb=>bif ah b.2.2.2.2.2.2 then((M.bT b.2.2.2.1 b.2.2.2.2.1 b.2.2.2.2.2.1 b.2.2.2.2.2.2).bind λc=>kn (c.1,c.2.1,c.2.2.1,c.2.2.2)) else none) else none) else ke (a.2.1,a.2.2.1,a.2.2.2.1,a.2.2.2.2)) else none) else ke (v,v1,v2,x')
def M.uV s:=M.yX s (λs=>some (Sum.inl s)) λt=>some (Sum.inr t)
def M.zx s:=fQ (M.uV) s
def F.zx:LE X0 24:=le 1 (Iw [dH 0 (pP 100000 0)] [dH 100000 (cB 48 [pL false 3,pI,pB,pO 300000 0]),dH 300000 (cA false true 0 3)]) (λx=>(x.2.1.1,x.2.1.2.1,x.2.1.2.2.1,x.2.2.1)) (λx s=>(((),()),((s.1,s.2.1,s.2.2.1,(),()),s.va,()))) (λx=> .leaf zao (λt=>(Ex.exit 0,⟨[(0,V.ptr 100000 0),(13,lD false)],[(100000,Cell.box 48 [Gm 3 t.1,iP t.2.1,lD t.2.2.1,V.own 300000 0]),(300000,Cell.arr false true 0 3 t.va)]⟩))) (λx=>M.yX) [fe C.aK,fe C.aH,fe C.bT] [] (by rintro _ _ ⟨_,_,_,_⟩ _ _<;>unfold M.yX<;>repeat' first|(with_reducible first|apply dn|apply uM|apply uN|apply uO|apply uP)|intro _|apply dn|rfl)
abbrev M.Jt(c:ay)(c1:Int)(c2:Bool)(c3:ay)(k:ay×Int×Bool×ay->Option R):=bif ah c3 then((M.bT c c1 c2 c3).bind λb=>(M.zx (b.1,b.2.1,b.2.2.1,b.2.2.2)).bind λa=>bif ah a.2.2.2 then(k (a.1,a.2.1,a.2.2.1,a.2.2.2)) else none) else none
def M.kD c c1 c2 c3:=M.Jt c c1 c2 c3 some
def C.kD:=fTa S.kD (λx=>M.Jt x.2.1.1 x.2.1.2.1 x.2.1.2.2.1 x.2.1.va.1) [fe C.bT] [F.zx]
def M.BP(v:ay)(v1:Int)(v2:Bool)(kQ:ay)(s:Int×ay)(kn:Int×ay->Option R)(ke:Int×ay->Option R):Option R:=match s with
 |(i,x')=>bif decide (i<(↑kQ.length:Int)) then((idx kQ i).bind λc=>kQ[i.toNat]?.bind λb=>(cStr b 1).bind λa=>EX x' [[D.sl true 5 [[D.int .i64 34,D.int .i64 0,D.str a,D.str [],D.sl true 1 []]]]] 24 λd=>kn (i64.wrap (i+1),d)) else ke (i,x')
def M.GV v v1 v2 kQ s:=M.BP v v1 v2 kQ s (λs=>some (Sum.inl s)) λt=>some (Sum.inr t)
def M.Kt v v1 v2 kQ s:=fQ (M.GV v v1 v2 kQ) s
def F.Kt:LE X0 25:=le 3 (Iw [dH 0 (pP 100000 0),dH 3 (pO 300000 0),dH 4 pI] [dH 100000 (cB 48 [pL false 3,pI,pB,pO 300001 0]),dH 300000 (cA false false 0 1),dH 300001 (cA false true 0 3)]) (λx=>(x.1.2.2.1,x.2.2.1)) (λx s=>(((),(),s.1,()),((x.2.1.1,x.2.1.2.1,x.2.1.2.2.1,(),()),s.2,x.va.1,()))) (λx=> .leaf (Int×ay) (λt=>(Ex.exit 0,⟨[(0,V.ptr 100000 0),(3,V.own 300000 0),(4,iP t.1),(12,lD false)],[(100000,Cell.box 48 [Gm 3 x.2.1.1,iP x.2.1.2.1,lD x.2.1.2.2.1,V.own 300001 0]),(300000,Cell.arr false false 0 1 t.2),(300001,Cell.arr false true 0 3 x.va.1)]⟩))) (λx=>M.BP x.2.1.1 x.2.1.2.1 x.2.1.2.2.1 x.va.1) [] [] (by rintro _ _ ⟨_,_⟩ _ _<;>unfold M.BP<;>repeat' first|(with_reducible first|apply dn|apply uM|apply uN|apply uO|apply uP)|intro _|apply dn|rfl)
abbrev M.MF(c:ay)(c1:Int)(c2:Bool)(c3:ay)(k:Bool×ay×ay×Int×Bool×ay->Option R):=(M.Kt c c1 c2 c3 (0,[])).bind λa=>k (true,a.2,c,c1,c2,[])
def M.mV c c1 c2 c3:=M.MF c c1 c2 c3 some
def C.mV:=fTa S.mV (λx=>M.MF x.2.1.1 x.2.1.2.1 x.2.1.2.2.1 x.2.1.va.1) [] [F.Kt]
abbrev M.qK(k:Int×Bool×Bool×Bool×Bool->Option R):=k (1,false,false,false,false)
def M.jc:Option (Int×Bool×Bool×Bool×Bool):=M.qK some
def C.jc:=fTa S.jc (λx=>M.qK)
abbrev M.fE(p:Int)(p1 p2 p3 p4:Bool)(level:Int)(k:Int×Bool×Bool×Bool×Bool->Option R):=k (level,false,p2,p3,false)
def M.bP p p1 p2 p3 p4 level:=M.fE p p1 p2 p3 p4 level some
def C.bP:=fTa S.bP (λx=>M.fE x.1.1.1 x.1.1.2.1 x.1.1.2.2.1 x.1.1.va.1 x.1.1.va.2.1 x.1.2.1)
def M.OA(x':ay)(kQ:Bool)(k:Int×Int×aJ×aJ×Bool×ay->Option R):=bif(↑x'.length:Int)==0 then(k (0,0,[],[],true,[])) else (idx x' (i64.wrap ((↑x'.length:Int) - 1))).bind λa=>Ud 1 a λn281 n282 aOV aOW azC=>(k (n281,n282,aOV,aOW,false,azC))
def M.GI x' kQ:=M.OA x' kQ some
def C.GI:S.GI.ok X0 λx=>M.GI x.1.1.1 x.1.1.2.1:=fnS (λx=>M.OA x.1.1.1 x.1.1.2.1) [] [] (by intros;simp only[M.OA,Ud];repeat' first|(with_reducible first|apply dn|apply uM|apply uN|apply uO|apply uP)|intro _|apply dn|rfl)
abbrev M.MG(kind:Int)(k:Bool->Option R):=bif kind==1 then(k true) else bif kind==5 then(k true) else k (kind==6)
def M.AO kind:=M.MG kind some
def C.AO:=fTa S.AO (λx=>M.MG x.1.1)
abbrev M.QI(x':ay)(kQ:Bool)(k:Bool->Option R):=bif !kQ then((M.GI x' kQ).bind λa=>(M.AO a.1).bind λb=>k b) else k false
def M.AU x' kQ:=M.QI x' kQ some
def C.AU:=fTa S.AU (λx=>M.QI x.1.1.1 x.1.1.2.1) [fe C.GI,fe C.AO]
abbrev M.IQ(op':Int)(k:Bool->Option R):=bif op'==54 then(k true) else (M.kG op' 38 43).bind λa=>k a
def M.wB op':=M.IQ op' some
def C.wB:=fTa S.wB (λx=>M.IQ x.1.1) [fe C.kG]
def M.uX(l:ay)(by' i:Int)(x':ay)(kQ qj:Int)(uq sG:aJ)(s:Int×ay)(kn:Int×ay->Option R)(ke:Int×ay->Option R):Option R:=match s with
 |(k',wV)=>(idx l i).bind λc=>(cSl 1 c 4).bind λb=>bif decide (k'<(↑b.length:Int)) then((idx l i).bind λe=>(cSl 1 e 4).bind λd=>(idx d k').bind λf=>(mg .i64 f 0).bind λa=>EX wV [[D.int .i64 (i64.wrap (a+by'))]] 8 λg=>kn (i64.wrap (k'+1),g)) else ke (k',wV)
def M.uY l by' i x' kQ qj uq sG s:=M.uX l by' i x' kQ qj uq sG s (λs=>some (Sum.inl s)) λt=>some (Sum.inr t)
def M.Ie l by' i x' kQ qj uq sG s:=fQ (M.uY l by' i x' kQ qj uq sG) s
def F.Ie:LE X0 61:=le 8 (Iw [dH 0 (pL false 5),dH 1 pI,dH 5 (pO 300000 0),dH 6 pI,dH 7 (pP 300001 0),dH 8 pI] [dH 300000 (cA false false 0 5),dH 300001 (cB 57 [pI,pI,pS,pS,pO 300002 0]),dH 300002 (cA false true 0 1)]) (λx=>(x.1.va.2.2.1,x.va.1)) (λx s=>((x.1.1,x.1.2.1,(),x.1.va.1,(),s.1,()),(x.2.1,(x.2.2.1.1,x.2.2.1.2.1,x.2.2.1.2.2.1,x.2.2.1.va.1,(),()),s.2,()))) (λx=> .leaf (Int×ay) (λt=>(Ex.exit 2,⟨[(0,Gm 5 x.1.1),(1,iP x.1.2.1),(5,V.own 300000 0),(6,iP x.1.va.1),(7,V.ptr 300001 0),(8,iP t.1),(29,lD false)],[(300000,Cell.arr false false 0 5 x.2.1),(300001,Cell.box 57 [iP x.2.2.1.1,iP x.2.2.1.2.1,qY x.2.2.1.2.2.1,qY x.2.2.1.va.1,V.own 300002 0]),(300002,Cell.arr false true 0 1 t.2)]⟩))) (λx=>M.uX x.1.1 x.1.2.1 x.1.va.1 x.2.1 x.2.2.1.1 x.2.2.1.2.1 x.2.2.1.2.2.1 x.2.2.1.va.1) [] [] (by rintro _ _ ⟨_,_⟩ _ _<;>simp only[EX,M.uX,nb]<;>rfl)
def M.uZ(l:ay)(by':Int)(s:Int×ay)(kn:Int×ay->Option R)(ke:Int×ay->Option R):Option R:=match s with
 |(i,x')=>bif decide (i<(↑l.length:Int)) then((idx l i).bind λb=>Ud 1 b λn299 n300 aG7 aG8 _=>((M.Ie l by' i x' n299 n300 aG7 aG8 (0,[])).bind λa=>bif ah a.2 then(EX x' [[D.int .i64 n299,D.int .i64 n300,D.str aG7,D.str aG8,D.sl true 1 a.2]] 72 λc=>kn (i64.wrap (i+1),c)) else none)) else ke (i,x')
def M.vg l by' s:=M.uZ l by' s (λs=>some (Sum.inl s)) λt=>some (Sum.inr t)
def M.Ig l by' s:=fQ (M.vg l by') s
def F.Ig:LE X0 61:=le 3 (Iw [dH 0 (pL false 5),dH 1 pI,dH 5 (pO 300000 0),dH 6 pI] [dH 300000 (cA false false 0 5)]) (λx=>(x.1.va.1,x.2.1)) (λx s=>((x.1.1,x.1.2.1,(),s.1,()),(s.2,()))) (λx=> .leaf (Int×ay) (λt=>(Ex.exit 0,⟨[(0,Gm 5 x.1.1),(1,iP x.1.2.1),(5,V.own 300000 0),(6,iP t.1),(13,lD false)],[(300000,Cell.arr false false 0 5 t.2)]⟩))) (λx=>M.uZ x.1.1 x.1.2.1) [] [F.Ie] (by rintro _ _ ⟨_,_⟩ _ _<;>simp only[EX,Ud,M.uZ,nb]<;>rfl)
abbrev M.Ju(l:ay)(by':Int)(k:ay->Option R):=(M.Ig l by' (0,[])).bind λa=>k a.2
def M.uQ l by':=M.Ju l by' some
def C.uQ:=fTa S.uQ (λx=>M.Ju x.1.1 x.1.2.1) [] [F.Ig]
def M.xq(parts:ay)(x' kQ:Int)(qj uq:aJ)(s:Int×ay×ay)(kn:Int×ay×ay->Option R)(ke:Int×ay×ay->Option R):Option R:=match s with
 |(k',sG,wV)=>bif decide (k'<(↑parts.length:Int)) then((idx parts k').bind λc=>(cSl 5 c 0).bind λb=>(M.uQ b ((↑sG.length:Int))).bind λa=>EX sG a 72 λd=>EX wV [[D.int .i64 (i64.wrap ((↑d.length:Int) - 1))]] 8 λe=>kn (i64.wrap (k'+1),d,e)) else ke (k',sG,wV)
def M.xu parts x' kQ qj uq s:=M.xq parts x' kQ qj uq s (λs=>some (Sum.inl s)) λt=>some (Sum.inr t)
def M.BQ parts x' kQ qj uq s:=fQ (M.xu parts x' kQ qj uq) s
def F.BQ:LE X0 28:=le 4 (Iw [dH 1 (pL false 1),dH 2 (pP 300000 0),dH 5 (pO 300001 0),dH 6 pI] [dH 300000 (cB 57 [pI,pI,pS,pS,pO 300002 0]),dH 300001 (cA false false 0 5),dH 300002 (cA false true 0 1)]) (λx=>(x.1.va.1,x.2.2.1,x.va.1)) (λx s=>((x.1.1,(),(),s.1,()),((x.2.1.1,x.2.1.2.1,x.2.1.2.2.1,x.2.1.va.1,(),()),s.2.1,s.2.2,()))) (λx=> .leaf (Int×ay×ay) (λt=>(Ex.exit 0,⟨[(1,Gm 1 x.1.1),(2,V.ptr 300000 0),(5,V.own 300001 0),(6,iP t.1),(13,lD false)],[(300000,Cell.box 57 [iP x.2.1.1,iP x.2.1.2.1,qY x.2.1.2.2.1,qY x.2.1.va.1,V.own 300002 0]),(300001,Cell.arr false false 0 5 t.2.1),(300002,Cell.arr false true 0 1 t.2.2)]⟩))) (λx=>M.xq x.1.1 x.2.1.1 x.2.1.2.1 x.2.1.2.2.1 x.2.1.va.1) [fe C.uQ] [] (by rintro _ _ ⟨_,_,_⟩ _ _<;>simp only[EX,M.xq,nb]<;>rfl)
abbrev M.LU(n' n'1:Int)(n'2 n'3:aJ)(n'4 parts:ay)(k:ay->Option R):=(M.BQ parts n' n'1 n'2 n'3 (0,[],[])).bind λa=>bif ah a.2.2 then(EX a.2.1 [[D.int .i64 n',D.int .i64 n'1,D.str n'2,D.str n'3,D.sl true 1 a.2.2]] 72 λb=>k b) else none
def M.bV n' n'1 n'2 n'3 n'4 parts:=M.LU n' n'1 n'2 n'3 n'4 parts some
def C.bV:=fTa S.bV (λx=>M.LU x.1.1.1 x.1.1.2.1 x.1.1.2.2.1 x.1.1.va.1 x.1.1.va.2.1 x.1.2.1) [] [F.BQ]
abbrev M.Jv(n' n'1:Int)(n'2 n'3:aJ)(n'4 parts:ay)(k:Bool×ay×Bool->Option R):=(M.bV n' n'1 n'2 n'3 n'4 parts).bind λa=>k (false,ak a,false)
def M.dJ n' n'1 n'2 n'3 n'4 parts:=M.Jv n' n'1 n'2 n'3 n'4 parts some
def C.dJ:=fTa S.dJ (λx=>M.Jv x.1.1.1 x.1.1.2.1 x.1.1.2.2.1 x.1.1.va.1 x.1.1.va.2.1 x.1.2.1) [fe C.bV]
def M.Bz(aG:zab)(p:Int)(p1 p2 p3 p4:Bool)(c:ay)(c1:Int)(c2:Bool)(c3:ay)(k:Bool×ay×Bool×ay×Int×Bool×ay->Option R):=(M.bP p p1 p2 p3 p4 2).bind λf=>bif ah c3 then((aG f.1 f.2.1 f.2.2.1 f.2.2.2.1 f.2.2.2.2 c c1 c2 c3).bind λa=>bif a.2.2.2.2.2.1 then(bif ah a.2.2.2.2.2.2 then(k (false,ak a.2.1,a.2.2.1,a.2.2.2.1,a.2.2.2.2.1,a.2.2.2.2.2.1,a.2.2.2.2.2.2)) else none) else (M.AU (ak a.2.1) a.2.2.1).bind λl=>bif !l then(bif ah a.2.2.2.2.2.2 then(k (false,ak a.2.1,a.2.2.1,a.2.2.2.1,a.2.2.2.2.1,a.2.2.2.2.2.1,a.2.2.2.2.2.2)) else none) else bif ah a.2.2.2.2.2.2 then((M.aK a.2.2.2.1 a.2.2.2.2.1 a.2.2.2.2.2.1 a.2.2.2.2.2.2).bind λb=>(M.wB b.1).bind λj=>bif !j then(bif ah b.2.2.2.2 then(k (false,ak a.2.1,a.2.2.1,b.2.1,b.2.2.1,b.2.2.2.1,b.2.2.2.2)) else none) else bif ah b.2.2.2.2 then((M.aK b.2.1 b.2.2.1 b.2.2.2.1 b.2.2.2.2).bind λd=>bif ah d.2.2.2.2 then((M.aH d.1 d.2.1 d.2.2.1 d.2.2.2.1 d.2.2.2.2).bind λg=>(M.bP p p1 p2 p3 p4 1).bind λh=>bif ah g.2.2.2.2.2.2 then((aG h.1 h.2.1 h.2.2.1 h.2.2.2.1 h.2.2.2.2 g.2.2.2.1 g.2.2.2.2.1 g.2.2.2.2.2.1 g.2.2.2.2.2.2).bind λe=>(M.dJ 15 d.1 [] [] [] (ak [[D.sl false 5 (ak a.2.1)],[D.sl false 5 (ak e.2.1)]])).bind λi=>bif ah e.2.2.2.2.2.2 then(k (false,ak i.2.1,i.2.2,e.2.2.2.1,e.2.2.2.2.1,e.2.2.2.2.2.1,e.2.2.2.2.2.2)) else none) else none) else none) else none) else none) else none
def C.ad1{aG:zab}(fM:S.dX.ok X0 λx=>ng aG x.1.2.1 x.2.1.1 x.2.1.2.1 x.2.1.2.2.1 x.2.1.va.1):S.BJ.ok X0 λx=>ng (M.Bz aG) x.1.2.1 x.2.1.1 x.2.1.2.1 x.2.1.2.2.1 x.2.1.va.1 some:=fnS (λx=>M.Bz aG x.1.2.1.1 x.1.2.1.2.1 x.1.2.1.2.2.1 x.1.2.1.va.1 x.1.2.1.va.2.1 x.2.1.1 x.2.1.2.1 x.2.1.2.2.1 x.2.1.va.1) [fe C.bP,fe fM,fe C.AU,fe C.aK,fe C.wB,fe C.aH,fe C.dJ] [] (by intros;unfold M.Bz;repeat' first|(with_reducible first|apply dn|apply uM|apply uN|apply uO|apply uP)|intro _|apply dn|rfl)
def M.FK(aG:zab)(p:Int)(p1 p2 p3 p4:Bool)(c:ay)(c1:Int)(c2:Bool)(c3:ay)(k:Bool×ay×Bool×ay×Int×Bool×ay->Option R):=(M.bP p p1 p2 p3 p4 3).bind λj=>bif ah c3 then((aG j.1 j.2.1 j.2.2.1 j.2.2.2.1 j.2.2.2.2 c c1 c2 c3).bind λa=>bif a.2.2.2.2.2.1 then(bif ah a.2.2.2.2.2.2 then(k (false,ak a.2.1,a.2.2.1,a.2.2.2.1,a.2.2.2.2.1,a.2.2.2.2.2.1,a.2.2.2.2.2.2)) else none) else bif ah a.2.2.2.2.2.2 then((M.aK a.2.2.2.1 a.2.2.2.2.1 a.2.2.2.2.2.1 a.2.2.2.2.2.2).bind λb=>bif b.1 !=65 then(bif ah b.2.2.2.2 then(k (false,ak a.2.1,a.2.2.1,b.2.1,b.2.2.1,b.2.2.2.1,b.2.2.2.2)) else none) else bif ah b.2.2.2.2 then((M.aH 65 b.2.1 b.2.2.1 b.2.2.2.1 b.2.2.2.2).bind λf=>(M.bP p p1 p2 p3 p4 2).bind λi=>bif ah f.2.2.2.2.2.2 then((aG i.1 i.2.1 i.2.2.1 i.2.2.2.1 i.2.2.2.2 f.2.2.2.1 f.2.2.2.2.1 f.2.2.2.2.2.1 f.2.2.2.2.2.2).bind λe=>bif ah e.2.2.2.2.2.2 then((M.aH 66 e.2.2.2.1 e.2.2.2.2.1 e.2.2.2.2.2.1 e.2.2.2.2.2.2).bind λg=>(M.bP p p1 p2 p3 p4 2).bind λh=>bif ah g.2.2.2.2.2.2 then((aG h.1 h.2.1 h.2.2.1 h.2.2.2.1 h.2.2.2.2 g.2.2.2.1 g.2.2.2.2.1 g.2.2.2.2.2.1 g.2.2.2.2.2.2).bind λd=>(M.dJ 14 0 [] [] [] (ak [[D.sl false 5 (ak a.2.1)],[D.sl false 5 (ak e.2.1)],[D.sl false 5 (ak d.2.1)]])).bind λl=>bif ah d.2.2.2.2.2.2 then(k (false,ak l.2.1,l.2.2,d.2.2.2.1,d.2.2.2.2.1,d.2.2.2.2.2.1,d.2.2.2.2.2.2)) else none) else none) else none) else none) else none) else none) else none
def C.agl{aG:zab}(fM:S.dX.ok X0 λx=>ng aG x.1.2.1 x.2.1.1 x.2.1.2.1 x.2.1.2.2.1 x.2.1.va.1):S.GK.ok X0 λx=>ng (M.FK aG) x.1.2.1 x.2.1.1 x.2.1.2.1 x.2.1.2.2.1 x.2.1.va.1 some:=fnS (λx=>M.FK aG x.1.2.1.1 x.1.2.1.2.1 x.1.2.1.2.2.1 x.1.2.1.va.1 x.1.2.1.va.2.1 x.2.1.1 x.2.1.2.1 x.2.1.2.2.1 x.2.1.va.1) [fe C.bP,fe fM,fe C.aK,fe C.aH,fe C.dJ] [] (by intros;unfold M.FK;repeat' first|(with_reducible first|apply dn|apply uM|apply uN|apply uO|apply uP)|intro _|apply dn|rfl)
def M.jY(v:ay)(v1:Int)(v2:Bool)(x':ay)(s:Int×Int)(kn:Int×Int->Option R)(ke:(Bool)⊕(Int×Int)->Option R):Option R:=match s with
 |(d,i)=>bif decide (i<(↑v.length:Int)) then((idx v i).bind λp=>(mg .i64 p 0).bind λe=>(M.qx e).bind λo=>bif o then((idx v i).bind λn=>(mg .i64 n 0).bind λf=>(M.ou f).bind λq=>bif q then(bif i64.wrap (i64.wrap (d+1) - 1)==0 then(ke (.inl false)) else bif i64.wrap (i64.wrap (d+1) - 1)==1 then((idx v i).bind λr=>(mg .i64 r 0).bind λh=>bif h==36 then(ke (.inl true)) else kn (i64.wrap (i64.wrap (d+1) - 1),i64.wrap (i+1))) else kn (i64.wrap (i64.wrap (d+1) - 1),i64.wrap (i+1))) else bif i64.wrap (d+1)==0 then(ke (.inl false)) else bif i64.wrap (d+1)==1 then((idx v i).bind λk=>(mg .i64 k 0).bind λg=>bif g==36 then(ke (.inl true)) else kn (i64.wrap (d+1),i64.wrap (i+1))) else kn (i64.wrap (d+1),i64.wrap (i+1))) else (idx v i).bind λl=>(mg .i64 l 0).bind λb=>(M.ou b).bind λt=>bif t then(bif i64.wrap (d - 1)==0 then(ke (.inl false)) else bif i64.wrap (d - 1)==1 then((idx v i).bind λm=>(mg .i64 m 0).bind λc=>bif c==36 then(ke (.inl true)) else kn (i64.wrap (d - 1),i64.wrap (i+1))) else kn (i64.wrap (d - 1),i64.wrap (i+1))) else bif d==0 then(ke (.inl false)) else bif d==1 then((idx v i).bind λj=>(mg .i64 j 0).bind λa=>bif a==36 then(ke (.inl true)) else kn (d,i64.wrap (i+1))) else kn (d,i64.wrap (i+1))) else ke (.inr (d,i))
def M.fP v v1 v2 x' s:=M.jY v v1 v2 x' s (λs=>some (Sum.inl s)) λt=>some (Sum.inr t)
def M.oC v v1 v2 x' s:=fQ (M.fP v v1 v2 x') s
def F.oC:LE X0 151:=le 5 (Iw [dH 0 (pP 100000 0),dH 3 pI,dH 4 pI] [dH 100000 (cB 48 [pL false 3,pI,pB,pO 300000 0]),dH 300000 (cA false true 0 3)]) (λx=>(x.1.2.1,x.1.2.2.1)) (λx s=>(((),s.1,s.2,()),((x.2.1.1,x.2.1.2.1,x.2.1.2.2.1,(),()),x.2.2.1,()))) (λx=> .sum (.leaf (Bool) (λt=>(Ex.ret,⟨[(2,lD t)],[(100000,Cell.box 48 [Gm 3 x.2.1.1,iP x.2.1.2.1,lD x.2.1.2.2.1,V.own 300000 0]),(300000,Cell.arr false true 0 3 x.2.2.1)]⟩))) (.leaf (Int×Int) (λt=>(Ex.exit 0,⟨[(0,V.ptr 100000 0),(3,iP t.1),(4,iP t.2),(24,lD false)],[(100000,Cell.box 48 [Gm 3 x.2.1.1,iP x.2.1.2.1,lD x.2.1.2.2.1,V.own 300000 0]),(300000,Cell.arr false true 0 3 x.2.2.1)]⟩)))) (λx=>M.jY x.2.1.1 x.2.1.2.1 x.2.1.2.2.1 x.2.2.1) [fe C.qx,fe C.ou] [] (by rintro _ _ ⟨_,_⟩ _ _<;>unfold M.jY<;>repeat' first|(with_reducible first|apply dn|apply uM|apply uN|apply uO|apply uP)|intro _|apply dn|rfl)
abbrev M.MH(c:ay)(c1:Int)(c2:Bool)(c3:ay)(k:Bool×ay×Int×Bool×ay->Option R):=bif c2 then(bif ah c3 then(k (false,c,c1,c2,c3)) else none) else bif ah c3 then((M.aK c c1 c2 c3).bind λa=>bif a.1 !=32 then(bif ah a.2.2.2.2 then(k (false,a.2.1,a.2.2.1,a.2.2.2.1,a.2.2.2.2)) else none) else (M.oC a.2.1 a.2.2.1 a.2.2.2.1 a.2.2.2.2 (0,a.2.2.1)).bind λd=>iO d (λe=>bif ah a.2.2.2.2 then(k (e,a.2.1,a.2.2.1,a.2.2.2.1,a.2.2.2.2)) else none) λb=>letE b λf=>bif ah a.2.2.2.2 then(k (false,a.2.1,a.2.2.1,a.2.2.2.1,a.2.2.2.2)) else none) else none
def M.A8 c c1 c2 c3:=M.MH c c1 c2 c3 some
def C.A8:=fTa S.A8 (λx=>M.MH x.2.1.1 x.2.1.2.1 x.2.1.2.2.1 x.2.1.va.1) [fe C.aK] [F.oC]
def M.DY(aG:zab)(s:zaC⊕zas)(kn:zaC⊕zas->Option R)(ke:zas⊕zas->Option R):Option R:=match s with
 | .inl (end',v16,v,v1,v2,x',kQ)=>bif !v2 then(M.jc.bind λf=>bif ah kQ then((aG f.1 f.2.1 f.2.2.1 f.2.2.2.1 f.2.2.2.2 v v1 v2 kQ).bind λj=>EX x' [[D.sl false 5 (ak j.2.1)]] 24 λza=>bif ah j.2.2.2.2.2.2 then((M.aK j.2.2.2.1 j.2.2.2.2.1 j.2.2.2.2.2.1 j.2.2.2.2.2.2).bind λb=>bif b.1 !=36 then(ke (.inl (end',b.2.1,b.2.2.1,b.2.2.2.1,za,b.2.2.2.2))) else bif(↑za.length:Int)==6 then(bif ah b.2.2.2.2 then((M.aH 36 b.2.1 b.2.2.1 true b.2.2.2.2).bind λk=>bif ah k.2.2.2.2.2.2 then((M.bT k.2.2.2.1 k.2.2.2.2.1 k.2.2.2.2.2.1 k.2.2.2.2.2.2).bind λm=>kn (.inr (end',m.1,m.2.1,m.2.2.1,za,m.2.2.2))) else none) else none) else bif ah b.2.2.2.2 then((M.aH 36 b.2.1 b.2.2.1 b.2.2.2.1 b.2.2.2.2).bind λl=>bif ah l.2.2.2.2.2.2 then((M.bT l.2.2.2.1 l.2.2.2.2.1 l.2.2.2.2.2.1 l.2.2.2.2.2.2).bind λn=>kn (.inr (end',n.1,n.2.1,n.2.2.1,za,n.2.2.2))) else none) else none) else none) else none) else(ke (.inr (end',v,v1,v2,x',kQ)))
 | .inr (end',v,v1,v2,x',kQ)=>bif !v2 then(M.jc.bind λd=>bif ah kQ then((aG d.1 d.2.1 d.2.2.1 d.2.2.2.1 d.2.2.2.2 v v1 v2 kQ).bind λc=>EX x' [[D.sl false 5 (ak c.2.1)]] 24 λza=>bif ah c.2.2.2.2.2.2 then((M.aK c.2.2.2.1 c.2.2.2.2.1 c.2.2.2.2.2.1 c.2.2.2.2.2.2).bind λa=>bif a.1 !=36 then(ke (.inl (end',a.2.1,a.2.2.1,a.2.2.2.1,za,a.2.2.2.2))) else bif(↑za.length:Int)==6 then(bif ah a.2.2.2.2 then((M.aH 36 a.2.1 a.2.2.1 true a.2.2.2.2).bind λg=>bif ah g.2.2.2.2.2.2 then((M.bT g.2.2.2.1 g.2.2.2.2.1 g.2.2.2.2.2.1 g.2.2.2.2.2.2).bind λh=>kn (.inr (end',h.1,h.2.1,h.2.2.1,za,h.2.2.2))) else none) else none) else bif ah a.2.2.2.2 then((M.aH 36 a.2.1 a.2.2.1 a.2.2.2.1 a.2.2.2.2).bind λe=>bif ah e.2.2.2.2.2.2 then((M.bT e.2.2.2.1 e.2.2.2.2.1 e.2.2.2.2.2.1 e.2.2.2.2.2.2).bind λi=>kn (.inr (end',i.1,i.2.1,i.2.2.1,za,i.2.2.2))) else none) else none) else none) else none) else ke (.inr (end',v,v1,v2,x',kQ))
def M.IU aG s:=M.DY aG s (λs=>some (Sum.inl s)) λt=>some (Sum.inr t)
def M.wE aG s:=fQ (M.IU aG) s
def F.wE{aG:zab}(fM:S.dX.ok X0 λx=>ng aG x.1.2.1 x.2.1.1 x.2.1.2.1 x.2.1.2.2.1 x.2.1.va.1):LE X0 152:=le 5 (pOr (Iw [dH 0 (pP 100000 0),dH 1 pI,dH 7 (pO 300000 0),dH 16 pB] [dH 100000 (cB 48 [pL false 3,pI,pB,pO 300001 0]),dH 300000 (cA false false 0 1),dH 300001 (cA false true 0 3)]) (Iw [dH 0 (pP 100000 0),dH 1 pI,dH 7 (pO 300000 0)] [dH 100000 (cB 48 [pL false 3,pI,pB,pO 300001 0]),dH 300000 (cA false false 0 1),dH 300001 (cA false true 0 3)])) (σ:=zaC⊕zas) (λx=>(match x with| .inl x=> .inl ((x.1.2.1,x.1.va.1,x.2.1.1,x.2.1.2.1,x.2.1.2.2.1,x.2.2.1,x.va.1))| .inr x=> .inr ((x.1.2.1,x.2.1.1,x.2.1.2.1,x.2.1.2.2.1,x.2.2.1,x.va.1)))) (λx s=>(match s with| .inl s=> .inl ((((),s.1,(),s.2.1,()),((s.2.2.1,s.va.1,s.va.2.1,(),()),s.va.2.2.1,s.va.va,())))| .inr s=> .inr ((((),s.1,(),()),((s.2.1,s.2.2.1,s.va.1,(),()),s.va.2.1,s.va.2.2,()))))) (λx=> .sum (.leaf zas (λt=>(Ex.exit 0,⟨[(0,V.ptr 100000 0),(1,iP t.1),(7,V.own 300000 0),(35,lD true)],[(100000,Cell.box 48 [Gm 3 t.2.1,iP t.2.2.1,lD t.va.1,V.own 300001 0]),(300000,Cell.arr false false 0 1 t.va.2.1),(300001,Cell.arr false true 0 3 t.va.2.2)]⟩))) (.leaf zas (λt=>(Ex.exit 0,⟨[(0,V.ptr 100000 0),(1,iP t.1),(7,V.own 300000 0),(25,lD false)],[(100000,Cell.box 48 [Gm 3 t.2.1,iP t.2.2.1,lD t.va.1,V.own 300001 0]),(300000,Cell.arr false false 0 1 t.va.2.1),(300001,Cell.arr false true 0 3 t.va.2.2)]⟩)))) (λx=>M.DY aG) [fe C.jc,fe fM,fe C.aK,fe C.aH,fe C.bT] [] (by rintro _ _ (⟨_,_,_,_,_,_,_⟩|⟨_,_,_,_,_,_⟩) _ _<;>unfold M.DY<;>repeat' first|(with_reducible first|apply dn|apply uM|apply uN|apply uO|apply uP)|intro _|apply dn|rfl) (hE:=by intro _ _ s _;rcases s with s|s<;>kernel_rfl)
abbrev M.su(alX:Int×ay×Int×Bool×ay×ay)(k:Bool×ay×ay×Int×Bool×ay->Option R):=bif ah alX.2.2.2.2.2 then((M.aH alX.1 alX.2.1 alX.2.2.1 alX.2.2.2.1 alX.2.2.2.2.2).bind λa=>bif ah a.2.2.2.2.2.2 then(k (true,alX.2.2.2.2.1,a.2.2.2.1,a.2.2.2.2.1,a.2.2.2.2.2.1,a.2.2.2.2.2.2)) else none) else none
def M.vC(aG:zab)(end' least:Int)(c:ay)(c1:Int)(c2:Bool)(c3:ay)(k:Bool×ay×ay×Int×Bool×ay->Option R):=bif least==0 then(bif ah c3 then((M.aK c c1 c2 c3).bind λa=>bif a.1==end' then(bif ah a.2.2.2.2 then((M.aH end' a.2.1 a.2.2.1 a.2.2.2.1 a.2.2.2.2).bind λb=>bif ah b.2.2.2.2.2.2 then(k (true,[],b.2.2.2.1,b.2.2.2.2.1,b.2.2.2.2.2.1,b.2.2.2.2.2.2)) else none) else none) else (M.wE aG (.inl (end',false,a.2.1,a.2.2.1,a.2.2.2.1,[],a.2.2.2.2))).bind λj=>iO j (λe=>M.su e k) λg=>letE g λh=>M.su h k) else none) else (M.wE aG (.inl (end',false,c,c1,c2,[],c3))).bind λl=>iO l (λi=>M.su i k) λf=>letE f λd=>M.su d k
def C.agm{aG:zab}(fM:S.dX.ok X0 λx=>ng aG x.1.2.1 x.2.1.1 x.2.1.2.1 x.2.1.2.2.1 x.2.1.va.1):S.lT.ok X0 λx=>M.vC aG x.1.2.1 x.1.2.2.1 x.2.1.1 x.2.1.2.1 x.2.1.2.2.1 x.2.1.va.1 some:=fnS (λx=>M.vC aG x.1.2.1 x.1.2.2.1 x.2.1.1 x.2.1.2.1 x.2.1.2.2.1 x.2.1.va.1) [fe C.aK,fe C.aH] [F.wE fM] (by intros;unfold M.vC M.su;repeat' first|(with_reducible first|apply dn|apply uM|apply uN|apply uO|apply uP)|intro _|apply dn|rfl)
def M.zy(dD:zag)(aG:zab)(x':Int)(kQ qj uq sG wV:Bool)(s:ay×Int×Bool×ay×Bool×ay)(kn:ay×Int×Bool×ay×Bool×ay->Option R)(ke:ay×Int×Bool×ay×Bool×ay->Option R):Option R:=match s with
 |(v,v1,v2,EN,Lm,LK)=>bif !v2 then(bif !qj then(bif ah LK then((M.aK v v1 v2 LK).bind λa=>bif a.1==24 then(bif ah a.2.2.2.2 then((M.aH 24 a.2.1 a.2.2.1 a.2.2.2.1 a.2.2.2.2).bind λb=>bif ah b.2.2.2.2.2.2 then((M.aH 6 b.2.2.2.1 b.2.2.2.2.1 b.2.2.2.2.2.1 b.2.2.2.2.2.2).bind λc=>(M.dJ 13 0 c.2.1 [] [] (ak [[D.sl false 5 EN]])).bind λd=>kn (c.2.2.2.1,c.2.2.2.2.1,c.2.2.2.2.2.1,ak d.2.1,d.2.2,c.2.2.2.2.2.2)) else none) else none) else ke (a.2.1,a.2.2.1,a.2.2.2.1,EN,Lm,a.2.2.2.2)) else none) else ke (v,v1,v2,EN,Lm,LK)) else ke (v,v1,v2,EN,Lm,LK)
def M.sD dD aG x' kQ qj uq sG wV s:=M.zy dD aG x' kQ qj uq sG wV s (λs=>some (Sum.inl s)) λt=>some (Sum.inr t)
def M.ql dD aG x' kQ qj uq sG wV s:=fQ (M.sD dD aG x' kQ qj uq sG wV) s
def F.ql{dD:zag}{aG:zab}(BR:S.lT.ok X0 λx=>dD x.1.2.1 x.1.2.2.1 x.2.1.1 x.2.1.2.1 x.2.1.2.2.1 x.2.1.va.1)(fM:S.dX.ok X0 λx=>ng aG x.1.2.1 x.2.1.1 x.2.1.2.1 x.2.1.2.2.1 x.2.1.va.1):LE X0 98:=le 9 (Iw [dH 0 (pP 100000 0),dH 3 (pP 300000 0),dH 4 (pP 300001 0),dH 5 (pP 300002 0)] [dH 100000 (cB 48 [pL false 3,pI,pB,pO 300003 0]),dH 300000 (cB 88 [pI,pB,pB,pB,pB]),dH 300001 (cB 85 [TW 5,pB]),dH 300002 (cB 85 [pL false 5,pB]),dH 300003 (cA false true 0 3)]) (λx=>(x.2.1.1,x.2.1.2.1,x.2.1.2.2.1,x.va.2.1.1,x.va.2.1.2.1,x.va.2.2.1)) (λx s=>(((),(),(),(),()),((s.1,s.2.1,s.2.2.1,(),()),(x.2.2.1.1,x.2.2.1.2.1,x.2.2.1.2.2.1,x.2.2.1.va.1,x.2.2.1.va.2.1,()),((),x.va.1.2.1,()),(s.va.1,s.va.2.1,()),s.va.2.2,()))) (λx=> .leaf (ay×Int×Bool×ay×Bool×ay) (λt=>(Ex.exit 0,⟨[(0,V.ptr 100000 0),(3,V.ptr 300000 0),(4,V.ptr 300001 0),(5,V.ptr 300002 0),(49,lD false)],[(100000,Cell.box 48 [Gm 3 t.1,iP t.2.1,lD t.2.2.1,V.own 300003 0]),(300000,Cell.box 88 [iP x.2.2.1.1,lD x.2.2.1.2.1,lD x.2.2.1.2.2.1,lD x.2.2.1.va.1,lD x.2.2.1.va.2.1]),(300001,Cell.box 85 [V.nil 5,lD x.va.1.2.1]),(300002,Cell.box 85 [Gm 5 t.va.1,lD t.va.2.1]),(300003,Cell.arr false true 0 3 t.va.2.2)]⟩))) (λx=>M.zy dD aG x.2.2.1.1 x.2.2.1.2.1 x.2.2.1.2.2.1 x.2.2.1.va.1 x.2.2.1.va.2.1 x.va.1.2.1) [fe C.aK,fe C.aH,fe C.dJ] [] (by rintro _ _ ⟨_,_,_,_,_,_⟩ _ _<;>unfold M.zy<;>repeat' first|(with_reducible first|apply dn|apply uM|apply uN|apply uO|apply uP)|intro _|apply dn|rfl)
def M.Ku(dD:zag)(aG:zab)(p:Int)(p1 p2 p3 p4:Bool)(c:ay)(c1:Int)(c2:Bool)(c3:ay)(k:Bool×ay×Bool×ay×Int×Bool×ay->Option R):=bif !p2 then(bif ah c3 then((M.A8 c c1 c2 c3).bind λa=>bif a.1 then(bif ah a.2.2.2.2 then((M.aH 32 a.2.1 a.2.2.1 a.2.2.2.1 a.2.2.2.2).bind λm=>bif ah m.2.2.2.2.2.2 then((dD 33 1 m.2.2.2.1 m.2.2.2.2.1 m.2.2.2.2.2.1 m.2.2.2.2.2.2).bind λf=>bif ah f.2.2.2.2.2 then((M.aH 24 f.2.2.1 f.2.2.2.1 f.2.2.2.2.1 f.2.2.2.2.2).bind λl=>bif ah l.2.2.2.2.2.2 then((M.aH 6 l.2.2.2.1 l.2.2.2.2.1 l.2.2.2.2.2.1 l.2.2.2.2.2.2).bind λj=>(M.bV 13 0 j.2.1 [] [] (ak f.2.1)).bind λo=>(M.ql dD aG p p1 p2 p3 p4 false (j.2.2.2.1,j.2.2.2.2.1,j.2.2.2.2.2.1,ak o,false,j.2.2.2.2.2.2)).bind λd=>bif ah d.2.2.2.2.2 then(k (false,d.2.2.2.1,d.2.2.2.2.1,d.1,d.2.1,d.2.2.1,d.2.2.2.2.2)) else none) else none) else none) else none) else none) else (M.bP p p1 p2 p3 p4 6).bind λi=>bif ah a.2.2.2.2 then((aG i.1 i.2.1 i.2.2.1 i.2.2.2.1 i.2.2.2.2 a.2.1 a.2.2.1 a.2.2.2.1 a.2.2.2.2).bind λh=>(M.ql dD aG p p1 p2 p3 p4 false (h.2.2.2.1,h.2.2.2.2.1,h.2.2.2.2.2.1,ak h.2.1,h.2.2.1,h.2.2.2.2.2.2)).bind λe=>bif ah e.2.2.2.2.2 then(k (false,e.2.2.2.1,e.2.2.2.2.1,e.1,e.2.1,e.2.2.1,e.2.2.2.2.2)) else none) else none) else none) else (M.bP p p1 p2 p3 p4 6).bind λn=>bif ah c3 then((aG n.1 n.2.1 n.2.2.1 n.2.2.2.1 n.2.2.2.2 c c1 c2 c3).bind λg=>(M.ql dD aG p p1 p2 p3 p4 false (g.2.2.2.1,g.2.2.2.2.1,g.2.2.2.2.2.1,ak g.2.1,g.2.2.1,g.2.2.2.2.2.2)).bind λb=>bif ah b.2.2.2.2.2 then(k (false,b.2.2.2.1,b.2.2.2.2.1,b.1,b.2.1,b.2.2.1,b.2.2.2.2.2)) else none) else none
def C.aju{dD:zag}{aG:zab}(BR:S.lT.ok X0 λx=>dD x.1.2.1 x.1.2.2.1 x.2.1.1 x.2.1.2.1 x.2.1.2.2.1 x.2.1.va.1)(fM:S.dX.ok X0 λx=>ng aG x.1.2.1 x.2.1.1 x.2.1.2.1 x.2.1.2.2.1 x.2.1.va.1):S.NG.ok X0 λx=>ng (M.Ku dD aG) x.1.2.1 x.2.1.1 x.2.1.2.1 x.2.1.2.2.1 x.2.1.va.1 some:=fnS (λx=>M.Ku dD aG x.1.2.1.1 x.1.2.1.2.1 x.1.2.1.2.2.1 x.1.2.1.va.1 x.1.2.1.va.2.1 x.2.1.1 x.2.1.2.1 x.2.1.2.2.1 x.2.1.va.1) [fe C.A8,fe C.aH,fe BR,fe C.bV,fe C.bP,fe fM] [F.ql BR fM] (by intros;unfold M.Ku;repeat' first|(with_reducible first|apply dn|apply uM|apply uN|apply uO|apply uP)|intro _|apply dn|rfl)
abbrev M.Vt(level:Int)(k:Int->Option R):=(idx [[D.int .i64 0],[D.int .i64 0],[D.int .i64 0],[D.int .i64 44],[D.int .i64 45],[D.int .i64 0],[D.int .i64 67],[D.int .i64 63],[D.int .i64 99],[D.int .i64 55],[D.int .i64 57]] level).bind λc=>([[D.int .i64 0],[D.int .i64 0],[D.int .i64 0],[D.int .i64 44],[D.int .i64 45],[D.int .i64 0],[D.int .i64 67],[D.int .i64 63],[D.int .i64 99],[D.int .i64 55],[D.int .i64 57]][level.toNat]?).bind λa=>(mg .i64 a 0).bind λb=>k b
def M.tV level:=M.Vt level some
def C.tV:=fTa S.tV (λx=>M.Vt x.1.1)
abbrev M.OB(op':Int)(k:Int->Option R):=bif op'==44 then(k 3) else bif op'==45 then(k 4) else bif op'==67 then(k 6) else bif op'==46 then(k 6) else bif op'==63 then(k 7) else bif op'==48 then(k 7) else bif op'==47 then(k 7) else bif op'==50 then(k 7) else bif op'==62 then(k 7) else bif op'==49 then(k 7) else bif op'==99 then(k 8) else bif op'==55 then(k 9) else bif op'==56 then(k 9) else bif op'==57 then(k 10) else bif op'==58 then(k 10) else bif op'==59 then(k 10) else bif op'==60 then(k 12) else k 0
def M.yh op':=M.OB op' some
def C.yh:=fTa S.yh (λx=>M.OB x.1.1)
abbrev M.Uj(op':Int)(k:Int×Int->Option R):=(M.yh op').bind λa=>bif a==3 then(k (3,4)) else bif a==4 then(k (4,5)) else bif a==6 then(k (7,7)) else bif a==7 then(k (8,8)) else bif a==8 then(k (8,9)) else bif a==9 then(k (9,10)) else bif a==10 then(k (10,11)) else k (13,11)
def M.qy op':=M.Uj op' some
def C.qy:=fTa S.qy (λx=>M.Uj x.1.1) [fe C.yh]
abbrev M.DZ(kind:Int)(k:Bool->Option R):=bif kind==3 then(k true) else bif kind==4 then(k true) else bif kind==6 then(k true) else bif kind==7 then(k true) else bif kind==8 then(k true) else bif kind==32 then(k true) else bif kind==68 then(k true) else k false
def M.nJ kind:=M.DZ kind some
def C.nJ:=fTa S.nJ (λx=>M.DZ x.1.1)
abbrev M.OC(level p:Int)(p1 p2 p3 p4:Bool)(c:ay)(c1:Int)(c2:Bool)(c3:ay)(k:Bool×ay×Int×Bool×ay->Option R):=bif ah c3 then((M.aK c c1 c2 c3).bind λa=>bif a.2.2.2.1 then(bif !a.2.2.2.1 then((M.nJ a.1).bind λd=>bif ah a.2.2.2.2 then(k (d,a.2.1,a.2.2.1,a.2.2.2.1,a.2.2.2.2)) else none) else bif ah a.2.2.2.2 then(k (false,a.2.1,a.2.2.1,a.2.2.2.1,a.2.2.2.2)) else none) else bif level==8 then(bif !a.2.2.2.1 then((M.nJ a.1).bind λe=>bif ah a.2.2.2.2 then(k (e,a.2.1,a.2.2.1,a.2.2.2.1,a.2.2.2.2)) else none) else bif ah a.2.2.2.2 then(k (false,a.2.1,a.2.2.1,a.2.2.2.1,a.2.2.2.2)) else none) else bif a.1 !=0 then(bif a.1 !=99 then((M.yh a.1).bind λb=>bif b==level then(bif a.1 !=62 then(bif ah a.2.2.2.2 then(k (true,a.2.1,a.2.2.1,a.2.2.2.1,a.2.2.2.2)) else none) else bif ah a.2.2.2.2 then(k (!p3,a.2.1,a.2.2.1,a.2.2.2.1,a.2.2.2.2)) else none) else bif ah a.2.2.2.2 then(k (false,a.2.1,a.2.2.1,a.2.2.2.1,a.2.2.2.2)) else none) else bif ah a.2.2.2.2 then(k (false,a.2.1,a.2.2.1,a.2.2.2.1,a.2.2.2.2)) else none) else bif ah a.2.2.2.2 then(k (false,a.2.1,a.2.2.1,a.2.2.2.1,a.2.2.2.2)) else none) else none
def M.kS level p p1 p2 p3 p4 c c1 c2 c3:=M.OC level p p1 p2 p3 p4 c c1 c2 c3 some
def C.kS:=fTa S.kS (λx=>M.OC x.1.2.1 x.1.2.2.1.1 x.1.2.2.1.2.1 x.1.2.2.1.2.2.1 x.1.2.2.1.va.1 x.1.2.2.1.va.2.1 x.2.1.1 x.2.1.2.1 x.2.1.2.2.1 x.2.1.va.1) [fe C.aK,fe C.nJ,fe C.yh]
abbrev M.bK(r408:Bool×ay×Int×Bool×ay)(x':Int)(kQ qj uq sG:Bool)(right:Int)(aG:zab)(EN:ay)(kn:Int×ay×Int×Bool×ay×Bool×ay->Option R)(n':Int):=bif ah r408.2.2.2.2 then((M.bT r408.2.1 r408.2.2.1 r408.2.2.2.1 r408.2.2.2.2).bind λc=>(M.bP x' kQ qj uq sG right).bind λa=>bif ah c.2.2.2 then((aG a.1 a.2.1 a.2.2.1 a.2.2.2.1 a.2.2.2.2 c.1 c.2.1 c.2.2.1 c.2.2.2).bind λb=>(M.dJ 12 99 [] [] [] (ak [[D.sl false 5 EN],[D.sl false 5 (ak b.2.1)]])).bind λd=>kn (i64.wrap (n'+1),b.2.2.2.1,b.2.2.2.2.1,b.2.2.2.2.2.1,ak d.2.1,d.2.2,b.2.2.2.2.2.2)) else none) else none
abbrev M.bM(ac3:Int×ay×Int×Bool×ay)(x':Int)(kQ qj uq sG:Bool)(right:Int)(aG:zab)(EN:ay)(kn:Int×ay×Int×Bool×ay×Bool×ay->Option R)(n':Int):=bif ah ac3.2.2.2.2 then((M.bT ac3.2.1 (i64.wrap (ac3.2.2.1+1)) ac3.2.2.2.1 ac3.2.2.2.2).bind λc=>(M.bP x' kQ qj uq sG right).bind λa=>bif ah c.2.2.2 then((aG a.1 a.2.1 a.2.2.1 a.2.2.2.1 a.2.2.2.2 c.1 c.2.1 c.2.2.1 c.2.2.2).bind λb=>(M.dJ 12 ac3.1 [] [] [] (ak [[D.sl false 5 EN],[D.sl false 5 (ak b.2.1)]])).bind λd=>kn (i64.wrap (n'+1),b.2.2.2.1,b.2.2.2.2.1,b.2.2.2.2.2.1,ak d.2.1,d.2.2,b.2.2.2.2.2.2)) else none) else none
def M.bU(aG:zab)(level most right x':Int)(kQ qj uq sG wV:Bool)(s:Int×ay×Int×Bool×ay×Bool×ay)(kn:Int×ay×Int×Bool×ay×Bool×ay->Option R)(ke:Int×ay×Int×Bool×ay×Bool×ay->Option R):Option R:=match s with
 |(n',v,v1,v2,EN,Lm,LK)=>bif decide (n'<most) then(bif ah LK then((M.kS level x' kQ qj uq sG v v1 v2 LK).bind λa=>bif a.1 then(bif level !=8 then(bif ah a.2.2.2.2 then((M.aK a.2.1 a.2.2.1 a.2.2.2.1 a.2.2.2.2).bind λb=>bif level==3 then(M.bM b x' kQ qj uq sG right aG EN kn n') else bif level==4 then(M.bM b x' kQ qj uq sG right aG EN kn n') else (M.bP x' kQ qj uq sG right).bind λe=>bif ah b.2.2.2.2 then((aG e.1 e.2.1 e.2.2.1 e.2.2.2.1 e.2.2.2.2 b.2.1 (i64.wrap (b.2.2.1+1)) b.2.2.2.1 b.2.2.2.2).bind λd=>(M.dJ 12 b.1 [] [] [] (ak [[D.sl false 5 EN],[D.sl false 5 (ak d.2.1)]])).bind λh=>kn (i64.wrap (n'+1),d.2.2.2.1,d.2.2.2.2.1,d.2.2.2.2.2.1,ak h.2.1,h.2.2,d.2.2.2.2.2.2)) else none) else none) else bif level==3 then(M.bK a x' kQ qj uq sG right aG EN kn n') else bif level==4 then(M.bK a x' kQ qj uq sG right aG EN kn n') else (M.bP x' kQ qj uq sG right).bind λg=>bif ah a.2.2.2.2 then((aG g.1 g.2.1 g.2.2.1 g.2.2.2.1 g.2.2.2.2 a.2.1 a.2.2.1 a.2.2.2.1 a.2.2.2.2).bind λc=>(M.dJ 12 99 [] [] [] (ak [[D.sl false 5 EN],[D.sl false 5 (ak c.2.1)]])).bind λf=>kn (i64.wrap (n'+1),c.2.2.2.1,c.2.2.2.2.1,c.2.2.2.2.2.1,ak f.2.1,f.2.2,c.2.2.2.2.2.2)) else none) else ke (n',a.2.1,a.2.2.1,a.2.2.2.1,EN,Lm,a.2.2.2.2)) else none) else ke (n',v,v1,v2,EN,Lm,LK)
def M.aU aG level most right x' kQ qj uq sG wV s:=M.bU aG level most right x' kQ qj uq sG wV s (λs=>some (Sum.inl s)) λt=>some (Sum.inr t)
def M.jA aG level most right x' kQ qj uq sG wV s:=fQ (M.aU aG level most right x' kQ qj uq sG wV) s
def F.jA{aG:zab}(fM:S.dX.ok X0 λx=>ng aG x.1.2.1 x.2.1.1 x.2.1.2.1 x.2.1.2.2.1 x.2.1.va.1):LE X0 99:=le 6 (Iw [dH 0 (pP 100000 0),dH 2 pI,dH 3 pI,dH 5 (pP 300000 0),dH 8 (pP 300001 0),dH 10 pI,dH 11 (pP 300002 0),dH 12 pI] [dH 100000 (cB 48 [pL false 3,pI,pB,pO 300003 0]),dH 300000 (cB 88 [pI,pB,pB,pB,pB]),dH 300001 (cB 85 [TW 5,pB]),dH 300002 (cB 85 [pL false 5,pB]),dH 300003 (cA false true 0 3)]) (λx=>(x.1.va.va.2.1,x.2.1.1,x.2.1.2.1,x.2.1.2.2.1,x.va.2.1.1,x.va.2.1.2.1,x.va.2.2.1)) (λx s=>(((),x.1.2.1,x.1.2.2.1,(),(),x.1.va.2.2.1,(),s.1,()),((s.2.1,s.2.2.1,s.va.1,(),()),(x.2.2.1.1,x.2.2.1.2.1,x.2.2.1.2.2.1,x.2.2.1.va.1,x.2.2.1.va.2.1,()),((),x.va.1.2.1,()),(s.va.2.1,s.va.2.2.1,()),s.va.va,()))) (λx=> .leaf (Int×ay×Int×Bool×ay×Bool×ay) (λt=>(Ex.exit 0,⟨[(0,V.ptr 100000 0),(2,iP x.1.2.1),(3,iP x.1.2.2.1),(5,V.ptr 300000 0),(8,V.ptr 300001 0),(10,iP x.1.va.2.2.1),(11,V.ptr 300002 0),(12,iP t.1),(38,lD false)],[(100000,Cell.box 48 [Gm 3 t.2.1,iP t.2.2.1,lD t.va.1,V.own 300003 0]),(300000,Cell.box 88 [iP x.2.2.1.1,lD x.2.2.1.2.1,lD x.2.2.1.2.2.1,lD x.2.2.1.va.1,lD x.2.2.1.va.2.1]),(300001,Cell.box 85 [V.nil 5,lD x.va.1.2.1]),(300002,Cell.box 85 [Gm 5 t.va.2.1,lD t.va.2.2.1]),(300003,Cell.arr false true 0 3 t.va.va)]⟩))) (λx=>M.bU aG x.1.2.1 x.1.2.2.1 x.1.va.2.2.1 x.2.2.1.1 x.2.2.1.2.1 x.2.2.1.2.2.1 x.2.2.1.va.1 x.2.2.1.va.2.1 x.va.1.2.1) [fe C.kS,fe C.aK,fe C.bT,fe C.bP,fe fM,fe C.dJ] [] (by rintro _ _ ⟨_,_,_,_,_,_,_⟩ _ _<;>unfold M.bU M.bM M.bK<;>repeat' first|(with_reducible first|apply dn|apply uM|apply uN|apply uO|apply uP)|intro _|apply dn|rfl)
abbrev M.oD(c3:ay)(aG:zab)(aqa:Int×Bool×Bool×Bool×Bool)(c:ay)(c1:Int)(c2:Bool)(level most:Int)(awn:Int×Int)(p:Int)(p1 p2 p3 p4:Bool)(k:Bool×ay×Bool×ay×Int×Bool×ay->Option R):=bif ah c3 then((aG aqa.1 aqa.2.1 aqa.2.2.1 aqa.2.2.2.1 aqa.2.2.2.2 c c1 c2 c3).bind λb=>(M.jA aG level most awn.2 p p1 p2 p3 p4 false (0,b.2.2.2.1,b.2.2.2.2.1,b.2.2.2.2.2.1,ak b.2.1,b.2.2.1,b.2.2.2.2.2.2)).bind λa=>bif ah a.2.2.2.2.2.2 then(k (false,a.2.2.2.2.1,a.2.2.2.2.2.1,a.2.1,a.2.2.1,a.2.2.2.1,a.2.2.2.2.2.2)) else none) else none
def M.l9(aG:zab)(p:Int)(p1 p2 p3 p4:Bool)(level most:Int)(c:ay)(c1:Int)(c2:Bool)(c3:ay)(k:Bool×ay×Bool×ay×Int×Bool×ay->Option R):=(M.tV level).bind λd=>(M.qy d).bind λa=>bif decide (most>1) then((M.bP p p1 p2 p3 p4 (i64.wrap (level+1))).bind λe=>M.oD c3 aG e c c1 c2 level most a p p1 p2 p3 p4 k) else (M.bP p p1 p2 p3 p4 a.1).bind λb=>M.oD c3 aG b c c1 c2 level most a p p1 p2 p3 p4 k
def C.aeT{aG:zab}(fM:S.dX.ok X0 λx=>ng aG x.1.2.1 x.2.1.1 x.2.1.2.1 x.2.1.2.2.1 x.2.1.va.1):S.EI.ok X0 λx=>ng (M.l9 aG) x.1.2.1 x.1.2.2.1 x.1.va.1 x.2.1.1 x.2.1.2.1 x.2.1.2.2.1 x.2.1.va.1 some:=fnS (λx=>M.l9 aG x.1.2.1.1 x.1.2.1.2.1 x.1.2.1.2.2.1 x.1.2.1.va.1 x.1.2.1.va.2.1 x.1.2.2.1 x.1.va.1 x.2.1.1 x.2.1.2.1 x.2.1.2.2.1 x.2.1.va.1) [fe C.tV,fe C.qy,fe C.bP,fe fM] [F.jA fM] (by intros;unfold M.l9 M.oD;repeat' first|(with_reducible first|apply dn|apply uM|apply uN|apply uO|apply uP)|intro _|apply dn|rfl)
def M.Iy(aG:zab)(p:Int)(p1 p2 p3 p4:Bool)(c:ay)(c1:Int)(c2:Bool)(c3:ay)(k:Bool×ay×Bool×ay×Int×Bool×ay->Option R):=(M.bP p p1 p2 p3 p4 13).bind λe=>bif ah c3 then((aG e.1 e.2.1 e.2.2.1 e.2.2.2.1 e.2.2.2.2 c c1 c2 c3).bind λa=>bif a.2.2.2.2.2.1 then(bif ah a.2.2.2.2.2.2 then(k (false,ak a.2.1,a.2.2.1,a.2.2.2.1,a.2.2.2.2.1,a.2.2.2.2.2.1,a.2.2.2.2.2.2)) else none) else bif ah a.2.2.2.2.2.2 then((M.aK a.2.2.2.1 a.2.2.2.2.1 a.2.2.2.2.2.1 a.2.2.2.2.2.2).bind λb=>bif b.1 !=60 then(bif ah b.2.2.2.2 then(k (false,ak a.2.1,a.2.2.1,b.2.1,b.2.2.1,b.2.2.2.1,b.2.2.2.2)) else none) else bif ah b.2.2.2.2 then((M.aH 60 b.2.1 b.2.2.1 b.2.2.2.1 b.2.2.2.2).bind λf=>(M.bP p p1 p2 p3 p4 11).bind λg=>bif ah f.2.2.2.2.2.2 then((aG g.1 g.2.1 g.2.2.1 g.2.2.2.1 g.2.2.2.2 f.2.2.2.1 f.2.2.2.2.1 f.2.2.2.2.2.1 f.2.2.2.2.2.2).bind λd=>(M.dJ 12 60 [] [] [] (ak [[D.sl false 5 (ak a.2.1)],[D.sl false 5 (ak d.2.1)]])).bind λh=>bif ah d.2.2.2.2.2.2 then(k (false,ak h.2.1,h.2.2,d.2.2.2.1,d.2.2.2.2.1,d.2.2.2.2.2.1,d.2.2.2.2.2.2)) else none) else none) else none) else none) else none
def C.ah8{aG:zab}(fM:S.dX.ok X0 λx=>ng aG x.1.2.1 x.2.1.1 x.2.1.2.1 x.2.1.2.2.1 x.2.1.va.1):S.Gp.ok X0 λx=>ng (M.Iy aG) x.1.2.1 x.2.1.1 x.2.1.2.1 x.2.1.2.2.1 x.2.1.va.1 some:=fnS (λx=>M.Iy aG x.1.2.1.1 x.1.2.1.2.1 x.1.2.1.2.2.1 x.1.2.1.va.1 x.1.2.1.va.2.1 x.2.1.1 x.2.1.2.1 x.2.1.2.2.1 x.2.1.va.1) [fe C.bP,fe fM,fe C.aK,fe C.aH,fe C.dJ] [] (by intros;unfold M.Iy;repeat' first|(with_reducible first|apply dn|apply uM|apply uN|apply uO|apply uP)|intro _|apply dn|rfl)
abbrev M.FM(Xi:Int×ay×Int×Bool×ay)(p:Int)(p1 p2 p3 p4:Bool)(aG:zab)(k:Bool×ay×Bool×ay×Int×Bool×ay->Option R):=bif ah Xi.2.2.2.2 then((M.aH Xi.1 Xi.2.1 Xi.2.2.1 Xi.2.2.2.1 Xi.2.2.2.2).bind λb=>(M.bP p p1 p2 p3 p4 11).bind λc=>bif ah b.2.2.2.2.2.2 then((aG c.1 c.2.1 c.2.2.1 c.2.2.2.1 c.2.2.2.2 b.2.2.2.1 b.2.2.2.2.1 b.2.2.2.2.2.1 b.2.2.2.2.2.2).bind λa=>(M.dJ 11 Xi.1 [] [] [] (ak [[D.sl false 5 (ak a.2.1)]])).bind λd=>bif ah a.2.2.2.2.2.2 then(k (false,ak d.2.1,d.2.2,a.2.2.2.1,a.2.2.2.2.1,a.2.2.2.2.2.1,a.2.2.2.2.2.2)) else none) else none) else none
def M.Dv(aG:zab)(nX:zab)(p:Int)(p1 p2 p3 p4:Bool)(c:ay)(c1:Int)(c2:Bool)(c3:ay)(k:Bool×ay×Bool×ay×Int×Bool×ay->Option R):=bif ah c3 then((M.aK c c1 c2 c3).bind λb=>bif b.1==56 then(M.FM b p p1 p2 p3 p4 aG k) else bif b.1==55 then(M.FM b p p1 p2 p3 p4 aG k) else bif b.1==61 then(M.FM b p p1 p2 p3 p4 aG k) else bif ah b.2.2.2.2 then((nX p p1 p2 p3 p4 b.2.1 b.2.2.1 b.2.2.2.1 b.2.2.2.2).bind λa=>bif ah a.2.2.2.2.2.2 then(k (false,ak a.2.1,a.2.2.1,a.2.2.2.1,a.2.2.2.2.1,a.2.2.2.2.2.1,a.2.2.2.2.2.2)) else none) else none) else none
def C.aeU{aG:zab}{nX:zab}(fM:S.dX.ok X0 λx=>ng aG x.1.2.1 x.2.1.1 x.2.1.2.1 x.2.1.2.2.1 x.2.1.va.1)(Vu:S.Gp.ok X0 λx=>ng nX x.1.2.1 x.2.1.1 x.2.1.2.1 x.2.1.2.2.1 x.2.1.va.1):S.EJ.ok X0 λx=>ng (M.Dv aG nX) x.1.2.1 x.2.1.1 x.2.1.2.1 x.2.1.2.2.1 x.2.1.va.1 some:=fnS (λx=>M.Dv aG nX x.1.2.1.1 x.1.2.1.2.1 x.1.2.1.2.2.1 x.1.2.1.va.1 x.1.2.1.va.2.1 x.2.1.1 x.2.1.2.1 x.2.1.2.2.1 x.2.1.va.1) [fe C.aK,fe C.aH,fe C.bP,fe fM,fe C.dJ,fe Vu] [] (by intros;unfold M.Dv M.FM;repeat' first|(with_reducible first|apply dn|apply uM|apply uN|apply uO|apply uP)|intro _|apply dn|rfl)
abbrev M.MI(kind:Int)(k:Bool->Option R):=bif kind==51 then(k true) else k (kind==52)
def M.rO kind:=M.MI kind some
def C.rO:=fTa S.rO (λx=>M.MI x.1.1)
end
end Go.Proofs.YtoaeipkhadpbiaaGreatDoor
