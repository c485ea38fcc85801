import Derived.Test.YtbkndkcpmnjaeaaGreatDoorVm4
import Derived.Test.YtbkndkcpmnjaeaaGreatDoorProg
import Derived.Test.YtbkndkcpmnjaeaaGreatDoorPPrim
set_option linter.defProp false
namespace Go.Proofs.YtbkndkcpmnjaeaaGreatDoor
open Go Go.Vm
open Go.IntKind (i64)
set_option linter.unusedVariables false
set_option linter.unusedSimpArgs false
def gW{R:Type}(x r:aA)(n:Nat)(k:aA->Option R):Option R:=bif((x.length+r.length) * n).ble 140737488355328 then(bif(x.length+r.length).ble 140737488355328 then k (x++r) else none) else none
def mF(r:Int×Int×aF×aA×Int):Row:=[D.int .i64 r.1,D.int .i64 r.2.1,D.str r.2.2.1,D.sl false 5 (aJ r.2.2.2.1),D.int .i64 r.2.2.2.2]
def CX(r:Int×Int×aF×aA×Int):Int×Int×aF×aA×Int:=(r.1,r.2.1,r.2.2.1,aJ r.2.2.2.1,r.2.2.2.2)
def nT{R:Type}(n:Nat)(x:Row)(k:Int->Int->aF->aF->aA->Option R):Option R:=(fZ .i64 x 0).bind λa=>(fZ .i64 x 1).bind λb=>(cStr x 2).bind λc=>(cStr x 3).bind λd=>(TD n x 4).bind λe=>k a b c d e
abbrev dH{A B C D E F G:Type}(f:A->B->C->D->E->G)(p:A×B×C×D×E×F):G:=f p.1 p.2.1 p.2.2.1 p.2.2.2.1 p.2.2.2.2.1
abbrev jZ(n:Int):V:=V.d (D.int .i64 n)
abbrev y5(b:Bool):V:=V.d (D.bool b)
abbrev xP(s:aF):V:=V.d (D.str s)
abbrev Jr(n:Nat)(r:aA):V:=V.d (D.sl false n r)
def mg:(∀(R:Type) (x r:aA) (n:Nat) (k:aA->Option R),gW x r n k=bif((x.length+r.length) * n).ble 140737488355328 then(bif(x.length+r.length).ble 140737488355328 then k (x++r) else none) else none)∧(∀r,mF r=[D.int .i64 r.1,D.int .i64 r.2.1,D.str r.2.2.1,D.sl false 5 (aJ r.2.2.2.1),D.int .i64 r.2.2.2.2])∧(∀r,CX r=(r.1,r.2.1,r.2.2.1,aJ r.2.2.2.1,r.2.2.2.2))∧(∀(R:Type) (n:Nat) (x:Row) (k:Int->Int->aF->aF->aA->Option R),nT n x k=(fZ .i64 x 0).bind λa=>(fZ .i64 x 1).bind λb=>(cStr x 2).bind λc=>(cStr x 3).bind λd=>(TD n x 4).bind λe=>k a b c d e):= ⟨λ_ _ _ _ _=>rfl,λ_=>rfl,λ_=>rfl,λ_ _ _ _=>rfl⟩
noncomputable section
def kp3:=[[0],[0,10],[2],[3],[3,4],[3,4,17],[2],[3,4,5],[3,4,5,6],[3,4,5,6,7],[3,4,5,6,7,31],[3,4,5,6,7],[3,4,5,6,7,8],[3,4,5,6,7,8,47],[2],[3,4,5,6,7,8,56],[3,4,5,6,7,78],[2],[3,4,5,6,7],[2]]
def kp4:=[[0],[2]]
def kp5:=[[0],[3],[3,7],[2],[2]]
def kp6:=[[0],[0,3],[0,3,9],[2],[0,3,17,18,19],[0,3,17,18,19,20],[0,3,5,17,18,19],[0,3,5,17,18,19,28],[0,3,17,18,19],[0,3,17,18,19],[2]]
def kp7:=[[0],[2]]
def kp8:=[[0,1],[0,1,21],[4],[5],[5,26],[5,26,27],[4],[5,26,29],[4],[5,26,31],[4],[5,26,35],[5,35],[5,6],[6,40,41,42],[6,40,41,42,43],[6,8,40,41,42],[6,8,40,41,42,48],[6,9,40,41,42],[6,40,41,42],[6,40,41,42],[4],[4]]
def kp9:=[[0,1],[0,1,15],[4],[4]]
def aMT:=[[0],[0,7],[2],[0,3],[0,3,4],[0,3,4,11],[0,3,4,5],[0,3,4,5,15],[0,3,4,5],[0,3,4],[0,3,4],[3,27],[2],[2]]
def aMU:=[[0],[0,3],[0,3,4],[0,3,4,8],[0,3,4],[0,3,4,32],[0,3,4],[2]]
def aMV:=[[0,1],[0,1,15],[4],[4]]
def aMW:=[[0,1],[0,1,10],[4],[0,1,5],[0,1,5,14],[0,1,5],[0,1,5,25],[4],[4]]
def aMX:=[[0],[0,5],[2],[2]]
def aMY:=[[0],[0,3],[0,3,4],[0,3,4,15],[0,3,4],[0,3,4],[2]]
def aMZ:=[[0,1],[4]]
def aM0:=[[0],[0,3],[0,3,4],[0,3,4,12],[0,3,4,12,13],[3],[0,3,4,12,21],[3],[0,3,4,12,30],[3],[0,3,4,12,39],[3],[0,3,48],[2],[2]]
def aM1:=[[0],[0,3],[0,3,4],[0,3,4,10],[0,3,4],[0,3,4],[0,5],[0,5,23],[2]]
def aM2:=[[0],[2]]
def aM3:=[[0],[2]]
def aM4:=[[0],[0,3],[3,6,7,8],[3,6,7,8,9],[3,5,6,7,8],[3,6,7,8,24],[3,6,7,8],[3,6,7,8],[2]]
def aM5:=[[0,1],[0,1,8],[4],[4]]
def aM6:=[[0],[0,12],[2],[0,3],[0,3,16],[0,3],[0,3,24],[2],[0,3,4],[0,3,4,32],[0,3,4],[0,3,4,53],[2],[2]]
def aM7:=[[0],[0,9],[2],[0,10,11,12],[0,10,11,12,13],[0,4,10,11,12],[0,4,10,11,12,18],[2],[0,4,10,11,12,20,21,22],[0,4,10,11,12,20,21,22,23],[0,4,5,6,10,11,12,20,21,22],[0,4,10,11,12,20,21,22,35],[2],[0,4,10,11,12,20,21,22],[0,10,11,12],[2]]
def aM8:=[[0,1,2],[6]]
def aM9:=[[0,1,4],[0,4,5],[0,4,5,6],[0,4,6,23,24,25],[0,4,6,23,24,25,26],[0,4,6,8,23,24,25],[0,4,6,23,24,25],[0,4,6,23,24,25],[4]]
def aNa:=[[1],[1,3],[1,3,13,14,15],[1,3,13,14,15,16],[1,3,5,13,14,15],[1,3,13,14,15],[1,3,13,14,15],[2]]
def aNb:=[[1,2],[2]]
def aNc:=[[1],[1,10],[1,10,11],[2,3],[1,10,15],[2,3],[1,17],[2,3],[1,4],[4,21,22,23],[4,21,22,23,24],[4,6,21,22,23],[4,7,8,21,22,23],[4,7,21,22,23,33],[2,3],[4,21,22,23],[4,21,22,23],[2,3]]
def aNd:=[[0,1],[0,1,12],[0,1,12,13],[4],[0,1,15],[4],[0,1,5],[0,1,5,22],[0,1,5,29],[0,1,5],[0,1,5],[0,1,5,39,40,41],[0,1,5,39,40,41,42],[0,1,5,7,39,40,41],[0,1,5,7,39,40,41,49],[0,1,5,7,39,40,41],[0,1,5,39,40,41],[0,1,5,39,40,41],[0,1,5,8],[0,1,8],[0,1,8],[1,8,63,64,65],[1,8,63,64,65,66],[1,8,10,63,64,65],[1,8,10,63,64,65],[1,8,63,64,65],[1,8,63,64,65],[4]]
def aNe:=[[0,1,2],[6]]
def aNf:=[[0,1],[0,1,5],[0,1,5,6],[0,1,5,6,21],[0,1,5,6,21,22],[4],[0,1,5,6,21,24],[4],[0,1,5,6,21,26],[0,1,7],[7,8],[7,8,9],[7,8,9,38],[7,8,9],[7,8,9,42],[7,8,9],[7,8,9],[4],[0,5,6,21,53],[0,5,6,53],[0,5,6,10],[0,5,6,10,11],[0,5,6,10,11,60],[0,5,6,10,11],[0,5,6,10,11,72],[0,5,6,10,11,12],[0,5,6,10,11,12,86],[0,5,6,10,11,12],[0,5,6,10,11],[4],[4]]
def aNg:=[[0],[2]]
def aNh:=[[0],[0,8],[2],[0,3,4],[2]]
def aNi:=[[0,1],[0,1,5],[4]]
def aNj:=[[0,1],[0,1,5],[0,1,5,6],[0,1,5,6,15],[0,1,5,6],[0,1,5,6,30],[0,1,5,6],[4]]
def aNk:=[[0,1],[0,1,10],[4],[0,1,12],[4],[0,1,5],[0,1,5,6],[0,1,5,6,7],[1,5,6,7,8],[4]]
def aNl:=[[0],[0,4],[0,4,5],[0,4,5],[2],[0,10],[2],[2]]
def aNm:=[[0,1],[4]]
def aNn:=[[0,1],[4]]
def aNo:=[[0],[0,3],[0,3,4],[0,3,4,12],[0,3,4,12,13],[2],[0,3,4,12,18],[3],[0,3,4,12,35],[0,3,4,43],[3],[3,55],[2],[2]]
def aNp:=[[0],[0,3],[0,3,10],[0,3,10,11],[2],[0,3,10,22],[2],[0,3,10,30],[2],[0,3,10,38],[2],[0,3,10,47],[2],[0,3,10,59],[0,3,4],[0,3,4,5],[0,3,4,5,65],[0,3,4,5],[0,3,4,5],[2],[0,3,86],[2],[2]]
def aNq:=[[1,2],[1,2,5],[1,2,5],[1,2,5,6],[1,2,5,6,13],[1,2,5,6],[1,2,5,6],[1,2,5,6],[4]]
def aNr:=[[0],[2]]
def aNs:=[[0],[2]]
def aNt:=[[0,1],[0,1,5,6],[1,5,21],[4],[4]]
def aNu:=[[1],[2]]
def aNv:=[[0],[0,9],[2],[0,3],[0,3,4],[0,3,4,14],[0,3,4],[0,3,4,5],[0,3,4,5,6],[0,3,4,5,6,24],[0,3,4,5,6],[0,3,4,5,6],[0,3,4],[2]]
def aNw:=[[1],[1,3,4],[1,3,4,5],[2]]
def aNx:=[[1,2,3],[1,2,3,7],[1,2,3,7,8],[1,2,3,7,8,18],[1,2,3,7,8,18,19],[1,2,3,7,8,18,19],[6],[1,2,3,7,8,18,24],[6],[1,2,3,7,8,18,36],[6],[1,2,3,7,8,18,51],[6],[1,2,3,7,8,18,66],[6],[1,2,3,7,8,18,81],[6],[1,2,3,7,8,18,100],[1,2,3,7,8,18,100],[1,2,3,7,8,18,100],[6],[1,2,3,7,8,18,105],[6],[1,2,3,7,8,18,109],[6],[1,2,7,8,18,145],[6],[2,7,8,18,160],[6],[2,174],[6],[6]]
def aNy:=[[0],[4],[2]]
def aNz:=[[1],[1,3],[2],[1,3,5],[1,3],[1,3],[1,3,15],[1,3],[1,3,29],[1,3],[1,3,35],[1,3],[2]]
def aNA:=[[1,2,3],[1,2,3,7],[1,2,3,7,8],[1,2,3,7,8,16],[1,2,3,7,8,16,17],[1,2,3,7,8,16,17],[6],[1,2,3,7,8,16,22],[6],[1,2,3,7,8,16,38],[1,2,3,7,8,16,38],[2,8],[1,2,3,7,8,16,43],[2,7,50],[6],[2,8],[1,2,3,7,8,16,52],[2,8],[2,3,7,8,16,56],[2,3,7,8,16,56],[2,3,7,8,16,56],[2,8],[2,3,7,8,16,60],[6],[2,3,7,8,16,64],[2,8],[2,3,7,8,16,72],[2,8],[2,7,8,16,80],[2,83],[6],[2,8],[2,8,86],[6],[2,94],[6],[6]]
def aNB:=[[0,2],[2]]
def aNC:=[[1],[1,3],[3,7,8,9],[3,7,8,9,10],[3,5,7,8,9],[3,7,8,9],[3,7,8,9],[2]]
def aND:=[[2,3,4],[2,3,4,8],[4],[4]]
def aNE:=[[0],[0]]
def aNF:=[[0,1],[0,1,5],[0,1,5,6],[0,1,5,6,16],[0,1,5,6],[0,1,5,6],[4]]
def aNG:=[[0],[0,8],[2,3],[0,4],[0,4,5],[0,4,5,13],[0,4,5],[0,4,5,20],[0,4,5,20,21],[0,4,5],[0,4,5,20,30],[0,4,5],[0,4,5,35],[2,3],[2,3]]
def aNH:=[[1,3,5],[1,3,5,13],[6],[6]]
def aNI:=[[0],[0]]
def aNJ:=[[0],[0,4],[0,4,5],[0,4,5,12],[0,4,5],[0,4,5,6],[0,4,5,6,7],[0,4,5,6,7,24],[0,4,5,6,7],[0,4,5,6,7,41],[2,3],[0,4,5,6,7],[0,4,5],[2,3]]
def aNK:=[[0,1],[0,1,5],[0,1,5,6],[0,1,5,6,13],[0,1,5,6],[0,1,5,6,7],[0,1,5,6,7],[0,1,5,6,7,8],[0,1,5,6,7,8,29],[0,1,5,6,7,8],[0,1,5,6,7,8],[0,1,5,6],[4]]
def aNL:=[[0],[0],[0,3],[0,3,34],[0,3],[3],[2]]
def aNM:=[[0],[0,3],[0,3,11],[2]]
def aNN:=[[0,1],[0,1,11],[4],[0,1,17],[0,1,17,18],[4],[0,1,17,29],[4],[0,1,17,44],[4],[0,1,17,55],[4],[0,1,66],[4],[0,1,82],[4],[4]]
def aNO:=[[0,1],[0,1,5],[0,1,5,6],[0,1,5,6,11],[0,1,5,6],[0,1,5,6],[4]]
def aNP:=[[0,1],[0,1,7],[4],[0,1,5],[0,1,5,14],[0,1,5,14,15],[4],[0,1,5,14,19],[4],[0,1,5,14,24],[4],[0,1,5,14,33],[4],[0,1,5,14,43],[4],[0,1,5,14,54],[4],[0,1,5,14,64],[4],[0,1,14,74],[0,1,14,74],[4],[0,1,14,87],[4],[0,1,14,97],[4],[0,1,114],[4],[4]]
def aNQ:=[[0],[2]]
def aNR:=[[0,2,3,9,30],[0,2,3,9,13,30],[2,3],[0,2,3,4,9,30],[0,2,3,4,9,17,18,19,30],[0,2,3,4,9,17,18,19,20,30],[0,2,3,4,5,6,9,17,18,19,30],[0,2,3,4,5,6,7,9,17,18,19,30],[0,2,3,4,5,7,9,17,18,19,28,30],[0,2,3,4,5,7,9,17,18,19,28,30],[0,2,3,4,5,7,9,17,18,19,28,30,37],[2,3],[0,2,3,4,5,7,9,17,18,19,28,30],[0,2,3,4,9,17,18,19,30],[0,2,3,4,9,17,18,19,30],[2,3]]
def aNS:=[[1,2],[1,2,5],[1,5,18,19,20],[1,5,18,19,20,21],[1,5,7,18,19,20],[1,5,18,19,20],[1,5,18,19,20],[1,5,18,19,20],[4]]
def aNT:=[[1],[1,6],[1,6,7],[1,6,7],[2,3],[1,6,10],[1,6,10],[1,6,10],[2,3],[1,6,14],[1,6,14],[1,6,14],[1,6,14],[1,6,14],[1,6,14],[1,6,14],[1,6,14],[2,3],[1,6,23],[1,6,23],[1,6,23],[1,6,23],[2,3],[1,6,28],[2,3],[1,6,30],[1,4],[4,36],[2,3],[2,3],[1,6,40],[1,6,40],[2,3],[1,6,43],[2,3],[1,6,45],[2,3],[1,6,47],[1,6,47],[2,3],[1,6,53],[2,3],[1,6,63],[2,3],[73],[2,3],[2,3]]
def aNU:=[[1],[1,4],[1,4,5],[1,4,5],[2],[1,4,16],[2],[1,4,31],[2],[1,4,36],[2],[1,4,41],[2],[1,4,46],[2],[1,51],[2],[2]]
def aNV:=[[1],[1,4],[1,4,5],[1,4,5],[1,4,5],[1,4,5],[1,4,5],[1,4,5],[2],[1,4,20],[2],[1,4,31],[2],[1,4,42],[2],[1,4,53],[2],[1,4,64],[2],[1,4,74],[2],[1,84],[2],[2]]
def aNW:=[[0],[2]]
def aNX:=[[0],[2]]
def aNY:=[[0],[2]]
def aNZ:=[[1,2],[1,2,4],[1,2,4,5],[2],[1,2,4,14],[1,2,4,14],[1,2,4,14],[2],[1,2,4,31],[1,2,4,31],[2],[1,2,4,41],[2],[1,2,4,50],[2],[1,2,4,59],[2],[1,2,4,68],[1,2,4,68],[2],[1,2,4,78],[2],[1,2,4,97],[2],[1,2,107],[2],[2]]
def aN0:=[[1,2],[1,2,3],[1,2,3,15],[1,2,3,15,16],[2,3],[1,2,3,15,20],[1,2,3],[1,2,3],[1,2,3],[2,3,42],[2,3],[1,2,3,15,51],[1,2,3,15,51],[2,3],[1,2,3,15,55],[2,3],[1,2,3,15,62],[2,3],[1,2,3,15,66],[1,2,3,15,66],[2,3],[1,2,3,15,71],[2,3],[1,2,3,15,75],[2,3],[1,2,3,15,87],[2,3],[1,2,3,90],[2,3],[2]]
def aN1:=[[1,2],[1,2,3],[1,2,3,15],[2,3],[1,2,3,15,17],[1,2,3,15,17],[2,3],[1,2,3,15,22],[1,2,3],[2,3,31],[2,3],[2,3],[1,2,3,15,36],[1,2,3],[2,3,50],[2,3],[2,3],[1,2,3,55],[2,3],[2]]
def aN2:=[[0],[2]]
def aN3:=[[0],[2]]
def aN4:=[[2,3],[2,3,5],[2,3,5,8],[4],[2,3,5,16],[4],[2,3,5,24],[4],[2,3,5,37],[4],[4]]
def aN5:=[[1,2],[1,2,3],[2,3,16,17],[2,3,16,17,18],[2,3,4,16,17],[2,3,16,17],[2,3,16,17],[2]]
def aN6:=[[2,3,4],[2,3,4,8],[2,3,4,8,9],[2,3,4,8,9],[2,3,4,8,9],[2,3,4,8,9],[4],[2,3,4,8,17],[4],[2,3,4,8,29],[2,3,4,8,29],[4],[2,3,4,8,42],[4],[2,3,4,8,53],[4],[2,3,4,8,64],[4],[2,3,4,8,72],[4],[2,3,4,8,77],[4],[2,3,4,92],[2,3,4,97],[4],[4],[2,4,5,6],[2,4,5,6,123],[4],[2,4,5,6,137],[4],[4]]
def aN7:=[[0,2],[2]]
def aN8:=[[0,2],[2]]
def aN9:=[[0],[0,9],[2],[0,3],[0,3,13],[0,3],[0,3,21],[2],[0,4,5],[2]]
def aOa:=[[2,3],[2,3,5],[4],[2,3,14],[4],[2,3,22],[4],[2,3,35],[4],[2,3,53],[4],[4]]
def aOb:=[[1,3,5],[3,5,7],[3,5,7,8],[3,5,7,8,19],[6],[3,5,7,24],[3,5,7,24,25],[6],[3,5,7,24,30],[3,5,7,24,30],[6],[3,5,7,24,36],[6],[3,5,7,24,50],[6],[3,5,7,24,64],[6],[3,5,7,24,78],[6],[3,5,7,24,103],[3,5,7,9],[3,5,7,9,122],[3,5,7,9],[6],[3,5,7,24,138],[6],[3,5,7,171],[3,5,7,176],[6],[6],[6]]
def aOc:=[[0,1,2],[0,1,2,7],[2,7,8],[2,7,8,9],[2,7,8,9,17],[2,7,8,9],[2,7,8,9],[2,7,8,9],[6]]
def aOd:=[[0],[2]]
def aOe:=[[0,1],[0,1,8],[0,1,8,9],[0,1,8,9],[0,1,5],[0,1,5,6],[0,1,5,6,21],[0,1,5,6],[5,6],[4],[0,1,8,36],[4],[0,1,8,43],[4],[0,1,8,53],[4],[0,1,63],[0,1,66],[4],[4]]
def aDJ:=[[0,1],[0,1,6],[4],[4]]
def aDK:=[[0],[0,4],[0,4,5],[2],[0,4,11],[2],[0,17],[0,20],[2],[2]]
def aDL:=[[0,1],[0,1,6],[0,1,6,7],[4],[0,1,18],[4],[4]]
def aDM:=[[0,1,2,3],[0,1,2,3,9],[0,3,9,10],[0,3,9,10,21],[0,3,9,10],[0,3,9,10],[8]]
def aDN:=[[0],[2]]
def aDO:=[[0],[3],[3,4],[3,4],[3,4],[3,4],[3,4],[3,4],[3,4],[3,4],[3,4],[3,4],[3,4],[3,4],[3,4],[3,4],[3,4],[3,4],[4],[2],[2]]
def aDP:=[[0],[2]]
def aDQ:=[[0],[2]]
def aDR:=[[1],[1,3],[1,3,8],[1,3,8,9],[2],[1,3,8,24],[2],[1,3,8,35],[2],[1,3,8,42],[2],[1,8,49],[1,8,49],[2],[1,55],[2],[2]]
def aDS:=[[0],[2]]
def aDT:=[[0],[2]]
def aDU:=[[1],[1,5],[2],[1,7],[1,7,8],[2],[1,7,20],[2],[1,7,29],[2],[1,7,38],[2],[1,7,47],[1,7,47],[2],[1,53],[2],[2]]
def aDV:=[[0],[2]]
def aDW:=[[0],[2]]
def aDX:=[[0],[3],[3,4],[2],[3,6],[2],[3,8],[3,8],[2],[3,11],[3,11],[3,11],[3,11],[3,11],[3,11],[2],[3,18],[2],[3,20],[3,20],[2],[3,23],[3,23],[3,23],[2],[27],[2],[2]]
def aDY:=[[0],[2]]
def aDZ:=[[0,1],[4]]
def aD0:=[[1],[1,4],[1,4,5],[2],[1,4,7],[2],[1,4,9],[2],[1,4,11],[2],[4,16],[2],[4,18],[4,18],[2],[4,21],[2],[4,23],[4,23],[4,23],[4,23],[4,23],[4,23],[23],[2],[2]]
def aD1:=[[1],[2]]
def aD2:=[[0,1,4],[0,1,4,5],[1,4,5,9,10,11],[1,4,5,9,10,11,12],[1,4,5,6,7,9,10,11],[1,4,5,6,7,9,10,11,17],[1,4,5,6,7,9,10,11],[1,4,5,9,10,11],[1,4,5,9,10,11],[4]]
def aD3:=[[2],[2]]
def aD4:=[[0],[0,3],[2],[0,6],[2],[0,13],[2],[2]]
def aD5:=[[1,3,5,6],[1,3,5,6,7],[1,3,6,7,8],[1,3,6,8,17],[6],[6]]
def aD6:=[[2,3,4],[2,3,4,5],[2,3,4,5],[2,3,4,5,6],[2,3,4,6,21],[2,3,4,6],[4]]
def aD7:=[[1,2],[2]]
def aD8:=[[1,2],[2]]
def aD9:=[[0],[0]]
def aEa:=[[1],[1,20],[2],[1,22],[1,22,23],[2],[1,22,34],[1,22,34],[2],[1,22,41],[2],[1,52],[2],[2]]
def aEb:=[[0],[0,4],[0,4,5],[0,4,5,12],[0,4,5],[0,4,5,6],[0,4,5,6,7],[0,4,5,6,7,24],[0,4,5,6,7],[0,4,5,6,7,41],[2,3],[0,4,5,6,7],[0,4,5],[2,3]]
def aEc:=[[1],[2]]
def aEd:=[[1],[1,4],[1,4,5],[2],[1,4,7],[2],[1,4,9],[2],[1,4,11],[2],[4,16],[2],[4,18],[4,18],[2],[4,21],[2],[4,23],[4,23],[4,23],[4,23],[4,23],[4,23],[23],[2],[2]]
def aEe:=[[1,2],[1,2,4],[1,2,4,5],[2],[1,2,4,10],[2],[1,2,4,15],[2],[1,2,20],[2],[2]]
def aEf:=[[2,3,4,5],[8]]
def aEg:=[[0],[0,3],[2],[0,6],[2],[0,14],[2],[2]]
def aEh:=[[1,2],[4]]
def aEi:=[[1,3,5,6],[1,3,5,6,26],[6],[1,3,6,7],[1,3,6,7,40],[6],[1,3,6,7,40,42],[1,6,7],[6,7,46],[6,7],[1,3,6,7,40,48],[1,6,7],[6,7,52],[6,7],[1,3,6,7,40,54],[6,7,59],[6],[6,7],[1,3,6,7,40,62],[1,3,6,7,8,9],[1,3,6,7,9],[3,6,7,9,73],[3,6,7],[6,7],[6,7,40,80],[6,7],[6,7],[6,7,40,84],[6,7,40,84],[6,7],[6,7],[6,7,89],[6,7],[6,7],[6,7],[6]]
def aEj:=[[2,3],[2,3,31],[4],[2,3,5],[2,3,5,6],[2,3,5,44],[4],[2,3,51],[4],[2,3,63],[4],[2,8],[4]]
def aEk:=[[0,2],[2]]
def aEl:=[[1,3,5],[1,3,5,19],[6],[1,3,5,43],[6],[7],[6]]
def aEm:=[[1,3,5],[1,3,5,7],[1,3,5,7,8],[1,3,5,7,8,13],[1,3,5,7,8],[1,3,5,7,8,17],[1,3,5,7,8],[1,3,5,7,8],[6]]
def aEn:=[[3,4,5],[3,4,5,7],[4,7,8],[4,7,8,28],[4,7,8,28,29],[6],[4,7,8,28,36],[4,7,8,36],[6],[6]]
def aEo:=[[0,1],[0,1,5],[0,1,5,6],[0,1,5,6,13],[0,1,5,6],[0,1,5,6,7],[0,1,5,6,7],[0,1,5,6,7,8],[0,1,5,6,7,8,29],[0,1,5,6,7,8],[0,1,5,6,7,8],[0,1,5,6],[4]]
def aEp:=[[0],[2]]
def aEq:=[[0],[2]]
def aEr:=[[0],[2]]
def aEs:=[[0],[0,3],[0,3,7],[0,3],[0,3,15],[2],[2]]
def aEt:=[[0],[3],[3,8],[2],[2]]
def aEu:=[[0],[0,3],[0,3,7],[0,3],[0,3,13],[2],[2]]
def aEv:=[[0,1],[0,1,9],[4],[0,1,5],[0,1,5,16],[0,1,5,6],[0,1,6,29],[4],[0,1,5],[0,5,33],[4],[0,5,43],[0,5,7],[0,5,7,55],[0,5,7],[0,5,7,62],[4],[4]]
def aEw:=[[0,1],[4]]
def aEx:=[[0,1],[1,5],[5,12],[4],[4]]
def aEy:=[[0,1],[0,1,5],[0,1,5,9],[0,1,5],[0,1,5,17],[4],[4]]
def aEz:=[[],[0]]
def aEA:=[[0],[0,5,6],[0,5,6,7],[0,3,5,6],[0,5,6,14],[2],[0,5,6],[2]]
def aEB:=[[0],[3],[3,8],[2],[2]]
def aEC:=[[0,1],[4]]
def aED:=[[0,1],[0,1,17],[4],[0,1,5],[0,5,6],[0,5,6,27],[0,5,6,7],[0,6,7],[0,5,6],[0,5,40],[4],[0,5,8],[0,5,49],[0,5,9],[0,5,9,10],[0,5,9,60],[0,5,9],[5,9,11],[5,11,68],[4],[4]]
def aEE:=[[0,1],[4]]
def aEF:=[[0,1],[1,5],[5,12],[4],[4]]
def aEG:=[[0,1],[0,1,7,8],[0,1,7,8,9],[0,1,5,7,8],[0,1,5,7,8,16],[4],[0,1,7,8],[4]]
def aEH:=[[0],[2]]
def aEI:=[[0],[2]]
def aEJ:=[[1,3,5,6],[1,3,5,6,24],[6],[1,3,5,6,39],[6],[1,3,5,6,7],[1,3,5,6,7,53],[6,7],[1,3,5,6,7,53,75],[1,3,5,6,7,53,75],[1,3,5,6,7,53,75],[1,3,5,6,7,75],[6]]
def aEK:=[[1,2],[4]]
def aEL:=[[0,2,5,7],[0,2,7,8,9],[0,2,8,9,10],[0,9,10,24],[],[]]
def aEM:=[[2,3],[2,3,31],[4],[2,3,5,6],[2,3,6,44],[4],[2,3,51],[4],[2,3,63],[4],[2,3,72],[4],[2,8],[4]]
def aEN:=[[0,2],[2]]
def aEO:=[[0],[3],[3,4],[2],[3,6],[2],[3,8],[3,8],[2],[3,11],[3,11],[3,11],[3,11],[3,11],[3,11],[2],[3,18],[2],[3,20],[3,20],[2],[3,23],[3,23],[3,23],[2],[27],[2],[2]]
def aEP:=[[],[0]]
def aEQ:=[[],[0]]
def aER:=[[0],[5],[5,6],[2,3],[5,8],[2,3],[5,10],[2,3],[5,12],[2,3],[5,14],[2,3],[5,16],[2,3],[18],[2,3],[2,3]]
def aES:=[[0],[2]]
def aET:=[[0,1],[0,1,6],[0,1,6,7],[0,1,6,7,8],[0,1,6,7,8,9],[0,1,6,7,8,9,15],[0,1,6,7,8,9],[0,1,6,7,8,9,10],[0,1,6,7,8,9,10,56],[0,1,6,8,9,10],[0,1,6,7,8,9],[4,5]]
def aEU:=[[1,3,5],[3,5,7],[3,5,7,8],[3,5,7,8,20],[6],[3,5,7,24],[3,5,7,24,25],[6],[3,5,7,24,34],[6],[3,5,7,24,43],[6],[3,5,7,24,52],[6],[3,5,7,24,65],[6],[3,5,7,24,78],[3,5,7,9],[6],[3,5,7,24,102],[6],[3,5,7,24,116],[6],[3,5,7,132],[3,7,10],[3,7,10,146],[7,10],[7,10],[6],[6]]
def aEV:=[[],[0]]
def aEW:=[[0],[2]]
def aEX:=[[0,1],[0,1,8],[0,1],[4]]
def aEY:=[[0,1],[0,1,12],[4],[4]]
def aEZ:=[[0,1,2],[0,1,2,12],[6],[0,2,7],[0,2,7,18],[0,2,7],[0,2,7,24],[0,2,7,24,25],[6],[0,2,7,24,30],[6],[0,2,7,32],[0,2,7],[0,2,7,39],[6],[6]]
def aE0:=[[0],[2]]
def aE1:=[[0],[2]]
def aE2:=[[0,1],[0,1,8],[0,1],[4]]
def aE3:=[[0,1],[0,1,10],[4],[4]]
def aE4:=[[0,1,2],[0,1,2,12],[6],[0,2,7],[0,2,7,24],[0,2,7],[0,2,7,27],[6],[0,2,7,36],[0,2,7],[6]]
def aE5:=[[1,2],[1,2,6],[1,2,6,7],[10],[4],[4],[1,2,6,11],[14],[4],[4],[1,2,6,15],[4],[1,2,6,17],[4],[1,2,19],[4],[4]]
def aE6:=[[0,4,5],[0,4,5,6],[0,4,5,6,13],[0,6],[0,4,5,6,13,18],[0,6],[0,4,5,6,13,26],[0,6],[0,4,5,6,13,34],[0,6],[0,4,5,6,13,42],[0,6],[0,4,5,6,13,50],[0,4,5,6],[0,6],[0,4,5,6,13,62],[0,4,5,6],[0,6],[0,4,5,6,74],[0,4,5,6],[0,6],[]]
def aE7:=[[0,4,5],[0,4,5,6],[0,4,5,6,7],[0,4,5,6,7,17],[0,4,5,7],[0,4,5,27],[],[0,4],[0],[]]
def aE8:=[[0,1],[0,1,15],[4,5],[0,1,6,7],[0,1,6,7,16,17],[0,1,6,7,16,17,18],[0,1,6,7,8,9,16,17],[0,1,6,7,8,9,16,17,31],[0,1,6,7,16,17],[0,1,6,7,16,17],[4,5]]
def aE9:=[[0],[2]]
def aFa:=[[2,3,4,5],[3,9],[8]]
def aFb:=[[1,2],[4]]
def aFc:=[[1,2],[1,2,5],[1,2,5,6],[1,2,5,6,11],[1,2,5,6],[1,2,5,6,15],[1,2,5,6],[1,2,5,6],[4]]
def aFd:=[[3,4,5],[3,4,5,7],[3,4,5,7,19],[3,4,5,7],[3,4,5,7],[3,4,5,7],[6],[3,4,5,7,52],[3,4,5,7],[6]]
def aFe:=[[0],[2]]
def aFf:=[[0,1],[0,1],[1,8],[1,5,6],[1,8,9],[1,5,6],[1,8,11],[1,5,6],[1,8,13],[1,5,6],[1,8,15],[1,5,6],[1,8,17],[1,5,6],[1,8,19],[1,5,6],[1,21],[1,5,6],[5,6,24],[4],[4]]
def aFg:=[[0,2,3,6,9],[0,3,6,9],[0,3,6,9,18,19],[0,3,6,9,18,19,20],[0,3,6,9,10,18,19],[0,3,6,9,10,18,19,23],[0,3,6,9,10,18,19],[0,3,6,9,18,19],[0,3,6,9,18,19],[]]
def aFh:=[[0,4,5],[0,4,5,7],[0,4,5],[0,4,5,14],[0,4,5],[],[0,4,5,7,25],[0,4,5,7,25],[0,4,5],[],[0,4,5,7,38],[0,4,5],[],[0,4,5,7,48],[0,4],[],[0,4,5,7,60],[0,4,5,65],[0,4],[0,4],[],[0,4,5,81],[0,4,5],[0,4,5],[0,4,5],[0,4,5],[]]
def aFi:=[[0,1],[4]]
def aFj:=[[0,1],[4]]
def aFk:List (List (List Nat)):=[[],[],[],kp3,kp4,kp5,kp6,kp7,kp8,kp9,aMT,aMU,aMV,aMW,aMX,aMY,aMZ,aM0,aM1,aM2,aM3,aM4,aM5,aM6,aM7,aM8,aM9,aNa,aNb,aNc,aNd,aNe,aNf,aNg,aNh,aNi,aNj,aNk,aNl,aNm,aNn,aNo,aNp,aNq,aNr,aNs,aNt,aNu,aNv,aNw,aNx,aNy,aNz,aNA,aNB,aNC,aND,aNE,[],[],[],aNF,aNG,aNH,aNI,aNJ,aNK,aNL,aNM,aNN,aNO,aNP,aNQ,[],aNR,aNS,aNT,aNU,aNV,aNW,aNX,aNY,aNZ,aN0,aN1,aN2,aN3,aN4,aN5,aN6,aN7,aN8,[],[],aN9,aOa,aOb,aOc,aOd,aOe,aDJ,aDK,aDL,aDM,aDN,[],[],aDO,aDP,aDQ,aDR,aDS,aDT,aDU,aDV,aDW,aDX,aDY,aDZ,aD0,aD1,aD2,aD3,aD4,aD5,aD6,aD7,aD8,aD9,[],[],aEa,aEb,aEc,aEd,aEe,aEf,aEg,aEh,aEi,aEj,aEk,aEl,aEm,aEn,aEo,aEp,aEq,aEr,[],[],[],[],[],aEs,aEt,aEu,aEv,aEw,aEx,aEy,aEz,aEA,aEB,aEC,aED,aEE,aEF,aEG,aEH,aEI,aEJ,aEK,aEL,aEM,aEN,aEO,aEP,aEQ,aER,aES,aET,aEU,aEV,[],[],[],[],[],aEW,aEX,aEY,aEZ,aE0,aE1,[],aE2,aE3,aE4,aE5,aE6,aE7,aE8,aE9,aFa,aFb,aFc,aFd,[],[],aFe,[],aFf,[],aFg,aFh,aFi,[],[],[],[],aFj,[],[],[],[],[],[],[],[],[],[],[],[],[],[],[],[],[],[],[],[],[],[],[],[],[],[],[],[],[],[],[]]
def aOf(f:Nat):List Nat:=[]
def aFl(f:Nat):List Nat:=bif Nat.beq f 75 then[1] else bif Nat.beq f 90 then[0] else[]
def aFm:List (List Nat):=[]
def aOg(f:Nat):List Nat:=([(3,[12,71]),(5,[9]),(6,[32]),(8,[24,51]),(17,[51]),(28,[5]),(56,[11,12,15,16,18]),(89,[16,22,25,26,28,35,38,39,41,47,50,52,57,61,63,66,69,71,76,81,82,85,86,89,91,98,101,105,107,110,114,116,119,122,133,136,156,157,160,161,162,169,172]),(121,[19,20,28,33,34,35]),(124,[24,31]),(125,[25,28,30])]:List (Nat×List Nat)).foldr (λx r=>bif Nat.beq f x.1 then x.2 else r) []
def aOh(f d:Nat):List Nat:=bif mem? d (aOg f) then[] else List.range 200
def aFo(f:Nat):List Nat:=bif Nat.beq f 163 then[0,1] else[]
def aOi:List (List Nat):=[]
def aFp(f:Nat):List Nat:=[]
def aAQ(f:Nat):List Nat:=[]
def aFq:List (List Nat):=[[],[],[],[],[],[],[],[],[],[],[],[],[],[],[],[],[],[],[],[],[],[],[],[],[],[],[],[],[],[],[],[],[],[],[],[],[],[],[],[],[],[26,41,48]]
noncomputable def JA:Adv:=⟨λf r=>(aFk.getD f []).getD r [],λf=>aFl f,λf=>aOf f,aOh,λt=>(aFo t),λf r=>(aFm.getD f []).getD r 0,λf d=>mem? d (aAQ f),λf=>aOi.getD f [],λf=>aFp f,λf d=>mem? d (aFq.getD f [])⟩
noncomputable def X0:Ctx:=⟨Tryz.prog,JA,λf=>bif Nat.beq f 74 then some Prim.gY else bif Nat.beq f 44 then some Prim.strconv_Itoa else bif Nat.beq f 30 then some Prim.strings_Join else bif Nat.beq f 164 then some Prim.strings_Contains else none,λg=>bif Nat.beq g 4 then some Qg else bif Nat.beq g 0 then some Jq else bif Nat.beq g 1 then some Bl else bif Nat.beq g 2 then some Qe else none,λg=>bif Nat.beq g 3 then true else false,λg=>bif Nat.beq g 4 then true else false⟩
abbrev S.Qh:eH:=sg 4 [pL false 1] [] (ρ:=Bool) λr=>([[D.bool r]],[])
abbrev S.Fg:eH:=sg 15 [pL false 1] [] (ρ:=aA×Int×Int) λr=>([[D.sl false 1 r.1,D.int .i64 r.2.1,D.int .i64 r.2.2]],[])
abbrev S.nM:eH:=sg 67 [pP 100000 0] [cB 57 [pL false 1,pI,pI]] (ρ:=Int×aA×Int×Int) λr=>([[D.int .i64 r.1]],[Cell.box 57 [V.d (D.sl false 1 r.2.1),V.d (D.int .i64 r.2.2.1),V.d (D.int .i64 r.2.2.2)]])
abbrev S.aQ:eH:=sg 37 [pP 100000 0,pI] [cB 57 [pL false 1,pI,pI]] (ρ:=Int×aA×Int×Int) λr=>([[D.int .i64 r.1]],[Cell.box 57 [V.d (D.sl false 1 r.2.1),V.d (D.int .i64 r.2.2.1),V.d (D.int .i64 r.2.2.2)]])
abbrev S.je:eH:=sg 16 [pP 100000 0,pI] [cB 57 [pL false 1,pI,pI]] (ρ:=Bool×aA×Int×Int) λr=>([[D.bool r.1]],[Cell.box 57 [V.d (D.sl false 1 r.2.1),V.d (D.int .i64 r.2.2.1),V.d (D.int .i64 r.2.2.2)]])
abbrev S.fQ:eH:=sg 40 [pP 100000 0,pL false 1] [cB 57 [pL false 1,pI,pI]] (ρ:=aF×aA×Int×Int) λr=>([[D.str r.1]],[Cell.box 57 [V.d (D.sl false 1 r.2.1),V.d (D.int .i64 r.2.2.1),V.d (D.int .i64 r.2.2.2)]])
abbrev S.Fh:eH:=sg 146 [pP 100000 0] [cB 57 [pL false 1,pI,pI]] (ρ:=aF×aA×Int×Int) λr=>([[D.str r.1]],[Cell.box 57 [V.d (D.sl false 1 r.2.1),V.d (D.int .i64 r.2.2.1),V.d (D.int .i64 r.2.2.2)]])
abbrev S.Fj:eH:=sg 147 [pP 100000 0] [cB 57 [pL false 1,pI,pI]] (ρ:=aF×aA×Int×Int) λr=>([[D.str r.1]],[Cell.box 57 [V.d (D.sl false 1 r.2.1),V.d (D.int .i64 r.2.2.1),V.d (D.int .i64 r.2.2.2)]])
abbrev S.Fp:eH:=sg 148 [pP 100000 0] [cB 57 [pL false 1,pI,pI]] (ρ:=aF×aA×Int×Int) λr=>([[D.str r.1]],[Cell.box 57 [V.d (D.sl false 1 r.2.1),V.d (D.int .i64 r.2.2.1),V.d (D.int .i64 r.2.2.2)]])
abbrev S.iU:eH:=sg 72 [pP 100000 0] [cB 57 [pL false 1,pI,pI]] (ρ:=aF×aA×Int×Int) λr=>([[D.str r.1]],[Cell.box 57 [V.d (D.sl false 1 r.2.1),V.d (D.int .i64 r.2.2.1),V.d (D.int .i64 r.2.2.2)]])
abbrev S.xQ:eH:=sg 101 [pP 100000 0] [cB 57 [pL false 1,pI,pI]] (ρ:=aA×aA×Int×Int) λr=>([[D.sl true 5 r.1]],[Cell.box 57 [V.d (D.sl false 1 r.2.1),V.d (D.int .i64 r.2.2.1),V.d (D.int .i64 r.2.2.2)]])
abbrev S.oq:eH:=sg 66 [pL false 5,pI] [] (ρ:=aA) λr=>([[D.sl true 5 r]],[])
abbrev S.aW:eH:=sg 43 [kE [pI,pI,pS,pS,pL false 1],pL false 1] [] (ρ:=aA) λr=>([[D.sl true 5 r]],[])
abbrev S.zf:eH:=sg 102 [pP 100000 0,pI] [cB 57 [pL false 1,pI,pI]] (ρ:=aA×aA×Int×Int) λr=>([[D.sl true 5 r.1]],[Cell.box 57 [V.d (D.sl false 1 r.2.1),V.d (D.int .i64 r.2.2.1),V.d (D.int .i64 r.2.2.2)]])
abbrev S.lQ:eH:=sg 103 [pP 100000 0,pI,pI,pI] [cB 57 [pL false 1,pI,pI]] (ρ:=aA×aA×Int×Int) λr=>([[D.sl true 1 r.1]],[Cell.box 57 [V.d (D.sl false 1 r.2.1),V.d (D.int .i64 r.2.2.1),V.d (D.int .i64 r.2.2.2)]])
abbrev S.gG:eH:=sg 39 [pP 100000 0,pL false 1] [cB 57 [pL false 1,pI,pI]] (ρ:=Int×aA×Int×Int) λr=>([[D.int .i64 r.1]],[Cell.box 57 [V.d (D.sl false 1 r.2.1),V.d (D.int .i64 r.2.2.1),V.d (D.int .i64 r.2.2.2)]])
abbrev S.xR:eH:=sg 104 [pP 100000 0] [cB 57 [pL false 1,pI,pI]] (ρ:=Int×aA×Int×Int) λr=>([[D.int .i64 r.1]],[Cell.box 57 [V.d (D.sl false 1 r.2.1),V.d (D.int .i64 r.2.2.1),V.d (D.int .i64 r.2.2.2)]])
abbrev S.dM:eH:=sg 71 [pP 100000 0,pI] [cB 57 [pL false 1,pI,pI]] (ρ:=aA×aA×Int×Int) λr=>([[D.sl true 5 r.1]],[Cell.box 57 [V.d (D.sl false 1 r.2.1),V.d (D.int .i64 r.2.2.1),V.d (D.int .i64 r.2.2.2)]])
abbrev S.xU:eH:=sg 68 [pP 100000 0] [cB 57 [pL false 1,pI,pI]] (ρ:=aA×aA×Int×Int) λr=>([[D.sl true 5 r.1]],[Cell.box 57 [V.d (D.sl false 1 r.2.1),V.d (D.int .i64 r.2.2.1),V.d (D.int .i64 r.2.2.2)]])
abbrev S.sD:eH:=sg 99 [pP 100000 0,pI] [cB 57 [pL false 1,pI,pI]] (ρ:=aA×aA×Int×Int) λr=>([[D.sl true 5 r.1]],[Cell.box 57 [V.d (D.sl false 1 r.2.1),V.d (D.int .i64 r.2.2.1),V.d (D.int .i64 r.2.2.2)]])
abbrev S.kF:eH:=sg 70 [pP 100000 0,pI] [cB 57 [pL false 1,pI,pI]] (ρ:=aA×aA×Int×Int) λr=>([[D.sl true 5 r.1]],[Cell.box 57 [V.d (D.sl false 1 r.2.1),V.d (D.int .i64 r.2.2.1),V.d (D.int .i64 r.2.2.2)]])
abbrev S.sF:eH:=sg 100 [pP 100000 0,pI] [cB 57 [pL false 1,pI,pI]] (ρ:=aA×aA×Int×Int) λr=>([[D.sl true 5 r.1]],[Cell.box 57 [V.d (D.sl false 1 r.2.1),V.d (D.int .i64 r.2.2.1),V.d (D.int .i64 r.2.2.2)]])
abbrev S.oO:eH:=sg 69 [pP 100000 0,pI] [cB 57 [pL false 1,pI,pI]] (ρ:=aA×aA×Int×Int) λr=>([[D.sl true 5 r.1]],[Cell.box 57 [V.d (D.sl false 1 r.2.1),V.d (D.int .i64 r.2.2.1),V.d (D.int .i64 r.2.2.2)]])
abbrev S.Bo:eH:=sg 42 [pP 100000 0] [cB 57 [pL false 1,pI,pI]] (ρ:=aA×aA×Int×Int) λr=>([[D.sl true 5 r.1]],[Cell.box 57 [V.d (D.sl false 1 r.2.1),V.d (D.int .i64 r.2.2.1),V.d (D.int .i64 r.2.2.2)]])
abbrev S.nU:eH:=sg 18 [pP 100000 0] [cB 57 [pL false 1,pI,pI]] (ρ:=aA×aA×Int×Int) λr=>([[D.sl true 5 r.1]],[Cell.box 57 [V.d (D.sl false 1 r.2.1),V.d (D.int .i64 r.2.2.1),V.d (D.int .i64 r.2.2.2)]])
abbrev S.zh:eH:=sg 38 [pP 100000 0] [cB 57 [pL false 1,pI,pI]] (ρ:=aA×aA×Int×Int) λr=>([[D.sl true 5 r.1]],[Cell.box 57 [V.d (D.sl false 1 r.2.1),V.d (D.int .i64 r.2.2.1),V.d (D.int .i64 r.2.2.2)]])
abbrev S.Bq:eH:=sg 41 [pP 100000 0] [cB 57 [pL false 1,pI,pI]] (ρ:=Bool×aA×aA×Int×Int) λr=>([[D.sl r.1 5 r.2.1]],[Cell.box 57 [V.d (D.sl false 1 r.2.2.1),V.d (D.int .i64 r.2.2.2.1),V.d (D.int .i64 r.2.2.2.2)]])
abbrev S.vS:eH:=sg 17 [pP 100000 0] [cB 57 [pL false 1,pI,pI]] (ρ:=Bool×aA×aA×Int×Int) λr=>([[D.sl r.1 5 r.2.1]],[Cell.box 57 [V.d (D.sl false 1 r.2.2.1),V.d (D.int .i64 r.2.2.2.1),V.d (D.int .i64 r.2.2.2.2)]])
abbrev S.oP:eH:=sg 5 [pL false 1] [] (ρ:=Bool×aA) λr=>([[D.sl r.1 5 r.2]],[])
abbrev S.gY:eH:=sg 74 [pL false 5] [] (ρ:=aA×Bool) λr=>([[D.sl true 1 r.1],[D.bool r.2]],[])
abbrev S.xW:eH:=sg 51 [pL false 5] [] (ρ:=Bool) λr=>([[D.bool r]],[])
abbrev S.bV:eH:=sg 25 [pI,pI,pI] [] (ρ:=Bool) λr=>([[D.bool r]],[])
abbrev S.dU:eH:=sg 81 [pI] [] (ρ:=Bool) λr=>([[D.bool r]],[])
abbrev S.o9:eH:=sg 194 [pI] [] (ρ:=Bool) λr=>([[D.bool r]],[])
abbrev S.sG:eH:=sg 210 [pI] [] (ρ:=Bool) λr=>([[D.bool r]],[])
abbrev S.jL:eH:=sg 193 [pI] [] (ρ:=Bool) λr=>([[D.bool r]],[])
abbrev S.tJ:eH:=sg 162 [pS] [] (ρ:=Bool) λr=>([[D.bool r]],[])
abbrev S.slices_Index:eH:=sg 168 [pL false 1,pS] [] (ρ:=Int) λr=>([[D.int .i64 r]],[])
abbrev S.tN:eH:=sg 163 [pS] [] (ρ:=Int) λr=>([[D.int .i64 r]],[])
abbrev S.slices_Contains:eH:=sg 118 [pL false 1,pS] [] (ρ:=Bool) λr=>([[D.bool r]],[])
abbrev S.lI:eH:=sg 114 [pS] [] (ρ:=Bool) λr=>([[D.bool r]],[])
abbrev S.jD:eH:=sg 112 [pS] [] (ρ:=Bool) λr=>([[D.bool r]],[])
abbrev S.strings_Contains:eH:=sg 164 [pS,pS] [] (ρ:=Bool) λr=>([[D.bool r]],[])
abbrev S.jE:eH:=sg 197 [pS,pI] [] (ρ:=Int) λr=>([[D.int .i64 r]],[])
abbrev S.dJ:eH:=sg 196 [pS,pI] [] (ρ:=Int) λr=>([[D.int .i64 r]],[])
abbrev S.Bv:eH:=sg 165 [pS,pI] [] (ρ:=Int) λr=>([[D.int .i64 r]],[])
abbrev S.nV:eH:=sg 198 [pS,pI,pI] [] (ρ:=Int) λr=>([[D.int .i64 r]],[])
abbrev S.Bz:eH:=sg 166 [pS,pI] [] (ρ:=Int) λr=>([[D.int .i64 r]],[])
abbrev S.BA:eH:=sg 167 [pS,pI] [] (ρ:=Int) λr=>([[D.int .i64 r]],[])
abbrev S.oJ:eH:=sg 169 [pI] [] (ρ:=Bool) λr=>([[D.bool r]],[])
abbrev S.gV:eH:=sg 170 [pI] [] (ρ:=Bool) λr=>([[D.bool r]],[])
abbrev S.gI:eH:=sg 123 [pI] [] (ρ:=aF) λr=>([[D.str r]],[])
abbrev S.ou:eH:=sg 113 [kE [pI,pS,pI]] [] (ρ:=Bool) λr=>([[D.bool r]],[])
abbrev S.kC:eH:=sg 115 [pI] [] (ρ:=Bool) λr=>([[D.bool r]],[])
abbrev S.lX:eH:=sg 116 [pI] [] (ρ:=Int) λr=>([[D.int .i64 r]],[])
abbrev S.vT:eH:=sg 117 [pI] [] (ρ:=Bool) λr=>([[D.bool r]],[])
abbrev S.jf:eH:=sg 82 [kE [pI,pI,pS,pS,pL false 1]] [] (ρ:=Bool×Bool×Bool×Int×Int) λr=>([[D.bool r.1,D.bool r.2.1,D.bool r.2.2.1,D.int .i64 r.2.2.2.1,D.int .i64 r.2.2.2.2]],[])
abbrev S.iq:eH:=sg 45 [pI] [] (ρ:=Bool) λr=>([[D.bool r]],[])
abbrev S.jg:eH:=sg 83 [kE [pI,pI,pS,pS,pL false 1]] [] (ρ:=Bool×Bool×Bool×Int×Int) λr=>([[D.bool r.1,D.bool r.2.1,D.bool r.2.2.1,D.int .i64 r.2.2.2.1,D.int .i64 r.2.2.2.2]],[])
abbrev S.jh:eH:=sg 84 [kE [pI,pI,pS,pS,pL false 1]] [] (ρ:=Bool×Bool×Bool×Int×Int) λr=>([[D.bool r.1,D.bool r.2.1,D.bool r.2.2.1,D.int .i64 r.2.2.2.1,D.int .i64 r.2.2.2.2]],[])
abbrev S.gZ:eH:=sg 52 [kE [pI,pI,pS,pS,pL false 1]] [] (ρ:=Bool) λr=>([[D.bool r]],[])
abbrev S.pq:eH:=sg 85 [pI] [] (ρ:=Bool) λr=>([[D.bool r]],[])
abbrev S.BD:eH:=sg 86 [pI] [] (ρ:=Bool) λr=>([[D.bool r]],[])
abbrev S.aY:eH:=sg 53 [kE [pI,pI,pS,pS,pL false 1],pI,pI] [] (ρ:=Bool) λr=>([[D.bool r]],[])
abbrev S.kZ:eH:=sg 26 [pL false 5,pI] [] (ρ:=Int×Int×aF×aF×aA) λr=>([[D.int .i64 r.1,D.int .i64 r.2.1,D.str r.2.2.1,D.str r.2.2.2.1,D.sl true 5 r.2.2.2.2]],[])
abbrev S.Fq:eH:=sg 54 [pL false 5] [] (ρ:=Int×Int×aF×aF×aA) λr=>([[D.int .i64 r.1,D.int .i64 r.2.1,D.str r.2.2.1,D.str r.2.2.2.1,D.sl true 5 r.2.2.2.2]],[])
abbrev S.kH:eH:=sg 55 [kE [pI,pI,pS,pS,pL false 5]] [] (ρ:=Int) λr=>([[D.int .i64 r]],[])
abbrev S.vU:eH:=sg 24 [pL false 5] [] (ρ:=Bool) λr=>([[D.bool r]],[])
abbrev S.tV:eH:=sg 19 [pL false 5] [] (ρ:=Bool) λr=>([[D.bool r]],[])
abbrev S.xX:eH:=sg 46 [pL false 5,pI] [] (ρ:=Int) λr=>([[D.int .i64 r]],[])
abbrev S.mW:eH:=sg 75 [kE [pI,pI,pS,pS,pL false 5],pL true 5] [] (ρ:=aA) λr=>([[D.sl true 5 r]],[])
abbrev S.tX:eH:=sg 47 [kE [pI,pI,pS,pS,pL false 5]] [] (ρ:=aA) λr=>([[D.sl true 5 r]],[])
abbrev S.Js:eH:=sg 22 [pL false 5,pI] [] (ρ:=aA) λr=>([[D.sl true 5 r]],[])
abbrev S.qN:eH:=sg 21 [pL false 5] [] (ρ:=Int) λr=>([[D.int .i64 r]],[])
abbrev S.strconv_Itoa:eH:=sg 44 [pI] [] (ρ:=aF) λr=>([[D.str r]],[])
abbrev S.Oi:eH:=sg 20 [pI] [] (ρ:=aF) λr=>([[D.str r]],[])
abbrev S.strings_Join:eH:=sg 30 [pL false 1,pS] [] (ρ:=aF) λr=>([[D.str r]],[])
abbrev S.BF:eH:=sg 27 [kE [pI,pI,pS,pS,pL false 5]] [] (ρ:=aF) λr=>([[D.str r]],[])
abbrev S.qX:eH:=sg 57 [] [] (ρ:=Int×Bool×Bool×Bool×Bool) λr=>([[D.int .i64 r.1,D.bool r.2.1,D.bool r.2.2.1,D.bool r.2.2.2.1,D.bool r.2.2.2.2]],[])
abbrev S.jB:eH:=sg 88 [kE [pI,pI,pS,pS,pL false 5]] [] (ρ:=Int×Int×aF×aF×aA) λr=>([[D.int .i64 r.1,D.int .i64 r.2.1,D.str r.2.2.1,D.str r.2.2.2.1,D.sl true 1 r.2.2.2.2]],[])
abbrev S.ng:eH:=sg 119 [kE [pI,pI,pS,pS,pL false 1]] [] (ρ:=Int) λr=>([[D.int .i64 r]],[])
abbrev S.zi:eH:=sg 120 [kE [pI,pB,pB,pB,pB]] [] (ρ:=Bool) λr=>([[D.bool r]],[])
abbrev S.Dw:eH:=sg 87 [kE [pI,pI,pS,pS,pL false 1],kE [pI,pB,pB,pB,pB]] [] (ρ:=Bool) λr=>([[D.bool r]],[])
abbrev S.eu:eH:=sg 91 [pS] [] (ρ:=Int×Int×aF×aA×Int) λr=>([[D.int .i64 r.1,D.int .i64 r.2.1,D.str r.2.2.1,D.sl true 5 r.2.2.2.1,D.int .i64 r.2.2.2.2]],[])
abbrev S.xA:eH:=sg 128 [] [] (ρ:=Int×Int×aF×aA×Int) λr=>([[D.int .i64 r.1,D.int .i64 r.2.1,D.str r.2.2.1,D.sl true 5 r.2.2.2.1,D.int .i64 r.2.2.2.2]],[])
abbrev S.Fv:eH:=sg 122 [pI] [] (ρ:=Int×Bool×Bool×Bool×Bool) λr=>([[D.int .i64 r.1,D.bool r.2.1,D.bool r.2.2.1,D.bool r.2.2.2.1,D.bool r.2.2.2.2]],[])
abbrev S.iH:eH:=sg 90 [pL true 5] [] (ρ:=Int×Int×aF×aA×Int) λr=>([[D.int .i64 r.1,D.int .i64 r.2.1,D.str r.2.2.1,D.sl true 5 r.2.2.2.1,D.int .i64 r.2.2.2.2]],[])
abbrev S.xB:eH:=sg 127 [kE [pI,pI,pS,pL false 5,pI]] [] (ρ:=Int×Int×aF×aA×Int) λr=>([[D.int .i64 r.1,D.int .i64 r.2.1,D.str r.2.2.1,D.sl true 5 r.2.2.2.1,D.int .i64 r.2.2.2.2]],[])
abbrev S.uM:eH:=sg 126 [kE [pI,pI,pS,pL false 5,pI]] [] (ρ:=Int×Int×aF×aA×Int) λr=>([[D.int .i64 r.1,D.int .i64 r.2.1,D.str r.2.2.1,D.sl true 5 r.2.2.2.1,D.int .i64 r.2.2.2.2]],[])
abbrev S.BU:eH:=sg 121 [pL false 5,aDE 122 [] []] [] (ρ:=Int×Int×aF×aA×Int) λr=>([[D.int .i64 r.1,D.int .i64 r.2.1,D.str r.2.2.1,D.sl false 5 r.2.2.2.1,D.int .i64 r.2.2.2.2]],[])
abbrev S.vV:eH:=sg 212 [pI,pI] [] (ρ:=Int) λr=>([[D.int .i64 r]],[])
abbrev S.sH:eH:=sg 199 [kE [pI,pI,pS,pS,pL false 1],pI] [] (ρ:=Int) λr=>([[D.int .i64 r]],[])
abbrev S.vW:eH:=sg 171 [kE [pI,pI,pS,pS,pL false 1],pI,kE [pI,pB,pB,pB,pB]] [] (ρ:=Int×Bool×Bool×Bool×Bool) λr=>([[D.int .i64 r.1,D.bool r.2.1,D.bool r.2.2.1,D.bool r.2.2.2.1,D.bool r.2.2.2.2]],[])
abbrev S.pz:eH:=sg 172 [kE [pI,pI,pS,pS,pL false 1],pI] [] (ρ:=Bool) λr=>([[D.bool r]],[])
abbrev S.BG:eH:=sg 124 [kE [pI,pI,pS,pS,pL false 5],pI,kE [pI,pB,pB,pB,pB]] [] (ρ:=Int×Int×aF×aA×Int) λr=>([[D.int .i64 r.1,D.int .i64 r.2.1,D.str r.2.2.1,D.sl false 5 r.2.2.2.1,D.int .i64 r.2.2.2.2]],[])
abbrev S.aV:eH:=sg 213 [pP 100000 0,pL false 3] [cB 163 [pL true 3,pL true 2,pB]] (ρ:=aA×aA×Bool) λr=>([],[Cell.box 163 [V.d (D.sl true 3 r.1),V.d (D.sl true 2 r.2.1),V.d (D.bool r.2.2)]])
abbrev S.iG:eH:=sg 175 [pI] [] (ρ:=Int×aF×Int) λr=>([[D.int .i64 r.1,D.str r.2.1,D.int .i64 r.2.2]],[])
abbrev S.nN:eH:=sg 214 [pP 100000 0,kE [pI,pI,pS,pS,pL false 5],pI,pI,kE [pI,pB,pB,pB,pB]] [cB 163 [pL true 3,pL true 2,pB]] (ρ:=aA×aA×Bool) λr=>([],[Cell.box 163 [V.d (D.sl true 3 r.1),V.d (D.sl true 2 r.2.1),V.d (D.bool r.2.2)]])
abbrev S.lT:eH:=sg 215 [pP 100000 0,kE [pI,pI,pS,pS,pL false 5],kE [pI,pB,pB,pB,pB]] [cB 163 [pL true 3,pL true 2,pB]] (ρ:=aA×aA×Bool) λr=>([],[Cell.box 163 [V.d (D.sl true 3 r.1),V.d (D.sl true 2 r.2.1),V.d (D.bool r.2.2)]])
abbrev S.nO:eH:=sg 200 [pP 100000 0,kE [pI,pI,pS,pS,pL false 5],kE [pI,pB,pB,pB,pB]] [cB 163 [pL true 3,pL true 2,pB]] (ρ:=aA×aA×Bool) λr=>([],[Cell.box 163 [V.d (D.sl true 3 r.1),V.d (D.sl true 2 r.2.1),V.d (D.bool r.2.2)]])
abbrev S.pY:eH:=sg 201 [pP 100000 0,kE [pI,pI,pS,pS,pL false 5],kE [pI,pB,pB,pB,pB]] [cB 163 [pL true 3,pL true 2,pB]] (ρ:=aA×aA×Bool) λr=>([],[Cell.box 163 [V.d (D.sl true 3 r.1),V.d (D.sl true 2 r.2.1),V.d (D.bool r.2.2)]])
abbrev S.jm:eH:=sg 173 [pP 100000 0,kE [pI,pI,pS,pS,pL false 5],pI,kE [pI,pB,pB,pB,pB]] [cB 163 [pL true 3,pL true 2,pB]] (ρ:=aA×aA×Bool) λr=>([],[Cell.box 163 [V.d (D.sl true 3 r.1),V.d (D.sl true 2 r.2.1),V.d (D.bool r.2.2)]])
abbrev S.iD:eH:=sg 221 [pS,pS] [] (ρ:=Bool) λr=>([[D.bool r]],[])
abbrev S.strings_HasPrefix:eH:=sg 216 [pS,pS] [] (ρ:=Bool) λr=>([[D.bool r]],[])
abbrev S.rH:eH:=sg 202 [pS,pI] [] (ρ:=Int×Int) λr=>([[D.int .i64 r.1],[D.int .i64 r.2]],[])
abbrev S.sJ:eH:=sg 174 [kE [pI,pS,pI],kE [pI,pS,pI]] [] (ρ:=Bool) λr=>([[D.bool r]],[])
abbrev S.zk:eH:=sg 125 [kE [pI,pI,pS,pS,pL false 5],kE [pI,pB,pB,pB,pB]] [] (ρ:=Int×Int×aF×aA×Int) λr=>([[D.int .i64 r.1,D.int .i64 r.2.1,D.str r.2.2.1,D.sl false 5 r.2.2.2.1,D.int .i64 r.2.2.2.2]],[])
abbrev S.xY:eH:=sg 89 [kE [pI,pI,pS,pS,pL false 5],kE [pI,pB,pB,pB,pB]] [] (ρ:=Int×Int×aF×aA×Int) λr=>([[D.int .i64 r.1,D.int .i64 r.2.1,D.str r.2.2.1,D.sl false 5 r.2.2.2.1,D.int .i64 r.2.2.2.2]],[])
abbrev S.lY:eH:=sg 56 [kE [pI,pI,pS,pS,pL false 5],kE [pI,pB,pB,pB,pB]] [] (ρ:=Int×Int×aF×aA×Int) λr=>([[D.int .i64 r.1,D.int .i64 r.2.1,D.str r.2.2.1,D.sl false 5 r.2.2.2.1,D.int .i64 r.2.2.2.2]],[])
abbrev S.BH:eH:=sg 28 [kE [pI,pI,pS,pS,pL false 5]] [] (ρ:=Int×Int×aF×aA×Int) λr=>([[D.int .i64 r.1,D.int .i64 r.2.1,D.str r.2.2.1,D.sl false 5 r.2.2.2.1,D.int .i64 r.2.2.2.2]],[])
abbrev S.lN:eH:=sg 29 [kE [pI,pI,pS,pL false 5,pI]] [] (ρ:=aF×Bool) λr=>([[D.str r.1],[D.bool r.2]],[])
abbrev S.vX:eH:=sg 8 [pL false 5,pI] [] (ρ:=aF) λr=>([[D.str r]],[])
abbrev S.oz:eH:=sg 6 [pL false 5] [] (ρ:=aA) λr=>([[D.sl true 1 r]],[])
abbrev S.bf:eH:=sg 31 [pI,pI,pI] [] (ρ:=Bool) λr=>([[D.bool r]],[])
abbrev S.nX:eH:=sg 65 [pL false 5] [] (ρ:=aA×Bool) λr=>([[D.sl true 1 r.1],[D.bool r.2]],[])
abbrev S.oC:eH:=sg 34 [pL false 5] [] (ρ:=Bool) λr=>([[D.bool r]],[])
abbrev S.xZ:eH:=sg 48 [pL false 5] [] (ρ:=Int) λr=>([[D.int .i64 r]],[])
abbrev S.bQ:eH:=sg 76 [kE [pI,pI,pS,pS,pL false 1]] [] (ρ:=Int×Int) λr=>([[D.int .i64 r.1],[D.int .i64 r.2]],[])
abbrev S.vH:eH:=sg 107 [pI] [] (ρ:=Bool) λr=>([[D.bool r]],[])
abbrev S.oD:eH:=sg 108 [pI] [] (ρ:=Bool) λr=>([[D.bool r]],[])
abbrev S.dL:eH:=sg 77 [kE [pI,pI,pS,pS,pL false 1]] [] (ρ:=Bool) λr=>([[D.bool r]],[])
abbrev S.pF:eH:=sg 189 [pI] [] (ρ:=Bool) λr=>([[D.bool r]],[])
abbrev S.sK:eH:=sg 203 [pI] [] (ρ:=Bool) λr=>([[D.bool r]],[])
abbrev S.jM:eH:=sg 180 [pI] [] (ρ:=Bool) λr=>([[D.bool r]],[])
abbrev S.tY:eH:=sg 154 [pS] [] (ρ:=Bool) λr=>([[D.bool r]],[])
abbrev S.vI:eH:=sg 177 [] [] (ρ:=aA) λr=>([[D.sl true 1 r]],[])
abbrev S.vY:eH:=sg 160 [pL false 1,pS] [] (ρ:=Int) λr=>([[D.int .i64 r]],[])
abbrev S.tZ:eH:=sg 155 [pS] [] (ρ:=Int) λr=>([[D.int .i64 r]],[])
abbrev S.uN:eH:=sg 161 [] [] (ρ:=aA) λr=>([[D.sl true 1 r]],[])
abbrev S.kK:eH:=sg 111 [pS] [] (ρ:=Bool) λr=>([[D.bool r]],[])
abbrev S.ji:eH:=sg 109 [pS] [] (ρ:=Bool) λr=>([[D.bool r]],[])
abbrev S.ni:eH:=sg 156 [pS] [] (ρ:=Bool) λr=>([[D.bool r]],[])
abbrev S.dX:eH:=sg 191 [pS,pI] [] (ρ:=Int) λr=>([[D.int .i64 r]],[])
abbrev S.aK:eH:=sg 190 [pS,pI] [] (ρ:=Int) λr=>([[D.int .i64 r]],[])
abbrev S.BI:eH:=sg 157 [pS,pI] [] (ρ:=Int) λr=>([[D.int .i64 r]],[])
abbrev S.pG:eH:=sg 192 [pS,pI,pI] [] (ρ:=Int) λr=>([[D.int .i64 r]],[])
abbrev S.BJ:eH:=sg 158 [pS,pI] [] (ρ:=Int) λr=>([[D.int .i64 r]],[])
abbrev S.BK:eH:=sg 159 [pS,pI] [] (ρ:=Int) λr=>([[D.int .i64 r]],[])
abbrev S.vJ:eH:=sg 178 [] [] (ρ:=aA) λr=>([[D.sl true 1 r]],[])
abbrev S.iY:eH:=sg 137 [pI] [] (ρ:=aF) λr=>([[D.str r]],[])
abbrev S.lC:eH:=sg 110 [kE [pI,pS,pI]] [] (ρ:=Bool) λr=>([[D.bool r]],[])
abbrev S.bK:eH:=sg 78 [kE [pI,pI,pS,pS,pL false 1]] [] (ρ:=Bool) λr=>([[D.bool r]],[])
abbrev S.aB:eH:=sg 49 [kE [pI,pI,pS,pS,pL false 1]] [] (ρ:=Bool) λr=>([[D.bool r]],[])
abbrev S.pJ:eH:=sg 79 [pI] [] (ρ:=Bool) λr=>([[D.bool r]],[])
abbrev S.iw:eH:=sg 80 [pI] [] (ρ:=Bool) λr=>([[D.bool r]],[])
abbrev S.vZ:eH:=sg 33 [pI] [] (ρ:=Bool) λr=>([[D.bool r]],[])
abbrev S.aH:eH:=sg 50 [kE [pI,pI,pS,pS,pL false 1],pI,pI] [] (ρ:=Bool) λr=>([[D.bool r]],[])
abbrev S.qO:eH:=sg 23 [pL false 5] [] (ρ:=Bool) λr=>([[D.bool r]],[])
abbrev S.nY:eH:=sg 7 [pL false 5] [] (ρ:=Bool) λr=>([[D.bool r]],[])
abbrev S.uf:eH:=sg 61 [pL false 5,pI] [] (ρ:=aA) λr=>([[D.sl true 1 r]],[])
abbrev S.jX:eH:=sg 64 [] [] (ρ:=Int×Bool×Bool×Bool×Bool) λr=>([[D.int .i64 r.1,D.bool r.2.1,D.bool r.2.2.1,D.bool r.2.2.2.1,D.bool r.2.2.2.2]],[])
abbrev S.zl:eH:=sg 133 [kE [pI,pB,pB,pB,pB]] [] (ρ:=Bool) λr=>([[D.bool r]],[])
abbrev S.sN:eH:=sg 176 [pI] [] (ρ:=Int) λr=>([[D.int .i64 r]],[])
abbrev S.dw:eH:=sg 134 [kE [pI,pI,pS,pS,pL false 1]] [] (ρ:=Int) λr=>([[D.int .i64 r]],[])
abbrev S.Dx:eH:=sg 95 [kE [pI,pI,pS,pS,pL false 1],kE [pI,pB,pB,pB,pB]] [] (ρ:=Bool) λr=>([[D.bool r]],[])
abbrev S.bY:eH:=sg 135 [kE [pI,pI,pS,pS,pL false 1]] [] (ρ:=Int×aF×Int) λr=>([[D.int .i64 r.1,D.str r.2.1,D.int .i64 r.2.2]],[])
abbrev S.dN:eH:=sg 98 [pS] [] (ρ:=aA) λr=>([[D.sl true 4 r]],[])
abbrev S.qg:eH:=sg 183 [] [] (ρ:=aA) λr=>([[D.sl true 4 r]],[])
abbrev S.pR:eH:=sg 145 [pL false 4,pI] [] (ρ:=aA) λr=>([[D.sl true 4 r]],[])
abbrev S.dA:eH:=sg 97 [pI,pI,pL false 1] [] (ρ:=aA) λr=>([[D.sl true 4 r]],[])
abbrev S.x9:eH:=sg 143 [kE [pL false 5,pB],pL false 1,kE [pI,pB,pB,pB,pB]] [] (ρ:=aA) λr=>([[D.sl true 4 r]],[])
abbrev S.zn:eH:=sg 136 [kE [pL false 5,pB],kE [pI,pI,pS,pS,pL false 1],pS,pS] [] (ρ:=aA) λr=>([[D.sl true 4 r]],[])
abbrev S.wI:eH:=sg 138 [kE [pL false 5,pB],pI] [] (ρ:=aA) λr=>([[D.sl true 4 r]],[])
abbrev S.vK:eH:=sg 179 [pI] [] (ρ:=Int×Int) λr=>([[D.int .i64 r.1],[D.int .i64 r.2]],[])
abbrev S.dY:eH:=sg 139 [kE [pI,pI,pS,pS,pL false 1],pI,kE [pI,pB,pB,pB,pB]] [] (ρ:=Int×Bool×Bool×Bool×Bool) λr=>([[D.int .i64 r.1,D.bool r.2.1,D.bool r.2.2.1,D.bool r.2.2.2.1,D.bool r.2.2.2.2]],[])
abbrev S.dD:eH:=sg 141 [pI] [] (ρ:=Int×aF×Int) λr=>([[D.int .i64 r.1,D.str r.2.1,D.int .i64 r.2.2]],[])
abbrev S.yc:eH:=sg 206 [kE [pL false 5,pB],pL false 1] [] (ρ:=aA) λr=>([[D.sl true 3 r]],[])
abbrev S.zo:eH:=sg 204 [kE [pL false 5,pB],kE [pI,pS,pI],pL false 1,pI] [] (ρ:=aA) λr=>([[D.sl true 3 r]],[])
abbrev S.wJ:eH:=sg 205 [kE [pL false 5,pB],pI] [] (ρ:=aA) λr=>([[D.sl true 3 r]],[])
abbrev S.zq:eH:=sg 207 [kE [pL false 5,pB],kE [pI,pI,pS,pS,pL false 1],kE [pI,pB,pB,pB,pB]] [] (ρ:=aA) λr=>([[D.sl true 3 r]],[])
abbrev S.yg:eH:=sg 182 [kE [pL false 5,pB],pI,kE [pI,pB,pB,pB,pB]] [] (ρ:=aA) λr=>([[D.sl true 3 r]],[])
abbrev S.qj:eH:=sg 142 [kE [pL false 5,pB],pI,kE [pI,pB,pB,pB,pB]] [] (ρ:=aA) λr=>([[D.sl true 3 r]],[])
abbrev S.rJ:eH:=sg 181 [pS,pI] [] (ρ:=Int×Int) λr=>([[D.int .i64 r.1],[D.int .i64 r.2]],[])
abbrev S.sO:eH:=sg 140 [kE [pI,pS,pI],kE [pI,pS,pI]] [] (ρ:=Bool) λr=>([[D.bool r]],[])
abbrev S.Fz:eH:=sg 144 [kE [pL false 5,pB],kE [pI,pI,pS,pS,pL false 1],kE [pI,pB,pB,pB,pB]] [] (ρ:=aA) λr=>([[D.sl true 4 r]],[])
abbrev S.yh:eH:=sg 96 [kE [pL false 5,pB],pI,kE [pI,pB,pB,pB,pB]] [] (ρ:=aA) λr=>([[D.sl true 4 r]],[])
abbrev S.nI:eH:=sg 63 [kE [pL false 5,pB],pI,kE [pI,pB,pB,pB,pB]] [] (ρ:=aA) λr=>([[D.sl true 4 r]],[])
abbrev S.yj:eH:=sg 131 [kE [pI,pI,pS,pL false 1]] [] (ρ:=Bool) λr=>([[D.bool r]],[])
abbrev S.ug:eH:=sg 132 [pL false 4] [] (ρ:=aA×Bool) λr=>([[D.sl true 1 r.1],[D.bool r.2]],[])
abbrev S.FB:eH:=sg 94 [pL false 4] [] (ρ:=Bool) λr=>([[D.bool r]],[])
abbrev S.sQ:eH:=sg 62 [pL false 4] [] (ρ:=aF×Bool) λr=>([[D.str r.1],[D.bool r.2]],[])
abbrev S.yt:eH:=sg 32 [pL false 5,pI] [] (ρ:=aF) λr=>([[D.str r]],[])
abbrev S.BL:eH:=sg 9 [pL false 5,pI] [] (ρ:=aF) λr=>([[D.str r]],[])
abbrev S.BM:eH:=sg 35 [pL false 5,pI] [] (ρ:=aA) λr=>([[D.sl true 5 r]],[])
abbrev S.Jt:eH:=sg 12 [pL false 5,pI] [] (ρ:=aA) λr=>([[D.sl true 5 r]],[])
abbrev S.qP:eH:=sg 11 [pL false 5] [] (ρ:=Int) λr=>([[D.int .i64 r]],[])
abbrev S.Oj:eH:=sg 10 [pI] [] (ρ:=aF) λr=>([[D.str r]],[])
abbrev S.oG:eH:=sg 36 [pL false 5,pI] [] (ρ:=aA) λr=>([[D.sl true 5 r]],[])
abbrev S.qQ:eH:=sg 14 [pL false 5] [] (ρ:=aA) λr=>([[D.sl true 5 r]],[])
abbrev S.uh:eH:=sg 13 [pL false 1,pL false 1] [] (ρ:=Bool) λr=>([[D.bool r]],[])
abbrev S.uO:eH:=sg 3 [pL false 1] [] (ρ:=Bool) λr=>([[D.bool r]],[])
def M.Ud{R:Type}(code:aA)(k:Bool->Option R):Option R:=k (decide ((↑code.length:Int)>1048576))
def M.Qh code:=M.Ud code some
def C.Qh:S.Qh.ok X0 λx=>M.Qh x.1.1:=fnS (λx=>M.Ud x.1.1) [] [] (by intros;simp only[M.Ud,nb]<;>rfl)
def M.xC{R:Type}(code:aA)(s:Int×Int)(kn:Int×Int->Option R)(ke:Int×Int->Option R):Option R:=match s with
 |(h',i)=>bif decide (i<(↑code.length:Int)) then(bif decide (i<4000) then((idx code i).bind λave=>((fZ IntKind.u8 ave 0).bind λn2=>(kn ((i64.wrap (↑(BitVec.ofInt 64 (i64.wrap (i64.wrap (i64.wrap (h' * 131)+i64.wrap n2)+7)) &&& BitVec.ofInt 64 1073741823).toNat:Int),i64.wrap (i+1)))))) else(ke ((h',i)))) else(ke ((h',i)))
def M.CY code s:=M.xC code s (λs=>some (Sum.inl s)) λt=>some (Sum.inr t)
def M.MF code s:=fM (M.CY code) s
def F.MF:LE X0 15:=le 3 (Jd [dO 0 (pL false 1),dO 3 pI,dO 4 pI] []) (λx=>(x.1.2.1,x.1.2.2.1)) (λx s=>((x.1.1,s.1,s.2,()),())) (λx=> .leaf (Int×Int) (λt=>(Ex.exit 0,{tm:=[(0,Jr 1 x.1.1),(3,jZ t.1),(4,jZ t.2),(15,y5 false)],mem:=[]}))) (λx=>M.xC x.1.1) [] [] (by rintro _ _ ⟨_,_⟩ _ _<;>simp only[M.xC,nb]<;>rfl)
def M.Ph{R:Type}(code:aA)(k:aA×Int×Int->Option R):Option R:=(M.MF code ((i64.wrap (10101+(↑code.length:Int)),0))).bind λt3=>(k ((code,0,t3.1)))
def M.Fg code:=M.Ph code some
def C.Fg:S.Fg.ok X0 λx=>M.Fg x.1.1:=fnS (λx=>M.Ph x.1.1) [] [F.MF] (by intros;simp only[M.Ph,nb]<;>rfl)
def M.MG{R:Type}(c:aA)(c1 c2:Int)(k:Int×aA×Int×Int->Option R):Option R:=bif decide (c1<(↑c.length:Int)) then((idx c c1).bind λaOj=>((fZ IntKind.u8 aOj 0).bind λn6=>(k ((i64.wrap (↑(BitVec.ofInt 64 (i64.wrap (i64.wrap (↑(BitVec.ofInt 64 (i64.wrap (↑(BitVec.ofInt 64 ((i64.wrap (i64.wrap (c2 * 6364136223846793005)+1442695040888963407)).fdiv 8589934592) ^^^ BitVec.ofInt 64 ((i64.wrap (i64.wrap (c2 * 6364136223846793005)+1442695040888963407)).fdiv 35184372088832)).toNat:Int)) &&& BitVec.ofInt 64 255).toNat:Int)+i64.wrap n6)) &&& BitVec.ofInt 64 255).toNat:Int),c,i64.wrap (c1+1),i64.wrap (i64.wrap (c2 * 6364136223846793005)+1442695040888963407)))))) else(k ((i64.wrap (↑(BitVec.ofInt 64 (i64.wrap (↑(BitVec.ofInt 64 ((i64.wrap (i64.wrap (c2 * 6364136223846793005)+1442695040888963407)).fdiv 8589934592) ^^^ BitVec.ofInt 64 ((i64.wrap (i64.wrap (c2 * 6364136223846793005)+1442695040888963407)).fdiv 35184372088832)).toNat:Int)) &&& BitVec.ofInt 64 255).toNat:Int),c,c1,i64.wrap (i64.wrap (c2 * 6364136223846793005)+1442695040888963407))))
def M.nM c c1 c2:=M.MG c c1 c2 some
def C.nM:S.nM.ok X0 λx=>M.nM x.2.1.1 x.2.1.2.1 x.2.1.2.2.1:=fnS (λx=>M.MG x.2.1.1 x.2.1.2.1 x.2.1.2.2.1) [] [] (by intros;simp only[M.MG,nb]<;>rfl)
def M.Ac{R:Type}(n':Int)(c:aA)(c1 c2:Int)(k:Int×aA×Int×Int->Option R):Option R:=bif decide (n'<=0) then(k ((0,c,c1,c2))) else(bif decide (n'<=256) then((M.nM c c1 c2).bind λr7=>(bif !decide (n'=0) then(k ((r7.1.tmod n',r7.2.1,r7.2.2.1,r7.2.2.2))) else none)) else((M.nM c c1 c2).bind λr8=>((M.nM r8.2.1 r8.2.2.1 r8.2.2.2).bind λr9=>((M.nM r9.2.1 r9.2.2.1 r9.2.2.2).bind λr10=>((M.nM r10.2.1 r10.2.2.1 r10.2.2.2).bind λr11=>(bif !decide (n'=0) then(k (((i64.wrap (i64.wrap (i64.wrap (i64.wrap (r8.1 * 16777216)+i64.wrap (r9.1 * 65536))+i64.wrap (r10.1 * 256))+r11.1)).tmod n',r11.2.1,r11.2.2.1,r11.2.2.2))) else none))))))
def M.aQ n' c c1 c2:=M.Ac n' c c1 c2 some
def C.aQ:S.aQ.ok X0 λx=>M.aQ x.1.2.1 x.2.1.1 x.2.1.2.1 x.2.1.2.2.1:=fnS (λx=>M.Ac x.1.2.1 x.2.1.1 x.2.1.2.1 x.2.1.2.2.1) [fe C.nM] [] (by intros;simp only[M.Ac,nb]<;>rfl)
def M.MH{R:Type}(n':Int)(c:aA)(c1 c2:Int)(k:Bool×aA×Int×Int->Option R):Option R:=(M.aQ n' c c1 c2).bind λr12=>(k ((r12.1==0,r12.2.1,r12.2.2.1,r12.2.2.2)))
def M.je n' c c1 c2:=M.MH n' c c1 c2 some
def C.je:S.je.ok X0 λx=>M.je x.1.2.1 x.2.1.1 x.2.1.2.1 x.2.1.2.2.1:=fnS (λx=>M.MH x.1.2.1 x.2.1.1 x.2.1.2.1 x.2.1.2.2.1) [fe C.aQ] [] (by intros;simp only[M.MH,nb]<;>rfl)
def M.MI{R:Type}(list c:aA)(c1 c2:Int)(k:aF×aA×Int×Int->Option R):Option R:=(M.aQ ((↑list.length:Int)) c c1 c2).bind λr17=>((idx list r17.1).bind λaFr=>((cStr aFr 0).bind λs19=>(k ((s19,r17.2.1,r17.2.2.1,r17.2.2.2)))))
def M.fQ list c c1 c2:=M.MI list c c1 c2 some
def C.fQ:S.fQ.ok X0 λx=>M.fQ x.1.2.1 x.2.1.1 x.2.1.2.1 x.2.1.2.2.1:=fnS (λx=>M.MI x.1.2.1 x.2.1.1 x.2.1.2.1 x.2.1.2.2.1) [fe C.aQ] [] (by intros;simp only[M.MI,nb]<;>rfl)
def M.Pj{R:Type}(c:aA)(c1 c2:Int)(k:aF×aA×Int×Int->Option R):Option R:=(M.fQ ([[D.str [48]],[D.str [49]],[D.str [52,50]],[D.str [51,46,53]],[D.str [46,53]],[D.str [55,46]],[D.str [49,101,51]],[D.str [50,69,45,52]],[D.str [49,48,46,50,53,101,43,49]]]) c c1 c2).bind λr20=>(k ((r20.1,r20.2.1,r20.2.2.1,r20.2.2.2)))
def M.Fh c c1 c2:=M.Pj c c1 c2 some
def C.Fh:S.Fh.ok X0 λx=>M.Fh x.2.1.1 x.2.1.2.1 x.2.1.2.2.1:=fnS (λx=>M.Pj x.2.1.1 x.2.1.2.1 x.2.1.2.2.1) [fe C.fQ] [] (by intros;simp only[M.Pj,nb]<;>rfl)
def M.Pm{R:Type}(c:aA)(c1 c2:Int)(k:aF×aA×Int×Int->Option R):Option R:=(M.fQ ([[D.str [34,34]],[D.str [34,97,34]],[D.str [34,120,32,121,34]],[D.str [34,113,92,34,113,34]],[D.str [34,92,110,34]],[D.str [34,35,110,111,34]],[D.str [34,47,34]]]) c c1 c2).bind λr22=>(k ((r22.1,r22.2.1,r22.2.2.1,r22.2.2.2)))
def M.Fj c c1 c2:=M.Pm c c1 c2 some
def C.Fj:S.Fj.ok X0 λx=>M.Fj x.2.1.1 x.2.1.2.1 x.2.1.2.2.1:=fnS (λx=>M.Pm x.2.1.1 x.2.1.2.1 x.2.1.2.2.1) [fe C.fQ] [] (by intros;simp only[M.Pm,nb]<;>rfl)
def M.Pn{R:Type}(c:aA)(c1 c2:Int)(k:aF×aA×Int×Int->Option R):Option R:=(M.fQ ([[D.str [47,97,47]],[D.str [47,94,120,43,36,47]],[D.str [47,97,92,47,98,47]],[D.str [47,61,47]],[D.str [47,32,47]],[D.str [47,91,48,45,57,93,47]]]) c c1 c2).bind λr25=>(k ((r25.1,r25.2.1,r25.2.2.1,r25.2.2.2)))
def M.Fp c c1 c2:=M.Pn c c1 c2 some
def C.Fp:S.Fp.ok X0 λx=>M.Fp x.2.1.1 x.2.1.2.1 x.2.1.2.2.1:=fnS (λx=>M.Pn x.2.1.1 x.2.1.2.1 x.2.1.2.2.1) [fe C.fQ] [] (by intros;simp only[M.Pn,nb]<;>rfl)
def M.MJ{R:Type}(c:aA)(c1 c2:Int)(k:aF×aA×Int×Int->Option R):Option R:=(M.fQ ([[D.str [120]],[D.str [121]],[D.str [110]],[D.str [105]],[D.str [97,114,114]],[D.str [78,82]],[D.str [70,83]],[D.str [116,111,116,97,108]],[D.str [97,49]],[D.str [95,116]],[D.str [99,111,117,110,116]]]) c c1 c2).bind λr27=>(k ((r27.1,r27.2.1,r27.2.2.1,r27.2.2.2)))
def M.iU c c1 c2:=M.MJ c c1 c2 some
def C.iU:S.iU.ok X0 λx=>M.iU x.2.1.1 x.2.1.2.1 x.2.1.2.2.1:=fnS (λx=>M.MJ x.2.1.1 x.2.1.2.1 x.2.1.2.2.1) [fe C.fQ] [] (by intros;simp only[M.MJ,nb]<;>rfl)
def M.MK{R:Type}(c:aA)(c1 c2:Int)(k:aA×aA×Int×Int->Option R):Option R:=(M.aQ 7 c c1 c2).bind λr16=>(bif r16.1==0 then((M.Fh r16.2.1 r16.2.2.1 r16.2.2.2).bind λr21=>(k (([[D.int .i64 2,D.int .i64 0,D.str r21.1,D.str [],D.sl true 1 []]],r21.2.1,r21.2.2.1,r21.2.2.2)))) else(bif r16.1==1 then((M.Fj r16.2.1 r16.2.2.1 r16.2.2.2).bind λr23=>(k (([[D.int .i64 3,D.int .i64 0,D.str r23.1,D.str [],D.sl true 1 []]],r23.2.1,r23.2.2.1,r23.2.2.2)))) else(bif r16.1==2 then((M.je 2 r16.2.1 r16.2.2.1 r16.2.2.2).bind λr24=>(bif r24.1 then((M.Fp r24.2.1 r24.2.2.1 r24.2.2.2).bind λr26=>(k (([[D.int .i64 4,D.int .i64 0,D.str r26.1,D.str [],D.sl true 1 []]],r26.2.1,r26.2.2.1,r26.2.2.2)))) else((M.iU r24.2.1 r24.2.2.1 r24.2.2.2).bind λr28=>(k (([[D.int .i64 1,D.int .i64 0,D.str r28.1,D.str [],D.sl true 1 []]],r28.2.1,r28.2.2.1,r28.2.2.2)))))) else((M.iU r16.2.1 r16.2.2.1 r16.2.2.2).bind λr29=>(k (([[D.int .i64 1,D.int .i64 0,D.str r29.1,D.str [],D.sl true 1 []]],r29.2.1,r29.2.2.1,r29.2.2.2)))))))
def M.xQ c c1 c2:=M.MK c c1 c2 some
def C.xQ:S.xQ.ok X0 λx=>M.xQ x.2.1.1 x.2.1.2.1 x.2.1.2.2.1:=fnS (λx=>M.MK x.2.1.1 x.2.1.2.1 x.2.1.2.2.1) [fe C.aQ,fe C.Fh,fe C.Fj,fe C.je,fe C.Fp,fe C.iU] [] (by intros;simp only[M.MK,nb]<;>rfl)
def M.yu{R:Type}(l:aA)(by' i:Int)(x':aA)(BN CZ:Int)(EU Gj:aF)(s:Int×aA)(kn:Int×aA->Option R)(ke:Int×aA->Option R):Option R:=match s with
 |(k',RD)=>(idx l i).bind λrow45=>((TD 1 row45 4).bind λaAR=>(bif decide (k'<(↑aAR.length:Int)) then((idx l i).bind λrow47=>((TD 1 row47 4).bind λaAS=>((idx aAS k').bind λaFs=>((fZ .i64 aFs 0).bind λn50=>(gW RD [[D.int .i64 (i64.wrap (n50+by'))]] 8 λza=>(kn ((i64.wrap (k'+1),za)))))))) else(ke ((k',RD)))))
def M.D8 l by' i x' BN CZ EU Gj s:=M.yu l by' i x' BN CZ EU Gj s (λs=>some (Sum.inl s)) λt=>some (Sum.inr t)
def M.Ih l by' i x' BN CZ EU Gj s:=fM (M.D8 l by' i x' BN CZ EU Gj) s
def F.Ih:LE X0 66:=le 8 (Jd [dO 0 (pL false 5),dO 1 pI,dO 5 (pO 300000 0),dO 6 pI,dO 7 (pP 300001 0),dO 8 pI] [dO 300000 (cA false false 0 5),dO 300001 (cB 31 [pI,pI,pS,pS,pO 300002 0]),dO 300002 (cA false true 0 1)]) (λx=>(x.1.2.2.2.2.2.1,x.2.2.2.1)) (λx s=>((x.1.1,x.1.2.1,(),x.1.2.2.2.1,(),s.1,()),(x.2.1,(x.2.2.1.1,x.2.2.1.2.1,x.2.2.1.2.2.1,x.2.2.1.2.2.2.1,(),()),s.2,()))) (λx=> .leaf (Int×aA) (λt=>(Ex.exit 2,{tm:=[(0,Jr 5 x.1.1),(1,jZ x.1.2.1),(5,V.own 300000 0),(6,jZ x.1.2.2.2.1),(7,V.ptr 300001 0),(8,jZ t.1),(29,y5 false)],mem:=[(300000,Cell.arr false false 0 5 x.2.1),(300001,Cell.box 31 [jZ x.2.2.1.1,jZ x.2.2.1.2.1,xP x.2.2.1.2.2.1,xP x.2.2.1.2.2.2.1,V.own 300002 0]),(300002,Cell.arr false true 0 1 t.2)]}))) (λx=>M.yu x.1.1 x.1.2.1 x.1.2.2.2.1 x.2.1 x.2.2.1.1 x.2.2.1.2.1 x.2.2.1.2.2.1 x.2.2.1.2.2.2.1) [] [] (by rintro _ _ ⟨_,_⟩ _ _<;>simp only[gW,M.yu,nb]<;>rfl)
def M.yw{R:Type}(l:aA)(by':Int)(s:Int×aA)(kn:Int×aA->Option R)(ke:Int×aA->Option R):Option R:=match s with
 |(i,x')=>bif decide (i<(↑l.length:Int)) then((idx l i).bind λrow39=>(nT 1 row39 λn40 n41 s42 s43 _=>((M.Ih l by' i x' n40 n41 s42 s43 ((0,[]))).bind λt51=>(bif ay t51.2 then(gW x' [[D.int .i64 n40,D.int .i64 n41,D.str s42,D.str s43,D.sl true 1 t51.2]] 72 λza=>(kn ((i64.wrap (i+1),za)))) else none)))) else(ke ((i,x')))
def M.D9 l by' s:=M.yw l by' s (λs=>some (Sum.inl s)) λt=>some (Sum.inr t)
def M.Ii l by' s:=fM (M.D9 l by') s
def F.Ii:LE X0 66:=le 3 (Jd [dO 0 (pL false 5),dO 1 pI,dO 5 (pO 300000 0),dO 6 pI] [dO 300000 (cA false false 0 5)]) (λx=>(x.1.2.2.2.1,x.2.1)) (λx s=>((x.1.1,x.1.2.1,(),s.1,()),(s.2,()))) (λx=> .leaf (Int×aA) (λt=>(Ex.exit 0,{tm:=[(0,Jr 5 x.1.1),(1,jZ x.1.2.1),(5,V.own 300000 0),(6,jZ t.1),(13,y5 false)],mem:=[(300000,Cell.arr false false 0 5 t.2)]}))) (λx=>M.yw x.1.1 x.1.2.1) [] [F.Ih] (by rintro _ _ ⟨_,_⟩ _ _<;>simp only[gW,nT,M.yw,nb]<;>rfl)
def M.JV{R:Type}(l:aA)(by':Int)(k:aA->Option R):Option R:=(M.Ii l by' ((0,[]))).bind λt52=>(k t52.2)
def M.oq l by':=M.JV l by' some
def C.oq:S.oq.ok X0 λx=>M.oq x.1.1 x.1.2.1:=fnS (λx=>M.JV x.1.1 x.1.2.1) [] [F.Ii] (by intros;simp only[M.JV,nb]<;>rfl)
def M.Ad{R:Type}(parts:aA)(x' BN:Int)(CZ EU:aF)(s:Int×aA×aA)(kn:Int×aA×aA->Option R)(ke:Int×aA×aA->Option R):Option R:=match s with
 |(k',Gj,RD)=>bif decide (k'<(↑parts.length:Int)) then((idx parts k').bind λaFt=>((TD 5 aFt 0).bind λaAT=>((M.oq aAT ((↑Gj.length:Int))).bind λr53=>(gW Gj r53 72 λza=>(gW RD [[D.int .i64 (i64.wrap ((↑za.length:Int) - 1))]] 8 λzb=>(kn ((i64.wrap (k'+1),za,zb)))))))) else(ke ((k',Gj,RD)))
def M.Gl parts x' BN CZ EU s:=M.Ad parts x' BN CZ EU s (λs=>some (Sum.inl s)) λt=>some (Sum.inr t)
def M.JW parts x' BN CZ EU s:=fM (M.Gl parts x' BN CZ EU) s
def F.JW:LE X0 43:=le 4 (Jd [dO 1 (pL false 1),dO 2 (pP 300000 0),dO 5 (pO 300001 0),dO 6 pI] [dO 300000 (cB 31 [pI,pI,pS,pS,pO 300002 0]),dO 300001 (cA false false 0 5),dO 300002 (cA false true 0 1)]) (λx=>(x.1.2.2.2.1,x.2.2.1,x.2.2.2.1)) (λx s=>((x.1.1,(),(),s.1,()),((x.2.1.1,x.2.1.2.1,x.2.1.2.2.1,x.2.1.2.2.2.1,(),()),s.2.1,s.2.2,()))) (λx=> .leaf (Int×aA×aA) (λt=>(Ex.exit 0,{tm:=[(1,Jr 1 x.1.1),(2,V.ptr 300000 0),(5,V.own 300001 0),(6,jZ t.1),(13,y5 false)],mem:=[(300000,Cell.box 31 [jZ x.2.1.1,jZ x.2.1.2.1,xP x.2.1.2.2.1,xP x.2.1.2.2.2.1,V.own 300002 0]),(300001,Cell.arr false false 0 5 t.2.1),(300002,Cell.arr false true 0 1 t.2.2)]}))) (λx=>M.Ad x.1.1 x.2.1.1 x.2.1.2.1 x.2.1.2.2.1 x.2.1.2.2.2.1) [fe C.oq] [] (by rintro _ _ ⟨_,_,_⟩ _ _<;>simp only[gW,M.Ad,nb]<;>rfl)
def M.ML{R:Type}(n' gJ:Int)(iV iZ:aF)(kD parts:aA)(k:aA->Option R):Option R:=(M.JW parts n' gJ iV iZ ((0,[],[]))).bind λt54=>(bif ay t54.2.2 then(gW t54.2.1 [[D.int .i64 n',D.int .i64 gJ,D.str iV,D.str iZ,D.sl true 1 t54.2.2]] 72 λza=>(k za)) else none)
def M.aW n' gJ iV iZ kD parts:=M.ML n' gJ iV iZ kD parts some
def C.aW:S.aW.ok X0 λx=>dH M.aW x.1.1 x.1.2.1:=fnS (λx=>M.ML x.1.1.1 x.1.1.2.1 x.1.1.2.2.1 x.1.1.2.2.2.1 x.1.1.2.2.2.2.1 x.1.2.1) [] [F.JW] (by intros;simp only[gW,M.ML,nb]<;>rfl)
def M.xE{R:Type}(bg:Int->aA->Int->Int->Option (aA×aA×Int×Int))(deep:Int)(c:aA)(c1 c2:Int)(k:aA×aA×Int×Int->Option R):Option R:=(M.aQ 4 c c1 c2).bind λr34=>(bif r34.1==0 then((M.iU r34.2.1 r34.2.2.1 r34.2.2.2).bind λr35=>((bg (i64.wrap (deep - 1)) r35.2.1 r35.2.2.1 r35.2.2.2).bind λr36=>((M.aW 5 0 r35.1 [] [] (aJ [[D.sl true 5 r36.1]])).bind λr55=>(bif[[D.sl true 5 r55]].all bG then(k ((r55,r36.2.1,r36.2.2.1,r36.2.2.2))) else none)))) else(bif r34.1==1 then((bg (i64.wrap (deep - 2)) r34.2.1 r34.2.2.1 r34.2.2.2).bind λr56=>((M.aW 6 0 [] [] [] (aJ [[D.sl true 5 r56.1]])).bind λr57=>(bif[[D.sl true 5 r57]].all bG then(k ((r57,r56.2.1,r56.2.2.1,r56.2.2.2))) else none))) else((M.iU r34.2.1 r34.2.2.1 r34.2.2.2).bind λr58=>(k (([[D.int .i64 1,D.int .i64 0,D.str r58.1,D.str [],D.sl true 1 []]],r58.2.1,r58.2.2.1,r58.2.2.2))))))
def C.Z5{bg:Int->aA->Int->Int->Option (aA×aA×Int×Int)}(zu:S.dM.ok X0 λx=>bg x.1.2.1 x.2.1.1 x.2.1.2.1 x.2.1.2.2.1):S.zf.ok X0 λx=>M.xE bg x.1.2.1 x.2.1.1 x.2.1.2.1 x.2.1.2.2.1 some:=fnS (λx=>M.xE bg x.1.2.1 x.2.1.1 x.2.1.2.1 x.2.1.2.2.1) [fe C.aQ,fe C.iU,fe zu,fe C.aW] [] (by intros;simp only[M.xE,nb]<;>rfl)
def M.Gm{R:Type}(bg:Int->aA->Int->Int->Option (aA×aA×Int×Int))(deep:Int)(s:Int×aA×Int×Int×aA)(kn:Int×aA×Int×Int×aA->Option R)(ke:Int×aA×Int×Int×aA->Option R):Option R:=match s with
 |(n',v,v1,v2,x')=>bif decide (n'>0) then((bg deep v v1 v2).bind λr64=>(gW x' [[D.sl true 5 r64.1]] 24 λza=>(kn ((i64.wrap (n' - 1),r64.2.1,r64.2.2.1,r64.2.2.2,za))))) else(ke ((n',v,v1,v2,x')))
def M.LM bg deep s:=M.Gm bg deep s (λs=>some (Sum.inl s)) λt=>some (Sum.inr t)
def M.JX bg deep s:=fM (M.LM bg deep) s
def F.JX{bg:Int->aA->Int->Int->Option (aA×aA×Int×Int)}(zu:S.dM.ok X0 λx=>bg x.1.2.1 x.2.1.1 x.2.1.2.1 x.2.1.2.2.1):LE X0 103:=le 3 (Jd [dO 0 (pP 100000 0),dO 3 pI,dO 9 (pO 300000 0),dO 10 pI] [dO 100000 (cB 57 [pL false 1,pI,pI]),dO 300000 (cA false false 0 1)]) (λx=>(x.1.2.2.2.1,x.2.1.1,x.2.1.2.1,x.2.1.2.2.1,x.2.2.1)) (λx s=>(((),x.1.2.1,(),s.1,()),((s.2.1,s.2.2.1,s.2.2.2.1,()),s.2.2.2.2,()))) (λx=> .leaf (Int×aA×Int×Int×aA) (λt=>(Ex.exit 0,{tm:=[(0,V.ptr 100000 0),(3,jZ x.1.2.1),(9,V.own 300000 0),(10,jZ t.1),(21,y5 false)],mem:=[(100000,Cell.box 57 [Jr 1 t.2.1,jZ t.2.2.1,jZ t.2.2.2.1]),(300000,Cell.arr false false 0 1 t.2.2.2.2)]}))) (λx=>M.Gm bg x.1.2.1) [fe zu] [] (by rintro _ _ ⟨_,_,_,_,_⟩ _ _<;>simp only[gW,M.Gm,nb]<;>rfl)
def M.Dy{R:Type}(bg:Int->aA->Int->Int->Option (aA×aA×Int×Int))(least most deep:Int)(c:aA)(c1 c2:Int)(k:aA×aA×Int×Int->Option R):Option R:=(M.aQ (i64.wrap (i64.wrap (most - least)+1)) c c1 c2).bind λr63=>((M.JX bg deep ((i64.wrap (least+r63.1),r63.2.1,r63.2.2.1,r63.2.2.2,[]))).bind λt65=>(k ((t65.2.2.2.2,t65.2.1,t65.2.2.1,t65.2.2.2.1))))
def C.adU{bg:Int->aA->Int->Int->Option (aA×aA×Int×Int)}(zu:S.dM.ok X0 λx=>bg x.1.2.1 x.2.1.1 x.2.1.2.1 x.2.1.2.2.1):S.lQ.ok X0 λx=>M.Dy bg x.1.2.1 x.1.2.2.1 x.1.2.2.2.1 x.2.1.1 x.2.1.2.1 x.2.1.2.2.1 some:=fnS (λx=>M.Dy bg x.1.2.1 x.1.2.2.1 x.1.2.2.2.1 x.2.1.1 x.2.1.2.1 x.2.1.2.2.1) [fe C.aQ] [F.JX zu] (by intros;simp only[M.Dy,nb]<;>rfl)
def M.Gn{R:Type}(list c:aA)(c1 c2:Int)(k:Int×aA×Int×Int->Option R):Option R:=(M.aQ ((↑list.length:Int)) c c1 c2).bind λr75=>((idx list r75.1).bind λaFu=>((fZ .i64 aFu 0).bind λn77=>(k ((n77,r75.2.1,r75.2.2.1,r75.2.2.2)))))
def M.gG list c c1 c2:=M.Gn list c c1 c2 some
def C.gG:S.gG.ok X0 λx=>M.gG x.1.2.1 x.2.1.1 x.2.1.2.1 x.2.1.2.2.1:=fnS (λx=>M.Gn x.1.2.1 x.2.1.1 x.2.1.2.1 x.2.1.2.2.1) [fe C.aQ] [] (by intros;simp only[M.Gn,nb]<;>rfl)
def M.JY{R:Type}(c:aA)(c1 c2:Int)(k:Int×aA×Int×Int->Option R):Option R:=(M.gG ([[D.int .i64 60],[D.int .i64 57],[D.int .i64 58],[D.int .i64 59],[D.int .i64 55],[D.int .i64 56],[D.int .i64 56],[D.int .i64 99],[D.int .i64 99],[D.int .i64 99],[D.int .i64 63],[D.int .i64 48],[D.int .i64 47],[D.int .i64 50],[D.int .i64 62],[D.int .i64 62],[D.int .i64 49],[D.int .i64 67],[D.int .i64 46],[D.int .i64 45],[D.int .i64 44]]) c c1 c2).bind λr95=>(k ((r95.1,r95.2.1,r95.2.2.1,r95.2.2.2)))
def M.xR c c1 c2:=M.JY c c1 c2 some
def C.xR:S.xR.ok X0 λx=>M.xR x.2.1.1 x.2.1.2.1 x.2.1.2.2.1:=fnS (λx=>M.JY x.2.1.1 x.2.1.2.1 x.2.1.2.2.1) [fe C.gG] [] (by intros;simp only[M.JY,nb]<;>rfl)
def M.zx{R:Type}(nP:Int->aA->Int->Int->Option (aA×aA×Int×Int))(bg:Int->aA->Int->Int->Option (aA×aA×Int×Int))(uP:Int->Int->Int->aA->Int->Int->Option (aA×aA×Int×Int))(deep:Int)(c:aA)(c1 c2:Int)(k:aA×aA×Int×Int->Option R):Option R:=bif decide (deep<=0) then((M.xQ c c1 c2).bind λr30=>(k ((r30.1,r30.2.1,r30.2.2.1,r30.2.2.2)))) else((M.aQ 2 c c1 c2).bind λr31=>((M.aQ 16 r31.2.1 r31.2.2.1 r31.2.2.2).bind λr32=>(bif r32.1==0 then((M.xQ r32.2.1 r32.2.2.1 r32.2.2.2).bind λr33=>(k ((r33.1,r33.2.1,r33.2.2.1,r33.2.2.2)))) else(bif r32.1==1 then((nP deep r32.2.1 r32.2.2.1 r32.2.2.2).bind λr59=>(k ((r59.1,r59.2.1,r59.2.2.1,r59.2.2.2)))) else(bif r32.1==2 then((bg (i64.wrap (deep - 1)) r32.2.1 r32.2.2.1 r32.2.2.2).bind λr60=>((M.aW 6 0 [] [] [] (aJ [[D.sl true 5 r60.1]])).bind λr61=>(bif[[D.sl true 5 r61]].all bG then(k ((r61,r60.2.1,r60.2.2.1,r60.2.2.2))) else none))) else(bif r32.1==3 then((M.iU r32.2.1 r32.2.2.1 r32.2.2.2).bind λr62=>((uP 0 3 (i64.wrap (deep - 1)) r62.2.1 r62.2.2.1 r62.2.2.2).bind λr66=>((M.aW 7 0 r62.1 [] [] (aJ r66.1)).bind λr67=>(bif[[D.sl true 5 r67]].all bG then(k ((r67,r66.2.1,r66.2.2.1,r66.2.2.2))) else none)))) else(bif r32.1==4 then((M.fQ ([[D.str [108,101,110,103,116,104]],[D.str [115,117,98,115,116,114]],[D.str [105,110,100,101,120]],[D.str [105,110,116]],[D.str [116,111,117,112,112,101,114]]]) r32.2.1 r32.2.2.1 r32.2.2.2).bind λr68=>((uP 0 3 (i64.wrap (deep - 2)) r68.2.1 r68.2.2.1 r68.2.2.2).bind λr69=>((M.aW 8 0 r68.1 [] [] (aJ r69.1)).bind λr70=>(bif[[D.sl true 5 r70]].all bG then(k ((r70,r69.2.1,r69.2.2.1,r69.2.2.2))) else none)))) else(bif r32.1==5 then((nP (i64.wrap (deep - 1)) r32.2.1 r32.2.2.1 r32.2.2.2).bind λr71=>((M.aW 9 (i64.wrap (51+r31.1)) [] [] [] (aJ [[D.sl true 5 r71.1]])).bind λr72=>(bif[[D.sl true 5 r72]].all bG then(k ((r72,r71.2.1,r71.2.2.1,r71.2.2.2))) else none))) else(bif r32.1==6 then((nP (i64.wrap (deep - 1)) r32.2.1 r32.2.2.1 r32.2.2.2).bind λr73=>((M.aW 10 (i64.wrap (51+r31.1)) [] [] [] (aJ [[D.sl true 5 r73.1]])).bind λr74=>(bif[[D.sl true 5 r74]].all bG then(k ((r74,r73.2.1,r73.2.2.1,r73.2.2.2))) else none))) else(bif r32.1==7 then((M.gG ([[D.int .i64 56],[D.int .i64 55],[D.int .i64 61]]) r32.2.1 r32.2.2.1 r32.2.2.2).bind λr78=>((bg (i64.wrap (deep - 1)) r78.2.1 r78.2.2.1 r78.2.2.2).bind λr79=>((M.aW 11 r78.1 [] [] [] (aJ [[D.sl true 5 r79.1]])).bind λr80=>(bif[[D.sl true 5 r80]].all bG then(k ((r80,r79.2.1,r79.2.2.1,r79.2.2.2))) else none)))) else(bif r32.1==8 then((M.gG ([[D.int .i64 56],[D.int .i64 55],[D.int .i64 61]]) r32.2.1 r32.2.2.1 r32.2.2.2).bind λr81=>((bg (i64.wrap (deep - 1)) r81.2.1 r81.2.2.1 r81.2.2.2).bind λr82=>((M.aW 11 r81.1 [] [] [] (aJ [[D.sl true 5 r82.1]])).bind λr83=>(bif[[D.sl true 5 r83]].all bG then(k ((r83,r82.2.1,r82.2.2.1,r82.2.2.2))) else none)))) else(bif r32.1==9 then((M.iU r32.2.1 r32.2.2.1 r32.2.2.2).bind λr84=>((uP 1 2 (i64.wrap (deep - 1)) r84.2.1 r84.2.2.1 r84.2.2.2).bind λr85=>((M.aW 13 0 r84.1 [] [] (aJ r85.1)).bind λr86=>(bif[[D.sl true 5 r86]].all bG then(k ((r86,r85.2.1,r85.2.2.1,r85.2.2.2))) else none)))) else(bif r32.1==10 then((bg (i64.wrap (deep - 1)) r32.2.1 r32.2.2.1 r32.2.2.2).bind λr87=>((bg (i64.wrap (deep - 1)) r87.2.1 r87.2.2.1 r87.2.2.2).bind λr88=>((bg (i64.wrap (deep - 1)) r88.2.1 r88.2.2.1 r88.2.2.2).bind λr89=>((M.aW 14 0 [] [] [] (aJ [[D.sl true 5 r87.1],[D.sl true 5 r88.1],[D.sl true 5 r89.1]])).bind λr90=>(bif[[D.sl true 5 r90]].all bG then(k ((r90,r89.2.1,r89.2.2.1,r89.2.2.2))) else none))))) else(bif r32.1==11 then((M.gG ([[D.int .i64 54],[D.int .i64 38],[D.int .i64 43]]) r32.2.1 r32.2.2.1 r32.2.2.2).bind λr91=>((nP (i64.wrap (deep - 1)) r91.2.1 r91.2.2.1 r91.2.2.2).bind λr92=>((bg (i64.wrap (deep - 1)) r92.2.1 r92.2.2.1 r92.2.2.2).bind λr93=>((M.aW 15 r91.1 [] [] [] (aJ [[D.sl true 5 r92.1],[D.sl true 5 r93.1]])).bind λr94=>(bif[[D.sl true 5 r94]].all bG then(k ((r94,r93.2.1,r93.2.2.1,r93.2.2.2))) else none))))) else((M.xR r32.2.1 r32.2.2.1 r32.2.2.2).bind λr96=>((bg (i64.wrap (deep - 1)) r96.2.1 r96.2.2.1 r96.2.2.2).bind λr97=>((bg (i64.wrap (deep - 1)) r97.2.1 r97.2.2.1 r97.2.2.2).bind λr98=>((M.aW 12 r96.1 [] [] [] (aJ [[D.sl true 5 r97.1],[D.sl true 5 r98.1]])).bind λr99=>(bif[[D.sl true 5 r99]].all bG then(k ((r99,r98.2.1,r98.2.2.1,r98.2.2.2))) else none)))))))))))))))))))
def C.adV{nP:Int->aA->Int->Int->Option (aA×aA×Int×Int)}{bg:Int->aA->Int->Int->Option (aA×aA×Int×Int)}{uP:Int->Int->Int->aA->Int->Int->Option (aA×aA×Int×Int)}(abA:S.zf.ok X0 λx=>nP x.1.2.1 x.2.1.1 x.2.1.2.1 x.2.1.2.2.1)(zu:S.dM.ok X0 λx=>bg x.1.2.1 x.2.1.1 x.2.1.2.1 x.2.1.2.2.1)(afl:S.lQ.ok X0 λx=>uP x.1.2.1 x.1.2.2.1 x.1.2.2.2.1 x.2.1.1 x.2.1.2.1 x.2.1.2.2.1):S.dM.ok X0 λx=>M.zx nP bg uP x.1.2.1 x.2.1.1 x.2.1.2.1 x.2.1.2.2.1 some:=fnS (λx=>M.zx nP bg uP x.1.2.1 x.2.1.1 x.2.1.2.1 x.2.1.2.2.1) [fe C.xQ,fe C.aQ,fe abA,fe zu,fe C.aW,fe C.iU,fe afl,fe C.fQ,fe C.gG,fe C.xR] [] (by intros;simp only[M.zx,nb]<;>rfl)
def M.pU:Nat->(Int->aA->Int->Int->Option (aA×aA×Int×Int))×(Int->aA->Int->Int->Option (aA×aA×Int×Int))×(Int->Int->Int->aA->Int->Int->Option (aA×aA×Int×Int)):=Nat.rec (λ_ _ _ _=>none,λ_ _ _ _=>none,λ_ _ _ _ _ _=>none) λ_ qz=>(λdeep c c1 c2=>M.zx qz.2.1 qz.1 qz.2.2 deep c c1 c2 some,λdeep c c1 c2=>M.xE qz.1 deep c c1 c2 some,λleast most deep c c1 c2=>M.Dy qz.1 least most deep c c1 c2 some)
def M.nZ n:=(M.pU n).1
def M.C9 n:=(M.pU n).2.1
def M.Dz n:=(M.pU n).2.2
def M.WY(n:Nat):M.nZ (n+1)=λdeep c c1 c2=>M.zx (M.C9 n) (M.nZ n) (M.Dz n) deep c c1 c2 some:=rfl
def M.abB(n:Nat):M.C9 (n+1)=λdeep c c1 c2=>M.xE (M.nZ n) deep c c1 c2 some:=rfl
def M.afm(n:Nat):M.Dz (n+1)=λleast most deep c c1 c2=>M.Dy (M.nZ n) least most deep c c1 c2 some:=rfl
def M.dM deep c c1 c2:=lim λn=>M.nZ n deep c c1 c2
def M.zf deep c c1 c2:=lim λn=>M.C9 n deep c c1 c2
def M.lQ least most deep c c1 c2:=lim λn=>M.Dz n least most deep c c1 c2
def C.pU:∀n,(S.dM.ok X0 λx=>M.nZ n x.1.2.1 x.2.1.1 x.2.1.2.1 x.2.1.2.2.1)∧(S.zf.ok X0 λx=>M.C9 n x.1.2.1 x.2.1.1 x.2.1.2.1 x.2.1.2.2.1)∧(S.lQ.ok X0 λx=>M.Dz n x.1.2.1 x.1.2.2.1 x.1.2.2.2.1 x.2.1.1 x.2.1.2.1 x.2.1.2.2.1)
 |0=>⟨eH.zero,eH.zero,eH.zero⟩
 |n+1=>have h:=C.pU n;⟨C.adV h.2.1 h.1 h.2.2,C.Z5 h.1,C.adU h.1⟩
def C.dM:S.dM.ok X0 λx=>M.dM x.1.2.1 x.2.1.1 x.2.1.2.1 x.2.1.2.2.1:=eH.lim λn=>(C.pU n).1
def M.adW{n:Nat}{deep:Int}{c:aA}{c1 c2:Int}{r:aA×aA×Int×Int}(h:M.nZ n deep c c1 c2=some r):M.dM deep c c1 c2=some r:=eH.DV (λn=>(C.pU n).1) (by intro a b h;simp[S.dM,sg] at h;first|exact h|simp[Prod.ext_iff,h]) (x:=(((),deep,()),((c,c1,c2,()),()))) h
def C.zf:S.zf.ok X0 λx=>M.zf x.1.2.1 x.2.1.1 x.2.1.2.1 x.2.1.2.2.1:=eH.lim λn=>(C.pU n).2.1
def C.lQ:S.lQ.ok X0 λx=>M.lQ x.1.2.1 x.1.2.2.1 x.1.2.2.2.1 x.2.1.1 x.2.1.2.1 x.2.1.2.2.1:=eH.lim λn=>(C.pU n).2.2
def M.adX{n:Nat}{least most deep:Int}{c:aA}{c1 c2:Int}{r:aA×aA×Int×Int}(h:M.Dz n least most deep c c1 c2=some r):M.lQ least most deep c c1 c2=some r:=eH.DV (λn=>(C.pU n).2.2) (by intro a b h;simp[S.lQ,sg] at h;first|exact h|simp[Prod.ext_iff,h]) (x:=(((),least,most,deep,()),((c,c1,c2,()),()))) h
def M.Ae{R:Type}(s:(aA×Int×Int)⊕(Bool×aA×Int×Int×aA))(kn:(aA×Int×Int)⊕(Bool×aA×Int×Int×aA)->Option R)(ke:aA×Int×Int×aA->Option R):Option R:=match s with
 | .inl ((v,v1,v2))=>(M.aQ 4 v v1 v2).bind λr15=>((M.dM (i64.wrap (1+r15.1)) r15.2.1 r15.2.2.1 r15.2.2.2).bind λahF=>(bif decide ((↑ahF.1.length:Int)<=60) then(ke ((ahF.2.1,ahF.2.2.1,ahF.2.2.2,ahF.1))) else(kn (.inr ((false,ahF.2.1,ahF.2.2.1,ahF.2.2.2,ahF.1))))))
 | .inr ((v11,v,v1,v2,x'))=>(M.aQ 4 v v1 v2).bind λavm=>((M.dM (i64.wrap (1+avm.1)) avm.2.1 avm.2.2.1 avm.2.2.2).bind λahG=>(bif decide ((↑ahG.1.length:Int)<=60) then(ke ((ahG.2.1,ahG.2.2.1,ahG.2.2.2,ahG.1))) else(kn (.inr ((false,ahG.2.1,ahG.2.2.1,ahG.2.2.2,ahG.1))))))
def M.Af s:=M.Ae s (λs=>some (Sum.inl s)) λt=>some (Sum.inr t)
def M.JZ s:=fM (M.Af) s
def F.JZ:LE X0 68:=le 1 (pOr (Jd [dO 0 (pP 100000 0)] [dO 100000 (cB 57 [pL false 1,pI,pI])]) (Jd [dO 0 (pP 100000 0),dO 3 (pO 300000 0),dO 11 pB] [dO 100000 (cB 57 [pL false 1,pI,pI]),dO 300000 (cA false false 0 5)])) (σ:=(aA×Int×Int)⊕(Bool×aA×Int×Int×aA)) (λx=>(match x with| .inl x=> .inl ((x.2.1.1,x.2.1.2.1,x.2.1.2.2.1))| .inr x=> .inr ((x.1.2.2.1,x.2.1.1,x.2.1.2.1,x.2.1.2.2.1,x.2.2.1)))) (λx s=>(match s with| .inl s=> .inl ((((),()),((s.1,s.2.1,s.2.2,()),())))| .inr s=> .inr ((((),(),s.1,()),((s.2.1,s.2.2.1,s.2.2.2.1,()),s.2.2.2.2,()))))) (λx=> .leaf (aA×Int×Int×aA) (λt=>(Ex.ret,{tm:=[(2,V.own 300000 0)],mem:=[(100000,Cell.box 57 [Jr 1 t.1,jZ t.2.1,jZ t.2.2.1]),(300000,Cell.arr false false 0 5 t.2.2.2)]}))) (λx=>M.Ae) [fe C.aQ,fe C.dM] [] (by rintro _ _ (⟨_,_,_⟩|⟨_,_,_,_,_⟩) _ _<;>unfold M.Ae<;>repeat' first|(with_reducible first|apply iI|apply Oa|apply Ob|apply Oc|apply Oe)|intro _|apply iI|rfl) (hE:=by intro _ _ s _;rcases s with s|s<;>kernel_rfl)
def M.MN{R:Type}(c:aA)(c1 c2:Int)(k:aA×aA×Int×Int->Option R):Option R:=(M.JZ (.inl ((c,c1,c2)))).bind λavn=>(k ((avn.2.2.2,avn.1,avn.2.1,avn.2.2.1)))
def M.xU c c1 c2:=M.MN c c1 c2 some
def C.xU:S.xU.ok X0 λx=>M.xU x.2.1.1 x.2.1.2.1 x.2.1.2.2.1:=fnS (λx=>M.MN x.2.1.1 x.2.1.2.1 x.2.1.2.2.1) [] [F.JZ] (by intros;simp only[M.MN,nb]<;>rfl)
def M.Ij{R:Type}(deep:Int)(c:aA)(c1 c2:Int)(k:aA×aA×Int×Int->Option R):Option R:=(M.aQ 9 c c1 c2).bind λGp=>(bif Gp.1==0 then((M.aQ 2 Gp.2.1 Gp.2.2.1 Gp.2.2.2).bind λY1=>((M.lQ Y1.1 3 deep Y1.2.1 Y1.2.2.1 Y1.2.2.2).bind λZ7=>((M.je 3 Z7.2.1 Z7.2.2.1 Z7.2.2.2).bind λabC=>(bif abC.1 then((M.fQ ([[D.str [62]],[D.str [62,62]],[D.str [124]]]) abC.2.1 abC.2.2.1 abC.2.2.2).bind λadY=>((M.dM (i64.wrap (deep - 1)) adY.2.1 adY.2.2.1 adY.2.2.2).bind λamo=>(gW Z7.1 [[D.sl true 5 amo.1]] 24 λza=>((M.aW 21 Y1.1 [] adY.1 [] (aJ za)).bind λaq1=>(bif[[D.sl true 5 aq1]].all bG then(k ((aq1,amo.2.1,amo.2.2.1,amo.2.2.2))) else none))))) else((M.aW 21 Y1.1 [] [] [] (aJ Z7.1)).bind λaFv=>(bif[[D.sl true 5 aFv]].all bG then(k ((aFv,abC.2.1,abC.2.2.1,abC.2.2.2))) else none)))))) else(bif Gp.1==1 then((M.aQ 2 Gp.2.1 Gp.2.2.1 Gp.2.2.2).bind λapb=>((M.lQ apb.1 3 deep apb.2.1 apb.2.2.1 apb.2.2.2).bind λaq2=>((M.je 3 aq2.2.1 aq2.2.2.1 aq2.2.2.2).bind λamq=>(bif amq.1 then((M.fQ ([[D.str [62]],[D.str [62,62]],[D.str [124]]]) amq.2.1 amq.2.2.1 amq.2.2.2).bind λavo=>((M.dM (i64.wrap (deep - 1)) avo.2.1 avo.2.2.1 avo.2.2.2).bind λavp=>(gW aq2.1 [[D.sl true 5 avp.1]] 24 λza=>((M.aW 21 apb.1 [] avo.1 [] (aJ za)).bind λaFw=>(bif[[D.sl true 5 aFw]].all bG then(k ((aFw,avp.2.1,avp.2.2.1,avp.2.2.2))) else none))))) else((M.aW 21 apb.1 [] [] [] (aJ aq2.1)).bind λaFx=>(bif[[D.sl true 5 aFx]].all bG then(k ((aFx,amq.2.1,amq.2.2.1,amq.2.2.2))) else none)))))) else(bif Gp.1==2 then((M.gG ([[D.int .i64 22],[D.int .i64 25],[D.int .i64 26]]) Gp.2.1 Gp.2.2.1 Gp.2.2.2).bind λavq=>(k (([[D.int .i64 avq.1,D.int .i64 0,D.str [],D.str [],D.sl true 1 []]],avq.2.1,avq.2.2.1,avq.2.2.2)))) else(bif Gp.1==3 then((M.gG ([[D.int .i64 23],[D.int .i64 24]]) Gp.2.1 Gp.2.2.1 Gp.2.2.2).bind λavr=>((M.lQ 0 1 deep avr.2.1 avr.2.2.1 avr.2.2.2).bind λavs=>((M.aW avr.1 0 [] [] [] (aJ avs.1)).bind λaFy=>(bif[[D.sl true 5 aFy]].all bG then(k ((aFy,avs.2.1,avs.2.2.1,avs.2.2.2))) else none)))) else(bif Gp.1==4 then((M.iU Gp.2.1 Gp.2.2.1 Gp.2.2.2).bind λavt=>((M.lQ 0 2 (i64.wrap (deep - 1)) avt.2.1 avt.2.2.1 avt.2.2.2).bind λavu=>((M.aW 27 0 avt.1 [] [] (aJ avu.1)).bind λaFz=>(bif[[D.sl true 5 aFz]].all bG then(k ((aFz,avu.2.1,avu.2.2.1,avu.2.2.2))) else none)))) else(bif Gp.1==5 then((M.je 2 Gp.2.1 Gp.2.2.1 Gp.2.2.2).bind λamr=>(bif amr.1 then((M.fQ ([[D.str [35]],[D.str [35,32,110,111,116,101]],[D.str [35,120,32,61,32,49]]]) amr.2.1 amr.2.2.1 amr.2.2.2).bind λavv=>(k (([[D.int .i64 34,D.int .i64 0,D.str avv.1,D.str [],D.sl true 1 []]],avv.2.1,avv.2.2.1,avv.2.2.2)))) else((M.dM deep amr.2.1 amr.2.2.1 amr.2.2.2).bind λavw=>((M.aW 20 0 [] [] [] (aJ [[D.sl true 5 avw.1]])).bind λaFA=>(bif[[D.sl true 5 aFA]].all bG then(k ((aFA,avw.2.1,avw.2.2.1,avw.2.2.2))) else none))))) else((M.dM deep Gp.2.1 Gp.2.2.1 Gp.2.2.2).bind λapc=>((M.aW 20 0 [] [] [] (aJ [[D.sl true 5 apc.1]])).bind λavx=>(bif[[D.sl true 5 avx]].all bG then(k ((avx,apc.2.1,apc.2.2.1,apc.2.2.2))) else none)))))))))
def M.sD deep c c1 c2:=M.Ij deep c c1 c2 some
def C.sD:S.sD.ok X0 λx=>M.sD x.1.2.1 x.2.1.1 x.2.1.2.1 x.2.1.2.2.1:=fnS (λx=>M.Ij x.1.2.1 x.2.1.1 x.2.1.2.1 x.2.1.2.2.1) [fe C.aQ,fe C.lQ,fe C.je,fe C.fQ,fe C.dM,fe C.aW,fe C.gG,fe C.iU] [] (by intros;simp only[gW,M.Ij,nb]<;>rfl)
def M.Ea{R:Type}(jo:Int->aA->Int->Int->Option (aA×aA×Int×Int))(deep:Int)(s:Int×aA×Int×Int×aA)(kn:Int×aA×Int×Int×aA->Option R)(ke:Int×aA×Int×Int×aA->Option R):Option R:=match s with
 |(n',v,v1,v2,x')=>bif decide (n'>0) then((jo deep v v1 v2).bind λavy=>(gW x' [[D.sl true 5 avy.1]] 24 λza=>(kn ((i64.wrap (n' - 1),avy.2.1,avy.2.2.1,avy.2.2.2,za))))) else(ke ((n',v,v1,v2,x')))
def M.J3 jo deep s:=M.Ea jo deep s (λs=>some (Sum.inl s)) λt=>some (Sum.inr t)
def M.Ik jo deep s:=fM (M.J3 jo deep) s
def F.Ik{jo:Int->aA->Int->Int->Option (aA×aA×Int×Int)}(RF:S.oO.ok X0 λx=>jo x.1.2.1 x.2.1.1 x.2.1.2.1 x.2.1.2.2.1):LE X0 70:=le 3 (Jd [dO 0 (pP 100000 0),dO 1 pI,dO 5 (pO 300000 0),dO 6 pI] [dO 100000 (cB 57 [pL false 1,pI,pI]),dO 300000 (cA false false 0 1)]) (λx=>(x.1.2.2.2.1,x.2.1.1,x.2.1.2.1,x.2.1.2.2.1,x.2.2.1)) (λx s=>(((),x.1.2.1,(),s.1,()),((s.2.1,s.2.2.1,s.2.2.2.1,()),s.2.2.2.2,()))) (λx=> .leaf (Int×aA×Int×Int×aA) (λt=>(Ex.exit 0,{tm:=[(0,V.ptr 100000 0),(1,jZ x.1.2.1),(5,V.own 300000 0),(6,jZ t.1),(11,y5 false)],mem:=[(100000,Cell.box 57 [Jr 1 t.2.1,jZ t.2.2.1,jZ t.2.2.2.1]),(300000,Cell.arr false false 0 1 t.2.2.2.2)]}))) (λx=>M.Ea jo x.1.2.1) [fe RF] [] (by rintro _ _ ⟨_,_,_,_,_⟩ _ _<;>simp only[gW,M.Ea,nb]<;>rfl)
def M.Ag{R:Type}(jo:Int->aA->Int->Int->Option (aA×aA×Int×Int))(deep:Int)(c:aA)(c1 c2:Int)(k:aA×aA×Int×Int->Option R):Option R:=(M.aQ 3 c c1 c2).bind λavz=>((M.Ik jo deep ((avz.1,avz.2.1,avz.2.2.1,avz.2.2.2,[]))).bind λt141=>((M.aW 33 0 [] [] [] (aJ t141.2.2.2.2)).bind λavA=>(bif[[D.sl true 5 avA]].all bG then(k ((avA,t141.2.1,t141.2.2.1,t141.2.2.2.1))) else none)))
def C.abD{jo:Int->aA->Int->Int->Option (aA×aA×Int×Int)}(RF:S.oO.ok X0 λx=>jo x.1.2.1 x.2.1.1 x.2.1.2.1 x.2.1.2.2.1):S.kF.ok X0 λx=>M.Ag jo x.1.2.1 x.2.1.1 x.2.1.2.1 x.2.1.2.2.1 some:=fnS (λx=>M.Ag jo x.1.2.1 x.2.1.1 x.2.1.2.1 x.2.1.2.2.1) [fe C.aQ,fe C.aW] [F.Ik RF] (by intros;simp only[M.Ag,nb]<;>rfl)
def M.J4{R:Type}(deep:Int)(c:aA)(c1 c2:Int)(k:aA×aA×Int×Int->Option R):Option R:=(M.je 3 c c1 c2).bind λams=>(bif ams.1 then(k (([[D.int .i64 16,D.int .i64 0,D.str [],D.str [],D.sl true 1 []]],ams.2.1,ams.2.2.1,ams.2.2.2))) else((M.dM deep ams.2.1 ams.2.2.1 ams.2.2.2).bind λavC=>(k ((avC.1,avC.2.1,avC.2.2.1,avC.2.2.2)))))
def M.sF deep c c1 c2:=M.J4 deep c c1 c2 some
def C.sF:S.sF.ok X0 λx=>M.sF x.1.2.1 x.2.1.1 x.2.1.2.1 x.2.1.2.2.1:=fnS (λx=>M.J4 x.1.2.1 x.2.1.1 x.2.1.2.1 x.2.1.2.2.1) [fe C.je,fe C.dM] [] (by intros;simp only[M.J4,nb]<;>rfl)
def M.zy{R:Type}(jO:Int->aA->Int->Int->Option (aA×aA×Int×Int))(deep:Int)(c:aA)(c1 c2:Int)(k:aA×aA×Int×Int->Option R):Option R:=bif decide (deep<=0) then((M.sD (bif decide (2<deep) then 2 else deep) c c1 c2).bind λavD=>(k ((avD.1,avD.2.1,avD.2.2.1,avD.2.2.2)))) else((M.je 3 c c1 c2).bind λahH=>(bif !ahH.1 then((M.sD (bif decide (2<deep) then 2 else deep) ahH.2.1 ahH.2.2.1 ahH.2.2.2).bind λapd=>(k ((apd.1,apd.2.1,apd.2.2.1,apd.2.2.2)))) else((M.aQ 6 ahH.2.1 ahH.2.2.1 ahH.2.2.2).bind λOI=>(bif OI.1==0 then((M.dM 1 OI.2.1 OI.2.2.1 OI.2.2.2).bind λape=>((jO (i64.wrap (deep - 1)) ape.2.1 ape.2.2.1 ape.2.2.2).bind λavE=>((M.aW 28 0 [] [] [] (aJ [[D.sl true 5 ape.1],[D.sl true 5 avE.1]])).bind λavF=>(bif[[D.sl true 5 avF]].all bG then(k ((avF,avE.2.1,avE.2.2.1,avE.2.2.2))) else none)))) else(bif OI.1==1 then((M.dM 1 OI.2.1 OI.2.2.1 OI.2.2.2).bind λapf=>((jO (i64.wrap (deep - 1)) apf.2.1 apf.2.2.1 apf.2.2.2).bind λapg=>((jO (i64.wrap (deep - 1)) apg.2.1 apg.2.2.1 apg.2.2.2).bind λaph=>((M.aW 28 0 [] [] [] (aJ [[D.sl true 5 apf.1],[D.sl true 5 apg.1],[D.sl true 5 aph.1]])).bind λaFB=>(bif[[D.sl true 5 aFB]].all bG then(k ((aFB,aph.2.1,aph.2.2.1,aph.2.2.2))) else none))))) else(bif OI.1==2 then((M.dM 1 OI.2.1 OI.2.2.1 OI.2.2.2).bind λavG=>((jO (i64.wrap (deep - 1)) avG.2.1 avG.2.2.1 avG.2.2.2).bind λavH=>((M.aW 29 0 [] [] [] (aJ [[D.sl true 5 avG.1],[D.sl true 5 avH.1]])).bind λaFC=>(bif[[D.sl true 5 aFC]].all bG then(k ((aFC,avH.2.1,avH.2.2.1,avH.2.2.2))) else none)))) else(bif OI.1==3 then((jO (i64.wrap (deep - 1)) OI.2.1 OI.2.2.1 OI.2.2.2).bind λavI=>((M.dM 1 avI.2.1 avI.2.2.1 avI.2.2.2).bind λavJ=>((M.aW 30 0 [] [] [] (aJ [[D.sl true 5 avI.1],[D.sl true 5 avJ.1]])).bind λaFD=>(bif[[D.sl true 5 aFD]].all bG then(k ((aFD,avJ.2.1,avJ.2.2.1,avJ.2.2.2))) else none)))) else(bif OI.1==4 then((M.sF 2 OI.2.1 OI.2.2.1 OI.2.2.2).bind λavK=>((M.sF 1 avK.2.1 avK.2.2.1 avK.2.2.2).bind λavL=>((M.sF 1 avL.2.1 avL.2.2.1 avL.2.2.2).bind λavM=>((jO (i64.wrap (deep - 1)) avM.2.1 avM.2.2.1 avM.2.2.2).bind λavN=>((M.aW 31 0 [] [] [] (aJ [[D.sl true 5 avK.1],[D.sl true 5 avL.1],[D.sl true 5 avM.1],[D.sl true 5 avN.1]])).bind λaFE=>(bif[[D.sl true 5 aFE]].all bG then(k ((aFE,avN.2.1,avN.2.2.1,avN.2.2.2))) else none)))))) else((M.je 2 OI.2.1 OI.2.2.1 OI.2.2.2).bind λamu=>(bif amu.1 then((jO (i64.wrap (deep - 1)) amu.2.1 amu.2.2.1 amu.2.2.2).bind λavO=>(k ((avO.1,avO.2.1,avO.2.2.1,avO.2.2.2)))) else((M.iU amu.2.1 amu.2.2.1 amu.2.2.2).bind λavP=>((M.iU avP.2.1 avP.2.2.1 avP.2.2.2).bind λavQ=>((jO (i64.wrap (deep - 1)) avQ.2.1 avQ.2.2.1 avQ.2.2.2).bind λavR=>((M.aW 32 0 avP.1 avQ.1 [] (aJ [[D.sl true 5 avR.1]])).bind λaFF=>(bif[[D.sl true 5 aFF]].all bG then(k ((aFF,avR.2.1,avR.2.2.1,avR.2.2.2))) else none)))))))))))))))
def C.adZ{jO:Int->aA->Int->Int->Option (aA×aA×Int×Int)}(ad1:S.kF.ok X0 λx=>jO x.1.2.1 x.2.1.1 x.2.1.2.1 x.2.1.2.2.1):S.oO.ok X0 λx=>M.zy jO x.1.2.1 x.2.1.1 x.2.1.2.1 x.2.1.2.2.1 some:=fnS (λx=>M.zy jO x.1.2.1 x.2.1.1 x.2.1.2.1 x.2.1.2.2.1) [fe C.sD,fe C.je,fe C.aQ,fe C.dM,fe ad1,fe C.aW,fe C.sF,fe C.iU] [] (by intros;simp only[M.zy,nb]<;>rfl)
def M.wo:Nat->(Int->aA->Int->Int->Option (aA×aA×Int×Int))×(Int->aA->Int->Int->Option (aA×aA×Int×Int)):=Nat.rec (λ_ _ _ _=>none,λ_ _ _ _=>none) λ_ qz=>(λdeep c c1 c2=>M.zy qz.2 deep c c1 c2 some,λdeep c c1 c2=>M.Ag qz.1 deep c c1 c2 some)
def M.sS n:=(M.wo n).1
def M.Ah n:=(M.wo n).2
def M.WZ(n:Nat):M.sS (n+1)=λdeep c c1 c2=>M.zy (M.Ah n) deep c c1 c2 some:=rfl
def M.ad2(n:Nat):M.Ah (n+1)=λdeep c c1 c2=>M.Ag (M.sS n) deep c c1 c2 some:=rfl
def M.oO deep c c1 c2:=lim λn=>M.sS n deep c c1 c2
def M.kF deep c c1 c2:=lim λn=>M.Ah n deep c c1 c2
def C.wo:∀n,(S.oO.ok X0 λx=>M.sS n x.1.2.1 x.2.1.1 x.2.1.2.1 x.2.1.2.2.1)∧(S.kF.ok X0 λx=>M.Ah n x.1.2.1 x.2.1.1 x.2.1.2.1 x.2.1.2.2.1)
 |0=>⟨eH.zero,eH.zero⟩
 |n+1=>have h:=C.wo n;⟨C.adZ h.2,C.abD h.1⟩
def C.oO:S.oO.ok X0 λx=>M.oO x.1.2.1 x.2.1.1 x.2.1.2.1 x.2.1.2.2.1:=eH.lim λn=>(C.wo n).1
def M.ad3{n:Nat}{deep:Int}{c:aA}{c1 c2:Int}{r:aA×aA×Int×Int}(h:M.sS n deep c c1 c2=some r):M.oO deep c c1 c2=some r:=eH.DV (λn=>(C.wo n).1) (by intro a b h;simp[S.oO,sg] at h;first|exact h|simp[Prod.ext_iff,h]) (x:=(((),deep,()),((c,c1,c2,()),()))) h
def C.kF:S.kF.ok X0 λx=>M.kF x.1.2.1 x.2.1.1 x.2.1.2.1 x.2.1.2.2.1:=eH.lim λn=>(C.wo n).2
def M.abE{n:Nat}{deep:Int}{c:aA}{c1 c2:Int}{r:aA×aA×Int×Int}(h:M.Ah n deep c c1 c2=some r):M.kF deep c c1 c2=some r:=eH.DV (λn=>(C.wo n).2) (by intro a b h;simp[S.kF,sg] at h;first|exact h|simp[Prod.ext_iff,h]) (x:=(((),deep,()),((c,c1,c2,()),()))) h
def M.Eb{R:Type}(deep:Int)(s:Int×aA×Int×Int×aA)(kn:Int×aA×Int×Int×aA->Option R)(ke:Int×aA×Int×Int×aA->Option R):Option R:=match s with
 |(n',v,v1,v2,x')=>bif decide (n'>0) then((M.iU v v1 v2).bind λavS=>(gW x' [[D.sl true 5 [[D.int .i64 1,D.int .i64 0,D.str avS.1,D.str [],D.sl true 1 []]]]] 24 λza=>(kn ((i64.wrap (n' - 1),avS.2.1,avS.2.2.1,avS.2.2.2,za))))) else(ke ((n',v,v1,v2,x')))
def M.J5 deep s:=M.Eb deep s (λs=>some (Sum.inl s)) λt=>some (Sum.inr t)
def M.Il deep s:=fM (M.J5 deep) s
def F.Il:LE X0 42:=le 16 (Jd [dO 0 (pP 100000 0),dO 3 pI,dO 4 (pO 300000 0),dO 5 pI] [dO 100000 (cB 57 [pL false 1,pI,pI]),dO 300000 (cA false false 0 1)]) (λx=>(x.1.2.2.2.1,x.2.1.1,x.2.1.2.1,x.2.1.2.2.1,x.2.2.1)) (λx s=>(((),x.1.2.1,(),s.1,()),((s.2.1,s.2.2.1,s.2.2.2.1,()),s.2.2.2.2,()))) (λx=> .leaf (Int×aA×Int×Int×aA) (λt=>(Ex.exit 1,{tm:=[(0,V.ptr 100000 0),(3,jZ x.1.2.1),(4,V.own 300000 0),(5,jZ t.1),(65,y5 false)],mem:=[(100000,Cell.box 57 [Jr 1 t.2.1,jZ t.2.2.1,jZ t.2.2.2.1]),(300000,Cell.arr false false 0 1 t.2.2.2.2)]}))) (λx=>M.Eb x.1.2.1) [fe C.iU] [] (by rintro _ _ ⟨_,_,_,_,_⟩ _ _<;>simp only[gW,M.Eb,nb]<;>rfl)
def M.MO{R:Type}(c:aA)(c1 c2:Int)(k:aA×aA×Int×Int->Option R):Option R:=(M.aQ 2 c c1 c2).bind λad4=>((M.aQ 8 ad4.2.1 ad4.2.2.1 ad4.2.2.2).bind λJe=>(bif Je.1==0 then((M.aQ 2 Je.2.1 Je.2.2.1 Je.2.2.2).bind λavT=>((M.kF (i64.wrap (1+ad4.1)) avT.2.1 avT.2.2.1 avT.2.2.2).bind λavU=>((M.aW (i64.wrap (40+avT.1)) 0 [] [] [] (aJ [[D.sl true 5 avU.1]])).bind λaFG=>(bif[[D.sl true 5 aFG]].all bG then(k ((aFG,avU.2.1,avU.2.2.1,avU.2.2.2))) else none)))) else(bif Je.1==1 then((M.dM (i64.wrap (1+ad4.1)) Je.2.1 Je.2.2.1 Je.2.2.2).bind λavV=>((M.aW 42 1 [] [] [] (aJ [[D.sl true 5 avV.1]])).bind λaFH=>(bif[[D.sl true 5 aFH]].all bG then(k ((aFH,avV.2.1,avV.2.2.1,avV.2.2.2))) else none))) else(bif Je.1==2 then((M.kF (i64.wrap (1+ad4.1)) Je.2.1 Je.2.2.1 Je.2.2.2).bind λavW=>((M.aW 42 2 [] [] [] (aJ [[D.sl true 5 avW.1]])).bind λaFI=>(bif[[D.sl true 5 aFI]].all bG then(k ((aFI,avW.2.1,avW.2.2.1,avW.2.2.2))) else none))) else(bif Je.1==3 then((M.dM 1 Je.2.1 Je.2.2.1 Je.2.2.2).bind λavX=>((M.dM 1 avX.2.1 avX.2.2.1 avX.2.2.2).bind λavY=>((M.aW 43 1 [] [] [] (aJ [[D.sl true 5 avX.1],[D.sl true 5 avY.1]])).bind λaFJ=>(bif[[D.sl true 5 aFJ]].all bG then(k ((aFJ,avY.2.1,avY.2.2.1,avY.2.2.2))) else none)))) else(bif Je.1==4 then((M.dM 1 Je.2.1 Je.2.2.1 Je.2.2.2).bind λavZ=>((M.dM 1 avZ.2.1 avZ.2.2.1 avZ.2.2.2).bind λav1=>((M.kF (i64.wrap (1+ad4.1)) av1.2.1 av1.2.2.1 av1.2.2.2).bind λav2=>((M.aW 43 3 [] [] [] (aJ [[D.sl true 5 avZ.1],[D.sl true 5 av1.1],[D.sl true 5 av2.1]])).bind λaFK=>(bif[[D.sl true 5 aFK]].all bG then(k ((aFK,av2.2.1,av2.2.2.1,av2.2.2.2))) else none))))) else(bif Je.1==5 then((M.aQ 3 Je.2.1 Je.2.2.1 Je.2.2.2).bind λav3=>((M.Il (i64.wrap (1+ad4.1)) ((av3.1,av3.2.1,av3.2.2.1,av3.2.2.2,[]))).bind λav4=>((M.fQ ([[D.str [102]],[D.str [103]],[D.str [109,97,120]]]) av4.2.1 av4.2.2.1 av4.2.2.2.1).bind λav5=>((M.kF (i64.wrap (1+ad4.1)) av5.2.1 av5.2.2.1 av5.2.2.2).bind λav6=>(gW av4.2.2.2.2 [[D.sl true 5 av6.1]] 24 λza=>((M.aW 44 0 av5.1 [] [] (aJ za)).bind λaFL=>(bif[[D.sl true 5 aFL]].all bG then(k ((aFL,av6.2.1,av6.2.2.1,av6.2.2.2))) else none))))))) else(bif Je.1==6 then((M.fQ ([[D.str [35,32,116,111,112]],[D.str [35]]]) Je.2.1 Je.2.2.1 Je.2.2.2).bind λav7=>(k (([[D.int .i64 34,D.int .i64 0,D.str av7.1,D.str [],D.sl true 1 []]],av7.2.1,av7.2.2.1,av7.2.2.2)))) else((M.dM (i64.wrap (1+ad4.1)) Je.2.1 Je.2.2.1 Je.2.2.2).bind λav8=>((M.kF (i64.wrap (1+ad4.1)) av8.2.1 av8.2.2.1 av8.2.2.2).bind λav9=>((M.aW 42 3 [] [] [] (aJ [[D.sl true 5 av8.1],[D.sl true 5 av9.1]])).bind λaFM=>(bif[[D.sl true 5 aFM]].all bG then(k ((aFM,av9.2.1,av9.2.2.1,av9.2.2.2))) else none))))))))))))
def M.Bo c c1 c2:=M.MO c c1 c2 some
def C.Bo:S.Bo.ok X0 λx=>M.Bo x.2.1.1 x.2.1.2.1 x.2.1.2.2.1:=fnS (λx=>M.MO x.2.1.1 x.2.1.2.1 x.2.1.2.2.1) [fe C.aQ,fe C.kF,fe C.aW,fe C.dM,fe C.fQ] [F.Il] (by intros;simp only[gW,M.MO,nb]<;>rfl)
def M.zN{R:Type}(s:Int×aA×Int×Int×aA)(kn:Int×aA×Int×Int×aA->Option R)(ke:Int×aA×Int×Int×aA->Option R):Option R:=match s with
 |(n',v,v1,v2,x')=>bif decide (n'>0) then((M.Bo v v1 v2).bind λawc=>(gW x' [[D.sl true 5 awc.1]] 24 λza=>(kn ((i64.wrap (n' - 1),awc.2.1,awc.2.2.1,awc.2.2.2,za))))) else(ke ((n',v,v1,v2,x')))
def M.Ht s:=M.zN s (λs=>some (Sum.inl s)) λt=>some (Sum.inr t)
def M.yx s:=fM (M.Ht) s
def F.yx:LE X0 18:=le 3 (Jd [dO 0 (pP 100000 0),dO 3 (pO 300000 0),dO 4 pI] [dO 100000 (cB 57 [pL false 1,pI,pI]),dO 300000 (cA false false 0 1)]) (λx=>(x.1.2.2.1,x.2.1.1,x.2.1.2.1,x.2.1.2.2.1,x.2.2.1)) (λx s=>(((),(),s.1,()),((s.2.1,s.2.2.1,s.2.2.2.1,()),s.2.2.2.2,()))) (λx=> .leaf (Int×aA×Int×Int×aA) (λt=>(Ex.exit 2,{tm:=[(0,V.ptr 100000 0),(3,V.own 300000 0),(4,jZ t.1),(10,y5 false)],mem:=[(100000,Cell.box 57 [Jr 1 t.2.1,jZ t.2.2.1,jZ t.2.2.2.1]),(300000,Cell.arr false false 0 1 t.2.2.2.2)]}))) (λx=>M.zN) [fe C.Bo] [] (by rintro _ _ ⟨_,_,_,_,_⟩ _ _<;>simp only[gW,M.zN,nb]<;>rfl)
def M.uS{R:Type}(s:(aA×Int×Int)⊕(Bool×aA×Int×Int×aA))(kn:(aA×Int×Int)⊕(Bool×aA×Int×Int×aA)->Option R)(ke:aA×Int×Int×aA->Option R):Option R:=match s with
 | .inl ((v,v1,v2))=>(M.aQ 4 v v1 v2).bind λawd=>((M.yx ((awd.1,awd.2.1,awd.2.2.1,awd.2.2.2,[]))).bind λamv=>((M.aW 45 0 [] [] [] (aJ amv.2.2.2.2)).bind λawe=>(bif[[D.sl true 5 awe]].all bG then(bif decide ((↑awe.length:Int)<=220) then(ke ((amv.2.1,amv.2.2.1,amv.2.2.2.1,awe))) else(kn (.inr ((false,amv.2.1,amv.2.2.1,amv.2.2.2.1,awe))))) else none)))
 | .inr ((v23,v,v1,v2,x'))=>(M.aQ 4 v v1 v2).bind λawf=>((M.yx ((awf.1,awf.2.1,awf.2.2.1,awf.2.2.2,[]))).bind λamw=>((M.aW 45 0 [] [] [] (aJ amw.2.2.2.2)).bind λawg=>(bif[[D.sl true 5 awg]].all bG then(bif decide ((↑awg.length:Int)<=220) then(ke ((amw.2.1,amw.2.2.1,amw.2.2.2.1,awg))) else(kn (.inr ((false,amw.2.1,amw.2.2.1,amw.2.2.2.1,awg))))) else none)))
def M.uT s:=M.uS s (λs=>some (Sum.inl s)) λt=>some (Sum.inr t)
def M.Ec s:=fM (M.uT) s
def F.Ec:LE X0 18:=le 1 (pOr (Jd [dO 0 (pP 100000 0)] [dO 100000 (cB 57 [pL false 1,pI,pI])]) (Jd [dO 0 (pP 100000 0),dO 5 (pO 300000 0),dO 23 pB] [dO 100000 (cB 57 [pL false 1,pI,pI]),dO 300000 (cA false false 0 5)])) (σ:=(aA×Int×Int)⊕(Bool×aA×Int×Int×aA)) (λx=>(match x with| .inl x=> .inl ((x.2.1.1,x.2.1.2.1,x.2.1.2.2.1))| .inr x=> .inr ((x.1.2.2.1,x.2.1.1,x.2.1.2.1,x.2.1.2.2.1,x.2.2.1)))) (λx s=>(match s with| .inl s=> .inl ((((),()),((s.1,s.2.1,s.2.2,()),())))| .inr s=> .inr ((((),(),s.1,()),((s.2.1,s.2.2.1,s.2.2.2.1,()),s.2.2.2.2,()))))) (λx=> .leaf (aA×Int×Int×aA) (λt=>(Ex.ret,{tm:=[(2,V.own 300000 0)],mem:=[(100000,Cell.box 57 [Jr 1 t.1,jZ t.2.1,jZ t.2.2.1]),(300000,Cell.arr false false 0 5 t.2.2.2)]}))) (λx=>M.uS) [fe C.aQ,fe C.aW] [F.yx] (by rintro _ _ (⟨_,_,_⟩|⟨_,_,_,_,_⟩) _ _<;>unfold M.uS<;>repeat' first|(with_reducible first|apply iI|apply Oa|apply Ob|apply Oc|apply Oe)|intro _|apply iI|rfl) (hE:=by intro _ _ s _;rcases s with s|s<;>kernel_rfl)
def M.Gq{R:Type}(c:aA)(c1 c2:Int)(k:aA×aA×Int×Int->Option R):Option R:=(M.Ec (.inl ((c,c1,c2)))).bind λawh=>(k ((awh.2.2.2,awh.1,awh.2.1,awh.2.2.1)))
def M.nU c c1 c2:=M.Gq c c1 c2 some
def C.nU:S.nU.ok X0 λx=>M.nU x.2.1.1 x.2.1.2.1 x.2.1.2.2.1:=fnS (λx=>M.Gq x.2.1.1 x.2.1.2.1 x.2.1.2.2.1) [] [F.Ec] (by intros;simp only[M.Gq,nb]<;>rfl)
def M.Po{R:Type}(c:aA)(c1 c2:Int)(k:aA×aA×Int×Int->Option R):Option R:=(M.aQ 5 c c1 c2).bind λr14=>(bif r14.1==0 then((M.xU r14.2.1 r14.2.2.1 r14.2.2.2).bind λawi=>(k ((awi.1,awi.2.1,awi.2.2.1,awi.2.2.2)))) else(bif r14.1==1 then((M.xU r14.2.1 r14.2.2.1 r14.2.2.2).bind λawj=>(k ((awj.1,awj.2.1,awj.2.2.1,awj.2.2.2)))) else(bif r14.1==2 then((M.oO 2 r14.2.1 r14.2.2.1 r14.2.2.2).bind λawk=>(k ((awk.1,awk.2.1,awk.2.2.1,awk.2.2.2)))) else((M.nU r14.2.1 r14.2.2.1 r14.2.2.2).bind λawl=>(k ((awl.1,awl.2.1,awl.2.2.1,awl.2.2.2)))))))
def M.zh c c1 c2:=M.Po c c1 c2 some
def C.zh:S.zh.ok X0 λx=>M.zh x.2.1.1 x.2.1.2.1 x.2.1.2.2.1:=fnS (λx=>M.Po x.2.1.1 x.2.1.2.1 x.2.1.2.2.1) [fe C.aQ,fe C.xU,fe C.oO,fe C.nU] [] (by intros;simp only[M.Po,nb]<;>rfl)
def M.MP{R:Type}(c:aA)(c1 c2:Int)(k:Bool×aA×aA×Int×Int->Option R):Option R:=(M.zh c c1 c2).bind λOJ=>((M.aQ ((↑OJ.1.length:Int)) OJ.2.1 OJ.2.2.1 OJ.2.2.2).bind λOL=>((M.aQ 12 OL.2.1 OL.2.2.1 OL.2.2.2).bind λQF=>(bif QF.1==0 then((cut (aJ OJ.1) 0 OL.1).bind λawm=>(k ((false,awm,QF.2.1,QF.2.2.1,QF.2.2.2)))) else(bif QF.1==1 then((idx OJ.1 OL.1).bind λaOk=>(OJ.1[OL.1.toNat]?.bind λaAU=>((acP 1 aAU 4).bind λanH=>(bif ay anH then((M.gG ([[D.int .i64 (-1)],[D.int .i64 OL.1],[D.int .i64 0],[D.int .i64 99]]) QF.2.1 QF.2.2.1 QF.2.2.2).bind λawn=>(gW anH [[D.int .i64 awn.1]] 8 λza=>((idx OJ.1 OL.1).bind λaOl=>(bif ay za then(bif true &&(OL.1.toNat.beq OL.1.toNat &&(true && [D.sl true 1 za].length.beq 1)) then(OJ.1[OL.1.toNat]?.bind λaAV=>(k ((true,OJ.1.set OL.1.toNat (splice aAV 4 [D.sl true 1 za]),awn.2.1,awn.2.2.1,awn.2.2.2)))) else none) else none)))) else none)))) else(bif QF.1==2 then((idx OJ.1 OL.1).bind λaOm=>(OJ.1[OL.1.toNat]?.bind λaAW=>((acP 1 aAW 4).bind λQX=>(bif ay QX then(bif ay QX then(OJ.1[OL.1.toNat]?.bind λad5=>(bif decide ((↑QX.length:Int)>0) then((idx (OJ.1.set OL.1.toNat (splice ad5 4 [D.sl true 1 QX])) OL.1).bind λaOn=>(((OJ.1.set OL.1.toNat (splice ad5 4 [D.sl true 1 QX]))[OL.1.toNat]?).bind λaAX=>((acP 1 aAX 4).bind λY2=>(bif ay Y2 then((M.aQ (i64.wrap (OL.1+1)) QF.2.1 QF.2.2.1 QF.2.2.2).bind λaq3=>((idx Y2 0).bind λaOo=>(Y2[0]?.bind λaq4=>(bif ay (Y2.set 0 (splice aq4 0 [D.int .i64 (i64.wrap (aq3.1 - 1))])) then(((OJ.1.set OL.1.toNat (splice ad5 4 [D.sl true 1 QX]))[OL.1.toNat]?).bind λaAY=>(k ((true,(OJ.1.set OL.1.toNat (splice ad5 4 [D.sl true 1 QX])).set OL.1.toNat (splice aAY 4 [D.sl true 1 (Y2.set 0 (splice aq4 0 [D.int .i64 (i64.wrap (aq3.1 - 1))]))]),aq3.2.1,aq3.2.2.1,aq3.2.2.2)))) else none)))) else none)))) else(k ((true,OJ.1.set OL.1.toNat (splice ad5 4 [D.sl true 1 QX]),QF.2.1,QF.2.2.1,QF.2.2.2))))) else none) else none)))) else(bif QF.1==3 then(bif((OJ.1.length+OJ.1.length) * 72).ble 140737488355328 &&(OJ.1.length+OJ.1.length).ble 140737488355328 then(k ((false,aJ OJ.1++aJ OJ.1,QF.2.1,QF.2.2.1,QF.2.2.2))) else none) else(k ((true,OJ.1,QF.2.1,QF.2.2.1,QF.2.2.2)))))))))
def M.Bq c c1 c2:=M.MP c c1 c2 some
def C.Bq:S.Bq.ok X0 λx=>M.Bq x.2.1.1 x.2.1.2.1 x.2.1.2.2.1:=fnS (λx=>M.MP x.2.1.1 x.2.1.2.1 x.2.1.2.2.1) [fe C.zh,fe C.aQ,fe C.gG] [] (by intros;simp only[gW,M.MP,nb]<;>rfl)
def M.Io{R:Type}(c:aA)(c1 c2:Int)(k:Bool×aA×aA×Int×Int->Option R):Option R:=(M.zh c c1 c2).bind λVp=>((M.aQ ((↑Vp.1.length:Int)) Vp.2.1 Vp.2.2.1 Vp.2.2.2).bind λXV=>((M.aQ 14 XV.2.1 XV.2.2.1 XV.2.2.2).bind λQi=>(bif Qi.1==0 then((M.aQ 47 Qi.2.1 Qi.2.2.1 Qi.2.2.2).bind λawo=>((idx Vp.1 XV.1).bind λaOp=>(Vp.1[XV.1.toNat]?.bind λaAZ=>(k ((true,Vp.1.set XV.1.toNat (splice aAZ 0 [D.int .i64 awo.1]),awo.2.1,awo.2.2.1,awo.2.2.2)))))) else(bif Qi.1==1 then((M.gG ([[D.int .i64 0],[D.int .i64 1],[D.int .i64 56],[D.int .i64 99],[D.int .i64 54],[D.int .i64 51],[D.int .i64 (-1)]]) Qi.2.1 Qi.2.2.1 Qi.2.2.2).bind λawp=>((idx Vp.1 XV.1).bind λaOq=>(Vp.1[XV.1.toNat]?.bind λaA0=>(k ((true,Vp.1.set XV.1.toNat (splice aA0 1 [D.int .i64 awp.1]),awp.2.1,awp.2.2.1,awp.2.2.2)))))) else(bif Qi.1==2 then((M.fQ ([[D.str []],[D.str [120]],[D.str [105,102]],[D.str [108,101,110,103,116,104]],[D.str [49]],[D.str [47]]]) Qi.2.1 Qi.2.2.1 Qi.2.2.2).bind λawq=>((idx Vp.1 XV.1).bind λaOr=>(Vp.1[XV.1.toNat]?.bind λaA1=>(k ((true,Vp.1.set XV.1.toNat (splice aA1 2 [D.str awq.1]),awq.2.1,awq.2.2.1,awq.2.2.2)))))) else(bif Qi.1==3 then((M.fQ ([[D.str []],[D.str [62]],[D.str [120]]]) Qi.2.1 Qi.2.2.1 Qi.2.2.2).bind λawr=>((idx Vp.1 XV.1).bind λaOs=>(Vp.1[XV.1.toNat]?.bind λaA2=>(k ((true,Vp.1.set XV.1.toNat (splice aA2 3 [D.str awr.1]),awr.2.1,awr.2.2.1,awr.2.2.2)))))) else(bif Qi.1==4 then((M.Bq Qi.2.1 Qi.2.2.1 Qi.2.2.2).bind λawt=>(k ((false,aJ awt.2.1,awt.2.2.1,awt.2.2.2.1,awt.2.2.2.2)))) else(k ((true,Vp.1,Qi.2.1,Qi.2.2.1,Qi.2.2.2))))))))))
def M.vS c c1 c2:=M.Io c c1 c2 some
def C.vS:S.vS.ok X0 λx=>M.vS x.2.1.1 x.2.1.2.1 x.2.1.2.2.1:=fnS (λx=>M.Io x.2.1.1 x.2.1.2.1 x.2.1.2.2.1) [fe C.zh,fe C.aQ,fe C.gG,fe C.fQ,fe C.Bq] [] (by intros;simp only[M.Io,nb]<;>rfl)
def M.BX{R:Type}(code:aA)(k:Bool×aA->Option R):Option R:=(M.Fg code).bind λr4=>((M.je 8 r4.1 r4.2.1 r4.2.2).bind λr13=>(bif r13.1 then((M.vS r13.2.1 r13.2.2.1 r13.2.2.2).bind λaOt=>(k ((false,aJ aOt.2.1)))) else((M.nU r13.2.1 r13.2.2.1 r13.2.2.2).bind λaOu=>(k ((true,aOu.1))))))
def M.oP code:=M.BX code some
def C.oP:S.oP.ok X0 λx=>M.oP x.1.1:=fnS (λx=>M.BX x.1.1) [fe C.Fg,fe C.je,fe C.vS,fe C.nU] [] (by intros;simp only[M.BX,nb]<;>rfl)
def C.gY:S.gY.ok X0 λx=>M.gY x.1.1:=eH.Wq (p:=Prim.gY)
def M.J6{R:Type}(l:aA)(k:Bool->Option R):Option R:=(M.gY l).bind λaOv=>(k aOv.2)
def M.xW l:=M.J6 l some
def C.xW:S.xW.ok X0 λx=>M.xW x.1.1:=fnS (λx=>M.J6 x.1.1) [fe C.gY] [] (by intros;simp only[M.J6,nb]<;>rfl)
def M.zA{R:Type}(n' low high:Int)(k:Bool->Option R):Option R:=bif decide (n'>=low) then(k (decide (n'<=high))) else(k false)
def M.bV n' low high:=M.zA n' low high some
def C.bV:S.bV.ok X0 λx=>M.bV x.1.1 x.1.2.1 x.1.2.2.1:=fnS (λx=>M.zA x.1.1 x.1.2.1 x.1.2.2.1) [] [] (by intros;simp only[M.zA,nb]<;>rfl)
def M.jI{R:Type}(kind:Int)(k:Bool->Option R):Option R:=(M.bV kind 1 15).bind λaOw=>(k aOw)
def M.dU kind:=M.jI kind some
def C.dU:S.dU.ok X0 λx=>M.dU x.1.1:=fnS (λx=>M.jI x.1.1) [fe C.bV] [] (by intros;simp only[M.jI,nb]<;>rfl)
def M.Ip{R:Type}(b:Int)(k:Bool->Option R):Option R:=bif decide (b>=97) then(bif decide (b<=122) then(k true) else(bif decide (b>=65) then(bif decide (b<=90) then(k true) else(k (b==95))) else(k (b==95)))) else(bif decide (b>=65) then(bif decide (b<=90) then(k true) else(k (b==95))) else(k (b==95)))
def M.o9 b:=M.Ip b some
def C.o9:S.o9.ok X0 λx=>M.o9 x.1.1:=fnS (λx=>M.Ip x.1.1) [] [] (by intros;simp only[M.Ip,nb]<;>rfl)
def M.J7{R:Type}(b:Int)(k:Bool->Option R):Option R:=bif decide (b>=48) then(k (decide (b<=57))) else(k false)
def M.sG b:=M.J7 b some
def C.sG:S.sG.ok X0 λx=>M.sG x.1.1:=fnS (λx=>M.J7 x.1.1) [] [] (by intros;simp only[M.J7,nb]<;>rfl)
def M.Ed{R:Type}(b:Int)(k:Bool->Option R):Option R:=(M.o9 b).bind λaOx=>(bif aOx then(k true) else((M.sG b).bind λaOy=>(k aOy)))
def M.jL b:=M.Ed b some
def C.jL:S.jL.ok X0 λx=>M.jL x.1.1:=fnS (λx=>M.Ed x.1.1) [fe C.o9,fe C.sG] [] (by intros;simp only[M.Ed,nb]<;>rfl)
def M.uU{R:Type}(s':aF)(v5 s:Int)(kn:Int->Option R)(ke:(Unit)⊕(Int)->Option R):Option R:=match s with
 |v6=>bif decide (v6<v5) then((idx s' v6).bind λaOz=>((M.jL (i64.wrap (↑aOz.toNat:Int))).bind λaOA=>(bif !aOA then(ke (.inl ())) else(kn (i64.wrap (v6+1)))))) else(ke (.inr v6))
def M.zO s' v5 s:=M.uU s' v5 s (λs=>some (Sum.inl s)) λt=>some (Sum.inr t)
def M.Ee s' v5 s:=fM (M.zO s' v5) s
def F.Ee:LE X0 162:=le 2 (Jd [dO 0 pS,dO 5 pI,dO 6 pI] []) (λx=>x.1.2.2.1) (λx s=>((x.1.1,x.1.2.1,s,()),())) (λx=> .sum (.leaf (Unit) (λt=>(Ex.ret,{tm:=[(2,y5 false)],mem:=[]}))) (.leaf (Int) (λt=>(Ex.exit 0,{tm:=[(0,xP x.1.1),(5,jZ x.1.2.1),(6,jZ t),(7,y5 false)],mem:=[]})))) (λx=>M.uU x.1.1 x.1.2.1) [fe C.jL] [] (by rintro _ _ _ _ _<;>simp only[M.uU,nb]<;>rfl)
def M.Gs{R:Type}(s':aF)(k:Bool->Option R):Option R:=(M.Ee s' ((↑s'.length:Int)) 0).bind λaOB=>uw aOB (λaWJ=>(k false)) λaOC=>letE aOC λaWK=>((M.bV ((↑s'.length:Int)) 1 12).bind λaOD=>(bif aOD then((idx s' 0).bind λaOE=>((M.o9 (i64.wrap (↑aOE.toNat:Int))).bind λaOF=>(k aOF))) else(k false)))
def M.tJ s':=M.Gs s' some
def C.tJ:S.tJ.ok X0 λx=>M.tJ x.1.1:=fnS (λx=>M.Gs x.1.1) [fe C.bV,fe C.o9] [F.Ee] (by intros;simp only[M.Gs,nb]<;>rfl)
def M.yA{R:Type}(s':aA)(v:aF)(v7 s:Int)(kn:Int->Option R)(ke:(Int)⊕(Int)->Option R):Option R:=match s with
 |v8=>bif decide (v8<v7) then((idx s' v8).bind λaA3=>((cStr aA3 0).bind λaOG=>(bif v==aOG then(ke (.inl v8)) else(kn (i64.wrap (v8+1)))))) else(ke (.inr v8))
def M.Ef s' v v7 s:=M.yA s' v v7 s (λs=>some (Sum.inl s)) λt=>some (Sum.inr t)
def M.Iq s' v v7 s:=fM (M.Ef s' v v7) s
def F.Iq:LE X0 168:=le 2 (Jd [dO 0 (pL false 1),dO 1 pS,dO 7 pI,dO 8 pI] []) (λx=>x.1.2.2.2.1) (λx s=>((x.1.1,x.1.2.1,x.1.2.2.1,s,()),())) (λx=> .sum (.leaf (Int) (λt=>(Ex.ret,{tm:=[(4,jZ t)],mem:=[]}))) (.leaf (Int) (λt=>(Ex.exit 0,{tm:=[(0,Jr 1 x.1.1),(1,xP x.1.2.1),(7,jZ x.1.2.2.1),(8,jZ t),(9,y5 false)],mem:=[]})))) (λx=>M.yA x.1.1 x.1.2.1 x.1.2.2.1) [] [] (by rintro _ _ _ _ _<;>simp only[M.yA,nb]<;>rfl)
def M.J8{R:Type}(s':aA)(v:aF)(k:Int->Option R):Option R:=(M.Iq s' v ((↑s'.length:Int)) 0).bind λaOH=>uw aOH (λaOI=>(k aOI)) λaOJ=>letE aOJ λaWL=>(k (-1))
def M.slices_Index s' v:=M.J8 s' v some
def C.slices_Index:S.slices_Index.ok X0 λx=>M.slices_Index x.1.1 x.1.2.1:=fnS (λx=>M.J8 x.1.1 x.1.2.1) [] [F.Iq] (by intros;simp only[M.J8,nb]<;>rfl)
def M.Gt{R:Type}(s':aF)(k:Int->Option R):Option R:=(M.slices_Index (List.map (λx=>[x]) Bl) s').bind λaFN=>(bif decide (aFN<0) then(k 0) else(k (i64.wrap (10+aFN))))
def M.tN s':=M.Gt s' some
def C.tN:S.tN.ok X0 λx=>M.tN x.1.1:=fnS (λx=>M.Gt x.1.1) [fe C.slices_Index] [] (by intros;simp only[M.Gt,nb]<;>rfl)
def M.yB{R:Type}(s':aA)(v:aF)(k:Bool->Option R):Option R:=(M.slices_Index s' v).bind λaOK=>(k (decide (aOK>=0)))
def M.slices_Contains(s':aA)(v:aF):Option (Bool):=M.yB s' v some
def C.slices_Contains:S.slices_Contains.ok X0 λx=>M.slices_Contains x.1.1 x.1.2.1:=fnS (λx=>M.yB x.1.1 x.1.2.1) [fe C.slices_Index] [] (by intros;simp only[M.yB,nb]<;>rfl)
def M.Gu{R:Type}(s':aF)(k:Bool->Option R):Option R:=(M.slices_Contains (List.map (λx=>[x]) Jq) s').bind λaOL=>(k aOL)
def M.lI s':=M.Gu s' some
def C.lI:S.lI.ok X0 λx=>M.lI x.1.1:=fnS (λx=>M.Gu x.1.1) [fe C.slices_Contains] [] (by intros;simp only[M.Gu,nb]<;>rfl)
def M.MQ{R:Type}(s':aF)(k:Bool->Option R):Option R:=(M.tJ s').bind λaOM=>(bif aOM then((M.tN s').bind λaON=>(bif aON==0 then((M.lI s').bind λaOO=>(k !aOO)) else(k false))) else(k false))
def M.jD s':=M.MQ s' some
def C.jD:S.jD.ok X0 λx=>M.jD x.1.1:=fnS (λx=>M.MQ x.1.1) [fe C.tJ,fe C.tN,fe C.lI] [] (by intros;simp only[M.MQ,nb]<;>rfl)
def C.strings_Contains:S.strings_Contains.ok X0 λx=>M.strings_Contains x.1.1 x.1.2.1:=eH.Wq (p:=Prim.strings_Contains)
def M.MR{R:Type}(s':aF)(at':Int)(k:Int->Option R):Option R:=(M.bV at' 0 (i64.wrap ((↑s'.length:Int) - 1))).bind λaOP=>(bif !aOP then(k (-1)) else((idx s' at').bind λaOQ=>(k (i64.wrap (↑aOQ.toNat:Int)))))
def M.jE s' at':=M.MR s' at' some
def C.jE:S.jE.ok X0 λx=>M.jE x.1.1 x.1.2.1:=fnS (λx=>M.MR x.1.1 x.1.2.1) [fe C.bV] [] (by intros;simp only[M.MR,nb]<;>rfl)
def M.zQ{R:Type}(s':aF)(s:Int)(kn:Int->Option R)(ke:Int->Option R):Option R:=match s with
 |at'=>(M.jE s' at').bind λaOR=>((M.sG aOR).bind λaOS=>(bif aOS then(kn (i64.wrap (at'+1))) else(ke at')))
def M.OY s' s:=M.zQ s' s (λs=>some (Sum.inl s)) λt=>some (Sum.inr t)
def M.Eh s' s:=fM (M.OY s') s
def F.Eh:LE X0 196:=le 1 (Jd [dO 0 pS,dO 1 pI] []) (λx=>x.1.2.1) (λx s=>((x.1.1,s,()),())) (λx=> .leaf (Int) (λt=>(Ex.exit 0,{tm:=[(0,xP x.1.1),(1,jZ t),(8,y5 false)],mem:=[]}))) (λx=>M.zQ x.1.1) [fe C.jE,fe C.sG] [] (by rintro _ _ _ _ _<;>simp only[M.zQ,nb]<;>rfl)
def M.Gv{R:Type}(s':aF)(at':Int)(k:Int->Option R):Option R:=(M.Eh s' at').bind λaOT=>(k aOT)
def M.dJ s' at':=M.Gv s' at' some
def C.dJ:S.dJ.ok X0 λx=>M.dJ x.1.1 x.1.2.1:=fnS (λx=>M.Gv x.1.1 x.1.2.1) [] [F.Eh] (by intros;simp only[M.Gv,nb]<;>rfl)
def M.MS{R:Type}(s':aF)(at':Int)(k:Int->Option R):Option R:=(M.bV at' 0 (i64.wrap ((↑s'.length:Int) - 1))).bind λaOU=>(bif !aOU then(k (-1)) else((M.dJ s' at').bind λLP=>((M.jE s' LP).bind λaOV=>(bif aOV==46 then((M.dJ s' (i64.wrap (LP+1))).bind λQj=>(bif i64.wrap (i64.wrap (LP - at')+i64.wrap (i64.wrap (Qj - LP) - 1))==0 then(k (-1)) else((M.jE s' Qj).bind λaFO=>(bif aFO==101 then((M.jE s' (i64.wrap (Qj+1))).bind λaFP=>(bif aFP==43 then((M.dJ s' (i64.wrap (i64.wrap (Qj+1)+1))).bind λaFQ=>(bif decide (aFQ>i64.wrap (i64.wrap (Qj+1)+1)) then(k aFQ) else(k Qj))) else(bif aFP==45 then((M.dJ s' (i64.wrap (i64.wrap (Qj+1)+1))).bind λaFR=>(bif decide (aFR>i64.wrap (i64.wrap (Qj+1)+1)) then(k aFR) else(k Qj))) else((M.dJ s' (i64.wrap (Qj+1))).bind λaFS=>(bif decide (aFS>i64.wrap (Qj+1)) then(k aFS) else(k Qj)))))) else(bif aFO==69 then((M.jE s' (i64.wrap (Qj+1))).bind λaFT=>(bif aFT==43 then((M.dJ s' (i64.wrap (i64.wrap (Qj+1)+1))).bind λaFU=>(bif decide (aFU>i64.wrap (i64.wrap (Qj+1)+1)) then(k aFU) else(k Qj))) else(bif aFT==45 then((M.dJ s' (i64.wrap (i64.wrap (Qj+1)+1))).bind λaFV=>(bif decide (aFV>i64.wrap (i64.wrap (Qj+1)+1)) then(k aFV) else(k Qj))) else((M.dJ s' (i64.wrap (Qj+1))).bind λaFW=>(bif decide (aFW>i64.wrap (Qj+1)) then(k aFW) else(k Qj)))))) else(k Qj)))))) else(bif i64.wrap (LP - at')==0 then(k (-1)) else((M.jE s' LP).bind λaFX=>(bif aFX==101 then((M.jE s' (i64.wrap (LP+1))).bind λaFY=>(bif aFY==43 then((M.dJ s' (i64.wrap (i64.wrap (LP+1)+1))).bind λaFZ=>(bif decide (aFZ>i64.wrap (i64.wrap (LP+1)+1)) then(k aFZ) else(k LP))) else(bif aFY==45 then((M.dJ s' (i64.wrap (i64.wrap (LP+1)+1))).bind λaF0=>(bif decide (aF0>i64.wrap (i64.wrap (LP+1)+1)) then(k aF0) else(k LP))) else((M.dJ s' (i64.wrap (LP+1))).bind λaF1=>(bif decide (aF1>i64.wrap (LP+1)) then(k aF1) else(k LP)))))) else(bif aFX==69 then((M.jE s' (i64.wrap (LP+1))).bind λaF2=>(bif aF2==43 then((M.dJ s' (i64.wrap (i64.wrap (LP+1)+1))).bind λaF3=>(bif decide (aF3>i64.wrap (i64.wrap (LP+1)+1)) then(k aF3) else(k LP))) else(bif aF2==45 then((M.dJ s' (i64.wrap (i64.wrap (LP+1)+1))).bind λaF4=>(bif decide (aF4>i64.wrap (i64.wrap (LP+1)+1)) then(k aF4) else(k LP))) else((M.dJ s' (i64.wrap (LP+1))).bind λaF5=>(bif decide (aF5>i64.wrap (LP+1)) then(k aF5) else(k LP)))))) else(k LP)))))))))
def M.Bv s' at':=M.MS s' at' some
def C.Bv:S.Bv.ok X0 λx=>M.Bv x.1.1 x.1.2.1:=fnS (λx=>M.MS x.1.1 x.1.2.1) [fe C.bV,fe C.dJ,fe C.jE] [] (by intros;unfold M.MS;repeat' first|(with_reducible first|apply iI|apply Oa|apply Ob|apply Oc|apply Oe)|intro _|apply iI|rfl)
def M.qy{R:Type}(s':aF)(quote s:Int)(kn:Int->Option R)(ke:(Int)⊕(Int)->Option R):Option R:=match s with
 |i=>bif decide (i<(↑s'.length:Int)) then((idx s' i).bind λaOW=>(bif(↑aOW.toNat:Int) !=10 then((idx s' i).bind λaOX=>(bif i64.wrap (↑aOX.toNat:Int)==quote then(ke (.inl (i64.wrap (i+1)))) else((idx s' i).bind λaOY=>(bif(↑aOY.toNat:Int)==92 then((M.jE s' (i64.wrap (i+1))).bind λaOZ=>(bif aOZ !=10 then(kn (i64.wrap (i64.wrap (i+1)+1))) else(kn (i64.wrap (i+1))))) else(kn (i64.wrap (i+1))))))) else(ke (.inr i)))) else(ke (.inr i))
def M.uV s' quote s:=M.qy s' quote s (λs=>some (Sum.inl s)) λt=>some (Sum.inr t)
def M.ql s' quote s:=fM (M.uV s' quote) s
def F.ql:LE X0 198:=le 4 (Jd [dO 0 pS,dO 2 pI,dO 7 pI] []) (λx=>x.1.2.2.1) (λx s=>((x.1.1,x.1.2.1,s,()),())) (λx=> .sum (.leaf (Int) (λt=>(Ex.ret,{tm:=[(6,jZ t)],mem:=[]}))) (.leaf (Int) (λt=>(Ex.exit 0,{tm:=[(0,xP x.1.1),(2,jZ x.1.2.1),(7,jZ t),(24,y5 false)],mem:=[]})))) (λx=>M.qy x.1.1 x.1.2.1) [fe C.jE] [] (by rintro _ _ _ _ _<;>simp only[M.qy,nb]<;>rfl)
def M.Gw{R:Type}(s':aF)(at' quote:Int)(k:Int->Option R):Option R:=(M.jE s' at').bind λaO0=>(bif aO0 !=quote then(k (-1)) else((M.ql s' quote (i64.wrap (at'+1))).bind λaO1=>uw aO1 (λaO2=>(k aO2)) λaO3=>letE aO3 λaWM=>(k (-1))))
def M.nV s' at' quote:=M.Gw s' at' quote some
def C.nV:S.nV.ok X0 λx=>M.nV x.1.1 x.1.2.1 x.1.2.2.1:=fnS (λx=>M.Gw x.1.1 x.1.2.1 x.1.2.2.1) [fe C.jE] [F.ql] (by intros;simp only[M.Gw,nb]<;>rfl)
def M.MV{R:Type}(s':aF)(at':Int)(k:Int->Option R):Option R:=(M.nV s' at' 34).bind λaO4=>(k aO4)
def M.Bz s' at':=M.MV s' at' some
def C.Bz:S.Bz.ok X0 λx=>M.Bz x.1.1 x.1.2.1:=fnS (λx=>M.MV x.1.1 x.1.2.1) [fe C.nV] [] (by intros;simp only[M.MV,nb]<;>rfl)
def M.MW{R:Type}(s':aF)(at':Int)(k:Int->Option R):Option R:=(M.nV s' at' 47).bind λaF6=>(bif aF6==i64.wrap (at'+2) then(k (-1)) else(k aF6))
def M.BA s' at':=M.MW s' at' some
def C.BA:S.BA.ok X0 λx=>M.BA x.1.1 x.1.2.1:=fnS (λx=>M.MW x.1.1 x.1.2.1) [fe C.nV] [] (by intros;simp only[M.MW,nb]<;>rfl)
def M.yC{R:Type}(kind:Int)(k:Bool->Option R):Option R:=(M.bV kind 10 26).bind λaO5=>(k aO5)
def M.oJ kind:=M.yC kind some
def C.oJ:S.oJ.ok X0 λx=>M.oJ x.1.1:=fnS (λx=>M.yC x.1.1) [fe C.bV] [] (by intros;simp only[M.yC,nb]<;>rfl)
def M.yD{R:Type}(kind:Int)(k:Bool->Option R):Option R:=(M.bV kind 30 68).bind λaO6=>(k aO6)
def M.gV kind:=M.yD kind some
def C.gV:S.gV.ok X0 λx=>M.gV x.1.1:=fnS (λx=>M.yD x.1.1) [fe C.bV] [] (by intros;simp only[M.yD,nb]<;>rfl)
def M.J9{R:Type}(kind:Int)(k:aF->Option R):Option R:=bif kind==1 then(k [10]) else((M.oJ kind).bind λaO7=>(bif aO7 then(bif decide (0<=i64.wrap (kind - 10)) && decide (i64.wrap (kind - 10)<17) then((cStr Bl (0+(i64.wrap (kind - 10)).toNat * 1)).bind λaO8=>(k aO8)) else none) else((M.gV kind).bind λaO9=>(bif aO9 then(bif decide (0<=i64.wrap (kind - 30)) && decide (i64.wrap (kind - 30)<39) then((cStr Qe (0+(i64.wrap (kind - 30)).toNat * 1)).bind λaPa=>(k aPa)) else none) else(k [])))))
def M.gI kind:=M.J9 kind some
def C.gI:S.gI.ok X0 λx=>M.gI x.1.1:=fnS (λx=>M.J9 x.1.1) [fe C.oJ,fe C.gV] [] (by intros;simp only[M.J9,nb]<;>rfl)
def M.Ko{R:Type}(t':Int)(iK:aF)(jF:Int)(k:Bool->Option R):Option R:=bif iK==[] then(k false) else(bif t'==2 then((idx iK 0).bind λaPb=>(bif(↑aPb.toNat:Int)==35 then((M.strings_Contains iK [10]).bind λaPc=>(k !aPc)) else(k false))) else(bif t'==3 then((M.Bv iK 0).bind λaPd=>(k (aPd==(↑iK.length:Int)))) else(bif t'==4 then((M.Bz iK 0).bind λaPe=>(k (aPe==(↑iK.length:Int)))) else(bif t'==5 then((M.BA iK 0).bind λaPf=>(k (aPf==(↑iK.length:Int)))) else(bif t'==6 then((M.jD iK).bind λaPg=>(k aPg)) else(bif t'==7 then((M.jD iK).bind λaPh=>(k aPh)) else(bif t'==8 then((M.lI iK).bind λaPi=>(k aPi)) else((M.gI t').bind λaPj=>(k (iK==aPj))))))))))
def M.ou t' iK jF:=M.Ko t' iK jF some
def C.ou:S.ou.ok X0 λx=>M.ou x.1.1.1 x.1.1.2.1 x.1.1.2.2.1:=fnS (λx=>M.Ko x.1.1.1 x.1.1.2.1 x.1.1.2.2.1) [fe C.strings_Contains,fe C.Bv,fe C.Bz,fe C.BA,fe C.jD,fe C.lI,fe C.gI] [] (by intros;simp only[M.Ko,nb]<;>rfl)
def M.kW{R:Type}(kind:Int)(k:Bool->Option R):Option R:=bif kind==51 then(k true) else(k (kind==52))
def M.kC kind:=M.kW kind some
def C.kC:S.kC.ok X0 λx=>M.kC x.1.1:=fnS (λx=>M.kW x.1.1) [] [] (by intros;simp only[M.kW,nb]<;>rfl)
def M.FC{R:Type}(op':Int)(k:Int->Option R):Option R:=bif op'==44 then(k 3) else(bif op'==45 then(k 4) else(bif op'==67 then(k 6) else(bif op'==46 then(k 6) else(bif op'==63 then(k 7) else(bif op'==48 then(k 7) else(bif op'==47 then(k 7) else(bif op'==50 then(k 7) else(bif op'==62 then(k 7) else(bif op'==49 then(k 7) else(bif op'==99 then(k 8) else(bif op'==55 then(k 9) else(bif op'==56 then(k 9) else(bif op'==57 then(k 10) else(bif op'==58 then(k 10) else(bif op'==59 then(k 10) else(bif op'==60 then(k 12) else(k 0)))))))))))))))))
def M.lX op':=M.FC op' some
def C.lX:S.lX.ok X0 λx=>M.lX x.1.1:=fnS (λx=>M.FC x.1.1) [] [] (by intros;unfold M.FC;repeat' first|(with_reducible first|apply iI|apply Oa|apply Ob|apply Oc|apply Oe)|intro _|apply iI|rfl)
def M.Ir{R:Type}(kind:Int)(k:Bool->Option R):Option R:=bif kind==54 then(k true) else((M.bV kind 38 43).bind λaPk=>(k aPk))
def M.vT kind:=M.Ir kind some
def C.vT:S.vT.ok X0 λx=>M.vT x.1.1:=fnS (λx=>M.Ir x.1.1) [fe C.bV] [] (by intros;simp only[M.Ir,nb]<;>rfl)
def M.jq{R:Type}(n' gJ:Int)(iV iZ:aF)(kD:aA)(k:Bool×Bool×Bool×Int×Int->Option R):Option R:=bif n'==1 then((M.jD iV).bind λaPl=>(k ((gJ==0,aPl,false,0,0)))) else(bif n'==2 then(bif decide (0<=i64.wrap (n' - 2)) && decide (i64.wrap (n' - 2)<3) then((fZ .i64 [D.int .i64 3,D.int .i64 4,D.int .i64 5] (i64.wrap (n' - 2)).toNat).bind λn278=>((M.ou n278 iV 0).bind λaPm=>(k ((gJ==0,aPm,false,0,0))))) else none) else(bif n'==3 then(bif decide (0<=i64.wrap (n' - 2)) && decide (i64.wrap (n' - 2)<3) then((fZ .i64 [D.int .i64 3,D.int .i64 4,D.int .i64 5] (i64.wrap (n' - 2)).toNat).bind λn333=>((M.ou n333 iV 0).bind λaPn=>(k ((gJ==0,aPn,false,0,0))))) else none) else(bif n'==4 then(bif decide (0<=i64.wrap (n' - 2)) && decide (i64.wrap (n' - 2)<3) then((fZ .i64 [D.int .i64 3,D.int .i64 4,D.int .i64 5] (i64.wrap (n' - 2)).toNat).bind λn335=>((M.ou n335 iV 0).bind λaPo=>(k ((gJ==0,aPo,false,0,0))))) else none) else(bif n'==5 then((M.jD iV).bind λaPp=>(k ((gJ==0,aPp,false,1,6)))) else(bif n'==13 then((M.jD iV).bind λaPq=>(k ((gJ==0,aPq,false,1,6)))) else(bif n'==6 then(k ((gJ==0,iV==[],false,1,1))) else(bif n'==7 then((M.jD iV).bind λaPr=>(k ((gJ==0,aPr,false,0,6)))) else(bif n'==8 then((M.lI iV).bind λaPs=>(k ((gJ==0,aPs,false,0,6)))) else(bif n'==9 then((M.kC gJ).bind λaPt=>(k ((aPt,iV==[],false,1,1)))) else(bif n'==10 then((M.kC gJ).bind λaPu=>(k ((aPu,iV==[],false,1,1)))) else(bif n'==11 then(bif gJ==55 then(k ((true,iV==[],false,1,1))) else(bif gJ==56 then(k ((true,iV==[],false,1,1))) else(k ((gJ==61,iV==[],false,1,1))))) else(bif n'==12 then((M.lX gJ).bind λaPv=>(k ((aPv !=0,iV==[],false,2,2)))) else(bif n'==14 then(k ((gJ==0,iV==[],false,3,3))) else((M.vT gJ).bind λaPw=>(k ((aPw,iV==[],false,2,2)))))))))))))))))
def M.jf n' gJ iV iZ kD:=M.jq n' gJ iV iZ kD some
def C.jf:S.jf.ok X0 λx=>dH M.jf x.1.1:=fnS (λx=>M.jq x.1.1.1 x.1.1.2.1 x.1.1.2.2.1 x.1.1.2.2.2.1 x.1.1.2.2.2.2.1) [fe C.jD,fe C.ou,fe C.lI,fe C.kC,fe C.lX,fe C.vT] [] (by intros;unfold M.jq;repeat' first|(with_reducible first|apply iI|apply Oa|apply Ob|apply Oc|apply Oe)|intro _|apply iI|rfl)
def M.jJ{R:Type}(kind:Int)(k:Bool->Option R):Option R:=(M.bV kind 20 34).bind λawu=>(k awu)
def M.iq kind:=M.jJ kind some
def C.iq:S.iq.ok X0 λx=>M.iq x.1.1:=fnS (λx=>M.jJ x.1.1) [fe C.bV] [] (by intros;simp only[M.jJ,nb]<;>rfl)
def M.jr{R:Type}(n' gJ:Int)(iV iZ:aF)(kD:aA)(k:Bool×Bool×Bool×Int×Int->Option R):Option R:=bif n'==20 then(k ((gJ==0,iV==[],iZ==[],1,1))) else(bif n'==21 then(bif gJ==0 then((M.slices_Contains ([[D.str []],[D.str [62]],[D.str [62,62]],[D.str [124]]]) iZ).bind λaq5=>(bif !iZ==[] then(k ((true,iV==[],aq5,i64.wrap (gJ+1),7))) else(k ((true,iV==[],aq5,gJ,6))))) else((M.slices_Contains ([[D.str []],[D.str [62]],[D.str [62,62]],[D.str [124]]]) iZ).bind λaq6=>(bif !iZ==[] then(k ((gJ==1,iV==[],aq6,i64.wrap (gJ+1),7))) else(k ((gJ==1,iV==[],aq6,gJ,6)))))) else(bif n'==23 then(k ((gJ==0,iV==[],iZ==[],0,1))) else(bif n'==24 then(k ((gJ==0,iV==[],iZ==[],0,1))) else(bif n'==27 then((M.jD iV).bind λawv=>(k ((gJ==0,awv,iZ==[],0,6)))) else(bif n'==28 then(k ((gJ==0,iV==[],iZ==[],2,3))) else(bif n'==29 then(k ((gJ==0,iV==[],iZ==[],2,2))) else(bif n'==30 then(k ((gJ==0,iV==[],iZ==[],2,2))) else(bif n'==31 then(k ((gJ==0,iV==[],iZ==[],4,4))) else(bif n'==32 then((M.jD iV).bind λaww=>((M.jD iZ).bind λawx=>(k ((gJ==0,aww,awx,1,1))))) else(bif n'==33 then(k ((gJ==0,iV==[],iZ==[],0,400))) else(bif n'==34 then((M.ou 2 iV 0).bind λaPx=>(k ((gJ==0,aPx,iZ==[],0,0)))) else(k ((gJ==0,iV==[],iZ==[],0,0))))))))))))))
def M.jg n' gJ iV iZ kD:=M.jr n' gJ iV iZ kD some
def C.jg:S.jg.ok X0 λx=>dH M.jg x.1.1:=fnS (λx=>M.jr x.1.1.1 x.1.1.2.1 x.1.1.2.2.1 x.1.1.2.2.2.1 x.1.1.2.2.2.2.1) [fe C.slices_Contains,fe C.jD,fe C.ou] [] (by intros;unfold M.jr;repeat' first|(with_reducible first|apply iI|apply Oa|apply Ob|apply Oc|apply Oe)|intro _|apply iI|rfl)
def M.jv{R:Type}(n' gJ:Int)(iV iZ:aF)(kD:aA)(k:Bool×Bool×Bool×Int×Int->Option R):Option R:=bif n'==40 then(k ((gJ==0,iV==[],iZ==[],1,1))) else(bif n'==41 then(k ((gJ==0,iV==[],iZ==[],1,1))) else(bif n'==42 then((M.bV gJ 1 3).bind λaF7=>(bif gJ==3 then(k ((aF7,iV==[],iZ==[],2,2))) else(k ((aF7,iV==[],iZ==[],1,1))))) else(bif n'==43 then(bif gJ==1 then(bif gJ==3 then(k ((true,iV==[],iZ==[],3,3))) else(k ((true,iV==[],iZ==[],2,2)))) else(bif gJ==3 then(k ((gJ==3,iV==[],iZ==[],3,3))) else(k ((gJ==3,iV==[],iZ==[],2,2))))) else(bif n'==44 then((M.jD iV).bind λaPy=>(k ((gJ==0,aPy,iZ==[],1,7)))) else(k ((gJ==0,iV==[],iZ==[],0,400)))))))
def M.jh n' gJ iV iZ kD:=M.jv n' gJ iV iZ kD some
def C.jh:S.jh.ok X0 λx=>dH M.jh x.1.1:=fnS (λx=>M.jv x.1.1.1 x.1.1.2.1 x.1.1.2.2.1 x.1.1.2.2.2.1 x.1.1.2.2.2.2.1) [fe C.bV,fe C.jD] [] (by intros;simp only[M.jv,nb]<;>rfl)
def M.iR{R:Type}(n' gJ:Int)(iV iZ:aF)(kD:aA)(k:Bool->Option R):Option R:=(M.dU n').bind λaPz=>(bif aPz then((M.jf n' gJ iV iZ kD).bind λawy=>(bif awy.1 then(bif awy.2.1 then(bif iZ==[] then((M.bV ((↑kD.length:Int)) awy.2.2.2.1 awy.2.2.2.2).bind λaPA=>(k aPA)) else(k false)) else(k false)) else(k false))) else(bif n'==16 then(bif gJ==0 then(bif iV==[] then(bif iZ==[] then((M.bV ((↑kD.length:Int)) 0 0).bind λawz=>(k awz)) else(k false)) else(k false)) else(k false)) else((M.iq n').bind λawC=>(bif awC then((M.jg n' gJ iV iZ kD).bind λaq7=>(bif aq7.1 then(bif aq7.2.1 then(bif aq7.2.2.1 then((M.bV ((↑kD.length:Int)) aq7.2.2.2.1 aq7.2.2.2.2).bind λaPB=>(k aPB)) else(k false)) else(k false)) else(k false))) else((M.bV n' 40 45).bind λaPC=>(bif aPC then((M.jh n' gJ iV iZ kD).bind λaq8=>(bif aq8.1 then(bif aq8.2.1 then(bif aq8.2.2.1 then((M.bV ((↑kD.length:Int)) aq8.2.2.2.1 aq8.2.2.2.2).bind λaPD=>(k aPD)) else(k false)) else(k false)) else(k false))) else(k false)))))))
def M.gZ n' gJ iV iZ kD:=M.iR n' gJ iV iZ kD some
def C.gZ:S.gZ.ok X0 λx=>dH M.gZ x.1.1:=fnS (λx=>M.iR x.1.1.1 x.1.1.2.1 x.1.1.2.2.1 x.1.1.2.2.2.1 x.1.1.2.2.2.2.1) [fe C.dU,fe C.jf,fe C.bV,fe C.iq,fe C.jg,fe C.jh] [] (by intros;unfold M.iR;repeat' first|(with_reducible first|apply iI|apply Oa|apply Ob|apply Oc|apply Oe)|intro _|apply iI|rfl)
def M.Iu{R:Type}(kind:Int)(k:Bool->Option R):Option R:=bif kind==1 then(k true) else(bif kind==5 then(k true) else(k (kind==6)))
def M.pq kind:=M.Iu kind some
def C.pq:S.pq.ok X0 λx=>M.pq x.1.1:=fnS (λx=>M.Iu x.1.1) [] [] (by intros;simp only[M.Iu,nb]<;>rfl)
def M.MX{R:Type}(kind:Int)(k:Bool->Option R):Option R:=(M.bV kind 40 44).bind λaPE=>(k aPE)
def M.BD kind:=M.MX kind some
def C.BD:S.BD.ok X0 λx=>M.BD x.1.1:=fnS (λx=>M.MX x.1.1) [fe C.bV] [] (by intros;simp only[M.MX,nb]<;>rfl)
def M.aS{R:Type}(n' gJ:Int)(iV iZ:aF)(kD:aA)(k' kid:Int)(k:Bool->Option R):Option R:=bif n'==9 then((M.pq kid).bind λaPF=>(k aPF)) else(bif n'==10 then((M.pq kid).bind λaPG=>(k aPG)) else(bif n'==15 then(bif k'==0 then((M.pq kid).bind λaPH=>(bif aPH then(k true) else(bif decide (k'>0) then((M.dU kid).bind λaPI=>(k aPI)) else(k false)))) else(bif decide (k'>0) then((M.dU kid).bind λaPJ=>(k aPJ)) else(k false))) else(bif n'==28 then(bif decide (k'>0) then(k (kid==33)) else((M.dU kid).bind λaPK=>(k aPK))) else(bif n'==29 then(bif decide (k'>0) then(k (kid==33)) else((M.dU kid).bind λaPL=>(k aPL))) else(bif n'==31 then(bif decide (k'<3) then(bif kid==16 then(k true) else(bif k'==i64.wrap ((↑kD.length:Int) - 1) then(k (kid==33)) else((M.dU kid).bind λaPM=>(k aPM)))) else(bif k'==i64.wrap ((↑kD.length:Int) - 1) then(k (kid==33)) else((M.dU kid).bind λaPN=>(k aPN)))) else(bif n'==30 then(bif k'==0 then(k (kid==33)) else((M.dU kid).bind λaPO=>(k aPO))) else(bif n'==32 then(k (kid==33)) else(bif n'==40 then(k (kid==33)) else(bif n'==41 then(k (kid==33)) else(bif n'==33 then((M.iq kid).bind λaPP=>(k aPP)) else(bif n'==42 then(bif k'==i64.wrap ((↑kD.length:Int) - 1) then(bif decide (gJ>=2) then(k (kid==33)) else((M.dU kid).bind λaPQ=>(k aPQ))) else((M.dU kid).bind λaPR=>(k aPR))) else(bif n'==43 then(bif k'==i64.wrap ((↑kD.length:Int) - 1) then(bif gJ==3 then(k (kid==33)) else((M.dU kid).bind λaPS=>(k aPS))) else((M.dU kid).bind λaPT=>(k aPT))) else(bif n'==44 then(bif !k'==i64.wrap ((↑kD.length:Int) - 1) then(k (kid==1)) else(k (kid==33))) else(bif n'==45 then((M.BD kid).bind λaPU=>(bif aPU then(k true) else(k (kid==34)))) else((M.dU kid).bind λaPV=>(k aPV))))))))))))))))
def M.aY n' gJ iV iZ kD k' kid:=M.aS n' gJ iV iZ kD k' kid some
def C.aY:S.aY.ok X0 λx=>dH M.aY x.1.1 x.1.2.1 x.1.2.2.1:=fnS (λx=>M.aS x.1.1.1 x.1.1.2.1 x.1.1.2.2.1 x.1.1.2.2.2.1 x.1.1.2.2.2.2.1 x.1.2.1 x.1.2.2.1) [fe C.pq,fe C.dU,fe C.iq,fe C.BD] [] (by intros;unfold M.aS;repeat' first|(with_reducible first|apply iI|apply Oa|apply Ob|apply Oc|apply Oe)|intro _|apply iI|rfl)
def M.kL{R:Type}(iT:aA->Int->Option (Int×Int×aF×aF×aA))(s:(aA×aA×Int×Int×Int×Int×aF×aF×Int×Int×aF×aF)⊕(aA×aA×Int×Int×Int×Int×aF×aF×Int×Int×aF×aF×aA))(kn:(aA×aA×Int×Int×Int×Int×aF×aF×Int×Int×aF×aF)⊕(aA×aA×Int×Int×Int×Int×aF×aF×Int×Int×aF×aF×aA)->Option R)(ke:(aA×aA×Int×Int×Int×Int×aF×aF×Int×Int×aF×aF)⊕(aA×aA×Int×Int×Int×Int×aF×aF×Int×Int×aF×aF×aA)->Option R):Option R:=match s with
 | .inl ((l,v23,v24,v25,x',BN,CZ,EU,Gj,RD,XW,x'7))=>bif decide (v25<v24) then((idx v23 v25).bind λaA4=>((fZ .i64 aA4 0).bind λaPW=>((iT l aPW).bind λr400=>(kn (.inr ((l,v23,v24,i64.wrap (v25+1),x',BN,CZ,EU,Gj,RD,XW,x'7,[[D.int .i64 r400.1,D.int .i64 r400.2.1,D.str r400.2.2.1,D.str r400.2.2.2.1,D.sl true 5 r400.2.2.2.2]]))))))) else(ke (.inl ((l,v23,v24,v25,x',BN,CZ,EU,Gj,RD,XW,x'7))))
 | .inr ((l,v23,v24,v25,x',BN,CZ,EU,Gj,RD,XW,x'7,x'8))=>bif decide (v25<v24) then((idx v23 v25).bind λaA5=>((fZ .i64 aA5 0).bind λaPX=>((iT l aPX).bind λaq9=>(gW x'8 [[D.int .i64 aq9.1,D.int .i64 aq9.2.1,D.str aq9.2.2.1,D.str aq9.2.2.2.1,D.sl true 5 aq9.2.2.2.2]] 72 λza=>(kn (.inr ((l,v23,v24,i64.wrap (v25+1),x',BN,CZ,EU,Gj,RD,XW,x'7,za)))))))) else(ke (.inr ((l,v23,v24,v25,x',BN,CZ,EU,Gj,RD,XW,x'7,x'8))))
def M.kM iT s:=M.kL iT s (λs=>some (Sum.inl s)) λt=>some (Sum.inr t)
def M.FD iT s:=fM (M.kM iT) s
def F.FD{iT:aA->Int->Option (Int×Int×aF×aF×aA)}(RG:S.kZ.ok X0 λx=>iT x.1.1 x.1.2.1):LE X0 26:=le 4 (pOr (Jd [dO 0 (pL false 5),dO 4 (pP 300000 0),dO 6 (pP 300001 0),dO 23 (pL false 1),dO 24 pI,dO 25 pI] [dO 300000 (cB 45 [pI,pI,pS,pS,ahA 5]),dO 300001 (cB 45 [pI,pI,pS,pS,ahA 5])]) (Jd [dO 0 (pL false 5),dO 4 (pP 300000 0),dO 6 (pP 300001 0),dO 23 (pL false 1),dO 24 pI,dO 25 pI] [dO 300000 (cB 45 [pI,pI,pS,pS,ahA 5]),dO 300001 (cB 45 [pI,pI,pS,pS,pO 300002 0]),dO 300002 (cA false false 0 5)])) (σ:=(aA×aA×Int×Int×Int×Int×aF×aF×Int×Int×aF×aF)⊕(aA×aA×Int×Int×Int×Int×aF×aF×Int×Int×aF×aF×aA)) (λx=>(match x with| .inl x=> .inl ((x.1.1,x.1.2.2.2.1,x.1.2.2.2.2.1,x.1.2.2.2.2.2.1,x.2.1.1,x.2.1.2.1,x.2.1.2.2.1,x.2.1.2.2.2.1,x.2.2.1.1,x.2.2.1.2.1,x.2.2.1.2.2.1,x.2.2.1.2.2.2.1))| .inr x=> .inr ((x.1.1,x.1.2.2.2.1,x.1.2.2.2.2.1,x.1.2.2.2.2.2.1,x.2.1.1,x.2.1.2.1,x.2.1.2.2.1,x.2.1.2.2.2.1,x.2.2.1.1,x.2.2.1.2.1,x.2.2.1.2.2.1,x.2.2.1.2.2.2.1,x.2.2.2.1)))) (λx s=>(match s with| .inl s=> .inl (((s.1,(),(),s.2.1,s.2.2.1,s.2.2.2.1,()),((s.2.2.2.2.1,s.2.2.2.2.2.1,s.2.2.2.2.2.2.1,s.2.2.2.2.2.2.2.1,(),()),(s.2.2.2.2.2.2.2.2.1,s.2.2.2.2.2.2.2.2.2.1,s.2.2.2.2.2.2.2.2.2.2.1,s.2.2.2.2.2.2.2.2.2.2.2,(),()),())))| .inr s=> .inr (((s.1,(),(),s.2.1,s.2.2.1,s.2.2.2.1,()),((s.2.2.2.2.1,s.2.2.2.2.2.1,s.2.2.2.2.2.2.1,s.2.2.2.2.2.2.2.1,(),()),(s.2.2.2.2.2.2.2.2.1,s.2.2.2.2.2.2.2.2.2.1,s.2.2.2.2.2.2.2.2.2.2.1,s.2.2.2.2.2.2.2.2.2.2.2.1,(),()),s.2.2.2.2.2.2.2.2.2.2.2.2,()))))) (λx=> .sum (.leaf (aA×aA×Int×Int×Int×Int×aF×aF×Int×Int×aF×aF) (λt=>(Ex.exit 0,{tm:=[(0,Jr 5 t.1),(4,V.ptr 300000 0),(6,V.ptr 300001 0),(23,Jr 1 t.2.1),(24,jZ t.2.2.1),(25,jZ t.2.2.2.1),(26,y5 false)],mem:=[(300000,Cell.box 45 [jZ t.2.2.2.2.1,jZ t.2.2.2.2.2.1,xP t.2.2.2.2.2.2.1,xP t.2.2.2.2.2.2.2.1,V.nil 5]),(300001,Cell.box 45 [jZ t.2.2.2.2.2.2.2.2.1,jZ t.2.2.2.2.2.2.2.2.2.1,xP t.2.2.2.2.2.2.2.2.2.2.1,xP t.2.2.2.2.2.2.2.2.2.2.2,V.nil 5])]}))) (.leaf (aA×aA×Int×Int×Int×Int×aF×aF×Int×Int×aF×aF×aA) (λt=>(Ex.exit 0,{tm:=[(0,Jr 5 t.1),(4,V.ptr 300000 0),(6,V.ptr 300001 0),(23,Jr 1 t.2.1),(24,jZ t.2.2.1),(25,jZ t.2.2.2.1),(26,y5 false)],mem:=[(300000,Cell.box 45 [jZ t.2.2.2.2.1,jZ t.2.2.2.2.2.1,xP t.2.2.2.2.2.2.1,xP t.2.2.2.2.2.2.2.1,V.nil 5]),(300001,Cell.box 45 [jZ t.2.2.2.2.2.2.2.2.1,jZ t.2.2.2.2.2.2.2.2.2.1,xP t.2.2.2.2.2.2.2.2.2.2.1,xP t.2.2.2.2.2.2.2.2.2.2.2.1,V.own 300002 0]),(300002,Cell.arr false false 0 5 t.2.2.2.2.2.2.2.2.2.2.2.2)]})))) (λx=>M.kL iT) [fe RG] [] (by rintro _ _ (⟨_,_,_,_,_,_,_,_,_,_,_,_⟩|⟨_,_,_,_,_,_,_,_,_,_,_,_,_⟩) _ _<;>simp only[gW,M.kL,nb]<;>rfl) (hE:=by intro _ _ s _;rcases s with s|s<;>kernel_rfl)
def M.DC{R:Type}(iT:aA->Int->Option (Int×Int×aF×aF×aA))(l:aA)(i:Int)(k:Int×Int×aF×aF×aA->Option R):Option R:=(idx l i).bind λaA6=>(nT 1 aA6 λaPY aPZ aP0 aP1 anI=>((M.FD iT (.inl ((l,anI,(↑anI.length:Int),0,0,0,[],[],aPY,aPZ,aP0,aP1)))).bind λaP2=>uw aP2 (λawD=>(k ((awD.2.2.2.2.2.2.2.2.1,awD.2.2.2.2.2.2.2.2.2.1,awD.2.2.2.2.2.2.2.2.2.2.1,awD.2.2.2.2.2.2.2.2.2.2.2,[])))) λaP3=>letE aP3 λara=>(k ((ara.2.2.2.2.2.2.2.2.1,ara.2.2.2.2.2.2.2.2.2.1,ara.2.2.2.2.2.2.2.2.2.2.1,ara.2.2.2.2.2.2.2.2.2.2.2.1,ara.2.2.2.2.2.2.2.2.2.2.2.2)))))
def M.jk:Nat->aA->Int->Option (Int×Int×aF×aF×aA)
 |0=>λ_ _=>none
 |n+1=>λl i=>M.DC (M.jk n) l i some
def M.kZ l i:=lim λn=>M.jk n l i
def C.ad6{iT:aA->Int->Option (Int×Int×aF×aF×aA)}(RG:S.kZ.ok X0 λx=>iT x.1.1 x.1.2.1):S.kZ.ok X0 λx=>M.DC iT x.1.1 x.1.2.1 some:=fnS (λx=>M.DC iT x.1.1 x.1.2.1) [] [F.FD RG] (by intros;simp only[nT,M.DC,nb]<;>rfl)
def C.jk:∀n,S.kZ.ok X0 λx=>M.jk n x.1.1 x.1.2.1
 |0=>eH.zero
 |n+1=>C.ad6 (C.jk n)
def C.kZ:S.kZ.ok X0 λx=>M.kZ x.1.1 x.1.2.1:=eH.lim C.jk
def M.Vq{n:Nat}{l:aA}{i:Int}{r:Int×Int×aF×aF×aA}(h:M.jk n l i=some r):M.kZ l i=some r:=eH.DV C.jk (by intro a b h;simp[S.kZ,sg] at h;first|exact h|simp[Prod.ext_iff,h]) (x:=((l,i,()),())) h
def M.MZ{R:Type}(l:aA)(k:Int×Int×aF×aF×aA->Option R):Option R:=(M.kZ l (i64.wrap ((↑l.length:Int) - 1))).bind λr408=>(k ((r408.1,r408.2.1,r408.2.2.1,r408.2.2.2.1,r408.2.2.2.2)))
def M.Fq l:=M.MZ l some
def C.Fq:S.Fq.ok X0 λx=>M.Fq x.1.1:=fnS (λx=>M.MZ x.1.1) [fe C.kZ] [] (by intros;simp only[M.MZ,nb]<;>rfl)
def M.uj{R:Type}(fO:Int->Int->aF->aF->aA->Option (Int))(v7:aA)(v8:Int)(s:Int×Int)(kn:Int×Int->Option R)(ke:Int×Int->Option R):Option R:=match s with
 |(most,v9)=>bif decide (v9<v8) then((idx v7 v9).bind λaA7=>(nT 5 aA7 λaP4 aP5 aP6 aP7 awE=>((fO aP4 aP5 aP6 aP7 awE).bind λaF8=>(kn ((bif decide (most<aF8) then aF8 else most,i64.wrap (v9+1))))))) else(ke ((most,v9)))
def M.yE fO v7 v8 s:=M.uj fO v7 v8 s (λs=>some (Sum.inl s)) λt=>some (Sum.inr t)
def M.BZ fO v7 v8 s:=fM (M.yE fO v7 v8) s
def F.BZ{fO:Int->Int->aF->aF->aA->Option (Int)}(Kq:S.kH.ok X0 λx=>dH fO x.1.1):LE X0 55:=le 3 (Jd [dO 3 pI,dO 7 (pL false 5),dO 8 pI,dO 9 pI] []) (λx=>(x.1.1,x.1.2.2.2.1)) (λx s=>((s.1,x.1.2.1,x.1.2.2.1,s.2,()),())) (λx=> .leaf (Int×Int) (λt=>(Ex.exit 0,{tm:=[(3,jZ t.1),(7,Jr 5 x.1.2.1),(8,jZ x.1.2.2.1),(9,jZ t.2),(10,y5 false)],mem:=[]}))) (λx=>M.uj fO x.1.2.1 x.1.2.2.1) [fe Kq] [] (by rintro _ _ ⟨_,_⟩ _ _<;>simp only[nT,M.uj,nb]<;>rfl)
def M.yF{R:Type}(fO:Int->Int->aF->aF->aA->Option (Int))(t' iK:Int)(jF mD:aF)(lq:aA)(k:Int->Option R):Option R:=(M.BZ fO lq ((↑lq.length:Int)) ((0,0))).bind λaP8=>(k (i64.wrap (aP8.1+1)))
def M.jy:Nat->Int->Int->aF->aF->aA->Option (Int)
 |0=>λ_ _ _ _ _=>none
 |n+1=>λt' iK jF mD lq=>M.yF (M.jy n) t' iK jF mD lq some
def M.kH t' iK jF mD lq:=lim λn=>M.jy n t' iK jF mD lq
def C.XY{fO:Int->Int->aF->aF->aA->Option (Int)}(Kq:S.kH.ok X0 λx=>dH fO x.1.1):S.kH.ok X0 λx=>dH (M.yF fO) x.1.1 some:=fnS (λx=>M.yF fO x.1.1.1 x.1.1.2.1 x.1.1.2.2.1 x.1.1.2.2.2.1 x.1.1.2.2.2.2.1) [] [F.BZ Kq] (by intros;simp only[M.yF,nb]<;>rfl)
def C.jy:∀n,S.kH.ok X0 λx=>M.jy n x.1.1.1 x.1.1.2.1 x.1.1.2.2.1 x.1.1.2.2.2.1 x.1.1.2.2.2.2.1
 |0=>eH.zero
 |n+1=>C.XY (C.jy n)
def C.kH:S.kH.ok X0 λx=>dH M.kH x.1.1:=eH.lim C.jy
def M.XZ{n:Nat}{t' iK:Int}{jF mD:aF}{lq:aA}{r:Int}(h:M.jy n t' iK jF mD lq=some r):M.kH t' iK jF mD lq=some r:=eH.DV C.jy (by intro a b h;simp[S.kH,sg] at h;first|exact h|simp[Prod.ext_iff,h]) (x:=(((t',iK,jF,mD,lq,()),()),())) h
def M.Ai{R:Type}(l v10:aA)(v11 v12:Int)(v20:aA)(v21 x' BN:Int)(CZ EU:aF)(Gj:aA)(s:Int)(kn:Int->Option R)(ke:(Unit)⊕(Int)->Option R):Option R:=match s with
 |v22=>bif decide (v22<v21) then((idx v20 v22).bind λaA8=>((fZ .i64 aA8 0).bind λaP9=>((idx l aP9).bind λaA9=>((fZ .i64 aA9 0).bind λaQa=>((M.aY x' BN CZ EU Gj v22 aQa).bind λaQb=>(bif !aQb then(ke (.inl ())) else(kn (i64.wrap (v22+1))))))))) else(ke (.inr v22))
def M.LQ l v10 v11 v12 v20 v21 x' BN CZ EU Gj s:=M.Ai l v10 v11 v12 v20 v21 x' BN CZ EU Gj s (λs=>some (Sum.inl s)) λt=>some (Sum.inr t)
def M.FH l v10 v11 v12 v20 v21 x' BN CZ EU Gj s:=fM (M.LQ l v10 v11 v12 v20 v21 x' BN CZ EU Gj) s
def F.FH:LE X0 24:=le 9 (Jd [dO 0 (pL false 5),dO 4 (pP 300000 0),dO 10 (pL false 5),dO 11 pI,dO 12 pI,dO 20 (pL false 1),dO 21 pI,dO 22 pI] [dO 300000 (cB 31 [pI,pI,pS,pS,pL false 1])]) (λx=>x.1.2.2.2.2.2.2.2.1) (λx s=>((x.1.1,(),x.1.2.2.1,x.1.2.2.2.1,x.1.2.2.2.2.1,x.1.2.2.2.2.2.1,x.1.2.2.2.2.2.2.1,s,()),((x.2.1.1,x.2.1.2.1,x.2.1.2.2.1,x.2.1.2.2.2.1,x.2.1.2.2.2.2.1,()),()))) (λx=> .sum (.leaf (Unit) (λt=>(Ex.ret,{tm:=[(2,y5 false)],mem:=[]}))) (.leaf (Int) (λt=>(Ex.exit 2,{tm:=[(0,Jr 5 x.1.1),(4,V.ptr 300000 0),(10,Jr 5 x.1.2.2.1),(11,jZ x.1.2.2.2.1),(12,jZ x.1.2.2.2.2.1),(20,Jr 1 x.1.2.2.2.2.2.1),(21,jZ x.1.2.2.2.2.2.2.1),(22,jZ t),(23,y5 false)],mem:=[(300000,Cell.box 31 [jZ x.2.1.1,jZ x.2.1.2.1,xP x.2.1.2.2.1,xP x.2.1.2.2.2.1,Jr 1 x.2.1.2.2.2.2.1])]})))) (λx=>M.Ai x.1.1 x.1.2.2.1 x.1.2.2.2.1 x.1.2.2.2.2.1 x.1.2.2.2.2.2.1 x.1.2.2.2.2.2.2.1 x.2.1.1 x.2.1.2.1 x.2.1.2.2.1 x.2.1.2.2.2.1 x.2.1.2.2.2.2.1) [fe C.aY] [] (by rintro _ _ _ _ _<;>simp only[M.Ai,nb]<;>rfl)
def M.Aj{R:Type}(l v10:aA)(v11 s:Int)(kn:Int->Option R)(ke:(Unit)⊕(Int)->Option R):Option R:=match s with
 |v12=>bif decide (v12<v11) then((idx v10 v12).bind λaBa=>(nT 1 aBa λn247 n248 aF9 aGa acz=>((M.gZ n247 n248 aF9 aGa acz).bind λaQc=>(bif !aQc then(ke (.inl ())) else((M.FH l v10 v11 v12 acz ((↑acz.length:Int)) n247 n248 aF9 aGa acz 0).bind λaQd=>uw aQd (λaWN=>(ke (.inl ()))) λaQe=>letE aQe λaWO=>(kn (i64.wrap (v12+1)))))))) else(ke (.inr v12))
def M.LU l v10 v11 s:=M.Aj l v10 v11 s (λs=>some (Sum.inl s)) λt=>some (Sum.inr t)
def M.FI l v10 v11 s:=fM (M.LU l v10 v11) s
def F.FI:LE X0 24:=le 4 (Jd [dO 0 (pL false 5),dO 10 (pL false 5),dO 11 pI,dO 12 pI] []) (λx=>x.1.2.2.2.1) (λx s=>((x.1.1,x.1.2.1,x.1.2.2.1,s,()),())) (λx=> .sum (.leaf (Unit) (λt=>(Ex.ret,{tm:=[(2,y5 false)],mem:=[]}))) (.leaf (Int) (λt=>(Ex.exit 0,{tm:=[(0,Jr 5 x.1.1),(10,Jr 5 x.1.2.1),(11,jZ x.1.2.2.1),(12,jZ t),(13,y5 false)],mem:=[]})))) (λx=>M.Aj x.1.1 x.1.2.1 x.1.2.2.1) [fe C.gZ] [F.FH] (by rintro _ _ _ _ _<;>simp only[nT,M.Aj,nb]<;>rfl)
def M.Nh{R:Type}(l:aA)(k:Bool->Option R):Option R:=(M.xW l).bind λaQf=>(bif !aQf then(k false) else((M.FI l l ((↑l.length:Int)) 0).bind λaQg=>uw aQg (λaWP=>(k false)) λaQh=>letE aQh λaWQ=>((M.Fq l).bind λarb=>((M.kH arb.1 arb.2.1 arb.2.2.1 arb.2.2.2.1 (aJ arb.2.2.2.2)).bind λaQi=>(k (decide (aQi<=40)))))))
def M.vU l:=M.Nh l some
def C.vU:S.vU.ok X0 λx=>M.vU x.1.1:=fnS (λx=>M.Nh x.1.1) [fe C.xW,fe C.Fq,fe C.kH] [F.FI] (by intros;simp only[M.Nh,nb]<;>rfl)
def M.Ak{R:Type}(l:aA)(k:Bool->Option R):Option R:=(M.vU l).bind λaQj=>(bif aQj then((idx l (i64.wrap ((↑l.length:Int) - 1))).bind λaBb=>((fZ .i64 aBb 0).bind λaQk=>(k (aQk==45)))) else(k false))
def M.tV l:=M.Ak l some
def C.tV:S.tV.ok X0 λx=>M.tV x.1.1:=fnS (λx=>M.Ak x.1.1) [fe C.vU] [] (by intros;simp only[M.Ak,nb]<;>rfl)
def M.Kr{R:Type}(l:aA)(i:Int)(k:Int->Option R):Option R:=(M.gY l).bind λaBd=>(bif !aBd.2 then(k (-1)) else((M.bV i 0 (i64.wrap ((↑l.length:Int) - 1))).bind λaQl=>(bif !aQl then(k (-1)) else((idx aBd.1 i).bind λaQm=>(aBd.1[i.toNat]?.bind λaBe=>((fZ .i64 aBe 0).bind λaQn=>(k aQn)))))))
def M.xX l i:=M.Kr l i some
def C.xX:S.xX.ok X0 λx=>M.xX x.1.1 x.1.2.1:=fnS (λx=>M.Kr x.1.1 x.1.2.1) [fe C.gY,fe C.bV] [] (by intros;simp only[M.Kr,nb]<;>rfl)
def M.oK{R:Type}(gQ:Int->Int->aF->aF->aA->aA->Option (aA))(s:(aA×Int×Int×aA×Int×Int×aF×aF)⊕(aA×Int×Int×aA×Int×Int×aF×aF×aA))(kn:(aA×Int×Int×aA×Int×Int×aF×aF)⊕(aA×Int×Int×aA×Int×Int×aF×aF×aA)->Option R)(ke:(aA×Int×Int×aA×Int×Int×aF×aF)⊕(aA×Int×Int×aA×Int×Int×aF×aF×aA)->Option R):Option R:=match s with
 | .inl ((v18,v19,v20,x',BN,CZ,EU,Gj))=>bif decide (v20<v19) then((idx v18 v20).bind λaBf=>(nT 5 aBf λaQo aQp aQq aQr awF=>((gQ aQo aQp aQq aQr awF x').bind λaGb=>(kn (.inr ((v18,v19,i64.wrap (v20+1),aGb,BN,CZ,EU,Gj,[[D.int .i64 (i64.wrap ((↑aGb.length:Int) - 1))]]))))))) else(ke (.inl ((v18,v19,v20,x',BN,CZ,EU,Gj))))
 | .inr ((v18,v19,v20,x',BN,CZ,EU,Gj,RD))=>bif decide (v20<v19) then((idx v18 v20).bind λaBg=>(nT 5 aBg λaQs aQt aQu aQv awG=>((gQ aQs aQt aQu aQv awG x').bind λaGc=>(gW RD [[D.int .i64 (i64.wrap ((↑aGc.length:Int) - 1))]] 8 λza=>(kn (.inr ((v18,v19,i64.wrap (v20+1),aGc,BN,CZ,EU,Gj,za)))))))) else(ke (.inr ((v18,v19,v20,x',BN,CZ,EU,Gj,RD))))
def M.rM gQ s:=M.oK gQ s (λs=>some (Sum.inl s)) λt=>some (Sum.inr t)
def M.Gx gQ s:=fM (M.rM gQ) s
def F.Gx{gQ:Int->Int->aF->aF->aA->aA->Option (aA)}(OM:S.mW.ok X0 λx=>dH gQ x.1.1 x.1.2.1):LE X0 75:=le 3 (pOr (Jd [dO 1 (pO 300000 0),dO 5 (pP 300001 0),dO 18 (pL false 5),dO 19 pI,dO 20 pI] [dO 300000 (cA false false 0 5),dO 300001 (cB 31 [pI,pI,pS,pS,ahA 1])]) (Jd [dO 1 (pO 300000 0),dO 5 (pP 300001 0),dO 18 (pL false 5),dO 19 pI,dO 20 pI] [dO 300000 (cA false false 0 5),dO 300001 (cB 31 [pI,pI,pS,pS,pO 300002 0]),dO 300002 (cA false true 0 1)])) (σ:=(aA×Int×Int×aA×Int×Int×aF×aF)⊕(aA×Int×Int×aA×Int×Int×aF×aF×aA)) (λx=>(match x with| .inl x=> .inl ((x.1.2.2.1,x.1.2.2.2.1,x.1.2.2.2.2.1,x.2.1,x.2.2.1.1,x.2.2.1.2.1,x.2.2.1.2.2.1,x.2.2.1.2.2.2.1))| .inr x=> .inr ((x.1.2.2.1,x.1.2.2.2.1,x.1.2.2.2.2.1,x.2.1,x.2.2.1.1,x.2.2.1.2.1,x.2.2.1.2.2.1,x.2.2.1.2.2.2.1,x.2.2.2.1)))) (λx s=>(match s with| .inl s=> .inl ((((),(),s.1,s.2.1,s.2.2.1,()),(s.2.2.2.1,(s.2.2.2.2.1,s.2.2.2.2.2.1,s.2.2.2.2.2.2.1,s.2.2.2.2.2.2.2,(),()),())))| .inr s=> .inr ((((),(),s.1,s.2.1,s.2.2.1,()),(s.2.2.2.1,(s.2.2.2.2.1,s.2.2.2.2.2.1,s.2.2.2.2.2.2.1,s.2.2.2.2.2.2.2.1,(),()),s.2.2.2.2.2.2.2.2,()))))) (λx=> .sum (.leaf (aA×Int×Int×aA×Int×Int×aF×aF) (λt=>(Ex.exit 0,{tm:=[(1,V.own 300000 0),(5,V.ptr 300001 0),(18,Jr 5 t.1),(19,jZ t.2.1),(20,jZ t.2.2.1),(21,y5 false)],mem:=[(300000,Cell.arr false false 0 5 t.2.2.2.1),(300001,Cell.box 31 [jZ t.2.2.2.2.1,jZ t.2.2.2.2.2.1,xP t.2.2.2.2.2.2.1,xP t.2.2.2.2.2.2.2,V.nil 1])]}))) (.leaf (aA×Int×Int×aA×Int×Int×aF×aF×aA) (λt=>(Ex.exit 0,{tm:=[(1,V.own 300000 0),(5,V.ptr 300001 0),(18,Jr 5 t.1),(19,jZ t.2.1),(20,jZ t.2.2.1),(21,y5 false)],mem:=[(300000,Cell.arr false false 0 5 t.2.2.2.1),(300001,Cell.box 31 [jZ t.2.2.2.2.1,jZ t.2.2.2.2.2.1,xP t.2.2.2.2.2.2.1,xP t.2.2.2.2.2.2.2.1,V.own 300002 0]),(300002,Cell.arr false true 0 1 t.2.2.2.2.2.2.2.2)]})))) (λx=>M.oK gQ) [fe OM] [] (by rintro _ _ (⟨_,_,_,_,_,_,_,_⟩|⟨_,_,_,_,_,_,_,_,_⟩) _ _<;>simp only[gW,nT,M.oK,nb]<;>rfl) (hE:=by intro _ _ s _;rcases s with s|s<;>kernel_rfl)
def M.Dc{R:Type}(gQ:Int->Int->aF->aF->aA->aA->Option (aA))(t' iK:Int)(jF mD:aF)(lq l:aA)(k:aA->Option R):Option R:=(M.Gx gQ (.inl ((lq,(↑lq.length:Int),0,l,t',iK,jF,mD)))).bind λaQw=>uw aQw (λard=>(gW ard.2.2.2.1 [[D.int .i64 ard.2.2.2.2.1,D.int .i64 ard.2.2.2.2.2.1,D.str ard.2.2.2.2.2.2.1,D.str ard.2.2.2.2.2.2.2,D.sl true 1 []]] 72 λza=>(k za))) λaQx=>letE aQx λamx=>(bif ay amx.2.2.2.2.2.2.2.2 then(gW amx.2.2.2.1 [[D.int .i64 amx.2.2.2.2.1,D.int .i64 amx.2.2.2.2.2.1,D.str amx.2.2.2.2.2.2.1,D.str amx.2.2.2.2.2.2.2.1,D.sl true 1 amx.2.2.2.2.2.2.2.2]] 72 λza=>(k za)) else none)
def M.jA:Nat->Int->Int->aF->aF->aA->aA->Option (aA)
 |0=>λ_ _ _ _ _ _=>none
 |n+1=>λt' iK jF mD lq l=>M.Dc (M.jA n) t' iK jF mD lq l some
def M.mW t' iK jF mD lq l:=lim λn=>M.jA n t' iK jF mD lq l
def C.Z8{gQ:Int->Int->aF->aF->aA->aA->Option (aA)}(OM:S.mW.ok X0 λx=>dH gQ x.1.1 x.1.2.1):S.mW.ok X0 λx=>dH (M.Dc gQ) x.1.1 x.1.2.1 some:=fnS (λx=>M.Dc gQ x.1.1.1 x.1.1.2.1 x.1.1.2.2.1 x.1.1.2.2.2.1 x.1.1.2.2.2.2.1 x.1.2.1) [] [F.Gx OM] (by intros;simp only[gW,M.Dc,nb]<;>rfl)
def C.jA:∀n,S.mW.ok X0 λx=>M.jA n x.1.1.1 x.1.1.2.1 x.1.1.2.2.1 x.1.1.2.2.2.1 x.1.1.2.2.2.2.1 x.1.2.1
 |0=>eH.zero
 |n+1=>C.Z8 (C.jA n)
def C.mW:S.mW.ok X0 λx=>dH M.mW x.1.1 x.1.2.1:=eH.lim C.jA
def M.Z9{n:Nat}{t' iK:Int}{jF mD:aF}{lq l r:aA}(h:M.jA n t' iK jF mD lq l=some r):M.mW t' iK jF mD lq l=some r:=eH.DV C.jA (by intro a b h;simp[S.mW,sg] at h;first|exact h|simp[Prod.ext_iff,h]) (x:=(((t',iK,jF,mD,lq,()),l,()),())) h
def M.Gy{R:Type}(t' iK:Int)(jF mD:aF)(lq:aA)(k:aA->Option R):Option R:=(M.mW t' iK jF mD lq []).bind λaQy=>(k aQy)
def M.tX t' iK jF mD lq:=M.Gy t' iK jF mD lq some
def C.tX:S.tX.ok X0 λx=>dH M.tX x.1.1:=fnS (λx=>M.Gy x.1.1.1 x.1.1.2.1 x.1.1.2.2.1 x.1.1.2.2.2.1 x.1.1.2.2.2.2.1) [fe C.mW] [] (by intros;simp only[M.Gy,nb]<;>rfl)
def M.QY{R:Type}(l:aA)(i:Int)(k:aA->Option R):Option R:=(M.xX l i).bind λaQz=>(bif decide (aQz<0) then(k []) else((M.kZ l i).bind λarf=>((M.tX arf.1 arf.2.1 arf.2.2.1 arf.2.2.2.1 (aJ arf.2.2.2.2)).bind λaGd=>(bif[[D.sl true 5 aGd]].all bG then(k aGd) else none))))
def M.Js l i:=M.QY l i some
def C.Js:S.Js.ok X0 λx=>M.Js x.1.1 x.1.2.1:=fnS (λx=>M.QY x.1.1 x.1.2.1) [fe C.xX,fe C.kZ,fe C.tX] [] (by intros;simp only[M.QY,nb]<;>rfl)
def M.um{R:Type}(v6:aA)(v7:Int)(s:Int×Int)(kn:Int×Int->Option R)(ke:Int×Int->Option R):Option R:=match s with
 |(count,v8)=>bif decide (v8<v7) then((idx v6 v8).bind λaBh=>(nT 1 aBh λaBi _ _ _ _=>((M.iq aBi).bind λaQA=>(bif aQA then(bif aBi !=33 then(bif aBi !=34 then(kn ((i64.wrap (count+1),i64.wrap (v8+1)))) else(kn ((count,i64.wrap (v8+1))))) else(kn ((count,i64.wrap (v8+1))))) else(kn ((count,i64.wrap (v8+1)))))))) else(ke ((count,v8)))
def M.yG v6 v7 s:=M.um v6 v7 s (λs=>some (Sum.inl s)) λt=>some (Sum.inr t)
def M.Cb v6 v7 s:=fM (M.yG v6 v7) s
def F.Cb:LE X0 21:=le 3 (Jd [dO 3 pI,dO 6 (pL false 5),dO 7 pI,dO 8 pI] []) (λx=>(x.1.1,x.1.2.2.2.1)) (λx s=>((s.1,x.1.2.1,x.1.2.2.1,s.2,()),())) (λx=> .leaf (Int×Int) (λt=>(Ex.exit 0,{tm:=[(3,jZ t.1),(6,Jr 5 x.1.2.1),(7,jZ x.1.2.2.1),(8,jZ t.2),(9,y5 false)],mem:=[]}))) (λx=>M.um x.1.2.1 x.1.2.2.1) [fe C.iq] [] (by rintro _ _ ⟨_,_⟩ _ _<;>simp only[nT,M.um,nb]<;>rfl)
def M.Ei{R:Type}(l:aA)(k:Int->Option R):Option R:=(M.Cb l ((↑l.length:Int)) ((0,0))).bind λaQB=>(k aQB.1)
def M.qN l:=M.Ei l some
def C.qN:S.qN.ok X0 λx=>M.qN x.1.1:=fnS (λx=>M.Ei x.1.1) [] [F.Cb] (by intros;simp only[M.Ei,nb]<;>rfl)
def C.strconv_Itoa:S.strconv_Itoa.ok X0 λx=>M.strconv_Itoa x.1.1:=eH.Wq (p:=Prim.strconv_Itoa)
def M.Ue{R:Type}(n':Int)(k:aF->Option R):Option R:=(M.strconv_Itoa n').bind λaQC=>(k aQC)
def M.Oi n':=M.Ue n' some
def C.Oi:S.Oi.ok X0 λx=>M.Oi x.1.1:=fnS (λx=>M.Ue x.1.1) [fe C.strconv_Itoa] [] (by intros;simp only[M.Ue,nb]<;>rfl)
def C.strings_Join:S.strings_Join.ok X0 λx=>M.strings_Join x.1.1 x.1.2.1:=eH.Wq (p:=Prim.strings_Join)
end
end Go.Proofs.YtbkndkcpmnjaeaaGreatDoor
