import Derived.Test.YtoaeipkhadpbiaaGreatDoorVm4
import Derived.Test.YtoaeipkhadpbiaaGreatDoorProg
import Derived.Test.YtoaeipkhadpbiaaGreatDoorPPrim
set_option linter.defProp false
namespace Go.Proofs.YtoaeipkhadpbiaaGreatDoor
open Go Go.Vm
open Go.IntKind (i64)
set_option linter.unusedVariables false
set_option linter.unusedSimpArgs false
abbrev oC{R:Type}(x r:aA)(n:Nat)(k:aA->Option R):Option R:=bif((x.length+r.length) * n).ble 140737488355328 then(bif(x.length+r.length).ble 140737488355328 then k (x++r) else none) else none
def aNz(r:Int×Int×aP×aA×Int):Row:=[D.int .i64 r.1,D.int .i64 r.2.1,D.str r.2.2.1,D.sl false 5 (ak r.2.2.2.1),D.int .i64 r.2.2.2.2]
def aNA(r:Int×Int×aP×aA×Int):Int×Int×aP×aA×Int:=(r.1,r.2.1,r.2.2.1,ak r.2.2.2.1,r.2.2.2.2)
def Q9{R:Type}(n:Nat)(x:Row)(k:Int->Int->aP->aP->aA->Option R):Option R:=(kJ .i64 x 0).bind λa=>(kJ .i64 x 1).bind λb=>(cStr x 2).bind λc=>(cStr x 3).bind λd=>(cSl n x 4).bind λe=>k a b c d e
abbrev mD{A B C D E F G:Type}(f:A->B->C->D->E->G)(p:A×B×C×D×E×F):G:=f p.1 p.2.1 p.2.2.1 p.2.2.2.1 p.2.2.2.2.1
abbrev jk(n:Int):V:=V.d (D.int .i64 n)
abbrev kX(b:Bool):V:=V.d (D.bool b)
abbrev Dx(s:aP):V:=V.d (D.str s)
abbrev Du(n:Nat)(r:aA):V:=V.d (D.sl false n r)
def Em:(∀(R:Type) (x r:aA) (n:Nat) (k:aA->Option R),oC x r n k=bif((x.length+r.length) * n).ble 140737488355328 then(bif(x.length+r.length).ble 140737488355328 then k (x++r) else none) else none)/\(∀r,aNz r=[D.int .i64 r.1,D.int .i64 r.2.1,D.str r.2.2.1,D.sl false 5 (ak r.2.2.2.1),D.int .i64 r.2.2.2.2])/\(∀r,aNA r=(r.1,r.2.1,r.2.2.1,ak r.2.2.2.1,r.2.2.2.2))/\(∀(R:Type) (n:Nat) (x:Row) (k:Int->Int->aP->aP->aA->Option R),Q9 n x k=(kJ .i64 x 0).bind λa=>(kJ .i64 x 1).bind λb=>(cStr x 2).bind λc=>(cStr x 3).bind λd=>(cSl n x 4).bind λe=>k a b c d e):= ⟨λ_ _ _ _ _=>rfl,λ_=>rfl,λ_=>rfl,λ_ _ _ _=>rfl⟩
noncomputable section
variable {R:Type}
def kp3:=[[0],[0,3],[0,3],[0,18],[2],[0,4,5],[0,4,5,6],[0,4,5,6,7,8],[0,4,5,6,7,8,41],[2],[0,4,5,6,7,8,46],[2],[0,4,5,6,7,8,9],[0,4,5,7,8,9],[0,4,5,7,63],[2],[0,4,5,7,10],[0,4,5,7,10],[0,4,5,7,10,11],[0,4,5,7,10,11],[0,4,5,7,10,11,71],[2],[0,4,5,7,10,74],[2],[4,5,7,10,12,13],[7,10,90],[2],[7,10,11],[10,11],[10,11,95],[2],[98],[2],[2]]
def kp6:=[[0,1],[0,1],[0,1,11],[4],[0,1,5],[0,1,5,15],[0,1,5],[0,1,5],[0,1,5,25],[4],[4]]
def kp7:=[[0,3],[0,3,11],[2,3],[0,3,4],[0,3,4,17],[2,3],[0,3,5],[0,3,5,6],[0,3,5,6],[0,3,5,6],[0,3,5,6,40],[0,3,5,6,43],[0,3,5,6],[0,3,5,6],[0,3,5,6,55],[2,3],[3,7],[3,7,8],[3,7,8,70],[2,3],[2,3]]
def kp8:=[[0],[0,3],[0,3,4],[0,3,4,11],[0,3,4],[0,3,4],[2]]
def kp9:=[[0,3],[0,3,4],[0,3,4,12],[2,3],[0,3,5,6],[0,3,5,6],[0,3,5,6,33],[0,3,5,6],[0,3,5,6],[0,3,5,6],[0,3,5,6,52],[2,3],[3,6],[3,6,7],[3,6,7,70],[2,3],[2,3]]
def aNB:=[[0,1],[0,1,10],[4],[0,1,5],[0,1,5,14],[0,1,5],[0,1,5,26],[4],[4]]
def aNC:=[[2,3],[2,3,9],[4],[14],[4],[4]]
def aND:=[[0,1],[0,1,10],[4],[0,1,5],[0,1,5,14],[0,1,5],[0,1,5,26],[4],[4]]
def aNE:=[[0,1],[0,1,5],[0,1,5,9],[0,1,5],[0,1,5],[0,1,5],[0,1,5],[0,1,5],[0,1,5],[0,1,5],[4]]
def aNF:=[[0,1],[0,1,5],[0,1,5,9],[0,1,5],[0,1,5],[0,1,5],[0,1,5],[0,1,5],[0,1,5],[0,1,5],[0,1,5],[0,1,5],[0,1,5],[4]]
def aNG:=[[0,1],[0,1,5],[0,1,5,9],[0,1,5],[0,1,5,18],[4],[0,1,5],[0,1,5,27],[4],[0,1,5],[0,1,5,37],[4],[0,1,5],[0,1,5,47],[4],[0,1,5],[0,1,5],[0,1,5,58],[4],[4]]
def aNH:=[[1,2],[1],[1,11],[4],[4]]
def aNI:=[[0],[0,9],[2],[0,3],[0,3,4],[0,3,4,13],[0,3,4],[0,3,4,5],[0,3,4,5,20],[0,3,4,5],[0,3,4,5,6],[0,3,4,6,60],[2],[0,4,6,79],[2],[0,3,4],[2]]
def aNJ:=[[0],[0,3],[0,3,4],[0,3,4,8],[0,3,4],[0,3,4,16],[0,3,4],[0,3,4,25],[0,3,4],[0,3,4,29],[2],[2]]
def aNK:=[[0,1,2,6],[0,1,2,6,11],[6],[0,2,6,21],[6],[2,6,7],[6]]
def aNL:=[[0],[0,13],[0],[0]]
def aNM:=[[0],[0,3],[0,3,4],[0,3,4,12],[0,3,4],[0,3,4],[3],[2]]
def aNN:=[[0],[0,12],[2],[2]]
def aNO:=[[0],[0,3],[0,3,8],[0,3,8,9],[0,3,8,9],[0,3],[2],[0,8,23],[2],[0,27],[2],[0,4],[0,4,5],[0,4,5,49],[0,4,5],[0,4,5],[0,4,5],[0,4,5],[0,4,5,71],[0,4,5],[4,5],[4,5],[2]]
def aNP:=[[1,2],[1,2,5],[1,2,5],[1,2,5,6],[1,2,5,6,13],[1,2,5,6],[1,2,5,6],[1,2,5,6],[4]]
def aNQ:=[[0,2],[0,2,5],[2],[2,9],[2],[2]]
def aNR:=[[1,2],[1,2,3],[1,2,3],[1,2,3],[2,3],[2]]
def aNS:=[[0,2],[0,2,6],[2],[0,2,3],[0,2,3,11],[2],[2]]
def aNT:=[[0],[0,12],[0]]
def aNU:=[[0],[0,3],[0,3,10,11,12],[0,3,10,11,12,13],[0,3,5,10,11,12],[0,3,10,11,12],[0,3,10,11,12],[3],[2]]
def aNV:=[[0,2],[0,2,5],[0,2,5,6],[0,2],[2],[0,2,5,19],[0,2],[2],[0,2,5,32],[0,2],[2],[0,2,43],[2],[0,2,3],[0,2,3,64],[0,2,3],[0,2,3],[0,2,3],[0,2,3,93],[2,3],[2],[0,2,3,107],[2,3],[2]]
def aNW:=[[0,1],[0,1,5],[4],[0,15],[4],[4]]
def aNX:=[[1,2],[1,2,3],[2],[2,8],[2],[2]]
def aNY:=[[1],[2]]
def aNZ:=[[2,3],[2,3,9],[4],[2,3,14],[4],[2,3,19],[4],[2,3,24],[4],[30],[4],[4]]
def aN0:=[[2,3],[2,3,9],[4],[2,3,14],[4],[19],[4],[4]]
def aN1:=[[0],[0,5],[2],[0,3],[0,3,7],[0,3],[0,3],[2]]
def aN2:=[[0,1],[0,1,5],[0,1,5,9],[0,1,5],[0,1,5],[0,1,5],[4]]
def aN3:=[[0,1],[0,1,5],[0,1,5,9],[0,1,5],[0,1,5,17],[4],[0,1,5],[4]]
def aN4:=[[1],[1,3],[1,3,8],[1,3,8,9],[2],[1,3,8,24],[2],[1,3,8,35],[2],[1,3,8,42],[2],[1,8,49],[1,8,49],[2],[1,55],[2],[2]]
def aN5:=[[0],[3],[3,4],[3,4],[3,4],[3,4],[3,4],[3,4],[3,4],[3,4],[4],[2],[2]]
def aN6:=[[0],[2]]
def aN7:=[[0],[2]]
def aN8:=[[0,16],[0,19],[0],[0]]
def aN9:=[[0,1,4],[0,4,15],[4],[4],[0,4,5],[4,5],[4]]
def aOa:=[[1,2],[4]]
def aOb:=[[0],[0],[0,3],[0,3],[0,3],[0,3,26],[0,3],[3],[2]]
def aOc:=[[0],[0],[0,10],[0],[0],[0,3],[0,3,19],[0,3],[0,3],[0,3,4],[0,3,4,49],[0,3,4,5],[0,3,4],[0,3,4,61],[0,3,4,64],[0,3,4],[0,3,4],[0,3,4],[0,3,4],[0,3,4],[2]]
def aOd:=[[0,3,4],[0,3,4,8],[4],[0,3,4,11],[0,3,4,11,12],[4],[0,3,4,11,17],[4],[0,3,4,11,22],[4],[0,3,4,11,27],[0,3,4,11,27],[4],[0,3,4,11,35],[0,3,4,11,35],[0,3,4,11,35],[0,3,4,11,35],[0,3,4,11,35],[4],[0,3,4,11,46],[4],[0,3,4,11,51],[4],[0,3,4,11,56],[4],[0,3,4,61],[4],[4]]
def aOe:=[[0],[0]]
def aOf:=[[0,5],[]]
def aOg:=[[0,1],[0,1,5],[0,1,5,6],[0,1,5,6,13],[0,1,5,6],[0,1,5,6,7],[0,1,5,6,7],[0,1,5,6,7,8],[0,1,5,6,7,8,29],[0,1,5,6,7,8],[0,1,5,6,7,8],[0,1,5,6],[4]]
def aOh:=[[0],[0,9],[2],[0,3],[0,3,4],[0,3,4,14],[0,3,4],[0,3,4,5],[0,3,4,5,6],[0,3,4,5,6,24],[0,3,4,5,6],[0,3,4,5,6],[0,3,4],[2]]
def aOi:=[[0],[0,9],[2],[0,3],[0,3,10,11,12],[0,3,10,11,12,13],[0,3,4,5,10,11,12],[0,3,4,5,6,10,11,12],[0,3,4,5,6,10,11,12,21],[0,3,5,6,10,11,12],[0,3,5,6,10,11,12,28],[2],[0,3,5,6,10,11,12,32],[2],[0,3,5,10,11,12,40],[2],[0,3,5,10,11,12,52],[0,5,10,11,12,52],[2],[0,3,10,11,12],[0,3,10,11,12],[2]]
def aOj:=[[0],[0,3],[3,6,7,8],[3,6,7,8,9],[3,4,5,6,7,8],[3,4,5,6,7,8,13],[3,4,6,7,8],[3,4,6,7,8,19],[3,4,6,7,8],[3,4,6,7,8,27],[2],[3,6,7,8],[2]]
def aOk:=[[0,6],[0,8],[0,8,9],[0,11],[0],[0]]
def aOl:=[[0],[0,12],[2],[2]]
def aOm:=[[0,2],[0,2,3],[0,2,3],[0,2,3],[0,2,3,18],[0,2,3],[0,2,3],[0,2,3],[0,2,3],[2,3],[2]]
def aOn:=[[0,2],[0,2,3],[0,2,3,12],[2,3],[2],[0,2,3],[0,2,3],[0,2,3,31],[0,2,3,36],[0,2,3],[0,2,3,53],[0,2,3,57],[0,2,3],[0,2,3],[0,2,3],[0,2,3],[0,2,3],[2,3],[2]]
def aOo:=[[0,3,4],[0,3,4,5],[0,3,4,5,25],[4],[0,3,4,5,6],[0,3,4,5,6],[4,5,6,7],[4]]
def aOp:=[[0,5],[]]
def aOq:=[[1],[1,3],[3,7,8,9],[3,7,8,9,10],[3,5,7,8,9],[3,7,8,9],[3,7,8,9],[2]]
def aOr:=[[1],[1,3],[3,7,8,9],[3,7,8,9,10],[3,5,7,8,9],[3,7,8,9],[3,7,8,9],[2]]
def aOs:=[[1,2],[1,2,5],[1,5,18,19,20],[1,5,18,19,20,21],[1,5,7,18,19,20],[1,5,18,19,20],[1,5,18,19,20],[1,5,18,19,20],[4]]
def aOt:=[[0,1],[0,1,10],[4],[0,1,5],[0,1,5,14],[0,1,5],[0,1,5,25],[4],[4]]
def aOu:=[[0,1],[0,1,12],[4],[4]]
def aOv:=[[0],[0,3],[0,3,7],[0,3],[0,3,13],[2],[2]]
def aOw:=[[0,1],[0,1,9],[4],[0,1,5],[0,1,5,16],[0,1,5,6],[0,1,6,29],[4],[0,1,5],[0,5,33],[4],[0,5,43],[0,5,7],[0,5,7,55],[0,5,7],[0,5,7,62],[4],[4]]
def aOx:=[[0,1],[4]]
def aOy:=[[0,1],[1,5],[5,12],[4],[4]]
def aOz:=[[0],[2]]
def aOA:=[[0],[2]]
def aOB:=[[0],[0,3],[2],[0,6],[2],[0,14],[2],[2]]
def aOC:=[[0],[0,8],[2],[0,12],[0,12,13],[2],[0,12,17],[0],[0,3],[2],[0,12,29],[2],[0,33],[2],[0,4],[4],[2]]
def aOD:=[[0,3,4],[0,3,4,5],[0,3,4,5,26],[4],[0,3,4,5,6],[0,3,4,5,6],[4,5,6,7],[4]]
def aOE:=[[0,3,4],[0,3,4,5],[0,3,4,5,20],[4],[0,3,4,5],[0,3,4,5,6],[0,3,4,5,6],[4,5,6,7],[4]]
def aOF:=[[0,3,4],[0,3,4,5],[0,3,4,5,16],[0,3,4,5],[0,3,4,5,6],[0,3,4,5,6],[0,3,4,5,6,7],[0,3,4,5],[0,3,4,5],[0,3,4,5,49],[0,3,4,5],[0,3,4,5,8],[0,3,4,5],[4]]
def aOG:=[[0,2,3,5,8],[0,2,3,5,8,9,10],[0,2,3,5,8,9,10,22],[0,2,3,5,8,9,10],[0,2,3,5,8,10,11],[0,2,3,5,8,10,11,12],[0,2,3,5,8,10,11,12,38],[0,2,3,5,8,10,11,12],[0,2,3,5,8,10,11,12,13],[0,2,3,5,8,10,11,12,13,42],[0,2,3,5,8,10,11,12,13],[0,2,3,5,8,10,11,12,13],[0,2,3,5,8,10,11,12,13,58],[0,2,3,5,8,10,11,12,13],[0,2,3,5,8,10,11,12,13,14],[0,2,3,5,8,10,11,12],[8]]
def aGx:=[[0,3,4],[0,3,4,5],[0,3,4,5,18],[0,3,4,5],[4,5,6],[4],[4]]
def aGy:=[[0,3,4],[0,3,4,5],[0,3,4,5,19],[4],[0,3,4,5],[4,5,6],[4]]
def aGz:=[[0,3,4],[0,3,4,9],[4],[0,4,5],[0,4,5,6],[0,4,5,6,32],[4],[4,5,6],[4]]
def aGA:=[[0,3,4],[0,3,4,8],[4],[0,3,4],[0,3,4,5],[0,3,4,5,16],[4,5],[4,5],[4]]
def aGB:=[[0,2],[0,2,7],[2],[0,2,10],[0,2,10,11],[2],[0,2,10,15],[2],[0,2,10,19],[2],[0,2,10,23],[2],[0,2,10,27],[2],[0,2,31],[2],[0,2],[0,2,3],[2,3],[2,3],[2]]
def aGC:=[[0],[2]]
def aGD:=[[0],[0,8],[2],[0,3,4],[2]]
def aGE:=[[1],[1,5],[2],[1,7],[1,7,8],[2],[1,7,20],[2],[1,7,29],[2],[1,7,38],[2],[1,7,47],[1,7,47],[2],[1,53],[2],[2]]
def aGF:=[[0],[3],[3,4],[3,4],[3,4],[3,4],[3,4],[3,4],[3,4],[3,4],[4],[2],[2]]
def aGG:=[[0],[2]]
def aGH:=[[0],[2]]
def aGI:=[[0,1],[0,14],[],[4],[],[4]]
def aGJ:=[[0,2],[0,2,3],[0,2,3,10],[0,2,4],[0,2,4,17],[2,4],[2],[0,2,3,10,21],[2],[0,2,3,10,25],[0,2,3,10,25],[0,2,3,10,25],[0,2,3,25],[0,2,3],[0,2,37],[0,2,37,38],[2],[0,2,37,42],[0,2,5],[2],[0,2,51],[0,2,6],[0,2,6],[0,2,6],[0,2,6,7],[0,2,6,7,65],[2,6,7],[2],[2]]
def aGK:=[[0],[0,3],[3],[2]]
def aGL:=[[0],[0,11],[],[2],[2]]
def aGM:=[[0,3,4],[0,3,4,5],[0,3,4,5,19],[4],[0,3,4,5],[0,3,4,5,6],[0,3,4,5,6],[0,3,4,5,6,36],[4],[4,5,6,7],[4]]
def aGN:=[[0],[2]]
def aGO:=[[0],[2]]
def aGP:=[[0],[2]]
def aGQ:=[[0],[2]]
def aGR:=[[0],[0,3],[0,3,7],[0,3],[0,3,15],[2],[2]]
def aGS:=[[0,1],[0,1,10],[4],[4]]
def aGT:=[[0,1],[0,1,8],[0,1],[4]]
def aGU:=[[0,1,2],[0,1,2,12],[6],[0,2,7],[0,2,7,18],[0,2,7],[0,2,7,24],[0,2,7,24,25],[6],[0,2,7,24,30],[6],[0,2,7,32],[0,2,7],[0,2,7,39],[6],[6]]
def aGV:=[[0],[3],[3,8],[2],[2]]
def aGW:=[[0,1],[0,1,5],[0,1,5,9],[0,1,5],[0,1,5,17],[4],[4]]
def aGX:=[[],[0]]
def aGY:=[[0,1,2],[6]]
def aGZ:=[[],[0]]
def aG0:=[[],[0]]
def aG1:=[[0],[0],[0,3],[0,3,4],[0,3,4,13],[2],[2]]
def aG2:=[[0],[0],[0,3],[3],[2]]
def aG3:=[[0],[0],[0,7],[0,7,8],[2],[0,12],[0],[2],[0,3],[2]]
def aG4:=[[0],[0],[0],[0,3],[0,54],[0,4],[0,4],[0,4,5],[0,4,5],[2],[0,6],[0,6],[0,6],[0,6,7],[0,6,7],[0,6,7],[0,6,7,8],[0,6,7,8],[2]]
def aG5:=[[0],[0,5],[0,5,6],[0,5,6],[2],[0,5,11],[2],[0,5,15],[2],[0,5,19],[2],[0,5,23],[2],[0,5,27],[2],[0,5,31],[2],[0,35],[0],[0,3],[0,3],[0,3],[2],[2]]
def aG6:=[[1,2,4],[4]]
def aG7:=[[1],[2]]
def aG8:=[[0],[2]]
def aG9:=[[1,2,4],[4]]
def aHa:=[[0],[0,13],[2],[0,3],[0,3,4],[0,3,4,24],[0,3,4],[0,3,4,35],[0,3,4],[0,3,4,46],[0,3,4],[0,3,4,50],[2],[0,3,4,63],[2],[2]]
def aHb:=[[0,1,2],[0,1,2,7],[0,1,7,16],[7],[6],[0,1,7,25],[0,1,7],[0,1,7,35],[0,1,7,38],[0,1,7],[0,1,7],[0,1,7],[7],[6]]
def aHc:=[[0],[5],[5,6],[2,3],[5,8],[2,3],[5,10],[2,3],[5,12],[2,3],[5,14],[2,3],[5,16],[2,3],[18],[2,3],[2,3]]
def aHd:=[[0],[2]]
def aHe:=[[0,1,5],[0,1,5,7],[0,1,5,7,17],[6],[6]]
def aHf:=[[0],[2]]
def aHg:=[[0,3,4],[0,3,4,5],[0,3,4,5],[0,3,4,5,19],[0,3,4,5],[4,5,6],[4]]
def aHh:=[[0,1,4],[1,4,5],[4]]
def aHi:=[[0,2],[0,2,3],[0,2,3,8],[2],[0,2,3],[2]]
def aHj:=[[0,1,4],[0,1,4,5],[0,1,4,5,21],[4],[0,1,4,5],[4]]
def aHk:=[[0],[0,4],[0,4,5],[0,4,5,12],[0,4,5],[0,4,5,6],[0,4,5,6,7],[0,4,5,6,7,24],[0,4,5,6,7],[0,4,5,6,7,41],[2,3],[0,4,5,6,7],[0,4,5],[2,3]]
def aHl:=[[0,1],[4]]
def aHm:=[[0,1],[0,1,17],[4],[0,1,5],[0,5,6],[0,5,6,27],[0,5,6,7],[0,6,7],[0,5,6],[0,5,40],[4],[0,5,8],[0,5,49],[0,5,9],[0,5,9,10],[0,5,9,60],[0,5,9],[5,9,11],[5,11,68],[4],[4]]
def aHn:=[[0,1],[4]]
def aHo:=[[0,1],[1,5],[5,12],[4],[4]]
def aHp:=[[0],[2]]
def aHq:=[[0],[2]]
def aHr:=[[0],[0,3],[2],[0,6],[2],[0,13],[2],[2]]
def aHs:=[[0,2],[0,2,3],[0,2,3,4],[0,2,3,4,8],[2],[0,2,3,4,8,15],[0,2,3,4,8,15],[0,2,3],[2],[0,2,3,4,8,28],[0,2,3,4],[0,2,3,4,8,31],[0,2,3,4],[0,2,3,4,8,34],[0,2,3,4],[0,2,3,4,8,37],[0,2,3,4],[0,2,3,4,8,40],[0,2,3,4],[0,2,4,43],[0,2,4],[0,2,4],[0,2,4,65],[0,2,4],[2,4],[2],[0,2,3,4],[0,2,4,95],[2,4],[2]]
def aHt:=[[0,2],[0,2,3],[0,2,4],[0,2,4,5,6],[0,2,4,5,6],[0,2,4,5,6,33],[0,2,4,5,6,38],[2,4],[2],[0,2,4],[2,4],[2]]
def aHu:=[[0,2],[0,2],[0,2,3],[2,3],[2]]
def aHv:=[[0,2],[0,2],[0,2,9],[2],[0,2,13],[2],[0,2,3],[0,2,3,21],[2,3],[2],[2,3],[2]]
def aHw:=[[0,2],[0,2],[0,2,46],[0,2,3],[0,2,3],[0,2,3],[0,2,3],[2,3],[2],[0,2,4],[0,2,4],[0,2,4],[0,2,4,5],[0,2,4,5],[0,2,4,5],[0,2,4,5,6],[0,2,4,5,6],[2]]
def aHx:=[[0,3,4],[0,3,4,5],[0,3,4,5,18],[0,3,4,5],[0,3,4,5],[0,3,4,5],[4]]
def aHy:=[[0,1,2],[6]]
def aHz:=[[0],[2]]
def aHA:=[[0],[2]]
def aHB:=[[0],[2]]
def aHC:=[[0],[0,5,6],[0,5,6,7],[0,3,5,6],[0,5,6,14],[2],[0,5,6],[2]]
def aHD:=[[0],[2]]
def aHE:=[[0],[0,3],[0,3,47],[0,3],[0,73],[2],[0],[],[2]]
def aHF:=[[0,1,5],[0,5,10],[6],[6]]
def aHG:=[[0],[0,3],[0,3,9],[0,3],[0,3],[0,3,4],[0,3,4,42],[0,3,4],[0,3,4,52],[0,3,4,55],[0,3,4],[0,3,4],[0,3,4],[0,3,4,5],[0,3,4,5,73],[0,3,4,5],[0,3,4],[3,4],[2]]
def aHH:=[[0,1,2],[0,1,2],[0,1,17],[6],[6]]
def aHI:=[[0],[0],[0,3],[0,4],[0,4,14],[2],[0,4],[2]]
def aHJ:=[[1,2],[1,2,6],[2],[2]]
def aHK:=[[0],[3],[3,4],[2],[3,6],[2],[3,8],[3,8],[2],[3,11],[3,11],[3,11],[3,11],[3,11],[3,11],[2],[3,18],[2],[3,20],[3,20],[2],[3,23],[3,23],[3,23],[2],[27],[2],[2]]
def aHL:=[[0],[3],[3,4],[3,4],[3,4],[3,4],[3,4],[3,4],[4],[2],[2]]
def aHM:=[[0,1],[0,1,8],[0,1],[4]]
def aHN:=[[0,1,2],[0,1,2,12],[6],[0,2,7],[0,2,7,24],[0,2,7],[0,2,7,27],[6],[0,2,7,36],[0,2,7],[6]]
def aHO:=[[0],[3],[3,8],[2],[2]]
def aHP:=[[0,1],[4]]
def aHQ:=[[0],[2]]
def aHR:=[[0],[2]]
def aHS:=[[0,1,4],[0,4,5],[0,4,5,23],[0,4,5],[0,4,5,37],[0,4,5],[4,5],[4]]
def aHT:=[[0,1],[0,1,5],[0,1,5,14],[5],[4],[0,1,5],[5],[4]]
def aHU:=[[0,1,5,6],[0,5,6,10],[6],[6]]
def aHV:=[[0,3,4],[0,3,4,5],[0,3,4,5,18],[0,3,4,5],[0,3,4,5],[0,3,4,5],[4]]
def aHW:=[[0,4,5,6],[6]]
def aHX:=[[0],[2]]
def aHY:=[[0],[2]]
def aHZ:=[[0],[3],[3,4],[2],[3,6],[2],[3,8],[3,8],[2],[3,11],[3,11],[3,11],[3,11],[3,11],[3,11],[2],[3,18],[2],[3,20],[3,20],[2],[3,23],[3,23],[3,23],[2],[27],[2],[2]]
def aH0:=[[0],[2]]
def aH1:=[[0,1],[0,1,7,8],[0,1,7,8,9],[0,1,5,7,8],[0,1,5,7,8,16],[4],[0,1,7,8],[4]]
def aH2:=[[0],[2]]
def aH3:=[[0,3],[0,3,5],[0,3,5,11],[0,3,5],[0,3,5,27],[0,3,5,30],[5],[0,3,5],[0,3,5],[4]]
def aH4:=[[0,3,4],[0,3,4,5],[0,3,4,5,18],[4],[0,3,4,5,22],[0,3,4,5,22,23],[4],[0,3,4,5,22,28],[4],[0,3,4,5,22,33],[4],[0,3,4,5,22,38],[4],[0,3,4,5,22,43],[4],[0,3,4,5,22,48],[4],[0,3,4,5,22,53],[4],[0,3,4,5,22,58],[4],[0,3,4,5,22,63],[4],[0,3,4,5,22,68],[4],[0,3,4,5,22,73],[4],[0,3,4,5,22,78],[4],[0,3,4,22,83],[4],[0,3,4,87],[0,4,95],[4],[4],[4]]
def aH5:=[[0,3,4],[0,3,4,5,6],[0,3,4,5,6,26],[0,3,4,5],[0,3,4,5,6],[0,3,4,5,6,45],[4],[0,3,4,5,6],[0,3,4,5,6,65],[0,3,4,5,6],[0,3,4,5,6,74],[0,3,4,5,6],[0,3,4,5],[0,3,4,5,6],[4]]
def aH6:=[[0],[3],[3,4],[3,4],[3,4],[3,4],[3,4],[3,4],[4],[2],[2]]
def aH7:=[[0,2],[2],[2]]
def aH8:=[[0,3,4],[0,3,4,5],[0,3,4,5,23],[4],[0,3,4,5,6],[0,3,4,5,6],[4]]
def aH9:=[[0,3,4],[0,3,4,5],[0,3,4,5,28],[4],[0,3,4,5,6],[0,3,4,5,6],[4]]
def aIa:=[[0,3,4],[0,3,4,5],[0,3,4,5,18],[0,3,4,5],[4]]
def aIb:=[[0,3,4],[0,3,4,5],[0,3,4,5,20],[0,3,4,5,6],[0,3,4,5,6],[0,3,4,5],[4]]
def aIc:=[[0,3,4],[0,3,4,5],[0,3,4,5,20],[0,3,4,5,6],[0,3,4,5,6],[0,3,4,5],[4]]
def aId:=[[0,3,4],[0,3,4,5],[0,3,4,5,24],[4],[0,3,4,5],[4,5,6],[4]]
def aIe:=[[0,3,4],[0,3,4,5],[0,3,4,5,16],[4],[0,3,4,5],[4]]
def aIf:=[[0,2],[0,2,14],[2],[0,2,3],[0,2,3,33],[2],[0,2,3,4],[2,3,4],[2]]
def aIg:=[[0,2],[0,2,3],[0,2,3],[2,3,4],[2]]
def aIh:=[[0,2],[0,2,12],[2],[0,2],[0,2,3],[0,2,3,25],[2,3],[2,3],[2]]
def aIi:=[[0,2],[0,2,9],[2],[0,2,3],[0,2,3,13],[0,2,3,13,14],[2],[0,2,3,13,20],[2],[0,2,3,13,26],[2],[0,2,3,13,32],[2],[0,2,3,13,36],[0,2,3,13,36],[0,2,3,4],[0,2,4,43],[0,2,4],[0,2,4,52],[2],[0,2,4,56],[2,4],[2],[0,2,62],[0,2],[0,2,5],[2,5],[2],[2]]
def aIj:=[[0],[0,3],[3,14,15,16],[3,14,15,16,17],[3,5,14,15,16],[3,5,14,15,16,20],[3,14,15,16],[3,5,14,15,16,26],[3,14,15,16],[3,14,15,16,32],[2],[3,14,15,16,41],[3,14,15,16],[2]]
def aIk:=[[0,2],[0,2,3],[0,2,8],[2],[0,2,14],[2],[2]]
def aIl:=[[0,2],[0,2,3],[0,2,3,9],[0,2,3],[2,3],[2]]
def aIm:List (List (List Nat)):=[[],[],[],kp3,[],[],kp6,kp7,kp8,kp9,aNB,aNC,aND,aNE,aNF,aNG,[],[],[],[],aNH,aNI,aNJ,aNK,aNL,aNM,aNN,aNO,aNP,aNQ,aNR,aNS,aNT,aNU,aNV,aNW,aNX,aNY,aNZ,aN0,aN1,aN2,aN3,[],[],[],[],[],[],aN4,aN5,aN6,aN7,aN8,aN9,aOa,aOb,aOc,aOd,aOe,aOf,aOg,aOh,aOi,aOj,aOk,aOl,aOm,aOn,aOo,aOp,aOq,aOr,aOs,aOt,[],aOu,[],[],[],[],[],[],[],[],[],[],[],aOv,aOw,aOx,aOy,aOz,aOA,aOB,aOC,aOD,aOE,aOF,aOG,aGx,aGy,aGz,aGA,aGB,aGC,aGD,aGE,aGF,aGG,aGH,aGI,aGJ,aGK,aGL,aGM,aGN,aGO,aGP,aGQ,[],[],aGR,[],[],aGS,[],[],[],[],[],[],[],[],aGT,aGU,aGV,aGW,aGX,aGY,aGZ,aG0,aG1,aG2,aG3,aG4,aG5,aG6,aG7,aG8,aG9,aHa,aHb,aHc,aHd,aHe,aHf,aHg,aHh,aHi,aHj,aHk,aHl,aHm,aHn,aHo,aHp,aHq,aHr,aHs,aHt,aHu,aHv,aHw,aHx,aHy,aHz,[],aHA,aHB,[],aHC,[],[],[],[],[],aHD,[],[],[],[],[],[],[],[],[],[],aHE,aHF,aHG,aHH,aHI,aHJ,aHK,aHL,[],aHM,aHN,aHO,aHP,aHQ,aHR,aHS,aHT,aHU,aHV,aHW,[],aHX,[],[],[],aHY,aHZ,aH0,[],aH1,aH2,aH3,aH4,aH5,[],[],[],[],[],[],aH6,aH7,aH8,aH9,aIa,aIb,aIc,aId,aIe,aIf,aIg,aIh,aIi,aIj,[],aIk,aIl,[],[],[],[],[],[],[],[],[],[],[],[],[],[],[],[],[],[],[],[],[],[],[],[],[]]
def aOH(f:Nat):List Nat:=bif Nat.beq f 13 then[0] else bif Nat.beq f 14 then[0] else bif Nat.beq f 41 then[0] else[]
def aIn(f:Nat):List Nat:=bif Nat.beq f 73 then[1] else[]
def aIo:List (List Nat):=[[],[],[],[],[],[],[],[],[],[],[],[],[],[],[0,0,0,0,0,0,0,0,0,0,0,0,5]]
def aOI(f:Nat):List Nat:=([(3,[22]),(4,[16]),(7,[21,27,30,38,42,49,62,65,67]),(9,[19,35,39,45,63]),(16,[19]),(18,[11,16]),(24,[3,11,15,17]),(27,[7,14,20,22,26,31,33,37,47,51,53,58,69,75,79,82]),(32,[3,10]),(34,[5,16,29,42,46,51,62,73,78,91,97,109]),(53,[9,13,18]),(54,[12]),(55,[7]),(56,[5,8,11,19,24,29,33,36]),(57,[7,9,12,14,33,46,51,60,69,71,73,75,80,83]),(58,[16,21,26,34,45,50,55,60,65,67]),(60,[3]),(65,[8]),(67,[6,8,16,20,24,30,35,39]),(68,[6,10,18,21,29,40,51,69,71,73,77]),(69,[10,22,28,38]),(70,[3]),(81,[49]),(95,[12,16,20,22,26,28,32,36,38,40]),(96,[10,11,18,23,29,32,35,36,44]),(97,[10,11,18,23,26,27,29,32,33,42]),(98,[15,18,20,22,24,29,33,34,47,51,53,60]),(99,[17,28,29,37,44,60,64,65,73]),(100,[8,21,24,25,31,34]),(101,[9,10,17,22,25,26,33]),(102,[8,9,12,15,16,18,25,30,36,42]),(103,[7,10,12,15,16,19,22,23,28]),(104,[10,14,18,22,26,30,34,36,39,41]),(111,[11]),(112,[9,12,19,24,41,45,48,54,56,58,60,67,73]),(114,[9,16]),(115,[10,17,30,32,40]),(142,[6,8,10,12,18,23,25]),(143,[5,8,10]),(144,[5,7,11,15,19,25,28]),(145,[10,12,56,58,60,62,69,71,74,76,78,81,83,85,88,90,96,98]),(146,[5,10,14,18,22,26,30,34,38,40,42,44,48,50,54,57]),(148,[8]),(150,[7]),(151,[11]),(152,[13,19,29,34,43,45,48]),(155,[9]),(157,[8,11,13,17,25,26,32]),(158,[18]),(159,[5,7,15,20,21]),(160,[8,9,14,29,35,36]),(169,[6,11,27,53,63,74,92,98]),(170,[8,11,24,31,63]),(171,[5,8,10]),(172,[5,12,15,20,33]),(173,[8,16,48,51,53,56,58,64,66,68,71,73,75,78,80,85]),(174,[8,16,27,31,32]),(198,[75,77]),(199,[8,15]),(200,[8,13,14,32,37,38,46,51,60,62,64,72,76,83,89]),(201,[9,10,15,25,28]),(202,[6,8,13,18,21,22]),(213,[14,19,35,39,45]),(214,[8,25,28]),(215,[8,14]),(216,[8,16,27,31,32]),(229,[15,25,42]),(230,[15,20,27,32,37,42,47,52,57,62,67,72,77,82,86,93,97,99,101]),(231,[15,25,35,43,47,50,58,79]),(240,[9,16,20,26,38,39]),(241,[9,16,25,31,43,44]),(242,[8,16,22,23]),(243,[9,17,22,34,35]),(244,[9,17,22,34,35]),(245,[8,27,37]),(246,[7,14,28,29]),(247,[12,16,18,30,36]),(248,[6,15]),(249,[10,14,24,27,29]),(250,[12,17,23,29,35,40,50,56,58,73,75,80]),(253,[10,13,16,19,21]),(254,[5,8,18])]:List (Nat×List Nat)).foldr (λx r=>bif Nat.beq f x.1 then x.2 else r) []
def aOJ(f d:Nat):List Nat:=bif mem? d (aOI f) then[] else List.range 200
def aIp(f:Nat):List Nat:=bif Nat.beq f 48 then[3] else bif Nat.beq f 65 then[3] else[]
def aOK:List (List Nat):=[]
def aIq(f:Nat):List Nat:=[]
def aD1(f:Nat):List Nat:=bif Nat.beq f 170 then[47] else[]
noncomputable def NR:Adv:=⟨λf r=>(aIm.getD f []).getD r [],λf=>aIn f,λf=>aOH f,aOJ,λt=>(aIp t),λf r=>(aIo.getD f []).getD r 0,λf d=>mem? d (aD1 f),λf=>aOK.getD f [],λf=>aIq f⟩
theorem zaM:(!true)=false:=rfl
theorem zaN:∀n:Nat,n≤n:=Nat.le_refl
theorem zaO:∀{A B:Type}{l:List A}(f:A->B),(l.map f).length=l.length:=fun f=>List.length_map f
abbrev zao:=aA×Int×Bool×aA
abbrev zap:=aA×Int×Bool×aA×aA
abbrev zaq:=aA×Int×Bool×Int×Int×aP×aP×Int×Int×aP×aP×aA×aA
abbrev zar:=aA×Int×Bool×Int×Int×aP×aP×Int×Int×aP×aP×aA
abbrev zas:=Int×aA×Int×Bool×aA×aA
abbrev zat:=aA×Int×Bool×Int×Int×aP×aP×aA×Bool×aA
abbrev zau:=aA×Int×Bool×Bool×Bool×Int×Int×aP×aP×Bool×Int×Int×aP×aP×aA×Bool×aA
abbrev zav:=aA×Int×Bool×Bool×Bool×Int×Int×aP×aP×Bool×Int×Int×aP×aP×Bool×aA×aA
abbrev zaw:=aA×Int×Int×aA×Int×Bool×aA×aA
abbrev zax:=aA×Int×Int×aA×Int×Int×aP×aP
abbrev zay:=aA×Int×Int×aA×Int×Int×aP×aP×aA
abbrev zaz:=aA×Int×Int×aA×Int×Bool×Int×Int×aP×aP×aA
abbrev zaA:=aA×Int×Int×aA×Int×Bool×Int×Int×aP×aP×aA×aA
abbrev zaB:=Int×Bool×aA×Int×Bool×aA×aA
abbrev zaC:=Bool×aA×Bool×aA×Int×Bool×aA
abbrev zaD:=Bool×aA×aA×Int×Bool×aA
abbrev zaE:=Bool×aA×Int×Bool×Int×Int×aP×aP×Int×Int×aP×aP×aA
abbrev zaF:=aA×Int×aA×aA
abbrev zaG:=aA×Bool×aA×Int×Bool×Bool×Bool×Int×Int×aP×aP×Bool×Int×Int×aP×aP×Bool×aA
abbrev zaH:=aA×Int×Int×aA×Int×Bool×aA
abbrev zaI:=aA×Int×Int×Int×aP×aP×Int×Int×aP×aP×aA×aA
abbrev zaJ:=aA×aA×Int×Bool×Bool×Bool×Int×Int×aP×aP×Bool×Int×Int×aP×aP×Bool×aA
abbrev zaK:=aA×Int×Int×aA×Int×aA×aA
abbrev zaL:=Int×Int×aP×aP×Bool×aA×Bool×aA×Int×Bool×aA
abbrev zaa:=Bool->Bool->aA->Int->Bool->aA->Option zaL
abbrev zab:=Int->Bool->Bool->Bool->Bool->aA->Int->Bool->aA->Option zaC
abbrev zac:=aA->Int->Bool->aA->Option zaD
abbrev zad:=aA->Int->Bool->aA->Option zaL
abbrev zae:=aA->Int->Bool->aA->Option (Int×Int×aP×aP×Bool×aA×aA×Int×Bool×aA)
abbrev zaf:=Int->aA->Int->Bool->aA->Option zaD
abbrev zag:=Int->Int->aA->Int->Bool->aA->Option zaD
abbrev zah:=aA->Int->Bool->aA->Option zaC
abbrev zai:=Int->Int->aP->aP->aA->Option (Int)
abbrev zaj:=Int->Int->aP->aP->aA->aA->Option (aA)
abbrev zak:=Bool->Bool->aA->Int->Bool->aA->Option zaD
abbrev zal:=Int->aA->Int->Bool->aA->Option zaC
abbrev zam:=Int->Bool->Bool->Bool->Bool->Int->Int->aA->Int->Bool->aA->Option zaC
abbrev zan:=Nat->Int->Int->aP->aP->aA->Option (Int)
noncomputable def X0:Ctx:=⟨Tryz.prog,NR,λf=>bif Nat.beq f 162 then some Prim.strings_Contains else none,λg=>bif Nat.beq g 2 then some Ug else bif Nat.beq g 1 then some En else bif Nat.beq g 0 then some LG else none,λg=>bif Nat.beq g 3 then true else false,λg=>false⟩
def fTa(S:fJ)(C:∀{R:Type},S.α->(S.ρ->Option R)->Option R)(K:List (FE X0):=[])(L:List (LE X0 S.f):=[])(hn:∀{R:Type} x (k:S.ρ->Option R),C x k=(C x some).bind k:=by intros;repeat' first|(with_reducible first|apply dw|apply uU|apply uV|apply uX|apply uY)|intro _|apply dw|rfl)
  (hE:∀{R:Type} x (k:List Row->List Cell->Option R),bodyC X0 (kt K) (lt L) S.f (S.p.enc x.1) (S.q.enc x.2) k=C x (λr=>k (S.enc r).1 (S.enc r).2):=by intros;kernel_rfl)
  (hL:loops (codeOf X0.P S.f)=L.map LE.c:=by kernel_rfl) (hd:apart (L.map LE.n)=true:=by kernel_rfl) (hp:X0.ae0 S.f=none:=by kernel_rfl):S.ok X0 λx=>C x some:=fnS C K L hn hE hL hd hp (λ_=>rfl)
abbrev re:=λn a=>sg n a [] (ρ:=Int) λr=>([[D.int .i64 r]],[])
abbrev rf:=λn a=>sg n a [] (ρ:=Bool) λr=>([[D.bool r]],[])
abbrev rg:=λn a=>sg n a [] (ρ:=aA) λr=>([[D.sl true 1 r]],[])
abbrev rh:=λn a=>sg n a [] (ρ:=aP) λr=>([[D.str r]],[])
abbrev rj:=λn a=>sg n a [] (ρ:=Int×Int) λr=>([[D.int .i64 r.1,D.int .i64 r.2]],[])
abbrev rk:=λn a=>sg n a [] (ρ:=Int×Bool×Bool×Bool×Bool) λr=>([[D.int .i64 r.1,D.bool r.2.1,D.bool r.2.2.1,D.bool r.2.2.2.1,D.bool r.2.2.2.2]],[])
abbrev rl:=λn a=>sg n a [] (ρ:=aA) λr=>([[D.sl true 5 r]],[])
abbrev _root_.Prod.va{A B C D:Type _}(x:A×B×C×D):D:=x.2.2.2
abbrev _root_.Prod.wd{A B C D E F G H I:Type _}(x:A×B×C×D×E×F×G×H×I):I:=x.2.2.2.2.2.2.2.2
abbrev S.BN:=re 20 [yM [pI,pS,pI],pI]
abbrev S.zx:=re 6 [pL false 3,pI]
abbrev S.EN:fJ:=sg 30 [yM [pI,pS,pI]] [] (ρ:=Int×aP×Int) λr=>([[D.int .i64 r.1,D.str r.2.1,D.int .i64 r.2.2]],[])
abbrev S.qG:fJ:=sg 8 [pL false 3] [] (ρ:=aA) λr=>([[D.sl true 3 r]],[])
abbrev S.BO:=rf 88 [pS]
abbrev S.fM:=re 76 [pS,pI]
abbrev S.jW:=rf 139 [pI,pI,pI]
abbrev S.wU:=rf 118 [pI]
abbrev S.bn:=re 134 [pS,pI]
abbrev S.Eo:=re 89 [pS,pI]
abbrev S.sO:=re 135 [pS,pI,pI]
abbrev S.Ep:=re 90 [pS,pI]
abbrev S.Es:=re 91 [pS,pI]
abbrev S.sQ:=rf 119 [pI]
abbrev S.uN:=rf 176 [pI]
abbrev S.xB:=rf 122 [pS]
abbrev S.y8:=rg 140 []
abbrev S.zy:=re 137 [pL false 1,pS]
abbrev S.xC:=re 136 [pS]
abbrev S.yB:=rg 138 []
abbrev S.qH:=rf 93 [pS]
abbrev S.BP:=rf 92 [pS]
abbrev S.EO:=rg 141 []
abbrev S.mV:=rh 94 [pI]
abbrev S.y9:=rf 49 [yM [pI,pS,pI]]
abbrev S.aY:=rf 50 [pI]
abbrev S.wV:=rf 21 [pL false 3]
abbrev S.nJ:=rf 51 [pI]
abbrev S.oZ:=rf 52 [pI]
abbrev S.BQ:=re 22 [pL false 3]
abbrev S.qI:=rj 23 [pL false 3,pI,pI]
abbrev S.aK:fJ:=sg 26 [pP 100000 0] [cB 48 [pL false 3,pI,pB,pL true 3]] (ρ:=Int×aA×Int×Bool×aA) λr=>([[D.int .i64 r.1]],[Cell.box 48 [V.d (D.sl false 3 r.2.1),V.d (D.int .i64 r.2.2.1),V.d (D.bool r.2.2.2.1),V.d (D.sl true 3 r.2.2.2.2)]])
abbrev S.aT:fJ:=sg 53 [pP 100000 0] [cB 48 [pL false 3,pI,pB,pL true 3]] (ρ:=aA×Int×Bool×aA) λr=>([],[Cell.box 48 [V.d (D.sl false 3 r.1),V.d (D.int .i64 r.2.1),V.d (D.bool r.2.2.1),V.d (D.sl true 3 r.2.2.2)]])
abbrev S.aG:fJ:=sg 54 [pP 100000 0,pI] [cB 48 [pL false 3,pI,pB,pL true 3]] (ρ:=Int×aP×Int×aA×Int×Bool×aA) λr=>([[D.int .i64 r.1,D.str r.2.1,D.int .i64 r.2.2.1]],[Cell.box 48 [V.d (D.sl false 3 r.2.2.2.1),V.d (D.int .i64 r.2.2.2.2.1),V.d (D.bool r.2.2.2.2.2.1),V.d (D.sl true 3 r.2.2.2.2.2.2)]])
abbrev S.jT:fJ:=sg 24 [pP 100000 0] [cB 48 [pL false 3,pI,pB,pL true 3]] (ρ:=aA×Int×Bool×aA) λr=>([],[Cell.box 48 [V.d (D.sl false 3 r.1),V.d (D.int .i64 r.2.1),V.d (D.bool r.2.2.1),V.d (D.sl true 3 r.2.2.2)]])
abbrev S.lZ:fJ:=sg 25 [pP 100000 0] [cB 48 [pL false 3,pI,pB,pL true 3]] (ρ:=Bool×aA×aA×Int×Bool×aA) λr=>([[D.sl r.1 1 r.2.1]],[Cell.box 48 [V.d (D.sl false 3 r.2.2.1),V.d (D.int .i64 r.2.2.2.1),V.d (D.bool r.2.2.2.2.1),V.d (D.sl true 3 r.2.2.2.2.2)]])
abbrev S.ig:=rk 59 []
abbrev S.bF:=rk 147 [yM [pI,pB,pB,pB,pB],pI]
abbrev S.EP:fJ:=sg 203 [yM [pL false 5,pB]] [] (ρ:=Int×Int×aP×aP×Bool×aA) λr=>([[D.int .i64 r.1,D.int .i64 r.2.1,D.str r.2.2.1,D.str r.2.2.2.1,D.sl r.2.2.2.2.1 1 r.2.2.2.2.2]],[])
abbrev S.zA:=rf 187 [pI]
abbrev S.zB:=rf 148 [yM [pL false 5,pB]]
abbrev S.uO:=rf 149 [pI]
abbrev S.tu:=rl 61 [pL false 5,pI]
abbrev S.aX:=rl 28 [yM [pI,pI,pS,pS,pL false 1],pL false 1]
abbrev S.dn:fJ:=sg 150 [yM [pI,pI,pS,pS,pL false 1],pL false 1] [] (ρ:=Bool×aA×Bool) λr=>([[D.sl r.1 5 r.2.1,D.bool r.2.2]],[])
abbrev S.zW:fJ:=sg 96 [pP 100000 0,yM [pI,pB,pB,pB,pB]] [cB 48 [pL false 3,pI,pB,pL true 3]] (ρ:=Bool×aA×Bool×aA×Int×Bool×aA) λr=>([[D.sl r.1 5 r.2.1,D.bool r.2.2.1]],[Cell.box 48 [V.d (D.sl false 3 r.2.2.2.1),V.d (D.int .i64 r.2.2.2.2.1),V.d (D.bool r.2.2.2.2.2.1),V.d (D.sl true 3 r.2.2.2.2.2.2)]])
abbrev S.ER:fJ:=sg 97 [pP 100000 0,yM [pI,pB,pB,pB,pB]] [cB 48 [pL false 3,pI,pB,pL true 3]] (ρ:=Bool×aA×Bool×aA×Int×Bool×aA) λr=>([[D.sl r.1 5 r.2.1,D.bool r.2.2.1]],[Cell.box 48 [V.d (D.sl false 3 r.2.2.2.1),V.d (D.int .i64 r.2.2.2.2.1),V.d (D.bool r.2.2.2.2.2.1),V.d (D.sl true 3 r.2.2.2.2.2.2)]])
abbrev S.zC:fJ:=sg 151 [pP 100000 0] [cB 48 [pL false 3,pI,pB,pL true 3]] (ρ:=Bool×aA×Int×Bool×aA) λr=>([[D.bool r.1]],[Cell.box 48 [V.d (D.sl false 3 r.2.1),V.d (D.int .i64 r.2.2.1),V.d (D.bool r.2.2.2.1),V.d (D.sl true 3 r.2.2.2.2)]])
abbrev S.lF:fJ:=sg 152 [pP 100000 0,pI,pI] [cB 48 [pL false 3,pI,pB,pL true 3]] (ρ:=Bool×aA×aA×Int×Bool×aA) λr=>([[D.sl r.1 1 r.2.1]],[Cell.box 48 [V.d (D.sl false 3 r.2.2.1),V.d (D.int .i64 r.2.2.2.1),V.d (D.bool r.2.2.2.2.1),V.d (D.sl true 3 r.2.2.2.2.2)]])
abbrev S.Lh:fJ:=sg 98 [pP 100000 0,yM [pI,pB,pB,pB,pB]] [cB 48 [pL false 3,pI,pB,pL true 3]] (ρ:=Bool×aA×Bool×aA×Int×Bool×aA) λr=>([[D.sl r.1 5 r.2.1,D.bool r.2.2.1]],[Cell.box 48 [V.d (D.sl false 3 r.2.2.2.1),V.d (D.int .i64 r.2.2.2.2.1),V.d (D.bool r.2.2.2.2.2.1),V.d (D.sl true 3 r.2.2.2.2.2.2)]])
abbrev S.rQ:=re 154 [pI]
abbrev S.wW:=re 204 [pI]
abbrev S.o7:fJ:=sg 153 [pI] [] (ρ:=Int×Int) λr=>([[D.int .i64 r.1],[D.int .i64 r.2]],[])
abbrev S.mW:=rf 205 [pI]
abbrev S.kK:fJ:=sg 155 [pP 100000 0,pI,yM [pI,pB,pB,pB,pB]] [cB 48 [pL false 3,pI,pB,pL true 3]] (ρ:=Bool×aA×Int×Bool×aA) λr=>([[D.bool r.1]],[Cell.box 48 [V.d (D.sl false 3 r.2.1),V.d (D.int .i64 r.2.2.1),V.d (D.bool r.2.2.2.1),V.d (D.sl true 3 r.2.2.2.2)]])
abbrev S.Dh:fJ:=sg 99 [pP 100000 0,yM [pI,pB,pB,pB,pB],pI,pI] [cB 48 [pL false 3,pI,pB,pL true 3]] (ρ:=Bool×aA×Bool×aA×Int×Bool×aA) λr=>([[D.sl r.1 5 r.2.1,D.bool r.2.2.1]],[Cell.box 48 [V.d (D.sl false 3 r.2.2.2.1),V.d (D.int .i64 r.2.2.2.2.1),V.d (D.bool r.2.2.2.2.2.1),V.d (D.sl true 3 r.2.2.2.2.2.2)]])
abbrev S.Et:fJ:=sg 101 [pP 100000 0,yM [pI,pB,pB,pB,pB]] [cB 48 [pL false 3,pI,pB,pL true 3]] (ρ:=Bool×aA×Bool×aA×Int×Bool×aA) λr=>([[D.sl r.1 5 r.2.1,D.bool r.2.2.1]],[Cell.box 48 [V.d (D.sl false 3 r.2.2.2.1),V.d (D.int .i64 r.2.2.2.2.1),V.d (D.bool r.2.2.2.2.2.1),V.d (D.sl true 3 r.2.2.2.2.2.2)]])
abbrev S.Di:fJ:=sg 100 [pP 100000 0,yM [pI,pB,pB,pB,pB]] [cB 48 [pL false 3,pI,pB,pL true 3]] (ρ:=Bool×aA×Bool×aA×Int×Bool×aA) λr=>([[D.sl r.1 5 r.2.1,D.bool r.2.2.1]],[Cell.box 48 [V.d (D.sl false 3 r.2.2.2.1),V.d (D.int .i64 r.2.2.2.2.1),V.d (D.bool r.2.2.2.2.2.1),V.d (D.sl true 3 r.2.2.2.2.2.2)]])
abbrev S.qJ:=rf 156 [pI]
abbrev S.Eu:fJ:=sg 157 [pP 100000 0,yM [pI,pB,pB,pB,pB]] [cB 48 [pL false 3,pI,pB,pL true 3]] (ρ:=Bool×aA×Bool×aA×Int×Bool×aA) λr=>([[D.sl r.1 5 r.2.1,D.bool r.2.2.1]],[Cell.box 48 [V.d (D.sl false 3 r.2.2.2.1),V.d (D.int .i64 r.2.2.2.2.1),V.d (D.bool r.2.2.2.2.2.1),V.d (D.sl true 3 r.2.2.2.2.2.2)]])
abbrev S.ES:fJ:=sg 102 [pP 100000 0,yM [pI,pB,pB,pB,pB]] [cB 48 [pL false 3,pI,pB,pL true 3]] (ρ:=Bool×aA×Bool×aA×Int×Bool×aA) λr=>([[D.sl r.1 5 r.2.1,D.bool r.2.2.1]],[Cell.box 48 [V.d (D.sl false 3 r.2.2.2.1),V.d (D.int .i64 r.2.2.2.2.1),V.d (D.bool r.2.2.2.2.2.1),V.d (D.sl true 3 r.2.2.2.2.2.2)]])
abbrev S.wX:fJ:=sg 158 [pP 100000 0,pI] [cB 48 [pL false 3,pI,pB,pL true 3]] (ρ:=Bool×aA×Bool×aA×Int×Bool×aA) λr=>([[D.sl r.1 5 r.2.1,D.bool r.2.2.1]],[Cell.box 48 [V.d (D.sl false 3 r.2.2.2.1),V.d (D.int .i64 r.2.2.2.2.1),V.d (D.bool r.2.2.2.2.2.1),V.d (D.sl true 3 r.2.2.2.2.2.2)]])
abbrev S.ET:fJ:=sg 159 [pP 100000 0] [cB 48 [pL false 3,pI,pB,pL true 3]] (ρ:=Bool×aA×Bool×aA×Int×Bool×aA) λr=>([[D.sl r.1 5 r.2.1,D.bool r.2.2.1]],[Cell.box 48 [V.d (D.sl false 3 r.2.2.2.1),V.d (D.int .i64 r.2.2.2.2.1),V.d (D.bool r.2.2.2.2.2.1),V.d (D.sl true 3 r.2.2.2.2.2.2)]])
abbrev S.EU:fJ:=sg 160 [pP 100000 0,pI] [cB 48 [pL false 3,pI,pB,pL true 3]] (ρ:=Bool×aA×Bool×aA×Int×Bool×aA) λr=>([[D.sl r.1 5 r.2.1,D.bool r.2.2.1]],[Cell.box 48 [V.d (D.sl false 3 r.2.2.2.1),V.d (D.int .i64 r.2.2.2.2.1),V.d (D.bool r.2.2.2.2.2.1),V.d (D.sl true 3 r.2.2.2.2.2.2)]])
abbrev S.uP:fJ:=sg 104 [pP 100000 0] [cB 48 [pL false 3,pI,pB,pL true 3]] (ρ:=Bool×aA×Bool×aA×Int×Bool×aA) λr=>([[D.sl r.1 5 r.2.1,D.bool r.2.2.1]],[Cell.box 48 [V.d (D.sl false 3 r.2.2.2.1),V.d (D.int .i64 r.2.2.2.2.1),V.d (D.bool r.2.2.2.2.2.1),V.d (D.sl true 3 r.2.2.2.2.2.2)]])
abbrev S.Dj:fJ:=sg 103 [pP 100000 0,yM [pI,pB,pB,pB,pB]] [cB 48 [pL false 3,pI,pB,pL true 3]] (ρ:=Bool×aA×Bool×aA×Int×Bool×aA) λr=>([[D.sl r.1 5 r.2.1,D.bool r.2.2.1]],[Cell.box 48 [V.d (D.sl false 3 r.2.2.2.1),V.d (D.int .i64 r.2.2.2.2.1),V.d (D.bool r.2.2.2.2.2.1),V.d (D.sl true 3 r.2.2.2.2.2.2)]])
abbrev S.dQ:fJ:=sg 58 [pP 100000 0,yM [pI,pB,pB,pB,pB]] [cB 48 [pL false 3,pI,pB,pL true 3]] (ρ:=Bool×aA×Bool×aA×Int×Bool×aA) λr=>([[D.sl r.1 5 r.2.1,D.bool r.2.2.1]],[Cell.box 48 [V.d (D.sl false 3 r.2.2.2.1),V.d (D.int .i64 r.2.2.2.2.1),V.d (D.bool r.2.2.2.2.2.1),V.d (D.sl true 3 r.2.2.2.2.2.2)]])
abbrev S.l9:fJ:=sg 143 [pP 100000 0] [cB 48 [pL false 3,pI,pB,pL true 3]] (ρ:=Bool×aA×aA×Int×Bool×aA) λr=>([[D.sl r.1 5 r.2.1]],[Cell.box 48 [V.d (D.sl false 3 r.2.2.1),V.d (D.int .i64 r.2.2.2.1),V.d (D.bool r.2.2.2.2.1),V.d (D.sl true 3 r.2.2.2.2.2)]])
abbrev S.wY:fJ:=sg 144 [pP 100000 0] [cB 48 [pL false 3,pI,pB,pL true 3]] (ρ:=Bool×aA×aA×Int×Bool×aA) λr=>([[D.sl r.1 5 r.2.1]],[Cell.box 48 [V.d (D.sl false 3 r.2.2.1),V.d (D.int .i64 r.2.2.2.1),V.d (D.bool r.2.2.2.2.1),V.d (D.sl true 3 r.2.2.2.2.2)]])
abbrev S.o8:fJ:=sg 198 [pP 100000 0] [cB 48 [pL false 3,pI,pB,pL true 3]] (ρ:=Bool×aA×Int×Bool×aA) λr=>([[D.bool r.1]],[Cell.box 48 [V.d (D.sl false 3 r.2.1),V.d (D.int .i64 r.2.2.1),V.d (D.bool r.2.2.2.1),V.d (D.sl true 3 r.2.2.2.2)]])
abbrev S.dG:fJ:=sg 55 [yM [pI,pI,pS,pS,pL false 1],pL false 1] [] (ρ:=Bool×aA) λr=>([[D.sl r.1 5 r.2]],[])
abbrev S.Lj:fJ:=sg 142 [pP 100000 0] [cB 48 [pL false 3,pI,pB,pL true 3]] (ρ:=Bool×aA×aA×Int×Bool×aA) λr=>([[D.sl r.1 5 r.2.1]],[Cell.box 48 [V.d (D.sl false 3 r.2.2.1),V.d (D.int .i64 r.2.2.2.1),V.d (D.bool r.2.2.2.2.1),V.d (D.sl true 3 r.2.2.2.2.2)]])
abbrev S.gW:fJ:=sg 199 [pP 100000 0,pI,yM [pI,pB,pB,pB,pB]] [cB 48 [pL false 3,pI,pB,pL true 3]] (ρ:=Bool×aA×aA×Int×Bool×aA) λr=>([[D.sl r.1 5 r.2.1]],[Cell.box 48 [V.d (D.sl false 3 r.2.2.1),V.d (D.int .i64 r.2.2.2.1),V.d (D.bool r.2.2.2.2.1),V.d (D.sl true 3 r.2.2.2.2.2)]])
abbrev S.Hz:fJ:=sg 145 [pP 100000 0] [cB 48 [pL false 3,pI,pB,pL true 3]] (ρ:=Bool×aA×aA×Int×Bool×aA) λr=>([[D.sl r.1 5 r.2.1]],[Cell.box 48 [V.d (D.sl false 3 r.2.2.1),V.d (D.int .i64 r.2.2.2.1),V.d (D.bool r.2.2.2.2.1),V.d (D.sl true 3 r.2.2.2.2.2)]])
abbrev S.oO:=rf 105 [pI]
abbrev S.jo:=rf 225 [pI]
abbrev S.sS:fJ:=sg 200 [pP 100000 0] [cB 48 [pL false 3,pI,pB,pL true 3]] (ρ:=Bool×aA×aA×Int×Bool×aA) λr=>([[D.sl r.1 5 r.2.1]],[Cell.box 48 [V.d (D.sl false 3 r.2.2.1),V.d (D.int .i64 r.2.2.2.1),V.d (D.bool r.2.2.2.2.1),V.d (D.sl true 3 r.2.2.2.2.2)]])
abbrev S.nU:fJ:=sg 201 [pP 100000 0,pI,pB] [cB 48 [pL false 3,pI,pB,pL true 3]] (ρ:=Bool×aA×aA×Int×Bool×aA) λr=>([[D.sl r.1 5 r.2.1]],[Cell.box 48 [V.d (D.sl false 3 r.2.2.1),V.d (D.int .i64 r.2.2.2.1),V.d (D.bool r.2.2.2.2.1),V.d (D.sl true 3 r.2.2.2.2.2)]])
abbrev S.xE:fJ:=sg 202 [pP 100000 0] [cB 48 [pL false 3,pI,pB,pL true 3]] (ρ:=Bool×aA×aA×Int×Bool×aA) λr=>([[D.sl r.1 5 r.2.1]],[Cell.box 48 [V.d (D.sl false 3 r.2.2.1),V.d (D.int .i64 r.2.2.2.1),V.d (D.bool r.2.2.2.2.1),V.d (D.sl true 3 r.2.2.2.2.2)]])
abbrev S.zX:fJ:=sg 146 [pP 100000 0] [cB 48 [pL false 3,pI,pB,pL true 3]] (ρ:=Bool×aA×aA×Int×Bool×aA) λr=>([[D.sl r.1 5 r.2.1]],[Cell.box 48 [V.d (D.sl false 3 r.2.2.1),V.d (D.int .i64 r.2.2.2.1),V.d (D.bool r.2.2.2.2.1),V.d (D.sl true 3 r.2.2.2.2.2)]])
abbrev S.lu:fJ:=sg 60 [pP 100000 0] [cB 48 [pL false 3,pI,pB,pL true 3]] (ρ:=aA×Int×Bool×aA) λr=>([],[Cell.box 48 [V.d (D.sl false 3 r.1),V.d (D.int .i64 r.2.1),V.d (D.bool r.2.2.1),V.d (D.sl true 3 r.2.2.2)]])
abbrev S.zf:fJ:=sg 95 [pP 100000 0] [cB 48 [pL false 3,pI,pB,pL true 3]] (ρ:=Bool×aA×aA×Int×Bool×aA) λr=>([[D.sl r.1 5 r.2.1]],[Cell.box 48 [V.d (D.sl false 3 r.2.2.1),V.d (D.int .i64 r.2.2.2.1),V.d (D.bool r.2.2.2.2.1),V.d (D.sl true 3 r.2.2.2.2.2)]])
abbrev S.eF:fJ:=sg 56 [pP 100000 0] [cB 48 [pL false 3,pI,pB,pL true 3]] (ρ:=Bool×aA×aA×Int×Bool×aA) λr=>([[D.sl r.1 5 r.2.1]],[Cell.box 48 [V.d (D.sl false 3 r.2.2.1),V.d (D.int .i64 r.2.2.2.1),V.d (D.bool r.2.2.2.2.1),V.d (D.sl true 3 r.2.2.2.2.2)]])
abbrev S.BR:fJ:=sg 57 [pP 100000 0] [cB 48 [pL false 3,pI,pB,pL true 3]] (ρ:=Bool×aA×aA×Int×Bool×aA) λr=>([[D.sl r.1 5 r.2.1]],[Cell.box 48 [V.d (D.sl false 3 r.2.2.1),V.d (D.int .i64 r.2.2.2.1),V.d (D.bool r.2.2.2.2.1),V.d (D.sl true 3 r.2.2.2.2.2)]])
abbrev S.wZ:fJ:=sg 27 [pP 100000 0] [cB 48 [pL false 3,pI,pB,pL true 3]] (ρ:=Bool×aA×aA×Int×Bool×aA) λr=>([[D.sl r.1 5 r.2.1]],[Cell.box 48 [V.d (D.sl false 3 r.2.2.1),V.d (D.int .i64 r.2.2.2.1),V.d (D.bool r.2.2.2.2.1),V.d (D.sl true 3 r.2.2.2.2.2)]])
abbrev S.Dk:fJ:=sg 161 [pL false 5] [] (ρ:=aA×Bool) λr=>([[D.sl true 1 r.1],[D.bool r.2]],[])
abbrev S.BU:=rf 106 [pL false 5]
abbrev S.BX:=re 62 [pL false 5]
abbrev S.zh:=rj 29 [pL false 5]
abbrev S.lN:fJ:=sg 7 [pL false 3] [] (ρ:=Bool×aA×Int×Int) λr=>([[D.sl r.1 5 r.2.1],[D.int .i64 r.2.2.1,D.int .i64 r.2.2.2]],[])
abbrev S.strings_Contains:=rf 162 [pS,pS]
abbrev S.jI:=rf 175 [pI,pI,pI]
abbrev S.jX:=re 125 [pS,pI]
abbrev S.xg:=rf 178 [pI]
abbrev S.fA:=re 207 [pS,pI]
abbrev S.Ew:=re 163 [pS,pI]
abbrev S.qK:=re 208 [pS,pI,pI]
abbrev S.Ey:=re 164 [pS,pI]
abbrev S.Ez:=re 165 [pS,pI]
abbrev S.sU:=rf 179 [pI]
abbrev S.uQ:=rf 219 [pI]
abbrev S.xG:=rf 181 [pS]
abbrev S.slices_Index:=re 227 [pL false 1,pS]
abbrev S.xH:=re 209 [pS]
abbrev S.slices_Contains:=rf 210 [pL false 1,pS]
abbrev S.qL:=rf 167 [pS]
abbrev S.BZ:=rf 166 [pS]
abbrev S.qV:=rf 211 [pI]
abbrev S.yC:=rf 212 [pI]
abbrev S.Cb:=rh 168 [pI]
abbrev S.zi:=rf 107 [yM [pI,pS,pI]]
abbrev S.aZ:=rf 108 [pI]
abbrev S.zD:=rf 63 [pL false 3]
abbrev S.yD:=rf 109 [pI]
abbrev S.yE:=rf 110 [pI]
abbrev S.EC:=re 64 [pL false 3]
abbrev S.nV:=re 35 [pL false 3,pI]
abbrev S.tC:=rj 31 [pL false 3]
abbrev S.aC:fJ:=sg 66 [pP 100000 0] [cB 65 [pL false 3,pI,pB,pL true 1]] (ρ:=Int×aA×Int×Bool×aA) λr=>([[D.int .i64 r.1]],[Cell.box 65 [V.d (D.sl false 3 r.2.1),V.d (D.int .i64 r.2.2.1),V.d (D.bool r.2.2.2.1),V.d (D.sl true 1 r.2.2.2.2)]])
abbrev S.aN:fJ:=sg 65 [pP 100000 0] [cB 65 [pL false 3,pI,pB,pL true 1]] (ρ:=aA×Int×Bool×aA) λr=>([],[Cell.box 65 [V.d (D.sl false 3 r.1),V.d (D.int .i64 r.2.1),V.d (D.bool r.2.2.1),V.d (D.sl true 1 r.2.2.2)]])
abbrev S.bQ:fJ:=sg 32 [pP 100000 0] [cB 65 [pL false 3,pI,pB,pL true 1]] (ρ:=aA×Int×Bool×aA) λr=>([],[Cell.box 65 [V.d (D.sl false 3 r.1),V.d (D.int .i64 r.2.1),V.d (D.bool r.2.2.1),V.d (D.sl true 1 r.2.2.2)]])
abbrev S.dV:fJ:=sg 33 [pP 100000 0] [cB 65 [pL false 3,pI,pB,pL true 1]] (ρ:=Bool×aA×aA×Int×Bool×aA) λr=>([[D.sl r.1 5 r.2.1]],[Cell.box 65 [V.d (D.sl false 3 r.2.2.1),V.d (D.int .i64 r.2.2.2.1),V.d (D.bool r.2.2.2.2.1),V.d (D.sl true 1 r.2.2.2.2.2)]])
abbrev S.aJ:fJ:=sg 111 [pP 100000 0,pI] [cB 65 [pL false 3,pI,pB,pL true 1]] (ρ:=Bool×aA×Int×Bool×aA) λr=>([[D.bool r.1]],[Cell.box 65 [V.d (D.sl false 3 r.2.1),V.d (D.int .i64 r.2.2.1),V.d (D.bool r.2.2.2.1),V.d (D.sl true 1 r.2.2.2.2)]])
abbrev S.lC:fJ:=sg 251 [pP 100000 0] [cB 65 [pL false 3,pI,pB,pL true 1]] (ρ:=Bool×aA×Int×Bool×aA) λr=>([[D.bool r.1]],[Cell.box 65 [V.d (D.sl false 3 r.2.1),V.d (D.int .i64 r.2.2.1),V.d (D.bool r.2.2.2.1),V.d (D.sl true 1 r.2.2.2.2)]])
abbrev S.iK:fJ:=sg 229 [pP 100000 0,yM [pB,pB]] [cB 65 [pL false 3,pI,pB,pL true 1]] (ρ:=Bool×aA×aA×Int×Bool×aA) λr=>([[D.sl r.1 5 r.2.1]],[Cell.box 65 [V.d (D.sl false 3 r.2.2.1),V.d (D.int .i64 r.2.2.2.1),V.d (D.bool r.2.2.2.2.1),V.d (D.sl true 1 r.2.2.2.2.2)]])
abbrev S.iQ:fJ:=sg 214 [pP 100000 0,pI] [cB 65 [pL false 3,pI,pB,pL true 1]] (ρ:=Bool×aA×aA×Int×Bool×aA) λr=>([[D.sl r.1 5 r.2.1]],[Cell.box 65 [V.d (D.sl false 3 r.2.2.1),V.d (D.int .i64 r.2.2.2.1),V.d (D.bool r.2.2.2.2.1),V.d (D.sl true 1 r.2.2.2.2.2)]])
abbrev S.jd:fJ:=sg 239 [pP 100000 0] [cB 65 [pL false 3,pI,pB,pL true 1]] (ρ:=Int×Int×aP×aP×Bool×aA×Bool×aA×Int×Bool×aA) λr=>([[D.int .i64 r.1,D.int .i64 r.2.1,D.str r.2.2.1,D.str r.2.2.2.1,D.sl r.2.2.2.2.1 5 r.2.2.2.2.2.1,D.bool r.2.2.2.2.2.2.1]],[Cell.box 65 [V.d (D.sl false 3 r.2.2.2.2.2.2.2.1),V.d (D.int .i64 r.2.2.2.2.2.2.2.2.1),V.d (D.bool r.2.2.2.2.2.2.2.2.2.1),V.d (D.sl true 1 r.2.2.2.2.2.2.2.2.2.2)]])
abbrev S.dW:fJ:=sg 113 [pP 100000 0] [cB 65 [pL false 3,pI,pB,pL true 1]] (ρ:=aP×aA×Int×Bool×aA) λr=>([[D.str r.1]],[Cell.box 65 [V.d (D.sl false 3 r.2.1),V.d (D.int .i64 r.2.2.1),V.d (D.bool r.2.2.2.1),V.d (D.sl true 1 r.2.2.2.2)]])
abbrev S.bM:fJ:=sg 114 [pP 100000 0] [cB 65 [pL false 3,pI,pB,pL true 1]] (ρ:=aP×aA×Int×Bool×aA) λr=>([[D.str r.1]],[Cell.box 65 [V.d (D.sl false 3 r.2.1),V.d (D.int .i64 r.2.2.1),V.d (D.bool r.2.2.2.1),V.d (D.sl true 1 r.2.2.2.2)]])
abbrev S.oD:=rf 223 [pI]
abbrev S.mF:fJ:=sg 254 [pP 100000 0] [cB 65 [pL false 3,pI,pB,pL true 1]] (ρ:=Int×Int×aP×aP×Bool×aA×Bool×aA×Int×Bool×aA) λr=>([[D.int .i64 r.1,D.int .i64 r.2.1,D.str r.2.2.1,D.str r.2.2.2.1,D.sl r.2.2.2.2.1 5 r.2.2.2.2.2.1,D.bool r.2.2.2.2.2.2.1]],[Cell.box 65 [V.d (D.sl false 3 r.2.2.2.2.2.2.2.1),V.d (D.int .i64 r.2.2.2.2.2.2.2.2.1),V.d (D.bool r.2.2.2.2.2.2.2.2.2.1),V.d (D.sl true 1 r.2.2.2.2.2.2.2.2.2.2)]])
abbrev S.jZ:fJ:=sg 250 [pP 100000 0] [cB 65 [pL false 3,pI,pB,pL true 1]] (ρ:=Int×Int×aP×aP×Bool×aA×Bool×aA×Int×Bool×aA) λr=>([[D.int .i64 r.1,D.int .i64 r.2.1,D.str r.2.2.1,D.str r.2.2.2.1,D.sl r.2.2.2.2.1 5 r.2.2.2.2.2.1,D.bool r.2.2.2.2.2.2.1]],[Cell.box 65 [V.d (D.sl false 3 r.2.2.2.2.2.2.2.1),V.d (D.int .i64 r.2.2.2.2.2.2.2.2.1),V.d (D.bool r.2.2.2.2.2.2.2.2.2.1),V.d (D.sl true 1 r.2.2.2.2.2.2.2.2.2.2)]])
abbrev S.iZ:fJ:=sg 249 [pP 100000 0] [cB 65 [pL false 3,pI,pB,pL true 1]] (ρ:=Int×Int×aP×aP×Bool×aA×Bool×aA×Int×Bool×aA) λr=>([[D.int .i64 r.1,D.int .i64 r.2.1,D.str r.2.2.1,D.str r.2.2.2.1,D.sl r.2.2.2.2.1 5 r.2.2.2.2.2.1,D.bool r.2.2.2.2.2.2.1]],[Cell.box 65 [V.d (D.sl false 3 r.2.2.2.2.2.2.2.1),V.d (D.int .i64 r.2.2.2.2.2.2.2.2.1),V.d (D.bool r.2.2.2.2.2.2.2.2.2.1),V.d (D.sl true 1 r.2.2.2.2.2.2.2.2.2.2)]])
abbrev S.qW:fJ:=sg 253 [pP 100000 0] [cB 65 [pL false 3,pI,pB,pL true 1]] (ρ:=Int×Int×aP×aP×Bool×aA×Bool×aA×Int×Bool×aA) λr=>([[D.int .i64 r.1,D.int .i64 r.2.1,D.str r.2.2.1,D.str r.2.2.2.1,D.sl r.2.2.2.2.1 5 r.2.2.2.2.2.1,D.bool r.2.2.2.2.2.2.1]],[Cell.box 65 [V.d (D.sl false 3 r.2.2.2.2.2.2.2.1),V.d (D.int .i64 r.2.2.2.2.2.2.2.2.1),V.d (D.bool r.2.2.2.2.2.2.2.2.2.1),V.d (D.sl true 1 r.2.2.2.2.2.2.2.2.2.2)]])
abbrev S.jP:fJ:=sg 248 [pP 100000 0] [cB 65 [pL false 3,pI,pB,pL true 1]] (ρ:=Int×Int×aP×aP×Bool×aA×Bool×aA×Int×Bool×aA) λr=>([[D.int .i64 r.1,D.int .i64 r.2.1,D.str r.2.2.1,D.str r.2.2.2.1,D.sl r.2.2.2.2.1 5 r.2.2.2.2.2.1,D.bool r.2.2.2.2.2.2.1]],[Cell.box 65 [V.d (D.sl false 3 r.2.2.2.2.2.2.2.1),V.d (D.int .i64 r.2.2.2.2.2.2.2.2.1),V.d (D.bool r.2.2.2.2.2.2.2.2.2.1),V.d (D.sl true 1 r.2.2.2.2.2.2.2.2.2.2)]])
abbrev S.nK:fJ:=sg 247 [pP 100000 0] [cB 65 [pL false 3,pI,pB,pL true 1]] (ρ:=Int×Int×aP×aP×Bool×aA×Bool×aA×Int×Bool×aA) λr=>([[D.int .i64 r.1,D.int .i64 r.2.1,D.str r.2.2.1,D.str r.2.2.2.1,D.sl r.2.2.2.2.1 5 r.2.2.2.2.2.1,D.bool r.2.2.2.2.2.2.1]],[Cell.box 65 [V.d (D.sl false 3 r.2.2.2.2.2.2.2.1),V.d (D.int .i64 r.2.2.2.2.2.2.2.2.1),V.d (D.bool r.2.2.2.2.2.2.2.2.2.1),V.d (D.sl true 1 r.2.2.2.2.2.2.2.2.2.2)]])
abbrev S.kG:fJ:=sg 217 [pI,yM [pI,pI,pS,pS,pL false 5,pB],yM [pI,pI,pS,pS,pL false 5,pB]] [] (ρ:=Int×Int×aP×aP×Bool×aA×Bool) λr=>([[D.int .i64 r.1,D.int .i64 r.2.1,D.str r.2.2.1,D.str r.2.2.2.1,D.sl r.2.2.2.2.1 5 r.2.2.2.2.2.1,D.bool r.2.2.2.2.2.2]],[])
abbrev S.oP:fJ:=sg 246 [pP 100000 0,yM [pB,pB]] [cB 65 [pL false 3,pI,pB,pL true 1]] (ρ:=Int×Int×aP×aP×Bool×aA×Bool×aA×Int×Bool×aA) λr=>([[D.int .i64 r.1,D.int .i64 r.2.1,D.str r.2.2.1,D.str r.2.2.2.1,D.sl r.2.2.2.2.1 5 r.2.2.2.2.2.1,D.bool r.2.2.2.2.2.2.1]],[Cell.box 65 [V.d (D.sl false 3 r.2.2.2.2.2.2.2.1),V.d (D.int .i64 r.2.2.2.2.2.2.2.2.1),V.d (D.bool r.2.2.2.2.2.2.2.2.2.1),V.d (D.sl true 1 r.2.2.2.2.2.2.2.2.2.2)]])
abbrev S.jq:fJ:=sg 245 [pP 100000 0,yM [pB,pB]] [cB 65 [pL false 3,pI,pB,pL true 1]] (ρ:=Int×Int×aP×aP×Bool×aA×Bool×aA×Int×Bool×aA) λr=>([[D.int .i64 r.1,D.int .i64 r.2.1,D.str r.2.2.1,D.str r.2.2.2.1,D.sl r.2.2.2.2.1 5 r.2.2.2.2.2.1,D.bool r.2.2.2.2.2.2.1]],[Cell.box 65 [V.d (D.sl false 3 r.2.2.2.2.2.2.2.1),V.d (D.int .i64 r.2.2.2.2.2.2.2.2.1),V.d (D.bool r.2.2.2.2.2.2.2.2.2.1),V.d (D.sl true 1 r.2.2.2.2.2.2.2.2.2.2)]])
abbrev S.qP:=re 224 [pI]
abbrev S.ng:fJ:=sg 244 [pP 100000 0,yM [pB,pB]] [cB 65 [pL false 3,pI,pB,pL true 1]] (ρ:=Int×Int×aP×aP×Bool×aA×Bool×aA×Int×Bool×aA) λr=>([[D.int .i64 r.1,D.int .i64 r.2.1,D.str r.2.2.1,D.str r.2.2.2.1,D.sl r.2.2.2.2.1 5 r.2.2.2.2.2.1,D.bool r.2.2.2.2.2.2.1]],[Cell.box 65 [V.d (D.sl false 3 r.2.2.2.2.2.2.2.1),V.d (D.int .i64 r.2.2.2.2.2.2.2.2.1),V.d (D.bool r.2.2.2.2.2.2.2.2.2.1),V.d (D.sl true 1 r.2.2.2.2.2.2.2.2.2.2)]])
abbrev S.jB:fJ:=sg 243 [pP 100000 0,yM [pB,pB]] [cB 65 [pL false 3,pI,pB,pL true 1]] (ρ:=Int×Int×aP×aP×Bool×aA×Bool×aA×Int×Bool×aA) λr=>([[D.int .i64 r.1,D.int .i64 r.2.1,D.str r.2.2.1,D.str r.2.2.2.1,D.sl r.2.2.2.2.1 5 r.2.2.2.2.2.1,D.bool r.2.2.2.2.2.2.1]],[Cell.box 65 [V.d (D.sl false 3 r.2.2.2.2.2.2.2.1),V.d (D.int .i64 r.2.2.2.2.2.2.2.2.1),V.d (D.bool r.2.2.2.2.2.2.2.2.2.1),V.d (D.sl true 1 r.2.2.2.2.2.2.2.2.2.2)]])
abbrev S.kY:=rf 238 [pI]
abbrev S.oQ:fJ:=sg 242 [pP 100000 0,yM [pB,pB]] [cB 65 [pL false 3,pI,pB,pL true 1]] (ρ:=Int×Int×aP×aP×Bool×aA×Bool×aA×Int×Bool×aA) λr=>([[D.int .i64 r.1,D.int .i64 r.2.1,D.str r.2.2.1,D.str r.2.2.2.1,D.sl r.2.2.2.2.1 5 r.2.2.2.2.2.1,D.bool r.2.2.2.2.2.2.1]],[Cell.box 65 [V.d (D.sl false 3 r.2.2.2.2.2.2.2.1),V.d (D.int .i64 r.2.2.2.2.2.2.2.2.1),V.d (D.bool r.2.2.2.2.2.2.2.2.2.1),V.d (D.sl true 1 r.2.2.2.2.2.2.2.2.2.2)]])
abbrev S.kD:fJ:=sg 241 [pP 100000 0,yM [pB,pB]] [cB 65 [pL false 3,pI,pB,pL true 1]] (ρ:=Int×Int×aP×aP×Bool×aA×Bool×aA×Int×Bool×aA) λr=>([[D.int .i64 r.1,D.int .i64 r.2.1,D.str r.2.2.1,D.str r.2.2.2.1,D.sl r.2.2.2.2.1 5 r.2.2.2.2.2.1,D.bool r.2.2.2.2.2.2.1]],[Cell.box 65 [V.d (D.sl false 3 r.2.2.2.2.2.2.2.1),V.d (D.int .i64 r.2.2.2.2.2.2.2.2.1),V.d (D.bool r.2.2.2.2.2.2.2.2.2.1),V.d (D.sl true 1 r.2.2.2.2.2.2.2.2.2.2)]])
abbrev S.kS:fJ:=sg 240 [pP 100000 0,yM [pB,pB]] [cB 65 [pL false 3,pI,pB,pL true 1]] (ρ:=Int×Int×aP×aP×Bool×aA×Bool×aA×Int×Bool×aA) λr=>([[D.int .i64 r.1,D.int .i64 r.2.1,D.str r.2.2.1,D.str r.2.2.2.1,D.sl r.2.2.2.2.1 5 r.2.2.2.2.2.1,D.bool r.2.2.2.2.2.2.1]],[Cell.box 65 [V.d (D.sl false 3 r.2.2.2.2.2.2.2.1),V.d (D.int .i64 r.2.2.2.2.2.2.2.2.1),V.d (D.bool r.2.2.2.2.2.2.2.2.2.1),V.d (D.sl true 1 r.2.2.2.2.2.2.2.2.2.2)]])
abbrev S.oG:fJ:=sg 231 [pP 100000 0,yM [pB,pB]] [cB 65 [pL false 3,pI,pB,pL true 1]] (ρ:=Int×Int×aP×aP×Bool×aA×Bool×aA×Int×Bool×aA) λr=>([[D.int .i64 r.1,D.int .i64 r.2.1,D.str r.2.2.1,D.str r.2.2.2.1,D.sl r.2.2.2.2.1 5 r.2.2.2.2.2.1,D.bool r.2.2.2.2.2.2.1]],[Cell.box 65 [V.d (D.sl false 3 r.2.2.2.2.2.2.2.1),V.d (D.int .i64 r.2.2.2.2.2.2.2.2.1),V.d (D.bool r.2.2.2.2.2.2.2.2.2.1),V.d (D.sl true 1 r.2.2.2.2.2.2.2.2.2.2)]])
abbrev S.ni:fJ:=sg 216 [pP 100000 0,yM [pB,pB]] [cB 65 [pL false 3,pI,pB,pL true 1]] (ρ:=Int×Int×aP×aP×Bool×aA×Bool×aA×Int×Bool×aA) λr=>([[D.int .i64 r.1,D.int .i64 r.2.1,D.str r.2.2.1,D.str r.2.2.2.1,D.sl r.2.2.2.2.1 5 r.2.2.2.2.2.1,D.bool r.2.2.2.2.2.2.1]],[Cell.box 65 [V.d (D.sl false 3 r.2.2.2.2.2.2.2.1),V.d (D.int .i64 r.2.2.2.2.2.2.2.2.1),V.d (D.bool r.2.2.2.2.2.2.2.2.2.1),V.d (D.sl true 1 r.2.2.2.2.2.2.2.2.2.2)]])
abbrev S.qM:fJ:=sg 174 [pP 100000 0,yM [pB,pB]] [cB 65 [pL false 3,pI,pB,pL true 1]] (ρ:=Int×Int×aP×aP×Bool×aA×Bool×aA×Int×Bool×aA) λr=>([[D.int .i64 r.1,D.int .i64 r.2.1,D.str r.2.2.1,D.str r.2.2.2.1,D.sl r.2.2.2.2.1 5 r.2.2.2.2.2.1,D.bool r.2.2.2.2.2.2.1]],[Cell.box 65 [V.d (D.sl false 3 r.2.2.2.2.2.2.2.1),V.d (D.int .i64 r.2.2.2.2.2.2.2.2.1),V.d (D.bool r.2.2.2.2.2.2.2.2.2.1),V.d (D.sl true 1 r.2.2.2.2.2.2.2.2.2.2)]])
abbrev S.lQ:fJ:=sg 115 [pP 100000 0,yM [pB,pB]] [cB 65 [pL false 3,pI,pB,pL true 1]] (ρ:=Int×Int×aP×aP×Bool×aA×Bool×aA×Int×Bool×aA) λr=>([[D.int .i64 r.1,D.int .i64 r.2.1,D.str r.2.2.1,D.str r.2.2.2.1,D.sl r.2.2.2.2.1 5 r.2.2.2.2.2.1,D.bool r.2.2.2.2.2.2.1]],[Cell.box 65 [V.d (D.sl false 3 r.2.2.2.2.2.2.2.1),V.d (D.int .i64 r.2.2.2.2.2.2.2.2.1),V.d (D.bool r.2.2.2.2.2.2.2.2.2.1),V.d (D.sl true 1 r.2.2.2.2.2.2.2.2.2.2)]])
abbrev S.zF:=rf 116 [pI]
abbrev S.bI:fJ:=sg 69 [pP 100000 0,yM [pB,pB]] [cB 65 [pL false 3,pI,pB,pL true 1]] (ρ:=Int×Int×aP×aP×Bool×aA×Bool×aA×Int×Bool×aA) λr=>([[D.int .i64 r.1,D.int .i64 r.2.1,D.str r.2.2.1,D.str r.2.2.2.1,D.sl r.2.2.2.2.1 5 r.2.2.2.2.2.1,D.bool r.2.2.2.2.2.2.1]],[Cell.box 65 [V.d (D.sl false 3 r.2.2.2.2.2.2.2.1),V.d (D.int .i64 r.2.2.2.2.2.2.2.2.1),V.d (D.bool r.2.2.2.2.2.2.2.2.2.1),V.d (D.sl true 1 r.2.2.2.2.2.2.2.2.2.2)]])
abbrev S.dU:fJ:=sg 171 [pP 100000 0] [cB 65 [pL false 3,pI,pB,pL true 1]] (ρ:=Int×Int×aP×aP×Bool×aA×aA×Int×Bool×aA) λr=>([[D.int .i64 r.1,D.int .i64 r.2.1,D.str r.2.2.1,D.str r.2.2.2.1,D.sl r.2.2.2.2.1 5 r.2.2.2.2.2.1]],[Cell.box 65 [V.d (D.sl false 3 r.2.2.2.2.2.2.1),V.d (D.int .i64 r.2.2.2.2.2.2.2.1),V.d (D.bool r.2.2.2.2.2.2.2.2.1),V.d (D.sl true 1 r.2.2.2.2.2.2.2.2.2)]])
abbrev S.o9:fJ:=sg 172 [pP 100000 0] [cB 65 [pL false 3,pI,pB,pL true 1]] (ρ:=Int×Int×aP×aP×Bool×aA×aA×Int×Bool×aA) λr=>([[D.int .i64 r.1,D.int .i64 r.2.1,D.str r.2.2.1,D.str r.2.2.2.1,D.sl r.2.2.2.2.1 5 r.2.2.2.2.2.1]],[Cell.box 65 [V.d (D.sl false 3 r.2.2.2.2.2.2.1),V.d (D.int .i64 r.2.2.2.2.2.2.2.1),V.d (D.bool r.2.2.2.2.2.2.2.2.1),V.d (D.sl true 1 r.2.2.2.2.2.2.2.2.2)]])
abbrev S.qX:fJ:=sg 170 [pP 100000 0] [cB 65 [pL false 3,pI,pB,pL true 1]] (ρ:=Int×Int×aP×aP×Bool×aA×aA×Int×Bool×aA) λr=>([[D.int .i64 r.1,D.int .i64 r.2.1,D.str r.2.2.1,D.str r.2.2.2.1,D.sl r.2.2.2.2.1 5 r.2.2.2.2.2.1]],[Cell.box 65 [V.d (D.sl false 3 r.2.2.2.2.2.2.1),V.d (D.int .i64 r.2.2.2.2.2.2.2.1),V.d (D.bool r.2.2.2.2.2.2.2.2.1),V.d (D.sl true 1 r.2.2.2.2.2.2.2.2.2)]])
abbrev S.iJ:=rf 117 [pI]
abbrev S.fP:fJ:=sg 70 [pP 100000 0] [cB 65 [pL false 3,pI,pB,pL true 1]] (ρ:=aA×Int×Bool×aA) λr=>([],[Cell.box 65 [V.d (D.sl false 3 r.1),V.d (D.int .i64 r.2.1),V.d (D.bool r.2.2.1),V.d (D.sl true 1 r.2.2.2)]])
abbrev S.dH:fJ:=sg 215 [pP 100000 0,pI,yM [pB,pB]] [cB 65 [pL false 3,pI,pB,pL true 1]] (ρ:=Int×Int×aP×aP×Bool×aA×aA×Int×Bool×aA) λr=>([[D.int .i64 r.1,D.int .i64 r.2.1,D.str r.2.2.1,D.str r.2.2.2.1,D.sl r.2.2.2.2.1 5 r.2.2.2.2.2.1]],[Cell.box 65 [V.d (D.sl false 3 r.2.2.2.2.2.2.1),V.d (D.int .i64 r.2.2.2.2.2.2.2.1),V.d (D.bool r.2.2.2.2.2.2.2.2.1),V.d (D.sl true 1 r.2.2.2.2.2.2.2.2.2)]])
abbrev S.vM:fJ:=sg 173 [pP 100000 0] [cB 65 [pL false 3,pI,pB,pL true 1]] (ρ:=Int×Int×aP×aP×Bool×aA×aA×Int×Bool×aA) λr=>([[D.int .i64 r.1,D.int .i64 r.2.1,D.str r.2.2.1,D.str r.2.2.2.1,D.sl r.2.2.2.2.1 5 r.2.2.2.2.2.1]],[Cell.box 65 [V.d (D.sl false 3 r.2.2.2.2.2.2.1),V.d (D.int .i64 r.2.2.2.2.2.2.2.1),V.d (D.bool r.2.2.2.2.2.2.2.2.1),V.d (D.sl true 1 r.2.2.2.2.2.2.2.2.2)]])
abbrev S.yF:=rf 228 [pI]
abbrev S.jc:fJ:=sg 230 [pP 100000 0,yM [pI,pB,pB,pB,pB]] [cB 65 [pL false 3,pI,pB,pL true 1]] (ρ:=Int×Int×aP×aP×Bool×aA×Bool×aA×Int×Bool×aA) λr=>([[D.int .i64 r.1,D.int .i64 r.2.1,D.str r.2.2.1,D.str r.2.2.2.1,D.sl r.2.2.2.2.1 5 r.2.2.2.2.2.1,D.bool r.2.2.2.2.2.2.1]],[Cell.box 65 [V.d (D.sl false 3 r.2.2.2.2.2.2.2.1),V.d (D.int .i64 r.2.2.2.2.2.2.2.2.1),V.d (D.bool r.2.2.2.2.2.2.2.2.2.1),V.d (D.sl true 1 r.2.2.2.2.2.2.2.2.2.2)]])
abbrev S.kT:fJ:=sg 213 [pP 100000 0,pI] [cB 65 [pL false 3,pI,pB,pL true 1]] (ρ:=Int×Int×aP×aP×Bool×aA×aA×Int×Bool×aA) λr=>([[D.int .i64 r.1,D.int .i64 r.2.1,D.str r.2.2.1,D.str r.2.2.2.1,D.sl r.2.2.2.2.1 5 r.2.2.2.2.2.1]],[Cell.box 65 [V.d (D.sl false 3 r.2.2.2.2.2.2.1),V.d (D.int .i64 r.2.2.2.2.2.2.2.1),V.d (D.bool r.2.2.2.2.2.2.2.2.1),V.d (D.sl true 1 r.2.2.2.2.2.2.2.2.2)]])
abbrev S.kZ:fJ:=sg 169 [pP 100000 0] [cB 65 [pL false 3,pI,pB,pL true 1]] (ρ:=Int×Int×aP×aP×Bool×aA×aA×Int×Bool×aA) λr=>([[D.int .i64 r.1,D.int .i64 r.2.1,D.str r.2.2.1,D.str r.2.2.2.1,D.sl r.2.2.2.2.1 5 r.2.2.2.2.2.1]],[Cell.box 65 [V.d (D.sl false 3 r.2.2.2.2.2.2.1),V.d (D.int .i64 r.2.2.2.2.2.2.2.1),V.d (D.bool r.2.2.2.2.2.2.2.2.1),V.d (D.sl true 1 r.2.2.2.2.2.2.2.2.2)]])
abbrev S.jU:fJ:=sg 112 [pP 100000 0] [cB 65 [pL false 3,pI,pB,pL true 1]] (ρ:=Int×Int×aP×aP×Bool×aA×aA×Int×Bool×aA) λr=>([[D.int .i64 r.1,D.int .i64 r.2.1,D.str r.2.2.1,D.str r.2.2.2.1,D.sl r.2.2.2.2.1 5 r.2.2.2.2.2.1]],[Cell.box 65 [V.d (D.sl false 3 r.2.2.2.2.2.2.1),V.d (D.int .i64 r.2.2.2.2.2.2.2.1),V.d (D.bool r.2.2.2.2.2.2.2.2.1),V.d (D.sl true 1 r.2.2.2.2.2.2.2.2.2)]])
abbrev S.bJ:fJ:=sg 67 [pP 100000 0] [cB 65 [pL false 3,pI,pB,pL true 1]] (ρ:=Int×Int×aP×aP×Bool×aA×aA×Int×Bool×aA) λr=>([[D.int .i64 r.1,D.int .i64 r.2.1,D.str r.2.2.1,D.str r.2.2.2.1,D.sl r.2.2.2.2.1 5 r.2.2.2.2.2.1]],[Cell.box 65 [V.d (D.sl false 3 r.2.2.2.2.2.2.1),V.d (D.int .i64 r.2.2.2.2.2.2.2.1),V.d (D.bool r.2.2.2.2.2.2.2.2.1),V.d (D.sl true 1 r.2.2.2.2.2.2.2.2.2)]])
abbrev S.mG:fJ:=sg 68 [pP 100000 0] [cB 65 [pL false 3,pI,pB,pL true 1]] (ρ:=Int×Int×aP×aP×Bool×aA×aA×Int×Bool×aA) λr=>([[D.int .i64 r.1,D.int .i64 r.2.1,D.str r.2.2.1,D.str r.2.2.2.1,D.sl r.2.2.2.2.1 5 r.2.2.2.2.2.1]],[Cell.box 65 [V.d (D.sl false 3 r.2.2.2.2.2.2.1),V.d (D.int .i64 r.2.2.2.2.2.2.2.1),V.d (D.bool r.2.2.2.2.2.2.2.2.1),V.d (D.sl true 1 r.2.2.2.2.2.2.2.2.2)]])
abbrev S.kN:fJ:=sg 34 [pP 100000 0] [cB 65 [pL false 3,pI,pB,pL true 1]] (ρ:=Int×Int×aP×aP×Bool×aA×aA×Int×Bool×aA) λr=>([[D.int .i64 r.1,D.int .i64 r.2.1,D.str r.2.2.1,D.str r.2.2.2.1,D.sl r.2.2.2.2.1 5 r.2.2.2.2.2.1]],[Cell.box 65 [V.d (D.sl false 3 r.2.2.2.2.2.2.1),V.d (D.int .i64 r.2.2.2.2.2.2.2.1),V.d (D.bool r.2.2.2.2.2.2.2.2.1),V.d (D.sl true 1 r.2.2.2.2.2.2.2.2.2)]])
abbrev S.ny:=re 71 [yM [pI,pI,pS,pS,pL false 5]]
abbrev S.lJ:=re 72 [yM [pI,pI,pS,pS,pL false 5]]
abbrev S.tH:=rj 36 [yM [pI,pI,pS,pS,pL false 5]]
abbrev S.oU:=rl 73 [yM [pI,pI,pS,pS,pL false 5],pL true 5]
abbrev S.oH:=rl 37 [yM [pI,pI,pS,pS,pL false 5]]
abbrev S.jr:fJ:=sg 9 [pL false 3] [] (ρ:=aA×Int×Int) λr=>([[D.sl true 5 r.1],[D.int .i64 r.2.1,D.int .i64 r.2.2]],[])
abbrev S.ED:=rf 74 [pL false 1,pL false 1]
abbrev S.EF:=rf 38 [yM [pI,pI,pS,pS,pL false 1],yM [pI,pI,pS,pS,pL false 1]]
abbrev S.xk:=rf 10 [pL false 5,pL false 5]
abbrev S.xq:=rf 11 [yM [pI,pI],yM [pI,pI]]
abbrev S.EW:=rf 39 [yM [pI,pS,pI],yM [pI,pS,pI]]
abbrev S.zG:=rf 12 [pL false 3,pL false 3]
abbrev S.jJ:=rh 40 [pI]
abbrev S.uS:fJ:=sg 13 [pO 100000 0,pI] [cA false true 0 3] (ρ:=Int×aA) λr=>([[D.int .i64 r.1]],[Cell.arr false true 0 3 r.2])
abbrev S.zH:fJ:=sg 41 [pO 100000 0,pI] [cA false true 0 1] (ρ:=Int×aA) λr=>([[D.int .i64 r.1]],[Cell.arr false true 0 1 r.2])
abbrev S.xI:fJ:=sg 14 [pO 100000 0,pI] [cA false false 0 5] (ρ:=Int×aA) λr=>([[D.int .i64 r.1]],[Cell.arr false false 0 5 r.2])
abbrev S.zI:=re 42 [pL false 1,pI]
abbrev S.tJ:=re 15 [pL false 5,pI]
abbrev S.lS:=rf 3 [pL false 3]
abbrev M.L6(a:Int)(a1:aP)(a2 left:Int)(k:Int->Option R):=bif decide (i64.wrap (left - (↑a1.length:Int))<0) then(k (-1)) else k (i64.wrap (left - (↑a1.length:Int)))
def M.BN a a1 a2 left:=M.L6 a a1 a2 left some
def C.BN:=fTa S.BN (λx=>M.L6 x.1.1.1 x.1.1.2.1 x.1.1.2.2.1 x.1.2.1)
def M.zY(a:aA)(s:Int×Int)(kn:Int×Int->Option R)(ke:(Unit)⊕(Int×Int)->Option R):Option R:=match s with
 |(left,i)=>bif decide (i<(↑a.length:Int)) then((idx a i).bind λb=>(kJ .i64 b 0).bind λd=>(cStr b 1).bind λe=>(kJ .i64 b 2).bind λf=>(M.BN d e f left).bind λc=>bif decide (c<0) then(ke (.inl ())) else kn (c,i64.wrap (i+1))) else ke (.inr (left,i))
def M.EX a s:=M.zY a s (λs=>some (Sum.inl s)) λt=>some (Sum.inr t)
def M.IU a s:=gV (M.EX a) s
def F.IU:LE X0 6:=le 5 (Hw [dN 0 (pL false 3),dN 1 pI,dN 5 pI] []) (λx=>(x.1.2.1,x.1.2.2.1)) (λx s=>((x.1.1,s.1,s.2,()),())) (λx=> .sum (.leaf (Unit) (λt=>(Ex.ret,⟨[(4,jk (-1))],[]⟩))) (.leaf (Int×Int) (λt=>(Ex.exit 0,⟨[(0,Du 3 x.1.1),(1,jk t.1),(5,jk t.2),(15,kX false)],[]⟩)))) (λx=>M.zY x.1.1) [fe C.BN] [] (by rintro _ _ ⟨_,_⟩ _ _<;>simp only[M.zY,nb]<;>rfl)
abbrev M.Ko(a:aA)(left:Int)(k:Int->Option R):=bif decide (i64.wrap (left - (↑a.length:Int))<0) then(k (-1)) else (M.IU a (i64.wrap (left - (↑a.length:Int)),0)).bind λd=>iD d (λe=>k (-1)) λc=>letE c λb=>k b.1
def M.zx a left:=M.Ko a left some
def C.zx:=fTa S.zx (λx=>M.Ko x.1.1 x.1.2.1) [] [F.IU]
abbrev M.L8(a:Int)(a1:aP)(a2:Int)(k:Int×aP×Int->Option R):=k (a,a1,a2)
def M.EN a a1 a2:=M.L8 a a1 a2 some
def C.EN:=fTa S.EN (λx=>M.L8 x.1.1.1 x.1.1.2.1 x.1.1.2.2.1)
def M.zZ(a:aA)(s:Int×aA)(kn:Int×aA->Option R)(ke:Int×aA->Option R):Option R:=match s with
 |(i,x')=>bif decide (i<(↑a.length:Int)) then((idx a i).bind λc=>(kJ .i64 c 0).bind λd=>(cStr c 1).bind λe=>(kJ .i64 c 2).bind λg=>(M.EN d e g).bind λb=>(idx x' i).bind λh=>x'[i.toNat]?.bind λf=>kn (i64.wrap (i+1),x'.set i.toNat (splice f 0 [D.int .i64 b.1,D.str b.2.1,D.int .i64 b.2.2]))) else ke (i,x')
def M.EY a s:=M.zZ a s (λs=>some (Sum.inl s)) λt=>some (Sum.inr t)
def M.IV a s:=gV (M.EY a) s
def F.IV:LE X0 8:=le 3 (Hw [dN 0 (pL false 3),dN 3 (pO 300000 0),dN 4 pI] [dN 300000 (cA false true 0 3)]) (λx=>(x.1.2.2.1,x.2.1)) (λx s=>((x.1.1,(),s.1,()),(s.2,()))) (λx=> .leaf (Int×aA) (λt=>(Ex.exit 0,⟨[(0,Du 3 x.1.1),(3,V.own 300000 0),(4,jk t.1),(11,kX false)],[(300000,Cell.arr false true 0 3 t.2)]⟩))) (λx=>M.zZ x.1.1) [fe C.EN] [] (by rintro _ _ ⟨_,_⟩ _ _<;>simp only[M.zZ,nb]<;>rfl)
abbrev M.Kq(a:aA)(k:aA->Option R):=bif decide (0<=(↑a.length:Int)) && decide ((↑a.length:Int)<=(↑a.length:Int)) && decide ((↑a.length:Int) * 32<=140737488355328) && decide ((↑a.length:Int)<=140737488355328) then((M.IV a (0,List.replicate (↑a.length:Int).toNat [D.int .i64 0,D.str [],D.int .i64 0])).bind λb=>bif ah b.2 then(k b.2) else none) else none
def M.qG a:=M.Kq a some
def C.qG:=fTa S.qG (λx=>M.Kq x.1.1) [] [F.IV]
def M.Cc(s':aP)(s:Int)(kn:Int->Option R)(ke:(Unit)⊕(Int)->Option R):Option R:=match s with
 |i=>bif decide (i<(↑s'.length:Int)) then((idx s' i).bind λa=>bif(↑a.toNat:Int)==10 then(ke (.inl ())) else kn (i64.wrap (i+1))) else ke (.inr i)
def M.Ce s' s:=M.Cc s' s (λs=>some (Sum.inl s)) λt=>some (Sum.inr t)
def M.Kr s' s:=gV (M.Ce s') s
def F.Kr:LE X0 88:=le 2 (Hw [dN 0 pS,dN 3 pI] []) (λx=>x.1.2.1) (λx s=>((x.1.1,s,()),())) (λx=> .sum (.leaf (Unit) (λt=>(Ex.ret,⟨[(2,kX false)],[]⟩))) (.leaf (Int) (λt=>(Ex.exit 0,⟨[(0,Dx x.1.1),(3,jk t),(7,kX false)],[]⟩)))) (λx=>M.Cc x.1.1) [] [] (by rintro _ _ _ _ _<;>simp only[M.Cc,nb]<;>rfl)
abbrev M.L9(s':aP)(k:Bool->Option R):=(M.Kr s' 0).bind λb=>iD b (λc=>k false) λa=>letE a λd=>k true
def M.BO s':=M.L9 s' some
def C.BO:=fTa S.BO (λx=>M.L9 x.1.1) [] [F.Kr]
abbrev M.OI(s':aP)(at':Int)(k:Int->Option R):=bif decide (at'<0) then(k (-1)) else bif decide (at'>=(↑s'.length:Int)) then(k (-1)) else (idx s' at').bind λa=>k (i64.wrap (↑a.toNat:Int))
def M.fM s' at':=M.OI s' at' some
def C.fM:=fTa S.fM (λx=>M.OI x.1.1 x.1.2.1)
abbrev M.Ci(x' low high:Int)(k:Bool->Option R):=bif decide (x'>=low) then(k (decide (x'<=high))) else k false
def M.jW x' low high:=M.Ci x' low high some
def C.jW:=fTa S.jW (λx=>M.Ci x.1.1 x.1.2.1 x.1.2.2.1)
abbrev M.Mc(b:Int)(k:Bool->Option R):=(M.jW b 48 57).bind λa=>k a
def M.wU b:=M.Mc b some
def C.wU:=fTa S.wU (λx=>M.Mc x.1.1) [fe C.jW]
def M.EZ(s':aP)(s:Int)(kn:Int->Option R)(ke:Int->Option R):Option R:=match s with
 |at'=>(M.fM s' at').bind λa=>(M.wU a).bind λb=>bif b then(kn (i64.wrap (at'+1))) else ke at'
def M.Rf s' s:=M.EZ s' s (λs=>some (Sum.inl s)) λt=>some (Sum.inr t)
def M.IW s' s:=gV (M.Rf s') s
def F.IW:LE X0 134:=le 1 (Hw [dN 0 pS,dN 1 pI] []) (λx=>x.1.2.1) (λx s=>((x.1.1,s,()),())) (λx=> .leaf (Int) (λt=>(Ex.exit 0,⟨[(0,Dx x.1.1),(1,jk t),(8,kX false)],[]⟩))) (λx=>M.EZ x.1.1) [fe C.fM,fe C.wU] [] (by rintro _ _ _ _ _<;>simp only[M.EZ,nb]<;>rfl)
abbrev M.Kt(s':aP)(at':Int)(k:Int->Option R):=(M.IW s' at').bind λa=>k a
def M.bn s' at':=M.Kt s' at' some
def C.bn:=fTa S.bn (λx=>M.Kt x.1.1 x.1.2.1) [] [F.IW]
abbrev M.OJ(s':aP)(at':Int)(k:Int->Option R):=bif decide (at'<0) then(k (-1)) else (M.bn s' at').bind λb=>(M.fM s' b).bind λc=>bif c==46 then((M.bn s' (i64.wrap (b+1))).bind λa=>bif b==at' then(bif a==i64.wrap (b+1) then(k (-1)) else bif a==at' then(k (-1)) else (M.fM s' a).bind λN=>bif N==101 then((M.fM s' (i64.wrap (a+1))).bind λh=>bif h==43 then((M.bn s' (i64.wrap (i64.wrap (a+1)+1))).bind λy=>bif decide (y>i64.wrap (i64.wrap (a+1)+1)) then((M.bn s' (i64.wrap (i64.wrap (a+1)+1))).bind λr45=>k r45) else k a) else (M.fM s' (i64.wrap (a+1))).bind λm=>bif m==45 then((M.bn s' (i64.wrap (i64.wrap (a+1)+1))).bind λx=>bif decide (x>i64.wrap (i64.wrap (a+1)+1)) then((M.bn s' (i64.wrap (i64.wrap (a+1)+1))).bind λJ=>k J) else k a) else (M.bn s' (i64.wrap (a+1))).bind λs=>bif decide (s>i64.wrap (a+1)) then((M.bn s' (i64.wrap (a+1))).bind λL=>k L) else k a) else (M.fM s' a).bind λl=>bif l==69 then((M.fM s' (i64.wrap (a+1))).bind λe=>bif e==43 then((M.bn s' (i64.wrap (i64.wrap (a+1)+1))).bind λX=>bif decide (X>i64.wrap (i64.wrap (a+1)+1)) then((M.bn s' (i64.wrap (i64.wrap (a+1)+1))).bind λA=>k A) else k a) else (M.fM s' (i64.wrap (a+1))).bind λK=>bif K==45 then((M.bn s' (i64.wrap (i64.wrap (a+1)+1))).bind λr56=>bif decide (r56>i64.wrap (i64.wrap (a+1)+1)) then((M.bn s' (i64.wrap (i64.wrap (a+1)+1))).bind λC=>k C) else k a) else (M.bn s' (i64.wrap (a+1))).bind λG=>bif decide (G>i64.wrap (a+1)) then((M.bn s' (i64.wrap (a+1))).bind λz=>k z) else k a) else k a) else bif a==at' then(k (-1)) else (M.fM s' a).bind λQ=>bif Q==101 then((M.fM s' (i64.wrap (a+1))).bind λp=>bif p==43 then((M.bn s' (i64.wrap (i64.wrap (a+1)+1))).bind λu=>bif decide (u>i64.wrap (i64.wrap (a+1)+1)) then((M.bn s' (i64.wrap (i64.wrap (a+1)+1))).bind λO=>k O) else k a) else (M.fM s' (i64.wrap (a+1))).bind λY=>bif Y==45 then((M.bn s' (i64.wrap (i64.wrap (a+1)+1))).bind λH=>bif decide (H>i64.wrap (i64.wrap (a+1)+1)) then((M.bn s' (i64.wrap (i64.wrap (a+1)+1))).bind λd=>k d) else k a) else (M.bn s' (i64.wrap (a+1))).bind λg=>bif decide (g>i64.wrap (a+1)) then((M.bn s' (i64.wrap (a+1))).bind λE=>k E) else k a) else (M.fM s' a).bind λi=>bif i==69 then((M.fM s' (i64.wrap (a+1))).bind λn=>bif n==43 then((M.bn s' (i64.wrap (i64.wrap (a+1)+1))).bind λV=>bif decide (V>i64.wrap (i64.wrap (a+1)+1)) then((M.bn s' (i64.wrap (i64.wrap (a+1)+1))).bind λw=>k w) else k a) else (M.fM s' (i64.wrap (a+1))).bind λZ=>bif Z==45 then((M.bn s' (i64.wrap (i64.wrap (a+1)+1))).bind λo=>bif decide (o>i64.wrap (i64.wrap (a+1)+1)) then((M.bn s' (i64.wrap (i64.wrap (a+1)+1))).bind λq=>k q) else k a) else (M.bn s' (i64.wrap (a+1))).bind λr76=>bif decide (r76>i64.wrap (a+1)) then((M.bn s' (i64.wrap (a+1))).bind λr77=>k r77) else k a) else k a) else bif b==at' then(k (-1)) else (M.fM s' b).bind λF=>bif F==101 then((M.fM s' (i64.wrap (b+1))).bind λt=>bif t==43 then((M.bn s' (i64.wrap (i64.wrap (b+1)+1))).bind λr80=>bif decide (r80>i64.wrap (i64.wrap (b+1)+1)) then((M.bn s' (i64.wrap (i64.wrap (b+1)+1))).bind λr81=>k r81) else k b) else (M.fM s' (i64.wrap (b+1))).bind λD=>bif D==45 then((M.bn s' (i64.wrap (i64.wrap (b+1)+1))).bind λv=>bif decide (v>i64.wrap (i64.wrap (b+1)+1)) then((M.bn s' (i64.wrap (i64.wrap (b+1)+1))).bind λr84=>k r84) else k b) else (M.bn s' (i64.wrap (b+1))).bind λP=>bif decide (P>i64.wrap (b+1)) then((M.bn s' (i64.wrap (b+1))).bind λj=>k j) else k b) else (M.fM s' b).bind λB=>bif B==69 then((M.fM s' (i64.wrap (b+1))).bind λr88=>bif r88==43 then((M.bn s' (i64.wrap (i64.wrap (b+1)+1))).bind λT=>bif decide (T>i64.wrap (i64.wrap (b+1)+1)) then((M.bn s' (i64.wrap (i64.wrap (b+1)+1))).bind λf=>k f) else k b) else (M.fM s' (i64.wrap (b+1))).bind λr=>bif r==45 then((M.bn s' (i64.wrap (i64.wrap (b+1)+1))).bind λI=>bif decide (I>i64.wrap (i64.wrap (b+1)+1)) then((M.bn s' (i64.wrap (i64.wrap (b+1)+1))).bind λr93=>k r93) else k b) else (M.bn s' (i64.wrap (b+1))).bind λU=>bif decide (U>i64.wrap (b+1)) then((M.bn s' (i64.wrap (b+1))).bind λW=>k W) else k b) else k b
def M.Eo s' at':=M.OJ s' at' some
def C.Eo:=fTa S.Eo (λx=>M.OJ x.1.1 x.1.2.1) [fe C.bn,fe C.fM]
def M.vN(s':aP)(sign s:Int)(kn:Int->Option R)(ke:(Int)⊕(Int)->Option R):Option R:=match s with
 |i=>bif decide (i<(↑s'.length:Int)) then((idx s' i).bind λa=>bif i64.wrap (↑a.toNat:Int)==sign then(ke (.inl (i64.wrap (i+1)))) else bif i64.wrap (↑a.toNat:Int)==10 then(ke (.inl (-1))) else bif i64.wrap (↑a.toNat:Int)==92 then((M.fM s' (i64.wrap (i+1))).bind λb=>bif b==10 then(ke (.inl (-1))) else kn (i64.wrap (i64.wrap (i+1)+1))) else kn (i64.wrap (i+1))) else ke (.inr i)
def M.Aa s' sign s:=M.vN s' sign s (λs=>some (Sum.inl s)) λt=>some (Sum.inr t)
def M.vO s' sign s:=gV (M.Aa s' sign) s
def F.vO:LE X0 135:=le 4 (Hw [dN 0 pS,dN 2 pI,dN 7 pI] []) (λx=>x.1.2.2.1) (λx s=>((x.1.1,x.1.2.1,s,()),())) (λx=> .sum (.leaf (Int) (λt=>(Ex.ret,⟨[(6,jk t)],[]⟩))) (.leaf (Int) (λt=>(Ex.exit 0,⟨[(0,Dx x.1.1),(2,jk x.1.2.1),(7,jk t),(18,kX false)],[]⟩)))) (λx=>M.vN x.1.1 x.1.2.1) [fe C.fM] [] (by rintro _ _ _ _ _<;>simp only[M.vN,nb]<;>rfl)
abbrev M.Ku(s':aP)(at' sign:Int)(k:Int->Option R):=(M.fM s' at').bind λc=>bif c !=sign then(k (-1)) else (M.vO s' sign (i64.wrap (at'+1))).bind λa=>iD a (λd=>k d) λb=>letE b λe=>k (-1)
def M.sO s' at' sign:=M.Ku s' at' sign some
def C.sO:=fTa S.sO (λx=>M.Ku x.1.1 x.1.2.1 x.1.2.2.1) [fe C.fM] [F.vO]
abbrev M.OL(s':aP)(at':Int)(k:Int->Option R):=(M.sO s' at' 34).bind λa=>k a
def M.Ep s' at':=M.OL s' at' some
def C.Ep:=fTa S.Ep (λx=>M.OL x.1.1 x.1.2.1) [fe C.sO]
abbrev M.OM(s':aP)(at':Int)(k:Int->Option R):=(M.sO s' at' 47).bind λa=>bif a==i64.wrap (at'+2) then(k (-1)) else k a
def M.Es s' at':=M.OM s' at' some
def C.Es:=fTa S.Es (λx=>M.OM x.1.1 x.1.2.1) [fe C.sO]
abbrev M.Kv(b:Int)(k:Bool->Option R):=(M.jW b 97 122).bind λc=>bif c then(k true) else (M.jW b 65 90).bind λa=>bif a then(k true) else k (b==95)
def M.sQ b:=M.Kv b some
def C.sQ:=fTa S.sQ (λx=>M.Kv x.1.1) [fe C.jW]
abbrev M.Gv(b:Int)(k:Bool->Option R):=(M.sQ b).bind λc=>bif c then(k true) else (M.wU b).bind λa=>k a
def M.uN b:=M.Gv b some
def C.uN:=fTa S.uN (λx=>M.Gv x.1.1) [fe C.sQ,fe C.wU]
def M.yN(s':aP)(s:Int)(kn:Int->Option R)(ke:(Unit)⊕(Int)->Option R):Option R:=match s with
 |i=>bif decide (i<(↑s'.length:Int)) then((idx s' i).bind λb=>(M.uN (i64.wrap (↑b.toNat:Int))).bind λa=>bif !a then(ke (.inl ())) else kn (i64.wrap (i+1))) else ke (.inr i)
def M.Dy s' s:=M.yN s' s (λs=>some (Sum.inl s)) λt=>some (Sum.inr t)
def M.Gw s' s:=gV (M.Dy s') s
def F.Gw:LE X0 122:=le 2 (Hw [dN 0 pS,dN 3 pI] []) (λx=>x.1.2.1) (λx s=>((x.1.1,s,()),())) (λx=> .sum (.leaf (Unit) (λt=>(Ex.ret,⟨[(2,kX false)],[]⟩))) (.leaf (Int) (λt=>(Ex.exit 0,⟨[(0,Dx x.1.1),(3,jk t),(7,kX false)],[]⟩)))) (λx=>M.yN x.1.1) [fe C.uN] [] (by rintro _ _ _ _ _<;>simp only[M.yN,nb]<;>rfl)
abbrev M.IX(s':aP)(k:Bool->Option R):=(M.Gw s' 0).bind λb=>iD b (λg=>k false) λd=>letE d λf=>(M.jW ((↑s'.length:Int)) 1 12).bind λe=>bif e then((idx s' 0).bind λa=>(M.sQ (i64.wrap (↑a.toNat:Int))).bind λc=>k c) else k false
def M.xB s':=M.IX s' some
def C.xB:=fTa S.xB (λx=>M.IX x.1.1) [fe C.jW,fe C.sQ] [F.Gw]
abbrev M.Rh(k:aA->Option R):=k ([[D.str [66,69,71,73,78]],[D.str [69,78,68]],[D.str [102,117,110,99,116,105,111,110]],[D.str [105,102]],[D.str [101,108,115,101]],[D.str [119,104,105,108,101]],[D.str [102,111,114]],[D.str [100,111]],[D.str [98,114,101,97,107]],[D.str [99,111,110,116,105,110,117,101]],[D.str [110,101,120,116]],[D.str [101,120,105,116]],[D.str [114,101,116,117,114,110]],[D.str [100,101,108,101,116,101]],[D.str [105,110]],[D.str [112,114,105,110,116]],[D.str [112,114,105,110,116,102]]])
def M.y8:Option (aA):=M.Rh some
def C.y8:=fTa S.y8 (λx=>M.Rh)
def M.DT(l:aA)(s':aP)(s:Int)(kn:Int->Option R)(ke:(Int)⊕(Int)->Option R):Option R:=match s with
 |i=>bif decide (i<(↑l.length:Int)) then((idx l i).bind λb=>(cStr b 0).bind λa=>bif a==s' then(ke (.inl i)) else kn (i64.wrap (i+1))) else ke (.inr i)
def M.IY l s' s:=M.DT l s' s (λs=>some (Sum.inl s)) λt=>some (Sum.inr t)
def M.Md l s' s:=gV (M.IY l s') s
def F.Md:LE X0 137:=le 2 (Hw [dN 0 (pL false 1),dN 1 pS,dN 5 pI] []) (λx=>x.1.2.2.1) (λx s=>((x.1.1,x.1.2.1,s,()),())) (λx=> .sum (.leaf (Int) (λt=>(Ex.ret,⟨[(4,jk t)],[]⟩))) (.leaf (Int) (λt=>(Ex.exit 0,⟨[(0,Du 1 x.1.1),(1,Dx x.1.2.1),(5,jk t),(9,kX false)],[]⟩)))) (λx=>M.DT x.1.1 x.1.2.1) [] [] (by rintro _ _ _ _ _<;>simp only[M.DT,nb]<;>rfl)
abbrev M.OO(l:aA)(s':aP)(k:Int->Option R):=(M.Md l s' 0).bind λa=>iD a (λb=>k b) λc=>letE c λd=>k (-1)
def M.zy l s':=M.OO l s' some
def C.zy:=fTa S.zy (λx=>M.OO x.1.1 x.1.2.1) [] [F.Md]
abbrev M.IZ(s':aP)(k:Int->Option R):=M.y8.bind λb=>(M.zy b s').bind λa=>bif decide (a<0) then(k 0) else k (i64.wrap (10+a))
def M.xC s':=M.IZ s' some
def C.xC:=fTa S.xC (λx=>M.IZ x.1.1) [fe C.y8,fe C.zy]
abbrev M.Me(k:aA->Option R):=k ([[D.str [97,116,97,110,50]],[D.str [99,108,111,115,101]],[D.str [99,111,115]],[D.str [101,120,112]],[D.str [103,115,117,98]],[D.str [105,110,100,101,120]],[D.str [105,110,116]],[D.str [108,101,110,103,116,104]],[D.str [108,111,103]],[D.str [109,97,116,99,104]],[D.str [114,97,110,100]],[D.str [115,105,110]],[D.str [115,112,108,105,116]],[D.str [115,112,114,105,110,116,102]],[D.str [115,113,114,116]],[D.str [115,114,97,110,100]],[D.str [115,117,98]],[D.str [115,117,98,115,116,114]],[D.str [115,121,115,116,101,109]],[D.str [116,111,108,111,119,101,114]],[D.str [116,111,117,112,112,101,114]]])
def M.yB:Option (aA):=M.Me some
def C.yB:=fTa S.yB (λx=>M.Me)
abbrev M.I4(s':aP)(k:Bool->Option R):=M.yB.bind λa=>(M.zy a s').bind λb=>k (decide (b>=0))
def M.qH s':=M.I4 s' some
def C.qH:=fTa S.qH (λx=>M.I4 x.1.1) [fe C.yB,fe C.zy]
abbrev M.OQ(s':aP)(k:Bool->Option R):=(M.xB s').bind λc=>bif c then((M.xC s').bind λb=>bif b==0 then((M.qH s').bind λa=>k !a) else k false) else k false
def M.BP s':=M.OQ s' some
def C.BP:=fTa S.BP (λx=>M.OQ x.1.1) [fe C.xB,fe C.xC,fe C.qH]
abbrev M.Ri(k:aA->Option R):=k ([[D.str [123]],[D.str [125]],[D.str [40]],[D.str [41]],[D.str [91]],[D.str [93]],[D.str [44]],[D.str [59]],[D.str [43,61]],[D.str [45,61]],[D.str [42,61]],[D.str [47,61]],[D.str [37,61]],[D.str [94,61]],[D.str [124,124]],[D.str [38,38]],[D.str [33,126]],[D.str [61,61]],[D.str [60,61]],[D.str [62,61]],[D.str [33,61]],[D.str [43,43]],[D.str [45,45]],[D.str [62,62]],[D.str [61]],[D.str [43]],[D.str [45]],[D.str [42]],[D.str [47]],[D.str [37]],[D.str [94]],[D.str [33]],[D.str [62]],[D.str [60]],[D.str [124]],[D.str [63]],[D.str [58]],[D.str [126]],[D.str [36]]])
def M.EO:Option (aA):=M.Ri some
def C.EO:=fTa S.EO (λx=>M.Ri)
abbrev M.MB(kind:Int)(k:aP->Option R):=bif kind==1 then(k [10]) else (M.jW kind 10 26).bind λh=>bif h then(M.y8.bind λb=>(idx b (i64.wrap (kind - 10))).bind λi=>(b[(i64.wrap (kind - 10)).toNat]?).bind λe=>(cStr e 0).bind λd=>k d) else (M.jW kind 30 68).bind λf=>bif f then(M.EO.bind λa=>(idx a (i64.wrap (kind - 30))).bind λj=>(a[(i64.wrap (kind - 30)).toNat]?).bind λg=>(cStr g 0).bind λc=>k c) else k []
def M.mV kind:=M.MB kind some
def C.mV:=fTa S.mV (λx=>M.MB x.1.1) [fe C.jW,fe C.y8,fe C.EO]
abbrev M.MC(t':Int)(II:aP)(TD:Int)(k:Bool->Option R):=bif t'==2 then(bif decide ((↑II.length:Int)>0) then((idx II 0).bind λe=>bif(↑e.toNat:Int)==35 then((M.BO II).bind λi=>k i) else k false) else k false) else bif t'==3 then(bif decide ((↑II.length:Int)>0) then((M.Eo II 0).bind λd=>k (d==(↑II.length:Int))) else k false) else bif t'==4 then((M.Ep II 0).bind λh=>k (h==(↑II.length:Int))) else bif t'==5 then((M.Es II 0).bind λg=>k (g==(↑II.length:Int))) else bif t'==6 then((M.BP II).bind λc=>k c) else bif t'==7 then((M.BP II).bind λa=>k a) else bif t'==8 then((M.qH II).bind λb=>k b) else bif !II==[] then((M.mV t').bind λf=>k (f==II)) else k false
def M.y9 t' II TD:=M.MC t' II TD some
def C.y9:=fTa S.y9 (λx=>M.MC x.1.1.1 x.1.1.2.1 x.1.1.2.2.1) [fe C.BO,fe C.Eo,fe C.Ep,fe C.Es,fe C.BP,fe C.qH,fe C.mV]
abbrev M.E5(kind:Int)(k:Bool->Option R):=bif kind==3 then(k true) else bif kind==4 then(k true) else bif kind==5 then(k true) else bif kind==6 then(k true) else bif kind==8 then(k true) else bif kind==33 then(k true) else bif kind==35 then(k true) else bif kind==51 then(k true) else bif kind==52 then(k true) else k false
def M.aY kind:=M.E5 kind some
def C.aY:=fTa S.aY (λx=>M.E5 x.1.1)
def M.Ac(l:aA)(s:Int×Int)(kn:Int×Int->Option R)(ke:(Unit)⊕(Int×Int)->Option R):Option R:=match s with
 |(last,i)=>bif decide (i<(↑l.length:Int)) then(bif decide (i64.wrap (i+1)<(↑l.length:Int)) then((idx l (i64.wrap (i+1))).bind λaIv=>(kJ .i64 aIv 0).bind λd=>(idx l i).bind λw=>(kJ .i64 w 0).bind λa=>(idx l i).bind λc=>(kJ .i64 c 0).bind λA=>(cStr c 1).bind λu=>(kJ .i64 c 2).bind λN=>(M.y9 A u N).bind λT=>bif !T then(ke (.inl ())) else bif a==7 then(bif d !=32 then(ke (.inl ())) else bif a==2 then(bif d !=1 then(bif decide (i64.wrap (i+1)<(↑l.length:Int)) then(ke (.inl ())) else bif a==5 then((M.aY last).bind λX=>bif X then(ke (.inl ())) else bif a==58 then((M.aY last).bind λF=>bif !F then(ke (.inl ())) else kn (a,i64.wrap (i+1))) else bif a==41 then((M.aY last).bind λL=>bif !L then(ke (.inl ())) else kn (a,i64.wrap (i+1))) else kn (a,i64.wrap (i+1))) else bif a==58 then((M.aY last).bind λk=>bif !k then(ke (.inl ())) else kn (a,i64.wrap (i+1))) else bif a==41 then((M.aY last).bind λz=>bif !z then(ke (.inl ())) else kn (a,i64.wrap (i+1))) else kn (a,i64.wrap (i+1))) else bif a==5 then((M.aY last).bind λP=>bif P then(ke (.inl ())) else bif a==58 then((M.aY last).bind λp=>bif !p then(ke (.inl ())) else kn (a,i64.wrap (i+1))) else bif a==41 then((M.aY last).bind λy=>bif !y then(ke (.inl ())) else kn (a,i64.wrap (i+1))) else kn (a,i64.wrap (i+1))) else bif a==58 then((M.aY last).bind λn=>bif !n then(ke (.inl ())) else kn (a,i64.wrap (i+1))) else bif a==41 then((M.aY last).bind λaPm=>bif !aPm then(ke (.inl ())) else kn (a,i64.wrap (i+1))) else kn (a,i64.wrap (i+1))) else bif a==5 then((M.aY last).bind λE=>bif E then(ke (.inl ())) else bif a==58 then((M.aY last).bind λZ=>bif !Z then(ke (.inl ())) else kn (a,i64.wrap (i+1))) else bif a==41 then((M.aY last).bind λaPp=>bif !aPp then(ke (.inl ())) else kn (a,i64.wrap (i+1))) else kn (a,i64.wrap (i+1))) else bif a==58 then((M.aY last).bind λH=>bif !H then(ke (.inl ())) else kn (a,i64.wrap (i+1))) else bif a==41 then((M.aY last).bind λm=>bif !m then(ke (.inl ())) else kn (a,i64.wrap (i+1))) else kn (a,i64.wrap (i+1))) else bif a==2 then(bif d !=1 then(bif decide (i64.wrap (i+1)<(↑l.length:Int)) then(ke (.inl ())) else bif a==5 then((M.aY last).bind λaPs=>bif aPs then(ke (.inl ())) else bif a==58 then((M.aY last).bind λG=>bif !G then(ke (.inl ())) else kn (a,i64.wrap (i+1))) else bif a==41 then((M.aY last).bind λY=>bif !Y then(ke (.inl ())) else kn (a,i64.wrap (i+1))) else kn (a,i64.wrap (i+1))) else bif a==58 then((M.aY last).bind λq=>bif !q then(ke (.inl ())) else kn (a,i64.wrap (i+1))) else bif a==41 then((M.aY last).bind λC=>bif !C then(ke (.inl ())) else kn (a,i64.wrap (i+1))) else kn (a,i64.wrap (i+1))) else bif a==5 then((M.aY last).bind λr=>bif r then(ke (.inl ())) else bif a==58 then((M.aY last).bind λQ=>bif !Q then(ke (.inl ())) else kn (a,i64.wrap (i+1))) else bif a==41 then((M.aY last).bind λaPz=>bif !aPz then(ke (.inl ())) else kn (a,i64.wrap (i+1))) else kn (a,i64.wrap (i+1))) else bif a==58 then((M.aY last).bind λU=>bif !U then(ke (.inl ())) else kn (a,i64.wrap (i+1))) else bif a==41 then((M.aY last).bind λV=>bif !V then(ke (.inl ())) else kn (a,i64.wrap (i+1))) else kn (a,i64.wrap (i+1))) else bif a==5 then((M.aY last).bind λK=>bif K then(ke (.inl ())) else bif a==58 then((M.aY last).bind λaPD=>bif !aPD then(ke (.inl ())) else kn (a,i64.wrap (i+1))) else bif a==41 then((M.aY last).bind λI=>bif !I then(ke (.inl ())) else kn (a,i64.wrap (i+1))) else kn (a,i64.wrap (i+1))) else bif a==58 then((M.aY last).bind λaPF=>bif !aPF then(ke (.inl ())) else kn (a,i64.wrap (i+1))) else bif a==41 then((M.aY last).bind λB=>bif !B then(ke (.inl ())) else kn (a,i64.wrap (i+1))) else kn (a,i64.wrap (i+1))) else (idx l i).bind λo=>(kJ .i64 o 0).bind λb=>(idx l i).bind λe=>(kJ .i64 e 0).bind λf=>(cStr e 1).bind λaPH=>(kJ .i64 e 2).bind λg=>(M.y9 f aPH g).bind λaPI=>bif !aPI then(ke (.inl ())) else bif b==7 then(ke (.inl ())) else bif b==2 then(bif decide (i64.wrap (i+1)<(↑l.length:Int)) then(ke (.inl ())) else bif b==5 then((M.aY last).bind λv=>bif v then(ke (.inl ())) else bif b==58 then((M.aY last).bind λW=>bif !W then(ke (.inl ())) else kn (b,i64.wrap (i+1))) else bif b==41 then((M.aY last).bind λO=>bif !O then(ke (.inl ())) else kn (b,i64.wrap (i+1))) else kn (b,i64.wrap (i+1))) else bif b==58 then((M.aY last).bind λD=>bif !D then(ke (.inl ())) else kn (b,i64.wrap (i+1))) else bif b==41 then((M.aY last).bind λt=>bif !t then(ke (.inl ())) else kn (b,i64.wrap (i+1))) else kn (b,i64.wrap (i+1))) else bif b==5 then((M.aY last).bind λh=>bif h then(ke (.inl ())) else bif b==58 then((M.aY last).bind λaPP=>bif !aPP then(ke (.inl ())) else kn (b,i64.wrap (i+1))) else bif b==41 then((M.aY last).bind λj=>bif !j then(ke (.inl ())) else kn (b,i64.wrap (i+1))) else kn (b,i64.wrap (i+1))) else bif b==58 then((M.aY last).bind λx=>bif !x then(ke (.inl ())) else kn (b,i64.wrap (i+1))) else bif b==41 then((M.aY last).bind λJ=>bif !J then(ke (.inl ())) else kn (b,i64.wrap (i+1))) else kn (b,i64.wrap (i+1))) else ke (.inr (last,i))
def M.Ad l s:=M.Ac l s (λs=>some (Sum.inl s)) λt=>some (Sum.inr t)
def M.I5 l s:=gV (M.Ad l) s
def F.I5:LE X0 21:=le 5 (Hw [dN 0 (pL false 3),dN 3 pI,dN 4 pI] []) (λx=>(x.1.2.1,x.1.2.2.1)) (λx s=>((x.1.1,s.1,s.2,()),())) (λx=> .sum (.leaf (Unit) (λt=>(Ex.ret,⟨[(2,kX false)],[]⟩))) (.leaf (Int×Int) (λt=>(Ex.exit 0,⟨[(0,Du 3 x.1.1),(3,jk t.1),(4,jk t.2),(13,kX false)],[]⟩)))) (λx=>M.Ac x.1.1) [fe C.y9,fe C.aY] [] (by rintro _ _ ⟨_,_⟩ _ _<;>unfold M.Ac<;>repeat' first|(with_reducible first|apply dw|apply uU|apply uV|apply uX|apply uY)|intro _|apply dw|rfl)
abbrev M.Kw(l:aA)(k:Bool->Option R):=bif decide ((↑l.length:Int)>3000) then(k false) else (M.I5 l (0,0)).bind λa=>iD a (λc=>k false) λb=>letE b λd=>k true
def M.wV l:=M.Kw l some
def C.wV:=fTa S.wV (λx=>M.Kw x.1.1) [] [F.I5]
abbrev M.FX(kind:Int)(k:Bool->Option R):=bif kind==33 then(k true) else bif kind==35 then(k true) else k (kind==31)
def M.nJ kind:=M.FX kind some
def C.nJ:=fTa S.nJ (λx=>M.FX x.1.1)
abbrev M.HY(kind:Int)(k:Bool->Option R):=bif kind==32 then(k true) else bif kind==34 then(k true) else k (kind==30)
def M.oZ kind:=M.HY kind some
def C.oZ:=fTa S.oZ (λx=>M.HY x.1.1)
def M.DU(l:aA)(s:Int×Int)(kn:Int×Int->Option R)(ke:(Int)⊕(Int×Int)->Option R):Option R:=match s with
 |(d,i)=>bif decide (i<(↑l.length:Int)) then((idx l i).bind λj=>(kJ .i64 j 0).bind λb=>(M.nJ b).bind λf=>bif f then((idx l i).bind λh=>(kJ .i64 h 0).bind λc=>(M.oZ c).bind λk=>bif k then(bif decide (i64.wrap ((bif decide (0<i64.wrap (d - 1)) then i64.wrap (d - 1) else 0)+1)>40) then(ke (.inl i)) else kn (i64.wrap ((bif decide (0<i64.wrap (d - 1)) then i64.wrap (d - 1) else 0)+1),i64.wrap (i+1))) else bif decide ((bif decide (0<i64.wrap (d - 1)) then i64.wrap (d - 1) else 0)>40) then(ke (.inl i)) else kn (bif decide (0<i64.wrap (d - 1)) then i64.wrap (d - 1) else 0,i64.wrap (i+1))) else (idx l i).bind λg=>(kJ .i64 g 0).bind λa=>(M.oZ a).bind λe=>bif e then(bif decide (i64.wrap (d+1)>40) then(ke (.inl i)) else kn (i64.wrap (d+1),i64.wrap (i+1))) else bif decide (d>40) then(ke (.inl i)) else kn (d,i64.wrap (i+1))) else ke (.inr (d,i))
def M.DV l s:=M.DU l s (λs=>some (Sum.inl s)) λt=>some (Sum.inr t)
def M.MF l s:=gV (M.DV l) s
def F.MF:LE X0 22:=le 3 (Hw [dN 0 (pL false 3),dN 3 pI,dN 4 pI] []) (λx=>(x.1.2.1,x.1.2.2.1)) (λx s=>((x.1.1,s.1,s.2,()),())) (λx=> .sum (.leaf (Int) (λt=>(Ex.ret,⟨[(2,jk t)],[]⟩))) (.leaf (Int×Int) (λt=>(Ex.exit 0,⟨[(0,Du 3 x.1.1),(3,jk t.1),(4,jk t.2),(8,kX false)],[]⟩)))) (λx=>M.DU x.1.1) [fe C.nJ,fe C.oZ] [] (by rintro _ _ ⟨_,_⟩ _ _<;>simp only[M.DU,nb]<;>rfl)
abbrev M.OT(l:aA)(k:Int->Option R):=(M.MF l (0,0)).bind λb=>iD b (λa=>k a) λc=>letE c λd=>k (-1)
def M.BQ l:=M.OT l some
def C.BQ:=fTa S.BQ (λx=>M.OT x.1.1) [] [F.MF]
abbrev M.Ky(l:aA)(i kind:Int)(k:Int×Int->Option R):=bif decide (i<(↑l.length:Int)) then((idx l i).bind λe=>(kJ .i64 e 2).bind λb=>k (kind,b)) else bif(↑l.length:Int)==0 then(k (kind,0)) else (idx l (i64.wrap ((↑l.length:Int) - 1))).bind λa=>(kJ .i64 a 0).bind λf=>(cStr a 1).bind λd=>(kJ .i64 a 2).bind λc=>k (kind,i64.wrap (c+(↑d.length:Int)))
def M.qI l i kind:=M.Ky l i kind some
def C.qI:=fTa S.qI (λx=>M.Ky x.1.1 x.1.2.1 x.1.2.2.1)
abbrev M.MG(c:aA)(c1:Int)(c2:Bool)(c3:aA)(k:Int×aA×Int×Bool×aA->Option R):=bif decide (c1>=(↑c.length:Int)) then(bif ah c3 then(k (0,c,c1,c2,c3)) else none) else (idx c c1).bind λb=>(kJ .i64 b 0).bind λa=>bif ah c3 then(k (a,c,c1,c2,c3)) else none
def M.aK c c1 c2 c3:=M.MG c c1 c2 c3 some
def C.aK:=fTa S.aK (λx=>M.MG x.2.1.1 x.2.1.2.1 x.2.1.2.2.1 x.2.1.va.1)
def M.vP(s:zao⊕zao)(kn:zao⊕zao->Option R)(ke:aA×Int×Bool×aA->Option R):Option R:=match s with
 | .inl (v,v1,v2,v3)=>bif !v2 then(bif ah v3 then((M.aK v v1 v2 v3).bind λf=>bif f.1==1 then(bif ah f.2.2.2.2 then((M.aK f.2.1 f.2.2.1 f.2.2.2.1 f.2.2.2.2).bind λe=>bif e.1==2 then((idx e.2.1 e.2.2.1).bind λi=>(kJ .i64 i 0).bind λu=>(cStr i 1).bind λz=>(kJ .i64 i 2).bind λr=>oC e.2.2.2.2 [[D.int .i64 u,D.str z,D.int .i64 r]] 32 λza=>kn (.inr (e.2.1,i64.wrap (e.2.2.1+1),e.2.2.2.1,za))) else kn (.inr (e.2.1,i64.wrap (e.2.2.1+1),e.2.2.2.1,e.2.2.2.2))) else none) else bif ah f.2.2.2.2 then((M.aK f.2.1 f.2.2.1 f.2.2.2.1 f.2.2.2.2).bind λh=>bif h.1==2 then(bif ah h.2.2.2.2 then((M.aK h.2.1 h.2.2.1 h.2.2.2.1 h.2.2.2.2).bind λc=>bif c.1==2 then((idx c.2.1 c.2.2.1).bind λk=>(kJ .i64 k 0).bind λo=>(cStr k 1).bind λw=>(kJ .i64 k 2).bind λt=>oC c.2.2.2.2 [[D.int .i64 o,D.str w,D.int .i64 t]] 32 λza=>kn (.inr (c.2.1,i64.wrap (c.2.2.1+1),c.2.2.2.1,za))) else kn (.inr (c.2.1,i64.wrap (c.2.2.1+1),c.2.2.2.1,c.2.2.2.2))) else none) else ke (h.2.1,h.2.2.1,h.2.2.2.1,h.2.2.2.2)) else none) else none) else(ke (v,v1,v2,v3))
 | .inr (v,v1,v2,x')=>bif !v2 then(bif ah x' then((M.aK v v1 v2 x').bind λd=>bif d.1==1 then(bif ah d.2.2.2.2 then((M.aK d.2.1 d.2.2.1 d.2.2.2.1 d.2.2.2.2).bind λb=>bif b.1==2 then((idx b.2.1 b.2.2.1).bind λj=>(kJ .i64 j 0).bind λp=>(cStr j 1).bind λy=>(kJ .i64 j 2).bind λq=>oC b.2.2.2.2 [[D.int .i64 p,D.str y,D.int .i64 q]] 32 λza=>kn (.inr (b.2.1,i64.wrap (b.2.2.1+1),b.2.2.2.1,za))) else kn (.inr (b.2.1,i64.wrap (b.2.2.1+1),b.2.2.2.1,b.2.2.2.2))) else none) else bif ah d.2.2.2.2 then((M.aK d.2.1 d.2.2.1 d.2.2.2.1 d.2.2.2.2).bind λg=>bif g.1==2 then(bif ah g.2.2.2.2 then((M.aK g.2.1 g.2.2.1 g.2.2.2.1 g.2.2.2.2).bind λa=>bif a.1==2 then((idx a.2.1 a.2.2.1).bind λl=>(kJ .i64 l 0).bind λm=>(cStr l 1).bind λx=>(kJ .i64 l 2).bind λn=>oC a.2.2.2.2 [[D.int .i64 m,D.str x,D.int .i64 n]] 32 λza=>kn (.inr (a.2.1,i64.wrap (a.2.2.1+1),a.2.2.2.1,za))) else kn (.inr (a.2.1,i64.wrap (a.2.2.1+1),a.2.2.2.1,a.2.2.2.2))) else none) else ke (g.2.1,g.2.2.1,g.2.2.2.1,g.2.2.2.2)) else none) else none) else ke (v,v1,v2,x')
def M.qY s:=M.vP s (λs=>some (Sum.inl s)) λt=>some (Sum.inr t)
def M.pq s:=gV (M.qY) s
def F.pq:LE X0 53:=le 1 (pOr (Hw [dN 0 (pP 100000 0)] [dN 100000 (cB 48 [pL false 3,pI,pB,pO 100001039999 0]),dN 100001039999 (cA false true 0 3)]) (Hw [dN 0 (pP 100000 0)] [dN 100000 (cB 48 [pL false 3,pI,pB,pO 300000 0]),dN 300000 (cA false true 0 3)])) (σ:=zao⊕zao) (λx=>(match x with| .inl x=> .inl ((x.2.1.1,x.2.1.2.1,x.2.1.2.2.1,x.2.2.1))| .inr x=> .inr ((x.2.1.1,x.2.1.2.1,x.2.1.2.2.1,x.2.2.1)))) (λx s=>(match s with| .inl s=> .inl ((((),()),((s.1,s.2.1,s.2.2.1,(),()),s.va,())))| .inr s=> .inr ((((),()),((s.1,s.2.1,s.2.2.1,(),()),s.va,()))))) (λx=> .leaf zao (λt=>(Ex.exit 0,⟨[(0,V.ptr 100000 0),(16,kX false)],[(100000,Cell.box 48 [Du 3 t.1,jk t.2.1,kX t.2.2.1,V.own 300000 0]),(300000,Cell.arr false true 0 3 t.va)]⟩))) (λx=>M.vP) [fe C.aK] [] (by rintro _ _ (⟨_,_,_,_⟩|⟨_,_,_,_⟩) _ _<;>unfold M.vP<;>repeat' first|(with_reducible first|apply dw|apply uU|apply uV|apply uX|apply uY)|intro _|apply dw|rfl) (hE:=by intro _ _ s _;rcases s with s|s<;>kernel_rfl)
abbrev M.FY(c:aA)(c1:Int)(c2:Bool)(c3:aA)(k:aA×Int×Bool×aA->Option R):=(M.pq (.inl (c,c1,c2,c3))).bind λa=>bif ah a.2.2.2 then(k (a.1,a.2.1,a.2.2.1,a.2.2.2)) else none
def M.aT c c1 c2 c3:=M.FY c c1 c2 c3 some
def C.aT:=fTa S.aT (λx=>M.FY x.2.1.1 x.2.1.2.1 x.2.1.2.2.1 x.2.1.va.1) [] [F.pq]
abbrev M.DW(kind:Int)(c:aA)(c1:Int)(c2:Bool)(c3:aA)(k:Int×aP×Int×aA×Int×Bool×aA->Option R):=bif c2 then(bif ah c3 then(k (0,[],0,c,c1,true,c3)) else none) else bif ah c3 then((M.aK c c1 c2 c3).bind λa=>bif a.1 !=kind then(bif ah a.2.2.2.2 then(k (0,[],0,a.2.1,a.2.2.1,true,a.2.2.2.2)) else none) else (idx a.2.1 a.2.2.1).bind λb=>(kJ .i64 b 0).bind λe=>(cStr b 1).bind λf=>(kJ .i64 b 2).bind λd=>bif ah a.2.2.2.2 then(k (e,f,d,a.2.1,i64.wrap (a.2.2.1+1),a.2.2.2.1,a.2.2.2.2)) else none) else none
def M.aG kind c c1 c2 c3:=M.DW kind c c1 c2 c3 some
def C.aG:=fTa S.aG (λx=>M.DW x.1.2.1 x.2.1.1 x.2.1.2.1 x.2.1.2.2.1 x.2.1.va.1) [fe C.aK]
def M.yc(s:aA×Int×Bool×aA)(kn:aA×Int×Bool×aA->Option R)(ke:aA×Int×Bool×aA->Option R):Option R:=match s with
 |(v,v1,v2,x')=>bif !v2 then(bif ah x' then((M.aK v v1 v2 x').bind λa=>bif a.1==37 then(bif ah a.2.2.2.2 then((M.aG 37 a.2.1 a.2.2.1 a.2.2.2.1 a.2.2.2.2).bind λb=>bif ah b.2.2.2.2.2.2 then((M.aT b.2.2.2.1 b.2.2.2.2.1 b.2.2.2.2.2.1 b.2.2.2.2.2.2).bind λc=>kn (c.1,c.2.1,c.2.2.1,c.2.2.2)) else none) else none) else ke (a.2.1,a.2.2.1,a.2.2.2.1,a.2.2.2.2)) else none) else ke (v,v1,v2,x')
def M.tN s:=M.yc s (λs=>some (Sum.inl s)) λt=>some (Sum.inr t)
def M.yG s:=gV (M.tN) s
def F.yG:LE X0 24:=le 1 (Hw [dN 0 (pP 100000 0)] [dN 100000 (cB 48 [pL false 3,pI,pB,pO 300000 0]),dN 300000 (cA false true 0 3)]) (λx=>(x.2.1.1,x.2.1.2.1,x.2.1.2.2.1,x.2.2.1)) (λx s=>(((),()),((s.1,s.2.1,s.2.2.1,(),()),s.va,()))) (λx=> .leaf zao (λt=>(Ex.exit 0,⟨[(0,V.ptr 100000 0),(13,kX false)],[(100000,Cell.box 48 [Du 3 t.1,jk t.2.1,kX t.2.2.1,V.own 300000 0]),(300000,Cell.arr false true 0 3 t.va)]⟩))) (λx=>M.yc) [fe C.aK,fe C.aG,fe C.aT] [] (by rintro _ _ ⟨_,_,_,_⟩ _ _<;>unfold M.yc<;>repeat' first|(with_reducible first|apply dw|apply uU|apply uV|apply uX|apply uY)|intro _|apply dw|rfl)
abbrev M.H6(c:aA)(c1:Int)(c2:Bool)(c3:aA)(k:aA×Int×Bool×aA->Option R):=bif ah c3 then((M.aT c c1 c2 c3).bind λb=>(M.yG (b.1,b.2.1,b.2.2.1,b.2.2.2)).bind λa=>bif ah a.2.2.2 then(k (a.1,a.2.1,a.2.2.1,a.2.2.2)) else none) else none
def M.jT c c1 c2 c3:=M.H6 c c1 c2 c3 some
def C.jT:=fTa S.jT (λx=>M.H6 x.2.1.1 x.2.1.2.1 x.2.1.2.2.1 x.2.1.va.1) [fe C.aT] [F.yG]
def M.Ae(v:aA)(v1:Int)(v2:Bool)(lX:aA)(s:Int×aA)(kn:Int×aA->Option R)(ke:Int×aA->Option R):Option R:=match s with
 |(i,x')=>bif decide (i<(↑lX.length:Int)) then((idx lX i).bind λc=>lX[i.toNat]?.bind λa=>(cStr a 1).bind λb=>oC x' [[D.sl true 5 [[D.int .i64 34,D.int .i64 0,D.str b,D.str [],D.sl true 1 []]]]] 24 λd=>kn (i64.wrap (i+1),d)) else ke (i,x')
def M.E8 v v1 v2 lX s:=M.Ae v v1 v2 lX s (λs=>some (Sum.inl s)) λt=>some (Sum.inr t)
def M.I7 v v1 v2 lX s:=gV (M.E8 v v1 v2 lX) s
def F.I7:LE X0 25:=le 3 (Hw [dN 0 (pP 100000 0),dN 3 (pO 300000 0),dN 4 pI] [dN 100000 (cB 48 [pL false 3,pI,pB,pO 300001 0]),dN 300000 (cA false false 0 1),dN 300001 (cA false true 0 3)]) (λx=>(x.1.2.2.1,x.2.2.1)) (λx s=>(((),(),s.1,()),((x.2.1.1,x.2.1.2.1,x.2.1.2.2.1,(),()),s.2,x.va.1,()))) (λx=> .leaf (Int×aA) (λt=>(Ex.exit 0,⟨[(0,V.ptr 100000 0),(3,V.own 300000 0),(4,jk t.1),(12,kX false)],[(100000,Cell.box 48 [Du 3 x.2.1.1,jk x.2.1.2.1,kX x.2.1.2.2.1,V.own 300001 0]),(300000,Cell.arr false false 0 1 t.2),(300001,Cell.arr false true 0 3 x.va.1)]⟩))) (λx=>M.Ae x.2.1.1 x.2.1.2.1 x.2.1.2.2.1 x.va.1) [] [] (by rintro _ _ ⟨_,_⟩ _ _<;>unfold M.Ae<;>repeat' first|(with_reducible first|apply dw|apply uU|apply uV|apply uX|apply uY)|intro _|apply dw|rfl)
abbrev M.Kz(c:aA)(c1:Int)(c2:Bool)(c3:aA)(k:Bool×aA×aA×Int×Bool×aA->Option R):=(M.I7 c c1 c2 c3 (0,[])).bind λa=>k (true,a.2,c,c1,c2,[])
def M.lZ c c1 c2 c3:=M.Kz c c1 c2 c3 some
def C.lZ:=fTa S.lZ (λx=>M.Kz x.2.1.1 x.2.1.2.1 x.2.1.2.2.1 x.2.1.va.1) [] [F.I7]
abbrev M.pU(k:Int×Bool×Bool×Bool×Bool->Option R):=k (1,false,false,false,false)
def M.ig:Option (Int×Bool×Bool×Bool×Bool):=M.pU some
def C.ig:=fTa S.ig (λx=>M.pU)
abbrev M.fG(p:Int)(p1 p2 p3 p4:Bool)(level:Int)(k:Int×Bool×Bool×Bool×Bool->Option R):=k (level,false,p2,p3,false)
def M.bF p p1 p2 p3 p4 level:=M.fG p p1 p2 p3 p4 level some
def C.bF:=fTa S.bF (λx=>M.fG x.1.1.1 x.1.1.2.1 x.1.1.2.2.1 x.1.1.va.1 x.1.1.va.2.1 x.1.2.1)
def M.MH(x':aA)(lX:Bool)(k:Int×Int×aP×aP×Bool×aA->Option R):=bif(↑x'.length:Int)==0 then(k (0,0,[],[],true,[])) else (idx x' (i64.wrap ((↑x'.length:Int) - 1))).bind λa=>Q9 1 a λn281 n282 aP8 aP9 aBi=>(k (n281,n282,aP8,aP9,false,aBi))
def M.EP x' lX:=M.MH x' lX some
def C.EP:S.EP.ok X0 λx=>M.EP x.1.1.1 x.1.1.2.1:=fnS (λx=>M.MH x.1.1.1 x.1.1.2.1) [] [] (by intros;simp only[M.MH,Q9];repeat' first|(with_reducible first|apply dw|apply uU|apply uV|apply uX|apply uY)|intro _|apply dw|rfl)
abbrev M.KA(kind:Int)(k:Bool->Option R):=bif kind==1 then(k true) else bif kind==5 then(k true) else k (kind==6)
def M.zA kind:=M.KA kind some
def C.zA:=fTa S.zA (λx=>M.KA x.1.1)
abbrev M.OU(x':aA)(lX:Bool)(k:Bool->Option R):=bif !lX then((M.EP x' lX).bind λa=>(M.zA a.1).bind λb=>k b) else k false
def M.zB x' lX:=M.OU x' lX some
def C.zB:=fTa S.zB (λx=>M.OU x.1.1.1 x.1.1.2.1) [fe C.EP,fe C.zA]
abbrev M.Gx(op':Int)(k:Bool->Option R):=bif op'==54 then(k true) else (M.jW op' 38 43).bind λa=>k a
def M.uO op':=M.Gx op' some
def C.uO:=fTa S.uO (λx=>M.Gx x.1.1) [fe C.jW]
def M.tV(l:aA)(by' i:Int)(x':aA)(lX vH:Int)(uZ vI:aP)(s:Int×aA)(kn:Int×aA->Option R)(ke:Int×aA->Option R):Option R:=match s with
 |(k',xJ)=>(idx l i).bind λc=>(cSl 1 c 4).bind λd=>bif decide (k'<(↑d.length:Int)) then((idx l i).bind λe=>(cSl 1 e 4).bind λf=>(idx f k').bind λb=>(kJ .i64 b 0).bind λa=>oC xJ [[D.int .i64 (i64.wrap (a+by'))]] 8 λg=>kn (i64.wrap (k'+1),g)) else ke (k',xJ)
def M.tX l by' i x' lX vH uZ vI s:=M.tV l by' i x' lX vH uZ vI s (λs=>some (Sum.inl s)) λt=>some (Sum.inr t)
def M.FZ l by' i x' lX vH uZ vI s:=gV (M.tX l by' i x' lX vH uZ vI) s
def F.FZ:LE X0 61:=le 8 (Hw [dN 0 (pL false 5),dN 1 pI,dN 5 (pO 300000 0),dN 6 pI,dN 7 (pP 300001 0),dN 8 pI] [dN 300000 (cA false false 0 5),dN 300001 (cB 57 [pI,pI,pS,pS,pO 300002 0]),dN 300002 (cA false true 0 1)]) (λx=>(x.1.va.2.2.1,x.va.1)) (λx s=>((x.1.1,x.1.2.1,(),x.1.va.1,(),s.1,()),(x.2.1,(x.2.2.1.1,x.2.2.1.2.1,x.2.2.1.2.2.1,x.2.2.1.va.1,(),()),s.2,()))) (λx=> .leaf (Int×aA) (λt=>(Ex.exit 2,⟨[(0,Du 5 x.1.1),(1,jk x.1.2.1),(5,V.own 300000 0),(6,jk x.1.va.1),(7,V.ptr 300001 0),(8,jk t.1),(29,kX false)],[(300000,Cell.arr false false 0 5 x.2.1),(300001,Cell.box 57 [jk x.2.2.1.1,jk x.2.2.1.2.1,Dx x.2.2.1.2.2.1,Dx x.2.2.1.va.1,V.own 300002 0]),(300002,Cell.arr false true 0 1 t.2)]⟩))) (λx=>M.tV x.1.1 x.1.2.1 x.1.va.1 x.2.1 x.2.2.1.1 x.2.2.1.2.1 x.2.2.1.2.2.1 x.2.2.1.va.1) [] [] (by rintro _ _ ⟨_,_⟩ _ _<;>simp only[oC,M.tV,nb]<;>rfl)
def M.tY(l:aA)(by':Int)(s:Int×aA)(kn:Int×aA->Option R)(ke:Int×aA->Option R):Option R:=match s with
 |(i,x')=>bif decide (i<(↑l.length:Int)) then((idx l i).bind λb=>Q9 1 b λn299 n300 aIx aIy _=>((M.FZ l by' i x' n299 n300 aIx aIy (0,[])).bind λa=>bif ah a.2 then(oC x' [[D.int .i64 n299,D.int .i64 n300,D.str aIx,D.str aIy,D.sl true 1 a.2]] 72 λc=>kn (i64.wrap (i+1),c)) else none)) else ke (i,x')
def M.tZ l by' s:=M.tY l by' s (λs=>some (Sum.inl s)) λt=>some (Sum.inr t)
def M.F5 l by' s:=gV (M.tZ l by') s
def F.F5:LE X0 61:=le 3 (Hw [dN 0 (pL false 5),dN 1 pI,dN 5 (pO 300000 0),dN 6 pI] [dN 300000 (cA false false 0 5)]) (λx=>(x.1.va.1,x.2.1)) (λx s=>((x.1.1,x.1.2.1,(),s.1,()),(s.2,()))) (λx=> .leaf (Int×aA) (λt=>(Ex.exit 0,⟨[(0,Du 5 x.1.1),(1,jk x.1.2.1),(5,V.own 300000 0),(6,jk t.1),(13,kX false)],[(300000,Cell.arr false false 0 5 t.2)]⟩))) (λx=>M.tY x.1.1 x.1.2.1) [] [F.FZ] (by rintro _ _ ⟨_,_⟩ _ _<;>simp only[oC,Q9,M.tY,nb]<;>rfl)
abbrev M.H7(l:aA)(by':Int)(k:aA->Option R):=(M.F5 l by' (0,[])).bind λa=>k a.2
def M.tu l by':=M.H7 l by' some
def C.tu:=fTa S.tu (λx=>M.H7 x.1.1 x.1.2.1) [] [F.F5]
def M.vS(parts:aA)(x' lX:Int)(vH uZ:aP)(s:Int×aA×aA)(kn:Int×aA×aA->Option R)(ke:Int×aA×aA->Option R):Option R:=match s with
 |(k',vI,xJ)=>bif decide (k'<(↑parts.length:Int)) then((idx parts k').bind λc=>(cSl 5 c 0).bind λb=>(M.tu b ((↑vI.length:Int))).bind λa=>oC vI a 72 λd=>oC xJ [[D.int .i64 (i64.wrap ((↑d.length:Int) - 1))]] 8 λe=>kn (i64.wrap (k'+1),d,e)) else ke (k',vI,xJ)
def M.vT parts x' lX vH uZ s:=M.vS parts x' lX vH uZ s (λs=>some (Sum.inl s)) λt=>some (Sum.inr t)
def M.Af parts x' lX vH uZ s:=gV (M.vT parts x' lX vH uZ) s
def F.Af:LE X0 28:=le 4 (Hw [dN 1 (pL false 1),dN 2 (pP 300000 0),dN 5 (pO 300001 0),dN 6 pI] [dN 300000 (cB 57 [pI,pI,pS,pS,pO 300002 0]),dN 300001 (cA false false 0 5),dN 300002 (cA false true 0 1)]) (λx=>(x.1.va.1,x.2.2.1,x.va.1)) (λx s=>((x.1.1,(),(),s.1,()),((x.2.1.1,x.2.1.2.1,x.2.1.2.2.1,x.2.1.va.1,(),()),s.2.1,s.2.2,()))) (λx=> .leaf (Int×aA×aA) (λt=>(Ex.exit 0,⟨[(1,Du 1 x.1.1),(2,V.ptr 300000 0),(5,V.own 300001 0),(6,jk t.1),(13,kX false)],[(300000,Cell.box 57 [jk x.2.1.1,jk x.2.1.2.1,Dx x.2.1.2.2.1,Dx x.2.1.va.1,V.own 300002 0]),(300001,Cell.arr false false 0 5 t.2.1),(300002,Cell.arr false true 0 1 t.2.2)]⟩))) (λx=>M.vS x.1.1 x.2.1.1 x.2.1.2.1 x.2.1.2.2.1 x.2.1.va.1) [fe C.tu] [] (by rintro _ _ ⟨_,_,_⟩ _ _<;>simp only[oC,M.vS,nb]<;>rfl)
abbrev M.JW(n' n'1:Int)(n'2 n'3:aP)(n'4 parts:aA)(k:aA->Option R):=(M.Af parts n' n'1 n'2 n'3 (0,[],[])).bind λa=>bif ah a.2.2 then(oC a.2.1 [[D.int .i64 n',D.int .i64 n'1,D.str n'2,D.str n'3,D.sl true 1 a.2.2]] 72 λb=>k b) else none
def M.aX n' n'1 n'2 n'3 n'4 parts:=M.JW n' n'1 n'2 n'3 n'4 parts some
def C.aX:=fTa S.aX (λx=>M.JW x.1.1.1 x.1.1.2.1 x.1.1.2.2.1 x.1.1.va.1 x.1.1.va.2.1 x.1.2.1) [] [F.Af]
abbrev M.H8(n' n'1:Int)(n'2 n'3:aP)(n'4 parts:aA)(k:Bool×aA×Bool->Option R):=(M.aX n' n'1 n'2 n'3 n'4 parts).bind λa=>k (false,ak a,false)
def M.dn n' n'1 n'2 n'3 n'4 parts:=M.H8 n' n'1 n'2 n'3 n'4 parts some
def C.dn:=fTa S.dn (λx=>M.H8 x.1.1.1 x.1.1.2.1 x.1.1.2.2.1 x.1.1.va.1 x.1.1.va.2.1 x.1.2.1) [fe C.aX]
def M.zN(aH:zab)(p:Int)(p1 p2 p3 p4:Bool)(c:aA)(c1:Int)(c2:Bool)(c3:aA)(k:Bool×aA×Bool×aA×Int×Bool×aA->Option R):=(M.bF p p1 p2 p3 p4 2).bind λh=>bif ah c3 then((aH h.1 h.2.1 h.2.2.1 h.2.2.2.1 h.2.2.2.2 c c1 c2 c3).bind λa=>bif a.2.2.2.2.2.1 then(bif ah a.2.2.2.2.2.2 then(k (false,ak a.2.1,a.2.2.1,a.2.2.2.1,a.2.2.2.2.1,a.2.2.2.2.2.1,a.2.2.2.2.2.2)) else none) else (M.zB (ak a.2.1) a.2.2.1).bind λj=>bif !j then(bif ah a.2.2.2.2.2.2 then(k (false,ak a.2.1,a.2.2.1,a.2.2.2.1,a.2.2.2.2.1,a.2.2.2.2.2.1,a.2.2.2.2.2.2)) else none) else bif ah a.2.2.2.2.2.2 then((M.aK a.2.2.2.1 a.2.2.2.2.1 a.2.2.2.2.2.1 a.2.2.2.2.2.2).bind λb=>(M.uO b.1).bind λl=>bif !l then(bif ah b.2.2.2.2 then(k (false,ak a.2.1,a.2.2.1,b.2.1,b.2.2.1,b.2.2.2.1,b.2.2.2.2)) else none) else bif ah b.2.2.2.2 then((M.aK b.2.1 b.2.2.1 b.2.2.2.1 b.2.2.2.2).bind λd=>bif ah d.2.2.2.2 then((M.aG d.1 d.2.1 d.2.2.1 d.2.2.2.1 d.2.2.2.2).bind λg=>(M.bF p p1 p2 p3 p4 1).bind λf=>bif ah g.2.2.2.2.2.2 then((aH f.1 f.2.1 f.2.2.1 f.2.2.2.1 f.2.2.2.2 g.2.2.2.1 g.2.2.2.2.1 g.2.2.2.2.2.1 g.2.2.2.2.2.2).bind λe=>(M.dn 15 d.1 [] [] [] (ak [[D.sl false 5 (ak a.2.1)],[D.sl false 5 (ak e.2.1)]])).bind λi=>bif ah e.2.2.2.2.2.2 then(k (false,ak i.2.1,i.2.2,e.2.2.2.1,e.2.2.2.2.1,e.2.2.2.2.2.1,e.2.2.2.2.2.2)) else none) else none) else none) else none) else none) else none
def C.aek{aH:zab}(fV:S.dQ.ok X0 λx=>mD aH x.1.2.1 x.2.1.1 x.2.1.2.1 x.2.1.2.2.1 x.2.1.va.1):S.zW.ok X0 λx=>mD (M.zN aH) x.1.2.1 x.2.1.1 x.2.1.2.1 x.2.1.2.2.1 x.2.1.va.1 some:=fnS (λx=>M.zN aH x.1.2.1.1 x.1.2.1.2.1 x.1.2.1.2.2.1 x.1.2.1.va.1 x.1.2.1.va.2.1 x.2.1.1 x.2.1.2.1 x.2.1.2.2.1 x.2.1.va.1) [fe C.bF,fe fV,fe C.zB,fe C.aK,fe C.uO,fe C.aG,fe C.dn] [] (by intros;unfold M.zN;repeat' first|(with_reducible first|apply dw|apply uU|apply uV|apply uX|apply uY)|intro _|apply dw|rfl)
def M.DX(aH:zab)(p:Int)(p1 p2 p3 p4:Bool)(c:aA)(c1:Int)(c2:Bool)(c3:aA)(k:Bool×aA×Bool×aA×Int×Bool×aA->Option R):=(M.bF p p1 p2 p3 p4 3).bind λg=>bif ah c3 then((aH g.1 g.2.1 g.2.2.1 g.2.2.2.1 g.2.2.2.2 c c1 c2 c3).bind λb=>bif b.2.2.2.2.2.1 then(bif ah b.2.2.2.2.2.2 then(k (false,ak b.2.1,b.2.2.1,b.2.2.2.1,b.2.2.2.2.1,b.2.2.2.2.2.1,b.2.2.2.2.2.2)) else none) else bif ah b.2.2.2.2.2.2 then((M.aK b.2.2.2.1 b.2.2.2.2.1 b.2.2.2.2.2.1 b.2.2.2.2.2.2).bind λa=>bif a.1 !=65 then(bif ah a.2.2.2.2 then(k (false,ak b.2.1,b.2.2.1,a.2.1,a.2.2.1,a.2.2.2.1,a.2.2.2.2)) else none) else bif ah a.2.2.2.2 then((M.aG 65 a.2.1 a.2.2.1 a.2.2.2.1 a.2.2.2.2).bind λj=>(M.bF p p1 p2 p3 p4 2).bind λh=>bif ah j.2.2.2.2.2.2 then((aH h.1 h.2.1 h.2.2.1 h.2.2.2.1 h.2.2.2.2 j.2.2.2.1 j.2.2.2.2.1 j.2.2.2.2.2.1 j.2.2.2.2.2.2).bind λe=>bif ah e.2.2.2.2.2.2 then((M.aG 66 e.2.2.2.1 e.2.2.2.2.1 e.2.2.2.2.2.1 e.2.2.2.2.2.2).bind λf=>(M.bF p p1 p2 p3 p4 2).bind λi=>bif ah f.2.2.2.2.2.2 then((aH i.1 i.2.1 i.2.2.1 i.2.2.2.1 i.2.2.2.2 f.2.2.2.1 f.2.2.2.2.1 f.2.2.2.2.2.1 f.2.2.2.2.2.2).bind λd=>(M.dn 14 0 [] [] [] (ak [[D.sl false 5 (ak b.2.1)],[D.sl false 5 (ak e.2.1)],[D.sl false 5 (ak d.2.1)]])).bind λl=>bif ah d.2.2.2.2.2.2 then(k (false,ak l.2.1,l.2.2,d.2.2.2.1,d.2.2.2.2.1,d.2.2.2.2.2.1,d.2.2.2.2.2.2)) else none) else none) else none) else none) else none) else none) else none
def C.agJ{aH:zab}(fV:S.dQ.ok X0 λx=>mD aH x.1.2.1 x.2.1.1 x.2.1.2.1 x.2.1.2.2.1 x.2.1.va.1):S.ER.ok X0 λx=>mD (M.DX aH) x.1.2.1 x.2.1.1 x.2.1.2.1 x.2.1.2.2.1 x.2.1.va.1 some:=fnS (λx=>M.DX aH x.1.2.1.1 x.1.2.1.2.1 x.1.2.1.2.2.1 x.1.2.1.va.1 x.1.2.1.va.2.1 x.2.1.1 x.2.1.2.1 x.2.1.2.2.1 x.2.1.va.1) [fe C.bF,fe fV,fe C.aK,fe C.aG,fe C.dn] [] (by intros;unfold M.DX;repeat' first|(with_reducible first|apply dw|apply uU|apply uV|apply uX|apply uY)|intro _|apply dw|rfl)
def M.jQ(v:aA)(v1:Int)(v2:Bool)(x':aA)(s:Int×Int)(kn:Int×Int->Option R)(ke:(Bool)⊕(Int×Int)->Option R):Option R:=match s with
 |(d,i)=>bif decide (i<(↑v.length:Int)) then((idx v i).bind λp=>(kJ .i64 p 0).bind λg=>(M.oZ g).bind λq=>bif q then((idx v i).bind λn=>(kJ .i64 n 0).bind λa=>(M.nJ a).bind λj=>bif j then(bif i64.wrap (i64.wrap (d+1) - 1)==0 then(ke (.inl false)) else bif i64.wrap (i64.wrap (d+1) - 1)==1 then((idx v i).bind λt=>(kJ .i64 t 0).bind λh=>bif h==36 then(ke (.inl true)) else kn (i64.wrap (i64.wrap (d+1) - 1),i64.wrap (i+1))) else kn (i64.wrap (i64.wrap (d+1) - 1),i64.wrap (i+1))) else bif i64.wrap (d+1)==0 then(ke (.inl false)) else bif i64.wrap (d+1)==1 then((idx v i).bind λk=>(kJ .i64 k 0).bind λc=>bif c==36 then(ke (.inl true)) else kn (i64.wrap (d+1),i64.wrap (i+1))) else kn (i64.wrap (d+1),i64.wrap (i+1))) else (idx v i).bind λo=>(kJ .i64 o 0).bind λf=>(M.nJ f).bind λr=>bif r then(bif i64.wrap (d - 1)==0 then(ke (.inl false)) else bif i64.wrap (d - 1)==1 then((idx v i).bind λl=>(kJ .i64 l 0).bind λe=>bif e==36 then(ke (.inl true)) else kn (i64.wrap (d - 1),i64.wrap (i+1))) else kn (i64.wrap (d - 1),i64.wrap (i+1))) else bif d==0 then(ke (.inl false)) else bif d==1 then((idx v i).bind λm=>(kJ .i64 m 0).bind λb=>bif b==36 then(ke (.inl true)) else kn (d,i64.wrap (i+1))) else kn (d,i64.wrap (i+1))) else ke (.inr (d,i))
def M.fZ v v1 v2 x' s:=M.jQ v v1 v2 x' s (λs=>some (Sum.inl s)) λt=>some (Sum.inr t)
def M.nM v v1 v2 x' s:=gV (M.fZ v v1 v2 x') s
def F.nM:LE X0 151:=le 5 (Hw [dN 0 (pP 100000 0),dN 3 pI,dN 4 pI] [dN 100000 (cB 48 [pL false 3,pI,pB,pO 300000 0]),dN 300000 (cA false true 0 3)]) (λx=>(x.1.2.1,x.1.2.2.1)) (λx s=>(((),s.1,s.2,()),((x.2.1.1,x.2.1.2.1,x.2.1.2.2.1,(),()),x.2.2.1,()))) (λx=> .sum (.leaf (Bool) (λt=>(Ex.ret,⟨[(2,kX t)],[(100000,Cell.box 48 [Du 3 x.2.1.1,jk x.2.1.2.1,kX x.2.1.2.2.1,V.own 300000 0]),(300000,Cell.arr false true 0 3 x.2.2.1)]⟩))) (.leaf (Int×Int) (λt=>(Ex.exit 0,⟨[(0,V.ptr 100000 0),(3,jk t.1),(4,jk t.2),(24,kX false)],[(100000,Cell.box 48 [Du 3 x.2.1.1,jk x.2.1.2.1,kX x.2.1.2.2.1,V.own 300000 0]),(300000,Cell.arr false true 0 3 x.2.2.1)]⟩)))) (λx=>M.jQ x.2.1.1 x.2.1.2.1 x.2.1.2.2.1 x.2.2.1) [fe C.oZ,fe C.nJ] [] (by rintro _ _ ⟨_,_⟩ _ _<;>unfold M.jQ<;>repeat' first|(with_reducible first|apply dw|apply uU|apply uV|apply uX|apply uY)|intro _|apply dw|rfl)
abbrev M.KC(c:aA)(c1:Int)(c2:Bool)(c3:aA)(k:Bool×aA×Int×Bool×aA->Option R):=bif c2 then(bif ah c3 then(k (false,c,c1,c2,c3)) else none) else bif ah c3 then((M.aK c c1 c2 c3).bind λa=>bif a.1 !=32 then(bif ah a.2.2.2.2 then(k (false,a.2.1,a.2.2.1,a.2.2.2.1,a.2.2.2.2)) else none) else (M.nM a.2.1 a.2.2.1 a.2.2.2.1 a.2.2.2.2 (0,a.2.2.1)).bind λd=>iD d (λb=>bif ah a.2.2.2.2 then(k (b,a.2.1,a.2.2.1,a.2.2.2.1,a.2.2.2.2)) else none) λe=>letE e λf=>bif ah a.2.2.2.2 then(k (false,a.2.1,a.2.2.1,a.2.2.2.1,a.2.2.2.2)) else none) else none
def M.zC c c1 c2 c3:=M.KC c c1 c2 c3 some
def C.zC:=fTa S.zC (λx=>M.KC x.2.1.1 x.2.1.2.1 x.2.1.2.2.1 x.2.1.va.1) [fe C.aK] [F.nM]
def M.Cj(aH:zab)(s:zaB⊕zas)(kn:zaB⊕zas->Option R)(ke:zas⊕zas->Option R):Option R:=match s with
 | .inl (end',v16,v,v1,v2,x',lX)=>bif !v2 then(M.ig.bind λf=>bif ah lX then((aH f.1 f.2.1 f.2.2.1 f.2.2.2.1 f.2.2.2.2 v v1 v2 lX).bind λj=>oC x' [[D.sl false 5 (ak j.2.1)]] 24 λza=>bif ah j.2.2.2.2.2.2 then((M.aK j.2.2.2.1 j.2.2.2.2.1 j.2.2.2.2.2.1 j.2.2.2.2.2.2).bind λb=>bif b.1 !=36 then(ke (.inl (end',b.2.1,b.2.2.1,b.2.2.2.1,za,b.2.2.2.2))) else bif(↑za.length:Int)==6 then(bif ah b.2.2.2.2 then((M.aG 36 b.2.1 b.2.2.1 true b.2.2.2.2).bind λk=>bif ah k.2.2.2.2.2.2 then((M.aT k.2.2.2.1 k.2.2.2.2.1 k.2.2.2.2.2.1 k.2.2.2.2.2.2).bind λn=>kn (.inr (end',n.1,n.2.1,n.2.2.1,za,n.2.2.2))) else none) else none) else bif ah b.2.2.2.2 then((M.aG 36 b.2.1 b.2.2.1 b.2.2.2.1 b.2.2.2.2).bind λl=>bif ah l.2.2.2.2.2.2 then((M.aT l.2.2.2.1 l.2.2.2.2.1 l.2.2.2.2.2.1 l.2.2.2.2.2.2).bind λm=>kn (.inr (end',m.1,m.2.1,m.2.2.1,za,m.2.2.2))) else none) else none) else none) else none) else(ke (.inr (end',v,v1,v2,x',lX)))
 | .inr (end',v,v1,v2,x',lX)=>bif !v2 then(M.ig.bind λd=>bif ah lX then((aH d.1 d.2.1 d.2.2.1 d.2.2.2.1 d.2.2.2.2 v v1 v2 lX).bind λc=>oC x' [[D.sl false 5 (ak c.2.1)]] 24 λza=>bif ah c.2.2.2.2.2.2 then((M.aK c.2.2.2.1 c.2.2.2.2.1 c.2.2.2.2.2.1 c.2.2.2.2.2.2).bind λa=>bif a.1 !=36 then(ke (.inl (end',a.2.1,a.2.2.1,a.2.2.2.1,za,a.2.2.2.2))) else bif(↑za.length:Int)==6 then(bif ah a.2.2.2.2 then((M.aG 36 a.2.1 a.2.2.1 true a.2.2.2.2).bind λe=>bif ah e.2.2.2.2.2.2 then((M.aT e.2.2.2.1 e.2.2.2.2.1 e.2.2.2.2.2.1 e.2.2.2.2.2.2).bind λi=>kn (.inr (end',i.1,i.2.1,i.2.2.1,za,i.2.2.2))) else none) else none) else bif ah a.2.2.2.2 then((M.aG 36 a.2.1 a.2.2.1 a.2.2.2.1 a.2.2.2.2).bind λg=>bif ah g.2.2.2.2.2.2 then((M.aT g.2.2.2.1 g.2.2.2.2.1 g.2.2.2.2.2.1 g.2.2.2.2.2.2).bind λh=>kn (.inr (end',h.1,h.2.1,h.2.2.1,za,h.2.2.2))) else none) else none) else none) else none) else ke (.inr (end',v,v1,v2,x',lX))
def M.Gy aH s:=M.Cj aH s (λs=>some (Sum.inl s)) λt=>some (Sum.inr t)
def M.uT aH s:=gV (M.Gy aH) s
def F.uT{aH:zab}(fV:S.dQ.ok X0 λx=>mD aH x.1.2.1 x.2.1.1 x.2.1.2.1 x.2.1.2.2.1 x.2.1.va.1):LE X0 152:=le 5 (pOr (Hw [dN 0 (pP 100000 0),dN 1 pI,dN 7 (pO 300000 0),dN 16 pB] [dN 100000 (cB 48 [pL false 3,pI,pB,pO 300001 0]),dN 300000 (cA false false 0 1),dN 300001 (cA false true 0 3)]) (Hw [dN 0 (pP 100000 0),dN 1 pI,dN 7 (pO 300000 0)] [dN 100000 (cB 48 [pL false 3,pI,pB,pO 300001 0]),dN 300000 (cA false false 0 1),dN 300001 (cA false true 0 3)])) (σ:=zaB⊕zas) (λx=>(match x with| .inl x=> .inl ((x.1.2.1,x.1.va.1,x.2.1.1,x.2.1.2.1,x.2.1.2.2.1,x.2.2.1,x.va.1))| .inr x=> .inr ((x.1.2.1,x.2.1.1,x.2.1.2.1,x.2.1.2.2.1,x.2.2.1,x.va.1)))) (λx s=>(match s with| .inl s=> .inl ((((),s.1,(),s.2.1,()),((s.2.2.1,s.va.1,s.va.2.1,(),()),s.va.2.2.1,s.va.va,())))| .inr s=> .inr ((((),s.1,(),()),((s.2.1,s.2.2.1,s.va.1,(),()),s.va.2.1,s.va.2.2,()))))) (λx=> .sum (.leaf zas (λt=>(Ex.exit 0,⟨[(0,V.ptr 100000 0),(1,jk t.1),(7,V.own 300000 0),(35,kX true)],[(100000,Cell.box 48 [Du 3 t.2.1,jk t.2.2.1,kX t.va.1,V.own 300001 0]),(300000,Cell.arr false false 0 1 t.va.2.1),(300001,Cell.arr false true 0 3 t.va.2.2)]⟩))) (.leaf zas (λt=>(Ex.exit 0,⟨[(0,V.ptr 100000 0),(1,jk t.1),(7,V.own 300000 0),(25,kX false)],[(100000,Cell.box 48 [Du 3 t.2.1,jk t.2.2.1,kX t.va.1,V.own 300001 0]),(300000,Cell.arr false false 0 1 t.va.2.1),(300001,Cell.arr false true 0 3 t.va.2.2)]⟩)))) (λx=>M.Cj aH) [fe C.ig,fe fV,fe C.aK,fe C.aG,fe C.aT] [] (by rintro _ _ (⟨_,_,_,_,_,_,_⟩|⟨_,_,_,_,_,_⟩) _ _<;>unfold M.Cj<;>repeat' first|(with_reducible first|apply dw|apply uU|apply uV|apply uX|apply uY)|intro _|apply dw|rfl) (hE:=by intro _ _ s _;rcases s with s|s<;>kernel_rfl)
def M.ug(aH:zab)(end' least:Int)(c:aA)(c1:Int)(c2:Bool)(c3:aA)(k:Bool×aA×aA×Int×Bool×aA->Option R):=bif least==0 then(bif ah c3 then((M.aK c c1 c2 c3).bind λa=>bif a.1==end' then(bif ah a.2.2.2.2 then((M.aG end' a.2.1 a.2.2.1 a.2.2.2.1 a.2.2.2.2).bind λi=>bif ah i.2.2.2.2.2.2 then(k (true,[],i.2.2.2.1,i.2.2.2.2.1,i.2.2.2.2.2.1,i.2.2.2.2.2.2)) else none) else none) else (M.uT aH (.inl (end',false,a.2.1,a.2.2.1,a.2.2.2.1,[],a.2.2.2.2))).bind λp=>iD p (λb=>bif ah b.2.2.2.2.2 then((M.aG b.1 b.2.1 b.2.2.1 b.2.2.2.1 b.2.2.2.2.2).bind λg=>bif ah g.2.2.2.2.2.2 then(k (true,b.2.2.2.2.1,g.2.2.2.1,g.2.2.2.2.1,g.2.2.2.2.2.1,g.2.2.2.2.2.2)) else none) else none) λn=>letE n λd=>bif ah d.2.2.2.2.2 then((M.aG d.1 d.2.1 d.2.2.1 d.2.2.2.1 d.2.2.2.2.2).bind λj=>bif ah j.2.2.2.2.2.2 then(k (true,d.2.2.2.2.1,j.2.2.2.1,j.2.2.2.2.1,j.2.2.2.2.2.1,j.2.2.2.2.2.2)) else none) else none) else none) else (M.uT aH (.inl (end',false,c,c1,c2,[],c3))).bind λo=>iD o (λe=>bif ah e.2.2.2.2.2 then((M.aG e.1 e.2.1 e.2.2.1 e.2.2.2.1 e.2.2.2.2.2).bind λh=>bif ah h.2.2.2.2.2.2 then(k (true,e.2.2.2.2.1,h.2.2.2.1,h.2.2.2.2.1,h.2.2.2.2.2.1,h.2.2.2.2.2.2)) else none) else none) λm=>letE m λf=>bif ah f.2.2.2.2.2 then((M.aG f.1 f.2.1 f.2.2.1 f.2.2.2.1 f.2.2.2.2.2).bind λl=>bif ah l.2.2.2.2.2.2 then(k (true,f.2.2.2.2.1,l.2.2.2.1,l.2.2.2.2.1,l.2.2.2.2.2.1,l.2.2.2.2.2.2)) else none) else none
def C.agK{aH:zab}(fV:S.dQ.ok X0 λx=>mD aH x.1.2.1 x.2.1.1 x.2.1.2.1 x.2.1.2.2.1 x.2.1.va.1):S.lF.ok X0 λx=>M.ug aH x.1.2.1 x.1.2.2.1 x.2.1.1 x.2.1.2.1 x.2.1.2.2.1 x.2.1.va.1 some:=fnS (λx=>M.ug aH x.1.2.1 x.1.2.2.1 x.2.1.1 x.2.1.2.1 x.2.1.2.2.1 x.2.1.va.1) [fe C.aK,fe C.aG] [F.uT fV] (by intros;unfold M.ug;repeat' first|(with_reducible first|apply dw|apply uU|apply uV|apply uX|apply uY)|intro _|apply dw|rfl)
def M.yH(dD:zag)(aH:zab)(x':Int)(lX vH uZ vI xJ:Bool)(s:aA×Int×Bool×aA×Bool×aA)(kn:aA×Int×Bool×aA×Bool×aA->Option R)(ke:aA×Int×Bool×aA×Bool×aA->Option R):Option R:=match s with
 |(v,v1,v2,DY,JD,JO)=>bif !v2 then(bif !vH then(bif ah JO then((M.aK v v1 v2 JO).bind λa=>bif a.1==24 then(bif ah a.2.2.2.2 then((M.aG 24 a.2.1 a.2.2.1 a.2.2.2.1 a.2.2.2.2).bind λb=>bif ah b.2.2.2.2.2.2 then((M.aG 6 b.2.2.2.1 b.2.2.2.2.1 b.2.2.2.2.2.1 b.2.2.2.2.2.2).bind λc=>(M.dn 13 0 c.2.1 [] [] (ak [[D.sl false 5 DY]])).bind λd=>kn (c.2.2.2.1,c.2.2.2.2.1,c.2.2.2.2.2.1,ak d.2.1,d.2.2,c.2.2.2.2.2.2)) else none) else none) else ke (a.2.1,a.2.2.1,a.2.2.2.1,DY,JD,a.2.2.2.2)) else none) else ke (v,v1,v2,DY,JD,JO)) else ke (v,v1,v2,DY,JD,JO)
def M.qQ dD aH x' lX vH uZ vI xJ s:=M.yH dD aH x' lX vH uZ vI xJ s (λs=>some (Sum.inl s)) λt=>some (Sum.inr t)
def M.oV dD aH x' lX vH uZ vI xJ s:=gV (M.qQ dD aH x' lX vH uZ vI xJ) s
def F.oV{dD:zag}{aH:zab}(Ag:S.lF.ok X0 λx=>dD x.1.2.1 x.1.2.2.1 x.2.1.1 x.2.1.2.1 x.2.1.2.2.1 x.2.1.va.1)(fV:S.dQ.ok X0 λx=>mD aH x.1.2.1 x.2.1.1 x.2.1.2.1 x.2.1.2.2.1 x.2.1.va.1):LE X0 98:=le 9 (Hw [dN 0 (pP 100000 0),dN 3 (pP 300000 0),dN 4 (pP 300001 0),dN 5 (pP 300002 0)] [dN 100000 (cB 48 [pL false 3,pI,pB,pO 300003 0]),dN 300000 (cB 88 [pI,pB,pB,pB,pB]),dN 300001 (cB 85 [Q5 5,pB]),dN 300002 (cB 85 [pL false 5,pB]),dN 300003 (cA false true 0 3)]) (λx=>(x.2.1.1,x.2.1.2.1,x.2.1.2.2.1,x.va.2.1.1,x.va.2.1.2.1,x.va.2.2.1)) (λx s=>(((),(),(),(),()),((s.1,s.2.1,s.2.2.1,(),()),(x.2.2.1.1,x.2.2.1.2.1,x.2.2.1.2.2.1,x.2.2.1.va.1,x.2.2.1.va.2.1,()),((),x.va.1.2.1,()),(s.va.1,s.va.2.1,()),s.va.2.2,()))) (λx=> .leaf (aA×Int×Bool×aA×Bool×aA) (λt=>(Ex.exit 0,⟨[(0,V.ptr 100000 0),(3,V.ptr 300000 0),(4,V.ptr 300001 0),(5,V.ptr 300002 0),(49,kX false)],[(100000,Cell.box 48 [Du 3 t.1,jk t.2.1,kX t.2.2.1,V.own 300003 0]),(300000,Cell.box 88 [jk x.2.2.1.1,kX x.2.2.1.2.1,kX x.2.2.1.2.2.1,kX x.2.2.1.va.1,kX x.2.2.1.va.2.1]),(300001,Cell.box 85 [V.nil 5,kX x.va.1.2.1]),(300002,Cell.box 85 [Du 5 t.va.1,kX t.va.2.1]),(300003,Cell.arr false true 0 3 t.va.2.2)]⟩))) (λx=>M.yH dD aH x.2.2.1.1 x.2.2.1.2.1 x.2.2.1.2.2.1 x.2.2.1.va.1 x.2.2.1.va.2.1 x.va.1.2.1) [fe C.aK,fe C.aG,fe C.dn] [] (by rintro _ _ ⟨_,_,_,_,_,_⟩ _ _<;>unfold M.yH<;>repeat' first|(with_reducible first|apply dw|apply uU|apply uV|apply uX|apply uY)|intro _|apply dw|rfl)
def M.I8(dD:zag)(aH:zab)(p:Int)(p1 p2 p3 p4:Bool)(c:aA)(c1:Int)(c2:Bool)(c3:aA)(k:Bool×aA×Bool×aA×Int×Bool×aA->Option R):=bif !p2 then(bif ah c3 then((M.zC c c1 c2 c3).bind λa=>bif a.1 then(bif ah a.2.2.2.2 then((M.aG 32 a.2.1 a.2.2.1 a.2.2.2.1 a.2.2.2.2).bind λl=>bif ah l.2.2.2.2.2.2 then((dD 33 1 l.2.2.2.1 l.2.2.2.2.1 l.2.2.2.2.2.1 l.2.2.2.2.2.2).bind λh=>bif ah h.2.2.2.2.2 then((M.aG 24 h.2.2.1 h.2.2.2.1 h.2.2.2.2.1 h.2.2.2.2.2).bind λj=>bif ah j.2.2.2.2.2.2 then((M.aG 6 j.2.2.2.1 j.2.2.2.2.1 j.2.2.2.2.2.1 j.2.2.2.2.2.2).bind λn=>(M.aX 13 0 n.2.1 [] [] (ak h.2.1)).bind λo=>(M.oV dD aH p p1 p2 p3 p4 false (n.2.2.2.1,n.2.2.2.2.1,n.2.2.2.2.2.1,ak o,false,n.2.2.2.2.2.2)).bind λb=>bif ah b.2.2.2.2.2 then(k (false,b.2.2.2.1,b.2.2.2.2.1,b.1,b.2.1,b.2.2.1,b.2.2.2.2.2)) else none) else none) else none) else none) else none) else (M.bF p p1 p2 p3 p4 6).bind λm=>bif ah a.2.2.2.2 then((aH m.1 m.2.1 m.2.2.1 m.2.2.2.1 m.2.2.2.2 a.2.1 a.2.2.1 a.2.2.2.1 a.2.2.2.2).bind λf=>(M.oV dD aH p p1 p2 p3 p4 false (f.2.2.2.1,f.2.2.2.2.1,f.2.2.2.2.2.1,ak f.2.1,f.2.2.1,f.2.2.2.2.2.2)).bind λd=>bif ah d.2.2.2.2.2 then(k (false,d.2.2.2.1,d.2.2.2.2.1,d.1,d.2.1,d.2.2.1,d.2.2.2.2.2)) else none) else none) else none) else (M.bF p p1 p2 p3 p4 6).bind λi=>bif ah c3 then((aH i.1 i.2.1 i.2.2.1 i.2.2.2.1 i.2.2.2.2 c c1 c2 c3).bind λg=>(M.oV dD aH p p1 p2 p3 p4 false (g.2.2.2.1,g.2.2.2.2.1,g.2.2.2.2.2.1,ak g.2.1,g.2.2.1,g.2.2.2.2.2.2)).bind λe=>bif ah e.2.2.2.2.2 then(k (false,e.2.2.2.1,e.2.2.2.2.1,e.1,e.2.1,e.2.2.1,e.2.2.2.2.2)) else none) else none
def C.ajN{dD:zag}{aH:zab}(Ag:S.lF.ok X0 λx=>dD x.1.2.1 x.1.2.2.1 x.2.1.1 x.2.1.2.1 x.2.1.2.2.1 x.2.1.va.1)(fV:S.dQ.ok X0 λx=>mD aH x.1.2.1 x.2.1.1 x.2.1.2.1 x.2.1.2.2.1 x.2.1.va.1):S.Lh.ok X0 λx=>mD (M.I8 dD aH) x.1.2.1 x.2.1.1 x.2.1.2.1 x.2.1.2.2.1 x.2.1.va.1 some:=fnS (λx=>M.I8 dD aH x.1.2.1.1 x.1.2.1.2.1 x.1.2.1.2.2.1 x.1.2.1.va.1 x.1.2.1.va.2.1 x.2.1.1 x.2.1.2.1 x.2.1.2.2.1 x.2.1.va.1) [fe C.zC,fe C.aG,fe Ag,fe C.aX,fe C.bF,fe fV] [F.oV Ag fV] (by intros;unfold M.I8;repeat' first|(with_reducible first|apply dw|apply uU|apply uV|apply uX|apply uY)|intro _|apply dw|rfl)
abbrev M.Tj(level:Int)(k:Int->Option R):=(idx [[D.int .i64 0],[D.int .i64 0],[D.int .i64 0],[D.int .i64 44],[D.int .i64 45],[D.int .i64 0],[D.int .i64 67],[D.int .i64 63],[D.int .i64 99],[D.int .i64 55],[D.int .i64 57]] level).bind λc=>([[D.int .i64 0],[D.int .i64 0],[D.int .i64 0],[D.int .i64 44],[D.int .i64 45],[D.int .i64 0],[D.int .i64 67],[D.int .i64 63],[D.int .i64 99],[D.int .i64 55],[D.int .i64 57]][level.toNat]?).bind λa=>(kJ .i64 a 0).bind λb=>k b
def M.rQ level:=M.Tj level some
def C.rQ:=fTa S.rQ (λx=>M.Tj x.1.1)
abbrev M.MI(op':Int)(k:Int->Option R):=bif op'==44 then(k 3) else bif op'==45 then(k 4) else bif op'==67 then(k 6) else bif op'==46 then(k 6) else bif op'==63 then(k 7) else bif op'==48 then(k 7) else bif op'==47 then(k 7) else bif op'==50 then(k 7) else bif op'==62 then(k 7) else bif op'==49 then(k 7) else bif op'==99 then(k 8) else bif op'==55 then(k 9) else bif op'==56 then(k 9) else bif op'==57 then(k 10) else bif op'==58 then(k 10) else bif op'==59 then(k 10) else bif op'==60 then(k 12) else k 0
def M.wW op':=M.MI op' some
def C.wW:=fTa S.wW (λx=>M.MI x.1.1)
abbrev M.Rl(op':Int)(k:Int×Int->Option R):=(M.wW op').bind λa=>bif a==3 then(k (3,4)) else bif a==4 then(k (4,5)) else bif a==6 then(k (7,7)) else bif a==7 then(k (8,8)) else bif a==8 then(k (8,9)) else bif a==9 then(k (9,10)) else bif a==10 then(k (10,11)) else k (13,11)
def M.o7 op':=M.Rl op' some
def C.o7:=fTa S.o7 (λx=>M.Rl x.1.1) [fe C.wW]
abbrev M.Cm(kind:Int)(k:Bool->Option R):=bif kind==3 then(k true) else bif kind==4 then(k true) else bif kind==6 then(k true) else bif kind==7 then(k true) else bif kind==8 then(k true) else bif kind==32 then(k true) else bif kind==68 then(k true) else k false
def M.mW kind:=M.Cm kind some
def C.mW:=fTa S.mW (λx=>M.Cm x.1.1)
abbrev M.MJ(level p:Int)(p1 p2 p3 p4:Bool)(c:aA)(c1:Int)(c2:Bool)(c3:aA)(k:Bool×aA×Int×Bool×aA->Option R):=bif ah c3 then((M.aK c c1 c2 c3).bind λa=>bif a.2.2.2.1 then(bif !a.2.2.2.1 then((M.mW a.1).bind λb=>bif ah a.2.2.2.2 then(k (b,a.2.1,a.2.2.1,a.2.2.2.1,a.2.2.2.2)) else none) else bif ah a.2.2.2.2 then(k (false,a.2.1,a.2.2.1,a.2.2.2.1,a.2.2.2.2)) else none) else bif level==8 then(bif !a.2.2.2.1 then((M.mW a.1).bind λe=>bif ah a.2.2.2.2 then(k (e,a.2.1,a.2.2.1,a.2.2.2.1,a.2.2.2.2)) else none) else bif ah a.2.2.2.2 then(k (false,a.2.1,a.2.2.1,a.2.2.2.1,a.2.2.2.2)) else none) else bif a.1 !=0 then(bif a.1 !=99 then((M.wW a.1).bind λd=>bif d==level then(bif a.1 !=62 then(bif ah a.2.2.2.2 then(k (true,a.2.1,a.2.2.1,a.2.2.2.1,a.2.2.2.2)) else none) else bif ah a.2.2.2.2 then(k (!p3,a.2.1,a.2.2.1,a.2.2.2.1,a.2.2.2.2)) else none) else bif ah a.2.2.2.2 then(k (false,a.2.1,a.2.2.1,a.2.2.2.1,a.2.2.2.2)) else none) else bif ah a.2.2.2.2 then(k (false,a.2.1,a.2.2.1,a.2.2.2.1,a.2.2.2.2)) else none) else bif ah a.2.2.2.2 then(k (false,a.2.1,a.2.2.1,a.2.2.2.1,a.2.2.2.2)) else none) else none
def M.kK level p p1 p2 p3 p4 c c1 c2 c3:=M.MJ level p p1 p2 p3 p4 c c1 c2 c3 some
def C.kK:=fTa S.kK (λx=>M.MJ x.1.2.1 x.1.2.2.1.1 x.1.2.2.1.2.1 x.1.2.2.1.2.2.1 x.1.2.2.1.va.1 x.1.2.2.1.va.2.1 x.2.1.1 x.2.1.2.1 x.2.1.2.2.1 x.2.1.va.1) [fe C.aK,fe C.mW,fe C.wW]
end
end Go.Proofs.YtoaeipkhadpbiaaGreatDoor
