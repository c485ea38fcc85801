import Derived.Test.YtajjpadmdmehmaaGreatDoorVm4
import Derived.Test.YtajjpadmdmehmaaGreatDoorProg
import Derived.Test.YtajjpadmdmehmaaGreatDoorPPrim
set_option linter.defProp false
namespace Go.Proofs.YtajjpadmdmehmaaGreatDoor
open Go Go.Vm
open Go.IntKind (i64)
set_option linter.unusedVariables false
set_option linter.unusedSimpArgs false
abbrev jA{R:Type}(x r:au)(n:Nat)(k:au->Option R):Option R:=bif((x.length+r.length) * n).ble 140737488355328 then(bif(x.length+r.length).ble 140737488355328 then k (x++r) else none) else none
abbrev qP(r:Int×Int×aC×au×Int):Row:=[D.int .i64 r.1,D.int .i64 r.2.1,D.str r.2.2.1,D.sl false 5 (aG r.2.2.2.1),D.int .i64 r.2.2.2.2]
abbrev wO(r:Int×Int×aC×au×Int):Int×Int×aC×au×Int:=(r.1,r.2.1,r.2.2.1,aG r.2.2.2.1,r.2.2.2.2)
abbrev ni{R:Type}(n:Nat)(x:Row)(k:Int->Int->aC->aC->au->Option R):Option R:=(bK .i64 x 0).bind λa=>(bK .i64 x 1).bind λb=>(cStr x 2).bind λc=>(cStr x 3).bind λd=>(NK n x 4).bind λe=>k a b c d e
abbrev bP{A B C D E F G:Type}(f:A->B->C->D->E->G)(p:A×B×C×D×E×F):G:=f p.1 p.2.1 p.2.2.1 p.2.2.2.1 p.2.2.2.2.1
abbrev gX(n:Int):V:=V.d (D.int .i64 n)
abbrev rO(b:Bool):V:=V.d (D.bool b)
abbrev yI(s:aC):V:=V.d (D.str s)
abbrev Dw(n:Nat)(r:au):V:=V.d (D.sl false n r)
def jI:(∀(R:Type) (x r:au) (n:Nat) (k:au->Option R),jA x r n k=bif((x.length+r.length) * n).ble 140737488355328 then(bif(x.length+r.length).ble 140737488355328 then k (x++r) else none) else none)/\(∀r,qP r=[D.int .i64 r.1,D.int .i64 r.2.1,D.str r.2.2.1,D.sl false 5 (aG r.2.2.2.1),D.int .i64 r.2.2.2.2])/\(∀r,wO r=(r.1,r.2.1,r.2.2.1,aG r.2.2.2.1,r.2.2.2.2))/\(∀(R:Type) (n:Nat) (x:Row) (k:Int->Int->aC->aC->au->Option R),ni n x k=(bK .i64 x 0).bind λa=>(bK .i64 x 1).bind λb=>(cStr x 2).bind λc=>(cStr x 3).bind λd=>(NK n x 4).bind λe=>k a b c d e):= ⟨λ_ _ _ _ _=>rfl,λ_=>rfl,λ_=>rfl,λ_ _ _ _=>rfl⟩
noncomputable section
variable {R:Type}
def kp3:=[[0],[0,12],[2],[0,3,4],[0,3,4,5],[0,3,4,5,25],[2],[3,4,5,6],[3,4,5,6,7],[3,4,5,6,7,8],[3,4,5,6,7,8,33],[3,4,5,6,7,8],[3,4,5,6,7,8,43],[2],[3,4,5,7,9],[3,4,5,7,9,47],[3,4,5,7,9],[3,4,5,7,9,59],[2],[3,4,5,61],[2],[3,4,5,10],[2]]
def kp4:=[[0],[2]]
def kp5:=[[0],[4],[4,5],[2,3]]
def kp6:=[[0,1],[0,1,6],[0,1,6,7],[0,1,5,6],[0,1,5,6,13],[4],[0,1,6],[4]]
def kp7:=[[0,1],[0,1,5],[0,1,5,8],[0,1,5],[0,1,5,6],[0,1,5,20],[4],[4]]
def kp8:=[[0],[2]]
def kp9:=[[0],[0,3],[0,3,6],[0,3,6,7],[0,3,4,6],[0,3,4,6,11],[0,3,6],[0,3,6],[2]]
def aYT:=[[0,1],[0,1,5],[0,1,5,9],[0,1,5],[0,1,5,17],[4],[4]]
def aYU:=[[0,1],[5,6],[5,14],[4],[4]]
def aYV:=[[0],[0,3],[0,3,4],[0,3,4,15],[0,3,4],[0,3,4],[2]]
def aYW:=[[0],[0,3],[0,3,6],[0,3],[0,3,4],[0,3,4,13],[2],[2]]
def aYX:=[[0,1],[5,6],[5,14],[4],[4]]
def aYY:=[[0,1],[0,1,10],[4],[0,1,12],[4],[0,1,5],[0,1,5,6],[0,1,5,6,7],[1,5,6,7,8],[4]]
def aYZ:=[[0,1,2],[6]]
def aY0:=[[0,1],[0,1,5],[0,5,6],[0,5,6,15],[0,5,6],[0,5,6,7],[0,5,6,7,20],[0,5,6,7],[0,5,6,7,8],[0,5,6,8,30],[0,5,6,8],[0,5,6,8,54],[0,5,6,8],[0,5,6,8],[0,5,6,8],[0,5,6,8,68],[0,5,6,8],[0,5,6,8],[0,5,6],[0,5,89],[5],[4]]
def aY1:=[[0,1],[4]]
def aY2:=[[1,2],[3]]
def aY3:=[[0,1],[4,5]]
def aY4:=[[0],[3],[3,12],[3],[2]]
def aY5:=[[0],[0,3],[0,3,4],[0,3,4,10],[0,3,4],[0,3,4],[0,5],[0,5,23],[2]]
def aY6:=[[1,2],[1,2,5],[1,2,5],[1,2,5,6],[1,2,5,6,13],[1,2,5,6],[1,2,5,6],[1,2,5,6],[4]]
def aY7:=[[0,1],[6,7],[4,5]]
def aY8:=[[0],[0,3],[0,3,4],[0,3,4,5],[0,3,4,5,10],[0,3,4,5],[0,3,4,5,16],[0,3,5],[0,3,4,5],[0,3,4,29],[3],[2]]
def aY9:=[[0],[0],[0,3],[0,3,34],[0,3],[3],[2]]
def aZa:=[[0,2],[0,2,6],[0,2,6,7],[2],[0,2,6,12],[2],[0,2,6,17],[2],[0,2,6,22],[0,2,6,22],[2],[0,2,6,28],[2],[0,2,34],[2,3],[2],[2,4],[2]]
def aZb:=[[0],[3],[3,4],[3,4],[3,4],[3,4],[3,4],[3,4],[3,4],[3,4],[4],[2],[2]]
def aZc:=[[0,1],[4]]
def aZd:=[[0,1],[4]]
def aZe:=[[0,1],[0,1,7,8],[0,1,7,8,9],[0,1,5,7,8],[0,1,5,7,8,16],[4],[0,1,7,8],[4]]
def aZf:=[[0,1],[6,7],[6,20],[4,5],[4,5]]
def aZg:=[[0],[0,8],[2],[0,3],[3,12,13,14],[3,12,13,14,15],[3,5,12,13,14],[3,12,13,14],[3,12,13,14],[2]]
def aZh:=[[0,1],[4]]
def aZi:=[[0],[0,3],[0,3,10],[0,3,10,11],[2],[0,3,10,22],[2],[0,3,10,30],[2],[0,3,10,38],[2],[0,3,10,47],[2],[0,3,10,59],[0,3,4],[0,3,4,5],[0,3,4,5,65],[0,3,4,5],[0,3,4,5],[2],[0,3,86],[2],[2]]
def aZj:=[[0,1],[0,1,5],[0,1,5,6],[0,1,5,6,13],[0,1,5,6],[0,1,5,6,7],[0,1,5,6,7],[0,1,5,6,7,8],[0,1,5,6,7,8,29],[0,1,5,6,7,8],[0,1,5,6,7,8],[0,1,5,6],[4]]
def aZk:=[[0,1],[6,7],[6,20],[4,5],[4,5]]
def aZl:=[[0],[0,8],[2],[0,3],[0,3,4],[0,3,4,5],[0,3,4,5,22],[0,3,4,5],[0,3,4,5],[2]]
def aZm:=[[0],[2]]
def aZn:=[[0],[2]]
def aZo:=[[0],[2]]
def aZp:=[[0],[2]]
def aZq:=[[],[0]]
def aZr:=[[0],[0,3],[2],[0,6],[2],[0,14],[2],[2]]
def aZs:=[[0,3],[0,3,14],[4,5],[0,3,6],[6],[4,5]]
def aZt:=[[0],[2]]
def aZu:=[[0,2],[2]]
def aZv:=[[1,2],[1,2,4],[1,2,4,5],[2],[1,2,4,15],[2],[1,2,4,25],[1,2,4,25],[2],[1,2,30],[2],[2]]
def aZw:=[[0],[0]]
def aZx:=[[0,2],[2]]
def aZy:=[[1],[2]]
def aZz:=[[0,1],[0,1,5],[0,1,5,6],[0,1,5,6,11],[0,1,5,6],[0,1,5,6],[4]]
def aZA:=[[0,1],[0,1,7],[4],[0,1,5],[0,1,5,14],[0,1,5,14,15],[4],[0,1,5,14,19],[4],[0,1,5,14,24],[4],[0,1,5,14,33],[4],[0,1,5,14,43],[4],[0,1,5,14,54],[4],[0,1,5,14,64],[4],[0,1,14,74],[0,1,14,74],[4],[0,1,14,87],[4],[0,1,14,97],[4],[0,1,114],[4],[4]]
def aZB:=[[0,1],[0,1,20],[4,5],[0,1,6],[0,1,6,7],[0,1,6,7,8],[0,1,6,7,8,9],[0,1,6,7,8,9,31],[0,1,6,7,8,9,10],[0,1,6,7,8,9,10],[0,1,6,7,8,9,10,11],[0,1,6,7,8,9,10,11,49],[0,1,6,7,8,9],[0,1,6,7,8,9,10,11,49,60],[0,1,6,7,8,9,11],[0,1,6,7,8,9],[0,1,6,7,8,9,10,11,49,71],[0,1,6,7,8,9,10,11,49,71],[0,1,6,7,8,9,10,75],[0,1,6,7,8,9],[0,1,6,7,8,9],[0,1,6,7,9,10],[0,1,6,7,8,9],[0,1,6,7,8,9,10,11,87],[0,1,6,7,8,9,10,11,12],[0,1,6,7,8,9],[4,5]]
def aZC:=[[0],[2]]
def aZD:=[[1,2],[1,2,5],[1,2,5,12],[1,2,5,12,13],[4],[1,2,5,12,24],[4],[1,2,5,12,35],[1,2,5,12,35],[4],[1,2,5,41],[4],[4]]
def aZE:=[[],[0]]
def aZF:=[[0,1,2],[0,1,2,7],[2,7,8],[2,7,8,9],[2,7,8,9,17],[2,7,8,9],[2,7,8,9],[2,7,8,9],[6]]
def aZG:=[[0,1,2],[6]]
def aZH:=[[],[0]]
def aZI:=[[],[0]]
def aZJ:=[[0],[0,7,8,9],[0,7,8,9,10],[0,4,7,8,9],[0,7,8,9,15],[2],[0,7,8,9],[6],[2]]
def aZK:=[[0,2,4],[0,2],[0,2,18],[0,2,6],[0,2,6],[0,2,6,47],[0,2],[0,2,6,47,56],[0,2,6],[0,2],[0,2,6,47,80],[0,2,6,83],[0,2],[0,2],[0,2],[0,2,6,47,104],[0,2],[0,2,6,47,110],[0,2],[0,2,6,124],[0,2]]
def aZL:=[[0,2],[2]]
def aZM:=[[1,2,3],[1,2,5,6],[4]]
def aZN:=[[1],[1,10],[1,10,11],[2,3],[1,10,15],[2,3],[1,17],[2,3],[1,4],[4,21,22,23],[4,21,22,23,24],[4,6,21,22,23],[4,7,8,21,22,23],[4,7,21,22,23,33],[2,3],[4,21,22,23],[4,21,22,23],[2,3]]
def aZO:=[[0],[0,3,4],[0,3,4,5],[0,3,4,5,16],[0,3,4,5],[0,3,4,5],[0,3,4,5,32],[0,3,4,5,6],[0,3,4,5,6],[0,3,4,5,6,45],[0,3,4,5,6,45,46],[0,3,4,5,6],[0,3,4,5,6,45,53],[0,3,4,5,6,53],[2],[0,3,4,5,6,7],[0,3,4,5,6,7,62],[0,3,4,5,6,7],[0,3,4,5,6,7],[2]]
def aZP:=[[0],[0,9],[2],[0,10,11,12],[0,10,11,12,13],[0,4,10,11,12],[0,4,10,11,12,18],[2],[0,4,10,11,12,20,21,22],[0,4,10,11,12,20,21,22,23],[0,4,5,6,10,11,12,20,21,22],[0,4,10,11,12,20,21,22,35],[2],[0,4,10,11,12,20,21,22],[0,10,11,12],[2]]
def aZQ:=[[0,1,4],[0,4,5],[0,4,5,6],[0,4,6,23,24,25],[0,4,6,23,24,25,26],[0,4,6,8,23,24,25],[0,4,6,23,24,25],[0,4,6,23,24,25],[4]]
def aZR:=[[0,2],[2]]
def aZS:=[[1,2],[1,2,3],[2,3,8,9,10],[2,3,8,9,10,11],[2,3,5,8,9,10],[2,3,8,9,10],[2,3,8,9,10],[2]]
def aZT:=[[1,2],[1,2,3],[2,3,8,9,10],[2,3,8,9,10,11],[2,3,4,5,8,9,10],[2,3,8,9,10],[2,3,4,5,8,9,10,20],[2,3,8,9,10],[2,3,4,5,8,9,10,34],[2,3,8,9,10],[2,3,5,8,9,10,43],[2,3,8,9,10],[2,3,8,9,10],[2]]
def aZU:=[[1],[1,3],[1,3,13,14,15],[1,3,13,14,15,16],[1,3,5,13,14,15],[1,3,13,14,15],[1,3,13,14,15],[2]]
def aZV:=[[1,2],[1,2,4],[1,2,4,5],[2],[1,2,4,12],[2],[1,2,4,16],[2],[1,2,4,19],[2],[1,2,4,22],[2],[1,2,4,25],[2],[1,2,4,29],[2],[1,2,4,33],[1,2,38],[2],[2],[1,2,4,54],[2],[1,2,4,58],[2],[1,2,4,74],[2],[1,2,4,91],[2],[1,2,4,95],[2],[1,2,113],[2],[2]]
def aZW:=[[1,2],[1,2,5],[1,5,16,17,18],[1,5,16,17,18,19],[1,5,7,16,17,18],[1,5,16,17,18],[1,5,16,17,18],[1,5,16,17,18],[4]]
def aZX:=[[0,1],[0,1,11],[4],[0,1,17],[0,1,17,18],[4],[0,1,17,29],[4],[0,1,17,44],[4],[0,1,17,55],[4],[0,1,66],[4],[0,1,82],[4],[4]]
def aZY:=[[0],[0,4],[0,4,5],[2],[0,4,11],[2],[0,17],[0,20],[2],[2]]
def aZZ:=[[0,1],[0,1,6],[0,1,6,7],[4],[0,1,18],[4],[4]]
def aZ0:=[[0,1,2,3],[0,1,2,3,9],[0,3,9,10],[0,3,9,10,21],[0,3,9,10],[0,3,9,10],[8]]
def aZ1:=[[0,1],[4]]
def aZ2:=[[0],[2]]
def aZ3:=[[0],[0,9],[2],[0,3],[0,3,13],[0,3],[0,3,21],[2],[0,4,5],[2]]
def aZ4:=[[0],[0,3],[0,3,4],[0,3,4,11],[0,3,4],[0,3,4,5],[0,3,4,5,6],[0,3,4,5,6,27],[0,3,4,5,6],[0,3,4,5,6],[0,3,4],[2]]
def aZ5:=[[0,1],[0,1],[0,1,5],[0,1,5,11],[0,1,5],[0,1,5],[4]]
def aZ6:=[[0,1,3,6],[0,1,3,9],[0,1,3,9,10],[0,1,3,9,10,18],[0,1,3,9,10,21],[0,1,3,9,10,23],[8],[0,1,3,9,10],[0,1,3,9,10],[0,1,3,9,10,11],[0,1,3,9,10,11],[0,1,3,9,10,11,12],[0,1,3,9,10,11,12,50],[0,1,3,9,10],[0,1,3,9,10,11,12,50,58],[0,1,3,9,10],[0,1,3,9,10,11,12,50,65],[0,1,3,9,10,69],[8],[0,1,3,9,10],[0,1,3,9,10,11,12,72],[8],[8]]
def aZ7:=[[0,2,3,5],[0,2,3,5,9],[0,2,3,5,9,15],[0,2,3,5,9],[0,2,3,5,9],[8]]
def aZ8:=[[0],[0,12],[2],[0,3],[0,3,16],[0,3],[0,3,24],[2],[0,3,4],[0,3,4,32],[0,3,4],[0,3,4,53],[2],[2]]
def aZ9:=[[0],[2]]
def a0a:=[[1,2],[4]]
def a0b:=[[2,3],[2,3,5],[2,3,5,6],[2,3,5,6,13],[2,3,5,6],[2,3,5,6,7],[2,3,5,6,7,27],[2,3,5,6,7],[2,3,5,6,7,37],[2,3,5,6,7],[2,3,5,6,44],[2,3,5,6],[2,3,5,6],[4]]
def a0c:=[[2,3],[2,3,5],[2,3,5,6],[2,3,5,6,7],[2,3,5,6,7,18],[2,3,5,6,7],[2,3,5,6,7,22],[2,3,5,6,7],[2,3,5,6,7],[4]]
def a0d:=[[1,2],[1,2,5],[1,2,5,12],[1,2,5,12,13],[4],[1,2,5,12,22],[4],[1,2,5,12,27],[4],[1,2,5,12,30],[4],[1,2,5,12,36],[4],[1,2,5,12,42],[4],[1,2,5,12,45],[4],[1,2,5,12,48],[2,5,53],[4],[4],[1,2,5,12,71],[4],[1,2,5,12,76],[4],[1,2,5,12,95],[4],[1,2,5,12,115],[4],[1,2,5,12,120],[4],[1,2,5,139],[4],[4]]
def a0e:=[[0,1],[0,1,5],[0,1,5,6],[0,1,5,6,13],[0,1,5,6],[0,1,5,6,7],[0,1,5,6,7],[0,1,5,6,7,8],[0,1,5,6,7,8,29],[0,1,5,6,7,8],[0,1,5,6,7,8],[0,1,5,6],[4]]
def a0f:=[[1],[1,20],[2],[1,22],[1,22,23],[2],[1,22,35],[1,22,35],[2],[1,22,42],[2],[1,22,53],[2],[59],[2],[2]]
def a0g:=[[0],[0,12],[2,3],[0,4],[0,4,16,17,18],[0,4,16,17,18,19],[0,4,5,6,16,17,18],[0,4,5,6,7,16,17,18],[0,4,5,6,7,8,16,17,18],[0,4,5,6,7,8,16,17,18,30],[0,4,5,6,7,8,16,17,18],[0,4,5,6,7,8,16,17,18,43],[2,3],[0,4,5,6,7,8,16,17,18],[0,4,16,17,18],[0,4,16,17,18],[2,3]]
def aJM:=[[0,1],[]]
def aJN:=[[0,2,3,5],[0,2,3,5,8],[0,2,3,5,8,14],[0,2,3,5,8],[0,2,3,5,8]]
def aJO:=[[0,1,4],[0,1,4,5],[0,4,5,6],[0,4,6,25,26,27],[0,4,6,25,26,27,28],[0,4,6,8,25,26,27],[0,4,6,25,26,27],[0,4,6,25,26,27],[4]]
def aJP:=[[0],[4],[2]]
def aJQ:=[[1],[1,3],[2],[1,3,5],[1,3],[1,3],[1,3,15],[1,3],[1,3,29],[1,3],[1,3,35],[1,3],[2]]
def aJR:=[[1,2,3],[1,2,3,7],[1,2,3,7,8],[1,2,3,7,8,16],[1,2,3,7,8,16,17],[1,2,3,7,8,16,17],[6],[1,2,3,7,8,16,22],[6],[1,2,3,7,8,16,38],[1,2,3,7,8,16,38],[2,8],[1,2,3,7,8,16,43],[2,7,50],[6],[2,8],[1,2,3,7,8,16,52],[2,8],[2,3,7,8,16,56],[2,3,7,8,16,56],[2,3,7,8,16,56],[2,8],[2,3,7,8,16,60],[6],[2,3,7,8,16,64],[2,8],[2,3,7,8,16,72],[2,8],[2,7,8,16,80],[2,83],[6],[2,8],[2,8,86],[6],[2,94],[6],[6]]
def aJS:=[[1],[1,3],[3,7,8,9],[3,7,8,9,10],[3,5,7,8,9],[3,7,8,9],[3,7,8,9],[2]]
def aJT:=[[1,2],[2]]
def aJU:=[[1,2],[2]]
def aJV:=[[0,1],[0,1,12],[0,1,12,13],[4],[0,1,15],[4],[0,1,5],[0,1,5,22],[0,1,5,29],[0,1,5],[0,1,5],[0,1,5,39,40,41],[0,1,5,39,40,41,42],[0,1,5,7,39,40,41],[0,1,5,7,39,40,41,49],[0,1,5,7,39,40,41],[0,1,5,39,40,41],[0,1,5,39,40,41],[0,1,5,8],[0,1,8],[0,1,8],[1,8,63,64,65],[1,8,63,64,65,66],[1,8,10,63,64,65],[1,8,10,63,64,65],[1,8,63,64,65],[1,8,63,64,65],[4]]
def aJW:=[[1,2],[1,2,3,4],[1,2,3,4,15],[1,2,3,4],[1,2,3,4,23],[1,2,3],[1,2,3,32],[2,3],[2]]
def aJX:=[[0,3,4],[0,3,4,8],[4],[4]]
def aJY:=[[0,1,4],[0,1,4,5],[1,4,5,9,10,11],[1,4,5,9,10,11,12],[1,4,5,6,7,9,10,11],[1,4,5,6,7,9,10,11,17],[1,4,5,6,7,9,10,11],[1,4,5,9,10,11],[1,4,5,9,10,11],[4]]
def aJZ:=[[2],[2]]
def aJ0:=[[1,2],[1,2,3],[1,2,3,21],[2,3],[2]]
def aJ1:=[[1,2],[1,2,3],[1,2,3,10],[1,2,3],[2]]
def aJ2:=[[0,1],[0,1,8],[0,1,8,9],[0,1,8,9],[0,1,5],[0,1,5,6],[0,1,5,6,21],[0,1,5,6],[5,6],[4],[0,1,8,36],[4],[0,1,8,43],[4],[0,1,8,53],[4],[0,1,63],[0,1,66],[4],[4]]
def aJ3:=[[0,1],[0,1,6],[4],[4]]
def aJ4:=[[1],[1,20],[2],[1,22],[1,22,23],[2],[1,22,34],[1,22,34],[2],[1,22,41],[2],[1,52],[2],[2]]
def aJ5:=[[0],[0,4],[0,4,5],[0,4,5,12],[0,4,5],[0,4,5,6],[0,4,5,6,7],[0,4,5,6,7,24],[0,4,5,6,7],[0,4,5,6,7,41],[2,3],[0,4,5,6,7],[0,4,5],[2,3]]
def aJ6:=[[0],[0,8],[2],[0,3,4],[2]]
def aJ7:=[[0],[0,9],[2],[0,3],[0,3,4],[0,3,4,14],[0,3,4],[0,3,4,5],[0,3,4,5,6],[0,3,4,5,6,24],[0,3,4,5,6],[0,3,4,5,6],[0,3,4],[2]]
def aJ8:=[[1],[1,3,4],[1,3,4,5],[2]]
def aJ9:=[[1,2,3],[1,2,3,7],[1,2,3,7,8],[1,2,3,7,8,18],[1,2,3,7,8,18,19],[1,2,3,7,8,18,19],[6],[1,2,3,7,8,18,24],[6],[1,2,3,7,8,18,36],[6],[1,2,3,7,8,18,51],[6],[1,2,3,7,8,18,66],[6],[1,2,3,7,8,18,81],[6],[1,2,3,7,8,18,100],[1,2,3,7,8,18,100],[1,2,3,7,8,18,100],[6],[1,2,3,7,8,18,105],[6],[1,2,3,7,8,18,109],[6],[1,2,7,8,18,145],[6],[2,7,8,18,160],[6],[2,174],[6],[6]]
def aKa:=[[0],[0,3],[0,3,4],[0,3,4,9],[0,3,4],[0,3,4],[2]]
def aKb:=[[1,2],[1,2,5],[1,2,5,6],[1,2,5,6,11],[1,2,5,6],[1,2,5,6],[4]]
def aKc:=[[1,3,5],[1,3,5,13],[6],[6]]
def aKd:=[[0],[0]]
def aKe:=[[2,3],[2,3,5],[2,3,5,10],[2,3,5],[2,3,6],[2,3,6,7],[2,3,6,7,18],[2,3,6,7],[2,3,6,7,28],[2,3,6],[2,3,6,39],[6],[4]]
def aKf:=[[1,2,3],[1,2,3,9],[6],[6]]
def aKg:=[[1,3,5],[1,3,5,7],[1,3,5,7,8],[1,3,5,7,8,13],[1,3,5,7,8],[1,3,5,7,8,17],[1,3,5,7,8],[1,3,5,7,8],[6]]
def aKh:=[[2,3],[2,3,5],[2,3,5,26],[4],[4]]
def aKi:=[[2,3],[2,3,5],[2,3,5,16],[2,3,5],[4]]
def aKj:=[[0,1],[4]]
def aKk:=[[0,1],[0,1,11],[0,1,11,12],[4],[0,1,14],[4],[0,1,18],[0,1],[0,5,6],[0,6,34],[0,6],[0,7],[0,7,40],[4],[0,7,42],[0,7,42,43],[0,7,42,43],[0,7,42,43],[0,7,42,43],[0,7,43],[0,7,49],[4],[0,7,58],[4],[0,7,67],[4],[0,7,76],[4],[0,7,85],[4],[0,7,8],[0,7,8,96],[0,7,8],[0,7,8,104],[0,7,8],[0,7,8,9],[0,7,8,9],[7,8,9],[7,8,9,113],[7,8,9,10],[7,8,9],[4]]
def aKl:=[[0],[0,3],[3,6,7,8],[3,6,7,8,9],[3,5,6,7,8],[3,6,7,8,14],[3,6,7,8],[3,6,7,8],[2]]
def aKm:=[[0,2,3,9,30],[0,2,3,9,13,30],[2,3],[0,2,3,4,9,30],[0,2,3,4,9,17,18,19,30],[0,2,3,4,9,17,18,19,20,30],[0,2,3,4,5,6,9,17,18,19,30],[0,2,3,4,5,6,7,9,17,18,19,30],[0,2,3,4,5,7,9,17,18,19,28,30],[0,2,3,4,5,7,9,17,18,19,28,30],[0,2,3,4,5,7,9,17,18,19,28,30,37],[2,3],[0,2,3,4,5,7,9,17,18,19,28,30],[0,2,3,4,9,17,18,19,30],[0,2,3,4,9,17,18,19,30],[2,3]]
def aKn:=[[0],[2]]
def aKo:=[[1,2],[1,2,4],[1,2,4,5],[2],[1,2,4,14],[1,2,4,14],[1,2,4,14],[2],[1,2,4,31],[1,2,4,31],[2],[1,2,4,41],[2],[1,2,4,50],[2],[1,2,4,59],[2],[1,2,4,68],[1,2,4,68],[2],[1,2,4,78],[2],[1,2,4,97],[2],[1,2,107],[2],[2]]
def aKp:=[[0],[2]]
def aKq:=[[1,2],[1,2,3],[1,2,3,15],[1,2,3,15,16],[2,3],[1,2,3,15,20],[1,2,3],[1,2,3],[1,2,3],[2,3,42],[2,3],[1,2,3,15,51],[1,2,3,15,51],[2,3],[1,2,3,15,55],[2,3],[1,2,3,15,62],[2,3],[1,2,3,15,66],[1,2,3,15,66],[2,3],[1,2,3,15,71],[2,3],[1,2,3,15,75],[2,3],[1,2,3,15,87],[2,3],[1,2,3,90],[2,3],[2]]
def aKr:=[[1,2],[1,2,3],[1,2,3,15],[2,3],[1,2,3,15,17],[1,2,3,15,17],[2,3],[1,2,3,15,22],[1,2,3],[2,3,31],[2,3],[2,3],[1,2,3,15,36],[1,2,3],[2,3,50],[2,3],[2,3],[1,2,3,55],[2,3],[2]]
def aKs:=[[0],[2]]
def aKt:=[[0],[2]]
def aKu:=[[2,3,4],[2,3,4,8],[4],[4]]
def aKv:=[[0],[0]]
def aKw:=[[2],[2]]
def aKx:=[[1,2],[1,2,5],[2],[2]]
def aKy:=[[0],[0]]
def aKz:=[[1,2],[2]]
def aKA:=[[0],[0,3],[0,3,7],[0,3],[0,3,13],[2],[2]]
def aKB:=[[0],[0,4],[0,4,5],[0,4,5,12],[0,4,5],[0,4,5,6],[0,4,5,6,7],[0,4,5,6,7,24],[0,4,5,6,7],[0,4,5,6,7,41],[2,3],[0,4,5,6,7],[0,4,5],[2,3]]
def aKC:=[[1],[1,6],[1,6,7],[1,6,7],[2,3],[1,6,10],[1,6,10],[1,6,10],[2,3],[1,6,14],[1,6,14],[1,6,14],[1,6,14],[1,6,14],[1,6,14],[1,6,14],[1,6,14],[2,3],[1,6,23],[1,6,23],[1,6,23],[1,6,23],[2,3],[1,6,28],[2,3],[1,6,30],[1,4],[4,36],[2,3],[2,3],[1,6,40],[1,6,40],[2,3],[1,6,43],[2,3],[1,6,45],[2,3],[1,6,47],[1,6,47],[2,3],[1,6,53],[2,3],[1,6,63],[2,3],[73],[2,3],[2,3]]
def aKD:=[[1],[1,4],[1,4,5],[1,4,5],[2],[1,4,16],[2],[1,4,31],[2],[1,4,36],[2],[1,4,41],[2],[1,4,46],[2],[1,51],[2],[2]]
def aKE:=[[1],[1,4],[1,4,5],[1,4,5],[1,4,5],[1,4,5],[1,4,5],[1,4,5],[2],[1,4,20],[2],[1,4,31],[2],[1,4,42],[2],[1,4,53],[2],[1,4,64],[2],[1,4,74],[2],[1,84],[2],[2]]
def aKF:=[[0],[2]]
def aKG:=[[0],[2]]
def aKH:=[[0],[2]]
def aKI:=[[2,3],[2,3,5],[4],[2,3,14],[4],[2,3,22],[4],[2,3,35],[4],[2,3,53],[4],[4]]
def aKJ:=[[1,3,5],[3,5,7],[3,5,7,8],[3,5,7,8,19],[6],[3,5,7,24],[3,5,7,24,25],[6],[3,5,7,24,30],[3,5,7,24,30],[6],[3,5,7,24,36],[6],[3,5,7,24,50],[6],[3,5,7,24,64],[6],[3,5,7,24,78],[6],[3,5,7,24,103],[3,5,7,9],[3,5,7,9,122],[3,5,7,9],[6],[3,5,7,24,138],[6],[3,5,7,171],[3,5,7,176],[6],[6],[6]]
def aKK:=[[1,2],[1,2,11],[4],[4]]
def aKL:=[[],[0]]
def aKM:=[[0,1],[4]]
def aKN:=[[0],[2]]
def aKO:=[[1],[1,5],[2],[1,7],[1,7,8],[2],[1,7,20],[2],[1,7,29],[2],[1,7,38],[2],[1,7,47],[1,7,47],[2],[1,53],[2],[2]]
def aKP:=[[0],[2]]
def aKQ:=[[0],[2]]
def aKR:=[[0],[3],[3,4],[2],[3,6],[2],[3,8],[3,8],[2],[3,11],[3,11],[3,11],[3,11],[3,11],[3,11],[2],[3,18],[2],[3,20],[3,20],[2],[3,23],[3,23],[3,23],[2],[27],[2],[2]]
def aKS:=[[0],[2]]
def aKT:=[[0,1],[4]]
def aKU:=[[2,3],[2,3,5],[2,3,5,8],[4],[2,3,5,16],[4],[2,3,5,24],[4],[2,3,5,37],[4],[4]]
def aKV:=[[1,2],[1,2,3],[2,3,16,17],[2,3,16,17,18],[2,3,4,16,17],[2,3,16,17],[2,3,16,17],[2]]
def aKW:=[[2,3,4],[2,3,4,8],[2,3,4,8,9],[2,3,4,8,9],[2,3,4,8,9],[2,3,4,8,9],[4],[2,3,4,8,17],[4],[2,3,4,8,29],[2,3,4,8,29],[4],[2,3,4,8,42],[4],[2,3,4,8,53],[4],[2,3,4,8,64],[4],[2,3,4,8,72],[4],[2,3,4,8,77],[4],[2,3,4,92],[2,3,4,97],[4],[4],[2,4,5,6],[2,4,5,6,123],[4],[2,4,5,6,137],[4],[4]]
def aKX:=[[0],[3],[3,4],[3,4],[3,4],[3,4],[3,4],[3,4],[3,4],[3,4],[3,4],[3,4],[3,4],[3,4],[3,4],[3,4],[3,4],[3,4],[4],[2],[2]]
def aKY:=[[0],[2]]
def aKZ:=[[0],[2]]
def aK1:=[[1],[1,3],[1,3,8],[1,3,8,9],[2],[1,3,8,24],[2],[1,3,8,35],[2],[1,3,8,42],[2],[1,8,49],[1,8,49],[2],[1,55],[2],[2]]
def aK2:=[[0],[2]]
def aK3:=[[1],[2]]
def aK4:=[[1],[1,4],[1,4,5],[2],[1,4,7],[2],[1,4,9],[2],[1,4,11],[2],[4,16],[2],[4,18],[4,18],[2],[4,21],[2],[4,23],[4,23],[4,23],[4,23],[4,23],[4,23],[23],[2],[2]]
def aK5:=[[1,2],[1,2,4],[1,2,4,5],[2],[1,2,4,10],[2],[1,2,4,15],[2],[1,2,20],[2],[2]]
def aK6:=[[2,3,4,5],[8]]
def aK7:=[[1,2],[4]]
def aK8:=[[1,3,5,6],[1,3,5,6,26],[6],[1,3,6,7],[1,3,6,7,40],[6],[1,3,6,7,40,42],[1,6,7],[6,7,46],[6,7],[1,3,6,7,40,48],[1,6,7],[6,7,52],[6,7],[1,3,6,7,40,54],[6,7,59],[6],[6,7],[1,3,6,7,40,62],[1,3,6,7,8,9],[1,3,6,7,9],[3,6,7,9,73],[3,6,7],[6,7],[6,7,40,80],[6,7],[6,7],[6,7,40,84],[6,7,40,84],[6,7],[6,7],[6,7,89],[6,7],[6,7],[6,7],[6]]
def aK9:=[[2,3],[2,3,31],[4],[2,3,5],[2,3,5,6],[2,3,5,44],[4],[2,3,51],[4],[2,3,63],[4],[2,8],[4]]
def aLa:=[[0,2],[2]]
def aLb:=[[1,3,5],[1,3,5,19],[6],[1,3,5,43],[6],[7],[6]]
def aLc:=[[3,4,5],[3,4,5,7],[4,7,8],[4,7,8,28],[4,7,8,28,29],[6],[4,7,8,28,36],[4,7,8,36],[6],[6]]
def aLd:=[[0,1],[4]]
def aLe:=[[0],[0,5,6],[0,5,6,7],[0,3,5,6],[0,5,6,14],[2],[0,5,6],[2]]
def aLf:=[[0],[3],[3,8],[2],[2]]
def aLg:=[[0,1],[0,1,17],[4],[0,1,5],[0,5,6],[0,5,6,27],[0,5,6,7],[0,6,7],[0,5,6],[0,5,40],[4],[0,5,8],[0,5,49],[0,5,9],[0,5,9,10],[0,5,9,60],[0,5,9],[5,9,11],[5,11,68],[4],[4]]
def aLh:=[[0,1],[4]]
def aLi:=[[0,1],[1,5],[5,12],[4],[4]]
def aLj:=[[0],[0,3],[2],[0,6],[2],[0,13],[2],[2]]
def aLk:=[[0,1],[0,1,7,8],[0,1,7,8,9],[0,1,5,7,8],[0,1,5,7,8,16],[4],[0,1,7,8],[4]]
def aLl:=[[1],[1,4],[1,4,5],[2],[1,4,7],[2],[1,4,9],[2],[1,4,11],[2],[4,16],[2],[4,18],[4,18],[2],[4,21],[2],[4,23],[4,23],[4,23],[4,23],[4,23],[4,23],[23],[2],[2]]
def aLm:=[[1],[2]]
def aLn:=[[1,3,5,6],[1,3,5,6,7],[1,3,6,7,8],[1,3,6,8,17],[6],[6]]
def aLo:=[[2,3,4],[2,3,4,5],[2,3,4,5],[2,3,4,5,6],[2,3,4,6,21],[2,3,4,6],[4]]
def aLp:=[[0],[0,3],[0,3,7],[0,3],[0,3,15],[2],[2]]
def aLq:=[[0],[3],[3,8],[2],[2]]
def aLr:=[[0,1],[0,1,9],[4],[0,1,5],[0,1,5,16],[0,1,5,6],[0,1,6,29],[4],[0,1,5],[0,5,33],[4],[0,5,43],[0,5,7],[0,5,7,55],[0,5,7],[0,5,7,62],[4],[4]]
def aLs:=[[0,1],[4]]
def aLt:=[[0,1],[1,5],[5,12],[4],[4]]
def aLu:=[[0,1],[0,1,5],[0,1,5,9],[0,1,5],[0,1,5,17],[4],[4]]
def aLv:=[[0],[3],[3,4],[2],[3,6],[2],[3,8],[3,8],[2],[3,11],[3,11],[3,11],[3,11],[3,11],[3,11],[2],[3,18],[2],[3,20],[3,20],[2],[3,23],[3,23],[3,23],[2],[27],[2],[2]]
def aLw:=[[0],[5],[5,6],[2,3],[5,8],[2,3],[5,10],[2,3],[5,12],[2,3],[5,14],[2,3],[5,16],[2,3],[18],[2,3],[2,3]]
def aLx:=[[0],[2]]
def aLy:=[[0,1],[0,1,6],[0,1,6,7],[0,1,6,7,8],[0,1,6,7,8,9],[0,1,6,7,8,9,15],[0,1,6,7,8,9],[0,1,6,7,8,9,10],[0,1,6,7,8,9,10,56],[0,1,6,8,9,10],[0,1,6,7,8,9],[4,5]]
def aLz:=[[1,3,5],[3,5,7],[3,5,7,8],[3,5,7,8,20],[6],[3,5,7,24],[3,5,7,24,25],[6],[3,5,7,24,34],[6],[3,5,7,24,43],[6],[3,5,7,24,52],[6],[3,5,7,24,65],[6],[3,5,7,24,78],[3,5,7,9],[6],[3,5,7,24,102],[6],[3,5,7,24,116],[6],[3,5,7,132],[3,7,10],[3,7,10,146],[7,10],[7,10],[6],[6]]
def aLA:=[[0],[2]]
def aLB:=[[0],[2]]
def aLC:=[[0,1],[0,1,8],[0,1],[4]]
def aLD:=[[0,1],[0,1,10],[4],[4]]
def aLE:=[[0,1,2],[0,1,2,12],[6],[0,2,7],[0,2,7,24],[0,2,7],[0,2,7,27],[6],[0,2,7,36],[0,2,7],[6]]
def aLF:=[[0],[2]]
def aLG:=[[0],[2]]
def aLH:=[[1,3,5,6],[1,3,5,6,24],[6],[1,3,5,6,39],[6],[1,3,5,6,7],[1,3,5,6,7,53],[6,7],[1,3,5,6,7,53,75],[1,3,5,6,7,53,75],[1,3,5,6,7,53,75],[1,3,5,6,7,75],[6]]
def aLI:=[[1,2],[4]]
def aLJ:=[[0,2,5,7],[0,2,7,8,9],[0,2,8,9,10],[0,9,10,24],[],[]]
def aLK:=[[2,3],[2,3,31],[4],[2,3,5,6],[2,3,6,44],[4],[2,3,51],[4],[2,3,63],[4],[2,3,72],[4],[2,8],[4]]
def aLL:=[[0,2],[2]]
def aLM:=[[0],[2]]
def aLN:=[[0,1],[0,1,8],[0,1],[4]]
def aLO:=[[0,1],[0,1,12],[4],[4]]
def aLP:=[[0,1,2],[0,1,2,12],[6],[0,2,7],[0,2,7,18],[0,2,7],[0,2,7,24],[0,2,7,24,25],[6],[0,2,7,24,30],[6],[0,2,7,32],[0,2,7],[0,2,7,39],[6],[6]]
def aLQ:=[[0],[2]]
def aLR:=[[2,3,4,5],[3,9],[8]]
def aLS:=[[1,2],[4]]
def aLT:=[[1,2],[1,2,5],[1,2,5,6],[1,2,5,6,11],[1,2,5,6],[1,2,5,6,15],[1,2,5,6],[1,2,5,6],[4]]
def aLU:=[[3,4,5],[3,4,5,7],[3,4,5,7,19],[3,4,5,7],[3,4,5,7],[3,4,5,7],[6],[3,4,5,7,52],[3,4,5,7],[6]]
def aLV:=[[0],[2]]
def aLW:=[[1,2],[1,2,6],[1,2,6,7],[10],[4],[4],[1,2,6,11],[14],[4],[4],[1,2,6,15],[4],[1,2,6,17],[4],[1,2,19],[4],[4]]
def aLX:=[[0,4,5],[0,4,5,6],[0,4,5,6,13],[0,6],[0,4,5,6,13,18],[0,6],[0,4,5,6,13,26],[0,6],[0,4,5,6,13,34],[0,6],[0,4,5,6,13,42],[0,6],[0,4,5,6,13,50],[0,4,5,6],[0,6],[0,4,5,6,13,62],[0,4,5,6],[0,6],[0,4,5,6,74],[0,4,5,6],[0,6],[]]
def aLY:=[[0,4,5],[0,4,5,6],[0,4,5,6,7],[0,4,5,6,7,17],[0,4,5,7],[0,4,5,27],[],[0,4],[0],[]]
def aLZ:=[[0,1],[0,1,15],[4,5],[0,1,6,7],[0,1,6,7,16,17],[0,1,6,7,16,17,18],[0,1,6,7,8,9,16,17],[0,1,6,7,8,9,16,17,31],[0,1,6,7,16,17],[0,1,6,7,16,17],[4,5]]
def aL0:=[[0,1],[0,1],[1,8],[1,5,6],[1,8,9],[1,5,6],[1,8,11],[1,5,6],[1,8,13],[1,5,6],[1,8,15],[1,5,6],[1,8,17],[1,5,6],[1,8,19],[1,5,6],[1,21],[1,5,6],[5,6,24],[4],[4]]
def aL1:=[[0,2,3,6,9],[0,3,6,9],[0,3,6,9,18,19],[0,3,6,9,18,19,20],[0,3,6,9,10,18,19],[0,3,6,9,10,18,19,23],[0,3,6,9,10,18,19],[0,3,6,9,18,19],[0,3,6,9,18,19],[]]
def aL2:=[[0,4,5],[0,4,5,7],[0,4,5],[0,4,5,14],[0,4,5],[],[0,4,5,7,25],[0,4,5,7,25],[0,4,5],[],[0,4,5,7,38],[0,4,5],[],[0,4,5,7,48],[0,4],[],[0,4,5,7,60],[0,4,5,65],[0,4],[0,4],[],[0,4,5,81],[0,4,5],[0,4,5],[0,4,5],[0,4,5],[]]
def aL3:List (List (List Nat)):=[[],[],[],kp3,kp4,kp5,kp6,kp7,kp8,kp9,aYT,aYU,aYV,aYW,aYX,aYY,aYZ,aY0,aY1,aY2,aY3,aY4,aY5,aY6,aY7,aY8,aY9,aZa,aZb,aZc,aZd,aZe,aZf,aZg,aZh,aZi,aZj,aZk,aZl,aZm,aZn,aZo,aZp,aZq,aZr,aZs,aZt,aZu,aZv,aZw,aZx,aZy,[],aZz,aZA,aZB,aZC,aZD,aZE,aZF,aZG,aZH,aZI,aZJ,aZK,aZL,aZM,aZN,aZO,aZP,aZQ,aZR,aZS,aZT,aZU,aZV,aZW,[],[],[],aZX,aZY,aZZ,aZ0,aZ1,aZ2,aZ3,aZ4,aZ5,aZ6,aZ7,aZ8,aZ9,a0a,a0b,a0c,a0d,a0e,a0f,a0g,aJM,aJN,aJO,aJP,aJQ,aJR,aJS,aJT,aJU,aJV,aJW,aJX,aJY,aJZ,aJ0,aJ1,[],[],[],[],aJ2,aJ3,aJ4,aJ5,aJ6,aJ7,aJ8,aJ9,aKa,aKb,aKc,aKd,aKe,aKf,aKg,aKh,aKi,aKj,aKk,aKl,aKm,aKn,aKo,aKp,aKq,aKr,aKs,aKt,aKu,aKv,[],[],[],aKw,aKx,aKy,aKz,[],[],[],[],[],aKA,aKB,aKC,aKD,aKE,aKF,aKG,aKH,aKI,aKJ,aKK,aKL,[],aKM,[],[],aKN,aKO,aKP,aKQ,aKR,aKS,aKT,aKU,aKV,aKW,[],[],[],[],aKX,aKY,aKZ,aK1,aK2,aK3,aK4,aK5,aK6,aK7,aK8,aK9,aLa,aLb,aLc,[],[],aLd,[],aLe,aLf,aLg,aLh,aLi,aLj,aLk,aLl,aLm,aLn,aLo,[],[],aLp,aLq,aLr,aLs,aLt,aLu,aLv,aLw,aLx,aLy,aLz,aLA,aLB,aLC,aLD,aLE,aLF,aLG,aLH,aLI,aLJ,aLK,aLL,aLM,aLN,aLO,aLP,aLQ,aLR,aLS,aLT,aLU,aLV,aLW,aLX,aLY,aLZ,aL0,[],aL1,aL2,[],[],[],[],[],[],[],[],[],[],[],[],[],[],[],[],[],[],[],[],[],[],[],[],[],[],[],[]]
def aL4(f:Nat):List Nat:=bif Nat.beq f 50 then[0] else bif Nat.beq f 76 then[1] else bif Nat.beq f 88 then[0] else bif Nat.beq f 90 then[0] else[]
def a0h(f:Nat):List Nat:=([(33,[11,20,21,26]),(48,[7,12,14,17,22,24,29,35,44,46,48]),(72,[15,17,21,23,24,25,26,28]),(73,[17,29,31,40,47,49,54]),(75,[11,15,18,21,24,28,32,42,47,50,51,53,57,60,65,66,71,73,76,81,82,87,88,90,94,105,110,112,116,119]),(108,[5]),(110,[9,25,27,38,48,52]),(111,[10,12,17,19]),(112,[19,20,28,33,34,35]),(114,[4,9,10,15,17,23,28,30]),(115,[4,16,17,19,24,25,30,31,36,38]),(148,[11,12,15,16,18]),(154,[6,7,9,11]),(187,[16,22,25,26,28,35,38,39,41,47,50,52,57,61,63,66,69,71,76,81,82,85,86,89,91,98,101,105,107,110,114,116,119,122,133,136,156,157,160,161,162,169,172]),(220,[24,31]),(221,[25,28,30])]:List (Nat×List Nat)).foldr (λx r=>bif Nat.beq f x.1 then x.2 else r) []
def a0i(f d:Nat):List Nat:=bif mem? d (a0h f) then[] else List.range 200
def aL5(f:Nat):List Nat:=bif Nat.beq f 91 then[0,2] else bif Nat.beq f 213 then[0,1] else[]
def aL6(f:Nat):List Nat:=bif Nat.beq f 68 then[0] else[]
def aGt(f:Nat):List Nat:=bif Nat.beq f 21 then[17] else bif Nat.beq f 55 then[42] else bif Nat.beq f 64 then[42] else bif Nat.beq f 68 then[43] else bif Nat.beq f 89 then[43] else[]
noncomputable def UN:Adv:=⟨λf r=>(aL3.getD f []).getD r [],λf=>aL4 f,a0i,λt=>(aL5 t),λf d=>mem? d (aGt f),λf=>aL6 f⟩
theorem zaO:(!true)=false:=rfl
theorem zaP:∀n:Nat,n≤n:=Nat.le_refl
theorem zaQ:∀{A B:Type}{l:List A}(f:A->B),(l.map f).length=l.length:=fun f=>List.length_map f
abbrev zaw:=Int×Int×aC×au×Int
abbrev zax:=Int×au×Int×Int×au
abbrev zay:=au×Int×au×Int×Int×aC
abbrev zaz:=au×Int×au×Int×Int×aC×au
abbrev zaA:=au×au×Int×Int×Int×Int×aC×Int×Int×Int×aC×Int
abbrev zaB:=au×au×Int×Int×Int×Int×aC×Int×Int×Int×aC×Int×au
abbrev zaC:=au×au×Int×Int×Int×Int×aC×aC×Int×Int×aC×aC
abbrev zaD:=au×au×Int×Int×Int×Int×aC×aC×Int×Int×aC×aC×au
abbrev zaE:=Int×Int×Int×Int×aC×aC×Int×Int×aC×aC
abbrev zaF:=Int×Int×Int×Int×aC×aC×Int×Int×aC×aC×au
abbrev zaG:=au×Int×Int×au×Int×Int×aC
abbrev zaH:=au×Int×Int×au×Int×Int×aC×au
abbrev zaI:=au×au×Bool
abbrev zaJ:=Bool×au×Int×Int×au
abbrev zaK:=au×Int×Int×au
abbrev zaL:=au×au×Int×Int
abbrev zaM:=Int×Bool×Bool×Bool×Bool
abbrev zaN:=Int×Int×aC×aC×au
abbrev zaa:=au->Bool->Int->Option (au)
abbrev zab:=au->Bool->Int->Int->Bool->Bool->Bool->Bool->Option (au)
abbrev zac:=Int->au->Int->Int->Option zaL
abbrev zad:=Int->Int->aC->aC->au->Option zaw
abbrev zae:=Int->Int->aC->aC->au->Int->Bool->Bool->Bool->Bool->Option zaw
abbrev zaf:=Int->Int->aC->aC->au->Int->Bool->Bool->Bool->Bool->au->au->Bool->Option zaI
abbrev zag:=au->Bool->Int->Int->aC->aC->au->Option (au)
abbrev zah:=au->Bool->au->Option (au)
abbrev zai:=Int->Int->aC->aC->au->Int->Int->Bool->Bool->Bool->Bool->au->au->Bool->Option zaI
abbrev zaj:=Int->Int->aC->aC->au->Int->Int->Bool->Bool->Bool->Bool->Option zaw
abbrev zak:=au->Bool->Int->Int->aC->aC->au->Int->Bool->Bool->Bool->Bool->Option (au)
abbrev zal:=Int->Int->aC->aC->au->Int->Int->Int->Bool->Bool->Bool->Bool->au->au->Bool->Option zaI
abbrev zam:=au->Bool->au->Int->Bool->Bool->Bool->Bool->Option (au)
abbrev zan:=au->Int->Option zaw
abbrev zao:=Int->Int->aC->au->Int->Option (aC×Bool)
abbrev zap:=au->Int->Option zaN
abbrev zaq:=Int->Int->aC->aC->au->Option (Int)
abbrev zar:=Int->Int->aC->au->Int->au->Option (au)
abbrev zas:=Int->Int->Int->au->Int->Int->Option zaL
abbrev zat:=au->Option zaw
abbrev zau:=au->Bool->Int->aC->Int->au->Int->Option (au)
abbrev zav:=au->Bool->Int->Int->aC->aC->au->aC->aC->Option (au)
noncomputable def X0:Ctx:=⟨Tryz.prog,UN,λf=>bif Nat.beq f 140 then some Prim.kZ else bif Nat.beq f 34 then some Prim.strings_Split else bif Nat.beq f 138 then some Prim.strings_Repeat else bif Nat.beq f 109 then some Prim.strings_Join else bif Nat.beq f 137 then some Prim.strings_Contains else none,λg=>bif Nat.beq g 3 then some PK else bif Nat.beq g 4 then some FV else bif Nat.beq g 5 then some VX else none,λg=>bif Nat.beq g 0 then true else false⟩
def fTa(S:dO)(C:∀{R:Type},S.α->(S.ρ->Option R)->Option R)(K:List (FE X0):=[])(L:List (LE X0 S.f):=[])(hn:∀{R:Type} x (k:S.ρ->Option R),C x k=(C x some).bind k:=by intros;exact zbo)
  (hE:∀{R:Type} x (k:List Row->List Cell->Option R),bodyC X0 (kt K) (lt L) S.f (S.p.enc x.1) (S.q.enc x.2) k=C x (λr=>k (S.enc r).1 (S.enc r).2):=by intros;kernel_rfl)
  (hL:loops (codeOf X0.P S.f)=L.map LE.c:=by kernel_rfl) (hd:apart (L.map LE.n)=true:=by kernel_rfl) (hp:X0.Zw S.f=none:=by kernel_rfl):S.ok X0 λx=>C x some:=fnS C K L hn hE hL hd hp (λ_=>rfl)
abbrev rc:=λn a=>sg n a [] (ρ:=Bool) λr=>([[D.bool r]],[])
abbrev re:=λn a=>sg n a [] (ρ:=au×Bool) λr=>([[D.sl true 1 r.1],[D.bool r.2]],[])
abbrev rf:=λn a=>sg n a [] (ρ:=Int) λr=>([[D.int .i64 r]],[])
abbrev rg:=λn a=>sg n a [] (ρ:=Int×Int) λr=>([[D.int .i64 r.1],[D.int .i64 r.2]],[])
abbrev rh:=λn a=>sg n a [] (ρ:=au) λr=>([[D.sl true 1 r]],[])
abbrev rj:=λn a=>sg n a [] (ρ:=aC) λr=>([[D.str r]],[])
abbrev rk:=λn a=>sg n a [] (ρ:=au) λr=>([[D.sl true 4 r]],[])
abbrev rl:=λn a=>sg n a [] (ρ:=Int×Bool×Bool×Bool×Bool) λr=>([[D.int .i64 r.1,D.bool r.2.1,D.bool r.2.2.1,D.bool r.2.2.2.1,D.bool r.2.2.2.2]],[])
abbrev rm:=λn a=>sg n a [] (ρ:=Int×aC×Int) λr=>([[D.int .i64 r.1,D.str r.2.1,D.int .i64 r.2.2]],[])
abbrev rn:=λn a=>sg n a [] (ρ:=au) λr=>([[D.sl true 3 r]],[])
abbrev rp:=λn a=>sg n a [] (ρ:=aC×Bool) λr=>([[D.str r.1],[D.bool r.2]],[])
abbrev rq:=λn a=>sg n a [] (ρ:=Bool×Bool×Bool×Int×Int) λr=>([[D.bool r.1,D.bool r.2.1,D.bool r.2.2.1,D.int .i64 r.2.2.2.1,D.int .i64 r.2.2.2.2]],[])
abbrev rr:=λn a=>sg n a [] (ρ:=Int×Int×aC×aC×au) λr=>([[D.int .i64 r.1,D.int .i64 r.2.1,D.str r.2.2.1,D.str r.2.2.2.1,D.sl true 5 r.2.2.2.2]],[])
abbrev rt:=λn a=>sg n a [] (ρ:=Int×Int×aC×au×Int) λr=>([[D.int .i64 r.1,D.int .i64 r.2.1,D.str r.2.2.1,D.sl true 5 r.2.2.2.1,D.int .i64 r.2.2.2.2]],[])
abbrev rv:=λn a=>sg n a [] (ρ:=Int×Int×aC×au×Int) λr=>([[D.int .i64 r.1,D.int .i64 r.2.1,D.str r.2.2.1,D.sl false 5 r.2.2.2.1,D.int .i64 r.2.2.2.2]],[])
abbrev _root_.Prod.va{A B C D:Type _}(x:A×B×C×D):D:=x.2.2.2
abbrev _root_.Prod.wa{A B C D E F G H I:Type _}(x:A×B×C×D×E×F×G×H×I):I:=x.2.2.2.2.2.2.2.2
abbrev zaR:=λn a=>sg n a [cB 48 [pL false 1,pI,pI]] (ρ:=Int×au×Int×Int) λr=>([[D.int .i64 r.1]],[Cell.box 48 [V.d (D.sl false 1 r.2.1),V.d (D.int .i64 r.2.2.1),V.d (D.int .i64 r.2.2.2)]])
abbrev zaS:=λn a=>sg n a [cB 48 [pL false 1,pI,pI]] (ρ:=aC×au×Int×Int) λr=>([[D.str r.1]],[Cell.box 48 [V.d (D.sl false 1 r.2.1),V.d (D.int .i64 r.2.2.1),V.d (D.int .i64 r.2.2.2)]])
abbrev zaT:=λn a=>sg n a [cB 48 [pL false 1,pI,pI]] (ρ:=au×au×Int×Int) λr=>([[D.sl true 5 r.1]],[Cell.box 48 [V.d (D.sl false 1 r.2.1),V.d (D.int .i64 r.2.2.1),V.d (D.int .i64 r.2.2.2)]])
abbrev zaU:=λn a=>sg n a [] (ρ:=au) λr=>([[D.sl true 5 r]],[])
abbrev zaV:=λn a=>sg n a [cB 213 [pL true 3,pL true 2,pB]] (ρ:=au×au×Bool) λr=>([],[Cell.box 213 [V.d (D.sl true 3 r.1),V.d (D.sl true 2 r.2.1),V.d (D.bool r.2.2)]])
abbrev zaW:=λn a=>sg n a [cB 91 [pL true 1,pI,pL true 7]] (ρ:=au×Int×au) λr=>([],[Cell.box 91 [V.d (D.sl true 1 r.1),V.d (D.int .i64 r.2.1),V.d (D.sl true 7 r.2.2)]])
abbrev zaX:=λn a=>sg n a [cB 3 [pI]] (ρ:=Bool×Int) λr=>([[D.bool r.1]],[Cell.box 3 [V.d (D.int .i64 r.2)]])
abbrev zaY:=[pI,pI,pS,pS,pL false 1]
abbrev zaZ:=[pI,pI,pS,pS,pL false 5]
abbrev zba:=(cA false true 0 1)
abbrev zbb:=[pI,pB,pB,pB,pB]
abbrev zbc:=(cA false false 0 5)
abbrev zbd:=[pI,pI,pS,pL false 5,pI]
abbrev zbe:=[pL false 1,pI,pI]
abbrev zbf:=(cB 75 [pI,pI,pS,acg 5,pI])
abbrev zbg:=(cA false false 0 1)
abbrev zbh:=[pP 100000 0,pI]
abbrev zbi:=(cB 83 [pL false 5,pB])
abbrev zbj:=(cA false true 0 3)
abbrev zbk:=(cA false false 0 4)
abbrev zbl:=[pI,pI,pS,pL false 1]
abbrev zbm:=[pI,pI,pS,pS,pO 300002 0]
abbrev zbn{A B C D E F:Type}(f:A->B->C->D->E)(x:A×B×C×D×F):E:=f x.1 x.2.1 x.2.2.1 x.2.2.2.1
theorem zbo{P:Prop}(h:P:=by repeat' first|(with_reducible first|apply fD|apply IV|apply IW|apply IX|apply IY)|intro _|apply fD|rfl):P:=h
abbrev S.VY:=rc 4 [pL false 1]
abbrev S.Dx:dO:=sg 12 [pL false 1] [] (ρ:=au×Int×Int) λr=>([[D.sl false 1 r.1,D.int .i64 r.2.1,D.int .i64 r.2.2]],[])
abbrev S.pU:=zaR 26 [pP 100000 0]
abbrev S.bF:=zaR 15 zbh
abbrev S.iG:=zaS 30 [pP 100000 0,pL false 1]
abbrev S.Dy:=zaS 39 [pP 100000 0]
abbrev S.Dz:=zaS 40 [pP 100000 0]
abbrev S.jD:dO:=sg 29 zbh [cB 48 zbe] (ρ:=Bool×au×Int×Int) λr=>([[D.bool r.1]],[Cell.box 48 [V.d (D.sl false 1 r.2.1),V.d (D.int .i64 r.2.2.1),V.d (D.int .i64 r.2.2.2)]])
abbrev S.DC:=zaS 41 [pP 100000 0]
abbrev S.iW:=zaS 42 [pP 100000 0]
abbrev S.Bj:=zaT 81 [pP 100000 0]
abbrev S.yJ:=zaU 36 [pL false 5,pI]
abbrev S.bI:=zaU 23 [iV zaY,pL false 1]
abbrev S.DI:=zaT 82 zbh
abbrev S.lS:=zaR 84 [pP 100000 0,pL false 1]
abbrev S.Bl:=zaR 85 [pP 100000 0]
abbrev S.fK:=zaT 54 zbh
abbrev S.oJ:dO:=sg 83 [pP 100000 0,pI,pI,pI] [cB 48 zbe] (ρ:=au×au×Int×Int) λr=>([[D.sl true 1 r.1]],[Cell.box 48 [V.d (D.sl false 1 r.2.1),V.d (D.int .i64 r.2.2.1),V.d (D.int .i64 r.2.2.2)]])
abbrev S.vP:=zaT 120 zbh
abbrev S.vS:=zaT 121 zbh
abbrev S.FW:=zaT 80 zbh
abbrev S.mD:=zaT 53 zbh
abbrev S.FX:=zaT 35 [pP 100000 0]
abbrev S.wP:=zaT 22 [pP 100000 0]
abbrev S.vT:=zaT 13 [pP 100000 0]
abbrev S.dA:=rc 60 [pI,pI,pI]
abbrev S.DJ:=re 163 [pL false 5]
abbrev S.vU:=rc 124 [pL false 5]
abbrev S.Bo:=rf 125 [pL false 5]
abbrev S.dI:=rg 164 [iV zaY]
abbrev S.Bq:=rc 192 [pI]
abbrev S.uI:=rc 193 [pI]
abbrev S.fE:=rc 165 [iV zaY]
abbrev S.rQ:=rc 247 [pI]
abbrev S.vV:=rc 251 [pI]
abbrev S.lF:=rc 232 [pI]
abbrev S.wQ:=rc 224 [pS]
abbrev S.yK:=rh 61 []
abbrev S.yY:=rf 229 [pL false 1,pS]
abbrev S.wR:=rf 225 [pS]
abbrev S.oM:=rh 43 []
abbrev S.mP:=rc 196 [pS]
abbrev S.jW:=rc 194 [pS]
abbrev S.vW:=rc 162 [pS]
abbrev S.jR:=rf 249 [pS,pI]
abbrev S.eY:=rf 248 [pS,pI]
abbrev S.FY:=rf 226 [pS,pI]
abbrev S.rU:=rf 250 [pS,pI,pI]
abbrev S.FZ:=rf 227 [pS,pI]
abbrev S.F5:=rf 228 [pS,pI]
abbrev S.yL:=rh 62 []
abbrev S.jr:=rj 44 [pI]
abbrev S.nI:=rc 195 [iV [pI,pS,pI]]
abbrev S.dJ:=rc 166 [iV zaY]
abbrev S.aI:=rc 126 [iV zaY]
abbrev S.rV:=rc 167 [pI]
abbrev S.lZ:=rc 168 [pI]
abbrev S.F6:=rc 169 [pI]
abbrev S.aQ:=rc 127 [iV zaY,pI,pI]
abbrev S.F7:=rc 91 [pL false 5]
abbrev S.zF:=rc 56 [pL false 5]
abbrev S.aH:=rk 92 [pS]
abbrev S.Gp:=rh 129 [iV [pL false 5,pB],pL false 1]
abbrev S.qE:=rk 58 []
abbrev S.rW:=rk 97 [pL false 4,pI]
abbrev S.aO:=rk 59 [pI,pI,pL false 1]
abbrev S.yZ:=rk 128 [pL false 1]
abbrev S.ny:=rk 93 [iV [pL false 5,pB],pI]
abbrev S.jT:=rl 131 []
abbrev S.DK:=rc 197 [iV zbb]
abbrev S.vX:=rf 230 [pI]
abbrev S.mF:=rf 198 [iV zaY]
abbrev S.IB:=rc 170 [iV zaY,iV zbb]
abbrev S.dw:=rm 199 [iV zaY]
abbrev S.vY:=rk 173 []
abbrev S.kV:=rk 134 [iV [pL false 5,pB],pL false 1,iV zbb]
abbrev S.DN:=rk 200 [iV [pL false 5,pB],iV zaY,pS,pS]
abbrev S.zG:=rk 201 [iV [pL false 5,pB],pI]
abbrev S.yM:=rg 231 [pI]
abbrev S.fZ:=rl 202 [iV zaY,pI,iV zbb]
abbrev S.gq:=rm 204 [pI]
abbrev S.Bv:=rn 254 [iV [pL false 5,pB],pL false 1]
abbrev S.DU:=rn 252 [iV [pL false 5,pB],iV [pI,pS,pI],pL false 1,pI]
abbrev S.zH:=rn 253 [iV [pL false 5,pB],pI]
abbrev S.DV:=rn 255 [iV [pL false 5,pB],iV zaY,iV zbb]
abbrev S.Bz:=rn 234 [iV [pL false 5,pB],pI,iV zbb]
abbrev S.sK:=rn 205 [iV [pL false 5,pB],pI,iV zbb]
abbrev S.KU:=rg 233 [pS,pI]
abbrev S.vZ:=rc 203 [iV [pI,pS,pI],iV [pI,pS,pI]]
abbrev S.JW:=rk 206 [iV [pL false 5,pB],iV zaY,iV zbb]
abbrev S.BA:=rk 171 [iV [pL false 5,pB],pI,iV zbb]
abbrev S.gZ:=rk 130 [iV [pL false 5,pB],pI,iV zbb]
abbrev S.DW:=rk 94 [iV [pL false 5,pB],iV zaY]
abbrev S.Gq:=rk 95 [iV [pL false 5,pB],iV zaY]
abbrev S.y5:=rk 132 [iV [pL false 5,pB],iV zaY]
abbrev S.sN:=rk 172 [iV [pL false 5,pB],pI]
abbrev S.yN:=rk 133 [iV [pL false 5,pB],pS,pL false 1]
abbrev S.Po:=rk 135 [iV [pL false 5,pB],iV zaY]
abbrev S.JX:=rk 136 [iV [pL false 5,pB],iV zaY]
abbrev S.Gs:=rk 96 [iV [pL false 5,pB],pI]
abbrev S.oq:=rk 57 [iV [pL false 5,pB],pI]
abbrev S.oN:=rk 38 [pL false 5]
abbrev S.BD:=rc 122 [iV zbl]
abbrev S.wS:=re 123 [pL false 4]
abbrev S.DY:=rc 86 [pL false 4]
abbrev S.y7:=rh 87 [pL false 4]
abbrev S.wo:=rh 88 [pL true 1,pI]
abbrev S.kW:=rn 90 [pL true 3,iV zbl,pI,pB]
abbrev S.yO:=rc 89 [pL false 4,pL false 3,iV [pI,pI,pB],pI]
abbrev S.wU:=rp 55 [pL false 4,pI]
abbrev S.yP:=rp 37 [pL false 4,pI]
abbrev S.JY:=rp 24 [pL false 5,pI]
abbrev S.BF:=rh 25 [pS]
abbrev S.qp:=rf 14 [pL false 5,pI]
abbrev S.oK:dO:=sg 5 [pL false 1] [] (ρ:=au×Int) λr=>([[D.sl true 5 r.1],[D.int .i64 r.2]],[])
abbrev S.kZ:=re 140 [pL false 5]
abbrev S.BG:=rc 103 [pL false 5]
abbrev S.bJ:=rc 16 [pI,pI,pI]
abbrev S.fC:=rc 141 [pI]
abbrev S.rX:=rc 236 [pI]
abbrev S.wu:=rc 256 [pI]
abbrev S.lG:=rc 235 [pI]
abbrev S.wV:=rc 211 [pS]
abbrev S.slices_Index:=rf 217 [pL false 1,pS]
abbrev S.wW:=rf 212 [pS]
abbrev S.slices_Contains:=rc 184 [pL false 1,pS]
abbrev S.nT:=rc 180 [pS]
abbrev S.kY:=rc 178 [pS]
abbrev S.strings_Contains:=rc 137 [pS,pS]
abbrev S.nG:=rf 238 [pS,pI]
abbrev S.jd:=rf 237 [pS,pI]
abbrev S.F8:=rf 213 [pS,pI]
abbrev S.qw:=rf 239 [pS,pI,pI]
abbrev S.F9:=rf 214 [pS,pI]
abbrev S.Gf:=rf 215 [pS,pI]
abbrev S.qQ:=rc 240 [pI]
abbrev S.nU:=rc 241 [pI]
abbrev S.jJ:=rj 216 [pI]
abbrev S.wz:=rc 179 [iV [pI,pS,pI]]
abbrev S.l9:=rc 181 [pI]
abbrev S.ou:=rf 182 [pI]
abbrev S.y8:=rc 183 [pI]
abbrev S.jX:=rq 142 [iV zaY]
abbrev S.jS:=rc 143 [pI]
abbrev S.jY:=rq 144 [iV zaY]
abbrev S.jZ:=rq 145 [iV zaY]
abbrev S.iZ:=rc 104 [iV zaY]
abbrev S.rY:=rc 146 [pI]
abbrev S.Gg:=rc 147 [pI]
abbrev S.bG:=rc 105 [iV zaY,pI,pI]
abbrev S.qW:=rr 70 [pL false 5,pI]
abbrev S.wX:=rr 47 [pL false 5]
abbrev S.mM:=rf 106 [iV zaZ]
abbrev S.Gi:=rc 69 [pL false 5]
abbrev S.zI:=rc 46 [pL false 5]
abbrev S.aT:=rt 71 [pS]
abbrev S.EL:=rt 49 []
abbrev S.yh:=rl 149 []
abbrev S.kP:dO:=sg 186 [iV zaZ] [] (ρ:=Int×Int×aC×aC×au) λr=>([[D.int .i64 r.1,D.int .i64 r.2.1,D.str r.2.2.1,D.str r.2.2.2.1,D.sl true 1 r.2.2.2.2]],[])
abbrev S.oW:=rf 218 [iV zaY]
abbrev S.DZ:=rc 219 [iV zbb]
abbrev S.IC:=rc 185 [iV zaY,iV zbb]
abbrev S.EM:=rt 155 []
abbrev S.JZ:=rl 113 [pI]
abbrev S.dY:=rt 50 [pL true 5]
abbrev S.zo:=rt 107 [iV zbd]
abbrev S.zJ:=rt 156 [iV zbd]
abbrev S.qG:=rv 112 [pL false 5,anh 113 [] []]
abbrev S.y9:=rf 261 [pI,pI]
abbrev S.zf:=rf 257 [iV zaY,pI]
abbrev S.zh:=rl 242 [iV zaY,pI,iV zbb]
abbrev S.rZ:=rc 243 [iV zaY,pI]
abbrev S.Gj:=rv 220 [iV zaZ,pI,iV zbb]
abbrev S.bT:=zaV 262 [pP 100000 0,pL false 3]
abbrev S.lH:=rm 246 [pI]
abbrev S.pV:=zaV 263 [pP 100000 0,iV zaZ,pI,pI,iV zbb]
abbrev S.nY:=zaV 264 [pP 100000 0,iV zaZ,iV zbb]
abbrev S.pW:=zaV 258 [pP 100000 0,iV zaZ,iV zbb]
abbrev S.sO:=zaV 259 [pP 100000 0,iV zaZ,iV zbb]
abbrev S.kF:=zaV 244 [pP 100000 0,iV zaZ,pI,iV zbb]
abbrev S.jg:=rc 209 [pS,pS]
abbrev S.strings_HasPrefix:=rc 175 [pS,pS]
abbrev S.KW:=rg 260 [pS,pI]
abbrev S.wB:=rc 245 [iV [pI,pS,pI],iV [pI,pS,pI]]
abbrev S.D5:=rv 221 [iV zaZ,iV zbb]
abbrev S.BH:=rv 187 [iV zaZ,iV zbb]
abbrev S.jc:=rv 148 [iV zaZ,iV zbb]
abbrev S.nH:=rv 108 [iV zaZ]
abbrev S.qX:=rl 153 [pI]
abbrev S.sQ:=rv 112 [pL false 5,anh 153 [] []]
abbrev S.zi:=rv 110 [iV zaZ]
abbrev S.wY:=rv 154 [iV zaZ]
abbrev S.yQ:=rv 111 [pS,iV zaZ]
abbrev S.zK:=rv 114 [iV zaZ]
abbrev S.Gt:=rv 115 [iV zaZ]
abbrev S.qH:=rv 75 [iV zaZ]
abbrev S.kC:=rv 72 [iV zaZ]
abbrev S.yR:=rv 73 [iV zaZ]
abbrev S.strings_Join:=rj 109 [pL false 1,pS]
abbrev S.Gl:=rj 74 [iV zaZ]
abbrev S.BI:=rv 48 [iV zaZ]
abbrev S.qI:=rk 76 [iV zbd,pL true 4]
abbrev S.wC:=rk 51 [iV zbd]
abbrev S.oO:=rk 33 [pL false 5]
abbrev S.wZ:=rc 98 [iV zbl]
abbrev S.qx:=re 99 [pL false 4]
abbrev S.D6:=rc 63 [pL false 4]
abbrev S.zk:=rf 139 [pL false 4]
abbrev S.xX:=rt 102 [pL false 4,pI]
abbrev S.J3:=rt 65 [pL false 4]
abbrev S.strings_Repeat:=rj 138 [pS,pI]
abbrev S.mQ:=zaW 100 zbh
abbrev S.jh:=zaW 101 [pP 100000 0,iV zbd,pI,pB]
abbrev S.oP:=rp 67 [iV zbd]
abbrev S.oL:=rf 68 [pR 0]
abbrev S.sS:dO:=sg 66 [iV zbd,pKp (pP 100000 0),pP 100001 0] [cB 91 [pL true 1,pI,pL true 7],cB 3 [pI]] (ρ:=Bool×au×Int×au×Int) λr=>([[D.bool r.1]],[Cell.box 91 [V.d (D.sl true 1 r.2.1),V.d (D.int .i64 r.2.2.1),V.d (D.sl true 7 r.2.2.2.1)],Cell.box 3 [V.d (D.int .i64 r.2.2.2.2)]])
abbrev S.xY:dO:=sg 64 [pP 100000 0,iV zbd,anh 66 [] [pKp (pP 100000 0),pP 100001 0]] [cB 91 [pL true 1,pI,pL true 7],cB 3 [pI]] (ρ:=au×Int×au×Int) λr=>([],[Cell.box 91 [V.d (D.sl true 1 r.1),V.d (D.int .i64 r.2.1),V.d (D.sl true 7 r.2.2.1)],Cell.box 3 [V.d (D.int .i64 r.2.2.2)]])
abbrev S.xg:=rp 45 [pL false 4,pI]
abbrev S.sU:=rp 32 [pL false 4,pI]
abbrev S.J4:=rp 20 [pL false 5,pI]
abbrev S.strings_Split:=rh 34 [pS,pS]
abbrev S.BJ:=rh 21 [pS]
abbrev S.jU:=rf 11 [pL false 5,pI]
abbrev S.xk:=rf 6 [pL false 5,pI]
abbrev S.xq:=rf 7 [pL false 5,pI]
abbrev S.sV:dO:=sg 27 [pP 100000 0] [cB 48 zbe] (ρ:=Int×aC×Int×au×Int×Int) λr=>([[D.int .i64 r.1,D.str r.2.1,D.int .i64 r.2.2.1]],[Cell.box 48 [V.d (D.sl false 1 r.2.2.2.1),V.d (D.int .i64 r.2.2.2.2.1),V.d (D.int .i64 r.2.2.2.2.2)]])
abbrev S.iH:=rc 28 [pI]
abbrev S.wE:dO:=sg 17 zbh [cB 48 zbe] (ρ:=au×au×Int×Int) λr=>([[D.sl true 3 r.1]],[Cell.box 48 [V.d (D.sl false 1 r.2.1),V.d (D.int .i64 r.2.2.1),V.d (D.int .i64 r.2.2.2)]])
abbrev S.qY:=rn 8 [pL false 1]
abbrev S.xZ:=zaX 19 [iV [pI,pS,pI],pP 100000 0]
abbrev S.slices_IndexFunc:dO:=sg 31 [pL false 3,anh 19 [] [pP 100000 0]] [cB 3 [pI]] (ρ:=Int×Int) λr=>([[D.int .i64 r.1]],[Cell.box 3 [V.d (D.int .i64 r.2)]])
abbrev S.slices_ContainsFunc:=zaX 18 [pL false 3,anh 19 [] [pP 100000 0]]
abbrev S.BK:=rh 9 [pL false 3]
abbrev S.UA:=rc 10 [pL false 1,pI]
abbrev S.J5:=rc 3 [pL false 1]
abbrev M.YJ(code:au)(k:Bool->Option R):=k (decide ((↑code.length:Int)>1048576))
def M.VY code:=M.YJ code some
def C.VY:=fTa S.VY (λx=>M.YJ x.1.1)
def M.AU(code:au)(s:Int×Int)(kn:Int×Int->Option R)(ke:Int×Int->Option R):Option R:=match s with
 |(h',i)=>bif decide (i<(↑code.length:Int)) then(bif decide (i<4000) then((idx code i).bind λa=>(bK IntKind.u8 a 0).bind λb=>kn (i64.wrap (↑(BitVec.ofInt 64 (i64.wrap (i64.wrap (i64.wrap (h' * 131)+i64.wrap b)+7)) &&& BitVec.ofInt 64 1073741823).toNat:Int),i64.wrap (i+1))) else ke (h',i)) else ke (h',i)
def M.H7 code s:=M.AU code s (λs=>some (Sum.inl s)) λt=>some (Sum.inr t)
def M.Tq code s:=dM (M.H7 code) s
def F.Tq:LE X0 12:=le 3 (Ef [bH 0 (pL false 1),bH 3 pI,bH 4 pI] []) (λx=>(x.1.2.1,x.1.2.2.1)) (λx s=>((x.1.1,s.1,s.2,()),())) (λx=> .leaf (Int×Int) (λt=>(Ex.exit 0,⟨[(0,Dw 1 x.1.1),(3,gX t.1),(4,gX t.2),(15,rO false)],[]⟩))) (λx=>M.AU x.1.1) [] [] (by rintro _ _ ⟨_,_⟩ _ _<;>simp only[M.AU,nb]<;>rfl)
abbrev M.Vj(code:au)(k:au×Int×Int->Option R):=(M.Tq code (i64.wrap (10101+(↑code.length:Int)),0)).bind λa=>k (code,0,a.1)
def M.Dx code:=M.Vj code some
def C.Dx:=fTa S.Dx (λx=>M.Vj x.1.1) [] [F.Tq]
abbrev M.Tt(c:au)(c1 c2:Int)(k:Int×au×Int×Int->Option R):=cond (decide (c1<(↑c.length:Int))) ((idx c c1).bind λa=>(bK IntKind.u8 a 0).bind λb=>k (i64.wrap (↑(BitVec.ofInt 64 (i64.wrap (i64.wrap (↑(BitVec.ofInt 64 (i64.wrap (↑(BitVec.ofInt 64 ((i64.wrap (i64.wrap (c2 * 6364136223846793005)+1442695040888963407)).fdiv 8589934592) ^^^ BitVec.ofInt 64 ((i64.wrap (i64.wrap (c2 * 6364136223846793005)+1442695040888963407)).fdiv 35184372088832)).toNat:Int)) &&& BitVec.ofInt 64 255).toNat:Int)+i64.wrap b)) &&& BitVec.ofInt 64 255).toNat:Int),c,i64.wrap (c1+1),i64.wrap (i64.wrap (c2 * 6364136223846793005)+1442695040888963407))) (k (i64.wrap (↑(BitVec.ofInt 64 (i64.wrap (↑(BitVec.ofInt 64 ((i64.wrap (i64.wrap (c2 * 6364136223846793005)+1442695040888963407)).fdiv 8589934592) ^^^ BitVec.ofInt 64 ((i64.wrap (i64.wrap (c2 * 6364136223846793005)+1442695040888963407)).fdiv 35184372088832)).toNat:Int)) &&& BitVec.ofInt 64 255).toNat:Int),c,c1,i64.wrap (i64.wrap (c2 * 6364136223846793005)+1442695040888963407)))
def M.pU c c1 c2:=M.Tt c c1 c2 some
def C.pU:=fTa S.pU (λx=>M.Tt x.2.1.1 x.2.1.2.1 x.2.1.2.2.1)
abbrev M.Qh(n':Int)(c:au)(c1 c2:Int)(k:Int×au×Int×Int->Option R):=cond (decide (n'<=0)) (k (0,c,c1,c2)) (cond (decide (n'<=256)) ((M.pU c c1 c2).bind λd=>cond (!decide (n'=0)) (k (d.1.tmod n',d.2.1,d.2.2.1,d.2.2.2)) none) ((M.pU c c1 c2).bind λe=>(M.pU e.2.1 e.2.2.1 e.2.2.2).bind λf=>(M.pU f.2.1 f.2.2.1 f.2.2.2).bind λb=>(M.pU b.2.1 b.2.2.1 b.2.2.2).bind λa=>cond (!decide (n'=0)) (k ((i64.wrap (i64.wrap (i64.wrap (i64.wrap (e.1 * 16777216)+i64.wrap (f.1 * 65536))+i64.wrap (b.1 * 256))+a.1)).tmod n',a.2.1,a.2.2.1,a.2.2.2)) none))
def M.bF n' c c1 c2:=M.Qh n' c c1 c2 some
def C.bF:=fTa S.bF (λx=>M.Qh x.1.2.1 x.2.1.1 x.2.1.2.1 x.2.1.2.2.1) [fe C.pU]
abbrev M.Tv(list c:au)(c1 c2:Int)(k:aC×au×Int×Int->Option R):=(M.bF ((↑list.length:Int)) c c1 c2).bind λa=>(idx list a.1).bind λb=>(cStr b 0).bind λd=>k (d,a.2.1,a.2.2.1,a.2.2.2)
def M.iG list c c1 c2:=M.Tv list c c1 c2 some
def C.iG:=fTa S.iG (λx=>M.Tv x.1.2.1 x.2.1.1 x.2.1.2.1 x.2.1.2.2.1) [fe C.bF]
abbrev M.Vk(c:au)(c1 c2:Int)(k:aC×au×Int×Int->Option R):=(M.iG ([[D.str [48]],[D.str [49]],[D.str [52,50]],[D.str [51,46,53]],[D.str [46,53]],[D.str [55,46]],[D.str [49,101,51]],[D.str [50,69,45,52]],[D.str [49,48,46,50,53,101,43,49]]]) c c1 c2).bind λa=>k (a.1,a.2.1,a.2.2.1,a.2.2.2)
def M.Dy c c1 c2:=M.Vk c c1 c2 some
def C.Dy:=fTa S.Dy (λx=>M.Vk x.2.1.1 x.2.1.2.1 x.2.1.2.2.1) [fe C.iG]
abbrev M.Vl(c:au)(c1 c2:Int)(k:aC×au×Int×Int->Option R):=(M.iG ([[D.str [34,34]],[D.str [34,97,34]],[D.str [34,120,32,121,34]],[D.str [34,113,92,34,113,34]],[D.str [34,92,110,34]],[D.str [34,35,110,111,34]],[D.str [34,47,34]]]) c c1 c2).bind λa=>k (a.1,a.2.1,a.2.2.1,a.2.2.2)
def M.Dz c c1 c2:=M.Vl c c1 c2 some
def C.Dz:=fTa S.Dz (λx=>M.Vl x.2.1.1 x.2.1.2.1 x.2.1.2.2.1) [fe C.iG]
abbrev M.Tz(n':Int)(c:au)(c1 c2:Int)(k:Bool×au×Int×Int->Option R):=(M.bF n' c c1 c2).bind λa=>k (a.1==0,a.2.1,a.2.2.1,a.2.2.2)
def M.jD n' c c1 c2:=M.Tz n' c c1 c2 some
def C.jD:=fTa S.jD (λx=>M.Tz x.1.2.1 x.2.1.1 x.2.1.2.1 x.2.1.2.2.1) [fe C.bF]
abbrev M.Vo(c:au)(c1 c2:Int)(k:aC×au×Int×Int->Option R):=(M.iG ([[D.str [47,97,47]],[D.str [47,94,120,43,36,47]],[D.str [47,97,92,47,98,47]],[D.str [47,61,47]],[D.str [47,32,47]],[D.str [47,91,48,45,57,93,47]]]) c c1 c2).bind λa=>k (a.1,a.2.1,a.2.2.1,a.2.2.2)
def M.DC c c1 c2:=M.Vo c c1 c2 some
def C.DC:=fTa S.DC (λx=>M.Vo x.2.1.1 x.2.1.2.1 x.2.1.2.2.1) [fe C.iG]
abbrev M.TA(c:au)(c1 c2:Int)(k:aC×au×Int×Int->Option R):=(M.iG ([[D.str [120]],[D.str [121]],[D.str [110]],[D.str [105]],[D.str [97,114,114]],[D.str [78,82]],[D.str [70,83]],[D.str [116,111,116,97,108]],[D.str [97,49]],[D.str [95,116]],[D.str [99,111,117,110,116]]]) c c1 c2).bind λa=>k (a.1,a.2.1,a.2.2.1,a.2.2.2)
def M.iW c c1 c2:=M.TA c c1 c2 some
def C.iW:=fTa S.iW (λx=>M.TA x.2.1.1 x.2.1.2.1 x.2.1.2.2.1) [fe C.iG]
abbrev M.TB(c:au)(c1 c2:Int)(k:au×au×Int×Int->Option R):=(M.bF 7 c c1 c2).bind λa=>cond (a.1==0) ((M.Dy a.2.1 a.2.2.1 a.2.2.2).bind λg=>k ([[D.int .i64 2,D.int .i64 0,D.str g.1,D.str [],D.sl true 1 []]],g.2.1,g.2.2.1,g.2.2.2)) (cond (a.1==1) ((M.Dz a.2.1 a.2.2.1 a.2.2.2).bind λd=>k ([[D.int .i64 3,D.int .i64 0,D.str d.1,D.str [],D.sl true 1 []]],d.2.1,d.2.2.1,d.2.2.2)) (cond (a.1==2) ((M.jD 2 a.2.1 a.2.2.1 a.2.2.2).bind λb=>cond b.1 ((M.DC b.2.1 b.2.2.1 b.2.2.2).bind λe=>k ([[D.int .i64 4,D.int .i64 0,D.str e.1,D.str [],D.sl true 1 []]],e.2.1,e.2.2.1,e.2.2.2)) ((M.iW b.2.1 b.2.2.1 b.2.2.2).bind λh=>k ([[D.int .i64 1,D.int .i64 0,D.str h.1,D.str [],D.sl true 1 []]],h.2.1,h.2.2.1,h.2.2.2))) ((M.iW a.2.1 a.2.2.1 a.2.2.2).bind λf=>k ([[D.int .i64 1,D.int .i64 0,D.str f.1,D.str [],D.sl true 1 []]],f.2.1,f.2.2.1,f.2.2.2))))
def M.Bj c c1 c2:=M.TB c c1 c2 some
def C.Bj:=fTa S.Bj (λx=>M.TB x.2.1.1 x.2.1.2.1 x.2.1.2.2.1) [fe C.bF,fe C.Dy,fe C.Dz,fe C.jD,fe C.DC,fe C.iW]
def M.BL(l:au)(by' i:Int)(x':au)(jG lX:Int)(rP su:aC)(s:Int×au)(kn:Int×au->Option R)(ke:Int×au->Option R):Option R:=match s with
 |(k',PW)=>(idx l i).bind λc=>(NK 1 c 4).bind λf=>bif decide (k'<(↑f.length:Int)) then((idx l i).bind λe=>(NK 1 e 4).bind λa=>(idx a k').bind λd=>(bK .i64 d 0).bind λb=>jA PW [[D.int .i64 (i64.wrap (b+by'))]] 8 λg=>kn (i64.wrap (k'+1),g)) else ke (k',PW)
def M.Jb l by' i x' jG lX rP su s:=M.BL l by' i x' jG lX rP su s (λs=>some (Sum.inl s)) λt=>some (Sum.inr t)
def M.N8 l by' i x' jG lX rP su s:=dM (M.Jb l by' i x' jG lX rP su) s
def F.N8:LE X0 36:=le 8 (Ef [bH 0 (pL false 5),bH 1 pI,bH 5 (pO 300000 0),bH 6 pI,bH 7 (pP 300001 0),bH 8 pI] [bH 300000 zbc,bH 300001 (cB 51 zbm),bH 300002 zba]) (λx=>(x.1.va.2.2.1,x.va.1)) (λx s=>((x.1.1,x.1.2.1,(),x.1.va.1,(),s.1,()),(x.2.1,(x.2.2.1.1,x.2.2.1.2.1,x.2.2.1.2.2.1,x.2.2.1.va.1,(),()),s.2,()))) (λx=> .leaf (Int×au) (λt=>(Ex.exit 2,⟨[(0,Dw 5 x.1.1),(1,gX x.1.2.1),(5,V.own 300000 0),(6,gX x.1.va.1),(7,V.ptr 300001 0),(8,gX t.1),(29,rO false)],[(300000,Cell.arr false false 0 5 x.2.1),(300001,Cell.box 51 [gX x.2.2.1.1,gX x.2.2.1.2.1,yI x.2.2.1.2.2.1,yI x.2.2.1.va.1,V.own 300002 0]),(300002,Cell.arr false true 0 1 t.2)]⟩))) (λx=>zbn (M.BL x.1.1 x.1.2.1 x.1.va.1 x.2.1) x.2.2.1) [] [] (by rintro _ _ ⟨_,_⟩ _ _<;>simp only[zbn,jA,M.BL,nb]<;>rfl)
def M.BM(l:au)(by':Int)(s:Int×au)(kn:Int×au->Option R)(ke:Int×au->Option R):Option R:=match s with
 |(i,x')=>bif decide (i<(↑l.length:Int)) then((idx l i).bind λb=>ni 1 b λn45 n46 s47 s48 _=>((M.N8 l by' i x' n45 n46 s47 s48 (0,[])).bind λa=>bif aA a.2 then(jA x' [[D.int .i64 n45,D.int .i64 n46,D.str s47,D.str s48,D.sl true 1 a.2]] 72 λc=>kn (i64.wrap (i+1),c)) else none)) else ke (i,x')
def M.Jc l by' s:=M.BM l by' s (λs=>some (Sum.inl s)) λt=>some (Sum.inr t)
def M.N9 l by' s:=dM (M.Jc l by') s
def F.N9:LE X0 36:=le 3 (Ef [bH 0 (pL false 5),bH 1 pI,bH 5 (pO 300000 0),bH 6 pI] [bH 300000 zbc]) (λx=>(x.1.va.1,x.2.1)) (λx s=>((x.1.1,x.1.2.1,(),s.1,()),(s.2,()))) (λx=> .leaf (Int×au) (λt=>(Ex.exit 0,⟨[(0,Dw 5 x.1.1),(1,gX x.1.2.1),(5,V.own 300000 0),(6,gX t.1),(13,rO false)],[(300000,Cell.arr false false 0 5 t.2)]⟩))) (λx=>M.BM x.1.1 x.1.2.1) [] [F.N8] (by rintro _ _ ⟨_,_⟩ _ _<;>simp only[jA,ni,M.BM,nb]<;>rfl)
abbrev M.Qi(l:au)(by':Int)(k:au->Option R):=(M.N9 l by' (0,[])).bind λa=>k a.2
def M.yJ l by':=M.Qi l by' some
def C.yJ:=fTa S.yJ (λx=>M.Qi x.1.1 x.1.2.1) [] [F.N9]
def M.EN(parts:au)(x' jG:Int)(lX rP:aC)(s:Int×au×au)(kn:Int×au×au->Option R)(ke:Int×au×au->Option R):Option R:=match s with
 |(k',su,PW)=>bif decide (k'<(↑parts.length:Int)) then((idx parts k').bind λb=>(NK 5 b 0).bind λc=>(M.yJ c ((↑su.length:Int))).bind λa=>jA su a 72 λd=>jA PW [[D.int .i64 (i64.wrap ((↑d.length:Int) - 1))]] 8 λe=>kn (i64.wrap (k'+1),d,e)) else ke (k',su,PW)
def M.KX parts x' jG lX rP s:=M.EN parts x' jG lX rP s (λs=>some (Sum.inl s)) λt=>some (Sum.inr t)
def M.Qj parts x' jG lX rP s:=dM (M.KX parts x' jG lX rP) s
def F.Qj:LE X0 23:=le 4 (Ef [bH 1 (pL false 1),bH 2 (pP 300000 0),bH 5 (pO 300001 0),bH 6 pI] [bH 300000 (cB 51 zbm),bH 300001 zbc,bH 300002 zba]) (λx=>(x.1.va.1,x.2.2.1,x.va.1)) (λx s=>((x.1.1,(),(),s.1,()),((x.2.1.1,x.2.1.2.1,x.2.1.2.2.1,x.2.1.va.1,(),()),s.2.1,s.2.2,()))) (λx=> .leaf (Int×au×au) (λt=>(Ex.exit 0,⟨[(1,Dw 1 x.1.1),(2,V.ptr 300000 0),(5,V.own 300001 0),(6,gX t.1),(13,rO false)],[(300000,Cell.box 51 [gX x.2.1.1,gX x.2.1.2.1,yI x.2.1.2.2.1,yI x.2.1.va.1,V.own 300002 0]),(300001,Cell.arr false false 0 5 t.2.1),(300002,Cell.arr false true 0 1 t.2.2)]⟩))) (λx=>zbn (M.EN x.1.1) x.2.1) [fe C.yJ] [] (by rintro _ _ ⟨_,_,_⟩ _ _<;>simp only[zbn,jA,M.EN,nb]<;>rfl)
abbrev M.TD(n' fV:Int)(iM iL:aC)(jo parts:au)(k:au->Option R):=(M.Qj parts n' fV iM iL (0,[],[])).bind λa=>cond (aA a.2.2) (jA a.2.1 [[D.int .i64 n',D.int .i64 fV,D.str iM,D.str iL,D.sl true 1 a.2.2]] 72 λb=>k b) none
def M.bI n' fV iM iL jo parts:=M.TD n' fV iM iL jo parts some
def C.bI:=fTa S.bI (λx=>M.TD x.1.1.1 x.1.1.2.1 x.1.1.2.2.1 x.1.1.va.1 x.1.1.va.2.1 x.1.2.1) [] [F.Qj]
def M.AV(bD:zac)(deep:Int)(c:au)(c1 c2:Int)(k:au×au×Int×Int->Option R):=(M.bF 4 c c1 c2).bind λa=>cond (a.1==0) ((M.iW a.2.1 a.2.2.1 a.2.2.2).bind λd=>(bD (i64.wrap (deep - 1)) d.2.1 d.2.2.1 d.2.2.2).bind λb=>(M.bI 5 0 d.1 [] [] (aG [[D.sl true 5 b.1]])).bind λg=>cond ([[D.sl true 5 g]].all bg) (k (g,b.2.1,b.2.2.1,b.2.2.2)) none) (cond (a.1==1) ((bD (i64.wrap (deep - 2)) a.2.1 a.2.2.1 a.2.2.2).bind λe=>(M.bI 6 0 [] [] [] (aG [[D.sl true 5 e.1]])).bind λh=>cond ([[D.sl true 5 h]].all bg) (k (h,e.2.1,e.2.2.1,e.2.2.2)) none) ((M.iW a.2.1 a.2.2.1 a.2.2.2).bind λf=>k ([[D.int .i64 1,D.int .i64 0,D.str f.1,D.str [],D.sl true 1 []]],f.2.1,f.2.2.1,f.2.2.2)))
def C.aew{bD:zac}(D7:S.fK.ok X0 λx=>bD x.1.2.1 x.2.1.1 x.2.1.2.1 x.2.1.2.2.1):S.DI.ok X0 λx=>M.AV bD x.1.2.1 x.2.1.1 x.2.1.2.1 x.2.1.2.2.1 some:=fnS (λx=>M.AV bD x.1.2.1 x.2.1.1 x.2.1.2.1 x.2.1.2.2.1) [fe C.bF,fe C.iW,fe D7,fe C.bI] [] (by intros;simp only[M.AV,nb]<;>rfl)
abbrev M.KY(list c:au)(c1 c2:Int)(k:Int×au×Int×Int->Option R):=(M.bF ((↑list.length:Int)) c c1 c2).bind λa=>(idx list a.1).bind λd=>(bK .i64 d 0).bind λb=>k (b,a.2.1,a.2.2.1,a.2.2.2)
def M.lS list c c1 c2:=M.KY list c c1 c2 some
def C.lS:=fTa S.lS (λx=>M.KY x.1.2.1 x.2.1.1 x.2.1.2.1 x.2.1.2.2.1) [fe C.bF]
abbrev M.Qk(c:au)(c1 c2:Int)(k:Int×au×Int×Int->Option R):=(M.lS ([[D.int .i64 60],[D.int .i64 57],[D.int .i64 58],[D.int .i64 59],[D.int .i64 55],[D.int .i64 56],[D.int .i64 56],[D.int .i64 99],[D.int .i64 99],[D.int .i64 99],[D.int .i64 63],[D.int .i64 48],[D.int .i64 47],[D.int .i64 50],[D.int .i64 62],[D.int .i64 62],[D.int .i64 49],[D.int .i64 67],[D.int .i64 46],[D.int .i64 45],[D.int .i64 44]]) c c1 c2).bind λa=>k (a.1,a.2.1,a.2.2.1,a.2.2.2)
def M.Bl c c1 c2:=M.Qk c c1 c2 some
def C.Bl:=fTa S.Bl (λx=>M.Qk x.2.1.1 x.2.1.2.1 x.2.1.2.2.1) [fe C.lS]
abbrev M.J6(UU:Int×au×Int×Int)(bD:zac)(deep:Int)(k:au×au×Int×Int->Option R):=(M.lS ([[D.int .i64 56],[D.int .i64 55],[D.int .i64 61]]) UU.2.1 UU.2.2.1 UU.2.2.2).bind λa=>(bD (i64.wrap (deep - 1)) a.2.1 a.2.2.1 a.2.2.2).bind λb=>(M.bI 11 a.1 [] [] [] (aG [[D.sl true 5 b.1]])).bind λc=>cond ([[D.sl true 5 c]].all bg) (k (c,b.2.1,b.2.2.1,b.2.2.2)) none
def M.D8(pX:zac)(bD:zac)(x8:zas)(deep:Int)(c:au)(c1 c2:Int)(k:au×au×Int×Int->Option R):=cond (decide (deep<=0)) ((M.Bj c c1 c2).bind λe=>k (e.1,e.2.1,e.2.2.1,e.2.2.2)) ((M.bF 2 c c1 c2).bind λb=>(M.bF 16 b.2.1 b.2.2.1 b.2.2.2).bind λa=>cond (a.1==0) ((M.Bj a.2.1 a.2.2.1 a.2.2.2).bind λl=>k (l.1,l.2.1,l.2.2.1,l.2.2.2)) (cond (a.1==1) ((pX deep a.2.1 a.2.2.1 a.2.2.2).bind λo=>k (o.1,o.2.1,o.2.2.1,o.2.2.2)) (cond (a.1==2) ((bD (i64.wrap (deep - 1)) a.2.1 a.2.2.1 a.2.2.2).bind λq=>(M.bI 6 0 [] [] [] (aG [[D.sl true 5 q.1]])).bind λA=>cond ([[D.sl true 5 A]].all bg) (k (A,q.2.1,q.2.2.1,q.2.2.2)) none) (cond (a.1==3) ((M.iW a.2.1 a.2.2.1 a.2.2.2).bind λn=>(x8 0 3 (i64.wrap (deep - 1)) n.2.1 n.2.2.1 n.2.2.2).bind λs=>(M.bI 7 0 n.1 [] [] (aG s.1)).bind λG=>cond ([[D.sl true 5 G]].all bg) (k (G,s.2.1,s.2.2.1,s.2.2.2)) none) (cond (a.1==4) ((M.iG ([[D.str [108,101,110,103,116,104]],[D.str [115,117,98,115,116,114]],[D.str [105,110,100,101,120]],[D.str [105,110,116]],[D.str [116,111,117,112,112,101,114]]]) a.2.1 a.2.2.1 a.2.2.2).bind λd=>(x8 0 3 (i64.wrap (deep - 2)) d.2.1 d.2.2.1 d.2.2.2).bind λr=>(M.bI 8 0 d.1 [] [] (aG r.1)).bind λF=>cond ([[D.sl true 5 F]].all bg) (k (F,r.2.1,r.2.2.1,r.2.2.2)) none) (cond (a.1==5) ((pX (i64.wrap (deep - 1)) a.2.1 a.2.2.1 a.2.2.2).bind λm=>(M.bI 9 (i64.wrap (51+b.1)) [] [] [] (aG [[D.sl true 5 m.1]])).bind λB=>cond ([[D.sl true 5 B]].all bg) (k (B,m.2.1,m.2.2.1,m.2.2.2)) none) (cond (a.1==6) ((pX (i64.wrap (deep - 1)) a.2.1 a.2.2.1 a.2.2.2).bind λi=>(M.bI 10 (i64.wrap (51+b.1)) [] [] [] (aG [[D.sl true 5 i.1]])).bind λI=>cond ([[D.sl true 5 I]].all bg) (k (I,i.2.1,i.2.2.1,i.2.2.2)) none) (cond (a.1==7) (M.J6 a bD deep k) (cond (a.1==8) (M.J6 a bD deep k) (cond (a.1==9) ((M.iW a.2.1 a.2.2.1 a.2.2.2).bind λf=>(x8 1 2 (i64.wrap (deep - 1)) f.2.1 f.2.2.1 f.2.2.2).bind λg=>(M.bI 13 0 f.1 [] [] (aG g.1)).bind λE=>cond ([[D.sl true 5 E]].all bg) (k (E,g.2.1,g.2.2.1,g.2.2.2)) none) (cond (a.1==10) ((bD (i64.wrap (deep - 1)) a.2.1 a.2.2.1 a.2.2.2).bind λy=>(bD (i64.wrap (deep - 1)) y.2.1 y.2.2.1 y.2.2.2).bind λp=>(bD (i64.wrap (deep - 1)) p.2.1 p.2.2.1 p.2.2.2).bind λt=>(M.bI 14 0 [] [] [] (aG [[D.sl true 5 y.1],[D.sl true 5 p.1],[D.sl true 5 t.1]])).bind λC=>cond ([[D.sl true 5 C]].all bg) (k (C,t.2.1,t.2.2.1,t.2.2.2)) none) (cond (a.1==11) ((M.lS ([[D.int .i64 54],[D.int .i64 38],[D.int .i64 43]]) a.2.1 a.2.2.1 a.2.2.2).bind λh=>(pX (i64.wrap (deep - 1)) h.2.1 h.2.2.1 h.2.2.2).bind λu=>(bD (i64.wrap (deep - 1)) u.2.1 u.2.2.1 u.2.2.2).bind λv=>(M.bI 15 h.1 [] [] [] (aG [[D.sl true 5 u.1],[D.sl true 5 v.1]])).bind λH=>cond ([[D.sl true 5 H]].all bg) (k (H,v.2.1,v.2.2.1,v.2.2.2)) none) ((M.Bl a.2.1 a.2.2.1 a.2.2.2).bind λw=>(bD (i64.wrap (deep - 1)) w.2.1 w.2.2.1 w.2.2.2).bind λj=>(bD (i64.wrap (deep - 1)) j.2.1 j.2.2.1 j.2.2.2).bind λx=>(M.bI 12 w.1 [] [] [] (aG [[D.sl true 5 j.1],[D.sl true 5 x.1]])).bind λz=>cond ([[D.sl true 5 z]].all bg) (k (z,x.2.1,x.2.2.1,x.2.2.2)) none)))))))))))))
def C.aiv{pX:zac}{bD:zac}{x8:zas}(af7:S.DI.ok X0 λx=>pX x.1.2.1 x.2.1.1 x.2.1.2.1 x.2.1.2.2.1)(D7:S.fK.ok X0 λx=>bD x.1.2.1 x.2.1.1 x.2.1.2.1 x.2.1.2.2.1)(akJ:S.oJ.ok X0 λx=>x8 x.1.2.1 x.1.2.2.1 x.1.va.1 x.2.1.1 x.2.1.2.1 x.2.1.2.2.1):S.fK.ok X0 λx=>M.D8 pX bD x8 x.1.2.1 x.2.1.1 x.2.1.2.1 x.2.1.2.2.1 some:=fnS (λx=>M.D8 pX bD x8 x.1.2.1 x.2.1.1 x.2.1.2.1 x.2.1.2.2.1) [fe C.Bj,fe C.bF,fe af7,fe D7,fe C.bI,fe C.iW,fe akJ,fe C.iG,fe C.lS,fe C.Bl] [] (by intros;simp only[M.D8,M.J6,nb]<;>rfl)
def M.KZ(bD:zac)(deep:Int)(s:Int×au×Int×Int×au)(kn:Int×au×Int×Int×au->Option R)(ke:Int×au×Int×Int×au->Option R):Option R:=match s with
 |(n',v,v1,v2,x')=>bif decide (n'>0) then((bD deep v v1 v2).bind λa=>jA x' [[D.sl true 5 a.1]] 24 λb=>kn (i64.wrap (n' - 1),a.2.1,a.2.2.1,a.2.2.2,b)) else ke (n',v,v1,v2,x')
def M.SG bD deep s:=M.KZ bD deep s (λs=>some (Sum.inl s)) λt=>some (Sum.inr t)
def M.Ql bD deep s:=dM (M.SG bD deep) s
def F.Ql{bD:zac}(D7:S.fK.ok X0 λx=>bD x.1.2.1 x.2.1.1 x.2.1.2.1 x.2.1.2.2.1):LE X0 83:=le 3 (Ef [bH 0 (pP 100000 0),bH 3 pI,bH 9 (pO 300000 0),bH 10 pI] [bH 100000 (cB 48 zbe),bH 300000 zbg]) (λx=>(x.1.va.1,x.2.1.1,x.2.1.2.1,x.2.1.2.2.1,x.2.2.1)) (λx s=>(((),x.1.2.1,(),s.1,()),((s.2.1,s.2.2.1,s.va.1,()),s.va.2,()))) (λx=> .leaf zax (λt=>(Ex.exit 0,⟨[(0,V.ptr 100000 0),(3,gX x.1.2.1),(9,V.own 300000 0),(10,gX t.1),(21,rO false)],[(100000,Cell.box 48 [Dw 1 t.2.1,gX t.2.2.1,gX t.va.1]),(300000,Cell.arr false false 0 1 t.va.2)]⟩))) (λx=>M.KZ bD x.1.2.1) [fe D7] [] (by rintro _ _ ⟨_,_,_,_,_⟩ _ _<;>simp only[jA,M.KZ,nb]<;>rfl)
def M.IE(bD:zac)(least most deep:Int)(c:au)(c1 c2:Int)(k:au×au×Int×Int->Option R):=(M.bF (i64.wrap (i64.wrap (most - least)+1)) c c1 c2).bind λb=>(M.Ql bD deep (i64.wrap (least+b.1),b.2.1,b.2.2.1,b.2.2.2,[])).bind λa=>k (a.2.2.2.2,a.2.1,a.2.2.1,a.2.2.2.1)
def C.aiw{bD:zac}(D7:S.fK.ok X0 λx=>bD x.1.2.1 x.2.1.1 x.2.1.2.1 x.2.1.2.2.1):S.oJ.ok X0 λx=>M.IE bD x.1.2.1 x.1.2.2.1 x.1.va.1 x.2.1.1 x.2.1.2.1 x.2.1.2.2.1 some:=fnS (λx=>M.IE bD x.1.2.1 x.1.2.2.1 x.1.va.1 x.2.1.1 x.2.1.2.1 x.2.1.2.2.1) [fe C.bF] [F.Ql D7] (by intros;simp only[M.IE,nb]<;>rfl)
def M.sD:Nat->(zas)×(zac)×(zac):=Nat.rec (λ_ _ _ _ _ _=>none,λ_ _ _ _=>none,λ_ _ _ _=>none) λ_ qz=>(λleast most deep c c1 c2=>M.IE qz.2.2 least most deep c c1 c2 some,λdeep c c1 c2=>M.AV qz.2.2 deep c c1 c2 some,λdeep c c1 c2=>M.D8 qz.2.1 qz.2.2 qz.1 deep c c1 c2 some)
def M.IG n:=(M.sD n).1
def M.H8 n:=(M.sD n).2.1
def M.qy n:=(M.sD n).2.2
def M.akK(n:Nat):M.IG (n+1)=λleast most deep c c1 c2=>M.IE (M.qy n) least most deep c c1 c2 some:=rfl
def M.af8(n:Nat):M.H8 (n+1)=λdeep c c1 c2=>M.AV (M.qy n) deep c c1 c2 some:=rfl
def M.abl(n:Nat):M.qy (n+1)=λdeep c c1 c2=>M.D8 (M.H8 n) (M.qy n) (M.IG n) deep c c1 c2 some:=rfl
def M.oJ least most deep c c1 c2:=lim λn=>M.IG n least most deep c c1 c2
def M.DI deep c c1 c2:=lim λn=>M.H8 n deep c c1 c2
def M.fK deep c c1 c2:=lim λn=>M.qy n deep c c1 c2
def C.sD:∀n,(S.oJ.ok X0 λx=>M.IG n x.1.2.1 x.1.2.2.1 x.1.va.1 x.2.1.1 x.2.1.2.1 x.2.1.2.2.1)/\(S.DI.ok X0 λx=>M.H8 n x.1.2.1 x.2.1.1 x.2.1.2.1 x.2.1.2.2.1)/\(S.fK.ok X0 λx=>M.qy n x.1.2.1 x.2.1.1 x.2.1.2.1 x.2.1.2.2.1)
 |0=>⟨dO.zero,dO.zero,dO.zero⟩
 |n+1=>have h:=C.sD n;⟨C.aiw h.2.2,C.aew h.2.2,C.aiv h.2.1 h.2.2 h.1⟩
def C.oJ:S.oJ.ok X0 λx=>M.oJ x.1.2.1 x.1.2.2.1 x.1.va.1 x.2.1.1 x.2.1.2.1 x.2.1.2.2.1:=dO.lim λn=>(C.sD n).1
def M.aix{n:Nat}{least most deep:Int}{c:au}{c1 c2:Int}{r:au×au×Int×Int}(h:M.IG n least most deep c c1 c2=some r):M.oJ least most deep c c1 c2=some r:=dO.AO (λn=>(C.sD n).1) (by intro a b h;simp[S.oJ,sg] at h;first|exact h|simp[Prod.ext_iff,h]) (x:=(((),least,most,deep,()),((c,c1,c2,()),()))) h
def C.DI:S.DI.ok X0 λx=>M.DI x.1.2.1 x.2.1.1 x.2.1.2.1 x.2.1.2.2.1:=dO.lim λn=>(C.sD n).2.1
def C.fK:S.fK.ok X0 λx=>M.fK x.1.2.1 x.2.1.1 x.2.1.2.1 x.2.1.2.2.1:=dO.lim λn=>(C.sD n).2.2
def M.aiy{n:Nat}{deep:Int}{c:au}{c1 c2:Int}{r:au×au×Int×Int}(h:M.qy n deep c c1 c2=some r):M.fK deep c c1 c2=some r:=dO.AO (λn=>(C.sD n).2.2) (by intro a b h;simp[S.fK,sg] at h;first|exact h|simp[Prod.ext_iff,h]) (x:=(((),deep,()),((c,c1,c2,()),()))) h
abbrev M.La(r17:Int×au×Int×Int)(deep:Int)(k:au×au×Int×Int->Option R):=(M.bF 2 r17.2.1 r17.2.2.1 r17.2.2.2).bind λd=>(M.oJ d.1 3 deep d.2.1 d.2.2.1 d.2.2.2).bind λa=>(M.jD 3 a.2.1 a.2.2.1 a.2.2.2).bind λb=>cond b.1 ((M.iG ([[D.str [62]],[D.str [62,62]],[D.str [124]]]) b.2.1 b.2.2.1 b.2.2.2).bind λe=>(M.fK (i64.wrap (deep - 1)) e.2.1 e.2.2.1 e.2.2.2).bind λc=>cond (((a.1.length+[[D.sl true 5 c.1]].length) * 24).ble 140737488355328) (cond ((a.1.length+[[D.sl true 5 c.1]].length).ble 140737488355328) ((M.bI 21 d.1 [] e.1 [] (aG (a.1++[[D.sl true 5 c.1]]))).bind λf=>cond ([[D.sl true 5 f]].all bg) (k (f,c.2.1,c.2.2.1,c.2.2.2)) none) none) none) ((M.bI 21 d.1 [] [] [] (aG a.1)).bind λg=>cond ([[D.sl true 5 g]].all bg) (k (g,b.2.1,b.2.2.1,b.2.2.2)) none)
abbrev M.Oa(deep:Int)(c:au)(c1 c2:Int)(k:au×au×Int×Int->Option R):=(M.bF 9 c c1 c2).bind λa=>cond (a.1==0) (M.La a deep k) (cond (a.1==1) (M.La a deep k) (cond (a.1==2) ((M.lS ([[D.int .i64 22],[D.int .i64 25],[D.int .i64 26]]) a.2.1 a.2.2.1 a.2.2.2).bind λj=>k ([[D.int .i64 j.1,D.int .i64 0,D.str [],D.str [],D.sl true 1 []]],j.2.1,j.2.2.1,j.2.2.2)) (cond (a.1==3) ((M.lS ([[D.int .i64 23],[D.int .i64 24]]) a.2.1 a.2.2.1 a.2.2.2).bind λl=>(M.oJ 0 1 deep l.2.1 l.2.2.1 l.2.2.2).bind λh=>(M.bI l.1 0 [] [] [] (aG h.1)).bind λm=>cond ([[D.sl true 5 m]].all bg) (k (m,h.2.1,h.2.2.1,h.2.2.2)) none) (cond (a.1==4) ((M.iW a.2.1 a.2.2.1 a.2.2.2).bind λd=>(M.oJ 0 2 (i64.wrap (deep - 1)) d.2.1 d.2.2.1 d.2.2.2).bind λf=>(M.bI 27 0 d.1 [] [] (aG f.1)).bind λn=>cond ([[D.sl true 5 n]].all bg) (k (n,f.2.1,f.2.2.1,f.2.2.2)) none) (cond (a.1==5) ((M.jD 2 a.2.1 a.2.2.1 a.2.2.2).bind λb=>cond b.1 ((M.iG ([[D.str [35]],[D.str [35,32,110,111,116,101]],[D.str [35,120,32,61,32,49]]]) b.2.1 b.2.2.1 b.2.2.2).bind λi=>k ([[D.int .i64 34,D.int .i64 0,D.str i.1,D.str [],D.sl true 1 []]],i.2.1,i.2.2.1,i.2.2.2)) ((M.fK deep b.2.1 b.2.2.1 b.2.2.2).bind λe=>(M.bI 20 0 [] [] [] (aG [[D.sl true 5 e.1]])).bind λp=>cond ([[D.sl true 5 p]].all bg) (k (p,e.2.1,e.2.2.1,e.2.2.2)) none)) ((M.fK deep a.2.1 a.2.2.1 a.2.2.2).bind λg=>(M.bI 20 0 [] [] [] (aG [[D.sl true 5 g.1]])).bind λo=>cond ([[D.sl true 5 o]].all bg) (k (o,g.2.1,g.2.2.1,g.2.2.2)) none))))))
def M.vP deep c c1 c2:=M.Oa deep c c1 c2 some
def C.vP:=fTa S.vP (λx=>M.Oa x.1.2.1 x.2.1.1 x.2.1.2.1 x.2.1.2.2.1) [fe C.bF,fe C.oJ,fe C.jD,fe C.iG,fe C.fK,fe C.bI,fe C.lS,fe C.iW]
abbrev M.Qm(deep:Int)(c:au)(c1 c2:Int)(k:au×au×Int×Int->Option R):=(M.jD 3 c c1 c2).bind λa=>cond a.1 (k ([[D.int .i64 16,D.int .i64 0,D.str [],D.str [],D.sl true 1 []]],a.2.1,a.2.2.1,a.2.2.2)) ((M.fK deep a.2.1 a.2.2.1 a.2.2.2).bind λb=>k (b.1,b.2.1,b.2.2.1,b.2.2.2))
def M.vS deep c c1 c2:=M.Qm deep c c1 c2 some
def C.vS:=fTa S.vS (λx=>M.Qm x.1.2.1 x.2.1.1 x.2.1.2.1 x.2.1.2.2.1) [fe C.jD,fe C.fK]
def M.D9(lI:zac)(deep:Int)(c:au)(c1 c2:Int)(k:au×au×Int×Int->Option R):=cond (decide (deep<=0)) ((M.vP (cond (decide (2<deep)) 2 deep) c c1 c2).bind λu=>k (u.1,u.2.1,u.2.2.1,u.2.2.2)) ((M.jD 3 c c1 c2).bind λb=>cond (!b.1) ((M.vP (cond (decide (2<deep)) 2 deep) b.2.1 b.2.2.1 b.2.2.2).bind λw=>k (w.1,w.2.1,w.2.2.1,w.2.2.2)) ((M.bF 6 b.2.1 b.2.2.1 b.2.2.2).bind λa=>cond (a.1==0) ((M.fK 1 a.2.1 a.2.2.1 a.2.2.2).bind λn=>(lI (i64.wrap (deep - 1)) n.2.1 n.2.2.1 n.2.2.2).bind λt=>(M.bI 28 0 [] [] [] (aG [[D.sl true 5 n.1],[D.sl true 5 t.1]])).bind λC=>cond ([[D.sl true 5 C]].all bg) (k (C,t.2.1,t.2.2.1,t.2.2.2)) none) (cond (a.1==1) ((M.fK 1 a.2.1 a.2.2.1 a.2.2.2).bind λe=>(lI (i64.wrap (deep - 1)) e.2.1 e.2.2.1 e.2.2.2).bind λl=>(lI (i64.wrap (deep - 1)) l.2.1 l.2.2.1 l.2.2.2).bind λv=>(M.bI 28 0 [] [] [] (aG [[D.sl true 5 e.1],[D.sl true 5 l.1],[D.sl true 5 v.1]])).bind λz=>cond ([[D.sl true 5 z]].all bg) (k (z,v.2.1,v.2.2.1,v.2.2.2)) none) (cond (a.1==2) ((M.fK 1 a.2.1 a.2.2.1 a.2.2.2).bind λs=>(lI (i64.wrap (deep - 1)) s.2.1 s.2.2.1 s.2.2.2).bind λh=>(M.bI 29 0 [] [] [] (aG [[D.sl true 5 s.1],[D.sl true 5 h.1]])).bind λy=>cond ([[D.sl true 5 y]].all bg) (k (y,h.2.1,h.2.2.1,h.2.2.2)) none) (cond (a.1==3) ((lI (i64.wrap (deep - 1)) a.2.1 a.2.2.1 a.2.2.2).bind λi=>(M.fK 1 i.2.1 i.2.2.1 i.2.2.2).bind λr=>(M.bI 30 0 [] [] [] (aG [[D.sl true 5 i.1],[D.sl true 5 r.1]])).bind λE=>cond ([[D.sl true 5 E]].all bg) (k (E,r.2.1,r.2.2.1,r.2.2.2)) none) (cond (a.1==4) ((M.vS 2 a.2.1 a.2.2.1 a.2.2.2).bind λx=>(M.vS 1 x.2.1 x.2.2.1 x.2.2.2).bind λp=>(M.vS 1 p.2.1 p.2.2.1 p.2.2.2).bind λg=>(lI (i64.wrap (deep - 1)) g.2.1 g.2.2.1 g.2.2.2).bind λo=>(M.bI 31 0 [] [] [] (aG [[D.sl true 5 x.1],[D.sl true 5 p.1],[D.sl true 5 g.1],[D.sl true 5 o.1]])).bind λB=>cond ([[D.sl true 5 B]].all bg) (k (B,o.2.1,o.2.2.1,o.2.2.2)) none) ((M.jD 2 a.2.1 a.2.2.1 a.2.2.2).bind λd=>cond d.1 ((lI (i64.wrap (deep - 1)) d.2.1 d.2.2.1 d.2.2.2).bind λf=>k (f.1,f.2.1,f.2.2.1,f.2.2.2)) ((M.iW d.2.1 d.2.2.1 d.2.2.2).bind λj=>(M.iW j.2.1 j.2.2.1 j.2.2.2).bind λq=>(lI (i64.wrap (deep - 1)) q.2.1 q.2.2.1 q.2.2.2).bind λm=>(M.bI 32 0 j.1 q.1 [] (aG [[D.sl true 5 m.1]])).bind λA=>cond ([[D.sl true 5 A]].all bg) (k (A,m.2.1,m.2.2.1,m.2.2.2)) none))))))))
def C.aiA{lI:zac}(aiB:S.mD.ok X0 λx=>lI x.1.2.1 x.2.1.1 x.2.1.2.1 x.2.1.2.2.1):S.FW.ok X0 λx=>M.D9 lI x.1.2.1 x.2.1.1 x.2.1.2.1 x.2.1.2.2.1 some:=fnS (λx=>M.D9 lI x.1.2.1 x.2.1.1 x.2.1.2.1 x.2.1.2.2.1) [fe C.vP,fe C.jD,fe C.bF,fe C.fK,fe aiB,fe C.bI,fe C.vS,fe C.iW] [] (by intros;simp only[M.D9,nb]<;>rfl)
def M.Jd(kJ:zac)(deep:Int)(s:Int×au×Int×Int×au)(kn:Int×au×Int×Int×au->Option R)(ke:Int×au×Int×Int×au->Option R):Option R:=match s with
 |(n',v,v1,v2,x')=>bif decide (n'>0) then((kJ deep v v1 v2).bind λa=>jA x' [[D.sl true 5 a.1]] 24 λb=>kn (i64.wrap (n' - 1),a.2.1,a.2.2.1,a.2.2.2,b)) else ke (n',v,v1,v2,x')
def M.Qn kJ deep s:=M.Jd kJ deep s (λs=>some (Sum.inl s)) λt=>some (Sum.inr t)
def M.Ob kJ deep s:=dM (M.Qn kJ deep) s
def F.Ob{kJ:zac}(Xv:S.FW.ok X0 λx=>kJ x.1.2.1 x.2.1.1 x.2.1.2.1 x.2.1.2.2.1):LE X0 53:=le 3 (Ef [bH 0 (pP 100000 0),bH 1 pI,bH 5 (pO 300000 0),bH 6 pI] [bH 100000 (cB 48 zbe),bH 300000 zbg]) (λx=>(x.1.va.1,x.2.1.1,x.2.1.2.1,x.2.1.2.2.1,x.2.2.1)) (λx s=>(((),x.1.2.1,(),s.1,()),((s.2.1,s.2.2.1,s.va.1,()),s.va.2,()))) (λx=> .leaf zax (λt=>(Ex.exit 0,⟨[(0,V.ptr 100000 0),(1,gX x.1.2.1),(5,V.own 300000 0),(6,gX t.1),(11,rO false)],[(100000,Cell.box 48 [Dw 1 t.2.1,gX t.2.2.1,gX t.va.1]),(300000,Cell.arr false false 0 1 t.va.2)]⟩))) (λx=>M.Jd kJ x.1.2.1) [fe Xv] [] (by rintro _ _ ⟨_,_,_,_,_⟩ _ _<;>simp only[jA,M.Jd,nb]<;>rfl)
def M.EO(kJ:zac)(deep:Int)(c:au)(c1 c2:Int)(k:au×au×Int×Int->Option R):=(M.bF 3 c c1 c2).bind λb=>(M.Ob kJ deep (b.1,b.2.1,b.2.2.1,b.2.2.2,[])).bind λa=>(M.bI 33 0 [] [] [] (aG a.2.2.2.2)).bind λd=>cond ([[D.sl true 5 d]].all bg) (k (d,a.2.1,a.2.2.1,a.2.2.2.1)) none
def C.af9{kJ:zac}(Xv:S.FW.ok X0 λx=>kJ x.1.2.1 x.2.1.1 x.2.1.2.1 x.2.1.2.2.1):S.mD.ok X0 λx=>M.EO kJ x.1.2.1 x.2.1.1 x.2.1.2.1 x.2.1.2.2.1 some:=fnS (λx=>M.EO kJ x.1.2.1 x.2.1.1 x.2.1.2.1 x.2.1.2.2.1) [fe C.bF,fe C.bI] [F.Ob Xv] (by intros;simp only[M.EO,nb]<;>rfl)
def M.zL:Nat->(zac)×(zac):=Nat.rec (λ_ _ _ _=>none,λ_ _ _ _=>none) λ_ qz=>(λdeep c c1 c2=>M.EO qz.2 deep c c1 c2 some,λdeep c c1 c2=>M.D9 qz.1 deep c c1 c2 some)
def M.EP n:=(M.zL n).1
def M.zl n:=(M.zL n).2
def M.aiC(n:Nat):M.EP (n+1)=λdeep c c1 c2=>M.EO (M.zl n) deep c c1 c2 some:=rfl
def M.abm(n:Nat):M.zl (n+1)=λdeep c c1 c2=>M.D9 (M.EP n) deep c c1 c2 some:=rfl
def M.mD deep c c1 c2:=lim λn=>M.EP n deep c c1 c2
def M.FW deep c c1 c2:=lim λn=>M.zl n deep c c1 c2
def C.zL:∀n,(S.mD.ok X0 λx=>M.EP n x.1.2.1 x.2.1.1 x.2.1.2.1 x.2.1.2.2.1)/\(S.FW.ok X0 λx=>M.zl n x.1.2.1 x.2.1.1 x.2.1.2.1 x.2.1.2.2.1)
 |0=>⟨dO.zero,dO.zero⟩
 |n+1=>have h:=C.zL n;⟨C.af9 h.2,C.aiA h.1⟩
def C.mD:S.mD.ok X0 λx=>M.mD x.1.2.1 x.2.1.1 x.2.1.2.1 x.2.1.2.2.1:=dO.lim λn=>(C.zL n).1
def M.aga{n:Nat}{deep:Int}{c:au}{c1 c2:Int}{r:au×au×Int×Int}(h:M.EP n deep c c1 c2=some r):M.mD deep c c1 c2=some r:=dO.AO (λn=>(C.zL n).1) (by intro a b h;simp[S.mD,sg] at h;first|exact h|simp[Prod.ext_iff,h]) (x:=(((),deep,()),((c,c1,c2,()),()))) h
def C.FW:S.FW.ok X0 λx=>M.FW x.1.2.1 x.2.1.1 x.2.1.2.1 x.2.1.2.2.1:=dO.lim λn=>(C.zL n).2
def M.Je(deep:Int)(s:Int×au×Int×Int×au)(kn:Int×au×Int×Int×au->Option R)(ke:Int×au×Int×Int×au->Option R):Option R:=match s with
 |(n',v,v1,v2,x')=>bif decide (n'>0) then((M.iW v v1 v2).bind λa=>jA x' [[D.sl true 5 [[D.int .i64 1,D.int .i64 0,D.str a.1,D.str [],D.sl true 1 []]]]] 24 λb=>kn (i64.wrap (n' - 1),a.2.1,a.2.2.1,a.2.2.2,b)) else ke (n',v,v1,v2,x')
def M.Qo deep s:=M.Je deep s (λs=>some (Sum.inl s)) λt=>some (Sum.inr t)
def M.Oc deep s:=dM (M.Qo deep) s
def F.Oc:LE X0 35:=le 16 (Ef [bH 0 (pP 100000 0),bH 3 pI,bH 4 (pO 300000 0),bH 5 pI] [bH 100000 (cB 48 zbe),bH 300000 zbg]) (λx=>(x.1.va.1,x.2.1.1,x.2.1.2.1,x.2.1.2.2.1,x.2.2.1)) (λx s=>(((),x.1.2.1,(),s.1,()),((s.2.1,s.2.2.1,s.va.1,()),s.va.2,()))) (λx=> .leaf zax (λt=>(Ex.exit 1,⟨[(0,V.ptr 100000 0),(3,gX x.1.2.1),(4,V.own 300000 0),(5,gX t.1),(65,rO false)],[(100000,Cell.box 48 [Dw 1 t.2.1,gX t.2.2.1,gX t.va.1]),(300000,Cell.arr false false 0 1 t.va.2)]⟩))) (λx=>M.Je x.1.2.1) [fe C.iW] [] (by rintro _ _ ⟨_,_,_,_,_⟩ _ _<;>simp only[jA,M.Je,nb]<;>rfl)
abbrev M.TF(c:au)(c1 c2:Int)(k:au×au×Int×Int->Option R):=(M.bF 2 c c1 c2).bind λb=>(M.bF 8 b.2.1 b.2.2.1 b.2.2.2).bind λa=>cond (a.1==0) ((M.bF 2 a.2.1 a.2.2.1 a.2.2.2).bind λm=>(M.mD (i64.wrap (1+b.1)) m.2.1 m.2.2.1 m.2.2.2).bind λp=>(M.bI (i64.wrap (40+m.1)) 0 [] [] [] (aG [[D.sl true 5 p.1]])).bind λv=>cond ([[D.sl true 5 v]].all bg) (k (v,p.2.1,p.2.2.1,p.2.2.2)) none) (cond (a.1==1) ((M.fK (i64.wrap (1+b.1)) a.2.1 a.2.2.1 a.2.2.2).bind λr=>(M.bI 42 1 [] [] [] (aG [[D.sl true 5 r.1]])).bind λA=>cond ([[D.sl true 5 A]].all bg) (k (A,r.2.1,r.2.2.1,r.2.2.2)) none) (cond (a.1==2) ((M.mD (i64.wrap (1+b.1)) a.2.1 a.2.2.1 a.2.2.2).bind λg=>(M.bI 42 2 [] [] [] (aG [[D.sl true 5 g.1]])).bind λw=>cond ([[D.sl true 5 w]].all bg) (k (w,g.2.1,g.2.2.1,g.2.2.2)) none) (cond (a.1==3) ((M.fK 1 a.2.1 a.2.2.1 a.2.2.2).bind λd=>(M.fK 1 d.2.1 d.2.2.1 d.2.2.2).bind λj=>(M.bI 43 1 [] [] [] (aG [[D.sl true 5 d.1],[D.sl true 5 j.1]])).bind λy=>cond ([[D.sl true 5 y]].all bg) (k (y,j.2.1,j.2.2.1,j.2.2.2)) none) (cond (a.1==4) ((M.fK 1 a.2.1 a.2.2.1 a.2.2.2).bind λt=>(M.fK 1 t.2.1 t.2.2.1 t.2.2.2).bind λq=>(M.mD (i64.wrap (1+b.1)) q.2.1 q.2.2.1 q.2.2.2).bind λl=>(M.bI 43 3 [] [] [] (aG [[D.sl true 5 t.1],[D.sl true 5 q.1],[D.sl true 5 l.1]])).bind λx=>cond ([[D.sl true 5 x]].all bg) (k (x,l.2.1,l.2.2.1,l.2.2.2)) none) (cond (a.1==5) ((M.bF 3 a.2.1 a.2.2.1 a.2.2.2).bind λo=>(M.Oc (i64.wrap (1+b.1)) (o.1,o.2.1,o.2.2.1,o.2.2.2,[])).bind λf=>(M.iG ([[D.str [102]],[D.str [103]],[D.str [109,97,120]]]) f.2.1 f.2.2.1 f.2.2.2.1).bind λe=>(M.mD (i64.wrap (1+b.1)) e.2.1 e.2.2.1 e.2.2.2).bind λs=>jA f.2.2.2.2 [[D.sl true 5 s.1]] 24 λB=>(M.bI 44 0 e.1 [] [] (aG B)).bind λu=>cond ([[D.sl true 5 u]].all bg) (k (u,s.2.1,s.2.2.1,s.2.2.2)) none) (cond (a.1==6) ((M.iG ([[D.str [35,32,116,111,112]],[D.str [35]]]) a.2.1 a.2.2.1 a.2.2.2).bind λh=>k ([[D.int .i64 34,D.int .i64 0,D.str h.1,D.str [],D.sl true 1 []]],h.2.1,h.2.2.1,h.2.2.2)) ((M.fK (i64.wrap (1+b.1)) a.2.1 a.2.2.1 a.2.2.2).bind λi=>(M.mD (i64.wrap (1+b.1)) i.2.1 i.2.2.1 i.2.2.2).bind λn=>(M.bI 42 3 [] [] [] (aG [[D.sl true 5 i.1],[D.sl true 5 n.1]])).bind λz=>cond ([[D.sl true 5 z]].all bg) (k (z,n.2.1,n.2.2.1,n.2.2.2)) none)))))))
def M.FX c c1 c2:=M.TF c c1 c2 some
def C.FX:=fTa S.FX (λx=>M.TF x.2.1.1 x.2.1.2.1 x.2.1.2.2.1) [fe C.bF,fe C.mD,fe C.bI,fe C.fK,fe C.iG] [F.Oc]
def M.Eo(s:Int×au×Int×Int×au)(kn:Int×au×Int×Int×au->Option R)(ke:Int×au×Int×Int×au->Option R):Option R:=match s with
 |(n',v,v1,v2,x')=>bif decide (n'>0) then((M.FX v v1 v2).bind λa=>jA x' [[D.sl true 5 a.1]] 24 λb=>kn (i64.wrap (n' - 1),a.2.1,a.2.2.1,a.2.2.2,b)) else ke (n',v,v1,v2,x')
def M.Ns s:=M.Eo s (λs=>some (Sum.inl s)) λt=>some (Sum.inr t)
def M.BN s:=dM (M.Ns) s
def F.BN:LE X0 22:=le 3 (Ef [bH 0 (pP 100000 0),bH 3 (pO 300000 0),bH 4 pI] [bH 100000 (cB 48 zbe),bH 300000 zbg]) (λx=>(x.1.2.2.1,x.2.1.1,x.2.1.2.1,x.2.1.2.2.1,x.2.2.1)) (λx s=>(((),(),s.1,()),((s.2.1,s.2.2.1,s.va.1,()),s.va.2,()))) (λx=> .leaf zax (λt=>(Ex.exit 2,⟨[(0,V.ptr 100000 0),(3,V.own 300000 0),(4,gX t.1),(10,rO false)],[(100000,Cell.box 48 [Dw 1 t.2.1,gX t.2.2.1,gX t.va.1]),(300000,Cell.arr false false 0 1 t.va.2)]⟩))) (λx=>M.Eo) [fe C.FX] [] (by rintro _ _ ⟨_,_,_,_,_⟩ _ _<;>simp only[jA,M.Eo,nb]<;>rfl)
def M.yj(s:(au×Int×Int)⊕zaJ)(kn:(au×Int×Int)⊕zaJ->Option R)(ke:au×Int×Int×au->Option R):Option R:=match s with
 | .inl (v,v1,v2)=>(M.bF 4 v v1 v2).bind λe=>((M.BN (e.1,e.2.1,e.2.2.1,e.2.2.2,[])).bind λb=>(M.bI 45 0 [] [] [] (aG b.2.2.2.2)).bind λc=>bif[[D.sl true 5 c]].all bg then(bif decide ((↑c.length:Int)<=220) then(ke (b.2.1,b.2.2.1,b.2.2.2.1,c)) else kn (.inr (false,b.2.1,b.2.2.1,b.2.2.2.1,c))) else none)
 | .inr (v23,v,v1,v2,x')=>(M.bF 4 v v1 v2).bind λf=>(M.BN (f.1,f.2.1,f.2.2.1,f.2.2.2,[])).bind λa=>(M.bI 45 0 [] [] [] (aG a.2.2.2.2)).bind λd=>bif[[D.sl true 5 d]].all bg then(bif decide ((↑d.length:Int)<=220) then(ke (a.2.1,a.2.2.1,a.2.2.2.1,d)) else kn (.inr (false,a.2.1,a.2.2.1,a.2.2.2.1,d))) else none
def M.yt s:=M.yj s (λs=>some (Sum.inl s)) λt=>some (Sum.inr t)
def M.Jf s:=dM (M.yt) s
def F.Jf:LE X0 22:=le 1 (pOr (Ef [bH 0 (pP 100000 0)] [bH 100000 (cB 48 zbe)]) (Ef [bH 0 (pP 100000 0),bH 5 (pO 300000 0),bH 23 pB] [bH 100000 (cB 48 zbe),bH 300000 zbc])) (σ:=(au×Int×Int)⊕zaJ) (λx=>(match x with| .inl x=> .inl ((x.2.1.1,x.2.1.2.1,x.2.1.2.2.1))| .inr x=> .inr ((x.1.2.2.1,x.2.1.1,x.2.1.2.1,x.2.1.2.2.1,x.2.2.1)))) (λx s=>(match s with| .inl s=> .inl ((((),()),((s.1,s.2.1,s.2.2,()),())))| .inr s=> .inr ((((),(),s.1,()),((s.2.1,s.2.2.1,s.va.1,()),s.va.2,()))))) (λx=> .leaf zaK (λt=>(Ex.ret,⟨[(2,V.own 300000 0)],[(100000,Cell.box 48 [Dw 1 t.1,gX t.2.1,gX t.2.2.1]),(300000,Cell.arr false false 0 5 t.va)]⟩))) (λx=>M.yj) [fe C.bF,fe C.bI] [F.BN] (by rintro _ _ (⟨_,_,_⟩|⟨_,_,_,_,_⟩) _ _<;>unfold M.yj<;>exact zbo) (hE:=by intro _ _ s _;rcases s with s|s<;>kernel_rfl)
abbrev M.Lc(c:au)(c1 c2:Int)(k:au×au×Int×Int->Option R):=(M.Jf (.inl (c,c1,c2))).bind λa=>k (a.2.2.2,a.1,a.2.1,a.2.2.1)
def M.wP c c1 c2:=M.Lc c c1 c2 some
def C.wP:=fTa S.wP (λx=>M.Lc x.2.1.1 x.2.1.2.1 x.2.1.2.2.1) [] [F.Jf]
def M.vC(s:Int×au×Int×Int)(kn:Int×au×Int×Int->Option R)(ke:zaK⊕(Int×au×Int×Int)->Option R):Option R:=match s with
 |(n',v,v1,v2)=>bif decide (n'<4) then((M.wP v v1 v2).bind λa=>bif decide ((↑a.1.length:Int)<40) then(ke (.inl (a.2.1,a.2.2.1,a.2.2.2,a.1))) else kn (i64.wrap (n'+1),a.2.1,a.2.2.1,a.2.2.2)) else ke (.inr (n',v,v1,v2))
def M.Gu s:=M.vC s (λs=>some (Sum.inl s)) λt=>some (Sum.inr t)
def M.qZ s:=dM (M.Gu) s
def F.qZ:LE X0 13:=le 2 (Ef [bH 0 (pP 100000 0),bH 3 pI] [bH 100000 (cB 48 zbe)]) (λx=>(x.1.2.1,x.2.1.1,x.2.1.2.1,x.2.1.2.2.1)) (λx s=>(((),s.1,()),((s.2.1,s.2.2.1,s.va,()),()))) (λx=> .sum (.leaf zaK (λt=>(Ex.ret,⟨[(2,V.own 300000 0)],[(100000,Cell.box 48 [Dw 1 t.1,gX t.2.1,gX t.2.2.1]),(300000,Cell.arr false false 0 5 t.va)]⟩))) (.leaf (Int×au×Int×Int) (λt=>(Ex.exit 0,⟨[(0,V.ptr 100000 0),(3,gX t.1),(6,rO false)],[(100000,Cell.box 48 [Dw 1 t.2.1,gX t.2.2.1,gX t.va])]⟩)))) (λx=>M.vC) [fe C.wP] [] (by rintro _ _ ⟨_,_,_,_⟩ _ _<;>simp only[M.vC,nb]<;>rfl)
abbrev M.Oe(c:au)(c1 c2:Int)(k:au×au×Int×Int->Option R):=(M.qZ (0,c,c1,c2)).bind λe=>pz e (λa=>k (a.2.2.2,a.1,a.2.1,a.2.2.1)) λd=>letE d λb=>(M.bI 45 0 [] [] [] []).bind λf=>k (f,b.2.1,b.2.2.1,b.2.2.2)
def M.vT c c1 c2:=M.Oe c c1 c2 some
def C.vT:=fTa S.vT (λx=>M.Oe x.2.1.1 x.2.1.2.1 x.2.1.2.2.1) [fe C.bI] [F.qZ]
abbrev M.BO(x' low high:Int)(k:Bool->Option R):=cond (decide (x'>=low)) (k (decide (x'<=high))) (k false)
def M.dA x' low high:=M.BO x' low high some
def C.dA:=fTa S.dA (λx=>M.BO x.1.1 x.1.2.1 x.1.2.2.1)
def M.zM(l:au)(i:Int)(x':au)(s:Int×Int)(kn:Int×Int->Option R)(ke:(Unit)⊕(Int×Int)->Option R):Option R:=match s with
 |(at',k')=>bif decide (k'>=0) then((idx l i).bind λe=>(NK 1 e 4).bind λd=>(idx d k').bind λf=>(bK .i64 f 0).bind λa=>bif a !=i64.wrap (at' - 1) then(ke (.inl ())) else bif at'==0 then(ke (.inl ())) else (idx x' (i64.wrap (at' - 1))).bind λg=>(x'[(i64.wrap (at' - 1)).toNat]?).bind λc=>(bK .i64 c 0).bind λb=>kn (b,i64.wrap (k' - 1))) else ke (.inr (at',k'))
def M.Gv l i x' s:=M.zM l i x' s (λs=>some (Sum.inl s)) λt=>some (Sum.inr t)
def M.vF l i x' s:=dM (M.Gv l i x') s
def F.vF:LE X0 163:=le 7 (Ef [bH 0 (pL false 5),bH 4 (pO 300000 0),bH 5 pI,bH 6 pI,bH 7 pI] [bH 300000 zba]) (λx=>(x.1.va.1,x.1.va.2.1)) (λx s=>((x.1.1,(),x.1.2.2.1,s.1,s.2,()),(x.2.1,()))) (λx=> .sum (.leaf (Unit) (λt=>(Ex.ret,⟨[(2,V.own 300000 0),(3,rO false)],[(300000,Cell.arr false true 0 1 [])]⟩))) (.leaf (Int×Int) (λt=>(Ex.exit 2,⟨[(0,Dw 5 x.1.1),(4,V.own 300000 0),(5,gX x.1.2.2.1),(6,gX t.1),(7,gX t.2),(24,rO false)],[(300000,Cell.arr false true 0 1 x.2.1)]⟩)))) (λx=>M.zM x.1.1 x.1.2.2.1 x.2.1) [] [] (by rintro _ _ ⟨_,_⟩ _ _<;>simp only[M.zM,nb]<;>rfl)
def M.zN(l:au)(s:Int×au)(kn:Int×au->Option R)(ke:(Unit)⊕(Int×au)->Option R):Option R:=match s with
 |(i,x')=>bif decide (i<(↑l.length:Int)) then((idx l i).bind λc=>(NK 1 c 4).bind λd=>(M.vF l i x' (i,i64.wrap ((↑d.length:Int) - 1))).bind λe=>pz e (λf=>ke (.inl ())) λb=>letE b λa=>jA x' [[D.int .i64 a.1]] 8 λg=>kn (i64.wrap (i+1),g)) else ke (.inr (i,x'))
def M.Gw l s:=M.zN l s (λs=>some (Sum.inl s)) λt=>some (Sum.inr t)
def M.vG l s:=dM (M.Gw l) s
def F.vG:LE X0 163:=le 3 (Ef [bH 0 (pL false 5),bH 4 (pO 300000 0),bH 5 pI] [bH 300000 zba]) (λx=>(x.1.2.2.1,x.2.1)) (λx s=>((x.1.1,(),s.1,()),(s.2,()))) (λx=> .sum (.leaf (Unit) (λt=>(Ex.ret,⟨[(2,V.own 300000 0),(3,rO false)],[(300000,Cell.arr false true 0 1 [])]⟩))) (.leaf (Int×au) (λt=>(Ex.exit 0,⟨[(0,Dw 5 x.1.1),(4,V.own 300000 0),(5,gX t.1),(12,rO false)],[(300000,Cell.arr false true 0 1 t.2)]⟩)))) (λx=>M.zN x.1.1) [] [F.vF] (by rintro _ _ ⟨_,_⟩ _ _<;>simp only[jA,M.zN,nb]<;>rfl)
abbrev M.Og(l:au)(k:au×Bool->Option R):=(M.vG l (0,[])).bind λc=>pz c (λd=>k ([],false)) λb=>letE b λa=>cond (aA a.2) (k (a.2,true)) none
def M.DJ l:=M.Og l some
def C.DJ:=fTa S.DJ (λx=>M.Og x.1.1) [] [F.vG]
abbrev M.Qp(l:au)(k:Bool->Option R):=(M.dA ((↑l.length:Int)) 1 400).bind λd=>cond (!d) (k false) ((M.DJ l).bind λa=>cond a.2 ((idx a.1 (i64.wrap ((↑l.length:Int) - 1))).bind λe=>(a.1[(i64.wrap ((↑l.length:Int) - 1)).toNat]?).bind λc=>(bK .i64 c 0).bind λb=>k (b==0)) (k false))
def M.vU l:=M.Qp l some
def C.vU:=fTa S.vU (λx=>M.Qp x.1.1) [fe C.dA,fe C.DJ]
def M.BP(l:au)(i:Int)(x':au)(s:Int×Int)(kn:Int×Int->Option R)(ke:Int×Int->Option R):Option R:=match s with
 |(n',k')=>(idx l i).bind λh=>(NK 1 h 4).bind λc=>bif decide (k'<(↑c.length:Int)) then((idx l i).bind λe=>(NK 1 e 4).bind λd=>(idx d k').bind λf=>(bK .i64 f 0).bind λa=>(idx x' a).bind λj=>x'[a.toNat]?.bind λg=>(bK .i64 g 0).bind λb=>kn (bif decide (n'<i64.wrap (1+b)) then i64.wrap (1+b) else n',i64.wrap (k'+1))) else ke (n',k')
def M.Jg l i x' s:=M.BP l i x' s (λs=>some (Sum.inl s)) λt=>some (Sum.inr t)
def M.H9 l i x' s:=dM (M.Jg l i x') s
def F.H9:LE X0 125:=le 9 (Ef [bH 0 (pL false 5),bH 3 (pO 300000 0),bH 4 pI,bH 5 pI,bH 6 pI] [bH 300000 zba]) (λx=>(x.1.va.1,x.1.va.2.1)) (λx s=>((x.1.1,(),x.1.2.2.1,s.1,s.2,()),(x.2.1,()))) (λx=> .leaf (Int×Int) (λt=>(Ex.exit 2,⟨[(0,Dw 5 x.1.1),(3,V.own 300000 0),(4,gX x.1.2.2.1),(5,gX t.1),(6,gX t.2),(24,rO false)],[(300000,Cell.arr false true 0 1 x.2.1)]⟩))) (λx=>M.BP x.1.1 x.1.2.2.1 x.2.1) [] [] (by rintro _ _ ⟨_,_⟩ _ _<;>simp only[M.BP,nb]<;>rfl)
def M.BQ(l:au)(s:Int×au)(kn:Int×au->Option R)(ke:Int×au->Option R):Option R:=match s with
 |(i,x')=>bif decide (i<(↑l.length:Int)) then((M.H9 l i x' (1,0)).bind λa=>jA x' [[D.int .i64 a.1]] 8 λb=>kn (i64.wrap (i+1),b)) else ke (i,x')
def M.Jh l s:=M.BQ l s (λs=>some (Sum.inl s)) λt=>some (Sum.inr t)
def M.Oh l s:=dM (M.Jh l) s
def F.Oh:LE X0 125:=le 5 (Ef [bH 0 (pL false 5),bH 3 (pO 300000 0),bH 4 pI] [bH 300000 zba]) (λx=>(x.1.2.2.1,x.2.1)) (λx s=>((x.1.1,(),s.1,()),(s.2,()))) (λx=> .leaf (Int×au) (λt=>(Ex.exit 0,⟨[(0,Dw 5 x.1.1),(3,V.own 300000 0),(4,gX t.1),(14,rO false)],[(300000,Cell.arr false true 0 1 t.2)]⟩))) (λx=>M.BQ x.1.1) [] [F.H9] (by rintro _ _ ⟨_,_⟩ _ _<;>simp only[jA,M.BQ,nb]<;>rfl)
abbrev M.Qq(l:au)(k:Int->Option R):=(M.vU l).bind λc=>cond (!c) (k 0) ((M.Oh l (0,[])).bind λb=>(idx b.2 (i64.wrap ((↑l.length:Int) - 1))).bind λe=>(b.2[(i64.wrap ((↑l.length:Int) - 1)).toNat]?).bind λd=>(bK .i64 d 0).bind λa=>k a)
def M.Bo l:=M.Qq l some
def C.Bo:=fTa S.Bo (λx=>M.Qq x.1.1) [fe C.vU] [F.Oh]
abbrev M.bZ(n' fV:Int)(iM iL:aC)(jo:au)(k:Int×Int->Option R):=cond (n'==5) (k (1,6)) (cond (n'==13) (k (1,6)) (cond (n'==7) (k (0,6)) (cond (n'==8) (k (0,6)) (cond (n'==27) (k (0,6)) (cond (n'==6) (k (1,1)) (cond (n'==9) (k (1,1)) (cond (n'==10) (k (1,1)) (cond (n'==11) (k (1,1)) (cond (n'==20) (k (1,1)) (cond (n'==32) (k (1,1)) (cond (n'==40) (k (1,1)) (cond (n'==41) (k (1,1)) (cond (n'==12) (k (2,2)) (cond (n'==15) (k (2,2)) (cond (n'==29) (k (2,2)) (cond (n'==30) (k (2,2)) (cond (n'==14) (k (3,3)) (cond (n'==21) (cond (!iL==[]) (k (i64.wrap (fV+1),7)) (k (fV,6))) (cond (n'==23) (k (0,1)) (cond (n'==24) (k (0,1)) (cond (n'==28) (k (2,3)) (cond (n'==31) (k (4,4)) (cond (n'==33) (k (0,(↑jo.length:Int))) (cond (n'==45) (k (0,(↑jo.length:Int))) (cond (n'==42) (k (i64.wrap (1+i64.wrap (fV.tdiv 3)),i64.wrap (1+i64.wrap (fV.tdiv 3)))) (cond (n'==43) (k (i64.wrap (2+i64.wrap (fV.tdiv 3)),i64.wrap (2+i64.wrap (fV.tdiv 3)))) (cond (n'==44) (k (1,7)) (k (0,0)))))))))))))))))))))))))))))
def M.dI n' fV iM iL jo:=M.bZ n' fV iM iL jo some
def C.dI:=fTa S.dI (λx=>M.bZ x.1.1.1 x.1.1.2.1 x.1.1.2.2.1 x.1.1.va.1 x.1.1.va.2.1)
abbrev M.Qr(op':Int)(k:Bool->Option R):=cond (op'==60) (k true) (cond (op'==57) (k true) (cond (op'==58) (k true) (cond (op'==59) (k true) (cond (op'==55) (k true) (cond (op'==56) (k true) (cond (op'==99) (k true) (cond (op'==63) (k true) (cond (op'==48) (k true) (cond (op'==47) (k true) (cond (op'==50) (k true) (cond (op'==62) (k true) (cond (op'==49) (k true) (cond (op'==67) (k true) (cond (op'==46) (k true) (cond (op'==45) (k true) (cond (op'==44) (k true) (k false)))))))))))))))))
def M.Bq op':=M.Qr op' some
def C.Bq:=fTa S.Bq (λx=>M.Qr x.1.1)
abbrev M.Ji(op':Int)(k:Bool->Option R):=cond (op'==54) (k true) ((M.dA op' 38 43).bind λa=>k a)
def M.uI op':=M.Ji op' some
def C.uI:=fTa S.uI (λx=>M.Ji x.1.1) [fe C.dA]
abbrev M.dW(n' fV:Int)(iM iL:aC)(jo:au)(k:Bool->Option R):=cond (n'==9) (cond (fV==51) (k true) (k (fV==52))) (cond (n'==10) (cond (fV==51) (k true) (k (fV==52))) (cond (n'==11) (cond (fV==55) (k true) (cond (fV==56) (k true) (k (fV==61)))) (cond (n'==12) ((M.Bq fV).bind λc=>k c) (cond (n'==15) ((M.uI fV).bind λd=>k d) (cond (n'==21) ((M.dA fV 0 1).bind λb=>k b) (cond (n'==42) ((M.dA fV 1 3).bind λa=>k a) (cond (n'==43) (cond (fV==1) (k true) (k (fV==3))) (k (fV==0)))))))))
def M.fE n' fV iM iL jo:=M.dW n' fV iM iL jo some
def C.fE:=fTa S.fE (λx=>M.dW x.1.1.1 x.1.1.2.1 x.1.1.2.2.1 x.1.1.va.1 x.1.1.va.2.1) [fe C.Bq,fe C.uI,fe C.dA]
abbrev M.Oi(b:Int)(k:Bool->Option R):=(M.dA b 97 122).bind λa=>cond a (k true) ((M.dA b 65 90).bind λc=>cond c (k true) (k (b==95)))
def M.rQ b:=M.Oi b some
def C.rQ:=fTa S.rQ (λx=>M.Oi x.1.1) [fe C.dA]
abbrev M.Qs(b:Int)(k:Bool->Option R):=(M.dA b 48 57).bind λa=>k a
def M.vV b:=M.Qs b some
def C.vV:=fTa S.vV (λx=>M.Qs x.1.1) [fe C.dA]
abbrev M.Jj(b:Int)(k:Bool->Option R):=(M.rQ b).bind λa=>cond a (k true) ((M.vV b).bind λc=>k c)
def M.lF b:=M.Jj b some
def C.lF:=fTa S.lF (λx=>M.Jj x.1.1) [fe C.rQ,fe C.vV]
def M.yu(s':aC)(s:Int)(kn:Int->Option R)(ke:(Unit)⊕(Int)->Option R):Option R:=match s with
 |i=>bif decide (i<(↑s'.length:Int)) then((idx s' i).bind λa=>(M.lF (i64.wrap (↑a.toNat:Int))).bind λb=>bif !b then(ke (.inl ())) else kn (i64.wrap (i+1))) else ke (.inr i)
def M.Ep s' s:=M.yu s' s (λs=>some (Sum.inl s)) λt=>some (Sum.inr t)
def M.Jk s' s:=dM (M.Ep s') s
def F.Jk:LE X0 224:=le 2 (Ef [bH 0 pS,bH 3 pI] []) (λx=>x.1.2.1) (λx s=>((x.1.1,s,()),())) (λx=> .sum (.leaf (Unit) (λt=>(Ex.ret,⟨[(2,rO false)],[]⟩))) (.leaf (Int) (λt=>(Ex.exit 0,⟨[(0,yI x.1.1),(3,gX t),(7,rO false)],[]⟩)))) (λx=>M.yu x.1.1) [fe C.lF] [] (by rintro _ _ _ _ _<;>simp only[M.yu,nb]<;>rfl)
abbrev M.Ld(s':aC)(k:Bool->Option R):=(M.Jk s' 0).bind λc=>pz c (λf=>k false) λb=>letE b λg=>(M.dA ((↑s'.length:Int)) 1 12).bind λd=>cond d ((idx s' 0).bind λe=>(M.rQ (i64.wrap (↑e.toNat:Int))).bind λa=>k a) (k false)
def M.wQ s':=M.Ld s' some
def C.wQ:=fTa S.wQ (λx=>M.Ld x.1.1) [fe C.dA,fe C.rQ] [F.Jk]
abbrev M.VZ(k:au->Option R):=k ([[D.str [66,69,71,73,78]],[D.str [69,78,68]],[D.str [102,117,110,99,116,105,111,110]],[D.str [105,102]],[D.str [101,108,115,101]],[D.str [119,104,105,108,101]],[D.str [102,111,114]],[D.str [100,111]],[D.str [98,114,101,97,107]],[D.str [99,111,110,116,105,110,117,101]],[D.str [110,101,120,116]],[D.str [101,120,105,116]],[D.str [114,101,116,117,114,110]],[D.str [100,101,108,101,116,101]],[D.str [105,110]],[D.str [112,114,105,110,116]],[D.str [112,114,105,110,116,102]]])
def M.yK:Option (au):=M.VZ some
def C.yK:=fTa S.yK (λx=>M.VZ)
def M.ER(l:au)(s':aC)(s:Int)(kn:Int->Option R)(ke:(Int)⊕(Int)->Option R):Option R:=match s with
 |i=>bif decide (i<(↑l.length:Int)) then((idx l i).bind λa=>(cStr a 0).bind λb=>bif b==s' then(ke (.inl i)) else kn (i64.wrap (i+1))) else ke (.inr i)
def M.Le l s' s:=M.ER l s' s (λs=>some (Sum.inl s)) λt=>some (Sum.inr t)
def M.Qu l s' s:=dM (M.Le l s') s
def F.Qu:LE X0 229:=le 2 (Ef [bH 0 (pL false 1),bH 1 pS,bH 5 pI] []) (λx=>x.1.2.2.1) (λx s=>((x.1.1,x.1.2.1,s,()),())) (λx=> .sum (.leaf (Int) (λt=>(Ex.ret,⟨[(4,gX t)],[]⟩))) (.leaf (Int) (λt=>(Ex.exit 0,⟨[(0,Dw 1 x.1.1),(1,yI x.1.2.1),(5,gX t),(9,rO false)],[]⟩)))) (λx=>M.ER x.1.1 x.1.2.1) [] [] (by rintro _ _ _ _ _<;>simp only[M.ER,nb]<;>rfl)
abbrev M.TI(l:au)(s':aC)(k:Int->Option R):=(M.Qu l s' 0).bind λa=>pz a (λb=>k b) λc=>letE c λd=>k (-1)
def M.yY l s':=M.TI l s' some
def C.yY:=fTa S.yY (λx=>M.TI x.1.1 x.1.2.1) [] [F.Qu]
abbrev M.Lh(s':aC)(k:Int->Option R):=M.yK.bind λb=>(M.yY b s').bind λa=>cond (decide (a<0)) (k 0) (k (i64.wrap (10+a)))
def M.wR s':=M.Lh s' some
def C.wR:=fTa S.wR (λx=>M.Lh x.1.1) [fe C.yK,fe C.yY]
abbrev M.Jl(k:au->Option R):=k ([[D.str [97,116,97,110,50]],[D.str [99,108,111,115,101]],[D.str [99,111,115]],[D.str [101,120,112]],[D.str [103,115,117,98]],[D.str [105,110,100,101,120]],[D.str [105,110,116]],[D.str [108,101,110,103,116,104]],[D.str [108,111,103]],[D.str [109,97,116,99,104]],[D.str [114,97,110,100]],[D.str [115,105,110]],[D.str [115,112,108,105,116]],[D.str [115,112,114,105,110,116,102]],[D.str [115,113,114,116]],[D.str [115,114,97,110,100]],[D.str [115,117,98]],[D.str [115,117,98,115,116,114]],[D.str [115,121,115,116,101,109]],[D.str [116,111,108,111,119,101,114]],[D.str [116,111,117,112,112,101,114]]])
def M.oM:Option (au):=M.Jl some
def C.oM:=fTa S.oM (λx=>M.Jl)
abbrev M.Lj(s':aC)(k:Bool->Option R):=M.oM.bind λb=>(M.yY b s').bind λa=>k (decide (a>=0))
def M.mP s':=M.Lj s' some
def C.mP:=fTa S.mP (λx=>M.Lj x.1.1) [fe C.oM,fe C.yY]
abbrev M.TJ(s':aC)(k:Bool->Option R):=(M.wQ s').bind λc=>cond c ((M.wR s').bind λb=>cond (b==0) ((M.mP s').bind λa=>k !a) (k false)) (k false)
def M.jW s':=M.TJ s' some
def C.jW:=fTa S.jW (λx=>M.TJ x.1.1) [fe C.wQ,fe C.wR,fe C.mP]
def M.BR(s':aC)(s:Int)(kn:Int->Option R)(ke:(Unit)⊕(Int)->Option R):Option R:=match s with
 |i=>bif decide (i<(↑s'.length:Int)) then((idx s' i).bind λa=>bif(↑a.toNat:Int)==10 then(ke (.inl ())) else kn (i64.wrap (i+1))) else ke (.inr i)
def M.BU s' s:=M.BR s' s (λs=>some (Sum.inl s)) λt=>some (Sum.inr t)
def M.Oj s' s:=dM (M.BU s') s
def F.Oj:LE X0 162:=le 2 (Ef [bH 0 pS,bH 3 pI] []) (λx=>x.1.2.1) (λx s=>((x.1.1,s,()),())) (λx=> .sum (.leaf (Unit) (λt=>(Ex.ret,⟨[(2,rO false)],[]⟩))) (.leaf (Int) (λt=>(Ex.exit 0,⟨[(0,yI x.1.1),(3,gX t),(7,rO false)],[]⟩)))) (λx=>M.BR x.1.1) [] [] (by rintro _ _ _ _ _<;>simp only[M.BR,nb]<;>rfl)
abbrev M.Qv(s':aC)(k:Bool->Option R):=(M.Oj s' 0).bind λa=>pz a (λc=>k false) λb=>letE b λd=>k true
def M.vW s':=M.Qv s' some
def C.vW:=fTa S.vW (λx=>M.Qv x.1.1) [] [F.Oj]
abbrev M.TK(s':aC)(at':Int)(k:Int->Option R):=cond (decide (at'<0)) (k (-1)) (cond (decide (at'>=(↑s'.length:Int))) (k (-1)) ((idx s' at').bind λa=>k (i64.wrap (↑a.toNat:Int))))
def M.jR s' at':=M.TK s' at' some
def C.jR:=fTa S.jR (λx=>M.TK x.1.1 x.1.2.1)
def M.Gx(s':aC)(s:Int)(kn:Int->Option R)(ke:Int->Option R):Option R:=match s with
 |at'=>(M.jR s' at').bind λb=>(M.vV b).bind λa=>bif a then(kn (i64.wrap (at'+1))) else ke at'
def M.V3 s' s:=M.Gx s' s (λs=>some (Sum.inl s)) λt=>some (Sum.inr t)
def M.Ll s' s:=dM (M.V3 s') s
def F.Ll:LE X0 248:=le 1 (Ef [bH 0 pS,bH 1 pI] []) (λx=>x.1.2.1) (λx s=>((x.1.1,s,()),())) (λx=> .leaf (Int) (λt=>(Ex.exit 0,⟨[(0,yI x.1.1),(1,gX t),(8,rO false)],[]⟩))) (λx=>M.Gx x.1.1) [fe C.jR,fe C.vV] [] (by rintro _ _ _ _ _<;>simp only[M.Gx,nb]<;>rfl)
abbrev M.Ol(s':aC)(at':Int)(k:Int->Option R):=(M.Ll s' at').bind λa=>k a
def M.eY s' at':=M.Ol s' at' some
def C.eY:=fTa S.eY (λx=>M.Ol x.1.1 x.1.2.1) [] [F.Ll]
abbrev M.xu(s':aC)(RP:Int)(k:Int->Option R):=(M.jR s' (i64.wrap (RP+1))).bind λb=>cond (b==43) ((M.eY s' (i64.wrap (i64.wrap (RP+1)+1))).bind λg=>cond (decide (g>i64.wrap (i64.wrap (RP+1)+1))) ((M.eY s' (i64.wrap (i64.wrap (RP+1)+1))).bind λd=>k d) (k RP)) ((M.jR s' (i64.wrap (RP+1))).bind λc=>cond (c==45) ((M.eY s' (i64.wrap (i64.wrap (RP+1)+1))).bind λh=>cond (decide (h>i64.wrap (i64.wrap (RP+1)+1))) ((M.eY s' (i64.wrap (i64.wrap (RP+1)+1))).bind λa=>k a) (k RP)) ((M.eY s' (i64.wrap (RP+1))).bind λe=>cond (decide (e>i64.wrap (RP+1))) ((M.eY s' (i64.wrap (RP+1))).bind λf=>k f) (k RP)))
def M.TL(s':aC)(at':Int)(k:Int->Option R):=cond (decide (at'<0)) (k (-1)) ((M.eY s' at').bind λa=>(M.jR s' a).bind λd=>cond (d==46) ((M.eY s' (i64.wrap (a+1))).bind λb=>cond (a==at') (cond (b==i64.wrap (a+1)) (k (-1)) (cond (b==at') (k (-1)) ((M.jR s' b).bind λi=>cond (i==101) (M.xu s' b k) ((M.jR s' b).bind λf=>cond (f==69) (M.xu s' b k) (k b))))) (cond (b==at') (k (-1)) ((M.jR s' b).bind λg=>cond (g==101) (M.xu s' b k) ((M.jR s' b).bind λe=>cond (e==69) (M.xu s' b k) (k b))))) (cond (a==at') (k (-1)) ((M.jR s' a).bind λc=>cond (c==101) (M.xu s' a k) ((M.jR s' a).bind λh=>cond (h==69) (M.xu s' a k) (k a)))))
def M.FY s' at':=M.TL s' at' some
def C.FY:S.FY.ok X0 λx=>M.FY x.1.1 x.1.2.1:=fnS (λx=>M.TL x.1.1 x.1.2.1) [fe C.eY,fe C.jR] [] (by intros;unfold M.TL M.xu;exact zbo)
def M.vH(s':aC)(sign s:Int)(kn:Int->Option R)(ke:(Int)⊕(Int)->Option R):Option R:=match s with
 |i=>bif decide (i<(↑s'.length:Int)) then((idx s' i).bind λa=>bif i64.wrap (↑a.toNat:Int)==sign then(ke (.inl (i64.wrap (i+1)))) else bif i64.wrap (↑a.toNat:Int)==10 then(ke (.inl (-1))) else bif i64.wrap (↑a.toNat:Int)==92 then((M.jR s' (i64.wrap (i+1))).bind λb=>bif b==10 then(ke (.inl (-1))) else kn (i64.wrap (i64.wrap (i+1)+1))) else kn (i64.wrap (i+1))) else ke (.inr i)
def M.zO s' sign s:=M.vH s' sign s (λs=>some (Sum.inl s)) λt=>some (Sum.inr t)
def M.vI s' sign s:=dM (M.zO s' sign) s
def F.vI:LE X0 250:=le 4 (Ef [bH 0 pS,bH 2 pI,bH 7 pI] []) (λx=>x.1.2.2.1) (λx s=>((x.1.1,x.1.2.1,s,()),())) (λx=> .sum (.leaf (Int) (λt=>(Ex.ret,⟨[(6,gX t)],[]⟩))) (.leaf (Int) (λt=>(Ex.exit 0,⟨[(0,yI x.1.1),(2,gX x.1.2.1),(7,gX t),(18,rO false)],[]⟩)))) (λx=>M.vH x.1.1 x.1.2.1) [fe C.jR] [] (by rintro _ _ _ _ _<;>simp only[M.vH,nb]<;>rfl)
abbrev M.Om(s':aC)(at' sign:Int)(k:Int->Option R):=(M.jR s' at').bind λb=>cond (b !=sign) (k (-1)) ((M.vI s' sign (i64.wrap (at'+1))).bind λd=>pz d (λc=>k c) λa=>letE a λe=>k (-1))
def M.rU s' at' sign:=M.Om s' at' sign some
def C.rU:=fTa S.rU (λx=>M.Om x.1.1 x.1.2.1 x.1.2.2.1) [fe C.jR] [F.vI]
abbrev M.TM(s':aC)(at':Int)(k:Int->Option R):=(M.rU s' at' 34).bind λa=>k a
def M.FZ s' at':=M.TM s' at' some
def C.FZ:=fTa S.FZ (λx=>M.TM x.1.1 x.1.2.1) [fe C.rU]
abbrev M.TN(s':aC)(at':Int)(k:Int->Option R):=(M.rU s' at' 47).bind λa=>cond (a==i64.wrap (at'+2)) (k (-1)) (k a)
def M.F5 s' at':=M.TN s' at' some
def C.F5:=fTa S.F5 (λx=>M.TN x.1.1 x.1.2.1) [fe C.rU]
abbrev M.V4(k:au->Option R):=k ([[D.str [123]],[D.str [125]],[D.str [40]],[D.str [41]],[D.str [91]],[D.str [93]],[D.str [44]],[D.str [59]],[D.str [43,61]],[D.str [45,61]],[D.str [42,61]],[D.str [47,61]],[D.str [37,61]],[D.str [94,61]],[D.str [124,124]],[D.str [38,38]],[D.str [33,126]],[D.str [61,61]],[D.str [60,61]],[D.str [62,61]],[D.str [33,61]],[D.str [43,43]],[D.str [45,45]],[D.str [62,62]],[D.str [61]],[D.str [43]],[D.str [45]],[D.str [42]],[D.str [47]],[D.str [37]],[D.str [94]],[D.str [33]],[D.str [62]],[D.str [60]],[D.str [124]],[D.str [63]],[D.str [58]],[D.str [126]],[D.str [36]]])
def M.yL:Option (au):=M.V4 some
def C.yL:=fTa S.yL (λx=>M.V4)
abbrev M.Qw(kind:Int)(k:aC->Option R):=cond (kind==1) (k [10]) ((M.dA kind 10 26).bind λc=>cond c (M.yK.bind λb=>(idx b (i64.wrap (kind - 10))).bind λi=>(b[(i64.wrap (kind - 10)).toNat]?).bind λe=>(cStr e 0).bind λg=>k g) ((M.dA kind 30 68).bind λd=>cond d (M.yL.bind λa=>(idx a (i64.wrap (kind - 30))).bind λj=>(a[(i64.wrap (kind - 30)).toNat]?).bind λh=>(cStr h 0).bind λf=>k f) (k [])))
def M.jr kind:=M.Qw kind some
def C.jr:=fTa S.jr (λx=>M.Qw x.1.1) [fe C.dA,fe C.yK,fe C.yL]
abbrev M.Qx(t':Int)(gG:aC)(iC:Int)(k:Bool->Option R):=cond (t'==2) (cond (decide ((↑gG.length:Int)>0)) ((idx gG 0).bind λb=>cond ((↑b.toNat:Int)==35) ((M.vW gG).bind λd=>k d) (k false)) (k false)) (cond (t'==3) (cond (decide ((↑gG.length:Int)>0)) ((M.FY gG 0).bind λc=>k (c==(↑gG.length:Int))) (k false)) (cond (t'==4) ((M.FZ gG 0).bind λf=>k (f==(↑gG.length:Int))) (cond (t'==5) ((M.F5 gG 0).bind λi=>k (i==(↑gG.length:Int))) (cond (t'==6) ((M.jW gG).bind λh=>k h) (cond (t'==7) ((M.jW gG).bind λg=>k g) (cond (t'==8) ((M.mP gG).bind λe=>k e) (cond (!gG==[]) ((M.jr t').bind λa=>k (a==gG)) (k false))))))))
def M.nI t' gG iC:=M.Qx t' gG iC some
def C.nI:=fTa S.nI (λx=>M.Qx x.1.1.1 x.1.1.2.1 x.1.1.2.2.1) [fe C.vW,fe C.FY,fe C.FZ,fe C.F5,fe C.jW,fe C.mP,fe C.jr]
abbrev M.dh(n' fV:Int)(iM iL:aC)(jo:au)(k:Bool->Option R):=cond (n'==1) ((M.jW iM).bind λn=>cond n (k (iL==[])) (k false)) (cond (n'==5) ((M.jW iM).bind λd=>cond d (k (iL==[])) (k false)) (cond (n'==7) ((M.jW iM).bind λh=>cond h (k (iL==[])) (k false)) (cond (n'==13) ((M.jW iM).bind λc=>cond c (k (iL==[])) (k false)) (cond (n'==27) ((M.jW iM).bind λf=>cond f (k (iL==[])) (k false)) (cond (n'==44) ((M.jW iM).bind λa=>cond a (k (iL==[])) (k false)) (cond (n'==2) ((M.nI 3 iM 0).bind λi=>cond i (k (iL==[])) (k false)) (cond (n'==3) ((M.nI 4 iM 0).bind λg=>cond g (k (iL==[])) (k false)) (cond (n'==4) ((M.nI 5 iM 0).bind λl=>cond l (k (iL==[])) (k false)) (cond (n'==34) ((M.nI 2 iM 0).bind λj=>cond j (k (iL==[])) (k false)) (cond (n'==8) ((M.mP iM).bind λb=>cond b (k (iL==[])) (k false)) (cond (n'==32) ((M.jW iM).bind λe=>cond e ((M.jW iL).bind λm=>k m) (k false)) (cond (n'==21) (cond (iM==[]) (cond (iL==[]) (k true) (cond (iL==[62]) (k true) (cond (iL==[62,62]) (k true) (k (iL==[124]))))) (k false)) (cond (iM==[]) (k (iL==[])) (k false))))))))))))))
def M.dJ n' fV iM iL jo:=M.dh n' fV iM iL jo some
def C.dJ:=fTa S.dJ (λx=>M.dh x.1.1.1 x.1.1.2.1 x.1.1.2.2.1 x.1.1.va.1 x.1.1.va.2.1) [fe C.jW,fe C.nI,fe C.mP]
abbrev M.bf(n' fV:Int)(iM iL:aC)(jo:au)(k:Bool->Option R):=(M.dI n' fV iM iL jo).bind λa=>(M.dA n' 1 16).bind λn=>cond n ((M.fE n' fV iM iL jo).bind λg=>cond g ((M.dJ n' fV iM iL jo).bind λj=>cond j ((M.dA ((↑jo.length:Int)) a.1 a.2).bind λf=>k f) (k false)) (k false)) ((M.dA n' 20 34).bind λd=>cond d ((M.fE n' fV iM iL jo).bind λe=>cond e ((M.dJ n' fV iM iL jo).bind λh=>cond h ((M.dA ((↑jo.length:Int)) a.1 a.2).bind λc=>k c) (k false)) (k false)) ((M.dA n' 40 45).bind λi=>cond i ((M.fE n' fV iM iL jo).bind λm=>cond m ((M.dJ n' fV iM iL jo).bind λb=>cond b ((M.dA ((↑jo.length:Int)) a.1 a.2).bind λl=>k l) (k false)) (k false)) (k false)))
def M.aI n' fV iM iL jo:=M.bf n' fV iM iL jo some
def C.aI:=fTa S.aI (λx=>M.bf x.1.1.1 x.1.1.2.1 x.1.1.2.2.1 x.1.1.va.1 x.1.1.va.2.1) [fe C.dI,fe C.dA,fe C.fE,fe C.dJ]
abbrev M.Oo(kind:Int)(k:Bool->Option R):=cond (kind==1) (k true) (cond (kind==5) (k true) (k (kind==6)))
def M.rV kind:=M.Oo kind some
def C.rV:=fTa S.rV (λx=>M.Oo x.1.1)
abbrev M.TP(kind:Int)(k:Bool->Option R):=(M.dA kind 1 15).bind λa=>k a
def M.lZ kind:=M.TP kind some
def C.lZ:=fTa S.lZ (λx=>M.TP x.1.1) [fe C.dA]
abbrev M.TQ(kind:Int)(k:Bool->Option R):=(M.dA kind 20 34).bind λa=>k a
def M.F6 kind:=M.TQ kind some
def C.F6:=fTa S.F6 (λx=>M.TQ x.1.1) [fe C.dA]
abbrev M.aJ(fV k':Int)(jo:au)(kind:Int)(k:Bool->Option R):=cond (fV==3) (cond (k'==i64.wrap ((↑jo.length:Int) - 1)) (cond (kind==33) (k true) (cond (!k'==i64.wrap ((↑jo.length:Int) - 1)) ((M.lZ kind).bind λa=>k a) (k false))) (cond (!k'==i64.wrap ((↑jo.length:Int) - 1)) ((M.lZ kind).bind λb=>k b) (k false))) (k false)
def M.aP(n' fV:Int)(iM iL:aC)(jo:au)(k' kind:Int)(k:Bool->Option R):=cond (n'==9) ((M.rV kind).bind λb=>k b) (cond (n'==10) ((M.rV kind).bind λo=>k o) (cond (n'==15) ((M.lZ kind).bind λf=>cond f (cond (decide (k'>0)) (k true) ((M.rV kind).bind λa=>k a)) (k false)) (cond (n'==28) (cond (k'==0) ((M.lZ kind).bind λm=>cond m (k true) (cond (decide (k'>0)) (k (kind==33)) (k false))) (cond (decide (k'>0)) (k (kind==33)) (k false))) (cond (n'==29) (cond (k'==0) ((M.lZ kind).bind λh=>cond h (k true) (cond (k'==1) (k (kind==33)) (k false))) (cond (k'==1) (k (kind==33)) (k false))) (cond (n'==30) (cond (k'==0) (cond (kind==33) (k true) (cond (k'==1) ((M.lZ kind).bind λl=>k l) (k false))) (cond (k'==1) ((M.lZ kind).bind λd=>k d) (k false))) (cond (n'==31) (cond (decide (k'<3)) ((M.lZ kind).bind λn=>cond n (k true) (cond (kind==16) (k true) (cond (k'==3) (k (kind==33)) (k false)))) (cond (k'==3) (k (kind==33)) (k false))) (cond (n'==32) (k (kind==33)) (cond (n'==40) (k (kind==33)) (cond (n'==41) (k (kind==33)) (cond (n'==33) ((M.F6 kind).bind λi=>k i) (cond (n'==42) (cond (fV==1) ((M.lZ kind).bind λc=>cond c (k true) (cond (fV==2) (cond (kind==33) (k true) (M.aJ fV k' jo kind k)) (M.aJ fV k' jo kind k))) (cond (fV==2) (cond (kind==33) (k true) (M.aJ fV k' jo kind k)) (M.aJ fV k' jo kind k))) (cond (n'==43) (cond (decide (k'<2)) ((M.lZ kind).bind λg=>cond g (k true) (cond (k'==2) (k (kind==33)) (k false))) (cond (k'==2) (k (kind==33)) (k false))) (cond (n'==44) (cond (k'==i64.wrap ((↑jo.length:Int) - 1)) (cond (kind==33) (k true) (cond (!k'==i64.wrap ((↑jo.length:Int) - 1)) (k (kind==1)) (k false))) (cond (!k'==i64.wrap ((↑jo.length:Int) - 1)) (k (kind==1)) (k false))) (cond (n'==45) ((M.dA kind 40 44).bind λe=>cond e (k true) (k (kind==34))) ((M.lZ kind).bind λj=>k j)))))))))))))))
def M.aQ n' fV iM iL jo k' kind:=M.aP n' fV iM iL jo k' kind some
def C.aQ:S.aQ.ok X0 λx=>bP M.aQ x.1.1 x.1.2.1 x.1.2.2.1:=fnS (λx=>M.aP x.1.1.1 x.1.1.2.1 x.1.1.2.2.1 x.1.1.va.1 x.1.1.va.2.1 x.1.2.1 x.1.2.2.1) [fe C.rV,fe C.lZ,fe C.F6,fe C.dA] [] (by intros;unfold M.aP M.aJ;exact zbo)
def M.ES(l:au)(i s:Int)(kn:Int->Option R)(ke:(Unit)⊕(Int)->Option R):Option R:=match s with
 |k'=>(idx l i).bind λc=>(NK 1 c 4).bind λj=>bif decide (k'<(↑j.length:Int)) then((idx l i).bind λh=>ni 1 h λa2n a2o a2p a2q aCr=>((idx l i).bind λb=>(NK 1 b 4).bind λg=>(idx g k').bind λe=>(bK .i64 e 0).bind λa=>(idx l a).bind λk=>(bK .i64 k 0).bind λd=>(M.aQ a2n a2o a2p a2q aCr k' d).bind λf=>bif !f then(ke (.inl ())) else kn (i64.wrap (k'+1)))) else ke (.inr k')
def M.SH l i s:=M.ES l i s (λs=>some (Sum.inl s)) λt=>some (Sum.inr t)
def M.J7 l i s:=dM (M.SH l i) s
def F.J7:LE X0 91:=le 9 (Ef [bH 0 (pL false 5),bH 3 pI,bH 4 pI] []) (λx=>x.1.2.2.1) (λx s=>((x.1.1,x.1.2.1,s,()),())) (λx=> .sum (.leaf (Unit) (λt=>(Ex.ret,⟨[(2,rO false)],[]⟩))) (.leaf (Int) (λt=>(Ex.exit 2,⟨[(0,Dw 5 x.1.1),(3,gX x.1.2.1),(4,gX t),(32,rO false)],[]⟩)))) (λx=>M.ES x.1.1 x.1.2.1) [fe C.aQ] [] (by rintro _ _ _ _ _<;>simp only[ni,M.ES,nb]<;>rfl)
def M.ET(l:au)(s:Int)(kn:Int->Option R)(ke:(Unit)⊕(Int)->Option R):Option R:=match s with
 |i=>bif decide (i<(↑l.length:Int)) then((idx l i).bind λb=>ni 1 b λn241 n242 a2u a2v aCt=>((M.aI n241 n242 a2u a2v aCt).bind λd=>bif !d then(ke (.inl ())) else (M.J7 l i 0).bind λc=>pz c (λf=>ke (.inl ())) λa=>letE a λe=>kn (i64.wrap (i+1)))) else ke (.inr i)
def M.SI l s:=M.ET l s (λs=>some (Sum.inl s)) λt=>some (Sum.inr t)
def M.J8 l s:=dM (M.SI l) s
def F.J8:LE X0 91:=le 4 (Ef [bH 0 (pL false 5),bH 3 pI] []) (λx=>x.1.2.1) (λx s=>((x.1.1,s,()),())) (λx=> .sum (.leaf (Unit) (λt=>(Ex.ret,⟨[(2,rO false)],[]⟩))) (.leaf (Int) (λt=>(Ex.exit 0,⟨[(0,Dw 5 x.1.1),(3,gX t),(16,rO false)],[]⟩)))) (λx=>M.ET x.1.1) [fe C.aI] [F.J7] (by rintro _ _ _ _ _<;>simp only[ni,M.ET,nb]<;>rfl)
abbrev M.TR(l:au)(k:Bool->Option R):=(M.vU l).bind λd=>cond (!d) (k false) ((M.Bo l).bind λb=>cond (decide (b>40)) (k false) ((M.J8 l 0).bind λa=>pz a (λf=>k false) λc=>letE c λe=>k true))
def M.F7 l:=M.TR l some
def C.F7:=fTa S.F7 (λx=>M.TR x.1.1) [fe C.vU,fe C.Bo] [F.J8]
abbrev M.Lm(l:au)(k:Bool->Option R):=(M.F7 l).bind λb=>cond b ((idx l (i64.wrap ((↑l.length:Int) - 1))).bind λc=>(bK .i64 c 0).bind λa=>k (a==45)) (k false)
def M.zF l:=M.Lm l some
def C.zF:=fTa S.zF (λx=>M.Lm x.1.1) [fe C.F7]
abbrev M.Qy(s':aC)(k:au->Option R):=k ([[D.int .i64 1,D.int .i64 0,D.str s',D.sl true 1 []]])
def M.aH s':=M.Qy s' some
def C.aH:=fTa S.aH (λx=>M.Qy x.1.1)
def M.BX(jK:zaa)(kids x':au)(jG:Bool)(s:Int×au)(kn:Int×au->Option R)(ke:Int×au->Option R):Option R:=match s with
 |(k',lX)=>bif decide (k'<(↑kids.length:Int)) then((idx kids k').bind λb=>(bK .i64 b 0).bind λa=>(jK x' jG a).bind λc=>jA lX [[D.sl true 4 c]] 24 λd=>kn (i64.wrap (k'+1),d)) else ke (k',lX)
def M.Jm jK kids x' jG s:=M.BX jK kids x' jG s (λs=>some (Sum.inl s)) λt=>some (Sum.inr t)
def M.Oq jK kids x' jG s:=dM (M.Jm jK kids x' jG) s
def F.Oq{jK:zaa}(V5:S.oq.ok X0 λx=>jK x.1.1.1 x.1.1.2.1 x.1.2.1):LE X0 129:=le 3 (Ef [bH 1 (pL false 1),bH 2 (pP 300000 0),bH 5 (pO 300001 0),bH 6 pI] [bH 300000 zbi,bH 300001 zbg]) (λx=>(x.1.va.1,x.2.2.1)) (λx s=>((x.1.1,(),(),s.1,()),((x.2.1.1,x.2.1.2.1,()),s.2,()))) (λx=> .leaf (Int×au) (λt=>(Ex.exit 0,⟨[(1,Dw 1 x.1.1),(2,V.ptr 300000 0),(5,V.own 300001 0),(6,gX t.1),(11,rO false)],[(300000,Cell.box 83 [Dw 5 x.2.1.1,rO x.2.1.2.1]),(300001,Cell.arr false false 0 1 t.2)]⟩))) (λx=>M.BX jK x.1.1 x.2.1.1 x.2.1.2.1) [fe V5] [] (by rintro _ _ ⟨_,_⟩ _ _<;>unfold M.BX<;>exact zbo)
def M.EU(jK:zaa)(w:au)(w1:Bool)(kids:au)(k:au->Option R):=(M.Oq jK kids w w1 (0,[])).bind λa=>k a.2
def C.agb{jK:zaa}(V5:S.oq.ok X0 λx=>jK x.1.1.1 x.1.1.2.1 x.1.2.1):S.Gp.ok X0 λx=>M.EU jK x.1.1.1 x.1.1.2.1 x.1.2.1 some:=fnS (λx=>M.EU jK x.1.1.1 x.1.1.2.1 x.1.2.1) [] [F.Oq V5] (by intros;unfold M.EU;exact zbo)
abbrev M.Qz(k:au->Option R):=k ([[D.int .i64 3,D.int .i64 0,D.str [],D.sl true 1 []]])
def M.qE:Option (au):=M.Qz some
def C.qE:=fTa S.qE (λx=>M.Qz)
def M.zQ(l:au)(by' i:Int)(x':au)(jG lX:Int)(rP:aC)(s:Int×au)(kn:Int×au->Option R)(ke:Int×au->Option R):Option R:=match s with
 |(k',su)=>(idx l i).bind λe=>(NK 1 e 3).bind λc=>bif decide (k'<(↑c.length:Int)) then((idx l i).bind λd=>(NK 1 d 3).bind λa=>(idx a k').bind λb=>(bK .i64 b 0).bind λf=>jA su [[D.int .i64 (i64.wrap (f+by'))]] 8 λg=>kn (i64.wrap (k'+1),g)) else ke (k',su)
def M.Gy l by' i x' jG lX rP s:=M.zQ l by' i x' jG lX rP s (λs=>some (Sum.inl s)) λt=>some (Sum.inr t)
def M.Lp l by' i x' jG lX rP s:=dM (M.Gy l by' i x' jG lX rP) s
def F.Lp:LE X0 97:=le 8 (Ef [bH 0 (pL false 4),bH 1 pI,bH 5 (pO 300000 0),bH 6 pI,bH 7 (pP 300001 0),bH 8 pI] [bH 300000 zbk,bH 300001 (cB 111 [pI,pI,pS,pO 300002 0]),bH 300002 zba]) (λx=>(x.1.va.2.2.1,x.va.1)) (λx s=>((x.1.1,x.1.2.1,(),x.1.va.1,(),s.1,()),(x.2.1,(x.2.2.1.1,x.2.2.1.2.1,x.2.2.1.2.2.1,(),()),s.2,()))) (λx=> .leaf (Int×au) (λt=>(Ex.exit 2,⟨[(0,Dw 4 x.1.1),(1,gX x.1.2.1),(5,V.own 300000 0),(6,gX x.1.va.1),(7,V.ptr 300001 0),(8,gX t.1),(29,rO false)],[(300000,Cell.arr false false 0 4 x.2.1),(300001,Cell.box 111 [gX x.2.2.1.1,gX x.2.2.1.2.1,yI x.2.2.1.2.2.1,V.own 300002 0]),(300002,Cell.arr false true 0 1 t.2)]⟩))) (λx=>M.zQ x.1.1 x.1.2.1 x.1.va.1 x.2.1 x.2.2.1.1 x.2.2.1.2.1 x.2.2.1.2.2.1) [] [] (by rintro _ _ ⟨_,_⟩ _ _<;>simp only[jA,M.zQ,nb]<;>rfl)
def M.zS(l:au)(by':Int)(s:Int×au)(kn:Int×au->Option R)(ke:Int×au->Option R):Option R:=match s with
 |(i,x')=>bif decide (i<(↑l.length:Int)) then((idx l i).bind λa=>(bK .i64 a 0).bind λe=>(bK .i64 a 1).bind λd=>(cStr a 2).bind λb=>(NK 1 a 3).bind λf=>(M.Lp l by' i x' e d b (0,[])).bind λc=>bif aA c.2 then(jA x' [[D.int .i64 e,D.int .i64 d,D.str b,D.sl true 1 c.2]] 56 λg=>kn (i64.wrap (i+1),g)) else none) else ke (i,x')
def M.Gz l by' s:=M.zS l by' s (λs=>some (Sum.inl s)) λt=>some (Sum.inr t)
def M.Lr l by' s:=dM (M.Gz l by') s
def F.Lr:LE X0 97:=le 3 (Ef [bH 0 (pL false 4),bH 1 pI,bH 5 (pO 300000 0),bH 6 pI] [bH 300000 zbk]) (λx=>(x.1.va.1,x.2.1)) (λx s=>((x.1.1,x.1.2.1,(),s.1,()),(s.2,()))) (λx=> .leaf (Int×au) (λt=>(Ex.exit 0,⟨[(0,Dw 4 x.1.1),(1,gX x.1.2.1),(5,V.own 300000 0),(6,gX t.1),(13,rO false)],[(300000,Cell.arr false false 0 4 t.2)]⟩))) (λx=>M.zS x.1.1 x.1.2.1) [] [F.Lp] (by rintro _ _ ⟨_,_⟩ _ _<;>simp only[jA,M.zS,nb]<;>rfl)
abbrev M.Ot(l:au)(by':Int)(k:au->Option R):=(M.Lr l by' (0,[])).bind λa=>k a.2
def M.rW l by':=M.Ot l by' some
def C.rW:=fTa S.rW (λx=>M.Ot x.1.1 x.1.2.1) [] [F.Lr]
def M.xH(s:zay⊕zaz)(kn:zay⊕zaz->Option R)(ke:zay⊕zaz->Option R):Option R:=match s with
 | .inl (parts,k',x',jG,lX,rP)=>bif decide (k'<(↑parts.length:Int)) then((idx parts k').bind λb=>(NK 4 b 0).bind λd=>(M.rW d ((↑x'.length:Int))).bind λf=>jA x' f 56 λza=>kn (.inr (parts,i64.wrap (k'+1),za,jG,lX,rP,[[D.int .i64 (i64.wrap ((↑za.length:Int) - 1))]]))) else(ke (.inl (parts,k',x',jG,lX,rP)))
 | .inr (parts,k',x',jG,lX,rP,su)=>bif decide (k'<(↑parts.length:Int)) then((idx parts k').bind λa=>(NK 4 a 0).bind λe=>(M.rW e ((↑x'.length:Int))).bind λc=>jA x' c 56 λza=>jA su [[D.int .i64 (i64.wrap ((↑za.length:Int) - 1))]] 8 λg=>kn (.inr (parts,i64.wrap (k'+1),za,jG,lX,rP,g))) else ke (.inr (parts,k',x',jG,lX,rP,su))
def M.BZ s:=M.xH s (λs=>some (Sum.inl s)) λt=>some (Sum.inr t)
def M.Ou s:=dM (M.BZ) s
def F.Ou:LE X0 59:=le 4 (pOr (Ef [bH 2 (pL false 1),bH 7 (pO 300000 0),bH 8 (pP 300001 0),bH 9 pI] [bH 300000 zbk,bH 300001 (cB 111 [pI,pI,pS,acg 1])]) (Ef [bH 2 (pL false 1),bH 7 (pO 300000 0),bH 8 (pP 300001 0),bH 9 pI] [bH 300000 zbk,bH 300001 (cB 111 [pI,pI,pS,pO 300002 0]),bH 300002 zba])) (σ:=zay⊕zaz) (λx=>(match x with| .inl x=> .inl ((x.1.1,x.1.va.1,x.2.1,x.2.2.1.1,x.2.2.1.2.1,x.2.2.1.2.2.1))| .inr x=> .inr ((x.1.1,x.1.va.1,x.2.1,x.2.2.1.1,x.2.2.1.2.1,x.2.2.1.2.2.1,x.va.1)))) (λx s=>(match s with| .inl s=> .inl (((s.1,(),(),s.2.1,()),(s.2.2.1,(s.va.1,s.va.2.1,s.va.2.2,(),()),())))| .inr s=> .inr (((s.1,(),(),s.2.1,()),(s.2.2.1,(s.va.1,s.va.2.1,s.va.2.2.1,(),()),s.va.va,()))))) (λx=> .sum (.leaf zay (λt=>(Ex.exit 0,⟨[(2,Dw 1 t.1),(7,V.own 300000 0),(8,V.ptr 300001 0),(9,gX t.2.1),(17,rO false)],[(300000,Cell.arr false false 0 4 t.2.2.1),(300001,Cell.box 111 [gX t.va.1,gX t.va.2.1,yI t.va.2.2,V.nil 1])]⟩))) (.leaf zaz (λt=>(Ex.exit 0,⟨[(2,Dw 1 t.1),(7,V.own 300000 0),(8,V.ptr 300001 0),(9,gX t.2.1),(17,rO false)],[(300000,Cell.arr false false 0 4 t.2.2.1),(300001,Cell.box 111 [gX t.va.1,gX t.va.2.1,yI t.va.2.2.1,V.own 300002 0]),(300002,Cell.arr false true 0 1 t.va.va)]⟩)))) (λx=>M.xH) [fe C.rW] [] (by rintro _ _ (⟨_,_,_,_,_,_⟩|⟨_,_,_,_,_,_,_⟩) _ _<;>simp only[jA,M.xH,nb]<;>rfl) (hE:=by intro _ _ s _;rcases s with s|s<;>kernel_rfl)
abbrev M.QA(kind n':Int)(parts:au)(k:au->Option R):=(M.Ou (.inl (parts,0,[],kind,n',[]))).bind λd=>pz d (λb=>jA b.2.2.1 [[D.int .i64 b.2.2.2.1,D.int .i64 b.2.2.2.2.1,D.str b.2.2.2.2.2,D.sl true 1 []]] 56 λza=>k za) λc=>letE c λa=>cond (aA a.2.2.2.2.2.2) (jA a.2.2.1 [[D.int .i64 a.2.2.2.1,D.int .i64 a.2.2.2.2.1,D.str a.2.2.2.2.2.1,D.sl true 1 a.2.2.2.2.2.2]] 56 λza=>k za) none
def M.aO kind n' parts:=M.QA kind n' parts some
def C.aO:=fTa S.aO (λx=>M.QA x.1.1 x.1.2.1 x.1.2.2.1) [] [F.Ou]
def M.zT(parts:au)(s:Int×au)(kn:Int×au->Option R)(ke:Int×au->Option R):Option R:=match s with
 |(k',x')=>bif decide (k'<(↑parts.length:Int)) then(M.qE.bind λb=>(idx parts k').bind λa=>(NK 4 a 0).bind λc=>jA x' [[D.sl true 4 b],[D.sl false 4 c]] 24 λd=>kn (i64.wrap (k'+1),d)) else ke (k',x')
def M.GH parts s:=M.zT parts s (λs=>some (Sum.inl s)) λt=>some (Sum.inr t)
def M.Ls parts s:=dM (M.GH parts) s
def F.Ls:LE X0 128:=le 3 (Ef [bH 0 (pL false 1),bH 3 (pO 300000 0),bH 4 pI] [bH 300000 zbg]) (λx=>(x.1.2.2.1,x.2.1)) (λx s=>((x.1.1,(),s.1,()),(s.2,()))) (λx=> .leaf (Int×au) (λt=>(Ex.exit 0,⟨[(0,Dw 1 x.1.1),(3,V.own 300000 0),(4,gX t.1),(9,rO false)],[(300000,Cell.arr false false 0 1 t.2)]⟩))) (λx=>M.zT x.1.1) [fe C.qE] [] (by rintro _ _ ⟨_,_⟩ _ _<;>simp only[jA,M.zT,nb]<;>rfl)
abbrev M.Ov(parts:au)(k:au->Option R):=(M.Ls parts (0,[])).bind λb=>(M.aO 6 0 (aG b.2)).bind λa=>cond ([[D.sl true 4 a]].all bg) (k a) none
def M.yZ parts:=M.Ov parts some
def C.yZ:=fTa S.yZ (λx=>M.Ov x.1.1) [fe C.aO] [F.Ls]
def M.AX(EW:zah)(w:au)(w1:Bool)(i:Int)(k:au->Option R):=(M.aH [123]).bind λe=>(idx w i).bind λd=>(NK 1 d 4).bind λj=>(EW w w1 j).bind λh=>(M.yZ (aG h)).bind λb=>cond ([[D.sl true 4 b]].all bg) ((M.aO 4 4 (aG [[D.sl true 4 b]])).bind λc=>cond ([[D.sl true 4 c]].all bg) (M.qE.bind λf=>(M.aH [125]).bind λg=>(M.aO 6 0 (aG [[D.sl true 4 e],[D.sl true 4 c],[D.sl true 4 f],[D.sl true 4 g]])).bind λa=>cond ([[D.sl true 4 a]].all bg) (k a) none) none) none
def C.aex{EW:zah}(aiD:S.Gp.ok X0 λx=>EW x.1.1.1 x.1.1.2.1 x.1.2.1):S.ny.ok X0 λx=>M.AX EW x.1.1.1 x.1.1.2.1 x.1.2.1 some:=fnS (λx=>M.AX EW x.1.1.1 x.1.1.2.1 x.1.2.1) [fe C.aH,fe aiD,fe C.yZ,fe C.aO,fe C.qE] [] (by intros;unfold M.AX;exact zbo)
abbrev M.aco(k:Int×Bool×Bool×Bool×Bool->Option R):=k (1,false,false,false,false)
def M.jT:Option zaM:=M.aco some
def C.jT:=fTa S.jT (λx=>M.aco)
abbrev M.Vp(p:Int)(p1 p2 p3 p4:Bool)(k:Bool->Option R):=(M.dA p 1 15).bind λa=>cond a (cond (!p1) (k true) (k (p==14))) (k false)
def M.DK p p1 p2 p3 p4:=M.Vp p p1 p2 p3 p4 some
def C.DK:=fTa S.DK (λx=>M.Vp x.1.1.1 x.1.1.2.1 x.1.1.2.2.1 x.1.1.va.1 x.1.1.va.2.1) [fe C.dA]
end
end Go.Proofs.YtajjpadmdmehmaaGreatDoor
