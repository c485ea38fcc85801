import Derived.Test.YtcallmiaialhkaaGreatDoorVm4
import Derived.Test.YtcallmiaialhkaaGreatDoorProg
import Derived.Test.YtcallmiaialhkaaGreatDoorPPrim
set_option linter.defProp false
namespace Go.Proofs.YtcallmiaialhkaaGreatDoor
open Go Go.Vm
open Go.IntKind (i64)
set_option linter.unusedVariables false
set_option linter.unusedSimpArgs false
abbrev uM{R:Type}(x r:ay)(n:Nat)(k:ay->Option R):Option R:=bif((x.length+r.length) * n).ble 140737488355328 then(bif(x.length+r.length).ble 140737488355328 then k (x++r) else none) else none
def aui(r:Int×Int×aT×ay×Int):Row:=[D.int .i64 r.1,D.int .i64 r.2.1,D.str r.2.2.1,D.sl false 5 (aF r.2.2.2.1),D.int .i64 r.2.2.2.2]
def auj(r:Int×Int×aT×ay×Int):Int×Int×aT×ay×Int:=(r.1,r.2.1,r.2.2.1,aF r.2.2.2.1,r.2.2.2.2)
abbrev jF{R:Type}(n:Nat)(x:Row)(k:Int->Int->aT->aT->ay->Option R):Option R:=(gW .i64 x 0).bind λa=>(gW .i64 x 1).bind λb=>(cStr x 2).bind λc=>(cStr x 3).bind λd=>(SE n x 4).bind λe=>k a b c d e
abbrev wF{A B C D E F G:Type}(f:A->B->C->D->E->G)(p:A×B×C×D×E×F):G:=f p.1 p.2.1 p.2.2.1 p.2.2.2.1 p.2.2.2.2.1
abbrev kY(n:Int):V:=V.d (D.int .i64 n)
abbrev DN(b:Bool):V:=V.d (D.bool b)
abbrev Jz(s:aT):V:=V.d (D.str s)
abbrev Gl(n:Nat)(r:ay):V:=V.d (D.sl false n r)
def BF:(∀(R:Type) (x r:ay) (n:Nat) (k:ay->Option R),uM x r n k=bif((x.length+r.length) * n).ble 140737488355328 then(bif(x.length+r.length).ble 140737488355328 then k (x++r) else none) else none)/\(∀r,aui r=[D.int .i64 r.1,D.int .i64 r.2.1,D.str r.2.2.1,D.sl false 5 (aF r.2.2.2.1),D.int .i64 r.2.2.2.2])/\(∀r,auj r=(r.1,r.2.1,r.2.2.1,aF r.2.2.2.1,r.2.2.2.2))/\(∀(R:Type) (n:Nat) (x:Row) (k:Int->Int->aT->aT->ay->Option R),jF n x k=(gW .i64 x 0).bind λa=>(gW .i64 x 1).bind λb=>(cStr x 2).bind λc=>(cStr x 3).bind λd=>(SE n x 4).bind λe=>k a b c d e):= ⟨λ_ _ _ _ _=>rfl,λ_=>rfl,λ_=>rfl,λ_ _ _ _=>rfl⟩
noncomputable section
variable {R:Type}
def kp3:=[[0],[0,18],[2],[0,3,4,5],[0,3,4,5,6,7],[0,3,4,5,6,7,9],[0,3,4,5,6,7,60],[2],[0,3,4,5,6,62],[2],[3,4,5,6,10],[3,4,6,10,11,12],[3,4,6,10,11,87],[2],[3,4,10,11,13,14],[13,14,15,16],[2]]
def kp4:=[[0],[2]]
def kp5:=[[0],[5],[5,6],[5,6,15],[5,6],[2,3,4]]
def kp6:=[[0,4,5],[0,4,5,15],[6,7],[6,7]]
def kp7:=[[0,1,2],[0,1,2,21],[6,7],[0,8],[0,8,33],[6,7],[6,7]]
def kp8:=[[0,1],[0,1,10],[4],[0,1,5],[0,1,5,14],[0,1,5],[0,1,5,80],[4],[4]]
def kp9:=[[0,1],[0,1,7,8,9],[0,1,7,8,9,10],[0,1,6,7,8,9],[0,1,6,7,8,9,14],[0,1,6,7,8,9,14,15],[0,1,6,7,8,9,14,15],[0,1,6,7,8,9,14,15],[0,1,7,8,9,55],[4],[0,1,6,7,8,9,56],[0,1,7,8,9,61],[4],[0,1,7,8,9],[4]]
def auk:=[[0,1],[0,1,5],[0,1,5,11],[0,1,5],[0,1,5,6],[0,1,5,6,26],[4],[0,1,5,6,55],[0,1,5,7],[0,1,5,71],[4],[4]]
def aul:=[[0,1],[0,1,8],[4],[4]]
def aum:=[[0,1],[0,1,10],[4,5],[6,7],[4,5]]
def aun:=[[0],[2]]
def auo:=[[0],[0,12],[2],[0,3],[0,3,16],[0,3],[0,3,24],[2],[0,3,4],[0,3,4,32],[0,3,4],[0,3,4,53],[2],[2]]
def aup:=[[0,1],[0,1,8],[4,5],[4,5]]
def auq:=[[0],[0,3],[0,3,4],[0,3,4,15],[0,3,4],[0,3,4],[2]]
def aur:=[[0,1],[0,1,5],[0,1,5,10],[0,1,5],[0,1,13],[0,1,13,14],[4],[0,1,13,21],[0,1,13,21],[4],[0,1,13,29],[4],[0,1,41],[4],[0,1,6],[4]]
def aus:=[[0,1],[0,1,10],[4],[0,1,12],[4],[0,1,5],[0,1,5,6],[0,1,5,6,7],[1,5,6,7,8],[4]]
def aut:=[[0,1],[4]]
def auu:=[[0],[0,3],[0,3,4],[0,3,4,12],[0,3,4,12,13],[3],[0,3,4,12,21],[3],[0,3,4,12,30],[3],[0,3,4,12,39],[3],[0,3,48],[2],[2]]
def auv:=[[0,1],[4]]
def auw:=[[0],[2]]
def auy:=[[0],[0,3],[3,7,8,9],[3,7,8,9,10],[3,5,7,8,9],[3,5,7,8,9],[3,7,8,9],[3,7,8,9],[2]]
def auz:=[[0,1,2],[0,2,20],[6,7],[0,8],[0,8,31],[6,7],[0,9],[0,9,40],[6,7],[6,7]]
def auA:=[[2,3,5],[3,5,15],[6],[6]]
def auB:=[[0,2],[2]]
def auC:=[[0],[2]]
def auD:=[[0,1,2,3],[0,1,2,3,25],[8],[0,1,2,3,9],[0,1,2,3,9,10],[0,1,2,3,9,10,36],[0,1,2,3,9,10],[0,1,2,3,9,10],[8]]
def auE:=[[0,1],[0,1,10],[4],[0,1,5],[0,1,5,14],[0,1,5],[0,1,5,25],[4],[4]]
def auF:=[[0,1,2],[6]]
def auG:=[[0,1,2],[6]]
def auH:=[[0,1,2],[8,9],[8,26],[6,7],[6,7]]
def auI:=[[0],[2]]
def auJ:=[[0],[0,8],[2],[0,3,4],[2]]
def auK:=[[0],[0,9],[2],[0,3],[0,3,4],[0,3,4,14],[0,3,4],[0,3,4,5],[0,3,4,5,6],[0,3,4,5,6,24],[0,3,4,5,6],[0,3,4,5,6],[0,3,4],[2]]
def auL:=[[1],[1,3,4],[1,3,4,5],[2]]
def auM:=[[1,2,3],[1,2,3,7],[1,2,3,7,8],[1,2,3,7,8,18],[1,2,3,7,8,18,19],[1,2,3,7,8,18,19],[6],[1,2,3,7,8,18,24],[6],[1,2,3,7,8,18,36],[6],[1,2,3,7,8,18,51],[6],[1,2,3,7,8,18,66],[6],[1,2,3,7,8,18,81],[6],[1,2,3,7,8,18,100],[1,2,3,7,8,18,100],[1,2,3,7,8,18,100],[6],[1,2,3,7,8,18,105],[6],[1,2,3,7,8,18,109],[6],[1,2,7,8,18,145],[6],[2,7,8,18,160],[6],[2,174],[6],[6]]
def auN:=[[1,2],[1,2,12],[1,2,12,13],[6],[6,21],[4,5],[4,5],[1,2,12,23],[4,5],[1,2,12,30],[2,7,8],[2,7,42],[4,5],[7,44],[7,44,45],[7],[7,49],[7],[4,5],[1,2,12,55],[1,2,9,10],[1,2,9,67],[4,5],[1,2,69],[4,5],[4,5],[1,2,86],[4,5],[4,5]]
def auO:=[[1,2],[1,2,5],[1,2,5],[1,2,5,6],[1,2,5,6,13],[1,2,5,6],[1,2,5,6],[1,2,5,6],[4]]
def auP:=[[0,1],[4]]
def auQ:=[[0],[0],[0,3],[0,3,34],[0,3],[3],[2]]
def auR:=[[0],[0,4],[0,4,5],[0,4,5],[2],[0,10],[2],[2]]
def auS:=[[0],[0,3],[0,3,4],[0,3,4,12],[0,3,4,12,13],[2],[0,3,4,12,18],[3],[0,3,4,12,35],[0,3,4,43],[3],[3,55],[2],[2]]
def auT:=[[0],[0,9],[2],[0,10,11,12],[0,10,11,12,13],[0,4,10,11,12],[0,4,10,11,12,18],[2],[0,4,10,11,12,20,21,22],[0,4,10,11,12,20,21,22,23],[0,4,5,6,10,11,12,20,21,22],[0,4,10,11,12,20,21,22,35],[2],[0,4,10,11,12,20,21,22],[0,10,11,12],[2]]
def auU:=[[0],[2]]
def auV:=[[0],[0,4],[2],[2]]
def auW:=[[0,1,2],[0,1,2,7],[0,1,2,7,8],[0,1,2,8,25,26,27],[0,1,2,8,25,26,27,28],[0,1,2,8,10,25,26,27],[0,1,2,8,25,26,27],[0,1,2,8,25,26,27],[6]]
def auX:=[[1],[2]]
def auY:=[[0,1,4],[0,4,5],[0,4,5,6],[0,4,6,23,24,25],[0,4,6,23,24,25,26],[0,4,6,8,23,24,25],[0,4,6,23,24,25],[0,4,6,23,24,25],[4]]
def auZ:=[[0,1],[0,1,5],[0,1,5,6],[0,1,5,6,13],[0,1,5,6],[0,1,5,6,7],[0,1,5,6,7],[0,1,5,6,7,8],[0,1,5,6,7,8,29],[0,1,5,6,7,8],[0,1,5,6,7,8],[0,1,5,6],[4]]
def au0:=[[0,2,4],[0,2,4,26],[0,2,4,26,27],[6,7],[0,2,4,26,33],[8,9],[6,7],[0,2,4,26,43],[4,10,11],[4,10,11,57],[6,7],[10,11,67],[6,7],[6,7],[0,2,4,26,73],[0,2,4,12,13],[0,2,4,12,13,14],[0,2,4,13,14,86],[0,2,4,13,14],[0,2,4,14,88],[6,7],[15,16],[6,7],[0,2,4,102],[0,2,4,111],[17,18],[6,7],[0,2,4,19,20],[4,19,20,21,22],[20,22,23,24],[6,7],[6,7]]
def au1:=[[0],[0,4],[0,4,5],[0,4,5,12],[0,4,5],[0,4,5,6],[0,4,5,6,7],[0,4,5,6,7,24],[0,4,5,6,7],[0,4,5,6,7,41],[2,3],[0,4,5,6,7],[0,4,5],[2,3]]
def au2:=[[1],[1,6],[1,6,7],[1,6,7],[2,3],[1,6,10],[1,6,10],[1,6,10],[2,3],[1,6,14],[1,6,14],[1,6,14],[1,6,14],[1,6,14],[1,6,14],[1,6,14],[1,6,14],[2,3],[1,6,23],[1,6,23],[1,6,23],[1,6,23],[2,3],[1,6,28],[2,3],[1,6,30],[1,4],[4,36],[2,3],[2,3],[1,6,40],[1,6,40],[2,3],[1,6,43],[2,3],[1,6,45],[2,3],[1,6,47],[1,6,47],[2,3],[1,6,53],[2,3],[1,6,63],[2,3],[73],[2,3],[2,3]]
def au3:=[[1],[1,4],[1,4,5],[1,4,5],[2],[1,4,16],[2],[1,4,31],[2],[1,4,36],[2],[1,4,41],[2],[1,4,46],[2],[1,51],[2],[2]]
def au4:=[[1],[1,4],[1,4,5],[1,4,5],[1,4,5],[1,4,5],[1,4,5],[1,4,5],[2],[1,4,20],[2],[1,4,31],[2],[1,4,42],[2],[1,4,53],[2],[1,4,64],[2],[1,4,74],[2],[1,84],[2],[2]]
def au5:=[[0],[2]]
def au6:=[[0],[2]]
def au7:=[[0,1],[1,7,8,9],[1,7,8,9,10],[1,6,7,8,9],[1,6,7,8,9,16],[4],[1,7,8,9],[4]]
def au8:=[[0],[4,5],[4,16],[2,3],[2,3]]
def au9:=[[0],[3],[2],[2]]
def ava:=[[1,2],[1,2,6,7],[1,2,6,21],[4,5],[1,2,6,29],[1,2,6,35],[4,5],[8,9],[8,49],[4,5],[4,5],[2,6,7,10],[2,6,10,63],[4,5],[4,5]]
def avb:=[[0],[0,3],[0,3,11],[2]]
def avc:=[[0,1],[0,1,11],[4],[0,1,17],[0,1,17,18],[4],[0,1,17,29],[4],[0,1,17,44],[4],[0,1,17,55],[4],[0,1,66],[4],[0,1,82],[4],[4]]
def avd:=[[0],[0,3],[0,3,4],[0,3,4,10],[0,3,4],[0,3,4],[0,5],[0,5,23],[2]]
def ave:=[[0],[4],[2]]
def avf:=[[1],[1,3],[2],[1,3,5],[1,3],[1,3],[1,3,15],[1,3],[1,3,29],[1,3],[1,3,35],[1,3],[2]]
def avg:=[[1,2,3],[1,2,3,7],[1,2,3,7,8],[1,2,3,7,8,16],[1,2,3,7,8,16,17],[1,2,3,7,8,16,17],[6],[1,2,3,7,8,16,22],[6],[1,2,3,7,8,16,38],[1,2,3,7,8,16,38],[2,8],[1,2,3,7,8,16,43],[2,7,50],[6],[2,8],[1,2,3,7,8,16,52],[2,8],[2,3,7,8,16,56],[2,3,7,8,16,56],[2,3,7,8,16,56],[2,8],[2,3,7,8,16,60],[6],[2,3,7,8,16,64],[2,8],[2,3,7,8,16,72],[2,8],[2,7,8,16,80],[2,83],[6],[2,8],[2,8,86],[6],[2,94],[6],[6]]
def avh:=[[1],[1,3],[3,7,8,9],[3,7,8,9,10],[3,5,7,8,9],[3,7,8,9],[3,7,8,9],[2]]
def avi:=[[1,2],[1,2,5],[1,5,18,19,20],[1,5,18,19,20,21],[1,5,7,18,19,20],[1,5,18,19,20],[1,5,18,19,20],[1,5,18,19,20],[4]]
def avj:=[[0,1],[0,1,5],[0,1,5,9],[0,1,5],[0,1,5,18],[4],[4]]
def avk:=[[0],[4,5],[4,16],[2,3],[2,3]]
def avl:=[[0],[3],[2],[2]]
def avm:=[[0,2,4],[0,2,4,8,9],[0,2,4,8,23],[6,7],[0,2,4,8,29],[6,7],[10,11],[6,7]]
def avn:=[[0,1,2],[1,2,8],[1,2,8,9],[6,7],[1,2,8,14],[6,7],[1,2,8,19],[6,7],[1,2,8,24],[1,2,27],[6,7],[6,7],[1,2,8,31],[6,7],[1,2,8,37],[6,7],[1,2,8,43],[6,7],[1,2,8,49],[6,7],[1,2,8,55],[6,7],[1,2,61],[6,7],[6,7]]
def avo:=[[0],[3],[3,4],[3,4],[3,4],[3,4],[3,4],[3,4],[3,4],[3,4],[3,4],[3,4],[3,4],[3,4],[3,4],[3,4],[3,4],[3,4],[4],[2],[2]]
def avp:=[[0],[2]]
def avq:=[[0],[2]]
def avr:=[[1],[1,3],[1,3,8],[1,3,8,9],[2],[1,3,8,24],[2],[1,3,8,35],[2],[1,3,8,42],[2],[1,8,49],[1,8,49],[2],[1,55],[2],[2]]
def avs:=[[0],[2]]
def avt:=[[0],[0,4,5],[4,24],[2,3],[2,3]]
def avu:=[[0,1,2],[0,1,2],[1,2,9],[6,7],[1,2,9,10],[8],[1,2,9,15],[8],[1,2,9,20],[8],[1,2,9,25],[1,2,28],[6,7],[8],[1,2,9,32],[8],[1,2,9,38],[8],[1,2,9,44],[8],[1,2,9,50],[8],[1,2,9,56],[8],[1,2,62],[8],[8,70],[6,7],[6,7]]
def avv:=[[0,1],[0,1,7],[4],[0,1,5],[0,1,5,14],[0,1,5,14,15],[4],[0,1,5,14,19],[4],[0,1,5,14,24],[4],[0,1,5,14,33],[4],[0,1,5,14,43],[4],[0,1,5,14,54],[4],[0,1,5,14,64],[4],[0,1,14,74],[0,1,14,74],[4],[0,1,14,87],[4],[0,1,14,97],[4],[0,1,114],[4],[4]]
def avw:=[[0,1],[0,1,8],[0,1,8,9],[0,1,8,9],[0,1,5],[0,1,5,6],[0,1,5,6,21],[0,1,5,6],[5,6],[4],[0,1,8,36],[4],[0,1,8,43],[4],[0,1,8,53],[4],[0,1,63],[0,1,66],[4],[4]]
def avx:=[[0,1],[0,1,5],[0,1,5,6],[0,1,5,6,11],[0,1,5,6],[0,1,5,6],[4]]
def avy:=[[0,1],[0,1,6],[4],[4]]
def avz:=[[0],[2]]
def avA:=[[0],[0,3],[0,3,10],[0,3,10,11],[2],[0,3,10,22],[2],[0,3,10,30],[2],[0,3,10,38],[2],[0,3,10,47],[2],[0,3,10,59],[0,3,4],[0,3,4,5],[0,3,4,5,65],[0,3,4,5],[0,3,4,5],[2],[0,3,86],[2],[2]]
def avC:=[[0,2,3,9,30],[0,2,3,9,13,30],[2,3],[0,2,3,4,9,30],[0,2,3,4,9,17,18,19,30],[0,2,3,4,9,17,18,19,20,30],[0,2,3,4,5,6,9,17,18,19,30],[0,2,3,4,5,6,7,9,17,18,19,30],[0,2,3,4,5,7,9,17,18,19,28,30],[0,2,3,4,5,7,9,17,18,19,28,30],[0,2,3,4,5,7,9,17,18,19,28,30,37],[2,3],[0,2,3,4,5,7,9,17,18,19,28,30],[0,2,3,4,9,17,18,19,30],[0,2,3,4,9,17,18,19,30],[2,3]]
def avD:=[[1,2],[1,2,4],[1,2,4,5],[2],[1,2,4,14],[1,2,4,14],[1,2,4,14],[2],[1,2,4,31],[1,2,4,31],[2],[1,2,4,41],[2],[1,2,4,50],[2],[1,2,4,59],[2],[1,2,4,68],[1,2,4,68],[2],[1,2,4,78],[2],[1,2,4,97],[2],[1,2,107],[2],[2]]
def avE:=[[0],[2]]
def avF:=[[1,2],[1,2,3],[1,2,3,15],[1,2,3,15,16],[2,3],[1,2,3,15,20],[1,2,3],[1,2,3],[1,2,3],[2,3,42],[2,3],[1,2,3,15,51],[1,2,3,15,51],[2,3],[1,2,3,15,55],[2,3],[1,2,3,15,62],[2,3],[1,2,3,15,66],[1,2,3,15,66],[2,3],[1,2,3,15,71],[2,3],[1,2,3,15,75],[2,3],[1,2,3,15,87],[2,3],[1,2,3,90],[2,3],[2]]
def avG:=[[1,2],[1,2,3],[1,2,3,15],[2,3],[1,2,3,15,17],[1,2,3,15,17],[2,3],[1,2,3,15,22],[1,2,3],[2,3,31],[2,3],[2,3],[1,2,3,15,36],[1,2,3],[2,3,50],[2,3],[2,3],[1,2,3,55],[2,3],[2]]
def avH:=[[0],[2]]
def avI:=[[0],[2]]
def avJ:=[[0],[0,4],[0,4,5],[0,4,5,6],[0,4,5,6,14],[0,4,5,6],[0,4,5,6,26],[0,4,5,6],[0,4,5,6],[0,4,5,44],[0,4,5],[4,59],[2,3],[2,3]]
def avK:=[[0],[0,3],[0,3,7],[0,3],[0,3,15],[2],[2]]
def avL:=[[0],[3],[3,8],[2],[2]]
def avM:=[[0],[0,3],[0,3,7],[0,3],[0,3,13],[2],[2]]
def avN:=[[0,1],[0,1,9],[4],[0,1,5],[0,1,5,16],[0,1,5,6],[0,1,6,29],[4],[0,1,5],[0,5,33],[4],[0,5,43],[0,5,7],[0,5,7,55],[0,5,7],[0,5,7,62],[4],[4]]
def apl:=[[0,1],[4]]
def apm:=[[0,1],[1,5],[5,12],[4],[4]]
def apn:=[[0],[0,3],[2],[0,6],[2],[0,14],[2],[2]]
def apo:=[[0,1],[0,1,5],[0,1,5,9],[0,1,5],[0,1,5,17],[4],[4]]
def apq:=[[],[0]]
def apr:=[[0],[0,4],[0,4,5],[2],[0,4,11],[2],[0,17],[0,20],[2],[2]]
def aps:=[[0,1],[0,1,6],[0,1,6,7],[4],[0,1,18],[4],[4]]
def apt:=[[0,1,2,3],[0,1,2,3,9],[0,3,9,10],[0,3,9,10,21],[0,3,9,10],[0,3,9,10],[8]]
def apu:=[[0],[2]]
def apv:=[[0],[2]]
def apw:=[[1],[1,5],[2],[1,7],[1,7,8],[2],[1,7,20],[2],[1,7,29],[2],[1,7,38],[2],[1,7,47],[1,7,47],[2],[1,53],[2],[2]]
def apx:=[[0],[2]]
def apy:=[[0],[2]]
def apz:=[[0],[3],[3,4],[2],[3,6],[2],[3,8],[3,8],[2],[3,11],[3,11],[3,11],[3,11],[3,11],[3,11],[2],[3,18],[2],[3,20],[3,20],[2],[3,23],[3,23],[3,23],[2],[27],[2],[2]]
def apA:=[[0],[2]]
def apB:=[[0,1],[4]]
def apC:=[[0],[0,7],[2],[0,3],[0,3,4],[0,3,4,11],[0,3,4,5],[0,3,4,5,15],[0,3,4,5],[0,3,4],[0,3,4],[3,27],[2],[2]]
def apD:=[[0],[2]]
def apE:=[[0],[2]]
def apF:=[[],[0]]
def apG:=[[0,1],[0,1,8],[0,1],[4]]
def apH:=[[0,1],[0,1,12],[4],[4]]
def apI:=[[0,1,2],[0,1,2,12],[6],[0,2,7],[0,2,7,18],[0,2,7],[0,2,7,24],[0,2,7,24,25],[6],[0,2,7,24,30],[6],[0,2,7,32],[0,2,7],[0,2,7,39],[6],[6]]
def apJ:=[[],[0]]
def apK:=[[0],[2]]
def apL:=[[0],[2]]
def apM:=[[0],[2]]
def apN:=[[0],[0,5,6],[0,5,6,7],[0,3,5,6],[0,5,6,14],[2],[0,5,6],[2]]
def apO:=[[0],[3],[3,8],[2],[2]]
def apP:=[[0,1],[4]]
def apQ:=[[0,1],[0,1,17],[4],[0,1,5],[0,5,6],[0,5,6,27],[0,5,6,7],[0,6,7],[0,5,6],[0,5,40],[4],[0,5,8],[0,5,49],[0,5,9],[0,5,9,10],[0,5,9,60],[0,5,9],[5,9,11],[5,11,68],[4],[4]]
def apR:=[[0,1],[4]]
def apS:=[[0,1],[1,5],[5,12],[4],[4]]
def apT:=[[0],[0,3],[2],[0,6],[2],[0,13],[2],[2]]
def apU:=[[0,1],[0,1,7,8],[0,1,7,8,9],[0,1,5,7,8],[0,1,5,7,8,16],[4],[0,1,7,8],[4]]
def apV:=[[0],[2]]
def apW:=[[0],[2]]
def apX:=[[0],[2]]
def apY:=[[0,1],[0,1,8],[0,1],[4]]
def apZ:=[[0,1],[0,1,10],[4],[4]]
def ap0:=[[0,1,2],[0,1,2,12],[6],[0,2,7],[0,2,7,24],[0,2,7],[0,2,7,27],[6],[0,2,7,36],[0,2,7],[6]]
def ap1:=[[0],[2]]
def ap2:=[[0],[2]]
def ap3:=[[0],[2]]
def ap4:List (List (List Nat)):=[[],[],[],kp3,kp4,kp5,kp6,kp7,kp8,kp9,auk,aul,aum,aun,auo,aup,auq,aur,aus,aut,auu,auv,auw,auy,auz,auA,auB,auC,auD,auE,auF,auG,auH,auI,auJ,auK,auL,auM,auN,auO,auP,auQ,auR,auS,auT,auU,auV,auW,auX,auY,auZ,au0,au1,au2,au3,au4,au5,au6,au7,au8,au9,ava,avb,avc,avd,ave,avf,avg,avh,avi,avj,avk,avl,avm,avn,avo,avp,avq,avr,avs,avt,avu,avv,avw,avx,avy,avz,avA,avC,avD,avE,avF,avG,avH,avI,avJ,avK,avL,avM,avN,apl,apm,apn,apo,apq,[],[],[],apr,aps,apt,apu,[],apv,apw,apx,apy,apz,apA,apB,apC,apD,apE,apF,apG,apH,apI,apJ,[],[],[],[],apK,apL,apM,[],apN,apO,apP,apQ,apR,apS,apT,apU,apV,[],[],[],[],[],[],[],apW,apX,[],apY,apZ,ap0,ap1,ap2,[],[],[],[],ap3,[],[],[],[],[],[],[],[],[],[],[],[],[],[],[],[],[],[],[],[],[],[],[],[],[],[],[],[],[],[],[],[],[],[],[],[],[],[],[],[],[],[],[],[],[],[],[],[],[],[],[],[],[]]
def avO(f:Nat):List Nat:=[]
def ap5(f:Nat):List Nat:=bif Nat.beq f 69 then[1] else[]
def ap6:List (List Nat):=[]
def avP(f:Nat):List Nat:=([(3,[21]),(5,[17]),(20,[51]),(24,[28]),(47,[36,43])]:List (Nat×List Nat)).foldr (λx r=>bif Nat.beq f x.1 then x.2 else r) []
def avQ(f d:Nat):List Nat:=bif mem? d (avP f) then[] else List.range 200
def ap7(f:Nat):List Nat:=[]
def avR:List (List Nat):=[]
def ap8(f:Nat):List Nat:=[]
def aml(f:Nat):List Nat:=[]
def ap9:List (List Nat):=[[],[],[],[],[],[],[],[],[],[],[],[],[],[],[],[],[],[],[],[],[],[],[],[],[],[],[],[],[],[],[],[],[],[],[],[],[],[],[],[],[],[],[],[26,41,48]]
noncomputable def Bf:ZU:=⟨λf r=>(ap4.getD f []).getD r [],λf=>ap5 f,λf=>avO f,avQ,λt=>(ap7 t),λf r=>(ap6.getD f []).getD r 0,λf d=>mem? d (aml f),λf=>avR.getD f [],λf=>ap8 f,λf d=>mem? d (ap9.getD f [])⟩
theorem zau:(!true)=false:=rfl
theorem zav:∀n:Nat,n≤n:=Nat.le_refl
theorem zaw:∀{A B:Type}{l:List A}(f:A->B),(l.map f).length=l.length:=fun f=>List.length_map f
abbrev zak:=Bool×ay×Int×Int×ay
abbrev zal:=Int×ay×Int×Int×ay
abbrev zam:=ay×ay×Int×Int×Int×Int×aT×aT×Int×Int×aT×aT
abbrev zan:=ay×ay×Int×Int×Int×Int×aT×aT×Int×Int×aT×aT×ay
abbrev zao:=ay×Int×ay×Int×Int×aT×ay×Int×Int×aT×aT
abbrev zap:=ay×Int×ay×Int×Int×aT×ay×Int×Int×aT×aT×ay
abbrev zaq:=ay×Int×Int×ay×Int×Int×aT×aT
abbrev zar:=ay×Int×Int×ay×Int×Int×aT×aT×ay
abbrev zas:=ay×ay×Int×Int
abbrev zat:=Int×Int×aT×aT×ay
abbrev zaa:=Int->ay->Int->Int->Option zas
abbrev zab:=Int->Int->aT->aT->ay->ay->Option (Int×Bool)
abbrev zac:=ay->Int->Int->aT->aT->ay->ay->Option (Int×Bool)
abbrev zad:=ay->Int->ay->Option (Int×Bool)
abbrev zae:=ay->Int->Option zat
abbrev zaf:=Int->Int->aT->aT->ay->Option (Int)
abbrev zag:=ay->Int->aT->ay->Option (ay×aT×ay)
abbrev zah:=Int->Int->aT->aT->ay->ay->Option (ay)
abbrev zai:=ay->Int->aT->ay->Option (ay)
abbrev zaj:=Int->Int->Int->ay->Int->Int->Option zas
noncomputable def X0:Ctx:=⟨Tryz.prog,Bf,λf=>bif Nat.beq f 80 then some Prim.iK else bif Nat.beq f 46 then some Prim.slices_Clone else bif Nat.beq f 88 then some Prim.iy else bif Nat.beq f 138 then some Prim.strings_Contains else none,λg=>bif Nat.beq g 6 then some He else bif Nat.beq g 0 then some Bj else bif Nat.beq g 1 then some uQ else bif Nat.beq g 2 then some Jp else none,λg=>bif Nat.beq g 5 then true else false,λg=>bif Nat.beq g 6 then true else false,λg=>bif Nat.beq g 4 then true else bif Nat.beq g 3 then true else false⟩
def fTa(S:fK)(C:∀{R:Type},S.α->(S.ρ->Option R)->Option R)(K:List (FE X0):=[])(L:List (LE X0 S.f):=[])(hn:∀{R:Type} x (k:S.ρ->Option R),C x k=(C x some).bind k:=by intros;exact zaO)
  (hE:∀{R:Type} x (k:List Row->List Cell->Option R),bodyC X0 (kt K) (lt L) S.f (S.p.enc x.1) (S.q.enc x.2) k=C x (λr=>k (S.enc r).1 (S.enc r).2):=by intros;kernel_rfl)
  (hL:loops (codeOf X0.P S.f)=L.map LE.c:=by kernel_rfl) (hd:apart (L.map LE.n)=true:=by kernel_rfl) (hp:X0.MN S.f=none:=by kernel_rfl):S.ok X0 λx=>C x some:=fnS C K L hn hE hL hd hp (λ_=>rfl)
abbrev ra:=λn a=>sg n a [] (ρ:=Bool) λr=>([[D.bool r]],[])
abbrev rb:=λn a=>sg n a [] (ρ:=ay) λr=>([[D.sl true 5 r]],[])
abbrev rc:=λn a=>sg n a [] (ρ:=ay×Bool) λr=>([[D.sl true 1 r.1],[D.bool r.2]],[])
abbrev re:=λn a=>sg n a [] (ρ:=Int) λr=>([[D.int .i64 r]],[])
abbrev rf:=λn a=>sg n a [] (ρ:=aT) λr=>([[D.str r]],[])
abbrev rg:=λn a=>sg n a [] (ρ:=Bool×Bool×Bool×Int×Int) λr=>([[D.bool r.1,D.bool r.2.1,D.bool r.2.2.1,D.int .i64 r.2.2.2.1,D.int .i64 r.2.2.2.2]],[])
abbrev rh:=λn a=>sg n a [] (ρ:=Int×Int×aT×aT×ay) λr=>([[D.int .i64 r.1,D.int .i64 r.2.1,D.str r.2.2.1,D.str r.2.2.2.1,D.sl true 5 r.2.2.2.2]],[])
abbrev rj:=λn a=>sg n a [] (ρ:=ay) λr=>([[D.sl true 1 r]],[])
abbrev rk:=λn a=>sg n a [] (ρ:=ay×Bool) λr=>([[D.sl true 5 r.1],[D.bool r.2]],[])
abbrev rl:=λn a=>sg n a [] (ρ:=Int×Bool) λr=>([[D.int .i64 r.1],[D.bool r.2]],[])
abbrev _root_.Prod.va{A B C D:Type _}(x:A×B×C×D):D:=x.2.2.2
abbrev _root_.Prod.wa{A B C D E F G H I:Type _}(x:A×B×C×D×E×F×G×H×I):I:=x.2.2.2.2.2.2.2.2
abbrev zax:=λn a=>sg n a [cB 66 [pL false 1,pI,pI]] (ρ:=Int×ay×Int×Int) λr=>([[D.int .i64 r.1]],[Cell.box 66 [V.d (D.sl false 1 r.2.1),V.d (D.int .i64 r.2.2.1),V.d (D.int .i64 r.2.2.2)]])
abbrev zay:=λn a=>sg n a [cB 66 [pL false 1,pI,pI]] (ρ:=aT×ay×Int×Int) λr=>([[D.str r.1]],[Cell.box 66 [V.d (D.sl false 1 r.2.1),V.d (D.int .i64 r.2.2.1),V.d (D.int .i64 r.2.2.2)]])
abbrev zaz:=λn a=>sg n a [cB 66 [pL false 1,pI,pI]] (ρ:=ay×ay×Int×Int) λr=>([[D.sl true 5 r.1]],[Cell.box 66 [V.d (D.sl false 1 r.2.1),V.d (D.int .i64 r.2.2.1),V.d (D.int .i64 r.2.2.2)]])
abbrev zaA:=λn a=>sg n a [cB 66 [pL false 1,pI,pI]] (ρ:=Bool×ay×ay×Int×Int) λr=>([[D.sl r.1 5 r.2.1]],[Cell.box 66 [V.d (D.sl false 1 r.2.2.1),V.d (D.int .i64 r.2.2.2.1),V.d (D.int .i64 r.2.2.2.2)]])
abbrev zaB:=[pI,pI,pS,pS,pL false 1]
abbrev zaC:=[dZ 100000 (cB 66 [pL false 1,pI,pI]),dZ 300000 (cA false false 0 1)]
abbrev zaD:=(cA false false 0 5)
abbrev zaE:=[dZ 0 (pL false 5),dZ 1 pI,dZ 2 (ahT 25 [] [pP 100000 0,pP 100001 0]),dZ 8 (pP 300000 0),dZ 25 (pL false 1),dZ 26 pI,dZ 27 pI]
abbrev zaF:=[pI,pI,pS,pS,pL false 5]
abbrev zaG:=[pP 100000 0,pI]
abbrev zaH:=(cA false true 0 1)
abbrev zaI:=[dZ 0 (pL false 5),dZ 4 (pP 300000 0),dZ 6 (pP 300001 0),dZ 23 (pL false 1),dZ 24 pI,dZ 25 pI]
abbrev zaJ:=[dZ 1 (pO 300000 0),dZ 5 (pP 300001 0),dZ 18 (pL false 5),dZ 19 pI,dZ 20 pI]
abbrev zaK:=[pL false 1,pI,pI]
abbrev zaL:=[dZ 300000 zaD,dZ 300001 (cB 56 [pI,pI,pS,pS,pO 300002 0]),dZ 300002 zaH]
abbrev zaM:=(cB 50 [pI,pI,pS,pS,af5 5])
abbrev zaN{A B C D E F:Type}(f:A->B->C->D->E)(x:A×B×C×D×F):E:=f x.1 x.2.1 x.2.2.1 x.2.2.2.1
theorem zaO{P:Prop}(h:P:=by repeat' first|(with_reducible first|apply uK|apply XY|apply XZ|apply X3|apply X4)|intro _|apply uK|rfl):P:=h
abbrev S.Hf:=ra 4 [pL false 1]
abbrev S.yw:fK:=sg 16 [pL false 1] [] (ρ:=ay×Int×Int) λr=>([[D.sl false 1 r.1,D.int .i64 r.2.1,D.int .i64 r.2.2]],[])
abbrev S.jI:=zax 41 [pP 100000 0]
abbrev S.aG:=zax 18 zaG
abbrev S.bM:=zay 21 [pP 100000 0,pL false 1]
abbrev S.cZ:=zax 40 [pP 100000 0,pL false 1]
abbrev S.jD:=rb 50 [pL false 5,pI]
abbrev S.aN:=rb 39 [IG zaB,pL false 1]
abbrev S.iW:=zaz 17 zaG
abbrev S.gZ:fK:=sg 19 zaG [cB 66 zaK] (ρ:=Bool×ay×Int×Int) λr=>([[D.bool r.1]],[Cell.box 66 [V.d (D.sl false 1 r.2.1),V.d (D.int .i64 r.2.2.1),V.d (D.int .i64 r.2.2.2)]])
abbrev S.yx:=zay 132 [pP 100000 0]
abbrev S.yA:=zay 133 [pP 100000 0]
abbrev S.yB:=zay 134 [pP 100000 0]
abbrev S.fH:=zay 86 [pP 100000 0]
abbrev S.qB:=zaz 108 [pP 100000 0]
abbrev S.rP:=zaz 109 zaG
abbrev S.jh:fK:=sg 110 [pP 100000 0,pI,pI,pI] [cB 66 zaK] (ρ:=ay×ay×Int×Int) λr=>([[D.sl true 1 r.1]],[Cell.box 66 [V.d (D.sl false 1 r.2.1),V.d (D.int .i64 r.2.2.1),V.d (D.int .i64 r.2.2.2)]])
abbrev S.qF:=zax 111 [pP 100000 0]
abbrev S.bV:=zaz 82 zaG
abbrev S.qG:=zaz 62 [pP 100000 0]
abbrev S.mG:=zaz 83 zaG
abbrev S.iL:=zaz 84 zaG
abbrev S.mJ:=zaz 85 zaG
abbrev S.jZ:=zaz 63 zaG
abbrev S.uS:=zaz 87 [pP 100000 0]
abbrev S.ng:=zaz 64 [pP 100000 0]
abbrev S.rQ:=zaz 42 [pP 100000 0]
abbrev S.uT:=zaA 43 [pP 100000 0]
abbrev S.oM:=zaA 20 [pP 100000 0]
abbrev S.ni:fK:=sg 5 [pL false 1] [] (ρ:=Bool×ay×aT×Bool×ay) λr=>([[D.sl r.1 5 r.2.1],[D.str r.2.2.1],[D.sl r.2.2.2.1 5 r.2.2.2.2]],[])
abbrev S.iy:=rc 88 [pL false 5]
abbrev S.qH:=ra 65 [pL false 5]
abbrev S.aQ:=ra 30 [pI,pI,pI]
abbrev S.bW:=ra 45 [pI]
abbrev S.kG:=ra 153 [pI]
abbrev S.mM:=ra 164 [pI]
abbrev S.lC:=ra 152 [pI]
abbrev S.ny:=ra 136 [pS]
abbrev S.slices_Index:=re 143 [pL false 1,pS]
abbrev S.nC:=re 137 [pS]
abbrev S.slices_Contains:=ra 119 [pL false 1,pS]
abbrev S.jd:=ra 115 [pS]
abbrev S.ig:=ra 113 [pS]
abbrev S.strings_Contains:=ra 138 [pS,pS]
abbrev S.iq:=re 156 [pS,pI]
abbrev S.bU:=re 155 [pS,pI]
abbrev S.uU:=re 139 [pS,pI]
abbrev S.jQ:=re 157 [pS,pI,pI]
abbrev S.uV:=re 140 [pS,pI]
abbrev S.uX:=re 141 [pS,pI]
abbrev S.jW:=ra 158 [pI]
abbrev S.nT:=ra 159 [pI]
abbrev S.qI:=rf 142 [pI]
abbrev S.jU:=ra 114 [IG [pI,pS,pI]]
abbrev S.iJ:=ra 116 [pI]
abbrev S.qJ:=re 117 [pI]
abbrev S.oN:=ra 118 [pI]
abbrev S.fO:=rg 89 [IG zaB]
abbrev S.fJ:=ra 90 [pI]
abbrev S.fP:=rg 91 [IG zaB]
abbrev S.fQ:=rg 92 [IG zaB]
abbrev S.dW:=ra 66 [IG zaB]
abbrev S.kH:=ra 93 [pI]
abbrev S.uY:=ra 94 [pI]
abbrev S.aU:=ra 67 [IG zaB,pI,pI]
abbrev S.kC:=rh 49 [pL false 5,pI]
abbrev S.kD:=rh 26 [pL false 5]
abbrev S.iO:=re 68 [IG zaF]
abbrev S.nD:=ra 44 [pL false 5]
abbrev S.oO:=ra 22 [pL false 5]
abbrev S.slices_Clone:=rj 46 [pL false 1]
abbrev S.iH:=rb 23 [pL false 5]
abbrev S.jm:=ra 9 [pL false 5,pS]
abbrev S.mO:fK:=sg 25 [pI,IG zaF,pP 100000 0,pP 100001 0] [cB 9 [pS],cB 24 [pL false 5]] (ρ:=ay×aT×ay) λr=>([[D.sl true 5 r.1]],[Cell.box 9 [V.d (D.str r.2.1)],Cell.box 24 [V.d (D.sl false 5 r.2.2)]])
abbrev S.lD:fK:=sg 47 [pL false 5,pI,ahT 25 [] [pP 100000 0,pP 100001 0]] [cB 9 [pS],cB 24 [pL false 5]] (ρ:=ay×aT×ay) λr=>([[D.sl false 5 r.1]],[Cell.box 9 [V.d (D.str r.2.1)],Cell.box 24 [V.d (D.sl false 5 r.2.2)]])
abbrev S.jy:=rb 69 [IG zaF,pL true 5]
abbrev S.nG:=rb 48 [IG zaF]
abbrev S.Bl:fK:=sg 24 [pL false 5,pI,ahT 25 [] [pP 100000 0,pP 100001 0]] [cB 9 [pS],cB 24 [pL false 5]] (ρ:=ay×Bool×aT×ay) λr=>([[D.sl true 5 r.1],[D.bool r.2.1]],[Cell.box 9 [V.d (D.str r.2.2.1)],Cell.box 24 [V.d (D.sl false 5 r.2.2.2)]])
abbrev S.vN:=rk 6 [pL false 5,pS,pL false 5]
abbrev S.bK:=ra 31 [pI,pI,pI]
abbrev S.rU:=rc 52 [pL false 5]
abbrev S.mP:=ra 34 [pL false 5]
abbrev S.qK:=re 35 [pL false 5]
abbrev S.bI:fK:=sg 53 [IG zaB] [] (ρ:=Int×Int) λr=>([[D.int .i64 r.1],[D.int .i64 r.2]],[])
abbrev S.qL:=ra 75 [pI]
abbrev S.lF:=ra 76 [pI]
abbrev S.cu:=ra 54 [IG zaB]
abbrev S.kJ:=ra 122 [pI]
abbrev S.mQ:=ra 144 [pI]
abbrev S.lG:=ra 121 [pI]
abbrev S.nH:=ra 96 [pS]
abbrev S.oI:=rj 123 []
abbrev S.oP:=re 103 [pL false 1,pS]
abbrev S.nI:=re 97 [pS]
abbrev S.nU:=rj 104 []
abbrev S.iP:=ra 79 [pS]
abbrev S.fU:=ra 77 [pS]
abbrev S.qM:=ra 98 [pS]
abbrev S.dh:=re 125 [pS,pI]
abbrev S.aK:=re 124 [pS,pI]
abbrev S.uZ:=re 99 [pS,pI]
abbrev S.kK:=re 126 [pS,pI,pI]
abbrev S.vg:=re 100 [pS,pI]
abbrev S.vk:=re 101 [pS,pI]
abbrev S.vO:=rj 127 []
abbrev S.qN:=rf 102 [pI]
abbrev S.iY:=ra 78 [IG [pI,pS,pI]]
abbrev S.bJ:=ra 55 [IG zaB]
abbrev S.aA:=ra 36 [IG zaB]
abbrev S.kL:=ra 56 [pI]
abbrev S.dO:=ra 33 [pI]
abbrev S.vC:=ra 57 [pI]
abbrev S.aJ:=ra 37 [IG zaB,pI,pI]
abbrev S.ji:=ra 14 [pL false 5]
abbrev S.jJ:=rb 27 [pL false 5]
abbrev S.kE:=ra 13 [pL false 5]
abbrev S.jo:=ra 10 [pL false 5,pS]
abbrev S.lH:=rb 28 [pL false 5,pI,pS,pL false 5]
abbrev S.vP:=rk 7 [pL false 5,pS,pL false 5]
abbrev S.vF:=ra 29 [pL false 1,pL false 1]
abbrev S.oQ:=ra 8 [pL false 5,pL false 5]
abbrev S.yX:=re 11 [pL false 1,pI]
abbrev S.yC:=re 70 [pL false 2,pS]
abbrev S.yD:=rf 120 [pI]
abbrev S.qO:=rl 95 [pS]
abbrev S.oJ:=rl 71 [pS]
abbrev S.gX:=re 72 [pB]
abbrev S.vS:=rl 73 [pL false 5,IG zaB,pL false 2]
abbrev S.vG:=rl 74 [pI,pI,pI]
abbrev S.vT:=rl 51 [pL false 5,IG zaB,pL false 2]
abbrev S.nV:=rl 32 [pL false 5,pI,pL false 2]
abbrev S.sW:=rl 12 [pL false 5,pL false 2]
abbrev S.yE:=re 58 [pL false 2,pS]
abbrev S.iK:=rl 80 [pS]
abbrev S.oK:=rl 59 [pS]
abbrev S.jE:=re 60 [pB]
abbrev S.qP:=rl 81 [pI,pI,pI]
abbrev S.vU:=rl 61 [IG zaF,pL false 2]
abbrev S.ql:=rl 38 [IG zaF,pL false 2]
abbrev S.yY:=rl 15 [pL false 5,pL false 2]
abbrev S.vV:=ra 3 [pL false 1]
abbrev M.JX(code:ay)(k:Bool->Option R):=k (decide ((↑code.length:Int)>1048576))
def M.Hf code:=M.JX code some
def C.Hf:=fTa S.Hf (λx=>M.JX x.1.1)
def M.qm(code:ay)(s:Int×Int)(kn:Int×Int->Option R)(ke:Int×Int->Option R):Option R:=match s with
 |(h',i)=>bif decide (i<(↑code.length:Int)) then(bif decide (i<4000) then((idx code i).bind λa=>(gW IntKind.u8 a 0).bind λb=>kn (i64.wrap (↑(BitVec.ofInt 64 (i64.wrap (i64.wrap (i64.wrap (h' * 131)+i64.wrap b)+7)) &&& BitVec.ofInt 64 1073741823).toNat:Int),i64.wrap (i+1))) else ke (h',i)) else ke (h',i)
def M.wG code s:=M.qm code s (λs=>some (Sum.inl s)) λt=>some (Sum.inr t)
def M.Eo code s:=fG (M.wG code) s
def F.Eo:LE X0 16:=le 3 (Ia [dZ 0 (pL false 1),dZ 3 pI,dZ 4 pI] []) (λx=>(x.1.2.1,x.1.2.2.1)) (λx s=>((x.1.1,s.1,s.2,()),())) (λx=> .leaf (Int×Int) (λt=>(Ex.exit 0,⟨[(0,Gl 1 x.1.1),(3,kY t.1),(4,kY t.2),(15,DN false)],[]⟩))) (λx=>M.qm x.1.1) [] [] (by rintro _ _ ⟨_,_⟩ _ _<;>simp only[M.qm,nb]<;>rfl)
abbrev M.Gm(code:ay)(k:ay×Int×Int->Option R):=(M.Eo code (i64.wrap (10101+(↑code.length:Int)),0)).bind λa=>k (code,0,a.1)
def M.yw code:=M.Gm code some
def C.yw:=fTa S.yw (λx=>M.Gm x.1.1) [] [F.Eo]
abbrev M.Ep(c:ay)(c1 c2:Int)(k:Int×ay×Int×Int->Option R):=cond (decide (c1<(↑c.length:Int))) ((idx c c1).bind λa=>(gW IntKind.u8 a 0).bind λb=>k (i64.wrap (↑(BitVec.ofInt 64 (i64.wrap (i64.wrap (↑(BitVec.ofInt 64 (i64.wrap (↑(BitVec.ofInt 64 ((i64.wrap (i64.wrap (c2 * 6364136223846793005)+1442695040888963407)).fdiv 8589934592) ^^^ BitVec.ofInt 64 ((i64.wrap (i64.wrap (c2 * 6364136223846793005)+1442695040888963407)).fdiv 35184372088832)).toNat:Int)) &&& BitVec.ofInt 64 255).toNat:Int)+i64.wrap b)) &&& BitVec.ofInt 64 255).toNat:Int),c,i64.wrap (c1+1),i64.wrap (i64.wrap (c2 * 6364136223846793005)+1442695040888963407))) (k (i64.wrap (↑(BitVec.ofInt 64 (i64.wrap (↑(BitVec.ofInt 64 ((i64.wrap (i64.wrap (c2 * 6364136223846793005)+1442695040888963407)).fdiv 8589934592) ^^^ BitVec.ofInt 64 ((i64.wrap (i64.wrap (c2 * 6364136223846793005)+1442695040888963407)).fdiv 35184372088832)).toNat:Int)) &&& BitVec.ofInt 64 255).toNat:Int),c,c1,i64.wrap (i64.wrap (c2 * 6364136223846793005)+1442695040888963407)))
def M.jI c c1 c2:=M.Ep c c1 c2 some
def C.jI:=fTa S.jI (λx=>M.Ep x.2.1.1 x.2.1.2.1 x.2.1.2.2.1)
abbrev M.sZ(n':Int)(c:ay)(c1 c2:Int)(k:Int×ay×Int×Int->Option R):=cond (decide (n'<=0)) (k (0,c,c1,c2)) (cond (decide (n'<=256)) ((M.jI c c1 c2).bind λd=>cond (!decide (n'=0)) (k (d.1.tmod n',d.2.1,d.2.2.1,d.2.2.2)) none) ((M.jI c c1 c2).bind λe=>(M.jI e.2.1 e.2.2.1 e.2.2.2).bind λf=>(M.jI f.2.1 f.2.2.1 f.2.2.2).bind λb=>(M.jI b.2.1 b.2.2.1 b.2.2.2).bind λa=>cond (!decide (n'=0)) (k ((i64.wrap (i64.wrap (i64.wrap (i64.wrap (e.1 * 16777216)+i64.wrap (f.1 * 65536))+i64.wrap (b.1 * 256))+a.1)).tmod n',a.2.1,a.2.2.1,a.2.2.2)) none))
def M.aG n' c c1 c2:=M.sZ n' c c1 c2 some
def C.aG:=fTa S.aG (λx=>M.sZ x.1.2.1 x.2.1.1 x.2.1.2.1 x.2.1.2.2.1) [fe C.jI]
abbrev M.Es(list c:ay)(c1 c2:Int)(k:aT×ay×Int×Int->Option R):=(M.aG ((↑list.length:Int)) c c1 c2).bind λa=>(idx list a.1).bind λb=>(cStr b 0).bind λd=>k (d,a.2.1,a.2.2.1,a.2.2.2)
def M.bM list c c1 c2:=M.Es list c c1 c2 some
def C.bM:=fTa S.bM (λx=>M.Es x.1.2.1 x.2.1.1 x.2.1.2.1 x.2.1.2.2.1) [fe C.aG]
abbrev M.yZ(list c:ay)(c1 c2:Int)(k:Int×ay×Int×Int->Option R):=(M.aG ((↑list.length:Int)) c c1 c2).bind λa=>(idx list a.1).bind λb=>(gW .i64 b 0).bind λd=>k (d,a.2.1,a.2.2.1,a.2.2.2)
def M.cZ list c c1 c2:=M.yZ list c c1 c2 some
def C.cZ:=fTa S.cZ (λx=>M.yZ x.1.2.1 x.2.1.1 x.2.1.2.1 x.2.1.2.2.1) [fe C.aG]
def M.kT(l:ay)(by' i:Int)(x':ay)(KG MO:Int)(MP OD:aT)(s:Int×ay)(kn:Int×ay->Option R)(ke:Int×ay->Option R):Option R:=match s with
 |(k',x'5)=>(idx l i).bind λb=>(SE 1 b 4).bind λd=>bif decide (k'<(↑d.length:Int)) then((idx l i).bind λf=>(SE 1 f 4).bind λc=>(idx c k').bind λa=>(gW .i64 a 0).bind λe=>uM x'5 [[D.int .i64 (i64.wrap (e+by'))]] 8 λg=>kn (i64.wrap (k'+1),g)) else ke (k',x'5)
def M.kU l by' i x' KG MO MP OD s:=M.kT l by' i x' KG MO MP OD s (λs=>some (Sum.inl s)) λt=>some (Sum.inr t)
def M.wH l by' i x' KG MO MP OD s:=fG (M.kU l by' i x' KG MO MP OD) s
def F.wH:LE X0 50:=le 8 (Ia [dZ 0 (pL false 5),dZ 1 pI,dZ 5 (pO 300000 0),dZ 6 pI,dZ 7 (pP 300001 0),dZ 8 pI] zaL) (λx=>(x.1.va.2.2.1,x.va.1)) (λx s=>((x.1.1,x.1.2.1,(),x.1.va.1,(),s.1,()),(x.2.1,(x.2.2.1.1,x.2.2.1.2.1,x.2.2.1.2.2.1,x.2.2.1.va.1,(),()),s.2,()))) (λx=> .leaf (Int×ay) (λt=>(Ex.exit 2,⟨[(0,Gl 5 x.1.1),(1,kY x.1.2.1),(5,V.own 300000 0),(6,kY x.1.va.1),(7,V.ptr 300001 0),(8,kY t.1),(29,DN false)],[(300000,Cell.arr false false 0 5 x.2.1),(300001,Cell.box 56 [kY x.2.2.1.1,kY x.2.2.1.2.1,Jz x.2.2.1.2.2.1,Jz x.2.2.1.va.1,V.own 300002 0]),(300002,Cell.arr false true 0 1 t.2)]⟩))) (λx=>zaN (M.kT x.1.1 x.1.2.1 x.1.va.1 x.2.1) x.2.2.1) [] [] (by rintro _ _ ⟨_,_⟩ _ _<;>simp only[zaN,uM,M.kT,nb]<;>rfl)
def M.kV(l:ay)(by':Int)(s:Int×ay)(kn:Int×ay->Option R)(ke:Int×ay->Option R):Option R:=match s with
 |(i,x')=>bif decide (i<(↑l.length:Int)) then((idx l i).bind λa=>jF 1 a λn29 n30 s31 s32 _=>((M.wH l by' i x' n29 n30 s31 s32 (0,[])).bind λb=>bif jO b.2 then(uM x' [[D.int .i64 n29,D.int .i64 n30,D.str s31,D.str s32,D.sl true 1 b.2]] 72 λc=>kn (i64.wrap (i+1),c)) else none)) else ke (i,x')
def M.kW l by' s:=M.kV l by' s (λs=>some (Sum.inl s)) λt=>some (Sum.inr t)
def M.wI l by' s:=fG (M.kW l by') s
def F.wI:LE X0 50:=le 3 (Ia [dZ 0 (pL false 5),dZ 1 pI,dZ 5 (pO 300000 0),dZ 6 pI] [dZ 300000 zaD]) (λx=>(x.1.va.1,x.2.1)) (λx s=>((x.1.1,x.1.2.1,(),s.1,()),(s.2,()))) (λx=> .leaf (Int×ay) (λt=>(Ex.exit 0,⟨[(0,Gl 5 x.1.1),(1,kY x.1.2.1),(5,V.own 300000 0),(6,kY t.1),(13,DN false)],[(300000,Cell.arr false false 0 5 t.2)]⟩))) (λx=>M.kV x.1.1 x.1.2.1) [] [F.wH] (by rintro _ _ ⟨_,_⟩ _ _<;>simp only[uM,jF,M.kV,nb]<;>rfl)
abbrev M.yF(l:ay)(by':Int)(k:ay->Option R):=(M.wI l by' (0,[])).bind λa=>k a.2
def M.jD l by':=M.yF l by' some
def C.jD:=fTa S.jD (λx=>M.yF x.1.1 x.1.2.1) [] [F.wI]
def M.tq(parts:ay)(x' KG:Int)(MO MP:aT)(s:Int×ay×ay)(kn:Int×ay×ay->Option R)(ke:Int×ay×ay->Option R):Option R:=match s with
 |(k',OD,x'5)=>bif decide (k'<(↑parts.length:Int)) then((idx parts k').bind λa=>(SE 5 a 0).bind λb=>(M.jD b ((↑OD.length:Int))).bind λc=>uM OD c 72 λd=>uM x'5 [[D.int .i64 (i64.wrap ((↑d.length:Int) - 1))]] 8 λe=>kn (i64.wrap (k'+1),d,e)) else ke (k',OD,x'5)
def M.y5 parts x' KG MO MP s:=M.tq parts x' KG MO MP s (λs=>some (Sum.inl s)) λt=>some (Sum.inr t)
def M.BR parts x' KG MO MP s:=fG (M.y5 parts x' KG MO MP) s
def F.BR:LE X0 39:=le 4 (Ia [dZ 1 (pL false 1),dZ 2 (pP 300000 0),dZ 5 (pO 300001 0),dZ 6 pI] [dZ 300000 (cB 56 [pI,pI,pS,pS,pO 300002 0]),dZ 300001 zaD,dZ 300002 zaH]) (λx=>(x.1.va.1,x.2.2.1,x.va.1)) (λx s=>((x.1.1,(),(),s.1,()),((x.2.1.1,x.2.1.2.1,x.2.1.2.2.1,x.2.1.va.1,(),()),s.2.1,s.2.2,()))) (λx=> .leaf (Int×ay×ay) (λt=>(Ex.exit 0,⟨[(1,Gl 1 x.1.1),(2,V.ptr 300000 0),(5,V.own 300001 0),(6,kY t.1),(13,DN false)],[(300000,Cell.box 56 [kY x.2.1.1,kY x.2.1.2.1,Jz x.2.1.2.2.1,Jz x.2.1.va.1,V.own 300002 0]),(300001,Cell.arr false false 0 5 t.2.1),(300002,Cell.arr false true 0 1 t.2.2)]⟩))) (λx=>zaN (M.tq x.1.1) x.2.1) [fe C.jD] [] (by rintro _ _ ⟨_,_,_⟩ _ _<;>simp only[zaN,uM,M.tq,nb]<;>rfl)
abbrev M.Et(n' jq:Int)(kM nK:aT)(pG parts:ay)(k:ay->Option R):=(M.BR parts n' jq kM nK (0,[],[])).bind λa=>cond (jO a.2.2) (uM a.2.1 [[D.int .i64 n',D.int .i64 jq,D.str kM,D.str nK,D.sl true 1 a.2.2]] 72 λb=>k b) none
def M.aN n' jq kM nK pG parts:=M.Et n' jq kM nK pG parts some
def C.aN:=fTa S.aN (λx=>M.Et x.1.1.1 x.1.1.2.1 x.1.1.2.2.1 x.1.1.va.1 x.1.1.va.2.1 x.1.2.1) [] [F.BR]
def M.tu(dU:zaa)(deep:Int)(c:ay)(c1 c2:Int)(k:ay×ay×Int×Int->Option R):=(M.aG 10 c c1 c2).bind λa=>cond (decide (deep<=0)) ((M.aG 3 a.2.1 a.2.2.1 a.2.2.2).bind λb=>cond (b.1==0) ((M.bM ([[D.str [120]],[D.str [121]],[D.str [110]]]) b.2.1 b.2.2.1 b.2.2.2).bind λn=>k ([[D.int .i64 1,D.int .i64 0,D.str n.1,D.str [],D.sl true 1 []]],n.2.1,n.2.2.1,n.2.2.2)) (cond (b.1==1) ((M.bM ([[D.str [48]],[D.str [49]],[D.str [50]],[D.str [55]],[D.str [49,48]],[D.str [57,57,57,57,57,57,57,57,57]],[D.str [51,46,53]]]) b.2.1 b.2.2.1 b.2.2.2).bind λm=>k ([[D.int .i64 2,D.int .i64 0,D.str m.1,D.str [],D.sl true 1 []]],m.2.1,m.2.2.1,m.2.2.2)) (cond (b.1==2) ((M.bM ([[D.str [48]],[D.str [49]],[D.str [50]],[D.str [55]],[D.str [49,48]],[D.str [57,57,57,57,57,57,57,57,57]],[D.str [51,46,53]]]) b.2.1 b.2.2.1 b.2.2.2).bind λu=>k ([[D.int .i64 2,D.int .i64 0,D.str u.1,D.str [],D.sl true 1 []]],u.2.1,u.2.2.1,u.2.2.2)) (cond (b.1==3) ((M.cZ ([[D.int .i64 56],[D.int .i64 61],[D.int .i64 55]]) b.2.1 b.2.2.1 b.2.2.2).bind λs=>(dU (i64.wrap (deep - 1)) s.2.1 s.2.2.1 s.2.2.2).bind λe=>(M.aN 11 s.1 [] [] [] (aF [[D.sl true 5 e.1]])).bind λF=>cond ([[D.sl true 5 F]].all bY) (k (F,e.2.1,e.2.2.1,e.2.2.2)) none) (cond (b.1==4) ((dU (i64.wrap (deep - 1)) b.2.1 b.2.2.1 b.2.2.2).bind λf=>(dU (i64.wrap (deep - 1)) f.2.1 f.2.2.1 f.2.2.2).bind λl=>(dU (i64.wrap (deep - 1)) l.2.1 l.2.2.1 l.2.2.2).bind λz=>(M.aN 14 0 [] [] [] (aF [[D.sl true 5 f.1],[D.sl true 5 l.1],[D.sl true 5 z.1]])).bind λC=>cond ([[D.sl true 5 C]].all bY) (k (C,z.2.1,z.2.2.1,z.2.2.2)) none) ((M.cZ ([[D.int .i64 55],[D.int .i64 56],[D.int .i64 57],[D.int .i64 59],[D.int .i64 63],[D.int .i64 47],[D.int .i64 49],[D.int .i64 45],[D.int .i64 44],[D.int .i64 55],[D.int .i64 50],[D.int .i64 62],[D.int .i64 48],[D.int .i64 58]]) b.2.1 b.2.2.1 b.2.2.2).bind λo=>(dU (i64.wrap (deep - 1)) o.2.1 o.2.2.1 o.2.2.2).bind λi=>(dU (i64.wrap (deep - 1)) i.2.1 i.2.2.1 i.2.2.2).bind λx=>(M.aN 12 o.1 [] [] [] (aF [[D.sl true 5 i.1],[D.sl true 5 x.1]])).bind λG=>cond ([[D.sl true 5 G]].all bY) (k (G,x.2.1,x.2.2.1,x.2.2.2)) none)))))) (cond (a.1==0) ((M.bM ([[D.str [120]],[D.str [121]],[D.str [110]]]) a.2.1 a.2.2.1 a.2.2.2).bind λd=>k ([[D.int .i64 1,D.int .i64 0,D.str d.1,D.str [],D.sl true 1 []]],d.2.1,d.2.2.1,d.2.2.2)) (cond (a.1==1) ((M.bM ([[D.str [48]],[D.str [49]],[D.str [50]],[D.str [55]],[D.str [49,48]],[D.str [57,57,57,57,57,57,57,57,57]],[D.str [51,46,53]]]) a.2.1 a.2.2.1 a.2.2.2).bind λt=>k ([[D.int .i64 2,D.int .i64 0,D.str t.1,D.str [],D.sl true 1 []]],t.2.1,t.2.2.1,t.2.2.2)) (cond (a.1==2) ((M.bM ([[D.str [48]],[D.str [49]],[D.str [50]],[D.str [55]],[D.str [49,48]],[D.str [57,57,57,57,57,57,57,57,57]],[D.str [51,46,53]]]) a.2.1 a.2.2.1 a.2.2.2).bind λh=>k ([[D.int .i64 2,D.int .i64 0,D.str h.1,D.str [],D.sl true 1 []]],h.2.1,h.2.2.1,h.2.2.2)) (cond (a.1==3) ((M.cZ ([[D.int .i64 56],[D.int .i64 61],[D.int .i64 55]]) a.2.1 a.2.2.1 a.2.2.2).bind λj=>(dU (i64.wrap (deep - 1)) j.2.1 j.2.2.1 j.2.2.2).bind λp=>(M.aN 11 j.1 [] [] [] (aF [[D.sl true 5 p.1]])).bind λE=>cond ([[D.sl true 5 E]].all bY) (k (E,p.2.1,p.2.2.1,p.2.2.2)) none) (cond (a.1==4) ((dU (i64.wrap (deep - 1)) a.2.1 a.2.2.1 a.2.2.2).bind λg=>(dU (i64.wrap (deep - 1)) g.2.1 g.2.2.1 g.2.2.2).bind λy=>(dU (i64.wrap (deep - 1)) y.2.1 y.2.2.1 y.2.2.2).bind λr=>(M.aN 14 0 [] [] [] (aF [[D.sl true 5 g.1],[D.sl true 5 y.1],[D.sl true 5 r.1]])).bind λB=>cond ([[D.sl true 5 B]].all bY) (k (B,r.2.1,r.2.2.1,r.2.2.2)) none) ((M.cZ ([[D.int .i64 55],[D.int .i64 56],[D.int .i64 57],[D.int .i64 59],[D.int .i64 63],[D.int .i64 47],[D.int .i64 49],[D.int .i64 45],[D.int .i64 44],[D.int .i64 55],[D.int .i64 50],[D.int .i64 62],[D.int .i64 48],[D.int .i64 58]]) a.2.1 a.2.2.1 a.2.2.2).bind λq=>(dU (i64.wrap (deep - 1)) q.2.1 q.2.2.1 q.2.2.2).bind λv=>(dU (i64.wrap (deep - 1)) v.2.1 v.2.2.1 v.2.2.2).bind λw=>(M.aN 12 q.1 [] [] [] (aF [[D.sl true 5 v.1],[D.sl true 5 w.1]])).bind λA=>cond ([[D.sl true 5 A]].all bY) (k (A,w.2.1,w.2.2.1,w.2.2.2)) none))))))
def M.jr:Nat->Int->ay->Int->Int->Option zas
 |0=>λ_ _ _ _=>none
 |n+1=>λdeep c c1 c2=>M.tu (M.jr n) deep c c1 c2 some
def M.iW deep c c1 c2:=lim λn=>M.jr n deep c c1 c2
def C.SI{dU:zaa}(Vj:S.iW.ok X0 λx=>dU x.1.2.1 x.2.1.1 x.2.1.2.1 x.2.1.2.2.1):S.iW.ok X0 λx=>M.tu dU x.1.2.1 x.2.1.1 x.2.1.2.1 x.2.1.2.2.1 some:=fnS (λx=>M.tu dU x.1.2.1 x.2.1.1 x.2.1.2.1 x.2.1.2.2.1) [fe C.aG,fe C.bM,fe C.cZ,fe Vj,fe C.aN] [] (by intros;simp only[M.tu,nb]<;>rfl)
def C.jr:∀n,S.iW.ok X0 λx=>M.jr n x.1.2.1 x.2.1.1 x.2.1.2.1 x.2.1.2.2.1
 |0=>fK.zero
 |n+1=>C.SI (C.jr n)
def C.iW:S.iW.ok X0 λx=>M.iW x.1.2.1 x.2.1.1 x.2.1.2.1 x.2.1.2.2.1:=fK.lim C.jr
def M.SK{n:Nat}{deep:Int}{c:ay}{c1 c2:Int}{r:ay×ay×Int×Int}(h:M.jr n deep c c1 c2=some r):M.iW deep c c1 c2=some r:=fK.yj C.jr (by intro a b h;simp[S.iW,sg] at h;first|exact h|simp[Prod.ext_iff,h]) (x:=(((),deep,()),((c,c1,c2,()),()))) h
abbrev M.Eu(n':Int)(c:ay)(c1 c2:Int)(k:Bool×ay×Int×Int->Option R):=(M.aG n' c c1 c2).bind λa=>k (a.1==0,a.2.1,a.2.2.1,a.2.2.2)
def M.gZ n' c c1 c2:=M.Eu n' c c1 c2 some
def C.gZ:=fTa S.gZ (λx=>M.Eu x.1.2.1 x.2.1.1 x.2.1.2.1 x.2.1.2.2.1) [fe C.aG]
abbrev M.Gn(c:ay)(c1 c2:Int)(k:aT×ay×Int×Int->Option R):=(M.bM ([[D.str [48]],[D.str [49]],[D.str [52,50]],[D.str [51,46,53]],[D.str [46,53]],[D.str [55,46]],[D.str [49,101,51]],[D.str [50,69,45,52]],[D.str [49,48,46,50,53,101,43,49]]]) c c1 c2).bind λa=>k (a.1,a.2.1,a.2.2.1,a.2.2.2)
def M.yx c c1 c2:=M.Gn c c1 c2 some
def C.yx:=fTa S.yx (λx=>M.Gn x.2.1.1 x.2.1.2.1 x.2.1.2.2.1) [fe C.bM]
abbrev M.Gp(c:ay)(c1 c2:Int)(k:aT×ay×Int×Int->Option R):=(M.bM ([[D.str [34,34]],[D.str [34,97,34]],[D.str [34,120,32,121,34]],[D.str [34,113,92,34,113,34]],[D.str [34,92,110,34]],[D.str [34,35,110,111,34]],[D.str [34,47,34]]]) c c1 c2).bind λa=>k (a.1,a.2.1,a.2.2.1,a.2.2.2)
def M.yA c c1 c2:=M.Gp c c1 c2 some
def C.yA:=fTa S.yA (λx=>M.Gp x.2.1.1 x.2.1.2.1 x.2.1.2.2.1) [fe C.bM]
abbrev M.Gq(c:ay)(c1 c2:Int)(k:aT×ay×Int×Int->Option R):=(M.bM ([[D.str [47,97,47]],[D.str [47,94,120,43,36,47]],[D.str [47,97,92,47,98,47]],[D.str [47,61,47]],[D.str [47,32,47]],[D.str [47,91,48,45,57,93,47]]]) c c1 c2).bind λa=>k (a.1,a.2.1,a.2.2.1,a.2.2.2)
def M.yB c c1 c2:=M.Gq c c1 c2 some
def C.yB:=fTa S.yB (λx=>M.Gq x.2.1.1 x.2.1.2.1 x.2.1.2.2.1) [fe C.bM]
abbrev M.Ew(c:ay)(c1 c2:Int)(k:aT×ay×Int×Int->Option R):=(M.bM ([[D.str [120]],[D.str [121]],[D.str [110]],[D.str [105]],[D.str [97,114,114]],[D.str [78,82]],[D.str [70,83]],[D.str [116,111,116,97,108]],[D.str [97,49]],[D.str [95,116]],[D.str [99,111,117,110,116]]]) c c1 c2).bind λa=>k (a.1,a.2.1,a.2.2.1,a.2.2.2)
def M.fH c c1 c2:=M.Ew c c1 c2 some
def C.fH:=fTa S.fH (λx=>M.Ew x.2.1.1 x.2.1.2.1 x.2.1.2.2.1) [fe C.bM]
abbrev M.Ey(c:ay)(c1 c2:Int)(k:ay×ay×Int×Int->Option R):=(M.aG 7 c c1 c2).bind λa=>cond (a.1==0) ((M.yx a.2.1 a.2.2.1 a.2.2.2).bind λd=>k ([[D.int .i64 2,D.int .i64 0,D.str d.1,D.str [],D.sl true 1 []]],d.2.1,d.2.2.1,d.2.2.2)) (cond (a.1==1) ((M.yA a.2.1 a.2.2.1 a.2.2.2).bind λe=>k ([[D.int .i64 3,D.int .i64 0,D.str e.1,D.str [],D.sl true 1 []]],e.2.1,e.2.2.1,e.2.2.2)) (cond (a.1==2) ((M.gZ 2 a.2.1 a.2.2.1 a.2.2.2).bind λb=>cond b.1 ((M.yB b.2.1 b.2.2.1 b.2.2.2).bind λf=>k ([[D.int .i64 4,D.int .i64 0,D.str f.1,D.str [],D.sl true 1 []]],f.2.1,f.2.2.1,f.2.2.2)) ((M.fH b.2.1 b.2.2.1 b.2.2.2).bind λh=>k ([[D.int .i64 1,D.int .i64 0,D.str h.1,D.str [],D.sl true 1 []]],h.2.1,h.2.2.1,h.2.2.2))) ((M.fH a.2.1 a.2.2.1 a.2.2.2).bind λg=>k ([[D.int .i64 1,D.int .i64 0,D.str g.1,D.str [],D.sl true 1 []]],g.2.1,g.2.2.1,g.2.2.2))))
def M.qB c c1 c2:=M.Ey c c1 c2 some
def C.qB:=fTa S.qB (λx=>M.Ey x.2.1.1 x.2.1.2.1 x.2.1.2.2.1) [fe C.aG,fe C.yx,fe C.yA,fe C.gZ,fe C.yB,fe C.fH]
def M.qo(aV:zaa)(deep:Int)(c:ay)(c1 c2:Int)(k:ay×ay×Int×Int->Option R):=(M.aG 4 c c1 c2).bind λa=>cond (a.1==0) ((M.fH a.2.1 a.2.2.1 a.2.2.2).bind λb=>(aV (i64.wrap (deep - 1)) b.2.1 b.2.2.1 b.2.2.2).bind λe=>(M.aN 5 0 b.1 [] [] (aF [[D.sl true 5 e.1]])).bind λh=>cond ([[D.sl true 5 h]].all bY) (k (h,e.2.1,e.2.2.1,e.2.2.2)) none) (cond (a.1==1) ((aV (i64.wrap (deep - 2)) a.2.1 a.2.2.1 a.2.2.2).bind λf=>(M.aN 6 0 [] [] [] (aF [[D.sl true 5 f.1]])).bind λg=>cond ([[D.sl true 5 g]].all bY) (k (g,f.2.1,f.2.2.1,f.2.2.2)) none) ((M.fH a.2.1 a.2.2.1 a.2.2.2).bind λd=>k ([[D.int .i64 1,D.int .i64 0,D.str d.1,D.str [],D.sl true 1 []]],d.2.1,d.2.2.1,d.2.2.2)))
def C.QH{aV:zaa}(rV:S.bV.ok X0 λx=>aV x.1.2.1 x.2.1.1 x.2.1.2.1 x.2.1.2.2.1):S.rP.ok X0 λx=>M.qo aV x.1.2.1 x.2.1.1 x.2.1.2.1 x.2.1.2.2.1 some:=fnS (λx=>M.qo aV x.1.2.1 x.2.1.1 x.2.1.2.1 x.2.1.2.2.1) [fe C.aG,fe C.fH,fe rV,fe C.aN] [] (by intros;simp only[M.qo,nb]<;>rfl)
def M.y7(aV:zaa)(deep:Int)(s:Int×ay×Int×Int×ay)(kn:Int×ay×Int×Int×ay->Option R)(ke:Int×ay×Int×Int×ay->Option R):Option R:=match s with
 |(n',v,v1,v2,x')=>bif decide (n'>0) then((aV deep v v1 v2).bind λa=>uM x' [[D.sl true 5 a.1]] 24 λb=>kn (i64.wrap (n' - 1),a.2.1,a.2.2.1,a.2.2.2,b)) else ke (n',v,v1,v2,x')
def M.D5 aV deep s:=M.y7 aV deep s (λs=>some (Sum.inl s)) λt=>some (Sum.inr t)
def M.BU aV deep s:=fG (M.D5 aV deep) s
def F.BU{aV:zaa}(rV:S.bV.ok X0 λx=>aV x.1.2.1 x.2.1.1 x.2.1.2.1 x.2.1.2.2.1):LE X0 110:=le 3 (Ia [dZ 0 (pP 100000 0),dZ 3 pI,dZ 9 (pO 300000 0),dZ 10 pI] zaC) (λx=>(x.1.va.1,x.2.1.1,x.2.1.2.1,x.2.1.2.2.1,x.2.2.1)) (λx s=>(((),x.1.2.1,(),s.1,()),((s.2.1,s.2.2.1,s.va.1,()),s.va.2,()))) (λx=> .leaf zal (λt=>(Ex.exit 0,⟨[(0,V.ptr 100000 0),(3,kY x.1.2.1),(9,V.own 300000 0),(10,kY t.1),(21,DN false)],[(100000,Cell.box 66 [Gl 1 t.2.1,kY t.2.2.1,kY t.va.1]),(300000,Cell.arr false false 0 1 t.va.2)]⟩))) (λx=>M.y7 aV x.1.2.1) [fe rV] [] (by rintro _ _ ⟨_,_,_,_,_⟩ _ _<;>simp only[uM,M.y7,nb]<;>rfl)
def M.wV(aV:zaa)(least most deep:Int)(c:ay)(c1 c2:Int)(k:ay×ay×Int×Int->Option R):=(M.aG (i64.wrap (i64.wrap (most - least)+1)) c c1 c2).bind λb=>(M.BU aV deep (i64.wrap (least+b.1),b.2.1,b.2.2.1,b.2.2.2,[])).bind λa=>k (a.2.2.2.2,a.2.1,a.2.2.1,a.2.2.2.1)
def C.Vk{aV:zaa}(rV:S.bV.ok X0 λx=>aV x.1.2.1 x.2.1.1 x.2.1.2.1 x.2.1.2.2.1):S.jh.ok X0 λx=>M.wV aV x.1.2.1 x.1.2.2.1 x.1.va.1 x.2.1.1 x.2.1.2.1 x.2.1.2.2.1 some:=fnS (λx=>M.wV aV x.1.2.1 x.1.2.2.1 x.1.va.1 x.2.1.1 x.2.1.2.1 x.2.1.2.2.1) [fe C.aG] [F.BU rV] (by intros;simp only[M.wV,nb]<;>rfl)
abbrev M.BX(c:ay)(c1 c2:Int)(k:Int×ay×Int×Int->Option R):=(M.cZ ([[D.int .i64 60],[D.int .i64 57],[D.int .i64 58],[D.int .i64 59],[D.int .i64 55],[D.int .i64 56],[D.int .i64 56],[D.int .i64 99],[D.int .i64 99],[D.int .i64 99],[D.int .i64 63],[D.int .i64 48],[D.int .i64 47],[D.int .i64 50],[D.int .i64 62],[D.int .i64 62],[D.int .i64 49],[D.int .i64 67],[D.int .i64 46],[D.int .i64 45],[D.int .i64 44]]) c c1 c2).bind λa=>k (a.1,a.2.1,a.2.2.1,a.2.2.2)
def M.qF c c1 c2:=M.BX c c1 c2 some
def C.qF:=fTa S.qF (λx=>M.BX x.2.1.1 x.2.1.2.1 x.2.1.2.2.1) [fe C.cZ]
def M.rW(jK:zaa)(aV:zaa)(nX:zaj)(deep:Int)(c:ay)(c1 c2:Int)(k:ay×ay×Int×Int->Option R):=cond (decide (deep<=0)) ((M.qB c c1 c2).bind λh=>k (h.1,h.2.1,h.2.2.1,h.2.2.2)) ((M.aG 2 c c1 c2).bind λb=>(M.aG 16 b.2.1 b.2.2.1 b.2.2.2).bind λa=>cond (a.1==0) ((M.qB a.2.1 a.2.2.1 a.2.2.2).bind λm=>k (m.1,m.2.1,m.2.2.1,m.2.2.2)) (cond (a.1==1) ((jK deep a.2.1 a.2.2.1 a.2.2.2).bind λd=>k (d.1,d.2.1,d.2.2.1,d.2.2.2)) (cond (a.1==2) ((aV (i64.wrap (deep - 1)) a.2.1 a.2.2.1 a.2.2.2).bind λu=>(M.aN 6 0 [] [] [] (aF [[D.sl true 5 u.1]])).bind λH=>cond ([[D.sl true 5 H]].all bY) (k (H,u.2.1,u.2.2.1,u.2.2.2)) none) (cond (a.1==3) ((M.fH a.2.1 a.2.2.1 a.2.2.2).bind λg=>(nX 0 3 (i64.wrap (deep - 1)) g.2.1 g.2.2.1 g.2.2.2).bind λy=>(M.aN 7 0 g.1 [] [] (aF y.1)).bind λF=>cond ([[D.sl true 5 F]].all bY) (k (F,y.2.1,y.2.2.1,y.2.2.2)) none) (cond (a.1==4) ((M.bM ([[D.str [108,101,110,103,116,104]],[D.str [115,117,98,115,116,114]],[D.str [105,110,100,101,120]],[D.str [105,110,116]],[D.str [116,111,117,112,112,101,114]]]) a.2.1 a.2.2.1 a.2.2.2).bind λr=>(nX 0 3 (i64.wrap (deep - 2)) r.2.1 r.2.2.1 r.2.2.2).bind λl=>(M.aN 8 0 r.1 [] [] (aF l.1)).bind λI=>cond ([[D.sl true 5 I]].all bY) (k (I,l.2.1,l.2.2.1,l.2.2.2)) none) (cond (a.1==5) ((jK (i64.wrap (deep - 1)) a.2.1 a.2.2.1 a.2.2.2).bind λN=>(M.aN 9 (i64.wrap (51+b.1)) [] [] [] (aF [[D.sl true 5 N.1]])).bind λP=>cond ([[D.sl true 5 P]].all bY) (k (P,N.2.1,N.2.2.1,N.2.2.2)) none) (cond (a.1==6) ((jK (i64.wrap (deep - 1)) a.2.1 a.2.2.1 a.2.2.2).bind λL=>(M.aN 10 (i64.wrap (51+b.1)) [] [] [] (aF [[D.sl true 5 L.1]])).bind λG=>cond ([[D.sl true 5 G]].all bY) (k (G,L.2.1,L.2.2.1,L.2.2.2)) none) (cond (a.1==7) ((M.cZ ([[D.int .i64 56],[D.int .i64 55],[D.int .i64 61]]) a.2.1 a.2.2.1 a.2.2.2).bind λO=>(aV (i64.wrap (deep - 1)) O.2.1 O.2.2.1 O.2.2.2).bind λq=>(M.aN 11 O.1 [] [] [] (aF [[D.sl true 5 q.1]])).bind λC=>cond ([[D.sl true 5 C]].all bY) (k (C,q.2.1,q.2.2.1,q.2.2.2)) none) (cond (a.1==8) ((M.cZ ([[D.int .i64 56],[D.int .i64 55],[D.int .i64 61]]) a.2.1 a.2.2.1 a.2.2.2).bind λj=>(aV (i64.wrap (deep - 1)) j.2.1 j.2.2.1 j.2.2.2).bind λw=>(M.aN 11 j.1 [] [] [] (aF [[D.sl true 5 w.1]])).bind λJ=>cond ([[D.sl true 5 J]].all bY) (k (J,w.2.1,w.2.2.1,w.2.2.2)) none) (cond (a.1==9) ((M.fH a.2.1 a.2.2.1 a.2.2.2).bind λe=>(nX 1 2 (i64.wrap (deep - 1)) e.2.1 e.2.2.1 e.2.2.2).bind λx=>(M.aN 13 0 e.1 [] [] (aF x.1)).bind λK=>cond ([[D.sl true 5 K]].all bY) (k (K,x.2.1,x.2.2.1,x.2.2.2)) none) (cond (a.1==10) ((aV (i64.wrap (deep - 1)) a.2.1 a.2.2.1 a.2.2.2).bind λo=>(aV (i64.wrap (deep - 1)) o.2.1 o.2.2.1 o.2.2.2).bind λp=>(aV (i64.wrap (deep - 1)) p.2.1 p.2.2.1 p.2.2.2).bind λt=>(M.aN 14 0 [] [] [] (aF [[D.sl true 5 o.1],[D.sl true 5 p.1],[D.sl true 5 t.1]])).bind λA=>cond ([[D.sl true 5 A]].all bY) (k (A,t.2.1,t.2.2.1,t.2.2.2)) none) (cond (a.1==11) ((M.cZ ([[D.int .i64 54],[D.int .i64 38],[D.int .i64 43]]) a.2.1 a.2.2.1 a.2.2.2).bind λz=>(jK (i64.wrap (deep - 1)) z.2.1 z.2.2.1 z.2.2.2).bind λi=>(aV (i64.wrap (deep - 1)) i.2.1 i.2.2.1 i.2.2.2).bind λs=>(M.aN 15 z.1 [] [] [] (aF [[D.sl true 5 i.1],[D.sl true 5 s.1]])).bind λB=>cond ([[D.sl true 5 B]].all bY) (k (B,s.2.1,s.2.2.1,s.2.2.2)) none) ((M.qF a.2.1 a.2.2.1 a.2.2.2).bind λv=>(aV (i64.wrap (deep - 1)) v.2.1 v.2.2.1 v.2.2.2).bind λf=>(aV (i64.wrap (deep - 1)) f.2.1 f.2.2.1 f.2.2.2).bind λn=>(M.aN 12 v.1 [] [] [] (aF [[D.sl true 5 f.1],[D.sl true 5 n.1]])).bind λE=>cond ([[D.sl true 5 E]].all bY) (k (E,n.2.1,n.2.2.1,n.2.2.2)) none)))))))))))))
def C.Vp{jK:zaa}{aV:zaa}{nX:zaj}(SN:S.rP.ok X0 λx=>jK x.1.2.1 x.2.1.1 x.2.1.2.1 x.2.1.2.2.1)(rV:S.bV.ok X0 λx=>aV x.1.2.1 x.2.1.1 x.2.1.2.1 x.2.1.2.2.1)(WZ:S.jh.ok X0 λx=>nX x.1.2.1 x.1.2.2.1 x.1.va.1 x.2.1.1 x.2.1.2.1 x.2.1.2.2.1):S.bV.ok X0 λx=>M.rW jK aV nX x.1.2.1 x.2.1.1 x.2.1.2.1 x.2.1.2.2.1 some:=fnS (λx=>M.rW jK aV nX x.1.2.1 x.2.1.1 x.2.1.2.1 x.2.1.2.2.1) [fe C.qB,fe C.aG,fe SN,fe rV,fe C.aN,fe C.fH,fe WZ,fe C.bM,fe C.cZ,fe C.qF] [] (by intros;simp only[M.rW,nb]<;>rfl)
def M.kN:Nat->(zaa)×(zaa)×(zaj):=Nat.rec (λ_ _ _ _=>none,λ_ _ _ _=>none,λ_ _ _ _ _ _=>none) λ_ qz=>(λdeep c c1 c2=>M.rW qz.2.1 qz.1 qz.2.2 deep c c1 c2 some,λdeep c c1 c2=>M.qo qz.1 deep c c1 c2 some,λleast most deep c c1 c2=>M.wV qz.1 least most deep c c1 c2 some)
def M.jR n:=(M.kN n).1
def M.wJ n:=(M.kN n).2.1
def M.wW n:=(M.kN n).2.2
def M.Ny(n:Nat):M.jR (n+1)=λdeep c c1 c2=>M.rW (M.wJ n) (M.jR n) (M.wW n) deep c c1 c2 some:=rfl
def M.SQ(n:Nat):M.wJ (n+1)=λdeep c c1 c2=>M.qo (M.jR n) deep c c1 c2 some:=rfl
def M.W9(n:Nat):M.wW (n+1)=λleast most deep c c1 c2=>M.wV (M.jR n) least most deep c c1 c2 some:=rfl
def M.bV deep c c1 c2:=lim λn=>M.jR n deep c c1 c2
def M.rP deep c c1 c2:=lim λn=>M.wJ n deep c c1 c2
def M.jh least most deep c c1 c2:=lim λn=>M.wW n least most deep c c1 c2
def C.kN:∀n,(S.bV.ok X0 λx=>M.jR n x.1.2.1 x.2.1.1 x.2.1.2.1 x.2.1.2.2.1)/\(S.rP.ok X0 λx=>M.wJ n x.1.2.1 x.2.1.1 x.2.1.2.1 x.2.1.2.2.1)/\(S.jh.ok X0 λx=>M.wW n x.1.2.1 x.1.2.2.1 x.1.va.1 x.2.1.1 x.2.1.2.1 x.2.1.2.2.1)
 |0=>⟨fK.zero,fK.zero,fK.zero⟩
 |n+1=>have h:=C.kN n;⟨C.Vp h.2.1 h.1 h.2.2,C.QH h.1,C.Vk h.1⟩
def C.bV:S.bV.ok X0 λx=>M.bV x.1.2.1 x.2.1.1 x.2.1.2.1 x.2.1.2.2.1:=fK.lim λn=>(C.kN n).1
def M.Vq{n:Nat}{deep:Int}{c:ay}{c1 c2:Int}{r:ay×ay×Int×Int}(h:M.jR n deep c c1 c2=some r):M.bV deep c c1 c2=some r:=fK.yj (λn=>(C.kN n).1) (by intro a b h;simp[S.bV,sg] at h;first|exact h|simp[Prod.ext_iff,h]) (x:=(((),deep,()),((c,c1,c2,()),()))) h
def C.rP:S.rP.ok X0 λx=>M.rP x.1.2.1 x.2.1.1 x.2.1.2.1 x.2.1.2.2.1:=fK.lim λn=>(C.kN n).2.1
def C.jh:S.jh.ok X0 λx=>M.jh x.1.2.1 x.1.2.2.1 x.1.va.1 x.2.1.1 x.2.1.2.1 x.2.1.2.2.1:=fK.lim λn=>(C.kN n).2.2
def M.Vr{n:Nat}{least most deep:Int}{c:ay}{c1 c2:Int}{r:ay×ay×Int×Int}(h:M.wW n least most deep c c1 c2=some r):M.jh least most deep c c1 c2=some r:=fK.yj (λn=>(C.kN n).2.2) (by intro a b h;simp[S.jh,sg] at h;first|exact h|simp[Prod.ext_iff,h]) (x:=(((),least,most,deep,()),((c,c1,c2,()),()))) h
def M.tH(s:(ay×Int×Int)⊕zak)(kn:(ay×Int×Int)⊕zak->Option R)(ke:ay×Int×Int×ay->Option R):Option R:=match s with
 | .inl (v,v1,v2)=>(M.aG 4 v v1 v2).bind λd=>((M.bV (i64.wrap (1+d.1)) d.2.1 d.2.2.1 d.2.2.2).bind λb=>bif decide ((↑b.1.length:Int)<=60) then(ke (b.2.1,b.2.2.1,b.2.2.2,b.1)) else kn (.inr (false,b.2.1,b.2.2.1,b.2.2.2,b.1)))
 | .inr (v11,v,v1,v2,x')=>(M.aG 4 v v1 v2).bind λa=>(M.bV (i64.wrap (1+a.1)) a.2.1 a.2.2.1 a.2.2.2).bind λc=>bif decide ((↑c.1.length:Int)<=60) then(ke (c.2.1,c.2.2.1,c.2.2.2,c.1)) else kn (.inr (false,c.2.1,c.2.2.1,c.2.2.2,c.1))
def M.tJ s:=M.tH s (λs=>some (Sum.inl s)) λt=>some (Sum.inr t)
def M.BZ s:=fG (M.tJ) s
def F.BZ:LE X0 62:=le 1 (pOr (Ia [dZ 0 (pP 100000 0)] [dZ 100000 (cB 66 zaK)]) (Ia [dZ 0 (pP 100000 0),dZ 3 (pO 300000 0),dZ 11 pB] [dZ 100000 (cB 66 zaK),dZ 300000 zaD])) (σ:=(ay×Int×Int)⊕zak) (λx=>(match x with| .inl x=> .inl ((x.2.1.1,x.2.1.2.1,x.2.1.2.2.1))| .inr x=> .inr ((x.1.2.2.1,x.2.1.1,x.2.1.2.1,x.2.1.2.2.1,x.2.2.1)))) (λx s=>(match s with| .inl s=> .inl ((((),()),((s.1,s.2.1,s.2.2,()),())))| .inr s=> .inr ((((),(),s.1,()),((s.2.1,s.2.2.1,s.va.1,()),s.va.2,()))))) (λx=> .leaf (ay×Int×Int×ay) (λt=>(Ex.ret,⟨[(2,V.own 300000 0)],[(100000,Cell.box 66 [Gl 1 t.1,kY t.2.1,kY t.2.2.1]),(300000,Cell.arr false false 0 5 t.va)]⟩))) (λx=>M.tH) [fe C.aG,fe C.bV] [] (by rintro _ _ (⟨_,_,_⟩|⟨_,_,_,_,_⟩) _ _<;>unfold M.tH<;>exact zaO) (hE:=by intro _ _ s _;rcases s with s|s<;>kernel_rfl)
abbrev M.Ez(c:ay)(c1 c2:Int)(k:ay×ay×Int×Int->Option R):=(M.BZ (.inl (c,c1,c2))).bind λa=>k (a.2.2.2,a.1,a.2.1,a.2.2.1)
def M.qG c c1 c2:=M.Ez c c1 c2 some
def C.qG:=fTa S.qG (λx=>M.Ez x.2.1.1 x.2.1.2.1 x.2.1.2.2.1) [] [F.BZ]
abbrev M.Ae(deep:Int)(c:ay)(c1 c2:Int)(k:ay×ay×Int×Int->Option R):=(M.aG 9 c c1 c2).bind λa=>cond (a.1==0) ((M.aG 2 a.2.1 a.2.2.1 a.2.2.2).bind λe=>(M.jh e.1 3 deep e.2.1 e.2.2.1 e.2.2.2).bind λg=>(M.gZ 3 g.2.1 g.2.2.1 g.2.2.2).bind λv=>cond v.1 ((M.bM ([[D.str [62]],[D.str [62,62]],[D.str [124]]]) v.2.1 v.2.2.1 v.2.2.2).bind λq=>(M.bV (i64.wrap (deep - 1)) q.2.1 q.2.2.1 q.2.2.2).bind λl=>uM g.1 [[D.sl true 5 l.1]] 24 λza=>(M.aN 21 e.1 [] q.1 [] (aF za)).bind λz=>cond ([[D.sl true 5 z]].all bY) (k (z,l.2.1,l.2.2.1,l.2.2.2)) none) ((M.aN 21 e.1 [] [] [] (aF g.1)).bind λE=>cond ([[D.sl true 5 E]].all bY) (k (E,v.2.1,v.2.2.1,v.2.2.2)) none)) (cond (a.1==1) ((M.aG 2 a.2.1 a.2.2.1 a.2.2.2).bind λf=>(M.jh f.1 3 deep f.2.1 f.2.2.1 f.2.2.2).bind λh=>(M.gZ 3 h.2.1 h.2.2.1 h.2.2.2).bind λd=>cond d.1 ((M.bM ([[D.str [62]],[D.str [62,62]],[D.str [124]]]) d.2.1 d.2.2.1 d.2.2.2).bind λo=>(M.bV (i64.wrap (deep - 1)) o.2.1 o.2.2.1 o.2.2.2).bind λt=>uM h.1 [[D.sl true 5 t.1]] 24 λza=>(M.aN 21 f.1 [] o.1 [] (aF za)).bind λC=>cond ([[D.sl true 5 C]].all bY) (k (C,t.2.1,t.2.2.1,t.2.2.2)) none) ((M.aN 21 f.1 [] [] [] (aF h.1)).bind λB=>cond ([[D.sl true 5 B]].all bY) (k (B,d.2.1,d.2.2.1,d.2.2.2)) none)) (cond (a.1==2) ((M.cZ ([[D.int .i64 22],[D.int .i64 25],[D.int .i64 26]]) a.2.1 a.2.2.1 a.2.2.2).bind λm=>k ([[D.int .i64 m.1,D.int .i64 0,D.str [],D.str [],D.sl true 1 []]],m.2.1,m.2.2.1,m.2.2.2)) (cond (a.1==3) ((M.cZ ([[D.int .i64 23],[D.int .i64 24]]) a.2.1 a.2.2.1 a.2.2.2).bind λj=>(M.jh 0 1 deep j.2.1 j.2.2.1 j.2.2.2).bind λn=>(M.aN j.1 0 [] [] [] (aF n.1)).bind λx=>cond ([[D.sl true 5 x]].all bY) (k (x,n.2.1,n.2.2.1,n.2.2.2)) none) (cond (a.1==4) ((M.fH a.2.1 a.2.2.1 a.2.2.2).bind λu=>(M.jh 0 2 (i64.wrap (deep - 1)) u.2.1 u.2.2.1 u.2.2.2).bind λs=>(M.aN 27 0 u.1 [] [] (aF s.1)).bind λA=>cond ([[D.sl true 5 A]].all bY) (k (A,s.2.1,s.2.2.1,s.2.2.2)) none) (cond (a.1==5) ((M.gZ 2 a.2.1 a.2.2.1 a.2.2.2).bind λb=>cond b.1 ((M.bM ([[D.str [35]],[D.str [35,32,110,111,116,101]],[D.str [35,120,32,61,32,49]]]) b.2.1 b.2.2.1 b.2.2.2).bind λr=>k ([[D.int .i64 34,D.int .i64 0,D.str r.1,D.str [],D.sl true 1 []]],r.2.1,r.2.2.1,r.2.2.2)) ((M.bV deep b.2.1 b.2.2.1 b.2.2.2).bind λp=>(M.aN 20 0 [] [] [] (aF [[D.sl true 5 p.1]])).bind λy=>cond ([[D.sl true 5 y]].all bY) (k (y,p.2.1,p.2.2.1,p.2.2.2)) none)) ((M.bV deep a.2.1 a.2.2.1 a.2.2.2).bind λi=>(M.aN 20 0 [] [] [] (aF [[D.sl true 5 i.1]])).bind λw=>cond ([[D.sl true 5 w]].all bY) (k (w,i.2.1,i.2.2.1,i.2.2.2)) none))))))
def M.mG deep c c1 c2:=M.Ae deep c c1 c2 some
def C.mG:=fTa S.mG (λx=>M.Ae x.1.2.1 x.2.1.1 x.2.1.2.1 x.2.1.2.2.1) [fe C.aG,fe C.jh,fe C.gZ,fe C.bM,fe C.bV,fe C.aN,fe C.cZ,fe C.fH]
def M.xw(gG:zaa)(deep:Int)(s:Int×ay×Int×Int×ay)(kn:Int×ay×Int×Int×ay->Option R)(ke:Int×ay×Int×Int×ay->Option R):Option R:=match s with
 |(n',v,v1,v2,x')=>bif decide (n'>0) then((gG deep v v1 v2).bind λa=>uM x' [[D.sl true 5 a.1]] 24 λb=>kn (i64.wrap (n' - 1),a.2.1,a.2.2.1,a.2.2.2,b)) else ke (n',v,v1,v2,x')
def M.Cc gG deep s:=M.xw gG deep s (λs=>some (Sum.inl s)) λt=>some (Sum.inr t)
def M.Af gG deep s:=fG (M.Cc gG deep) s
def F.Af{gG:zaa}(IK:S.jZ.ok X0 λx=>gG x.1.2.1 x.2.1.1 x.2.1.2.1 x.2.1.2.2.1):LE X0 84:=le 3 (Ia [dZ 0 (pP 100000 0),dZ 1 pI,dZ 5 (pO 300000 0),dZ 6 pI] zaC) (λx=>(x.1.va.1,x.2.1.1,x.2.1.2.1,x.2.1.2.2.1,x.2.2.1)) (λx s=>(((),x.1.2.1,(),s.1,()),((s.2.1,s.2.2.1,s.va.1,()),s.va.2,()))) (λx=> .leaf zal (λt=>(Ex.exit 0,⟨[(0,V.ptr 100000 0),(1,kY x.1.2.1),(5,V.own 300000 0),(6,kY t.1),(11,DN false)],[(100000,Cell.box 66 [Gl 1 t.2.1,kY t.2.2.1,kY t.va.1]),(300000,Cell.arr false false 0 1 t.va.2)]⟩))) (λx=>M.xw gG x.1.2.1) [fe IK] [] (by rintro _ _ ⟨_,_,_,_,_⟩ _ _<;>simp only[uM,M.xw,nb]<;>rfl)
def M.tN(gG:zaa)(deep:Int)(c:ay)(c1 c2:Int)(k:ay×ay×Int×Int->Option R):=(M.aG 3 c c1 c2).bind λb=>(M.Af gG deep (b.1,b.2.1,b.2.2.1,b.2.2.2,[])).bind λa=>(M.aN 33 0 [] [] [] (aF a.2.2.2.2)).bind λd=>cond ([[D.sl true 5 d]].all bY) (k (d,a.2.1,a.2.2.1,a.2.2.2.1)) none
def C.SS{gG:zaa}(IK:S.jZ.ok X0 λx=>gG x.1.2.1 x.2.1.1 x.2.1.2.1 x.2.1.2.2.1):S.iL.ok X0 λx=>M.tN gG x.1.2.1 x.2.1.1 x.2.1.2.1 x.2.1.2.2.1 some:=fnS (λx=>M.tN gG x.1.2.1 x.2.1.1 x.2.1.2.1 x.2.1.2.2.1) [fe C.aG,fe C.aN] [F.Af IK] (by intros;simp only[M.tN,nb]<;>rfl)
abbrev M.Ce(deep:Int)(c:ay)(c1 c2:Int)(k:ay×ay×Int×Int->Option R):=(M.gZ 3 c c1 c2).bind λa=>cond a.1 (k ([[D.int .i64 16,D.int .i64 0,D.str [],D.str [],D.sl true 1 []]],a.2.1,a.2.2.1,a.2.2.2)) ((M.bV deep a.2.1 a.2.2.1 a.2.2.2).bind λb=>k (b.1,b.2.1,b.2.2.1,b.2.2.2))
def M.mJ deep c c1 c2:=M.Ce deep c c1 c2 some
def C.mJ:=fTa S.mJ (λx=>M.Ce x.1.2.1 x.2.1.1 x.2.1.2.1 x.2.1.2.2.1) [fe C.gZ,fe C.bV]
def M.rX(iE:zaa)(deep:Int)(c:ay)(c1 c2:Int)(k:ay×ay×Int×Int->Option R):=cond (decide (deep<=0)) ((M.mG (cond (decide (2<deep)) 2 deep) c c1 c2).bind λh=>k (h.1,h.2.1,h.2.2.1,h.2.2.2)) ((M.gZ 3 c c1 c2).bind λb=>cond (!b.1) ((M.mG (cond (decide (2<deep)) 2 deep) b.2.1 b.2.2.1 b.2.2.2).bind λx=>k (x.1,x.2.1,x.2.2.1,x.2.2.2)) ((M.aG 6 b.2.1 b.2.2.1 b.2.2.2).bind λa=>cond (a.1==0) ((M.bV 1 a.2.1 a.2.2.1 a.2.2.2).bind λg=>(iE (i64.wrap (deep - 1)) g.2.1 g.2.2.1 g.2.2.2).bind λq=>(M.aN 28 0 [] [] [] (aF [[D.sl true 5 g.1],[D.sl true 5 q.1]])).bind λA=>cond ([[D.sl true 5 A]].all bY) (k (A,q.2.1,q.2.2.1,q.2.2.2)) none) (cond (a.1==1) ((M.bV 1 a.2.1 a.2.2.1 a.2.2.2).bind λw=>(iE (i64.wrap (deep - 1)) w.2.1 w.2.2.1 w.2.2.2).bind λn=>(iE (i64.wrap (deep - 1)) n.2.1 n.2.2.1 n.2.2.2).bind λp=>(M.aN 28 0 [] [] [] (aF [[D.sl true 5 w.1],[D.sl true 5 n.1],[D.sl true 5 p.1]])).bind λE=>cond ([[D.sl true 5 E]].all bY) (k (E,p.2.1,p.2.2.1,p.2.2.2)) none) (cond (a.1==2) ((M.bV 1 a.2.1 a.2.2.1 a.2.2.2).bind λt=>(iE (i64.wrap (deep - 1)) t.2.1 t.2.2.1 t.2.2.2).bind λe=>(M.aN 29 0 [] [] [] (aF [[D.sl true 5 t.1],[D.sl true 5 e.1]])).bind λz=>cond ([[D.sl true 5 z]].all bY) (k (z,e.2.1,e.2.2.1,e.2.2.2)) none) (cond (a.1==3) ((iE (i64.wrap (deep - 1)) a.2.1 a.2.2.1 a.2.2.2).bind λi=>(M.bV 1 i.2.1 i.2.2.1 i.2.2.2).bind λv=>(M.aN 30 0 [] [] [] (aF [[D.sl true 5 i.1],[D.sl true 5 v.1]])).bind λB=>cond ([[D.sl true 5 B]].all bY) (k (B,v.2.1,v.2.2.1,v.2.2.2)) none) (cond (a.1==4) ((M.mJ 2 a.2.1 a.2.2.1 a.2.2.2).bind λm=>(M.mJ 1 m.2.1 m.2.2.1 m.2.2.2).bind λf=>(M.mJ 1 f.2.1 f.2.2.1 f.2.2.2).bind λr=>(iE (i64.wrap (deep - 1)) r.2.1 r.2.2.1 r.2.2.2).bind λo=>(M.aN 31 0 [] [] [] (aF [[D.sl true 5 m.1],[D.sl true 5 f.1],[D.sl true 5 r.1],[D.sl true 5 o.1]])).bind λy=>cond ([[D.sl true 5 y]].all bY) (k (y,o.2.1,o.2.2.1,o.2.2.2)) none) ((M.gZ 2 a.2.1 a.2.2.1 a.2.2.2).bind λd=>cond d.1 ((iE (i64.wrap (deep - 1)) d.2.1 d.2.2.1 d.2.2.2).bind λu=>k (u.1,u.2.1,u.2.2.1,u.2.2.2)) ((M.fH d.2.1 d.2.2.1 d.2.2.2).bind λs=>(M.fH s.2.1 s.2.2.1 s.2.2.2).bind λj=>(iE (i64.wrap (deep - 1)) j.2.1 j.2.2.1 j.2.2.2).bind λl=>(M.aN 32 0 s.1 j.1 [] (aF [[D.sl true 5 l.1]])).bind λC=>cond ([[D.sl true 5 C]].all bY) (k (C,l.2.1,l.2.2.1,l.2.2.2)) none))))))))
def C.Vt{iE:zaa}(Vu:S.iL.ok X0 λx=>iE x.1.2.1 x.2.1.1 x.2.1.2.1 x.2.1.2.2.1):S.jZ.ok X0 λx=>M.rX iE x.1.2.1 x.2.1.1 x.2.1.2.1 x.2.1.2.2.1 some:=fnS (λx=>M.rX iE x.1.2.1 x.2.1.1 x.2.1.2.1 x.2.1.2.2.1) [fe C.mG,fe C.gZ,fe C.aG,fe C.bV,fe Vu,fe C.aN,fe C.mJ,fe C.fH] [] (by intros;simp only[M.rX,nb]<;>rfl)
def M.oU:Nat->(zaa)×(zaa):=Nat.rec (λ_ _ _ _=>none,λ_ _ _ _=>none) λ_ qz=>(λdeep c c1 c2=>M.rX qz.2 deep c c1 c2 some,λdeep c c1 c2=>M.tN qz.1 deep c c1 c2 some)
def M.mV n:=(M.oU n).1
def M.tV n:=(M.oU n).2
def M.Nz(n:Nat):M.mV (n+1)=λdeep c c1 c2=>M.rX (M.tV n) deep c c1 c2 some:=rfl
def M.Vw(n:Nat):M.tV (n+1)=λdeep c c1 c2=>M.tN (M.mV n) deep c c1 c2 some:=rfl
def M.jZ deep c c1 c2:=lim λn=>M.mV n deep c c1 c2
def M.iL deep c c1 c2:=lim λn=>M.tV n deep c c1 c2
def C.oU:∀n,(S.jZ.ok X0 λx=>M.mV n x.1.2.1 x.2.1.1 x.2.1.2.1 x.2.1.2.2.1)/\(S.iL.ok X0 λx=>M.tV n x.1.2.1 x.2.1.1 x.2.1.2.1 x.2.1.2.2.1)
 |0=>⟨fK.zero,fK.zero⟩
 |n+1=>have h:=C.oU n;⟨C.Vt h.2,C.SS h.1⟩
def C.jZ:S.jZ.ok X0 λx=>M.jZ x.1.2.1 x.2.1.1 x.2.1.2.1 x.2.1.2.2.1:=fK.lim λn=>(C.oU n).1
def M.Vx{n:Nat}{deep:Int}{c:ay}{c1 c2:Int}{r:ay×ay×Int×Int}(h:M.mV n deep c c1 c2=some r):M.jZ deep c c1 c2=some r:=fK.yj (λn=>(C.oU n).1) (by intro a b h;simp[S.jZ,sg] at h;first|exact h|simp[Prod.ext_iff,h]) (x:=(((),deep,()),((c,c1,c2,()),()))) h
def C.iL:S.iL.ok X0 λx=>M.iL x.1.2.1 x.2.1.1 x.2.1.2.1 x.2.1.2.2.1:=fK.lim λn=>(C.oU n).2
def M.SV{n:Nat}{deep:Int}{c:ay}{c1 c2:Int}{r:ay×ay×Int×Int}(h:M.tV n deep c c1 c2=some r):M.iL deep c c1 c2=some r:=fK.yj (λn=>(C.oU n).2) (by intro a b h;simp[S.iL,sg] at h;first|exact h|simp[Prod.ext_iff,h]) (x:=(((),deep,()),((c,c1,c2,()),()))) h
def M.xA(deep:Int)(s:Int×ay×Int×Int×ay)(kn:Int×ay×Int×Int×ay->Option R)(ke:Int×ay×Int×Int×ay->Option R):Option R:=match s with
 |(n',v,v1,v2,x')=>bif decide (n'>0) then((M.fH v v1 v2).bind λa=>uM x' [[D.sl true 5 [[D.int .i64 1,D.int .i64 0,D.str a.1,D.str [],D.sl true 1 []]]]] 24 λb=>kn (i64.wrap (n' - 1),a.2.1,a.2.2.1,a.2.2.2,b)) else ke (n',v,v1,v2,x')
def M.Ci deep s:=M.xA deep s (λs=>some (Sum.inl s)) λt=>some (Sum.inr t)
def M.Ag deep s:=fG (M.Ci deep) s
def F.Ag:LE X0 87:=le 16 (Ia [dZ 0 (pP 100000 0),dZ 3 pI,dZ 4 (pO 300000 0),dZ 5 pI] zaC) (λx=>(x.1.va.1,x.2.1.1,x.2.1.2.1,x.2.1.2.2.1,x.2.2.1)) (λx s=>(((),x.1.2.1,(),s.1,()),((s.2.1,s.2.2.1,s.va.1,()),s.va.2,()))) (λx=> .leaf zal (λt=>(Ex.exit 1,⟨[(0,V.ptr 100000 0),(3,kY x.1.2.1),(4,V.own 300000 0),(5,kY t.1),(65,DN false)],[(100000,Cell.box 66 [Gl 1 t.2.1,kY t.2.2.1,kY t.va.1]),(300000,Cell.arr false false 0 1 t.va.2)]⟩))) (λx=>M.xA x.1.2.1) [fe C.fH] [] (by rintro _ _ ⟨_,_,_,_,_⟩ _ _<;>simp only[uM,M.xA,nb]<;>rfl)
abbrev M.EC(c:ay)(c1 c2:Int)(k:ay×ay×Int×Int->Option R):=(M.aG 2 c c1 c2).bind λb=>(M.aG 8 b.2.1 b.2.2.1 b.2.2.2).bind λa=>cond (a.1==0) ((M.aG 2 a.2.1 a.2.2.1 a.2.2.2).bind λi=>(M.iL (i64.wrap (1+b.1)) i.2.1 i.2.2.1 i.2.2.2).bind λg=>(M.aN (i64.wrap (40+i.1)) 0 [] [] [] (aF [[D.sl true 5 g.1]])).bind λw=>cond ([[D.sl true 5 w]].all bY) (k (w,g.2.1,g.2.2.1,g.2.2.2)) none) (cond (a.1==1) ((M.bV (i64.wrap (1+b.1)) a.2.1 a.2.2.1 a.2.2.2).bind λs=>(M.aN 42 1 [] [] [] (aF [[D.sl true 5 s.1]])).bind λz=>cond ([[D.sl true 5 z]].all bY) (k (z,s.2.1,s.2.2.1,s.2.2.2)) none) (cond (a.1==2) ((M.iL (i64.wrap (1+b.1)) a.2.1 a.2.2.1 a.2.2.2).bind λh=>(M.aN 42 2 [] [] [] (aF [[D.sl true 5 h.1]])).bind λA=>cond ([[D.sl true 5 A]].all bY) (k (A,h.2.1,h.2.2.1,h.2.2.2)) none) (cond (a.1==3) ((M.bV 1 a.2.1 a.2.2.1 a.2.2.2).bind λp=>(M.bV 1 p.2.1 p.2.2.1 p.2.2.2).bind λr=>(M.aN 43 1 [] [] [] (aF [[D.sl true 5 p.1],[D.sl true 5 r.1]])).bind λv=>cond ([[D.sl true 5 v]].all bY) (k (v,r.2.1,r.2.2.1,r.2.2.2)) none) (cond (a.1==4) ((M.bV 1 a.2.1 a.2.2.1 a.2.2.2).bind λd=>(M.bV 1 d.2.1 d.2.2.1 d.2.2.2).bind λj=>(M.iL (i64.wrap (1+b.1)) j.2.1 j.2.2.1 j.2.2.2).bind λt=>(M.aN 43 3 [] [] [] (aF [[D.sl true 5 d.1],[D.sl true 5 j.1],[D.sl true 5 t.1]])).bind λx=>cond ([[D.sl true 5 x]].all bY) (k (x,t.2.1,t.2.2.1,t.2.2.2)) none) (cond (a.1==5) ((M.aG 3 a.2.1 a.2.2.1 a.2.2.2).bind λe=>(M.Ag (i64.wrap (1+b.1)) (e.1,e.2.1,e.2.2.1,e.2.2.2,[])).bind λn=>(M.bM ([[D.str [102]],[D.str [103]],[D.str [109,97,120]]]) n.2.1 n.2.2.1 n.2.2.2.1).bind λl=>(M.iL (i64.wrap (1+b.1)) l.2.1 l.2.2.1 l.2.2.2).bind λf=>uM n.2.2.2.2 [[D.sl true 5 f.1]] 24 λB=>(M.aN 44 0 l.1 [] [] (aF B)).bind λy=>cond ([[D.sl true 5 y]].all bY) (k (y,f.2.1,f.2.2.1,f.2.2.2)) none) (cond (a.1==6) ((M.bM ([[D.str [35,32,116,111,112]],[D.str [35]]]) a.2.1 a.2.2.1 a.2.2.2).bind λm=>k ([[D.int .i64 34,D.int .i64 0,D.str m.1,D.str [],D.sl true 1 []]],m.2.1,m.2.2.1,m.2.2.2)) ((M.bV (i64.wrap (1+b.1)) a.2.1 a.2.2.1 a.2.2.2).bind λq=>(M.iL (i64.wrap (1+b.1)) q.2.1 q.2.2.1 q.2.2.2).bind λo=>(M.aN 42 3 [] [] [] (aF [[D.sl true 5 q.1],[D.sl true 5 o.1]])).bind λu=>cond ([[D.sl true 5 u]].all bY) (k (u,o.2.1,o.2.2.1,o.2.2.2)) none)))))))
def M.uS c c1 c2:=M.EC c c1 c2 some
def C.uS:=fTa S.uS (λx=>M.EC x.2.1.1 x.2.1.2.1 x.2.1.2.2.1) [fe C.aG,fe C.iL,fe C.aN,fe C.bV,fe C.bM] [F.Ag]
def M.sH(s:Int×ay×Int×Int×ay)(kn:Int×ay×Int×Int×ay->Option R)(ke:Int×ay×Int×Int×ay->Option R):Option R:=match s with
 |(n',v,v1,v2,x')=>bif decide (n'>0) then((M.uS v v1 v2).bind λa=>uM x' [[D.sl true 5 a.1]] 24 λb=>kn (i64.wrap (n' - 1),a.2.1,a.2.2.1,a.2.2.2,b)) else ke (n',v,v1,v2,x')
def M.zM s:=M.sH s (λs=>some (Sum.inl s)) λt=>some (Sum.inr t)
def M.qQ s:=fG (M.zM) s
def F.qQ:LE X0 64:=le 3 (Ia [dZ 0 (pP 100000 0),dZ 3 (pO 300000 0),dZ 4 pI] zaC) (λx=>(x.1.2.2.1,x.2.1.1,x.2.1.2.1,x.2.1.2.2.1,x.2.2.1)) (λx s=>(((),(),s.1,()),((s.2.1,s.2.2.1,s.va.1,()),s.va.2,()))) (λx=> .leaf zal (λt=>(Ex.exit 2,⟨[(0,V.ptr 100000 0),(3,V.own 300000 0),(4,kY t.1),(10,DN false)],[(100000,Cell.box 66 [Gl 1 t.2.1,kY t.2.2.1,kY t.va.1]),(300000,Cell.arr false false 0 1 t.va.2)]⟩))) (λx=>M.sH) [fe C.uS] [] (by rintro _ _ ⟨_,_,_,_,_⟩ _ _<;>simp only[uM,M.sH,nb]<;>rfl)
def M.nY(s:(ay×Int×Int)⊕zak)(kn:(ay×Int×Int)⊕zak->Option R)(ke:ay×Int×Int×ay->Option R):Option R:=match s with
 | .inl (v,v1,v2)=>(M.aG 4 v v1 v2).bind λc=>((M.qQ (c.1,c.2.1,c.2.2.1,c.2.2.2,[])).bind λa=>(M.aN 45 0 [] [] [] (aF a.2.2.2.2)).bind λd=>bif[[D.sl true 5 d]].all bY then(bif decide ((↑d.length:Int)<=220) then(ke (a.2.1,a.2.2.1,a.2.2.2.1,d)) else kn (.inr (false,a.2.1,a.2.2.1,a.2.2.2.1,d))) else none)
 | .inr (v23,v,v1,v2,x')=>(M.aG 4 v v1 v2).bind λf=>(M.qQ (f.1,f.2.1,f.2.2.1,f.2.2.2,[])).bind λb=>(M.aN 45 0 [] [] [] (aF b.2.2.2.2)).bind λe=>bif[[D.sl true 5 e]].all bY then(bif decide ((↑e.length:Int)<=220) then(ke (b.2.1,b.2.2.1,b.2.2.2.1,e)) else kn (.inr (false,b.2.1,b.2.2.1,b.2.2.2.1,e))) else none
def M.nZ s:=M.nY s (λs=>some (Sum.inl s)) λt=>some (Sum.inr t)
def M.xB s:=fG (M.nZ) s
def F.xB:LE X0 64:=le 1 (pOr (Ia [dZ 0 (pP 100000 0)] [dZ 100000 (cB 66 zaK)]) (Ia [dZ 0 (pP 100000 0),dZ 5 (pO 300000 0),dZ 23 pB] [dZ 100000 (cB 66 zaK),dZ 300000 zaD])) (σ:=(ay×Int×Int)⊕zak) (λx=>(match x with| .inl x=> .inl ((x.2.1.1,x.2.1.2.1,x.2.1.2.2.1))| .inr x=> .inr ((x.1.2.2.1,x.2.1.1,x.2.1.2.1,x.2.1.2.2.1,x.2.2.1)))) (λx s=>(match s with| .inl s=> .inl ((((),()),((s.1,s.2.1,s.2.2,()),())))| .inr s=> .inr ((((),(),s.1,()),((s.2.1,s.2.2.1,s.va.1,()),s.va.2,()))))) (λx=> .leaf (ay×Int×Int×ay) (λt=>(Ex.ret,⟨[(2,V.own 300000 0)],[(100000,Cell.box 66 [Gl 1 t.1,kY t.2.1,kY t.2.2.1]),(300000,Cell.arr false false 0 5 t.va)]⟩))) (λx=>M.nY) [fe C.aG,fe C.aN] [F.qQ] (by rintro _ _ (⟨_,_,_⟩|⟨_,_,_,_,_⟩) _ _<;>unfold M.nY<;>exact zaO) (hE:=by intro _ _ s _;rcases s with s|s<;>kernel_rfl)
abbrev M.y8(c:ay)(c1 c2:Int)(k:ay×ay×Int×Int->Option R):=(M.xB (.inl (c,c1,c2))).bind λa=>k (a.2.2.2,a.1,a.2.1,a.2.2.1)
def M.ng c c1 c2:=M.y8 c c1 c2 some
def C.ng:=fTa S.ng (λx=>M.y8 x.2.1.1 x.2.1.2.1 x.2.1.2.2.1) [] [F.xB]
abbrev M.Gs(c:ay)(c1 c2:Int)(k:ay×ay×Int×Int->Option R):=(M.aG 5 c c1 c2).bind λa=>cond (a.1==0) ((M.qG a.2.1 a.2.2.1 a.2.2.2).bind λd=>k (d.1,d.2.1,d.2.2.1,d.2.2.2)) (cond (a.1==1) ((M.qG a.2.1 a.2.2.1 a.2.2.2).bind λe=>k (e.1,e.2.1,e.2.2.1,e.2.2.2)) (cond (a.1==2) ((M.jZ 2 a.2.1 a.2.2.1 a.2.2.2).bind λb=>k (b.1,b.2.1,b.2.2.1,b.2.2.2)) ((M.ng a.2.1 a.2.2.1 a.2.2.2).bind λf=>k (f.1,f.2.1,f.2.2.1,f.2.2.2))))
def M.rQ c c1 c2:=M.Gs c c1 c2 some
def C.rQ:=fTa S.rQ (λx=>M.Gs x.2.1.1 x.2.1.2.1 x.2.1.2.2.1) [fe C.aG,fe C.qG,fe C.jZ,fe C.ng]
abbrev M.ED(c:ay)(c1 c2:Int)(k:Bool×ay×ay×Int×Int->Option R):=(M.rQ c c1 c2).bind λb=>(M.aG ((↑b.1.length:Int)) b.2.1 b.2.2.1 b.2.2.2).bind λa=>(M.aG 12 a.2.1 a.2.2.1 a.2.2.2).bind λd=>cond (d.1==0) ((cut (aF b.1) 0 a.1).bind λo=>k (false,o,d.2.1,d.2.2.1,d.2.2.2)) (cond (d.1==1) ((idx b.1 a.1).bind λu=>b.1[a.1.toNat]?.bind λq=>(TU 1 q 4).bind λl=>cond (jO l) ((M.cZ ([[D.int .i64 (-1)],[D.int .i64 a.1],[D.int .i64 0],[D.int .i64 99]]) d.2.1 d.2.2.1 d.2.2.2).bind λf=>uM l [[D.int .i64 f.1]] 8 λn=>(idx b.1 a.1).bind λt=>cond (jO n) (cond (true &&(a.1.toNat.beq a.1.toNat &&(true && [D.sl true 1 n].length.beq 1))) (b.1[a.1.toNat]?.bind λp=>k (true,b.1.set a.1.toNat (splice p 4 [D.sl true 1 n]),f.2.1,f.2.2.1,f.2.2.2)) none) none) none) (cond (d.1==2) ((idx b.1 a.1).bind λx=>b.1[a.1.toNat]?.bind λm=>(TU 1 m 4).bind λg=>cond (jO g) (cond (jO g) (b.1[a.1.toNat]?.bind λi=>cond (decide ((↑g.length:Int)>0)) ((idx (b.1.set a.1.toNat (splice i 4 [D.sl true 1 g])) a.1).bind λv=>((b.1.set a.1.toNat (splice i 4 [D.sl true 1 g]))[a.1.toNat]?).bind λs=>(TU 1 s 4).bind λh=>cond (jO h) ((M.aG (i64.wrap (a.1+1)) d.2.1 d.2.2.1 d.2.2.2).bind λe=>(idx h 0).bind λw=>h[0]?.bind λj=>cond (jO (h.set 0 (splice j 0 [D.int .i64 (i64.wrap (e.1 - 1))]))) (((b.1.set a.1.toNat (splice i 4 [D.sl true 1 g]))[a.1.toNat]?).bind λr=>k (true,(b.1.set a.1.toNat (splice i 4 [D.sl true 1 g])).set a.1.toNat (splice r 4 [D.sl true 1 (h.set 0 (splice j 0 [D.int .i64 (i64.wrap (e.1 - 1))]))]),e.2.1,e.2.2.1,e.2.2.2)) none) none) (k (true,b.1.set a.1.toNat (splice i 4 [D.sl true 1 g]),d.2.1,d.2.2.1,d.2.2.2))) none) none) (cond (d.1==3) (cond (((b.1.length+b.1.length) * 72).ble 140737488355328 &&(b.1.length+b.1.length).ble 140737488355328) (k (false,aF b.1++aF b.1,d.2.1,d.2.2.1,d.2.2.2)) none) (k (true,b.1,d.2.1,d.2.2.1,d.2.2.2)))))
def M.uT c c1 c2:=M.ED c c1 c2 some
def C.uT:=fTa S.uT (λx=>M.ED x.2.1.1 x.2.1.2.1 x.2.1.2.2.1) [fe C.rQ,fe C.aG,fe C.cZ]
abbrev M.Ah(c:ay)(c1 c2:Int)(k:Bool×ay×ay×Int×Int->Option R):=(M.rQ c c1 c2).bind λb=>(M.aG ((↑b.1.length:Int)) b.2.1 b.2.2.1 b.2.2.2).bind λd=>(M.aG 14 d.2.1 d.2.2.1 d.2.2.2).bind λa=>cond (a.1==0) ((M.aG 47 a.2.1 a.2.2.1 a.2.2.2).bind λh=>(idx b.1 d.1).bind λr=>b.1[d.1.toNat]?.bind λl=>k (true,b.1.set d.1.toNat (splice l 0 [D.int .i64 h.1]),h.2.1,h.2.2.1,h.2.2.2)) (cond (a.1==1) ((M.cZ ([[D.int .i64 0],[D.int .i64 1],[D.int .i64 56],[D.int .i64 99],[D.int .i64 54],[D.int .i64 51],[D.int .i64 (-1)]]) a.2.1 a.2.2.1 a.2.2.2).bind λf=>(idx b.1 d.1).bind λo=>b.1[d.1.toNat]?.bind λn=>k (true,b.1.set d.1.toNat (splice n 1 [D.int .i64 f.1]),f.2.1,f.2.2.1,f.2.2.2)) (cond (a.1==2) ((M.bM ([[D.str []],[D.str [120]],[D.str [105,102]],[D.str [108,101,110,103,116,104]],[D.str [49]],[D.str [47]]]) a.2.1 a.2.2.1 a.2.2.2).bind λg=>(idx b.1 d.1).bind λq=>b.1[d.1.toNat]?.bind λj=>k (true,b.1.set d.1.toNat (splice j 2 [D.str g.1]),g.2.1,g.2.2.1,g.2.2.2)) (cond (a.1==3) ((M.bM ([[D.str []],[D.str [62]],[D.str [120]]]) a.2.1 a.2.2.1 a.2.2.2).bind λi=>(idx b.1 d.1).bind λp=>b.1[d.1.toNat]?.bind λm=>k (true,b.1.set d.1.toNat (splice m 3 [D.str i.1]),i.2.1,i.2.2.1,i.2.2.2)) (cond (a.1==4) ((M.uT a.2.1 a.2.2.1 a.2.2.2).bind λe=>k (false,aF e.2.1,e.2.2.1,e.2.2.2.1,e.2.2.2.2)) (k (true,b.1,a.2.1,a.2.2.1,a.2.2.2))))))
def M.oM c c1 c2:=M.Ah c c1 c2 some
def C.oM:=fTa S.oM (λx=>M.Ah x.2.1.1 x.2.1.2.1 x.2.1.2.2.1) [fe C.rQ,fe C.aG,fe C.cZ,fe C.bM,fe C.uT]
abbrev M.y9(code:ay)(k:Bool×ay×aT×Bool×ay->Option R):=(M.yw code).bind λi=>(M.aG 3 i.1 i.2.1 i.2.2).bind λb=>(M.iW (i64.wrap (1+b.1)) b.2.1 b.2.2.1 b.2.2.2).bind λd=>(M.gZ 3 d.2.1 d.2.2.1 d.2.2.2).bind λa=>cond a.1 ((M.oM a.2.1 a.2.2.1 a.2.2.2).bind λh=>(M.bM ([[D.str [120]],[D.str [121]],[D.str [110]]]) h.2.2.1 h.2.2.2.1 h.2.2.2.2).bind λe=>(M.aG 3 e.2.1 e.2.2.1 e.2.2.2).bind λg=>(M.iW g.1 g.2.1 g.2.2.1 g.2.2.2).bind λl=>k (false,aF h.2.1,e.1,true,l.1)) ((M.bM ([[D.str [120]],[D.str [121]],[D.str [110]]]) a.2.1 a.2.2.1 a.2.2.2).bind λc=>(M.aG 3 c.2.1 c.2.2.1 c.2.2.2).bind λf=>(M.iW f.1 f.2.1 f.2.2.1 f.2.2.2).bind λj=>k (true,d.1,c.1,true,j.1))
def M.ni code:=M.y9 code some
def C.ni:=fTa S.ni (λx=>M.y9 x.1.1) [fe C.yw,fe C.aG,fe C.iW,fe C.gZ,fe C.oM,fe C.bM]
def C.iy:S.iy.ok X0 λx=>M.iy x.1.1:=fK.MN (p:=Prim.iy)
abbrev M.Cj(l:ay)(k:Bool->Option R):=(M.iy l).bind λa=>k a.2
def M.qH l:=M.Cj l some
def C.qH:=fTa S.qH (λx=>M.Cj x.1.1) [fe C.iy]
abbrev M.oV(n' low high:Int)(k:Bool->Option R):=cond (decide (n'>=low)) (k (decide (n'<=high))) (k false)
def M.aQ n' low high:=M.oV n' low high some
def C.aQ:=fTa S.aQ (λx=>M.oV x.1.1 x.1.2.1 x.1.2.2.1)
abbrev M.fV(kind:Int)(k:Bool->Option R):=(M.aQ kind 1 15).bind λa=>k a
def M.bW kind:=M.fV kind some
def C.bW:=fTa S.bW (λx=>M.fV x.1.1) [fe C.aQ]
abbrev M.Ai(b:Int)(k:Bool->Option R):=cond (decide (b>=97)) (cond (decide (b<=122)) (k true) (cond (decide (b>=65)) (cond (decide (b<=90)) (k true) (k (b==95))) (k (b==95)))) (cond (decide (b>=65)) (cond (decide (b<=90)) (k true) (k (b==95))) (k (b==95)))
def M.kG b:=M.Ai b some
def C.kG:=fTa S.kG (λx=>M.Ai x.1.1)
abbrev M.Cm(b:Int)(k:Bool->Option R):=cond (decide (b>=48)) (k (decide (b<=57))) (k false)
def M.mM b:=M.Cm b some
def C.mM:=fTa S.mM (λx=>M.Cm x.1.1)
abbrev M.xC(b:Int)(k:Bool->Option R):=(M.kG b).bind λc=>cond c (k true) ((M.mM b).bind λa=>k a)
def M.lC b:=M.xC b some
def C.lC:=fTa S.lC (λx=>M.xC x.1.1) [fe C.kG,fe C.mM]
def M.og(s':aT)(v5 s:Int)(kn:Int->Option R)(ke:(Unit)⊕(Int)->Option R):Option R:=match s with
 |v6=>bif decide (v6<v5) then((idx s' v6).bind λa=>(M.lC (i64.wrap (↑a.toNat:Int))).bind λb=>bif !b then(ke (.inl ())) else kn (i64.wrap (v6+1))) else ke (.inr v6)
def M.sJ s' v5 s:=M.og s' v5 s (λs=>some (Sum.inl s)) λt=>some (Sum.inr t)
def M.xE s' v5 s:=fG (M.sJ s' v5) s
def F.xE:LE X0 136:=le 2 (Ia [dZ 0 pS,dZ 5 pI,dZ 6 pI] []) (λx=>x.1.2.2.1) (λx s=>((x.1.1,x.1.2.1,s,()),())) (λx=> .sum (.leaf (Unit) (λt=>(Ex.ret,⟨[(2,DN false)],[]⟩))) (.leaf (Int) (λt=>(Ex.exit 0,⟨[(0,Jz x.1.1),(5,kY x.1.2.1),(6,kY t),(7,DN false)],[]⟩)))) (λx=>M.og x.1.1 x.1.2.1) [fe C.lC] [] (by rintro _ _ _ _ _<;>simp only[M.og,nb]<;>rfl)
abbrev M.zf(s':aT)(k:Bool->Option R):=(M.xE s' ((↑s'.length:Int)) 0).bind λb=>qy b (λg=>k false) λc=>letE c λf=>(M.aQ ((↑s'.length:Int)) 1 12).bind λa=>cond a ((idx s' 0).bind λd=>(M.kG (i64.wrap (↑d.toNat:Int))).bind λe=>k e) (k false)
def M.ny s':=M.zf s' some
def C.ny:=fTa S.ny (λx=>M.zf x.1.1) [fe C.aQ,fe C.kG] [F.xE]
def M.qR(s':ay)(v:aT)(v7 s:Int)(kn:Int->Option R)(ke:(Int)⊕(Int)->Option R):Option R:=match s with
 |v8=>bif decide (v8<v7) then((idx s' v8).bind λa=>(cStr a 0).bind λb=>bif v==b then(ke (.inl v8)) else kn (i64.wrap (v8+1))) else ke (.inr v8)
def M.xF s' v v7 s:=M.qR s' v v7 s (λs=>some (Sum.inl s)) λt=>some (Sum.inr t)
def M.Aj s' v v7 s:=fG (M.xF s' v v7) s
def F.Aj:LE X0 143:=le 2 (Ia [dZ 0 (pL false 1),dZ 1 pS,dZ 7 pI,dZ 8 pI] []) (λx=>x.1.va.1) (λx s=>((x.1.1,x.1.2.1,x.1.2.2.1,s,()),())) (λx=> .sum (.leaf (Int) (λt=>(Ex.ret,⟨[(4,kY t)],[]⟩))) (.leaf (Int) (λt=>(Ex.exit 0,⟨[(0,Gl 1 x.1.1),(1,Jz x.1.2.1),(7,kY x.1.2.2.1),(8,kY t),(9,DN false)],[]⟩)))) (λx=>M.qR x.1.1 x.1.2.1 x.1.2.2.1) [] [] (by rintro _ _ _ _ _<;>simp only[M.qR,nb]<;>rfl)
abbrev M.CB(s':ay)(v:aT)(k:Int->Option R):=(M.Aj s' v ((↑s'.length:Int)) 0).bind λc=>qy c (λb=>k b) λa=>letE a λd=>k (-1)
def M.slices_Index s' v:=M.CB s' v some
def C.slices_Index:=fTa S.slices_Index (λx=>M.CB x.1.1 x.1.2.1) [] [F.Aj]
abbrev M.zh(s':aT)(k:Int->Option R):=(M.slices_Index (List.map (λx=>[x]) uQ) s').bind λa=>cond (decide (a<0)) (k 0) (k (i64.wrap (10+a)))
def M.nC s':=M.zh s' some
def C.nC:=fTa S.nC (λx=>M.zh x.1.1) [fe C.slices_Index]
abbrev M.qU(s':ay)(v:aT)(k:Bool->Option R):=(M.slices_Index s' v).bind λa=>k (decide (a>=0))
def M.slices_Contains(s':ay)(v:aT):Option (Bool):=M.qU s' v some
def C.slices_Contains:=fTa S.slices_Contains (λx=>M.qU x.1.1 x.1.2.1) [fe C.slices_Index]
abbrev M.zi(s':aT)(k:Bool->Option R):=(M.slices_Contains (List.map (λx=>[x]) Bj) s').bind λa=>k a
def M.jd s':=M.zi s' some
def C.jd:=fTa S.jd (λx=>M.zi x.1.1) [fe C.slices_Contains]
abbrev M.EF(s':aT)(k:Bool->Option R):=(M.ny s').bind λa=>cond a ((M.nC s').bind λc=>cond (c==0) ((M.jd s').bind λb=>k !b) (k false)) (k false)
def M.ig s':=M.EF s' some
def C.ig:=fTa S.ig (λx=>M.EF x.1.1) [fe C.ny,fe C.nC,fe C.jd]
def C.strings_Contains:S.strings_Contains.ok X0 λx=>M.strings_Contains x.1.1 x.1.2.1:=fK.MN (p:=Prim.strings_Contains)
abbrev M.EH(s':aT)(at':Int)(k:Int->Option R):=(M.aQ at' 0 (i64.wrap ((↑s'.length:Int) - 1))).bind λa=>cond (!a) (k (-1)) ((idx s' at').bind λb=>k (i64.wrap (↑b.toNat:Int)))
def M.iq s' at':=M.EH s' at' some
def C.iq:=fTa S.iq (λx=>M.EH x.1.1 x.1.2.1) [fe C.aQ]
def M.sK(s':aT)(s:Int)(kn:Int->Option R)(ke:Int->Option R):Option R:=match s with
 |at'=>(M.iq s' at').bind λb=>(M.mM b).bind λa=>bif a then(kn (i64.wrap (at'+1))) else ke at'
def M.F6 s' s:=M.sK s' s (λs=>some (Sum.inl s)) λt=>some (Sum.inr t)
def M.xG s' s:=fG (M.F6 s') s
def F.xG:LE X0 155:=le 1 (Ia [dZ 0 pS,dZ 1 pI] []) (λx=>x.1.2.1) (λx s=>((x.1.1,s,()),())) (λx=> .leaf (Int) (λt=>(Ex.exit 0,⟨[(0,Jz x.1.1),(1,kY t),(8,DN false)],[]⟩))) (λx=>M.sK x.1.1) [fe C.iq,fe C.mM] [] (by rintro _ _ _ _ _<;>simp only[M.sK,nb]<;>rfl)
abbrev M.zk(s':aT)(at':Int)(k:Int->Option R):=(M.xG s' at').bind λa=>k a
def M.bU s' at':=M.zk s' at' some
def C.bU:=fTa S.bU (λx=>M.zk x.1.1 x.1.2.1) [] [F.xG]
abbrev M.EI(s':aT)(at':Int)(k:Int->Option R):=(M.aQ at' 0 (i64.wrap ((↑s'.length:Int) - 1))).bind λw=>cond (!w) (k (-1)) ((M.bU s' at').bind λa=>(M.iq s' a).bind λv=>cond (v==46) ((M.bU s' (i64.wrap (a+1))).bind λb=>cond (i64.wrap (i64.wrap (a - at')+i64.wrap (i64.wrap (b - a) - 1))==0) (k (-1)) ((M.iq s' b).bind λl=>cond (l==101) ((M.iq s' (i64.wrap (b+1))).bind λm=>cond (m==43) ((M.bU s' (i64.wrap (i64.wrap (b+1)+1))).bind λg=>cond (decide (g>i64.wrap (i64.wrap (b+1)+1))) (k g) (k b)) (cond (m==45) ((M.bU s' (i64.wrap (i64.wrap (b+1)+1))).bind λj=>cond (decide (j>i64.wrap (i64.wrap (b+1)+1))) (k j) (k b)) ((M.bU s' (i64.wrap (b+1))).bind λo=>cond (decide (o>i64.wrap (b+1))) (k o) (k b)))) (cond (l==69) ((M.iq s' (i64.wrap (b+1))).bind λr=>cond (r==43) ((M.bU s' (i64.wrap (i64.wrap (b+1)+1))).bind λe=>cond (decide (e>i64.wrap (i64.wrap (b+1)+1))) (k e) (k b)) (cond (r==45) ((M.bU s' (i64.wrap (i64.wrap (b+1)+1))).bind λc=>cond (decide (c>i64.wrap (i64.wrap (b+1)+1))) (k c) (k b)) ((M.bU s' (i64.wrap (b+1))).bind λh=>cond (decide (h>i64.wrap (b+1))) (k h) (k b)))) (k b)))) (cond (i64.wrap (a - at')==0) (k (-1)) ((M.iq s' a).bind λt=>cond (t==101) ((M.iq s' (i64.wrap (a+1))).bind λu=>cond (u==43) ((M.bU s' (i64.wrap (i64.wrap (a+1)+1))).bind λq=>cond (decide (q>i64.wrap (i64.wrap (a+1)+1))) (k q) (k a)) (cond (u==45) ((M.bU s' (i64.wrap (i64.wrap (a+1)+1))).bind λi=>cond (decide (i>i64.wrap (i64.wrap (a+1)+1))) (k i) (k a)) ((M.bU s' (i64.wrap (a+1))).bind λn=>cond (decide (n>i64.wrap (a+1))) (k n) (k a)))) (cond (t==69) ((M.iq s' (i64.wrap (a+1))).bind λp=>cond (p==43) ((M.bU s' (i64.wrap (i64.wrap (a+1)+1))).bind λs=>cond (decide (s>i64.wrap (i64.wrap (a+1)+1))) (k s) (k a)) (cond (p==45) ((M.bU s' (i64.wrap (i64.wrap (a+1)+1))).bind λf=>cond (decide (f>i64.wrap (i64.wrap (a+1)+1))) (k f) (k a)) ((M.bU s' (i64.wrap (a+1))).bind λd=>cond (decide (d>i64.wrap (a+1))) (k d) (k a)))) (k a)))))
def M.uU s' at':=M.EI s' at' some
def C.uU:=fTa S.uU (λx=>M.EI x.1.1 x.1.2.1) [fe C.aQ,fe C.bU,fe C.iq]
def M.kZ(s':aT)(quote s:Int)(kn:Int->Option R)(ke:(Int)⊕(Int)->Option R):Option R:=match s with
 |i=>bif decide (i<(↑s'.length:Int)) then((idx s' i).bind λc=>bif(↑c.toNat:Int) !=10 then((idx s' i).bind λd=>bif i64.wrap (↑d.toNat:Int)==quote then(ke (.inl (i64.wrap (i+1)))) else (idx s' i).bind λa=>bif(↑a.toNat:Int)==92 then((M.iq s' (i64.wrap (i+1))).bind λb=>bif b !=10 then(kn (i64.wrap (i64.wrap (i+1)+1))) else kn (i64.wrap (i+1))) else kn (i64.wrap (i+1))) else ke (.inr i)) else ke (.inr i)
def M.oh s' quote s:=M.kZ s' quote s (λs=>some (Sum.inl s)) λt=>some (Sum.inr t)
def M.kX s' quote s:=fG (M.oh s' quote) s
def F.kX:LE X0 157:=le 4 (Ia [dZ 0 pS,dZ 2 pI,dZ 7 pI] []) (λx=>x.1.2.2.1) (λx s=>((x.1.1,x.1.2.1,s,()),())) (λx=> .sum (.leaf (Int) (λt=>(Ex.ret,⟨[(6,kY t)],[]⟩))) (.leaf (Int) (λt=>(Ex.exit 0,⟨[(0,Jz x.1.1),(2,kY x.1.2.1),(7,kY t),(24,DN false)],[]⟩)))) (λx=>M.kZ x.1.1 x.1.2.1) [fe C.iq] [] (by rintro _ _ _ _ _<;>simp only[M.kZ,nb]<;>rfl)
abbrev M.zl(s':aT)(at' quote:Int)(k:Int->Option R):=(M.iq s' at').bind λb=>cond (b !=quote) (k (-1)) ((M.kX s' quote (i64.wrap (at'+1))).bind λa=>qy a (λd=>k d) λc=>letE c λe=>k (-1))
def M.jQ s' at' quote:=M.zl s' at' quote some
def C.jQ:=fTa S.jQ (λx=>M.zl x.1.1 x.1.2.1 x.1.2.2.1) [fe C.iq] [F.kX]
abbrev M.EJ(s':aT)(at':Int)(k:Int->Option R):=(M.jQ s' at' 34).bind λa=>k a
def M.uV s' at':=M.EJ s' at' some
def C.uV:=fTa S.uV (λx=>M.EJ x.1.1 x.1.2.1) [fe C.jQ]
abbrev M.EK(s':aT)(at':Int)(k:Int->Option R):=(M.jQ s' at' 47).bind λa=>cond (a==i64.wrap (at'+2)) (k (-1)) (k a)
def M.uX s' at':=M.EK s' at' some
def C.uX:=fTa S.uX (λx=>M.EK x.1.1 x.1.2.1) [fe C.jQ]
abbrev M.qV(kind:Int)(k:Bool->Option R):=(M.aQ kind 10 26).bind λa=>k a
def M.jW kind:=M.qV kind some
def C.jW:=fTa S.jW (λx=>M.qV x.1.1) [fe C.aQ]
abbrev M.xH(kind:Int)(k:Bool->Option R):=(M.aQ kind 30 68).bind λa=>k a
def M.nT kind:=M.xH kind some
def C.nT:=fTa S.nT (λx=>M.xH x.1.1) [fe C.aQ]
abbrev M.CG(kind:Int)(k:aT->Option R):=cond (kind==1) (k [10]) ((M.jW kind).bind λc=>cond c (cond (decide (0<=i64.wrap (kind - 10)) && decide (i64.wrap (kind - 10)<17)) ((cStr uQ (0+(i64.wrap (kind - 10)).toNat * 1)).bind λd=>k d) none) ((M.nT kind).bind λa=>cond a (cond (decide (0<=i64.wrap (kind - 30)) && decide (i64.wrap (kind - 30)<39)) ((cStr Jp (0+(i64.wrap (kind - 30)).toNat * 1)).bind λb=>k b) none) (k [])))
def M.qI kind:=M.CG kind some
def C.qI:=fTa S.qI (λx=>M.CG x.1.1) [fe C.jW,fe C.nT]
abbrev M.CJ(t':Int)(rY:aT)(D7:Int)(k:Bool->Option R):=cond (rY==[]) (k false) (cond (t'==2) ((idx rY 0).bind λc=>cond ((↑c.toNat:Int)==35) ((M.strings_Contains rY [10]).bind λh=>k !h) (k false)) (cond (t'==3) ((M.uU rY 0).bind λf=>k (f==(↑rY.length:Int))) (cond (t'==4) ((M.uV rY 0).bind λe=>k (e==(↑rY.length:Int))) (cond (t'==5) ((M.uX rY 0).bind λg=>k (g==(↑rY.length:Int))) (cond (t'==6) ((M.ig rY).bind λa=>k a) (cond (t'==7) ((M.ig rY).bind λi=>k i) (cond (t'==8) ((M.jd rY).bind λd=>k d) ((M.qI t').bind λb=>k (rY==b)))))))))
def M.jU t' rY D7:=M.CJ t' rY D7 some
def C.jU:=fTa S.jU (λx=>M.CJ x.1.1.1 x.1.1.2.1 x.1.1.2.2.1) [fe C.strings_Contains,fe C.uU,fe C.uV,fe C.uX,fe C.ig,fe C.jd,fe C.qI]
abbrev M.iU(kind:Int)(k:Bool->Option R):=cond (kind==51) (k true) (k (kind==52))
def M.iJ kind:=M.iU kind some
def C.iJ:=fTa S.iJ (λx=>M.iU x.1.1)
abbrev M.CO(op':Int)(k:Int->Option R):=cond (op'==44) (k 3) (cond (op'==45) (k 4) (cond (op'==67) (k 6) (cond (op'==46) (k 6) (cond (op'==63) (k 7) (cond (op'==48) (k 7) (cond (op'==47) (k 7) (cond (op'==50) (k 7) (cond (op'==62) (k 7) (cond (op'==49) (k 7) (cond (op'==99) (k 8) (cond (op'==55) (k 9) (cond (op'==56) (k 9) (cond (op'==57) (k 10) (cond (op'==58) (k 10) (cond (op'==59) (k 10) (cond (op'==60) (k 12) (k 0)))))))))))))))))
def M.qJ op':=M.CO op' some
def C.qJ:=fTa S.qJ (λx=>M.CO x.1.1)
abbrev M.Ak(kind:Int)(k:Bool->Option R):=cond (kind==54) (k true) ((M.aQ kind 38 43).bind λa=>k a)
def M.oN kind:=M.Ak kind some
def C.oN:=fTa S.oN (λx=>M.Ak x.1.1) [fe C.aQ]
abbrev M.gI(n' jq:Int)(kM nK:aT)(pG:ay)(k:Bool×Bool×Bool×Int×Int->Option R):=cond (n'==1) ((M.ig kM).bind λp=>k (jq==0,p,false,0,0)) (cond (n'==2) (cond (decide (0<=i64.wrap (n' - 2)) && decide (i64.wrap (n' - 2)<3)) ((gW .i64 [D.int .i64 3,D.int .i64 4,D.int .i64 5] (i64.wrap (n' - 2)).toNat).bind λa=>(M.jU a kM 0).bind λm=>k (jq==0,m,false,0,0)) none) (cond (n'==3) (cond (decide (0<=i64.wrap (n' - 2)) && decide (i64.wrap (n' - 2)<3)) ((gW .i64 [D.int .i64 3,D.int .i64 4,D.int .i64 5] (i64.wrap (n' - 2)).toNat).bind λb=>(M.jU b kM 0).bind λe=>k (jq==0,e,false,0,0)) none) (cond (n'==4) (cond (decide (0<=i64.wrap (n' - 2)) && decide (i64.wrap (n' - 2)<3)) ((gW .i64 [D.int .i64 3,D.int .i64 4,D.int .i64 5] (i64.wrap (n' - 2)).toNat).bind λf=>(M.jU f kM 0).bind λo=>k (jq==0,o,false,0,0)) none) (cond (n'==5) ((M.ig kM).bind λc=>k (jq==0,c,false,1,6)) (cond (n'==13) ((M.ig kM).bind λh=>k (jq==0,h,false,1,6)) (cond (n'==6) (k (jq==0,kM==[],false,1,1)) (cond (n'==7) ((M.ig kM).bind λl=>k (jq==0,l,false,0,6)) (cond (n'==8) ((M.jd kM).bind λn=>k (jq==0,n,false,0,6)) (cond (n'==9) ((M.iJ jq).bind λi=>k (i,kM==[],false,1,1)) (cond (n'==10) ((M.iJ jq).bind λj=>k (j,kM==[],false,1,1)) (cond (n'==11) (cond (jq==55) (k (true,kM==[],false,1,1)) (cond (jq==56) (k (true,kM==[],false,1,1)) (k (jq==61,kM==[],false,1,1)))) (cond (n'==12) ((M.qJ jq).bind λg=>k (g !=0,kM==[],false,2,2)) (cond (n'==14) (k (jq==0,kM==[],false,3,3)) ((M.oN jq).bind λd=>k (d,kM==[],false,2,2)))))))))))))))
def M.fO n' jq kM nK pG:=M.gI n' jq kM nK pG some
def C.fO:=fTa S.fO (λx=>M.gI x.1.1.1 x.1.1.2.1 x.1.1.2.2.1 x.1.1.va.1 x.1.1.va.2.1) [fe C.ig,fe C.jU,fe C.jd,fe C.iJ,fe C.qJ,fe C.oN]
abbrev M.iC(kind:Int)(k:Bool->Option R):=(M.aQ kind 20 34).bind λa=>k a
def M.fJ kind:=M.iC kind some
def C.fJ:=fTa S.fJ (λx=>M.iC x.1.1) [fe C.aQ]
abbrev M.gJ(n' jq:Int)(kM nK:aT)(pG:ay)(k:Bool×Bool×Bool×Int×Int->Option R):=cond (n'==20) (k (jq==0,kM==[],nK==[],1,1)) (cond (n'==21) (cond (jq==0) ((M.slices_Contains ([[D.str []],[D.str [62]],[D.str [62,62]],[D.str [124]]]) nK).bind λb=>cond (!nK==[]) (k (true,kM==[],b,i64.wrap (jq+1),7)) (k (true,kM==[],b,jq,6))) ((M.slices_Contains ([[D.str []],[D.str [62]],[D.str [62,62]],[D.str [124]]]) nK).bind λa=>cond (!nK==[]) (k (jq==1,kM==[],a,i64.wrap (jq+1),7)) (k (jq==1,kM==[],a,jq,6)))) (cond (n'==23) (k (jq==0,kM==[],nK==[],0,1)) (cond (n'==24) (k (jq==0,kM==[],nK==[],0,1)) (cond (n'==27) ((M.ig kM).bind λe=>k (jq==0,e,nK==[],0,6)) (cond (n'==28) (k (jq==0,kM==[],nK==[],2,3)) (cond (n'==29) (k (jq==0,kM==[],nK==[],2,2)) (cond (n'==30) (k (jq==0,kM==[],nK==[],2,2)) (cond (n'==31) (k (jq==0,kM==[],nK==[],4,4)) (cond (n'==32) ((M.ig kM).bind λc=>(M.ig nK).bind λd=>k (jq==0,c,d,1,1)) (cond (n'==33) (k (jq==0,kM==[],nK==[],0,400)) (cond (n'==34) ((M.jU 2 kM 0).bind λf=>k (jq==0,f,nK==[],0,0)) (k (jq==0,kM==[],nK==[],0,0)))))))))))))
def M.fP n' jq kM nK pG:=M.gJ n' jq kM nK pG some
def C.fP:=fTa S.fP (λx=>M.gJ x.1.1.1 x.1.1.2.1 x.1.1.2.2.1 x.1.1.va.1 x.1.1.va.2.1) [fe C.slices_Contains,fe C.ig,fe C.jU]
abbrev M.gQ(n' jq:Int)(kM nK:aT)(pG:ay)(k:Bool×Bool×Bool×Int×Int->Option R):=cond (n'==40) (k (jq==0,kM==[],nK==[],1,1)) (cond (n'==41) (k (jq==0,kM==[],nK==[],1,1)) (cond (n'==42) ((M.aQ jq 1 3).bind λa=>cond (jq==3) (k (a,kM==[],nK==[],2,2)) (k (a,kM==[],nK==[],1,1))) (cond (n'==43) (cond (jq==1) (cond (jq==3) (k (true,kM==[],nK==[],3,3)) (k (true,kM==[],nK==[],2,2))) (cond (jq==3) (k (jq==3,kM==[],nK==[],3,3)) (k (jq==3,kM==[],nK==[],2,2)))) (cond (n'==44) ((M.ig kM).bind λb=>k (jq==0,b,nK==[],1,7)) (k (jq==0,kM==[],nK==[],0,400))))))
def M.fQ n' jq kM nK pG:=M.gQ n' jq kM nK pG some
def C.fQ:=fTa S.fQ (λx=>M.gQ x.1.1.1 x.1.1.2.1 x.1.1.2.2.1 x.1.1.va.1 x.1.1.va.2.1) [fe C.aQ,fe C.ig]
abbrev M.eX(n' jq:Int)(kM nK:aT)(pG:ay)(k:Bool->Option R):=(M.bW n').bind λg=>cond g ((M.fO n' jq kM nK pG).bind λc=>cond c.1 (cond c.2.1 (cond (nK==[]) ((M.aQ ((↑pG.length:Int)) c.2.2.2.1 c.2.2.2.2).bind λi=>k i) (k false)) (k false)) (k false)) (cond (n'==16) (cond (jq==0) (cond (kM==[]) (cond (nK==[]) ((M.aQ ((↑pG.length:Int)) 0 0).bind λh=>k h) (k false)) (k false)) (k false)) ((M.fJ n').bind λf=>cond f ((M.fP n' jq kM nK pG).bind λb=>cond b.1 (cond b.2.1 (cond b.2.2.1 ((M.aQ ((↑pG.length:Int)) b.2.2.2.1 b.2.2.2.2).bind λe=>k e) (k false)) (k false)) (k false)) ((M.aQ n' 40 45).bind λj=>cond j ((M.fQ n' jq kM nK pG).bind λa=>cond a.1 (cond a.2.1 (cond a.2.2.1 ((M.aQ ((↑pG.length:Int)) a.2.2.2.1 a.2.2.2.2).bind λd=>k d) (k false)) (k false)) (k false)) (k false))))
def M.dW n' jq kM nK pG:=M.eX n' jq kM nK pG some
def C.dW:=fTa S.dW (λx=>M.eX x.1.1.1 x.1.1.2.1 x.1.1.2.2.1 x.1.1.va.1 x.1.1.va.2.1) [fe C.bW,fe C.fO,fe C.aQ,fe C.fJ,fe C.fP,fe C.fQ]
abbrev M.Am(kind:Int)(k:Bool->Option R):=cond (kind==1) (k true) (cond (kind==5) (k true) (k (kind==6)))
def M.kH kind:=M.Am kind some
def C.kH:=fTa S.kH (λx=>M.Am x.1.1)
abbrev M.EL(kind:Int)(k:Bool->Option R):=(M.aQ kind 40 44).bind λa=>k a
def M.uY kind:=M.EL kind some
def C.uY:=fTa S.uY (λx=>M.EL x.1.1) [fe C.aQ]
abbrev M.aO(n' jq:Int)(kM nK:aT)(pG:ay)(k' kid:Int)(k:Bool->Option R):=cond (n'==9) ((M.kH kid).bind λd=>k d) (cond (n'==10) ((M.kH kid).bind λp=>k p) (cond (n'==15) (cond (k'==0) ((M.kH kid).bind λc=>cond c (k true) (cond (decide (k'>0)) ((M.bW kid).bind λi=>k i) (k false))) (cond (decide (k'>0)) ((M.bW kid).bind λg=>k g) (k false))) (cond (n'==28) (cond (decide (k'>0)) (k (kid==33)) ((M.bW kid).bind λh=>k h)) (cond (n'==29) (cond (decide (k'>0)) (k (kid==33)) ((M.bW kid).bind λn=>k n)) (cond (n'==31) (cond (decide (k'<3)) (cond (kid==16) (k true) (cond (k'==i64.wrap ((↑pG.length:Int) - 1)) (k (kid==33)) ((M.bW kid).bind λa=>k a))) (cond (k'==i64.wrap ((↑pG.length:Int) - 1)) (k (kid==33)) ((M.bW kid).bind λq=>k q))) (cond (n'==30) (cond (k'==0) (k (kid==33)) ((M.bW kid).bind λf=>k f)) (cond (n'==32) (k (kid==33)) (cond (n'==40) (k (kid==33)) (cond (n'==41) (k (kid==33)) (cond (n'==33) ((M.fJ kid).bind λo=>k o) (cond (n'==42) (cond (k'==i64.wrap ((↑pG.length:Int) - 1)) (cond (decide (jq>=2)) (k (kid==33)) ((M.bW kid).bind λb=>k b)) ((M.bW kid).bind λj=>k j)) (cond (n'==43) (cond (k'==i64.wrap ((↑pG.length:Int) - 1)) (cond (jq==3) (k (kid==33)) ((M.bW kid).bind λl=>k l)) ((M.bW kid).bind λm=>k m)) (cond (n'==44) (cond (!k'==i64.wrap ((↑pG.length:Int) - 1)) (k (kid==1)) (k (kid==33))) (cond (n'==45) ((M.uY kid).bind λr=>cond r (k true) (k (kid==34))) ((M.bW kid).bind λe=>k e)))))))))))))))
def M.aU n' jq kM nK pG k' kid:=M.aO n' jq kM nK pG k' kid some
def C.aU:=fTa S.aU (λx=>M.aO x.1.1.1 x.1.1.2.1 x.1.1.2.2.1 x.1.1.va.1 x.1.1.va.2.1 x.1.2.1 x.1.2.2.1) [fe C.kH,fe C.bW,fe C.fJ,fe C.uY]
def M.iQ(eY:zae)(s:zam⊕zan)(kn:zam⊕zan->Option R)(ke:zam⊕zan->Option R):Option R:=match s with
 | .inl (l,v23,v24,v25,x',KG,MO,MP,OD,x'5,x'6,x'7)=>bif decide (v25<v24) then((idx v23 v25).bind λc=>(gW .i64 c 0).bind λd=>(eY l d).bind λa=>kn (.inr (l,v23,v24,i64.wrap (v25+1),x',KG,MO,MP,OD,x'5,x'6,x'7,[[D.int .i64 a.1,D.int .i64 a.2.1,D.str a.2.2.1,D.str a.2.2.2.1,D.sl true 5 a.2.2.2.2]]))) else(ke (.inl (l,v23,v24,v25,x',KG,MO,MP,OD,x'5,x'6,x'7)))
 | .inr (l,v23,v24,v25,x',KG,MO,MP,OD,x'5,x'6,x'7,x'8)=>bif decide (v25<v24) then((idx v23 v25).bind λf=>(gW .i64 f 0).bind λe=>(eY l e).bind λb=>uM x'8 [[D.int .i64 b.1,D.int .i64 b.2.1,D.str b.2.2.1,D.str b.2.2.2.1,D.sl true 5 b.2.2.2.2]] 72 λg=>kn (.inr (l,v23,v24,i64.wrap (v25+1),x',KG,MO,MP,OD,x'5,x'6,x'7,g))) else ke (.inr (l,v23,v24,v25,x',KG,MO,MP,OD,x'5,x'6,x'7,x'8))
def M.iR eY s:=M.iQ eY s (λs=>some (Sum.inl s)) λt=>some (Sum.inr t)
def M.yG eY s:=fG (M.iR eY) s
def F.yG{eY:zae}(IL:S.kC.ok X0 λx=>eY x.1.1 x.1.2.1):LE X0 49:=le 4 (pOr (Ia zaI [dZ 300000 zaM,dZ 300001 zaM]) (Ia zaI [dZ 300000 zaM,dZ 300001 (cB 50 [pI,pI,pS,pS,pO 300002 0]),dZ 300002 zaD])) (σ:=zam⊕zan) (λx=>(match x with| .inl x=> .inl ((x.1.1,x.1.va.1,x.1.va.2.1,x.1.va.2.2.1,x.2.1.1,x.2.1.2.1,x.2.1.2.2.1,x.2.1.va.1,x.2.2.1.1,x.2.2.1.2.1,x.2.2.1.2.2.1,x.2.2.1.va.1))| .inr x=> .inr ((x.1.1,x.1.va.1,x.1.va.2.1,x.1.va.2.2.1,x.2.1.1,x.2.1.2.1,x.2.1.2.2.1,x.2.1.va.1,x.2.2.1.1,x.2.2.1.2.1,x.2.2.1.2.2.1,x.2.2.1.va.1,x.va.1)))) (λx s=>(match s with| .inl s=> .inl (((s.1,(),(),s.2.1,s.2.2.1,s.va.1,()),((s.va.2.1,s.va.2.2.1,s.va.va.1,s.va.va.2.1,(),()),(s.wa.1,s.wa.2.1,s.wa.2.2.1,s.wa.va,(),()),())))| .inr s=> .inr (((s.1,(),(),s.2.1,s.2.2.1,s.va.1,()),((s.va.2.1,s.va.2.2.1,s.va.va.1,s.va.va.2.1,(),()),(s.wa.1,s.wa.2.1,s.wa.2.2.1,s.wa.va.1,(),()),s.wa.va.2,()))))) (λx=> .sum (.leaf zam (λt=>(Ex.exit 0,⟨[(0,Gl 5 t.1),(4,V.ptr 300000 0),(6,V.ptr 300001 0),(23,Gl 1 t.2.1),(24,kY t.2.2.1),(25,kY t.va.1),(26,DN false)],[(300000,Cell.box 50 [kY t.va.2.1,kY t.va.2.2.1,Jz t.va.va.1,Jz t.va.va.2.1,V.nil 5]),(300001,Cell.box 50 [kY t.wa.1,kY t.wa.2.1,Jz t.wa.2.2.1,Jz t.wa.va,V.nil 5])]⟩))) (.leaf zan (λt=>(Ex.exit 0,⟨[(0,Gl 5 t.1),(4,V.ptr 300000 0),(6,V.ptr 300001 0),(23,Gl 1 t.2.1),(24,kY t.2.2.1),(25,kY t.va.1),(26,DN false)],[(300000,Cell.box 50 [kY t.va.2.1,kY t.va.2.2.1,Jz t.va.va.1,Jz t.va.va.2.1,V.nil 5]),(300001,Cell.box 50 [kY t.wa.1,kY t.wa.2.1,Jz t.wa.2.2.1,Jz t.wa.va.1,V.own 300002 0]),(300002,Cell.arr false false 0 5 t.wa.va.2)]⟩)))) (λx=>M.iQ eY) [fe IL] [] (by rintro _ _ (⟨_,_,_,_,_,_,_,_,_,_,_,_⟩|⟨_,_,_,_,_,_,_,_,_,_,_,_,_⟩) _ _<;>simp only[uM,M.iQ,nb]<;>rfl) (hE:=by intro _ _ s _;rcases s with s|s<;>kernel_rfl)
def M.wX(eY:zae)(l:ay)(i:Int)(k:Int×Int×aT×aT×ay->Option R):=(idx l i).bind λe=>jF 1 e λaxH axI axJ axK ady=>((M.yG eY (.inl (l,ady,(↑ady.length:Int),0,0,0,[],[],axH,axI,axJ,axK))).bind λd=>qy d (λb=>k (b.2.2.2.2.2.2.2.2.1,b.2.2.2.2.2.2.2.2.2.1,b.2.2.2.2.2.2.2.2.2.2.1,b.2.2.2.2.2.2.2.2.2.2.2,[])) λc=>letE c λa=>k (a.2.2.2.2.2.2.2.2.1,a.2.2.2.2.2.2.2.2.2.1,a.2.2.2.2.2.2.2.2.2.2.1,a.2.2.2.2.2.2.2.2.2.2.2.1,a.2.2.2.2.2.2.2.2.2.2.2.2))
def M.fZ:Nat->ay->Int->Option zat
 |0=>λ_ _=>none
 |n+1=>λl i=>M.wX (M.fZ n) l i some
def M.kC l i:=lim λn=>M.fZ n l i
def C.VA{eY:zae}(IL:S.kC.ok X0 λx=>eY x.1.1 x.1.2.1):S.kC.ok X0 λx=>M.wX eY x.1.1 x.1.2.1 some:=fnS (λx=>M.wX eY x.1.1 x.1.2.1) [] [F.yG IL] (by intros;simp only[jF,M.wX,nb]<;>rfl)
def C.fZ:∀n,S.kC.ok X0 λx=>M.fZ n x.1.1 x.1.2.1
 |0=>fK.zero
 |n+1=>C.VA (C.fZ n)
def C.kC:S.kC.ok X0 λx=>M.kC x.1.1 x.1.2.1:=fK.lim C.fZ
def M.LC{n:Nat}{l:ay}{i:Int}{r:Int×Int×aT×aT×ay}(h:M.fZ n l i=some r):M.kC l i=some r:=fK.yj C.fZ (by intro a b h;simp[S.kC,rh,sg] at h;first|exact h|simp[Prod.ext_iff,h]) (x:=((l,i,()),())) h
abbrev M.zU(l:ay)(k:Int×Int×aT×aT×ay->Option R):=(M.kC l (i64.wrap ((↑l.length:Int) - 1))).bind λa=>k (a.1,a.2.1,a.2.2.1,a.2.2.2.1,a.2.2.2.2)
def M.kD l:=M.zU l some
def C.kD:=fTa S.kD (λx=>M.zU x.1.1) [fe C.kC]
def M.nJ(dL:zaf)(v7:ay)(v8:Int)(s:Int×Int)(kn:Int×Int->Option R)(ke:Int×Int->Option R):Option R:=match s with
 |(most,v9)=>bif decide (v9<v8) then((idx v7 v9).bind λb=>jF 5 b λaxN axO axP axQ ajJ=>((dL axN axO axP axQ ajJ).bind λa=>kn (bif decide (most<a) then a else most,i64.wrap (v9+1)))) else ke (most,v9)
def M.qW dL v7 v8 s:=M.nJ dL v7 v8 s (λs=>some (Sum.inl s)) λt=>some (Sum.inr t)
def M.vW dL v7 v8 s:=fG (M.qW dL v7 v8) s
def F.vW{dL:zaf}(CP:S.iO.ok X0 λx=>wF dL x.1.1):LE X0 68:=le 3 (Ia [dZ 3 pI,dZ 7 (pL false 5),dZ 8 pI,dZ 9 pI] []) (λx=>(x.1.1,x.1.va.1)) (λx s=>((s.1,x.1.2.1,x.1.2.2.1,s.2,()),())) (λx=> .leaf (Int×Int) (λt=>(Ex.exit 0,⟨[(3,kY t.1),(7,Gl 5 x.1.2.1),(8,kY x.1.2.2.1),(9,kY t.2),(10,DN false)],[]⟩))) (λx=>M.nJ dL x.1.2.1 x.1.2.2.1) [fe CP] [] (by rintro _ _ ⟨_,_⟩ _ _<;>simp only[jF,M.nJ,nb]<;>rfl)
def M.qX(dL:zaf)(t' rY:Int)(D7 Ib:aT)(DI:ay)(k:Int->Option R):=(M.vW dL DI ((↑DI.length:Int)) (0,0)).bind λa=>k (i64.wrap (a.1+1))
def M.gU:Nat->Int->Int->aT->aT->ay->Option (Int)
 |0=>λ_ _ _ _ _=>none
 |n+1=>λt' rY D7 Ib DI=>M.qX (M.gU n) t' rY D7 Ib DI some
def M.iO t' rY D7 Ib DI:=lim λn=>M.gU n t' rY D7 Ib DI
def C.OG{dL:zaf}(CP:S.iO.ok X0 λx=>wF dL x.1.1):S.iO.ok X0 λx=>wF (M.qX dL) x.1.1 some:=fnS (λx=>M.qX dL x.1.1.1 x.1.1.2.1 x.1.1.2.2.1 x.1.1.va.1 x.1.1.va.2.1) [] [F.vW CP] (by intros;simp only[M.qX,nb]<;>rfl)
def C.gU:∀n,S.iO.ok X0 λx=>M.gU n x.1.1.1 x.1.1.2.1 x.1.1.2.2.1 x.1.1.va.1 x.1.1.va.2.1
 |0=>fK.zero
 |n+1=>C.OG (C.gU n)
def C.iO:S.iO.ok X0 λx=>wF M.iO x.1.1:=fK.lim C.gU
def M.OH{n:Nat}{t' rY:Int}{D7 Ib:aT}{DI:ay}{r:Int}(h:M.gU n t' rY D7 Ib DI=some r):M.iO t' rY D7 Ib DI=some r:=fK.yj C.gU (by intro a b h;simp[S.iO,re,sg] at h;first|exact h|simp[Prod.ext_iff,h]) (x:=(((t',rY,D7,Ib,DI,()),()),())) h
def M.tX(l v10:ay)(v11 v12:Int)(v20:ay)(v21 x' KG:Int)(MO MP:aT)(OD:ay)(s:Int)(kn:Int->Option R)(ke:(Unit)⊕(Int)->Option R):Option R:=match s with
 |v22=>bif decide (v22<v21) then((idx v20 v22).bind λd=>(gW .i64 d 0).bind λa=>(idx l a).bind λc=>(gW .i64 c 0).bind λb=>(M.aU x' KG MO MP OD v22 b).bind λe=>bif !e then(ke (.inl ())) else kn (i64.wrap (v22+1))) else ke (.inr v22)
def M.D8 l v10 v11 v12 v20 v21 x' KG MO MP OD s:=M.tX l v10 v11 v12 v20 v21 x' KG MO MP OD s (λs=>some (Sum.inl s)) λt=>some (Sum.inr t)
def M.yH l v10 v11 v12 v20 v21 x' KG MO MP OD s:=fG (M.D8 l v10 v11 v12 v20 v21 x' KG MO MP OD) s
def F.yH:LE X0 44:=le 9 (Ia [dZ 0 (pL false 5),dZ 4 (pP 300000 0),dZ 10 (pL false 5),dZ 11 pI,dZ 12 pI,dZ 20 (pL false 1),dZ 21 pI,dZ 22 pI] [dZ 300000 (cB 56 zaB)]) (λx=>x.1.va.va.2.1) (λx s=>((x.1.1,(),x.1.2.2.1,x.1.va.1,x.1.va.2.1,x.1.va.2.2.1,x.1.va.va.1,s,()),((x.2.1.1,x.2.1.2.1,x.2.1.2.2.1,x.2.1.va.1,x.2.1.va.2.1,()),()))) (λx=> .sum (.leaf (Unit) (λt=>(Ex.ret,⟨[(2,DN false)],[]⟩))) (.leaf (Int) (λt=>(Ex.exit 2,⟨[(0,Gl 5 x.1.1),(4,V.ptr 300000 0),(10,Gl 5 x.1.2.2.1),(11,kY x.1.va.1),(12,kY x.1.va.2.1),(20,Gl 1 x.1.va.2.2.1),(21,kY x.1.va.va.1),(22,kY t),(23,DN false)],[(300000,Cell.box 56 [kY x.2.1.1,kY x.2.1.2.1,Jz x.2.1.2.2.1,Jz x.2.1.va.1,Gl 1 x.2.1.va.2.1])]⟩)))) (λx=>M.tX x.1.1 x.1.2.2.1 x.1.va.1 x.1.va.2.1 x.1.va.2.2.1 x.1.va.va.1 x.2.1.1 x.2.1.2.1 x.2.1.2.2.1 x.2.1.va.1 x.2.1.va.2.1) [fe C.aU] [] (by rintro _ _ _ _ _<;>simp only[M.tX,nb]<;>rfl)
def M.tZ(l v10:ay)(v11 s:Int)(kn:Int->Option R)(ke:(Unit)⊕(Int)->Option R):Option R:=match s with
 |v12=>bif decide (v12<v11) then((idx v10 v12).bind λb=>jF 1 b λn284 n285 aq2 aq3 TP=>((M.dW n284 n285 aq2 aq3 TP).bind λd=>bif !d then(ke (.inl ())) else (M.yH l v10 v11 v12 TP ((↑TP.length:Int)) n284 n285 aq2 aq3 TP 0).bind λc=>qy c (λf=>ke (.inl ())) λa=>letE a λe=>kn (i64.wrap (v12+1)))) else ke (.inr v12)
def M.D9 l v10 v11 s:=M.tZ l v10 v11 s (λs=>some (Sum.inl s)) λt=>some (Sum.inr t)
def M.yI l v10 v11 s:=fG (M.D9 l v10 v11) s
def F.yI:LE X0 44:=le 4 (Ia [dZ 0 (pL false 5),dZ 10 (pL false 5),dZ 11 pI,dZ 12 pI] []) (λx=>x.1.va.1) (λx s=>((x.1.1,x.1.2.1,x.1.2.2.1,s,()),())) (λx=> .sum (.leaf (Unit) (λt=>(Ex.ret,⟨[(2,DN false)],[]⟩))) (.leaf (Int) (λt=>(Ex.exit 0,⟨[(0,Gl 5 x.1.1),(10,Gl 5 x.1.2.1),(11,kY x.1.2.2.1),(12,kY t),(13,DN false)],[]⟩)))) (λx=>M.tZ x.1.1 x.1.2.1 x.1.2.2.1) [fe C.dW] [F.yH] (by rintro _ _ _ _ _<;>simp only[jF,M.tZ,nb]<;>rfl)
abbrev M.EM(l:ay)(k:Bool->Option R):=(M.qH l).bind λe=>cond (!e) (k false) ((M.yI l l ((↑l.length:Int)) 0).bind λb=>qy b (λf=>k false) λc=>letE c λg=>(M.kD l).bind λa=>(M.iO a.1 a.2.1 a.2.2.1 a.2.2.2.1 (aF a.2.2.2.2)).bind λd=>k (decide (d<=40)))
def M.nD l:=M.EM l some
def C.nD:=fTa S.nD (λx=>M.EM x.1.1) [fe C.qH,fe C.kD,fe C.iO] [F.yI]
abbrev M.EN(l:ay)(k:Bool->Option R):=(M.nD l).bind λb=>cond b ((idx l (i64.wrap ((↑l.length:Int) - 1))).bind λa=>(gW .i64 a 0).bind λc=>(M.bW c).bind λd=>k d) (k false)
def M.oO l:=M.EN l some
def C.oO:=fTa S.oO (λx=>M.EN x.1.1) [fe C.nD,fe C.bW]
def C.slices_Clone:S.slices_Clone.ok X0 λx=>M.slices_Clone x.1.1:=fK.MN (p:=Prim.slices_Clone)
def M.oq(v7:ay)(v8:Int)(s:Int×ay)(kn:Int×ay->Option R)(ke:Int×ay->Option R):Option R:=match s with
 |(v9,x')=>bif decide (v9<v8) then((idx v7 v9).bind λb=>jF 1 b λax5 ax6 ax7 ax8 ajK=>((M.slices_Clone ajK).bind λa=>bif jO a then(uM x' [[D.int .i64 ax5,D.int .i64 ax6,D.str ax7,D.str ax8,D.sl true 1 a]] 72 λc=>kn (i64.wrap (v9+1),c)) else none)) else ke (v9,x')
def M.sN v7 v8 s:=M.oq v7 v8 s (λs=>some (Sum.inl s)) λt=>some (Sum.inr t)
def M.xI v7 v8 s:=fG (M.sN v7 v8) s
def F.xI:LE X0 23:=le 3 (Ia [dZ 3 (pO 300000 0),dZ 7 (pL false 5),dZ 8 pI,dZ 9 pI] [dZ 300000 zaD]) (λx=>(x.1.va.1,x.2.1)) (λx s=>(((),x.1.2.1,x.1.2.2.1,s.1,()),(s.2,()))) (λx=> .leaf (Int×ay) (λt=>(Ex.exit 0,⟨[(3,V.own 300000 0),(7,Gl 5 x.1.2.1),(8,kY x.1.2.2.1),(9,kY t.1),(10,DN false)],[(300000,Cell.arr false false 0 5 t.2)]⟩))) (λx=>M.oq x.1.2.1 x.1.2.2.1) [fe C.slices_Clone] [] (by rintro _ _ ⟨_,_⟩ _ _<;>simp only[uM,jF,M.oq,nb]<;>rfl)
abbrev M.zn(l:ay)(k:ay->Option R):=(M.xI l ((↑l.length:Int)) (0,[])).bind λa=>k a.2
def M.iH l:=M.zn l some
def C.iH:=fTa S.iH (λx=>M.zn x.1.1) [] [F.xI]
def M.ou(l:ay)(name:aT)(v7:ay)(v8 s:Int)(kn:Int->Option R)(ke:(Unit)⊕(Int)->Option R):Option R:=match s with
 |v9=>bif decide (v9<v8) then((idx v7 v9).bind λx=>jF 1 x λajL _ aya _ Ap=>(bif ajL==15 then(bif decide ((↑Ap.length:Int)>0) then((idx Ap 0).bind λa=>(gW .i64 a 0).bind λz=>(M.aQ z 0 (i64.wrap ((↑l.length:Int) - 1))).bind λp=>bif p then((idx Ap 0).bind λd=>(gW .i64 d 0).bind λg=>(idx l g).bind λb=>(gW .i64 b 0).bind λv=>bif v==1 then((idx Ap 0).bind λG=>(gW .i64 G 0).bind λh=>(idx l h).bind λf=>(cStr f 2).bind λJ=>bif J==name then(ke (.inl ())) else kn (i64.wrap (v9+1))) else kn (i64.wrap (v9+1))) else kn (i64.wrap (v9+1))) else kn (i64.wrap (v9+1))) else bif ajL==9 then(bif decide ((↑Ap.length:Int)>0) then((idx Ap 0).bind λc=>(gW .i64 c 0).bind λI=>(M.aQ I 0 (i64.wrap ((↑l.length:Int) - 1))).bind λo=>bif o then((idx Ap 0).bind λH=>(gW .i64 H 0).bind λw=>(idx l w).bind λn=>(gW .i64 n 0).bind λi=>bif i==1 then((idx Ap 0).bind λF=>(gW .i64 F 0).bind λt=>(idx l t).bind λE=>(cStr E 2).bind λC=>bif C==name then(ke (.inl ())) else kn (i64.wrap (v9+1))) else kn (i64.wrap (v9+1))) else kn (i64.wrap (v9+1))) else kn (i64.wrap (v9+1))) else bif ajL==10 then(bif decide ((↑Ap.length:Int)>0) then((idx Ap 0).bind λk=>(gW .i64 k 0).bind λq=>(M.aQ q 0 (i64.wrap ((↑l.length:Int) - 1))).bind λr=>bif r then((idx Ap 0).bind λj=>(gW .i64 j 0).bind λu=>(idx l u).bind λD=>(gW .i64 D 0).bind λA=>bif A==1 then((idx Ap 0).bind λe=>(gW .i64 e 0).bind λm=>(idx l m).bind λy=>(cStr y 2).bind λB=>bif B==name then(ke (.inl ())) else kn (i64.wrap (v9+1))) else kn (i64.wrap (v9+1))) else kn (i64.wrap (v9+1))) else kn (i64.wrap (v9+1))) else bif ajL==32 then(bif aya==name then(ke (.inl ())) else kn (i64.wrap (v9+1))) else kn (i64.wrap (v9+1)))) else ke (.inr v9)
def M.oz l name v7 v8 s:=M.ou l name v7 v8 s (λs=>some (Sum.inl s)) λt=>some (Sum.inr t)
def M.xJ l name v7 v8 s:=fG (M.oz l name v7 v8) s
def F.xJ:LE X0 9:=le 2 (Ia [dZ 0 (pL false 5),dZ 1 pS,dZ 7 (pL false 5),dZ 8 pI,dZ 9 pI] []) (λx=>x.1.va.2.1) (λx s=>((x.1.1,x.1.2.1,x.1.2.2.1,x.1.va.1,s,()),())) (λx=> .sum (.leaf (Unit) (λt=>(Ex.ret,⟨[(4,DN true)],[]⟩))) (.leaf (Int) (λt=>(Ex.exit 0,⟨[(0,Gl 5 x.1.1),(1,Jz x.1.2.1),(7,Gl 5 x.1.2.2.1),(8,kY x.1.va.1),(9,kY t),(10,DN false)],[]⟩)))) (λx=>zaN M.ou x.1) [fe C.aQ] [] (by rintro _ _ _ _ _<;>unfold M.ou<;>exact zaO)
abbrev M.zo(l:ay)(name:aT)(k:Bool->Option R):=(M.xJ l name l ((↑l.length:Int)) 0).bind λb=>qy b (λd=>k true) λa=>letE a λc=>k false
def M.jm l name:=M.zo l name some
def C.jm:=fTa S.jm (λx=>M.zo x.1.1 x.1.2.1) [] [F.xJ]
abbrev M.Aq(v t' rY:Int)(D7 Ib:aT)(DI:ay)(c:aT)(c1:ay)(k:ay×aT×ay->Option R):=cond (t'==1) (cond (D7==c) ((M.kD (aF c1)).bind λa=>k ([[D.int .i64 a.1,D.int .i64 a.2.1,D.str a.2.2.1,D.str a.2.2.2.1,D.sl true 5 a.2.2.2.2]],c,aF c1)) (k ([[D.int .i64 t',D.int .i64 rY,D.str D7,D.str Ib,D.sl false 5 DI]],c,aF c1))) (k ([[D.int .i64 t',D.int .i64 rY,D.str D7,D.str Ib,D.sl false 5 DI]],c,aF c1))
def M.mO v t' rY D7 Ib DI c c1:=M.Aq v t' rY D7 Ib DI c c1 some
def C.mO:=fTa S.mO (λx=>M.Aq x.1.1 x.1.2.1.1 x.1.2.1.2.1 x.1.2.1.2.2.1 x.1.2.1.va.1 x.1.2.1.va.2.1 x.2.1.1 x.2.2.1.1) [fe C.kD]
def M.lV(fB:zag)(s:zao⊕zap)(kn:zao⊕zap->Option R)(ke:zao⊕zap->Option R):Option R:=match s with
 | .inl (l,i,v25,v26,v27,v,v1,x',KG,MO,MP)=>bif decide (v27<v26) then((idx v25 v27).bind λc=>(gW .i64 c 0).bind λd=>(fB l d v v1).bind λb=>bif((aF (aF b.1)).length * 72).ble 140737488355328 then(bif(aF (aF b.1)).length.ble 140737488355328 then(kn (.inr (l,i,v25,v26,i64.wrap (v27+1),b.2.1,aF b.2.2,x',KG,MO,MP,aF (aF b.1)))) else none) else none) else(ke (.inl (l,i,v25,v26,v27,v,v1,x',KG,MO,MP)))
 | .inr (l,i,v25,v26,v27,v,v1,x',KG,MO,MP,OD)=>bif decide (v27<v26) then((idx v25 v27).bind λe=>(gW .i64 e 0).bind λf=>(fB l f v v1).bind λa=>bif((OD.length+(aF (aF a.1)).length) * 72).ble 140737488355328 then(bif(OD.length+(aF (aF a.1)).length).ble 140737488355328 then(kn (.inr (l,i,v25,v26,i64.wrap (v27+1),a.2.1,aF a.2.2,x',KG,MO,MP,OD++aF (aF a.1)))) else none) else none) else ke (.inr (l,i,v25,v26,v27,v,v1,x',KG,MO,MP,OD))
def M.oW fB s:=M.lV fB s (λs=>some (Sum.inl s)) λt=>some (Sum.inr t)
def M.CQ fB s:=fG (M.oW fB) s
def F.CQ{fB:zag}(IQ:S.lD.ok X0 λx=>fB x.1.1 x.1.2.1 x.2.1.1 x.2.2.1.1):LE X0 47:=le 4 (pOr (Ia zaE [dZ 100000 (cB 9 [pS]),dZ 100001 (cB 24 [pL false 5]),dZ 300000 zaM]) (Ia zaE [dZ 100000 (cB 9 [pS]),dZ 100001 (cB 24 [pL false 5]),dZ 300000 (cB 50 [pI,pI,pS,pS,pO 300001 0]),dZ 300001 zaD])) (σ:=zao⊕zap) (λx=>(match x with| .inl x=> .inl ((x.1.1,x.1.2.1,x.1.va.2.1,x.1.va.2.2.1,x.1.va.va.1,x.2.1.1,x.2.2.1.1,x.va.1.1,x.va.1.2.1,x.va.1.2.2.1,x.va.1.va.1))| .inr x=> .inr ((x.1.1,x.1.2.1,x.1.va.2.1,x.1.va.2.2.1,x.1.va.va.1,x.2.1.1,x.2.2.1.1,x.va.1.1,x.va.1.2.1,x.va.1.2.2.1,x.va.1.va.1,x.va.2.1)))) (λx s=>(match s with| .inl s=> .inl (((s.1,s.2.1,((),((),(),())),(),s.2.2.1,s.va.1,s.va.2.1,()),((s.va.2.2.1,()),(s.va.va.1,()),(s.va.va.2.1,s.wa.1,s.wa.2.1,s.wa.2.2,(),()),())))| .inr s=> .inr (((s.1,s.2.1,((),((),(),())),(),s.2.2.1,s.va.1,s.va.2.1,()),((s.va.2.2.1,()),(s.va.va.1,()),(s.va.va.2.1,s.wa.1,s.wa.2.1,s.wa.2.2.1,(),()),s.wa.va,()))))) (λx=> .sum (.leaf zao (λt=>(Ex.exit 0,⟨[(0,Gl 5 t.1),(1,kY t.2.1),(2,V.clo 25 [] [V.ptr 100000 0,V.ptr 100001 0]),(8,V.ptr 300000 0),(25,Gl 1 t.2.2.1),(26,kY t.va.1),(27,kY t.va.2.1),(28,DN false)],[(100000,Cell.box 9 [Jz t.va.2.2.1]),(100001,Cell.box 24 [Gl 5 t.va.va.1]),(300000,Cell.box 50 [kY t.va.va.2.1,kY t.wa.1,Jz t.wa.2.1,Jz t.wa.2.2,V.nil 5])]⟩))) (.leaf zap (λt=>(Ex.exit 0,⟨[(0,Gl 5 t.1),(1,kY t.2.1),(2,V.clo 25 [] [V.ptr 100000 0,V.ptr 100001 0]),(8,V.ptr 300000 0),(25,Gl 1 t.2.2.1),(26,kY t.va.1),(27,kY t.va.2.1),(28,DN false)],[(100000,Cell.box 9 [Jz t.va.2.2.1]),(100001,Cell.box 24 [Gl 5 t.va.va.1]),(300000,Cell.box 50 [kY t.va.va.2.1,kY t.wa.1,Jz t.wa.2.1,Jz t.wa.2.2.1,V.own 300001 0]),(300001,Cell.arr false false 0 5 t.wa.va)]⟩)))) (λx=>M.lV fB) [fe IQ] [] (by rintro _ _ (⟨_,_,_,_,_,_,_,_,_,_,_⟩|⟨_,_,_,_,_,_,_,_,_,_,_,_⟩) _ _<;>simp only[M.lV,nb]<;>rfl) (hE:=by intro _ _ s _;rcases s with s|s<;>kernel_rfl)
def M.zV(fB:zag)(l:ay)(i:Int)(c:aT)(c1:ay)(k:ay×aT×ay->Option R):=(idx l i).bind λf=>jF 1 f λayx ayy ayz ayA adz=>((M.CQ fB (.inl (l,i,adz,(↑adz.length:Int),0,c,aF c1,ayx,ayy,ayz,ayA))).bind λg=>qy g (λb=>(M.mO b.2.1 b.2.2.2.2.2.2.2.1 b.2.2.2.2.2.2.2.2.1 b.2.2.2.2.2.2.2.2.2.1 b.2.2.2.2.2.2.2.2.2.2 [] b.2.2.2.2.2.1 b.2.2.2.2.2.2.1).bind λd=>k (aF d.1,d.2.1,aF d.2.2)) λh=>letE h λa=>(M.mO a.2.1 a.2.2.2.2.2.2.2.1 a.2.2.2.2.2.2.2.2.1 a.2.2.2.2.2.2.2.2.2.1 a.2.2.2.2.2.2.2.2.2.2.1 (aF a.2.2.2.2.2.2.2.2.2.2.2) a.2.2.2.2.2.1 a.2.2.2.2.2.2.1).bind λe=>k (aF e.1,e.2.1,aF e.2.2))
def M.jg:Nat->ay->Int->aT->ay->Option (ay×aT×ay)
 |0=>λ_ _ _ _=>none
 |n+1=>λl i c c1=>M.zV (M.jg n) l i c c1 some
def M.lD l i c c1:=lim λn=>M.jg n l i c c1
def C.VB{fB:zag}(IQ:S.lD.ok X0 λx=>fB x.1.1 x.1.2.1 x.2.1.1 x.2.2.1.1):S.lD.ok X0 λx=>M.zV fB x.1.1 x.1.2.1 x.2.1.1 x.2.2.1.1 some:=fnS (λx=>M.zV fB x.1.1 x.1.2.1 x.2.1.1 x.2.2.1.1) [fe C.mO] [F.CQ IQ] (by intros;simp only[jF,M.zV,nb]<;>rfl)
def C.jg:∀n,S.lD.ok X0 λx=>M.jg n x.1.1 x.1.2.1 x.2.1.1 x.2.2.1.1
 |0=>fK.zero
 |n+1=>C.VB (C.jg n)
def C.lD:S.lD.ok X0 λx=>M.lD x.1.1 x.1.2.1 x.2.1.1 x.2.2.1.1:=fK.lim C.jg
def M.VD{n:Nat}{l:ay}{i:Int}{c:aT}{c1:ay}{r:ay×aT×ay}(h:M.jg n l i c c1=some r):M.lD l i c c1=some r:=fK.yj C.jg (by intro a b h;simp[S.lD,sg] at h;first|exact h|simp[Prod.ext_iff,h]) (x:=((l,i,((),((),(),())),()),((c,()),(c1,()),()))) h
end
end Go.Proofs.YtcallmiaialhkaaGreatDoor
