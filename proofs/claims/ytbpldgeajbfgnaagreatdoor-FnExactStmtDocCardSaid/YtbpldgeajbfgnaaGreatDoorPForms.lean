import Derived.Test.YtbpldgeajbfgnaaGreatDoorVm4
import Derived.Test.YtbpldgeajbfgnaaGreatDoorProg
import Derived.Test.YtbpldgeajbfgnaaGreatDoorPPrim
namespace Go.Proofs.YtbpldgeajbfgnaaGreatDoor
open Go Go.Vm
set_option linter.unusedVariables false
set_option linter.unusedSimpArgs false
noncomputable section
def kp3:List (List Nat):=[[0],[0,3],[0,3],[0,15],[2],[0,4],[0,4,5],[0,4,5,6],[0,4,5,6,26],[2],[0,4,5,6,31],[2],[0,4,5,6,7],[0,4,6,7],[0,4,6,42],[2],[0,4,6,8],[0,4,6,8],[0,4,6,8,9],[0,4,6,8,9],[0,4,6,8,9,50],[2],[0,4,6,8,53],[2],[4,6,8,10],[6,8,60],[2],[6,8,9],[8,9],[8,9,65],[2],[68],[2],[2]]
def kp9:List (List Nat):=[[0,1],[0,1],[0,1,11],[4],[0,1,5],[0,1,5,15],[0,1,5],[0,1,5],[0,1,5,25],[4],[4]]
def aKC:List (List Nat):=[[0],[0,16],[2],[2]]
def aKD:List (List Nat):=[[0],[0,3],[0,3,4],[0,3,4,11],[0,3,4],[0,3,4],[2]]
def aKE:List (List Nat):=[[0],[0,16],[2],[2]]
def aKF:List (List Nat):=[[0,1],[0,1,10],[4],[0,1,5],[0,1,5,14],[0,1,5],[0,1,5,26],[4],[4]]
def aKG:List (List Nat):=[[0,1],[0,1,10],[4],[0,1,5],[0,1,5,14],[0,1,5],[0,1,5,26],[4],[4]]
def aKH:List (List Nat):=[[0,1],[0,1,5],[0,1,5,9],[0,1,5],[0,1,5],[0,1,5],[0,1,5],[0,1,5],[0,1,5],[0,1,5],[0,1,5],[0,1,5],[0,1,5],[4]]
def aKI:List (List Nat):=[[0,1],[0,1,5],[0,1,5,9],[0,1,5],[0,1,5],[0,1,5],[0,1,5],[0,1,5],[0,1,5],[0,1,5],[0,1,5],[4]]
def aKJ:List (List Nat):=[[0,1],[0,1,5],[0,1,5,9],[0,1,5],[0,1,5,18],[4],[0,1,5],[0,1,5,27],[4],[0,1,5],[0,1,5,37],[4],[0,1,5],[0,1,5],[0,1,5,48],[4],[4]]
def aKK:List (List Nat):=[[1,2],[1,2],[1,2,11],[4],[1,2],[1,2,18],[4],[1],[1,24],[4],[4]]
def aKL:List (List Nat):=[[0],[0,12],[2],[0,3],[0,3,16],[0,3],[0,3,24],[2],[0,3,4],[0,3,4,32],[0,3,4],[0,3,4,53],[2],[2]]
def aKM:List (List Nat):=[[0],[2]]
def aKN:List (List Nat):=[[1,2],[1,2,5],[1,2,5,12],[1,2,5,12,13],[4],[1,2,5,12,22],[4],[1,2,5,12,27],[4],[1,2,5,12,30],[4],[1,2,5,12,36],[4],[1,2,5,12,42],[4],[1,2,5,12,45],[4],[1,2,5,12,48],[2,5,53],[4],[4],[1,2,5,12,71],[4],[1,2,5,12,76],[4],[1,2,5,12,95],[4],[1,2,5,12,115],[4],[1,2,5,12,120],[4],[1,2,5,139],[4],[4]]
def aKO:List (List Nat):=[[1,2],[1,2,3],[1,2,3],[1,2,3],[1,2,3],[1,2,3],[2,3],[2]]
def aKP:List (List Nat):=[[0],[0,9],[2],[0,10,11,12],[0,10,11,12,13],[0,4,10,11,12],[0,4,10,11,12,18],[2],[0,4,10,11,12,20,21,22],[0,4,10,11,12,20,21,22,23],[0,4,5,6,10,11,12,20,21,22],[0,4,10,11,12,20,21,22,35],[2],[0,4,10,11,12,20,21,22],[0,10,11,12],[2]]
def aKQ:List (List Nat):=[[0],[2]]
def aKR:List (List Nat):=[[1,2],[1,2,4],[1,2,4,5],[2],[1,2,4,12],[2],[1,2,4,16],[2],[1,2,4,19],[2],[1,2,4,22],[2],[1,2,4,25],[2],[1,2,4,29],[2],[1,2,4,33],[1,2,38],[2],[2],[1,2,4,54],[2],[1,2,4,58],[2],[1,2,4,74],[2],[1,2,4,91],[2],[1,2,4,95],[2],[1,2,113],[2],[2]]
def aKS:List (List Nat):=[[0,2],[2]]
def aKT:List (List Nat):=[[1],[2]]
def aKU:List (List Nat):=[[2,3],[2,3,9],[4],[2,3,14],[4],[2,3,19],[4],[25],[4],[4]]
def aKV:List (List Nat):=[[2,3],[2,3,9],[4],[2,3,14],[4],[2,3,19],[4],[2,3,24],[4],[30],[4],[4]]
def aKW:List (List Nat):=[[0],[0,5],[2],[0,3],[0,3,7],[0,3],[0,3],[2]]
def aKX:List (List Nat):=[[0,1],[0,1,5],[0,1,5,9],[0,1,5],[0,1,5],[0,1,5],[4]]
def aKY:List (List Nat):=[[0,1],[0,1,5],[0,1,5,9],[0,1,5],[0,1,5,17],[4],[0,1,5],[4]]
def aKZ:List (List Nat):=[[0],[0]]
def aK1:List (List Nat):=[[0],[0]]
def aK2:List (List Nat):=[[1,2],[1,2,5],[1,2,5,12],[1,2,5,12,13],[4],[1,2,5,12,24],[4],[1,2,5,12,35],[1,2,5,12,35],[4],[1,2,5,41],[4],[4]]
def aK3:List (List Nat):=[[],[0]]
def aK4:List (List Nat):=[[0,1,2],[0,1,2,7],[2,7,8],[2,7,8,9],[2,7,8,9,17],[2,7,8,9],[2,7,8,9],[2,7,8,9],[6]]
def aK5:List (List Nat):=[[0],[0]]
def aK6:List (List Nat):=[[0,2],[2]]
def aK7:List (List Nat):=[[0,1,2],[6]]
def aK8:List (List Nat):=[[0,1],[1],[1,10],[4],[4]]
def aK9:List (List Nat):=[[0],[0,8],[2],[0,3,4],[2]]
def aLa:List (List Nat):=[[0],[0,9],[2],[0,3],[0,3,4],[0,3,4,14],[0,3,4],[0,3,4,5],[0,3,4,5,6],[0,3,4,5,6,24],[0,3,4,5,6],[0,3,4,5,6],[0,3,4],[2]]
def aLb:List (List Nat):=[[1],[1,3,4],[1,3,4,5],[2]]
def aLc:List (List Nat):=[[1,2,3],[1,2,3,7],[1,2,3,7,8],[1,2,3,7,8,18],[1,2,3,7,8,18,19],[1,2,3,7,8,18,19],[6],[1,2,3,7,8,18,24],[6],[1,2,3,7,8,18,36],[6],[1,2,3,7,8,18,51],[6],[1,2,3,7,8,18,66],[6],[1,2,3,7,8,18,81],[6],[1,2,3,7,8,18,100],[1,2,3,7,8,18,100],[1,2,3,7,8,18,100],[6],[1,2,3,7,8,18,105],[6],[1,2,3,7,8,18,109],[6],[1,2,7,8,18,145],[6],[2,7,8,18,160],[6],[2,174],[6],[6]]
def aLd:List (List Nat):=[[0,1,2],[6]]
def aLe:List (List Nat):=[[1,3,5],[1,3,5,13],[6],[6]]
def aLf:List (List Nat):=[[2,3],[2,3,5],[2,3,5,10],[2,3,5],[2,3,6],[2,3,6,7],[2,3,6,7,18],[2,3,6,7],[2,3,6,7,28],[2,3,6],[2,3,6,39],[6],[4]]
def aLg:List (List Nat):=[[0],[2]]
def aLh:List (List Nat):=[[1,2,3],[1,2,3,9],[6],[6]]
def aLi:List (List Nat):=[[1,3,5],[1,3,5,7],[1,3,5,7,8],[1,3,5,7,8,13],[1,3,5,7,8],[1,3,5,7,8,17],[1,3,5,7,8],[1,3,5,7,8],[6]]
def aLj:List (List Nat):=[[2,3],[2,3,5],[2,3,5,26],[4],[4]]
def aLk:List (List Nat):=[[1,2],[4]]
def aLl:List (List Nat):=[[2,3],[2,3,5],[2,3,5,16],[2,3,5],[4]]
def aLm:List (List Nat):=[[0],[0,3],[0,3,4],[0,3,4,11],[0,3,4],[0,3,4],[2]]
def aLn:List (List Nat):=[[0],[4],[2]]
def aLo:List (List Nat):=[[1],[1,3],[2],[1,3,5],[1,3],[1,3],[1,3,15],[1,3],[1,3,29],[1,3],[1,3,35],[1,3],[2]]
def aLp:List (List Nat):=[[1,2,3],[1,2,3,7],[1,2,3,7,8],[1,2,3,7,8,16],[1,2,3,7,8,16,17],[1,2,3,7,8,16,17],[6],[1,2,3,7,8,16,22],[6],[1,2,3,7,8,16,38],[1,2,3,7,8,16,38],[2,8],[1,2,3,7,8,16,43],[2,7,50],[6],[2,8],[1,2,3,7,8,16,52],[2,8],[2,3,7,8,16,56],[2,3,7,8,16,56],[2,3,7,8,16,56],[2,8],[2,3,7,8,16,60],[6],[2,3,7,8,16,64],[2,8],[2,3,7,8,16,72],[2,8],[2,7,8,16,80],[2,83],[6],[2,8],[2,8,86],[6],[2,94],[6],[6]]
def aLq:List (List Nat):=[[1],[1,3],[3,7,8,9],[3,7,8,9,10],[3,5,7,8,9],[3,7,8,9],[3,7,8,9],[2]]
def aLr:List (List Nat):=[[1,2],[2]]
def aLs:List (List Nat):=[[1,2],[1,2,3,4],[1,2,3,4,15],[1,2,3,4],[1,2,3,4,23],[1,2,3],[1,2,3,32],[2,3],[2]]
def aLt:List (List Nat):=[[0,2],[2]]
def aLu:List (List Nat):=[[0,3,4],[0,3,4,8],[4],[4]]
def aLv:List (List Nat):=[[0,1,4],[0,1,4,5],[1,4,5,9,10,11],[1,4,5,9,10,11,12],[1,4,5,6,7,9,10,11],[1,4,5,6,7,9,10,11,17],[1,4,5,6,7,9,10,11],[1,4,5,9,10,11],[1,4,5,9,10,11],[4]]
def aLw:List (List Nat):=[[2],[2]]
def aLx:List (List Nat):=[[1,2],[1,2,3],[1,2,3,21],[2,3],[2]]
def aLy:List (List Nat):=[[1,2],[1,2,3],[2,3,8,9,10],[2,3,8,9,10,11],[2,3,5,8,9,10],[2,3,8,9,10],[2,3,8,9,10],[2]]
def aLz:List (List Nat):=[[1,2],[1,2,3],[1,2,3,10],[1,2,3],[2]]
def aLA:List (List Nat):=[[0,1,4],[0,4,5],[0,4,5,6],[0,4,6,23,24,25],[0,4,6,23,24,25,26],[0,4,6,8,23,24,25],[0,4,6,23,24,25],[0,4,6,23,24,25],[4]]
def aLB:List (List Nat):=[[1,2],[1,2,5],[1,5,16,17,18],[1,5,16,17,18,19],[1,5,7,16,17,18],[1,5,16,17,18],[1,5,16,17,18],[1,5,16,17,18],[4]]
def aLC:List (List Nat):=[[0,1],[0,1,10],[4],[0,1,5],[0,1,5,14],[0,1,5],[0,1,5,25],[4],[4]]
def aLD:List (List Nat):=[[1],[2]]
def aLE:List (List Nat):=[[1],[2]]
def aLF:List (List Nat):=[[2,3,4],[2,3,4,8],[4],[4]]
def aLG:List (List Nat):=[[2,3],[2,3,5],[2,3,5,6],[2,3,5,6,13],[2,3,5,6],[2,3,5,6,7],[2,3,5,6,7,27],[2,3,5,6,7],[2,3,5,6,7,37],[2,3,5,6,7],[2,3,5,6,44],[2,3,5,6],[2,3,5,6],[4]]
def aLH:List (List Nat):=[[2,3],[2,3,5],[2,3,5,6],[2,3,5,6,7],[2,3,5,6,7,18],[2,3,5,6,7],[2,3,5,6,7,22],[2,3,5,6,7],[2,3,5,6,7],[4]]
def az7:List (List Nat):=[[0,1],[0,1,5],[0,1,5,6],[0,1,5,6,13],[0,1,5,6],[0,1,5,6,7],[0,1,5,6,7],[0,1,5,6,7,8],[0,1,5,6,7,8,29],[0,1,5,6,7,8],[0,1,5,6,7,8],[0,1,5,6],[4]]
def az8:List (List Nat):=[[0],[0,4],[0,4,5],[0,4,5,12],[0,4,5],[0,4,5,6],[0,4,5,6,7],[0,4,5,6,7,24],[0,4,5,6,7],[0,4,5,6,7,41],[2,3],[0,4,5,6,7],[0,4,5],[2,3]]
def az9:List (List Nat):=[[1],[1,6],[1,6,7],[1,6,7],[2,3],[1,6,10],[1,6,10],[1,6,10],[2,3],[1,6,14],[1,6,14],[1,6,14],[1,6,14],[1,6,14],[1,6,14],[1,6,14],[1,6,14],[2,3],[1,6,23],[1,6,23],[1,6,23],[1,6,23],[2,3],[1,6,28],[2,3],[1,6,30],[1,4],[4,36],[2,3],[2,3],[1,6,40],[1,6,40],[2,3],[1,6,43],[2,3],[1,6,45],[2,3],[1,6,47],[1,6,47],[2,3],[1,6,53],[2,3],[1,6,63],[2,3],[73],[2,3],[2,3]]
def aAa:List (List Nat):=[[1],[1,4],[1,4,5],[1,4,5],[2],[1,4,16],[2],[1,4,31],[2],[1,4,36],[2],[1,4,41],[2],[1,4,46],[2],[1,51],[2],[2]]
def aAb:List (List Nat):=[[1],[1,4],[1,4,5],[1,4,5],[1,4,5],[1,4,5],[1,4,5],[1,4,5],[2],[1,4,20],[2],[1,4,31],[2],[1,4,42],[2],[1,4,53],[2],[1,4,64],[2],[1,4,74],[2],[1,84],[2],[2]]
def aAc:List (List Nat):=[[0],[2]]
def aAd:List (List Nat):=[[0],[2]]
def aAe:List (List Nat):=[[2,3],[2,3,5],[4],[2,3,14],[4],[2,3,22],[4],[2,3,35],[4],[2,3,53],[4],[4]]
def aAf:List (List Nat):=[[1,3,5],[3,5,7],[3,5,7,8],[3,5,7,8,19],[6],[3,5,7,24],[3,5,7,24,25],[6],[3,5,7,24,30],[3,5,7,24,30],[6],[3,5,7,24,36],[6],[3,5,7,24,50],[6],[3,5,7,24,64],[6],[3,5,7,24,78],[6],[3,5,7,24,103],[3,5,7,9],[3,5,7,9,122],[3,5,7,9],[6],[3,5,7,24,138],[6],[3,5,7,171],[3,5,7,176],[6],[6],[6]]
def aAg:List (List Nat):=[[1,2],[1,2,11],[4],[4]]
def aAh:List (List Nat):=[[],[0]]
def aAi:List (List Nat):=[[0],[0,3],[0,3,4],[0,3,4,9],[0,3,4],[0,3,4],[2]]
def aAj:List (List Nat):=[[1,2],[1,2,5],[1,2,5,6],[1,2,5,6,11],[1,2,5,6],[1,2,5,6],[4]]
def aAk:List (List Nat):=[[0,2,3,9,30],[0,2,3,9,13,30],[2,3],[0,2,3,4,9,30],[0,2,3,4,9,17,18,19,30],[0,2,3,4,9,17,18,19,20,30],[0,2,3,4,5,6,9,17,18,19,30],[0,2,3,4,5,6,7,9,17,18,19,30],[0,2,3,4,5,7,9,17,18,19,28,30],[0,2,3,4,5,7,9,17,18,19,28,30],[0,2,3,4,5,7,9,17,18,19,28,30,37],[2,3],[0,2,3,4,5,7,9,17,18,19,28,30],[0,2,3,4,9,17,18,19,30],[0,2,3,4,9,17,18,19,30],[2,3]]
def aAl:List (List Nat):=[[0],[2]]
def aAm:List (List Nat):=[[1,2],[1,2,4],[1,2,4,5],[2],[1,2,4,14],[1,2,4,14],[1,2,4,14],[2],[1,2,4,31],[1,2,4,31],[2],[1,2,4,41],[2],[1,2,4,50],[2],[1,2,4,59],[2],[1,2,4,68],[1,2,4,68],[2],[1,2,4,78],[2],[1,2,4,97],[2],[1,2,107],[2],[2]]
def aAn:List (List Nat):=[[1,2],[1,2,3],[1,2,3,15],[1,2,3,15,16],[2,3],[1,2,3,15,20],[1,2,3],[1,2,3],[1,2,3],[2,3,42],[2,3],[1,2,3,15,51],[1,2,3,15,51],[2,3],[1,2,3,15,55],[2,3],[1,2,3,15,62],[2,3],[1,2,3,15,66],[1,2,3,15,66],[2,3],[1,2,3,15,71],[2,3],[1,2,3,15,75],[2,3],[1,2,3,15,87],[2,3],[1,2,3,90],[2,3],[2]]
def aAo:List (List Nat):=[[1,2],[1,2,3],[1,2,3,15],[2,3],[1,2,3,15,17],[1,2,3,15,17],[2,3],[1,2,3,15,22],[1,2,3],[2,3,31],[2,3],[2,3],[1,2,3,15,36],[1,2,3],[2,3,50],[2,3],[2,3],[1,2,3,55],[2,3],[2]]
def aAp:List (List Nat):=[[0],[2]]
def aAq:List (List Nat):=[[0],[2]]
def aAr:List (List Nat):=[[2],[2]]
def aAs:List (List Nat):=[[1,2],[1,2,5],[2],[2]]
def aAt:List (List Nat):=[[0],[0]]
def aAu:List (List Nat):=[[1,2],[2]]
def aAv:List (List Nat):=[[1,2],[2]]
def aAw:List (List Nat):=[[2,3],[2,3,5],[2,3,5,8],[4],[2,3,5,16],[4],[2,3,5,24],[4],[2,3,5,37],[4],[4]]
def aAx:List (List Nat):=[[1,2],[1,2,3],[2,3,16,17],[2,3,16,17,18],[2,3,4,16,17],[2,3,16,17],[2,3,16,17],[2]]
def aAy:List (List Nat):=[[2,3,4],[2,3,4,8],[2,3,4,8,9],[2,3,4,8,9],[2,3,4,8,9],[2,3,4,8,9],[4],[2,3,4,8,17],[4],[2,3,4,8,29],[2,3,4,8,29],[4],[2,3,4,8,42],[4],[2,3,4,8,53],[4],[2,3,4,8,64],[4],[2,3,4,8,72],[4],[2,3,4,8,77],[4],[2,3,4,92],[2,3,4,97],[4],[4],[2,4,5,6],[2,4,5,6,123],[4],[2,4,5,6,137],[4],[4]]
def aAz:List (List Nat):=[[0],[3],[3,4],[3,4],[3,4],[3,4],[3,4],[3,4],[3,4],[3,4],[3,4],[3,4],[3,4],[3,4],[3,4],[3,4],[3,4],[3,4],[4],[2],[2]]
def aAA:List (List Nat):=[[0],[2]]
def aAB:List (List Nat):=[[0],[2]]
def aAC:List (List Nat):=[[1],[1,3],[1,3,8],[1,3,8,9],[2],[1,3,8,24],[2],[1,3,8,35],[2],[1,3,8,42],[2],[1,8,49],[1,8,49],[2],[1,55],[2],[2]]
def aAD:List (List Nat):=[[0],[2]]
def aAE:List (List Nat):=[[1],[1,4],[1,4,5],[2],[1,4,7],[2],[1,4,9],[2],[1,4,11],[2],[4,16],[2],[4,18],[4,18],[2],[4,21],[2],[4,23],[4,23],[4,23],[4,23],[4,23],[4,23],[23],[2],[2]]
def aAF:List (List Nat):=[[1,2],[1,2,4],[1,2,4,5],[2],[1,2,4,10],[2],[1,2,4,15],[2],[1,2,20],[2],[2]]
def aAG:List (List Nat):=[[2,3,4,5],[8]]
def aAH:List (List Nat):=[[0],[0,3],[2],[0,6],[2],[0,14],[2],[2]]
def aAI:List (List Nat):=[[1,2],[4]]
def aAJ:List (List Nat):=[[1,3,5,6],[1,3,5,6,26],[6],[1,3,6,7],[1,3,6,7,40],[6],[1,3,6,7,40,42],[1,6,7],[6,7,46],[6,7],[1,3,6,7,40,48],[1,6,7],[6,7,52],[6,7],[1,3,6,7,40,54],[6,7,59],[6],[6,7],[1,3,6,7,40,62],[1,3,6,7,8,9],[1,3,6,7,9],[3,6,7,9,73],[3,6,7],[6,7],[6,7,40,80],[6,7],[6,7],[6,7,40,84],[6,7,40,84],[6,7],[6,7],[6,7,89],[6,7],[6,7],[6,7],[6]]
def aAK:List (List Nat):=[[2,3],[2,3,31],[4],[2,3,5],[2,3,5,6],[2,3,5,44],[4],[2,3,51],[4],[2,3,63],[4],[2,8],[4]]
def aAL:List (List Nat):=[[0,2],[2]]
def aAM:List (List Nat):=[[1,3,5],[1,3,5,19],[6],[1,3,5,43],[6],[7],[6]]
def aAN:List (List Nat):=[[3,4,5],[3,4,5,7],[4,7,8],[4,7,8,28],[4,7,8,28,29],[6],[4,7,8,28,36],[4,7,8,36],[6],[6]]
def aAO:List (List Nat):=[[0],[2]]
def aAP:List (List Nat):=[[1],[1,5],[2],[1,7],[1,7,8],[2],[1,7,20],[2],[1,7,29],[2],[1,7,38],[2],[1,7,47],[1,7,47],[2],[1,53],[2],[2]]
def aAQ:List (List Nat):=[[0],[2]]
def aAR:List (List Nat):=[[0],[2]]
def aAS:List (List Nat):=[[0],[3],[3,4],[2],[3,6],[2],[3,8],[3,8],[2],[3,11],[3,11],[3,11],[3,11],[3,11],[3,11],[2],[3,18],[2],[3,20],[3,20],[2],[3,23],[3,23],[3,23],[2],[27],[2],[2]]
def aAT:List (List Nat):=[[0],[2]]
def aAU:List (List Nat):=[[0,1],[4]]
def aAV:List (List Nat):=[[1],[1,4],[1,4,5],[2],[1,4,7],[2],[1,4,9],[2],[1,4,11],[2],[4,16],[2],[4,18],[4,18],[2],[4,21],[2],[4,23],[4,23],[4,23],[4,23],[4,23],[4,23],[23],[2],[2]]
def aAW:List (List Nat):=[[0],[0,3],[2],[0,6],[2],[0,13],[2],[2]]
def aAX:List (List Nat):=[[1,3,5,6],[1,3,5,6,7],[1,3,6,7,8],[1,3,6,8,17],[6],[6]]
def aAY:List (List Nat):=[[2,3,4],[2,3,4,5],[2,3,4,5],[2,3,4,5,6],[2,3,4,6,21],[2,3,4,6],[4]]
def aAZ:List (List Nat):=[[0],[0,3],[0,3,7],[0,3],[0,3,15],[2],[2]]
def aA0:List (List Nat):=[[0],[3],[3,8],[2],[2]]
def aA1:List (List Nat):=[[0],[0,3],[0,3,7],[0,3],[0,3,13],[2],[2]]
def aA2:List (List Nat):=[[0,1],[0,1,9],[4],[0,1,5],[0,1,5,16],[0,1,5,6],[0,1,6,29],[4],[0,1,5],[0,5,33],[4],[0,5,43],[0,5,7],[0,5,7,55],[0,5,7],[0,5,7,62],[4],[4]]
def aA3:List (List Nat):=[[0,1],[4]]
def aA4:List (List Nat):=[[0,1],[1,5],[5,12],[4],[4]]
def aA5:List (List Nat):=[[0,1],[0,1,5],[0,1,5,9],[0,1,5],[0,1,5,17],[4],[4]]
def aA6:List (List Nat):=[[],[0]]
def aA7:List (List Nat):=[[0],[3],[3,4],[2],[3,6],[2],[3,8],[3,8],[2],[3,11],[3,11],[3,11],[3,11],[3,11],[3,11],[2],[3,18],[2],[3,20],[3,20],[2],[3,23],[3,23],[3,23],[2],[27],[2],[2]]
def aA8:List (List Nat):=[[],[0]]
def aA9:List (List Nat):=[[],[0]]
def aBa:List (List Nat):=[[0],[5],[5,6],[2,3],[5,8],[2,3],[5,10],[2,3],[5,12],[2,3],[5,14],[2,3],[5,16],[2,3],[18],[2,3],[2,3]]
def aBb:List (List Nat):=[[0],[2]]
def aBd:List (List Nat):=[[0,1],[0,1,6],[0,1,6,7],[0,1,6,7,8],[0,1,6,7,8,9],[0,1,6,7,8,9,15],[0,1,6,7,8,9],[0,1,6,7,8,9,10],[0,1,6,7,8,9,10,56],[0,1,6,8,9,10],[0,1,6,7,8,9],[4,5]]
def aBe:List (List Nat):=[[1,3,5],[3,5,7],[3,5,7,8],[3,5,7,8,20],[6],[3,5,7,24],[3,5,7,24,25],[6],[3,5,7,24,34],[6],[3,5,7,24,43],[6],[3,5,7,24,52],[6],[3,5,7,24,65],[6],[3,5,7,24,78],[3,5,7,9],[6],[3,5,7,24,102],[6],[3,5,7,24,116],[6],[3,5,7,132],[3,7,10],[3,7,10,146],[7,10],[7,10],[6],[6]]
def aBf:List (List Nat):=[[0],[0,5,6],[0,5,6,7],[0,3,5,6],[0,5,6,14],[2],[0,5,6],[2]]
def aBg:List (List Nat):=[[0],[3],[3,8],[2],[2]]
def aBh:List (List Nat):=[[0,1],[4]]
def aBi:List (List Nat):=[[0,1],[0,1,17],[4],[0,1,5],[0,5,6],[0,5,6,27],[0,5,6,7],[0,6,7],[0,5,6],[0,5,40],[4],[0,5,8],[0,5,49],[0,5,9],[0,5,9,10],[0,5,9,60],[0,5,9],[5,9,11],[5,11,68],[4],[4]]
def aBj:List (List Nat):=[[0,1],[4]]
def aBk:List (List Nat):=[[0,1],[1,5],[5,12],[4],[4]]
def aBl:List (List Nat):=[[0,1],[0,1,7,8],[0,1,7,8,9],[0,1,5,7,8],[0,1,5,7,8,16],[4],[0,1,7,8],[4]]
def aBm:List (List Nat):=[[0],[2]]
def aBn:List (List Nat):=[[0],[2]]
def aBo:List (List Nat):=[[1,3,5,6],[1,3,5,6,24],[6],[1,3,5,6,39],[6],[1,3,5,6,7],[1,3,5,6,7,53],[6,7],[1,3,5,6,7,53,75],[1,3,5,6,7,53,75],[1,3,5,6,7,53,75],[1,3,5,6,7,75],[6]]
def aBp:List (List Nat):=[[1,2],[4]]
def aBq:List (List Nat):=[[0,2,5,7],[0,2,7,8,9],[0,2,8,9,10],[0,9,10,24],[],[]]
def aBr:List (List Nat):=[[2,3],[2,3,31],[4],[2,3,5,6],[2,3,6,44],[4],[2,3,51],[4],[2,3,63],[4],[2,3,72],[4],[2,8],[4]]
def aBs:List (List Nat):=[[0,2],[2]]
def aBt:List (List Nat):=[[0],[2]]
def aBu:List (List Nat):=[[0,1],[0,1,8],[0,1],[4]]
def aBv:List (List Nat):=[[0,1],[0,1,12],[4],[4]]
def aBw:List (List Nat):=[[0,1,2],[0,1,2,12],[6],[0,2,7],[0,2,7,18],[0,2,7],[0,2,7,24],[0,2,7,24,25],[6],[0,2,7,24,30],[6],[0,2,7,32],[0,2,7],[0,2,7,39],[6],[6]]
def aBx:List (List Nat):=[[0],[2]]
def aBy:List (List Nat):=[[2,3,4,5],[3,9],[8]]
def aBz:List (List Nat):=[[1,2],[4]]
def aBA:List (List Nat):=[[1,2],[1,2,5],[1,2,5,6],[1,2,5,6,11],[1,2,5,6],[1,2,5,6,15],[1,2,5,6],[1,2,5,6],[4]]
def aBB:List (List Nat):=[[3,4,5],[3,4,5,7],[3,4,5,7,19],[3,4,5,7],[3,4,5,7],[3,4,5,7],[6],[3,4,5,7,52],[3,4,5,7],[6]]
def aBC:List (List Nat):=[[0],[2]]
def aBD:List (List Nat):=[[0],[2]]
def aBE:List (List Nat):=[[0,1],[0,1,8],[0,1],[4]]
def aBF:List (List Nat):=[[0,1],[0,1,10],[4],[4]]
def aBG:List (List Nat):=[[0,1,2],[0,1,2,12],[6],[0,2,7],[0,2,7,24],[0,2,7],[0,2,7,27],[6],[0,2,7,36],[0,2,7],[6]]
def aBH:List (List Nat):=[[0,1],[4]]
def aBI:List (List Nat):=[[1,2],[1,2,6],[1,2,6,7],[10],[4],[4],[1,2,6,11],[14],[4],[4],[1,2,6,15],[4],[1,2,6,17],[4],[1,2,19],[4],[4]]
def aBJ:List (List Nat):=[[0,4,5],[0,4,5,6],[0,4,5,6,13],[0,6],[0,4,5,6,13,18],[0,6],[0,4,5,6,13,26],[0,6],[0,4,5,6,13,34],[0,6],[0,4,5,6,13,42],[0,6],[0,4,5,6,13,50],[0,4,5,6],[0,6],[0,4,5,6,13,62],[0,4,5,6],[0,6],[0,4,5,6,74],[0,4,5,6],[0,6],[]]
def aBK:List (List Nat):=[[0,4,5],[0,4,5,6],[0,4,5,6,7],[0,4,5,6,7,17],[0,4,5,7],[0,4,5,27],[],[0,4],[0],[]]
def aBL:List (List Nat):=[[0,1],[0,1,15],[4,5],[0,1,6,7],[0,1,6,7,16,17],[0,1,6,7,16,17,18],[0,1,6,7,8,9,16,17],[0,1,6,7,8,9,16,17,31],[0,1,6,7,16,17],[0,1,6,7,16,17],[4,5]]
def aBM:List (List Nat):=[[0],[2]]
def aBN:List (List Nat):=[[0,1],[4]]
def aBO:List (List Nat):=[[0,1],[0,1],[1,8],[1,5,6],[1,8,9],[1,5,6],[1,8,11],[1,5,6],[1,8,13],[1,5,6],[1,8,15],[1,5,6],[1,8,17],[1,5,6],[1,8,19],[1,5,6],[1,21],[1,5,6],[5,6,24],[4],[4]]
def aBP:List (List Nat):=[[0,2,3,6,9],[0,3,6,9],[0,3,6,9,18,19],[0,3,6,9,18,19,20],[0,3,6,9,10,18,19],[0,3,6,9,10,18,19,23],[0,3,6,9,10,18,19],[0,3,6,9,18,19],[0,3,6,9,18,19],[]]
def aBQ:List (List Nat):=[[0,4,5],[0,4,5,7],[0,4,5],[0,4,5,14],[0,4,5],[],[0,4,5,7,25],[0,4,5,7,25],[0,4,5],[],[0,4,5,7,38],[0,4,5],[],[0,4,5,7,48],[0,4],[],[0,4,5,7,60],[0,4,5,65],[0,4],[0,4],[],[0,4,5,81],[0,4,5],[0,4,5],[0,4,5],[0,4,5],[]]
def aBR:List (List (List Nat)):=[[],[],[],kp3,[],[],[],[],[],kp9,aKC,aKD,aKE,aKF,aKG,aKH,aKI,aKJ,[],[],[],[],[],[],[],[],[],[],aKK,aKL,aKM,aKN,aKO,aKP,aKQ,aKR,aKS,aKT,aKU,aKV,aKW,aKX,aKY,[],[],aKZ,[],[],aK1,[],aK2,aK3,aK4,[],[],aK5,aK6,[],[],aK7,aK8,aK9,aLa,aLb,aLc,aLd,aLe,aLf,aLg,aLh,aLi,aLj,aLk,aLl,aLm,aLn,aLo,aLp,aLq,aLr,aLs,aLt,aLu,aLv,aLw,aLx,aLy,aLz,aLA,aLB,aLC,[],[],aLD,[],[],aLE,aLF,aLG,aLH,az7,[],[],[],az8,az9,aAa,aAb,aAc,aAd,aAe,aAf,aAg,aAh,aAi,aAj,aAk,aAl,aAm,aAn,aAo,aAp,aAq,aAr,aAs,aAt,aAu,aAv,[],[],[],[],[],[],[],[],[],[],[],aAw,aAx,aAy,[],[],aAz,aAA,aAB,aAC,aAD,aAE,aAF,aAG,aAH,aAI,aAJ,aAK,aAL,aAM,aAN,[],aAO,aAP,aAQ,aAR,aAS,aAT,aAU,[],[],[],[],[],[],[],aAV,aAW,aAX,aAY,[],[],[],[],[],[],aAZ,aA0,aA1,aA2,aA3,aA4,aA5,aA6,aA7,aA8,aA9,aBa,aBb,aBd,aBe,[],aBf,aBg,aBh,aBi,aBj,aBk,aBl,[],[],aBm,aBn,aBo,aBp,aBq,aBr,aBs,[],[],[],[],[],[],aBt,aBu,aBv,aBw,aBx,aBy,aBz,aBA,aBB,aBC,aBD,aBE,aBF,aBG,[],aBH,[],aBI,aBJ,aBK,aBL,[],[],[],[],[],[],[],aBM,[],[],aBN,aBO,[],aBP,aBQ,[],[],[],[],[],[],[],[],[],[],[],[],[],[],[],[],[],[],[],[],[],[],[],[],[],[],[],[],[],[]]
def aLI:List (List Nat):=[[],[],[],[],[],[],[],[],[],[],[],[],[],[],[],[0],[0],[],[],[],[],[],[],[],[],[],[],[],[],[],[],[],[],[],[],[],[],[],[],[],[],[0]]
def aBS:List (List Nat):=[[],[],[],[],[],[],[],[],[],[],[],[],[],[],[],[],[],[],[],[],[],[],[],[],[],[],[],[],[],[],[],[],[],[],[],[],[],[],[],[],[],[],[],[],[],[],[],[],[],[],[],[],[],[],[],[],[0],[],[],[],[],[],[],[],[],[],[],[],[],[],[],[],[],[],[],[],[],[],[],[],[],[],[],[],[],[],[],[],[],[1]]
def aBT:List (List Nat):=[[],[],[],[],[],[],[],[],[],[],[],[],[],[],[],[0,0,0,0,0,0,0,0,0,0,0,0,5],[0,0,0,0,0,0,0,0,0,0,5]]
def aLJ(f d:Nat):List Nat:=bif Nat.beq f 177 && Nat.beq d 30 then[] else bif Nat.beq f 177 && Nat.beq d 28 then[] else bif Nat.beq f 177 && Nat.beq d 25 then[] else bif Nat.beq f 176 && Nat.beq d 31 then[] else bif Nat.beq f 176 && Nat.beq d 24 then[] else bif Nat.beq f 141 && Nat.beq d 172 then[] else bif Nat.beq f 141 && Nat.beq d 169 then[] else bif Nat.beq f 141 && Nat.beq d 162 then[] else bif Nat.beq f 141 && Nat.beq d 161 then[] else bif Nat.beq f 141 && Nat.beq d 160 then[] else bif Nat.beq f 141 && Nat.beq d 157 then[] else bif Nat.beq f 141 && Nat.beq d 156 then[] else bif Nat.beq f 141 && Nat.beq d 136 then[] else bif Nat.beq f 141 && Nat.beq d 133 then[] else bif Nat.beq f 141 && Nat.beq d 122 then[] else bif Nat.beq f 141 && Nat.beq d 119 then[] else bif Nat.beq f 141 && Nat.beq d 116 then[] else bif Nat.beq f 141 && Nat.beq d 114 then[] else bif Nat.beq f 141 && Nat.beq d 110 then[] else bif Nat.beq f 141 && Nat.beq d 107 then[] else bif Nat.beq f 141 && Nat.beq d 105 then[] else bif Nat.beq f 141 && Nat.beq d 101 then[] else bif Nat.beq f 141 && Nat.beq d 98 then[] else bif Nat.beq f 141 && Nat.beq d 91 then[] else bif Nat.beq f 141 && Nat.beq d 89 then[] else bif Nat.beq f 141 && Nat.beq d 86 then[] else bif Nat.beq f 141 && Nat.beq d 85 then[] else bif Nat.beq f 141 && Nat.beq d 82 then[] else bif Nat.beq f 141 && Nat.beq d 81 then[] else bif Nat.beq f 141 && Nat.beq d 76 then[] else bif Nat.beq f 141 && Nat.beq d 71 then[] else bif Nat.beq f 141 && Nat.beq d 69 then[] else bif Nat.beq f 141 && Nat.beq d 66 then[] else bif Nat.beq f 141 && Nat.beq d 63 then[] else bif Nat.beq f 141 && Nat.beq d 61 then[] else bif Nat.beq f 141 && Nat.beq d 57 then[] else bif Nat.beq f 141 && Nat.beq d 52 then[] else bif Nat.beq f 141 && Nat.beq d 50 then[] else bif Nat.beq f 141 && Nat.beq d 47 then[] else bif Nat.beq f 141 && Nat.beq d 41 then[] else bif Nat.beq f 141 && Nat.beq d 39 then[] else bif Nat.beq f 141 && Nat.beq d 38 then[] else bif Nat.beq f 141 && Nat.beq d 35 then[] else bif Nat.beq f 141 && Nat.beq d 28 then[] else bif Nat.beq f 141 && Nat.beq d 26 then[] else bif Nat.beq f 141 && Nat.beq d 25 then[] else bif Nat.beq f 141 && Nat.beq d 22 then[] else bif Nat.beq f 141 && Nat.beq d 16 then[] else bif Nat.beq f 124 && Nat.beq d 11 then[] else bif Nat.beq f 124 && Nat.beq d 9 then[] else bif Nat.beq f 124 && Nat.beq d 7 then[] else bif Nat.beq f 124 && Nat.beq d 6 then[] else bif Nat.beq f 101 && Nat.beq d 54 then[] else bif Nat.beq f 101 && Nat.beq d 17 then[] else bif Nat.beq f 101 && Nat.beq d 49 then[] else bif Nat.beq f 101 && Nat.beq d 47 then[] else bif Nat.beq f 101 && Nat.beq d 40 then[] else bif Nat.beq f 101 && Nat.beq d 31 then[] else bif Nat.beq f 101 && Nat.beq d 29 then[] else bif Nat.beq f 97 && Nat.beq d 18 then[] else bif Nat.beq f 97 && Nat.beq d 16 then[] else bif Nat.beq f 97 && Nat.beq d 15 then[] else bif Nat.beq f 97 && Nat.beq d 12 then[] else bif Nat.beq f 97 && Nat.beq d 11 then[] else bif Nat.beq f 87 && Nat.beq d 38 then[] else bif Nat.beq f 87 && Nat.beq d 36 then[] else bif Nat.beq f 87 && Nat.beq d 31 then[] else bif Nat.beq f 87 && Nat.beq d 30 then[] else bif Nat.beq f 87 && Nat.beq d 25 then[] else bif Nat.beq f 87 && Nat.beq d 24 then[] else bif Nat.beq f 87 && Nat.beq d 19 then[] else bif Nat.beq f 87 && Nat.beq d 17 then[] else bif Nat.beq f 87 && Nat.beq d 16 then[] else bif Nat.beq f 87 && Nat.beq d 4 then[] else bif Nat.beq f 86 && Nat.beq d 28 then[] else bif Nat.beq f 86 && Nat.beq d 26 then[] else bif Nat.beq f 86 && Nat.beq d 25 then[] else bif Nat.beq f 86 && Nat.beq d 24 then[] else bif Nat.beq f 86 && Nat.beq d 23 then[] else bif Nat.beq f 86 && Nat.beq d 21 then[] else bif Nat.beq f 86 && Nat.beq d 17 then[] else bif Nat.beq f 86 && Nat.beq d 15 then[] else bif Nat.beq f 85 && Nat.beq d 30 then[] else bif Nat.beq f 85 && Nat.beq d 28 then[] else bif Nat.beq f 85 && Nat.beq d 23 then[] else bif Nat.beq f 85 && Nat.beq d 17 then[] else bif Nat.beq f 85 && Nat.beq d 15 then[] else bif Nat.beq f 85 && Nat.beq d 10 then[] else bif Nat.beq f 85 && Nat.beq d 9 then[] else bif Nat.beq f 85 && Nat.beq d 4 then[] else bif Nat.beq f 83 && Nat.beq d 35 then[] else bif Nat.beq f 83 && Nat.beq d 34 then[] else bif Nat.beq f 83 && Nat.beq d 33 then[] else bif Nat.beq f 83 && Nat.beq d 28 then[] else bif Nat.beq f 83 && Nat.beq d 20 then[] else bif Nat.beq f 83 && Nat.beq d 19 then[] else bif Nat.beq f 82 && Nat.beq d 19 then[] else bif Nat.beq f 82 && Nat.beq d 17 then[] else bif Nat.beq f 82 && Nat.beq d 12 then[] else bif Nat.beq f 82 && Nat.beq d 10 then[] else bif Nat.beq f 80 && Nat.beq d 52 then[] else bif Nat.beq f 80 && Nat.beq d 48 then[] else bif Nat.beq f 80 && Nat.beq d 38 then[] else bif Nat.beq f 80 && Nat.beq d 27 then[] else bif Nat.beq f 80 && Nat.beq d 25 then[] else bif Nat.beq f 80 && Nat.beq d 9 then[] else bif Nat.beq f 79 && Nat.beq d 5 then[] else bif Nat.beq f 54 && Nat.beq d 48 then[] else bif Nat.beq f 54 && Nat.beq d 46 then[] else bif Nat.beq f 54 && Nat.beq d 44 then[] else bif Nat.beq f 54 && Nat.beq d 35 then[] else bif Nat.beq f 54 && Nat.beq d 29 then[] else bif Nat.beq f 54 && Nat.beq d 24 then[] else bif Nat.beq f 54 && Nat.beq d 22 then[] else bif Nat.beq f 54 && Nat.beq d 17 then[] else bif Nat.beq f 54 && Nat.beq d 14 then[] else bif Nat.beq f 54 && Nat.beq d 12 then[] else bif Nat.beq f 54 && Nat.beq d 7 then[] else bif Nat.beq f 47 && Nat.beq d 16 then[] else bif Nat.beq f 35 && Nat.beq d 119 then[] else bif Nat.beq f 35 && Nat.beq d 116 then[] else bif Nat.beq f 35 && Nat.beq d 112 then[] else bif Nat.beq f 35 && Nat.beq d 110 then[] else bif Nat.beq f 35 && Nat.beq d 105 then[] else bif Nat.beq f 35 && Nat.beq d 94 then[] else bif Nat.beq f 35 && Nat.beq d 90 then[] else bif Nat.beq f 35 && Nat.beq d 88 then[] else bif Nat.beq f 35 && Nat.beq d 87 then[] else bif Nat.beq f 35 && Nat.beq d 82 then[] else bif Nat.beq f 35 && Nat.beq d 81 then[] else bif Nat.beq f 35 && Nat.beq d 76 then[] else bif Nat.beq f 35 && Nat.beq d 73 then[] else bif Nat.beq f 35 && Nat.beq d 71 then[] else bif Nat.beq f 35 && Nat.beq d 66 then[] else bif Nat.beq f 35 && Nat.beq d 65 then[] else bif Nat.beq f 35 && Nat.beq d 60 then[] else bif Nat.beq f 35 && Nat.beq d 57 then[] else bif Nat.beq f 35 && Nat.beq d 53 then[] else bif Nat.beq f 35 && Nat.beq d 51 then[] else bif Nat.beq f 35 && Nat.beq d 50 then[] else bif Nat.beq f 35 && Nat.beq d 47 then[] else bif Nat.beq f 35 && Nat.beq d 42 then[] else bif Nat.beq f 35 && Nat.beq d 32 then[] else bif Nat.beq f 35 && Nat.beq d 28 then[] else bif Nat.beq f 35 && Nat.beq d 24 then[] else bif Nat.beq f 35 && Nat.beq d 21 then[] else bif Nat.beq f 35 && Nat.beq d 18 then[] else bif Nat.beq f 35 && Nat.beq d 15 then[] else bif Nat.beq f 35 && Nat.beq d 11 then[] else bif Nat.beq f 21 && Nat.beq d 26 then[] else bif Nat.beq f 21 && Nat.beq d 21 then[] else bif Nat.beq f 21 && Nat.beq d 20 then[] else bif Nat.beq f 12 && Nat.beq d 19 then[] else List.range 200
def aBU:List (List Nat):=[[],[],[],[],[],[],[],[],[],[],[],[],[],[],[],[],[],[],[],[],[],[],[],[],[],[],[],[],[],[],[],[],[],[],[],[],[],[],[],[],[],[],[],[],[],[],[],[],[],[],[],[],[],[],[],[],[],[],[],[],[],[],[],[],[],[],[],[],[],[],[],[],[],[],[],[],[],[],[],[],[],[],[],[],[],[],[],[],[],[],[],[],[],[],[],[],[],[],[],[],[],[],[],[],[],[],[],[],[],[],[],[],[],[],[],[],[],[],[],[],[],[0,2],[],[],[],[],[],[],[],[],[],[],[],[],[],[],[],[],[],[],[],[],[],[],[],[],[],[],[],[],[],[],[],[],[],[],[],[],[],[],[],[],[],[],[],[],[],[],[],[],[],[],[],[],[],[],[],[],[],[],[],[],[0,1]]
def aLK:List (List Nat):=[]
def avX:List (List Nat):=[]
noncomputable def Jd:Adv:=⟨fun f r=>(aBR.getD f []).getD r [],fun f=>aBS.getD f [],fun f=>aLI.getD f [],aLJ,fun t=>(aBU.getD t []),fun f r=>(aBT.getD f []).getD r 0,fun f d=>mem? d (avX.getD f []),fun f=>aLK.getD f []⟩
noncomputable def X0:Ctx:=⟨Tryz.prog,Jd,fun f=>bif Nat.beq f 116 then some Prim.jI else bif Nat.beq f 202 then some Prim.strings_Contains else none,fun g=>bif Nat.beq g 2 then some MR else bif Nat.beq g 1 then some zG else bif Nat.beq g 0 then some GV else none,fun g=>bif Nat.beq g 3 then true else false⟩
abbrev S.zH:fH:=sg 60 [pL false 1,pI] [] (ρ:=Int) fun r=>([[D.int .i64 r]],[])
abbrev S.zI:fH:=sg 28 [iV [pI,pI,pS,pS,pL false 1],pI] [] (ρ:=Int) fun r=>([[D.int .i64 r]],[])
abbrev S.wC:fH:=sg 9 [pL false 5,pI] [] (ρ:=Int) fun r=>([[D.int .i64 r]],[])
abbrev S.zJ:fH:=sg 74 [pL false 1] [] (ρ:=ak) fun r=>([[D.sl true 1 r]],[])
abbrev S.zK:fH:=sg 32 [iV [pI,pI,pS,pS,pL false 1]] [] (ρ:=Int×Int×aF×aF×ak) fun r=>([[D.int .i64 r.1,D.int .i64 r.2.1,D.str r.2.2.1,D.str r.2.2.2.1,D.sl true 1 r.2.2.2.2]],[])
abbrev S.oJ:fH:=sg 11 [pL false 5] [] (ρ:=ak) fun r=>([[D.sl true 5 r]],[])
abbrev S.dL:fH:=sg 65 [pI,pI,pI] [] (ρ:=Bool) fun r=>([[D.bool r]],[])
abbrev S.x9:fH:=sg 104 [pL false 5] [] (ρ:=ak×Bool) fun r=>([[D.sl true 1 r.1],[D.bool r.2]],[])
abbrev S.qK:fH:=sg 61 [pL false 5] [] (ρ:=Bool) fun r=>([[D.bool r]],[])
abbrev S.wE:fH:=sg 62 [pL false 5] [] (ρ:=Int) fun r=>([[D.int .i64 r]],[])
abbrev S.aQ:fH:=sg 105 [iV [pI,pI,pS,pS,pL false 1]] [] (ρ:=Int×Int) fun r=>([[D.int .i64 r.1],[D.int .i64 r.2]],[])
abbrev S.wF:fH:=sg 144 [pI] [] (ρ:=Bool) fun r=>([[D.bool r]],[])
abbrev S.pW:fH:=sg 145 [pI] [] (ρ:=Bool) fun r=>([[D.bool r]],[])
abbrev S.aW:fH:=sg 106 [iV [pI,pI,pS,pS,pL false 1]] [] (ρ:=Bool) fun r=>([[D.bool r]],[])
abbrev S.nY:fH:=sg 222 [pI] [] (ρ:=Bool) fun r=>([[D.bool r]],[])
abbrev S.qL:fH:=sg 226 [pI] [] (ρ:=Bool) fun r=>([[D.bool r]],[])
abbrev S.jK:fH:=sg 196 [pI] [] (ρ:=Bool) fun r=>([[D.bool r]],[])
abbrev S.rE:fH:=sg 184 [pS] [] (ρ:=Bool) fun r=>([[D.bool r]],[])
abbrev S.tH:fH:=sg 193 [] [] (ρ:=ak) fun r=>([[D.sl true 1 r]],[])
abbrev S.uf:fH:=sg 190 [pL false 1,pS] [] (ρ:=Int) fun r=>([[D.int .i64 r]],[])
abbrev S.rF:fH:=sg 185 [pS] [] (ρ:=Int) fun r=>([[D.int .i64 r]],[])
abbrev S.sQ:fH:=sg 191 [] [] (ρ:=ak) fun r=>([[D.sl true 1 r]],[])
abbrev S.kG:fH:=sg 148 [pS] [] (ρ:=Bool) fun r=>([[D.bool r]],[])
abbrev S.ig:fH:=sg 146 [pS] [] (ρ:=Bool) fun r=>([[D.bool r]],[])
abbrev S.wG:fH:=sg 186 [pS] [] (ρ:=Bool) fun r=>([[D.bool r]],[])
abbrev S.fC:fH:=sg 224 [pS,pI] [] (ρ:=Int) fun r=>([[D.int .i64 r]],[])
abbrev S.aZ:fH:=sg 223 [pS,pI] [] (ρ:=Int) fun r=>([[D.int .i64 r]],[])
abbrev S.zL:fH:=sg 187 [pS,pI] [] (ρ:=Int) fun r=>([[D.int .i64 r]],[])
abbrev S.nZ:fH:=sg 225 [pS,pI,pI] [] (ρ:=Int) fun r=>([[D.int .i64 r]],[])
abbrev S.zM:fH:=sg 188 [pS,pI] [] (ρ:=Int) fun r=>([[D.int .i64 r]],[])
abbrev S.zN:fH:=sg 189 [pS,pI] [] (ρ:=Int) fun r=>([[D.int .i64 r]],[])
abbrev S.tJ:fH:=sg 194 [] [] (ρ:=ak) fun r=>([[D.sl true 1 r]],[])
abbrev S.jl:fH:=sg 152 [pI] [] (ρ:=aF) fun r=>([[D.str r]],[])
abbrev S.kU:fH:=sg 147 [iV [pI,pS,pI]] [] (ρ:=Bool) fun r=>([[D.bool r]],[])
abbrev S.aS:fH:=sg 107 [iV [pI,pI,pS,pS,pL false 1]] [] (ρ:=Bool) fun r=>([[D.bool r]],[])
abbrev S.ay:fH:=sg 63 [iV [pI,pI,pS,pS,pL false 1]] [] (ρ:=Bool) fun r=>([[D.bool r]],[])
abbrev S.og:fH:=sg 108 [pI] [] (ρ:=Bool) fun r=>([[D.bool r]],[])
abbrev S.iL:fH:=sg 109 [pI] [] (ρ:=Bool) fun r=>([[D.bool r]],[])
abbrev S.ug:fH:=sg 30 [pI] [] (ρ:=Bool) fun r=>([[D.bool r]],[])
abbrev S.aG:fH:=sg 64 [iV [pI,pI,pS,pS,pL false 1],pI,pI] [] (ρ:=Bool) fun r=>([[D.bool r]],[])
abbrev S.zO:fH:=sg 29 [pL false 5] [] (ρ:=Bool) fun r=>([[D.bool r]],[])
abbrev S.gJ:fH:=sg 45 [] [] (ρ:=Int×Bool×Bool×Bool×Bool) fun r=>([[D.int .i64 r.1,D.bool r.2.1,D.bool r.2.2.1,D.bool r.2.2.2.1,D.bool r.2.2.2.2]],[])
abbrev S.yc:fH:=sg 93 [iV [pI,pB,pB,pB,pB]] [] (ρ:=Bool) fun r=>([[D.bool r]],[])
abbrev S.qM:fH:=sg 192 [pI] [] (ρ:=Int) fun r=>([[D.int .i64 r]],[])
abbrev S.dU:fH:=sg 149 [iV [pI,pI,pS,pS,pL false 1]] [] (ρ:=Int) fun r=>([[D.int .i64 r]],[])
abbrev S.Bz:fH:=sg 110 [iV [pI,pI,pS,pS,pL false 1],iV [pI,pB,pB,pB,pB]] [] (ρ:=Bool) fun r=>([[D.bool r]],[])
abbrev S.dJ:fH:=sg 150 [iV [pI,pI,pS,pS,pL false 1]] [] (ρ:=Int×aF×Int) fun r=>([[D.int .i64 r.1,D.str r.2.1,D.int .i64 r.2.2]],[])
abbrev S.aJ:fH:=sg 68 [pS] [] (ρ:=ak) fun r=>([[D.sl true 4 r]],[])
abbrev S.oK:fH:=sg 113 [] [] (ρ:=ak) fun r=>([[D.sl true 4 r]],[])
abbrev S.oh:fH:=sg 100 [pL false 4,pI] [] (ρ:=ak) fun r=>([[D.sl true 4 r]],[])
abbrev S.aT:fH:=sg 52 [pI,pI,pL false 1] [] (ρ:=ak) fun r=>([[D.sl true 4 r]],[])
abbrev S.jd:fH:=sg 70 [iV [pL false 5,pB],pL false 1,iV [pI,pB,pB,pB,pB]] [] (ρ:=ak) fun r=>([[D.sl true 4 r]],[])
abbrev S.yg:fH:=sg 151 [iV [pL false 5,pB],iV [pI,pI,pS,pS,pL false 1],pS,pS] [] (ρ:=ak) fun r=>([[D.sl true 4 r]],[])
abbrev S.uP:fH:=sg 153 [iV [pL false 5,pB],pI] [] (ρ:=ak) fun r=>([[D.sl true 4 r]],[])
abbrev S.tN:fH:=sg 195 [pI] [] (ρ:=Int×Int) fun r=>([[D.int .i64 r.1],[D.int .i64 r.2]],[])
abbrev S.fD:fH:=sg 154 [iV [pI,pI,pS,pS,pL false 1],pI,iV [pI,pB,pB,pB,pB]] [] (ρ:=Int×Bool×Bool×Bool×Bool) fun r=>([[D.int .i64 r.1,D.bool r.2.1,D.bool r.2.2.1,D.bool r.2.2.2.1,D.bool r.2.2.2.2]],[])
abbrev S.dX:fH:=sg 156 [pI] [] (ρ:=Int×aF×Int) fun r=>([[D.int .i64 r.1,D.str r.2.1,D.int .i64 r.2.2]],[])
abbrev S.wH:fH:=sg 229 [iV [pL false 5,pB],pL false 1] [] (ρ:=ak) fun r=>([[D.sl true 3 r]],[])
abbrev S.yh:fH:=sg 227 [iV [pL false 5,pB],iV [pI,pS,pI],pL false 1,pI] [] (ρ:=ak) fun r=>([[D.sl true 3 r]],[])
abbrev S.uQ:fH:=sg 228 [iV [pL false 5,pB],pI] [] (ρ:=ak) fun r=>([[D.sl true 3 r]],[])
abbrev S.yj:fH:=sg 230 [iV [pL false 5,pB],iV [pI,pI,pS,pS,pL false 1],iV [pI,pB,pB,pB,pB]] [] (ρ:=ak) fun r=>([[D.sl true 3 r]],[])
abbrev S.wI:fH:=sg 198 [iV [pL false 5,pB],pI,iV [pI,pB,pB,pB,pB]] [] (ρ:=ak) fun r=>([[D.sl true 3 r]],[])
abbrev S.oL:fH:=sg 157 [iV [pL false 5,pB],pI,iV [pI,pB,pB,pB,pB]] [] (ρ:=ak) fun r=>([[D.sl true 3 r]],[])
abbrev S.qx:fH:=sg 197 [pS,pI] [] (ρ:=Int×Int) fun r=>([[D.int .i64 r.1],[D.int .i64 r.2]],[])
abbrev S.qN:fH:=sg 155 [iV [pI,pS,pI],iV [pI,pS,pI]] [] (ρ:=Bool) fun r=>([[D.bool r]],[])
abbrev S.Di:fH:=sg 158 [iV [pL false 5,pB],iV [pI,pI,pS,pS,pL false 1],iV [pI,pB,pB,pB,pB]] [] (ρ:=ak) fun r=>([[D.sl true 4 r]],[])
abbrev S.wJ:fH:=sg 111 [iV [pL false 5,pB],pI,iV [pI,pB,pB,pB,pB]] [] (ρ:=ak) fun r=>([[D.sl true 4 r]],[])
abbrev S.eH:fH:=sg 66 [iV [pL false 5,pB],pI,iV [pI,pB,pB,pB,pB]] [] (ρ:=ak) fun r=>([[D.sl true 4 r]],[])
abbrev S.uh:fH:=sg 67 [iV [pL false 5,pB],iV [pI,pI,pS,pS,pL false 1]] [] (ρ:=ak) fun r=>([[D.sl true 4 r]],[])
abbrev S.lX:fH:=sg 112 [iV [pL false 5,pB],pI] [] (ρ:=ak) fun r=>([[D.sl true 4 r]],[])
abbrev S.tV:fH:=sg 69 [iV [pL false 5,pB],pS,pL false 1] [] (ρ:=ak) fun r=>([[D.sl true 4 r]],[])
abbrev S.yt:fH:=sg 98 [iV [pL false 5,pB],iV [pI,pI,pS,pS,pL false 1]] [] (ρ:=ak) fun r=>([[D.sl true 4 r]],[])
abbrev S.zZ:fH:=sg 99 [iV [pL false 5,pB],iV [pI,pI,pS,pS,pL false 1]] [] (ρ:=ak) fun r=>([[D.sl true 4 r]],[])
abbrev S.wL:fH:=sg 50 [iV [pL false 5,pB],pI] [] (ρ:=ak) fun r=>([[D.sl true 4 r]],[])
abbrev S.Aa:fH:=sg 115 [iV [pL false 5,pB],pL false 1] [] (ρ:=ak) fun r=>([[D.sl true 1 r]],[])
abbrev S.qO:fH:=sg 51 [] [] (ρ:=ak) fun r=>([[D.sl true 4 r]],[])
abbrev S.uj:fH:=sg 114 [pL false 1] [] (ρ:=ak) fun r=>([[D.sl true 4 r]],[])
abbrev S.kP:fH:=sg 72 [iV [pL false 5,pB],pI] [] (ρ:=ak) fun r=>([[D.sl true 4 r]],[])
abbrev S.Gv:fH:=sg 71 [iV [pL false 5,pB],iV [pI,pI,pS,pS,pL false 1]] [] (ρ:=ak) fun r=>([[D.sl true 4 r]],[])
abbrev S.Dj:fH:=sg 73 [iV [pL false 5,pB],iV [pI,pI,pS,pS,pL false 1]] [] (ρ:=ak) fun r=>([[D.sl true 4 r]],[])
abbrev S.oM:fH:=sg 31 [iV [pL false 5,pB],pI] [] (ρ:=ak) fun r=>([[D.sl true 4 r]],[])
abbrev S.wM:fH:=sg 10 [pL false 5] [] (ρ:=ak) fun r=>([[D.sl true 4 r]],[])
abbrev S.jI:fH:=sg 116 [pL false 5] [] (ρ:=ak×Bool) fun r=>([[D.sl true 1 r.1],[D.bool r.2]],[])
abbrev S.wO:fH:=sg 75 [pL false 5] [] (ρ:=Bool) fun r=>([[D.bool r]],[])
abbrev S.dV:fH:=sg 59 [pI,pI,pI] [] (ρ:=Bool) fun r=>([[D.bool r]],[])
abbrev S.bK:fH:=sg 117 [pI] [] (ρ:=Bool) fun r=>([[D.bool r]],[])
abbrev S.oq:fH:=sg 232 [pI] [] (ρ:=Bool) fun r=>([[D.bool r]],[])
abbrev S.qP:fH:=sg 250 [pI] [] (ρ:=Bool) fun r=>([[D.bool r]],[])
abbrev S.jL:fH:=sg 231 [pI] [] (ρ:=Bool) fun r=>([[D.bool r]],[])
abbrev S.rG:fH:=sg 200 [pS] [] (ρ:=Bool) fun r=>([[D.bool r]],[])
abbrev S.slices_Index:fH:=sg 206 [pL false 1,pS] [] (ρ:=Int) fun r=>([[D.int .i64 r]],[])
abbrev S.rH:fH:=sg 201 [pS] [] (ρ:=Int) fun r=>([[D.int .i64 r]],[])
abbrev S.slices_Contains:fH:=sg 166 [pL false 1,pS] [] (ρ:=Bool) fun r=>([[D.bool r]],[])
abbrev S.lq:fH:=sg 162 [pS] [] (ρ:=Bool) fun r=>([[D.bool r]],[])
abbrev S.jE:fH:=sg 160 [pS] [] (ρ:=Bool) fun r=>([[D.bool r]],[])
abbrev S.strings_Contains:fH:=sg 202 [pS,pS] [] (ρ:=Bool) fun r=>([[D.bool r]],[])
abbrev S.jF:fH:=sg 234 [pS,pI] [] (ρ:=Int) fun r=>([[D.int .i64 r]],[])
abbrev S.eP:fH:=sg 233 [pS,pI] [] (ρ:=Int) fun r=>([[D.int .i64 r]],[])
abbrev S.zQ:fH:=sg 203 [pS,pI] [] (ρ:=Int) fun r=>([[D.int .i64 r]],[])
abbrev S.mY:fH:=sg 235 [pS,pI,pI] [] (ρ:=Int) fun r=>([[D.int .i64 r]],[])
abbrev S.zS:fH:=sg 204 [pS,pI] [] (ρ:=Int) fun r=>([[D.int .i64 r]],[])
abbrev S.zT:fH:=sg 205 [pS,pI] [] (ρ:=Int) fun r=>([[D.int .i64 r]],[])
abbrev S.nK:fH:=sg 209 [pI] [] (ρ:=Bool) fun r=>([[D.bool r]],[])
abbrev S.iH:fH:=sg 210 [pI] [] (ρ:=Bool) fun r=>([[D.bool r]],[])
abbrev S.iy:fH:=sg 175 [pI] [] (ρ:=aF) fun r=>([[D.str r]],[])
abbrev S.ny:fH:=sg 161 [iV [pI,pS,pI]] [] (ρ:=Bool) fun r=>([[D.bool r]],[])
abbrev S.dA:fH:=sg 163 [pI] [] (ρ:=Bool) fun r=>([[D.bool r]],[])
abbrev S.lJ:fH:=sg 164 [pI] [] (ρ:=Int) fun r=>([[D.int .i64 r]],[])
abbrev S.um:fH:=sg 165 [pI] [] (ρ:=Bool) fun r=>([[D.bool r]],[])
abbrev S.bQ:fH:=sg 118 [iV [pI,pI,pS,pS,pL false 1]] [] (ρ:=Bool×Bool×Bool×Int×Int) fun r=>([[D.bool r.1,D.bool r.2.1,D.bool r.2.2.1,D.int .i64 r.2.2.2.1,D.int .i64 r.2.2.2.2]],[])
abbrev S.cO:fH:=sg 34 [pI] [] (ρ:=Bool) fun r=>([[D.bool r]],[])
abbrev S.bT:fH:=sg 119 [iV [pI,pI,pS,pS,pL false 1]] [] (ρ:=Bool×Bool×Bool×Int×Int) fun r=>([[D.bool r.1,D.bool r.2.1,D.bool r.2.2.1,D.int .i64 r.2.2.2.1,D.int .i64 r.2.2.2.2]],[])
abbrev S.bU:fH:=sg 120 [iV [pI,pI,pS,pS,pL false 1]] [] (ρ:=Bool×Bool×Bool×Int×Int) fun r=>([[D.bool r.1,D.bool r.2.1,D.bool r.2.2.1,D.int .i64 r.2.2.2.1,D.int .i64 r.2.2.2.2]],[])
abbrev S.bM:fH:=sg 76 [iV [pI,pI,pS,pS,pL false 1]] [] (ρ:=Bool) fun r=>([[D.bool r]],[])
abbrev S.ou:fH:=sg 121 [pI] [] (ρ:=Bool) fun r=>([[D.bool r]],[])
abbrev S.zU:fH:=sg 122 [pI] [] (ρ:=Bool) fun r=>([[D.bool r]],[])
abbrev S.dh:fH:=sg 77 [iV [pI,pI,pS,pS,pL false 1],pI,pI] [] (ρ:=Bool) fun r=>([[D.bool r]],[])
abbrev S.nP:fH:=sg 88 [pL false 5,pI] [] (ρ:=Int×Int×aF×aF×ak) fun r=>([[D.int .i64 r.1,D.int .i64 r.2.1,D.str r.2.2.1,D.str r.2.2.2.1,D.sl true 5 r.2.2.2.2]],[])
abbrev S.rJ:fH:=sg 36 [pL false 5] [] (ρ:=Int×Int×aF×aF×ak) fun r=>([[D.int .i64 r.1,D.int .i64 r.2.1,D.str r.2.2.1,D.str r.2.2.2.1,D.sl true 5 r.2.2.2.2]],[])
abbrev S.kC:fH:=sg 78 [iV [pI,pI,pS,pS,pL false 5]] [] (ρ:=Int) fun r=>([[D.int .i64 r]],[])
abbrev S.zV:fH:=sg 33 [pL false 5] [] (ρ:=Bool) fun r=>([[D.bool r]],[])
abbrev S.qo:fH:=sg 48 [] [] (ρ:=Int×Bool×Bool×Bool×Bool) fun r=>([[D.int .i64 r.1,D.bool r.2.1,D.bool r.2.2.1,D.bool r.2.2.2.1,D.bool r.2.2.2.2]],[])
abbrev S.jB:fH:=sg 140 [iV [pI,pI,pS,pS,pL false 5]] [] (ρ:=Int×Int×aF×aF×ak) fun r=>([[D.int .i64 r.1,D.int .i64 r.2.1,D.str r.2.2.1,D.str r.2.2.2.1,D.sl true 1 r.2.2.2.2]],[])
abbrev S.lY:fH:=sg 174 [iV [pI,pI,pS,pS,pL false 1]] [] (ρ:=Int) fun r=>([[D.int .i64 r]],[])
abbrev S.yu:fH:=sg 96 [iV [pI,pB,pB,pB,pB]] [] (ρ:=Bool) fun r=>([[D.bool r]],[])
abbrev S.BA:fH:=sg 139 [iV [pI,pI,pS,pS,pL false 1],iV [pI,pB,pB,pB,pB]] [] (ρ:=Bool) fun r=>([[D.bool r]],[])
abbrev S.bI:fH:=sg 81 [pS] [] (ρ:=Int×Int×aF×ak×Int) fun r=>([[D.int .i64 r.1,D.int .i64 r.2.1,D.str r.2.2.1,D.sl true 5 r.2.2.2.1,D.int .i64 r.2.2.2.2]],[])
abbrev S.rY:fH:=sg 125 [] [] (ρ:=Int×Int×aF×ak×Int) fun r=>([[D.int .i64 r.1,D.int .i64 r.2.1,D.str r.2.2.1,D.sl true 5 r.2.2.2.1,D.int .i64 r.2.2.2.2]],[])
abbrev S.Dk:fH:=sg 84 [pI] [] (ρ:=Int×Bool×Bool×Bool×Bool) fun r=>([[D.int .i64 r.1,D.bool r.2.1,D.bool r.2.2.1,D.bool r.2.2.2.1,D.bool r.2.2.2.2]],[])
abbrev S.dI:fH:=sg 56 [pL true 5] [] (ρ:=Int×Int×aF×ak×Int) fun r=>([[D.int .i64 r.1,D.int .i64 r.2.1,D.str r.2.2.1,D.sl true 5 r.2.2.2.1,D.int .i64 r.2.2.2.2]],[])
abbrev S.pq:fH:=sg 127 [iV [pI,pI,pS,pL false 5,pI]] [] (ρ:=Int×Int×aF×ak×Int) fun r=>([[D.int .i64 r.1,D.int .i64 r.2.1,D.str r.2.2.1,D.sl true 5 r.2.2.2.1,D.int .i64 r.2.2.2.2]],[])
abbrev S.oN:fH:=sg 126 [iV [pI,pI,pS,pL false 5,pI]] [] (ρ:=Int×Int×aF×ak×Int) fun r=>([[D.int .i64 r.1,D.int .i64 r.2.1,D.str r.2.2.1,D.sl true 5 r.2.2.2.1,D.int .i64 r.2.2.2.2]],[])
abbrev S.nC:fH:=sg 83 [pL false 5,atz 84 [] []] [] (ρ:=Int×Int×aF×ak×Int) fun r=>([[D.int .i64 r.1,D.int .i64 r.2.1,D.str r.2.2.1,D.sl false 5 r.2.2.2.1,D.int .i64 r.2.2.2.2]],[])
abbrev S.uo:fH:=sg 254 [pI,pI] [] (ρ:=Int) fun r=>([[D.int .i64 r]],[])
abbrev S.qQ:fH:=sg 239 [iV [pI,pI,pS,pS,pL false 1],pI] [] (ρ:=Int) fun r=>([[D.int .i64 r]],[])
abbrev S.uq:fH:=sg 211 [iV [pI,pI,pS,pS,pL false 1],pI,iV [pI,pB,pB,pB,pB]] [] (ρ:=Int×Bool×Bool×Bool×Bool) fun r=>([[D.int .i64 r.1,D.bool r.2.1,D.bool r.2.2.1,D.bool r.2.2.2.1,D.bool r.2.2.2.2]],[])
abbrev S.oz:fH:=sg 212 [iV [pI,pI,pS,pS,pL false 1],pI] [] (ρ:=Bool) fun r=>([[D.bool r]],[])
abbrev S.zW:fH:=sg 176 [iV [pI,pI,pS,pS,pL false 5],pI,iV [pI,pB,pB,pB,pB]] [] (ρ:=Int×Int×aF×ak×Int) fun r=>([[D.int .i64 r.1,D.int .i64 r.2.1,D.str r.2.2.1,D.sl false 5 r.2.2.2.1,D.int .i64 r.2.2.2.2]],[])
abbrev S.bZ:fH:=sg 255 [pP 100000 0,pL false 3] [cB 182 [pL true 3,pL true 2,pB]] (ρ:=ak×ak×Bool) fun r=>([],[Cell.box 182 [V.d (D.sl true 3 r.1),V.d (D.sl true 2 r.2.1),V.d (D.bool r.2.2)]])
abbrev S.iY:fH:=sg 215 [pI] [] (ρ:=Int×aF×Int) fun r=>([[D.int .i64 r.1,D.str r.2.1,D.int .i64 r.2.2]],[])
abbrev S.mO:fH:=sg 256 [pP 100000 0,iV [pI,pI,pS,pS,pL false 5],pI,pI,iV [pI,pB,pB,pB,pB]] [cB 182 [pL true 3,pL true 2,pB]] (ρ:=ak×ak×Bool) fun r=>([],[Cell.box 182 [V.d (D.sl true 3 r.1),V.d (D.sl true 2 r.2.1),V.d (D.bool r.2.2)]])
abbrev S.lH:fH:=sg 257 [pP 100000 0,iV [pI,pI,pS,pS,pL false 5],iV [pI,pB,pB,pB,pB]] [cB 182 [pL true 3,pL true 2,pB]] (ρ:=ak×ak×Bool) fun r=>([],[Cell.box 182 [V.d (D.sl true 3 r.1),V.d (D.sl true 2 r.2.1),V.d (D.bool r.2.2)]])
abbrev S.mP:fH:=sg 240 [pP 100000 0,iV [pI,pI,pS,pS,pL false 5],iV [pI,pB,pB,pB,pB]] [cB 182 [pL true 3,pL true 2,pB]] (ρ:=ak×ak×Bool) fun r=>([],[Cell.box 182 [V.d (D.sl true 3 r.1),V.d (D.sl true 2 r.2.1),V.d (D.bool r.2.2)]])
abbrev S.oO:fH:=sg 241 [pP 100000 0,iV [pI,pI,pS,pS,pL false 5],iV [pI,pB,pB,pB,pB]] [cB 182 [pL true 3,pL true 2,pB]] (ρ:=ak×ak×Bool) fun r=>([],[Cell.box 182 [V.d (D.sl true 3 r.1),V.d (D.sl true 2 r.2.1),V.d (D.bool r.2.2)]])
abbrev S.jv:fH:=sg 213 [pP 100000 0,iV [pI,pI,pS,pS,pL false 5],pI,iV [pI,pB,pB,pB,pB]] [cB 182 [pL true 3,pL true 2,pB]] (ρ:=ak×ak×Bool) fun r=>([],[Cell.box 182 [V.d (D.sl true 3 r.1),V.d (D.sl true 2 r.2.1),V.d (D.bool r.2.2)]])
abbrev S.iO:fH:=sg 253 [pS,pS] [] (ρ:=Bool) fun r=>([[D.bool r]],[])
abbrev S.strings_HasPrefix:fH:=sg 237 [pS,pS] [] (ρ:=Bool) fun r=>([[D.bool r]],[])
abbrev S.qy:fH:=sg 242 [pS,pI] [] (ρ:=Int×Int) fun r=>([[D.int .i64 r.1],[D.int .i64 r.2]],[])
abbrev S.qR:fH:=sg 214 [iV [pI,pS,pI],iV [pI,pS,pI]] [] (ρ:=Bool) fun r=>([[D.bool r]],[])
abbrev S.yw:fH:=sg 177 [iV [pI,pI,pS,pS,pL false 5],iV [pI,pB,pB,pB,pB]] [] (ρ:=Int×Int×aF×ak×Int) fun r=>([[D.int .i64 r.1,D.int .i64 r.2.1,D.str r.2.2.1,D.sl false 5 r.2.2.2.1,D.int .i64 r.2.2.2.2]],[])
abbrev S.wP:fH:=sg 141 [iV [pI,pI,pS,pS,pL false 5],iV [pI,pB,pB,pB,pB]] [] (ρ:=Int×Int×aF×ak×Int) fun r=>([[D.int .i64 r.1,D.int .i64 r.2.1,D.str r.2.2.1,D.sl false 5 r.2.2.2.1,D.int .i64 r.2.2.2.2]],[])
abbrev S.gV:fH:=sg 97 [iV [pI,pI,pS,pS,pL false 5],iV [pI,pB,pB,pB,pB]] [] (ρ:=Int×Int×aF×ak×Int) fun r=>([[D.int .i64 r.1,D.int .i64 r.2.1,D.str r.2.2.1,D.sl false 5 r.2.2.2.1,D.int .i64 r.2.2.2.2]],[])
abbrev S.mQ:fH:=sg 79 [iV [pI,pI,pS,pS,pL false 5]] [] (ρ:=Int×Int×aF×ak×Int) fun r=>([[D.int .i64 r.1,D.int .i64 r.2.1,D.str r.2.2.1,D.sl false 5 r.2.2.2.1,D.int .i64 r.2.2.2.2]],[])
abbrev S.nR:fH:=sg 123 [pI] [] (ρ:=Int×Bool×Bool×Bool×Bool) fun r=>([[D.int .i64 r.1,D.bool r.2.1,D.bool r.2.2.1,D.bool r.2.2.2.1,D.bool r.2.2.2.2]],[])
abbrev S.oP:fH:=sg 83 [pL false 5,atz 123 [] []] [] (ρ:=Int×Int×aF×ak×Int) fun r=>([[D.int .i64 r.1,D.int .i64 r.2.1,D.str r.2.2.1,D.sl false 5 r.2.2.2.1,D.int .i64 r.2.2.2.2]],[])
abbrev S.uw:fH:=sg 80 [iV [pI,pI,pS,pS,pL false 5]] [] (ρ:=Int×Int×aF×ak×Int) fun r=>([[D.int .i64 r.1,D.int .i64 r.2.1,D.str r.2.2.1,D.sl false 5 r.2.2.2.1,D.int .i64 r.2.2.2.2]],[])
abbrev S.nS:fH:=sg 124 [iV [pI,pI,pS,pS,pL false 5]] [] (ρ:=Int×Int×aF×ak×Int) fun r=>([[D.int .i64 r.1,D.int .i64 r.2.1,D.str r.2.2.1,D.sl false 5 r.2.2.2.1,D.int .i64 r.2.2.2.2]],[])
abbrev S.tX:fH:=sg 82 [pS,iV [pI,pI,pS,pS,pL false 5]] [] (ρ:=Int×Int×aF×ak×Int) fun r=>([[D.int .i64 r.1,D.int .i64 r.2.1,D.str r.2.2.1,D.sl false 5 r.2.2.2.1,D.int .i64 r.2.2.2.2]],[])
abbrev S.DV:fH:=sg 55 [] [] (ρ:=Int×Int×aF×ak×Int) fun r=>([[D.int .i64 r.1,D.int .i64 r.2.1,D.str r.2.2.1,D.sl true 5 r.2.2.2.1,D.int .i64 r.2.2.2.2]],[])
abbrev S.qU:fH:=sg 86 [iV [pI,pI,pS,pS,pL false 5]] [] (ρ:=Int×Int×aF×ak×Int) fun r=>([[D.int .i64 r.1,D.int .i64 r.2.1,D.str r.2.2.1,D.sl false 5 r.2.2.2.1,D.int .i64 r.2.2.2.2]],[])
abbrev S.uS:fH:=sg 85 [iV [pI,pI,pS,pS,pL false 5]] [] (ρ:=Int×Int×aF×ak×Int) fun r=>([[D.int .i64 r.1,D.int .i64 r.2.1,D.str r.2.2.1,D.sl false 5 r.2.2.2.1,D.int .i64 r.2.2.2.2]],[])
abbrev S.Ac:fH:=sg 87 [iV [pI,pI,pS,pS,pL false 5]] [] (ρ:=Int×Int×aF×ak×Int) fun r=>([[D.int .i64 r.1,D.int .i64 r.2.1,D.str r.2.2.1,D.sl false 5 r.2.2.2.1,D.int .i64 r.2.2.2.2]],[])
abbrev S.nD:fH:=sg 35 [iV [pI,pI,pS,pS,pL false 5]] [] (ρ:=Int×Int×aF×ak×Int) fun r=>([[D.int .i64 r.1,D.int .i64 r.2.1,D.str r.2.2.1,D.sl false 5 r.2.2.2.1,D.int .i64 r.2.2.2.2]],[])
abbrev S.nG:fH:=sg 89 [iV [pI,pI,pS,pL false 5,pI],pL true 4] [] (ρ:=ak) fun r=>([[D.sl true 4 r]],[])
abbrev S.uy:fH:=sg 37 [iV [pI,pI,pS,pL false 5,pI]] [] (ρ:=ak) fun r=>([[D.sl true 4 r]],[])
abbrev S.tY:fH:=sg 12 [pL false 5] [] (ρ:=ak) fun r=>([[D.sl true 4 r]],[])
abbrev S.uz:fH:=sg 90 [pL false 1,pL false 1] [] (ρ:=Bool) fun r=>([[D.bool r]],[])
abbrev S.wQ:fH:=sg 38 [iV [pI,pI,pS,pL false 1],iV [pI,pI,pS,pL false 1]] [] (ρ:=Bool) fun r=>([[D.bool r]],[])
abbrev S.oC:fH:=sg 13 [pL false 4,pL false 4] [] (ρ:=Bool) fun r=>([[D.bool r]],[])
abbrev S.zX:fH:=sg 39 [iV [pI,pI,pS,pS,pL false 1],iV [pI,pI,pS,pS,pL false 1]] [] (ρ:=Bool) fun r=>([[D.bool r]],[])
abbrev S.wR:fH:=sg 14 [pL false 5,pL false 5] [] (ρ:=Bool) fun r=>([[D.bool r]],[])
abbrev S.jV:fH:=sg 40 [pI] [] (ρ:=aF) fun r=>([[D.str r]],[])
abbrev S.oD:fH:=sg 41 [pO 100000 0,pI] [cA false true 0 1] (ρ:=Int×ak) fun r=>([[D.int .i64 r.1]],[Cell.arr false true 0 1 r.2])
abbrev S.rM:fH:=sg 15 [pO 100000 0,pI] [cA false false 0 5] (ρ:=Int×ak) fun r=>([[D.int .i64 r.1]],[Cell.arr false false 0 5 r.2])
abbrev S.pX:fH:=sg 16 [pO 100000 0,pI] [cA false false 0 4] (ρ:=Int×ak) fun r=>([[D.int .i64 r.1]],[Cell.arr false false 0 4 r.2])
abbrev S.uD:fH:=sg 42 [pL false 1,pI] [] (ρ:=Int) fun r=>([[D.int .i64 r]],[])
abbrev S.nH:fH:=sg 17 [pL false 4,pI] [] (ρ:=Int) fun r=>([[D.int .i64 r]],[])
abbrev S.mG:fH:=sg 3 [pL false 5] [] (ρ:=Bool) fun r=>([[D.bool r]],[])
def M.JU{R:Type}(a:ak)(left:Int)(k:Int→Option R):Option R:=
 bif decide (IntKind.i64.wrap (left - (↑a.length:Int))<0) then(k (-1)) else(k (IntKind.i64.wrap (left - (↑a.length:Int))))
def M.zH(a:ak)(left:Int):Option (Int):=M.JU a left some
theorem C.zH:S.zH.ok X0 fun x=>M.zH x.1.1 x.1.2.1:=fnS (fun x=>M.JU x.1.1 x.1.2.1) [] [] (by intros;simp only[M.JU,nb]<;>rfl)
def M.JV{R:Type}(a a1:Int)(a2 a3:aF)(a4:ak)(left:Int)(k:Int→Option R):Option R:=
 bif decide (IntKind.i64.wrap (left - (↑a2.length:Int))<0) then(k (-1)) else
 (bif decide (IntKind.i64.wrap (IntKind.i64.wrap (left - (↑a2.length:Int)) - (↑a3.length:Int))<0) then(k (-1)) else
 ((M.zH a4 (IntKind.i64.wrap (IntKind.i64.wrap (left - (↑a2.length:Int)) - (↑a3.length:Int)))).bind fun r6=>(bif decide (r6<0) then(k (-1)) else(k r6))))
def M.zI(a a1:Int)(a2 a3:aF)(a4:ak)(left:Int):Option (Int):=M.JV a a1 a2 a3 a4 left some
theorem C.zI:S.zI.ok X0 fun x=>M.zI x.1.1.1 x.1.1.2.1 x.1.1.2.2.1 x.1.1.2.2.2.1 x.1.1.2.2.2.2.1 x.1.2.1:=fnS (fun x=>M.JV x.1.1.1 x.1.1.2.1 x.1.1.2.2.1 x.1.1.2.2.2.1 x.1.1.2.2.2.2.1 x.1.2.1) [fe C.zH] [] (by intros;simp only[M.JV,nb]<;>rfl)
def M.wS{R:Type}(a:ak)(s:Int×Int)(kn:Int×Int→Option R)(ke:(Unit)⊕(Int×Int)→Option R):Option R:=match s with
 |(left,i)=>
 bif decide (i<(↑a.length:Int)) then
 ((idx a i).bind fun row0=>
 ((dn .i64 row0 0).bind fun n1=>
 ((dn .i64 row0 1).bind fun n2=>
 ((cStr row0 2).bind fun s3=>
 ((cStr row0 3).bind fun s4=>
 ((BK 1 row0 4).bind fun aBV=>
 ((M.zI n1 n2 s3 s4 aBV left).bind fun r7=>(bif decide (r7<0) then(ke (.inl ())) else(kn ((r7,IntKind.i64.wrap (i+1)))))))))))) else(ke (.inr ((left,i))))
def M.BM(a:ak)(s:Int×Int):=M.wS a s (fun s=>some (Sum.inl s)) fun t=>some (Sum.inr t)
def M.EZ(a:ak)(s:Int×Int):Option ((Unit)⊕(Int×Int)):=iR (M.BM a) s
def F.EZ:LE X0 9:=le 5 (La [fU 0 (pL false 5),fU 1 pI,fU 5 pI] []) (fun x=>(x.1.2.1,x.1.2.2.1)) (fun x s=>((x.1.1,s.1,s.2,()),())) (fun x=> .sum (.leaf (Unit) (fun t=>(Ex.ret,{tm:=[(4,V.d (D.int .i64 (-1)))],mem:=[]}))) (.leaf (Int×Int) (fun t=>(Ex.exit 0,{tm:=[(0,V.d (D.sl false 5 x.1.1)),(1,V.d (D.int .i64 t.1)),(5,V.d (D.int .i64 t.2)),(15,V.d (D.bool false))],mem:=[]})))) (fun x=>M.wS x.1.1) [fe C.zI] [] (by rintro _ _ ⟨_,_⟩ _ _<;>simp only[M.wS,nb]<;>rfl)
def M.Hy{R:Type}(a:ak)(left:Int)(k:Int→Option R):Option R:=
 bif decide (IntKind.i64.wrap (left - (↑a.length:Int))<0) then(k (-1)) else
 ((M.EZ a ((IntKind.i64.wrap (left - (↑a.length:Int)),0))).bind fun u10=>
 xZ u10 (fun t8=>(k (-1))) fun u11=>
 letE u11 fun t9=>(k t9.1))
def M.wC(a:ak)(left:Int):Option (Int):=M.Hy a left some
theorem C.wC:S.wC.ok X0 fun x=>M.wC x.1.1 x.1.2.1:=fnS (fun x=>M.Hy x.1.1 x.1.2.1) [] [F.EZ] (by intros;simp only[M.Hy,nb]<;>rfl)
def M.yN{R:Type}(a:ak)(s:Int×ak)(kn:Int×ak→Option R)(ke:Int×ak→Option R):Option R:=match s with
 |(i,x')=>
 bif decide (i<(↑a.length:Int)) then
 ((idx a i).bind fun aBW=>
 ((dn .i64 aBW 0).bind fun n20=>
 ((idx x' i).bind fun aTL=>
 (x'[i.toNat]?.bind fun row22=>(kn ((IntKind.i64.wrap (i+1),x'.set i.toNat (splice row22 0 [D.int .i64 n20])))))))) else(ke ((i,x')))
def M.DW(a:ak)(s:Int×ak):=M.yN a s (fun s=>some (Sum.inl s)) fun t=>some (Sum.inr t)
def M.Hz(a:ak)(s:Int×ak):Option (Int×ak):=iR (M.DW a) s
def F.Hz:LE X0 74:=le 3 (La [fU 0 (pL false 1),fU 3 (pO 300000 0),fU 4 pI] [fU 300000 (cA false true 0 1)]) (fun x=>(x.1.2.2.1,x.2.1)) (fun x s=>((x.1.1,(),s.1,()),(s.2,()))) (fun x=> .leaf (Int×ak) (fun t=>(Ex.exit 0,{tm:=[(0,V.d (D.sl false 1 x.1.1)),(3,V.own 300000 0),(4,V.d (D.int .i64 t.1)),(11,V.d (D.bool false))],mem:=[(300000,Cell.arr false true 0 1 t.2)]}))) (fun x=>M.yN x.1.1) [] [] (by rintro _ _ ⟨_,_⟩ _ _<;>simp only[M.yN,nb]<;>rfl)
def M.JW{R:Type}(a:ak)(k:ak→Option R):Option R:=
 bif decide (0≤(↑a.length:Int)) && decide ((↑a.length:Int)≤(↑a.length:Int)) && decide ((↑a.length:Int) * 8≤140737488355328) && decide ((↑a.length:Int)≤140737488355328) then
 ((M.Hz a ((0,List.replicate (↑a.length:Int).toNat [D.int .i64 0]))).bind fun t23=>(bif aB t23.2 then(k t23.2) else none)) else none
def M.zJ(a:ak):Option (ak):=M.JW a some
theorem C.zJ:S.zJ.ok X0 fun x=>M.zJ x.1.1:=fnS (fun x=>M.JW x.1.1) [] [F.Hz] (by intros;simp only[M.JW,nb]<;>rfl)
def M.JX{R:Type}(a a1:Int)(a2 a3:aF)(a4:ak)(k:Int×Int×aF×aF×ak→Option R):Option R:=
 (M.zJ a4).bind fun r24=>(bif aB r24 then(k ((a,a1,a2,a3,r24))) else none)
def M.zK(a a1:Int)(a2 a3:aF)(a4:ak):Option (Int×Int×aF×aF×ak):=M.JX a a1 a2 a3 a4 some
theorem C.zK:S.zK.ok X0 fun x=>M.zK x.1.1.1 x.1.1.2.1 x.1.1.2.2.1 x.1.1.2.2.2.1 x.1.1.2.2.2.2.1:=fnS (fun x=>M.JX x.1.1.1 x.1.1.2.1 x.1.1.2.2.1 x.1.1.2.2.2.1 x.1.1.2.2.2.2.1) [fe C.zJ] [] (by intros;simp only[M.JX,nb]<;>rfl)
def M.wU{R:Type}(a:ak)(s:Int×ak)(kn:Int×ak→Option R)(ke:Int×ak→Option R):Option R:=match s with
 |(i,x')=>
 bif decide (i<(↑a.length:Int)) then
 ((idx a i).bind fun agt=>
 ((dn .i64 agt 0).bind fun n14=>
 ((dn .i64 agt 1).bind fun n15=>
 ((cStr agt 2).bind fun s16=>
 ((cStr agt 3).bind fun s17=>
 ((BK 1 agt 4).bind fun avY=>
 ((M.zK n14 n15 s16 s17 avY).bind fun r25=>
 ((idx x' i).bind fun row26=>
 (bif aB r25.2.2.2.2 then
 (x'[i.toNat]?.bind fun row27=>
 (kn ((IntKind.i64.wrap (i+1),x'.set i.toNat (splice row27 0 [D.int .i64 r25.1,D.int .i64 r25.2.1,D.str r25.2.2.1,D.str r25.2.2.2.1,D.sl true 1 r25.2.2.2.2]))))) else none))))))))) else(ke ((i,x')))
def M.BN(a:ak)(s:Int×ak):=M.wU a s (fun s=>some (Sum.inl s)) fun t=>some (Sum.inr t)
def M.E5(a:ak)(s:Int×ak):Option (Int×ak):=iR (M.BN a) s
def F.E5:LE X0 11:=le 3 (La [fU 0 (pL false 5),fU 3 (pO 300000 0),fU 4 pI] [fU 300000 (cA false false 0 5)]) (fun x=>(x.1.2.2.1,x.2.1)) (fun x s=>((x.1.1,(),s.1,()),(s.2,()))) (fun x=> .leaf (Int×ak) (fun t=>(Ex.exit 0,{tm:=[(0,V.d (D.sl false 5 x.1.1)),(3,V.own 300000 0),(4,V.d (D.int .i64 t.1)),(11,V.d (D.bool false))],mem:=[(300000,Cell.arr false false 0 5 t.2)]}))) (fun x=>M.wU x.1.1) [fe C.zK] [] (by rintro _ _ ⟨_,_⟩ _ _<;>simp only[M.wU,nb]<;>rfl)
def M.HY{R:Type}(a:ak)(k:ak→Option R):Option R:=
 bif decide (0≤(↑a.length:Int)) && decide ((↑a.length:Int)≤(↑a.length:Int)) && decide ((↑a.length:Int) * 72≤140737488355328) && decide ((↑a.length:Int)≤140737488355328) then
 ((M.E5 a ((0,List.replicate (↑a.length:Int).toNat [D.int .i64 0,D.int .i64 0,D.str [],D.str [],D.sl true 1 []]))).bind fun t28=>(k t28.2)) else none
def M.oJ(a:ak):Option (ak):=M.HY a some
theorem C.oJ:S.oJ.ok X0 fun x=>M.oJ x.1.1:=fnS (fun x=>M.HY x.1.1) [] [F.E5] (by intros;simp only[M.HY,nb]<;>rfl)
def M.wV{R:Type}(x' low high:Int)(k:Bool→Option R):Option R:=
 bif decide (x'≥low) then(k (decide (x'≤high))) else(k false)
def M.dL(x' low high:Int):Option (Bool):=M.wV x' low high some
theorem C.dL:S.dL.ok X0 fun x=>M.dL x.1.1 x.1.2.1 x.1.2.2.1:=fnS (fun x=>M.wV x.1.1 x.1.2.1 x.1.2.2.1) [] [] (by intros;simp only[M.wV,nb]<;>rfl)
def M.uT{R:Type}(l:ak)(i:Int)(x':ak)(s:Int×Int)(kn:Int×Int→Option R)(ke:(Unit)⊕(Int×Int)→Option R):Option R:=match s with
 |(at',k')=>
 bif decide (k'≥0) then
 ((idx l i).bind fun aBX=>
 ((BK 1 aBX 4).bind fun avZ=>
 ((idx avZ k').bind fun row35=>
 ((dn .i64 row35 0).bind fun n36=>
 (bif n36 !=IntKind.i64.wrap (at' - 1) then(ke (.inl ())) else
 (bif at'==0 then(ke (.inl ())) else
 ((idx x' (IntKind.i64.wrap (at' - 1))).bind fun aTM=>
 ((x'[(IntKind.i64.wrap (at' - 1)).toNat]?).bind fun row38=>((dn .i64 row38 0).bind fun n39=>(kn ((n39,IntKind.i64.wrap (k' - 1))))))))))))) else(ke (.inr ((at',k'))))
def M.Ad(l:ak)(i:Int)(x':ak)(s:Int×Int):=M.uT l i x' s (fun s=>some (Sum.inl s)) fun t=>some (Sum.inr t)
def M.qA(l:ak)(i:Int)(x':ak)(s:Int×Int):Option ((Unit)⊕(Int×Int)):=iR (M.Ad l i x') s
def F.qA:LE X0 104:=le 7 (La [fU 0 (pL false 5),fU 4 (pO 300000 0),fU 5 pI,fU 6 pI,fU 7 pI] [fU 300000 (cA false true 0 1)]) (fun x=>(x.1.2.2.2.1,x.1.2.2.2.2.1)) (fun x s=>((x.1.1,(),x.1.2.2.1,s.1,s.2,()),(x.2.1,()))) (fun x=> .sum (.leaf (Unit) (fun t=>(Ex.ret,{tm:=[(2,V.own 300000 0),(3,V.d (D.bool false))],mem:=[(300000,Cell.arr false true 0 1 [])]}))) (.leaf (Int×Int) (fun t=>(Ex.exit 2,{tm:=[(0,V.d (D.sl false 5 x.1.1)),(4,V.own 300000 0),(5,V.d (D.int .i64 x.1.2.2.1)),(6,V.d (D.int .i64 t.1)),(7,V.d (D.int .i64 t.2)),(24,V.d (D.bool false))],mem:=[(300000,Cell.arr false true 0 1 x.2.1)]})))) (fun x=>M.uT x.1.1 x.1.2.2.1 x.2.1) [] [] (by rintro _ _ ⟨_,_⟩ _ _<;>simp only[M.uT,nb]<;>rfl)
def M.uU{R:Type}(l:ak)(s:Int×ak)(kn:Int×ak→Option R)(ke:(Unit)⊕(Int×ak)→Option R):Option R:=match s with
 |(i,x')=>
 bif decide (i<(↑l.length:Int)) then
 ((idx l i).bind fun aBY=>
 ((BK 1 aBY 4).bind fun av1=>
 ((M.qA l i x' ((i,IntKind.i64.wrap ((↑av1.length:Int) - 1)))).bind fun u44=>
 xZ u44 (fun t40=>(ke (.inl ()))) fun u45=>
 letE u45 fun t41=>
 (bif((x'.length+[[D.int .i64 t41.1]].length) * 8).ble 140737488355328 then
 (bif(x'.length+[[D.int .i64 t41.1]].length).ble 140737488355328 then(kn ((IntKind.i64.wrap (i+1),x'++[[D.int .i64 t41.1]]))) else none) else none)))) else(ke (.inr ((i,x'))))
def M.Ae(l:ak)(s:Int×ak):=M.uU l s (fun s=>some (Sum.inl s)) fun t=>some (Sum.inr t)
def M.qB(l:ak)(s:Int×ak):Option ((Unit)⊕(Int×ak)):=iR (M.Ae l) s
def F.qB:LE X0 104:=le 3 (La [fU 0 (pL false 5),fU 4 (pO 300000 0),fU 5 pI] [fU 300000 (cA false true 0 1)]) (fun x=>(x.1.2.2.1,x.2.1)) (fun x s=>((x.1.1,(),s.1,()),(s.2,()))) (fun x=> .sum (.leaf (Unit) (fun t=>(Ex.ret,{tm:=[(2,V.own 300000 0),(3,V.d (D.bool false))],mem:=[(300000,Cell.arr false true 0 1 [])]}))) (.leaf (Int×ak) (fun t=>(Ex.exit 0,{tm:=[(0,V.d (D.sl false 5 x.1.1)),(4,V.own 300000 0),(5,V.d (D.int .i64 t.1)),(12,V.d (D.bool false))],mem:=[(300000,Cell.arr false true 0 1 t.2)]})))) (fun x=>M.uU x.1.1) [] [F.qA] (by rintro _ _ ⟨_,_⟩ _ _<;>simp only[M.uU,nb]<;>rfl)
def M.E8{R:Type}(l:ak)(k:ak×Bool→Option R):Option R:=
 (M.qB l ((0,[]))).bind fun u46=>
 xZ u46 (fun t42=>(k (([],false)))) fun u47=>
 letE u47 fun t43=>(bif aB t43.2 then(k ((t43.2,true))) else none)
def M.x9(l:ak):Option (ak×Bool):=M.E8 l some
theorem C.x9:S.x9.ok X0 fun x=>M.x9 x.1.1:=fnS (fun x=>M.E8 x.1.1) [] [F.qB] (by intros;simp only[M.E8,nb]<;>rfl)
def M.H6{R:Type}(l:ak)(k:Bool→Option R):Option R:=
 (M.dL ((↑l.length:Int)) 1 400).bind fun r30=>
 (bif !r30 then(k false) else
 ((M.x9 l).bind fun r48=>
 (bif r48.2 then
 ((idx r48.1 (IntKind.i64.wrap ((↑l.length:Int) - 1))).bind fun aTN=>
 ((r48.1[(IntKind.i64.wrap ((↑l.length:Int) - 1)).toNat]?).bind fun aBZ=>((dn .i64 aBZ 0).bind fun n51=>(k (n51==0))))) else(k false))))
def M.qK(l:ak):Option (Bool):=M.H6 l some
theorem C.qK:S.qK.ok X0 fun x=>M.qK x.1.1:=fnS (fun x=>M.H6 x.1.1) [fe C.dL,fe C.x9] [] (by intros;simp only[M.H6,nb]<;>rfl)
def M.wW{R:Type}(l:ak)(i:Int)(x':ak)(s:Int×Int)(kn:Int×Int→Option R)(ke:Int×Int→Option R):Option R:=match s with
 |(n',k')=>
 (idx l i).bind fun aB0=>
 ((BK 1 aB0 4).bind fun av2=>
 (bif decide (k'<(↑av2.length:Int)) then
 ((idx l i).bind fun aB1=>
 ((BK 1 aB1 4).bind fun av3=>
 ((idx av3 k').bind fun aB2=>
 ((dn .i64 aB2 0).bind fun n59=>
 ((idx x' n59).bind fun aTO=>
 (x'[n59.toNat]?.bind fun aB3=>
 ((dn .i64 aB3 0).bind fun n62=>
 (kn ((bif decide (n'<IntKind.i64.wrap (1+n62)) then IntKind.i64.wrap (1+n62) else n',IntKind.i64.wrap (k'+1))))))))))) else(ke ((n',k')))))
def M.BO(l:ak)(i:Int)(x':ak)(s:Int×Int):=M.wW l i x' s (fun s=>some (Sum.inl s)) fun t=>some (Sum.inr t)
def M.AX(l:ak)(i:Int)(x':ak)(s:Int×Int):Option (Int×Int):=iR (M.BO l i x') s
def F.AX:LE X0 62:=le 9 (La [fU 0 (pL false 5),fU 3 (pO 300000 0),fU 4 pI,fU 5 pI,fU 6 pI] [fU 300000 (cA false true 0 1)]) (fun x=>(x.1.2.2.2.1,x.1.2.2.2.2.1)) (fun x s=>((x.1.1,(),x.1.2.2.1,s.1,s.2,()),(x.2.1,()))) (fun x=> .leaf (Int×Int) (fun t=>(Ex.exit 2,{tm:=[(0,V.d (D.sl false 5 x.1.1)),(3,V.own 300000 0),(4,V.d (D.int .i64 x.1.2.2.1)),(5,V.d (D.int .i64 t.1)),(6,V.d (D.int .i64 t.2)),(24,V.d (D.bool false))],mem:=[(300000,Cell.arr false true 0 1 x.2.1)]}))) (fun x=>M.wW x.1.1 x.1.2.2.1 x.2.1) [] [] (by rintro _ _ ⟨_,_⟩ _ _<;>simp only[M.wW,nb]<;>rfl)
def M.wX{R:Type}(l:ak)(s:Int×ak)(kn:Int×ak→Option R)(ke:Int×ak→Option R):Option R:=match s with
 |(i,x')=>
 bif decide (i<(↑l.length:Int)) then
 ((M.AX l i x' ((1,0))).bind fun t63=>
 (bif((x'.length+[[D.int .i64 t63.1]].length) * 8).ble 140737488355328 then
 (bif(x'.length+[[D.int .i64 t63.1]].length).ble 140737488355328 then(kn ((IntKind.i64.wrap (i+1),x'++[[D.int .i64 t63.1]]))) else none) else none)) else(ke ((i,x')))
def M.BP(l:ak)(s:Int×ak):=M.wX l s (fun s=>some (Sum.inl s)) fun t=>some (Sum.inr t)
def M.Fa(l:ak)(s:Int×ak):Option (Int×ak):=iR (M.BP l) s
def F.Fa:LE X0 62:=le 5 (La [fU 0 (pL false 5),fU 3 (pO 300000 0),fU 4 pI] [fU 300000 (cA false true 0 1)]) (fun x=>(x.1.2.2.1,x.2.1)) (fun x s=>((x.1.1,(),s.1,()),(s.2,()))) (fun x=> .leaf (Int×ak) (fun t=>(Ex.exit 0,{tm:=[(0,V.d (D.sl false 5 x.1.1)),(3,V.own 300000 0),(4,V.d (D.int .i64 t.1)),(14,V.d (D.bool false))],mem:=[(300000,Cell.arr false true 0 1 t.2)]}))) (fun x=>M.wX x.1.1) [] [F.AX] (by rintro _ _ ⟨_,_⟩ _ _<;>simp only[M.wX,nb]<;>rfl)
def M.H7{R:Type}(l:ak)(k:Int→Option R):Option R:=
 (M.qK l).bind fun r53=>
 (bif !r53 then(k 0) else
 ((M.Fa l ((0,[]))).bind fun t64=>
 ((idx t64.2 (IntKind.i64.wrap ((↑l.length:Int) - 1))).bind fun aTP=>
 ((t64.2[(IntKind.i64.wrap ((↑l.length:Int) - 1)).toNat]?).bind fun aB4=>((dn .i64 aB4 0).bind fun n67=>(k n67))))))
def M.wE(l:ak):Option (Int):=M.H7 l some
theorem C.wE:S.wE.ok X0 fun x=>M.wE x.1.1:=fnS (fun x=>M.H7 x.1.1) [fe C.qK] [F.Fa] (by intros;simp only[M.H7,nb]<;>rfl)
def M.aH{R:Type}(n' gq:Int)(iT iG:aF)(iF:ak)(k:Int×Int→Option R):Option R:=
 bif n'==5 then(k ((1,6))) else
 (bif n'==13 then(k ((1,6))) else
 (bif n'==7 then(k ((0,6))) else
 (bif n'==8 then(k ((0,6))) else
 (bif n'==27 then(k ((0,6))) else
 (bif n'==6 then(k ((1,1))) else
 (bif n'==9 then(k ((1,1))) else
 (bif n'==10 then(k ((1,1))) else
 (bif n'==11 then(k ((1,1))) else
 (bif n'==20 then(k ((1,1))) else
 (bif n'==32 then(k ((1,1))) else
 (bif n'==40 then(k ((1,1))) else
 (bif n'==41 then(k ((1,1))) else
 (bif n'==12 then(k ((2,2))) else
 (bif n'==15 then(k ((2,2))) else
 (bif n'==29 then(k ((2,2))) else
 (bif n'==30 then(k ((2,2))) else
 (bif n'==14 then(k ((3,3))) else
 (bif n'==21 then(bif !iG==[] then(k ((IntKind.i64.wrap (gq+1),7))) else(k ((gq,6)))) else
 (bif n'==23 then(k ((0,1))) else
 (bif n'==24 then(k ((0,1))) else
 (bif n'==28 then(k ((2,3))) else
 (bif n'==31 then(k ((4,4))) else
 (bif n'==33 then(k ((0,(↑iF.length:Int)))) else
 (bif n'==45 then(k ((0,(↑iF.length:Int)))) else
 (bif n'==42 then
 (k ((IntKind.i64.wrap (1+IntKind.i64.wrap (gq.tdiv 3)),IntKind.i64.wrap (1+IntKind.i64.wrap (gq.tdiv 3))))) else
 (bif n'==43 then
 (k ((IntKind.i64.wrap (2+IntKind.i64.wrap (gq.tdiv 3)),IntKind.i64.wrap (2+IntKind.i64.wrap (gq.tdiv 3))))) else(bif n'==44 then(k ((1,7))) else(k ((0,0))))))))))))))))))))))))))))))
def M.aQ(n' gq:Int)(iT iG:aF)(iF:ak):Option (Int×Int):=M.aH n' gq iT iG iF some
theorem C.aQ:S.aQ.ok X0 fun x=>M.aQ x.1.1.1 x.1.1.2.1 x.1.1.2.2.1 x.1.1.2.2.2.1 x.1.1.2.2.2.2.1:=fnS (fun x=>M.aH x.1.1.1 x.1.1.2.1 x.1.1.2.2.1 x.1.1.2.2.2.1 x.1.1.2.2.2.2.1) [] [] (by intros;unfold M.aH;repeat' first|with_reducible apply gG|with_reducible apply Gp|with_reducible apply Gq|with_reducible apply Gs|with_reducible apply Gt|(intro _)|apply gG|rfl)
def M.H8{R:Type}(op':Int)(k:Bool→Option R):Option R:=
 bif op'==60 then(k true) else
 (bif op'==57 then(k true) else
 (bif op'==58 then(k true) else
 (bif op'==59 then(k true) else
 (bif op'==55 then(k true) else
 (bif op'==56 then(k true) else
 (bif op'==99 then(k true) else
 (bif op'==63 then(k true) else
 (bif op'==48 then(k true) else
 (bif op'==47 then(k true) else
 (bif op'==50 then(k true) else
 (bif op'==62 then(k true) else
 (bif op'==49 then(k true) else
 (bif op'==67 then(k true) else
 (bif op'==46 then(k true) else(bif op'==45 then(k true) else(bif op'==44 then(k true) else(k false)))))))))))))))))
def M.wF(op':Int):Option (Bool):=M.H8 op' some
theorem C.wF:S.wF.ok X0 fun x=>M.wF x.1.1:=fnS (fun x=>M.H8 x.1.1) [] [] (by intros;unfold M.H8;repeat' first|with_reducible apply gG|with_reducible apply Gp|with_reducible apply Gq|with_reducible apply Gs|with_reducible apply Gt|(intro _)|apply gG|rfl)
def M.BQ{R:Type}(op':Int)(k:Bool→Option R):Option R:=
 bif op'==54 then(k true) else((M.dL op' 38 43).bind fun r78=>(k r78))
def M.pW(op':Int):Option (Bool):=M.BQ op' some
theorem C.pW:S.pW.ok X0 fun x=>M.pW x.1.1:=fnS (fun x=>M.BQ x.1.1) [fe C.dL] [] (by intros;simp only[M.BQ,nb]<;>rfl)
def M.aU{R:Type}(n' gq:Int)(iT iG:aF)(iF:ak)(k:Bool→Option R):Option R:=
 bif n'==9 then(bif gq==51 then(k true) else(k (gq==52))) else
 (bif n'==10 then(bif gq==51 then(k true) else(k (gq==52))) else
 (bif n'==11 then(bif gq==55 then(k true) else(bif gq==56 then(k true) else(k (gq==61)))) else
 (bif n'==12 then((M.wF gq).bind fun r77=>(k r77)) else
 (bif n'==15 then((M.pW gq).bind fun r79=>(k r79)) else
 (bif n'==21 then((M.dL gq 0 1).bind fun r80=>(k r80)) else
 (bif n'==42 then((M.dL gq 1 3).bind fun r81=>(k r81)) else(bif n'==43 then(bif gq==1 then(k true) else(k (gq==3))) else(k (gq==0)))))))))
def M.aW(n' gq:Int)(iT iG:aF)(iF:ak):Option (Bool):=M.aU n' gq iT iG iF some
theorem C.aW:S.aW.ok X0 fun x=>M.aW x.1.1.1 x.1.1.2.1 x.1.1.2.2.1 x.1.1.2.2.2.1 x.1.1.2.2.2.2.1:=fnS (fun x=>M.aU x.1.1.1 x.1.1.2.1 x.1.1.2.2.1 x.1.1.2.2.2.1 x.1.1.2.2.2.2.1) [fe C.wF,fe C.pW,fe C.dL] [] (by intros;simp only[M.aU,nb]<;>rfl)
def M.Fb{R:Type}(b:Int)(k:Bool→Option R):Option R:=
 (M.dL b 97 122).bind fun r84=>
 (bif r84 then(k true) else((M.dL b 65 90).bind fun r85=>(bif r85 then(k true) else(k (b==95)))))
def M.nY(b:Int):Option (Bool):=M.Fb b some
theorem C.nY:S.nY.ok X0 fun x=>M.nY x.1.1:=fnS (fun x=>M.Fb x.1.1) [fe C.dL] [] (by intros;simp only[M.Fb,nb]<;>rfl)
def M.H9{R:Type}(b:Int)(k:Bool→Option R):Option R:=
 (M.dL b 48 57).bind fun r87=>(k r87)
def M.qL(b:Int):Option (Bool):=M.H9 b some
theorem C.qL:S.qL.ok X0 fun x=>M.qL x.1.1:=fnS (fun x=>M.H9 x.1.1) [fe C.dL] [] (by intros;simp only[M.H9,nb]<;>rfl)
def M.BR{R:Type}(b:Int)(k:Bool→Option R):Option R:=
 (M.nY b).bind fun r86=>(bif r86 then(k true) else((M.qL b).bind fun r88=>(k r88)))
def M.jK(b:Int):Option (Bool):=M.BR b some
theorem C.jK:S.jK.ok X0 fun x=>M.jK x.1.1:=fnS (fun x=>M.BR x.1.1) [fe C.nY,fe C.qL] [] (by intros;simp only[M.BR,nb]<;>rfl)
def M.sU{R:Type}(s':aF)(s:Int)(kn:Int→Option R)(ke:(Unit)⊕(Int)→Option R):Option R:=match s with
 |i=>
 bif decide (i<(↑s'.length:Int)) then
 ((idx s' i).bind fun c83=>
 ((M.jK (IntKind.i64.wrap (↑c83.toNat:Int))).bind fun r89=>(bif !r89 then(ke (.inl ())) else(kn (IntKind.i64.wrap (i+1)))))) else(ke (.inr i))
def M.yF(s':aF)(s:Int):=M.sU s' s (fun s=>some (Sum.inl s)) fun t=>some (Sum.inr t)
def M.BU(s':aF)(s:Int):Option ((Unit)⊕(Int)):=iR (M.yF s') s
def F.BU:LE X0 184:=le 2 (La [fU 0 pS,fU 3 pI] []) (fun x=>x.1.2.1) (fun x s=>((x.1.1,s,()),())) (fun x=> .sum (.leaf (Unit) (fun t=>(Ex.ret,{tm:=[(2,V.d (D.bool false))],mem:=[]}))) (.leaf (Int) (fun t=>(Ex.exit 0,{tm:=[(0,V.d (D.str x.1.1)),(3,V.d (D.int .i64 t)),(7,V.d (D.bool false))],mem:=[]})))) (fun x=>M.sU x.1.1) [fe C.jK] [] (by rintro _ _ _ _ _<;>simp only[M.sU,nb]<;>rfl)
def M.DX{R:Type}(s':aF)(k:Bool→Option R):Option R:=
 (M.BU s' 0).bind fun u95=>
 xZ u95 (fun t90=>(k false)) fun u96=>
 letE u96 fun t91=>
 ((M.dL ((↑s'.length:Int)) 1 12).bind fun r92=>
 (bif r92 then
 ((idx s' 0).bind fun c93=>((M.nY (IntKind.i64.wrap (↑c93.toNat:Int))).bind fun r94=>(k r94))) else(k false)))
def M.rE(s':aF):Option (Bool):=M.DX s' some
theorem C.rE:S.rE.ok X0 fun x=>M.rE x.1.1:=fnS (fun x=>M.DX x.1.1) [fe C.dL,fe C.nY] [F.BU] (by intros;simp only[M.DX,nb]<;>rfl)
def M.MS{R:Type}(k:ak→Option R):Option R:=
 k ([[D.str [66,69,71,73,78]],[D.str [69,78,68]],[D.str [102,117,110,99,116,105,111,110]],[D.str [105,102]],[D.str [101,108,115,101]],[D.str [119,104,105,108,101]],[D.str [102,111,114]],[D.str [100,111]],[D.str [98,114,101,97,107]],[D.str [99,111,110,116,105,110,117,101]],[D.str [110,101,120,116]],[D.str [101,120,105,116]],[D.str [114,101,116,117,114,110]],[D.str [100,101,108,101,116,101]],[D.str [105,110]],[D.str [112,114,105,110,116]],[D.str [112,114,105,110,116,102]]])
def M.tH:Option (ak):=M.MS some
theorem C.tH:S.tH.ok X0 fun x=>M.tH:=fnS (fun x=>M.MS) [] [] (by intros;simp only[M.MS,nb]<;>rfl)
def M.yO{R:Type}(l:ak)(s':aF)(s:Int)(kn:Int→Option R)(ke:(Int)⊕(Int)→Option R):Option R:=match s with
 |i=>
 bif decide (i<(↑l.length:Int)) then
 ((idx l i).bind fun aB5=>
 ((cStr aB5 0).bind fun aLL=>(bif aLL==s' then(ke (.inl i)) else(kn (IntKind.i64.wrap (i+1)))))) else(ke (.inr i))
def M.DY(l:ak)(s':aF)(s:Int):=M.yO l s' s (fun s=>some (Sum.inl s)) fun t=>some (Sum.inr t)
def M.Ia(l:ak)(s':aF)(s:Int):Option ((Int)⊕(Int)):=iR (M.DY l s') s
def F.Ia:LE X0 190:=le 2 (La [fU 0 (pL false 1),fU 1 pS,fU 5 pI] []) (fun x=>x.1.2.2.1) (fun x s=>((x.1.1,x.1.2.1,s,()),())) (fun x=> .sum (.leaf (Int) (fun t=>(Ex.ret,{tm:=[(4,V.d (D.int .i64 t))],mem:=[]}))) (.leaf (Int) (fun t=>(Ex.exit 0,{tm:=[(0,V.d (D.sl false 1 x.1.1)),(1,V.d (D.str x.1.2.1)),(5,V.d (D.int .i64 t)),(9,V.d (D.bool false))],mem:=[]})))) (fun x=>M.yO x.1.1 x.1.2.1) [] [] (by rintro _ _ _ _ _<;>simp only[M.yO,nb]<;>rfl)
def M.JY{R:Type}(l:ak)(s':aF)(k:Int→Option R):Option R:=
 (M.Ia l s' 0).bind fun aLM=>
 xZ aLM (fun aLN=>(k aLN)) fun aLO=>
 letE aLO fun aT7=>(k (-1))
def M.uf(l:ak)(s':aF):Option (Int):=M.JY l s' some
theorem C.uf:S.uf.ok X0 fun x=>M.uf x.1.1 x.1.2.1:=fnS (fun x=>M.JY x.1.1 x.1.2.1) [] [F.Ia] (by intros;simp only[M.JY,nb]<;>rfl)
def M.DZ{R:Type}(s':aF)(k:Int→Option R):Option R:=
 M.tH.bind fun r98=>
 ((M.uf r98 s').bind fun aB6=>(bif decide (aB6<0) then(k 0) else(k (IntKind.i64.wrap (10+aB6)))))
def M.rF(s':aF):Option (Int):=M.DZ s' some
theorem C.rF:S.rF.ok X0 fun x=>M.rF x.1.1:=fnS (fun x=>M.DZ x.1.1) [fe C.tH,fe C.uf] [] (by intros;simp only[M.DZ,nb]<;>rfl)
def M.Ib{R:Type}(k:ak→Option R):Option R:=
 k ([[D.str [97,116,97,110,50]],[D.str [99,108,111,115,101]],[D.str [99,111,115]],[D.str [101,120,112]],[D.str [103,115,117,98]],[D.str [105,110,100,101,120]],[D.str [105,110,116]],[D.str [108,101,110,103,116,104]],[D.str [108,111,103]],[D.str [109,97,116,99,104]],[D.str [114,97,110,100]],[D.str [115,105,110]],[D.str [115,112,108,105,116]],[D.str [115,112,114,105,110,116,102]],[D.str [115,113,114,116]],[D.str [115,114,97,110,100]],[D.str [115,117,98]],[D.str [115,117,98,115,116,114]],[D.str [115,121,115,116,101,109]],[D.str [116,111,108,111,119,101,114]],[D.str [116,111,117,112,112,101,114]]])
def M.sQ:Option (ak):=M.Ib some
theorem C.sQ:S.sQ.ok X0 fun x=>M.sQ:=fnS (fun x=>M.Ib) [] [] (by intros;simp only[M.Ib,nb]<;>rfl)
def M.D5{R:Type}(s':aF)(k:Bool→Option R):Option R:=
 M.sQ.bind fun aLP=>((M.uf aLP s').bind fun aLQ=>(k (decide (aLQ≥0))))
def M.kG(s':aF):Option (Bool):=M.D5 s' some
theorem C.kG:S.kG.ok X0 fun x=>M.kG x.1.1:=fnS (fun x=>M.D5 x.1.1) [fe C.sQ,fe C.uf] [] (by intros;simp only[M.D5,nb]<;>rfl)
def M.JZ{R:Type}(s':aF)(k:Bool→Option R):Option R:=
 (M.rE s').bind fun r97=>
 (bif r97 then
 ((M.rF s').bind fun aLR=>(bif aLR==0 then((M.kG s').bind fun aLS=>(k !aLS)) else(k false))) else(k false))
def M.ig(s':aF):Option (Bool):=M.JZ s' some
theorem C.ig:S.ig.ok X0 fun x=>M.ig x.1.1:=fnS (fun x=>M.JZ x.1.1) [fe C.rE,fe C.rF,fe C.kG] [] (by intros;simp only[M.JZ,nb]<;>rfl)
def M.wY{R:Type}(s':aF)(s:Int)(kn:Int→Option R)(ke:(Unit)⊕(Int)→Option R):Option R:=match s with
 |i=>
 bif decide (i<(↑s'.length:Int)) then
 ((idx s' i).bind fun c117=>(bif(↑c117.toNat:Int)==10 then(ke (.inl ())) else(kn (IntKind.i64.wrap (i+1))))) else(ke (.inr i))
def M.wZ(s':aF)(s:Int):=M.wY s' s (fun s=>some (Sum.inl s)) fun t=>some (Sum.inr t)
def M.Fe(s':aF)(s:Int):Option ((Unit)⊕(Int)):=iR (M.wZ s') s
def F.Fe:LE X0 186:=le 2 (La [fU 0 pS,fU 3 pI] []) (fun x=>x.1.2.1) (fun x s=>((x.1.1,s,()),())) (fun x=> .sum (.leaf (Unit) (fun t=>(Ex.ret,{tm:=[(2,V.d (D.bool false))],mem:=[]}))) (.leaf (Int) (fun t=>(Ex.exit 0,{tm:=[(0,V.d (D.str x.1.1)),(3,V.d (D.int .i64 t)),(7,V.d (D.bool false))],mem:=[]})))) (fun x=>M.wY x.1.1) [] [] (by rintro _ _ _ _ _<;>simp only[M.wY,nb]<;>rfl)
def M.Ic{R:Type}(s':aF)(k:Bool→Option R):Option R:=
 (M.Fe s' 0).bind fun aLT=>
 xZ aLT (fun aT8=>(k false)) fun aLU=>
 letE aLU fun t119=>(k true)
def M.wG(s':aF):Option (Bool):=M.Ic s' some
theorem C.wG:S.wG.ok X0 fun x=>M.wG x.1.1:=fnS (fun x=>M.Ic x.1.1) [] [F.Fe] (by intros;simp only[M.Ic,nb]<;>rfl)
def M.J3{R:Type}(s':aF)(at':Int)(k:Int→Option R):Option R:=
 bif decide (at'<0) then(k (-1)) else
 (bif decide (at'≥(↑s'.length:Int)) then(k (-1)) else((idx s' at').bind fun aLV=>(k (IntKind.i64.wrap (↑aLV.toNat:Int)))))
def M.fC(s':aF)(at':Int):Option (Int):=M.J3 s' at' some
theorem C.fC:S.fC.ok X0 fun x=>M.fC x.1.1 x.1.2.1:=fnS (fun x=>M.J3 x.1.1 x.1.2.1) [] [] (by intros;simp only[M.J3,nb]<;>rfl)
def M.Af{R:Type}(s':aF)(s:Int)(kn:Int→Option R)(ke:Int→Option R):Option R:=match s with
 |at'=>
 (M.fC s' at').bind fun aLW=>
 ((M.qL aLW).bind fun aLX=>(bif aLX then(kn (IntKind.i64.wrap (at'+1))) else(ke at')))
def M.MV(s':aF)(s:Int):=M.Af s' s (fun s=>some (Sum.inl s)) fun t=>some (Sum.inr t)
def M.D6(s':aF)(s:Int):Option (Int):=iR (M.MV s') s
def F.D6:LE X0 223:=le 1 (La [fU 0 pS,fU 1 pI] []) (fun x=>x.1.2.1) (fun x s=>((x.1.1,s,()),())) (fun x=> .leaf (Int) (fun t=>(Ex.exit 0,{tm:=[(0,V.d (D.str x.1.1)),(1,V.d (D.int .i64 t)),(8,V.d (D.bool false))],mem:=[]}))) (fun x=>M.Af x.1.1) [fe C.fC,fe C.qL] [] (by rintro _ _ _ _ _<;>simp only[M.Af,nb]<;>rfl)
def M.Fg{R:Type}(s':aF)(at':Int)(k:Int→Option R):Option R:=
 (M.D6 s' at').bind fun aLY=>(k aLY)
def M.aZ(s':aF)(at':Int):Option (Int):=M.Fg s' at' some
theorem C.aZ:S.aZ.ok X0 fun x=>M.aZ x.1.1 x.1.2.1:=fnS (fun x=>M.Fg x.1.1 x.1.2.1) [] [F.D6] (by intros;simp only[M.Fg,nb]<;>rfl)
def M.J4{R:Type}(s':aF)(at':Int)(k:Int→Option R):Option R:=
 bif decide (at'<0) then(k (-1)) else
 ((M.aZ s' at').bind fun CU=>
 ((M.fC s' CU).bind fun aLZ=>
 (bif aLZ==46 then
 ((M.aZ s' (IntKind.i64.wrap (CU+1))).bind fun mZ=>
 (bif CU==at' then
 (bif mZ==IntKind.i64.wrap (CU+1) then(k (-1)) else
 (bif mZ==at' then(k (-1)) else
 ((M.fC s' mZ).bind fun aL0=>
 (bif aL0==101 then
 ((M.fC s' (IntKind.i64.wrap (mZ+1))).bind fun aL1=>
 (bif aL1==43 then
 ((M.aZ s' (IntKind.i64.wrap (IntKind.i64.wrap (mZ+1)+1))).bind fun av4=>
 (bif decide (av4>IntKind.i64.wrap (IntKind.i64.wrap (mZ+1)+1)) then
 ((M.aZ s' (IntKind.i64.wrap (IntKind.i64.wrap (mZ+1)+1))).bind fun av5=>(k av5)) else(k mZ))) else
 ((M.fC s' (IntKind.i64.wrap (mZ+1))).bind fun aL2=>
 (bif aL2==45 then
 ((M.aZ s' (IntKind.i64.wrap (IntKind.i64.wrap (mZ+1)+1))).bind fun av6=>
 (bif decide (av6>IntKind.i64.wrap (IntKind.i64.wrap (mZ+1)+1)) then
 ((M.aZ s' (IntKind.i64.wrap (IntKind.i64.wrap (mZ+1)+1))).bind fun av7=>(k av7)) else(k mZ))) else
 ((M.aZ s' (IntKind.i64.wrap (mZ+1))).bind fun av8=>
 (bif decide (av8>IntKind.i64.wrap (mZ+1)) then((M.aZ s' (IntKind.i64.wrap (mZ+1))).bind fun av9=>(k av9)) else(k mZ))))))) else
 ((M.fC s' mZ).bind fun aL3=>
 (bif aL3==69 then
 ((M.fC s' (IntKind.i64.wrap (mZ+1))).bind fun aL4=>
 (bif aL4==43 then
 ((M.aZ s' (IntKind.i64.wrap (IntKind.i64.wrap (mZ+1)+1))).bind fun awc=>
 (bif decide (awc>IntKind.i64.wrap (IntKind.i64.wrap (mZ+1)+1)) then
 ((M.aZ s' (IntKind.i64.wrap (IntKind.i64.wrap (mZ+1)+1))).bind fun awd=>(k awd)) else(k mZ))) else
 ((M.fC s' (IntKind.i64.wrap (mZ+1))).bind fun aL5=>
 (bif aL5==45 then
 ((M.aZ s' (IntKind.i64.wrap (IntKind.i64.wrap (mZ+1)+1))).bind fun awe=>
 (bif decide (awe>IntKind.i64.wrap (IntKind.i64.wrap (mZ+1)+1)) then
 ((M.aZ s' (IntKind.i64.wrap (IntKind.i64.wrap (mZ+1)+1))).bind fun awf=>(k awf)) else(k mZ))) else
 ((M.aZ s' (IntKind.i64.wrap (mZ+1))).bind fun awg=>
 (bif decide (awg>IntKind.i64.wrap (mZ+1)) then((M.aZ s' (IntKind.i64.wrap (mZ+1))).bind fun awh=>(k awh)) else(k mZ))))))) else(k mZ))))))) else
 (bif mZ==at' then(k (-1)) else
 ((M.fC s' mZ).bind fun aL6=>
 (bif aL6==101 then
 ((M.fC s' (IntKind.i64.wrap (mZ+1))).bind fun aL7=>
 (bif aL7==43 then
 ((M.aZ s' (IntKind.i64.wrap (IntKind.i64.wrap (mZ+1)+1))).bind fun aL8=>
 (bif decide (aL8>IntKind.i64.wrap (IntKind.i64.wrap (mZ+1)+1)) then
 ((M.aZ s' (IntKind.i64.wrap (IntKind.i64.wrap (mZ+1)+1))).bind fun aL9=>(k aL9)) else(k mZ))) else
 ((M.fC s' (IntKind.i64.wrap (mZ+1))).bind fun aMa=>
 (bif aMa==45 then
 ((M.aZ s' (IntKind.i64.wrap (IntKind.i64.wrap (mZ+1)+1))).bind fun aMb=>
 (bif decide (aMb>IntKind.i64.wrap (IntKind.i64.wrap (mZ+1)+1)) then
 ((M.aZ s' (IntKind.i64.wrap (IntKind.i64.wrap (mZ+1)+1))).bind fun aMc=>(k aMc)) else(k mZ))) else
 ((M.aZ s' (IntKind.i64.wrap (mZ+1))).bind fun aMd=>
 (bif decide (aMd>IntKind.i64.wrap (mZ+1)) then((M.aZ s' (IntKind.i64.wrap (mZ+1))).bind fun aMe=>(k aMe)) else(k mZ))))))) else
 ((M.fC s' mZ).bind fun aMf=>
 (bif aMf==69 then
 ((M.fC s' (IntKind.i64.wrap (mZ+1))).bind fun aMg=>
 (bif aMg==43 then
 ((M.aZ s' (IntKind.i64.wrap (IntKind.i64.wrap (mZ+1)+1))).bind fun aMh=>
 (bif decide (aMh>IntKind.i64.wrap (IntKind.i64.wrap (mZ+1)+1)) then
 ((M.aZ s' (IntKind.i64.wrap (IntKind.i64.wrap (mZ+1)+1))).bind fun aMi=>(k aMi)) else(k mZ))) else
 ((M.fC s' (IntKind.i64.wrap (mZ+1))).bind fun aMj=>
 (bif aMj==45 then
 ((M.aZ s' (IntKind.i64.wrap (IntKind.i64.wrap (mZ+1)+1))).bind fun aMk=>
 (bif decide (aMk>IntKind.i64.wrap (IntKind.i64.wrap (mZ+1)+1)) then
 ((M.aZ s' (IntKind.i64.wrap (IntKind.i64.wrap (mZ+1)+1))).bind fun aMl=>(k aMl)) else(k mZ))) else
 ((M.aZ s' (IntKind.i64.wrap (mZ+1))).bind fun aMm=>
 (bif decide (aMm>IntKind.i64.wrap (mZ+1)) then((M.aZ s' (IntKind.i64.wrap (mZ+1))).bind fun aMn=>(k aMn)) else(k mZ))))))) else(k mZ)))))))) else
 (bif CU==at' then(k (-1)) else
 ((M.fC s' CU).bind fun aMo=>
 (bif aMo==101 then
 ((M.fC s' (IntKind.i64.wrap (CU+1))).bind fun aMp=>
 (bif aMp==43 then
 ((M.aZ s' (IntKind.i64.wrap (IntKind.i64.wrap (CU+1)+1))).bind fun aMq=>
 (bif decide (aMq>IntKind.i64.wrap (IntKind.i64.wrap (CU+1)+1)) then
 ((M.aZ s' (IntKind.i64.wrap (IntKind.i64.wrap (CU+1)+1))).bind fun aMr=>(k aMr)) else(k CU))) else
 ((M.fC s' (IntKind.i64.wrap (CU+1))).bind fun aMs=>
 (bif aMs==45 then
 ((M.aZ s' (IntKind.i64.wrap (IntKind.i64.wrap (CU+1)+1))).bind fun aMt=>
 (bif decide (aMt>IntKind.i64.wrap (IntKind.i64.wrap (CU+1)+1)) then
 ((M.aZ s' (IntKind.i64.wrap (IntKind.i64.wrap (CU+1)+1))).bind fun aMu=>(k aMu)) else(k CU))) else
 ((M.aZ s' (IntKind.i64.wrap (CU+1))).bind fun aMv=>
 (bif decide (aMv>IntKind.i64.wrap (CU+1)) then((M.aZ s' (IntKind.i64.wrap (CU+1))).bind fun aMw=>(k aMw)) else(k CU))))))) else
 ((M.fC s' CU).bind fun aMx=>
 (bif aMx==69 then
 ((M.fC s' (IntKind.i64.wrap (CU+1))).bind fun aMy=>
 (bif aMy==43 then
 ((M.aZ s' (IntKind.i64.wrap (IntKind.i64.wrap (CU+1)+1))).bind fun aMz=>
 (bif decide (aMz>IntKind.i64.wrap (IntKind.i64.wrap (CU+1)+1)) then
 ((M.aZ s' (IntKind.i64.wrap (IntKind.i64.wrap (CU+1)+1))).bind fun aMA=>(k aMA)) else(k CU))) else
 ((M.fC s' (IntKind.i64.wrap (CU+1))).bind fun aMB=>
 (bif aMB==45 then
 ((M.aZ s' (IntKind.i64.wrap (IntKind.i64.wrap (CU+1)+1))).bind fun aMC=>
 (bif decide (aMC>IntKind.i64.wrap (IntKind.i64.wrap (CU+1)+1)) then
 ((M.aZ s' (IntKind.i64.wrap (IntKind.i64.wrap (CU+1)+1))).bind fun aMD=>(k aMD)) else(k CU))) else
 ((M.aZ s' (IntKind.i64.wrap (CU+1))).bind fun aME=>
 (bif decide (aME>IntKind.i64.wrap (CU+1)) then((M.aZ s' (IntKind.i64.wrap (CU+1))).bind fun aMF=>(k aMF)) else(k CU))))))) else(k CU)))))))))
def M.zL(s':aF)(at':Int):Option (Int):=M.J4 s' at' some
theorem C.zL:S.zL.ok X0 fun x=>M.zL x.1.1 x.1.2.1:=fnS (fun x=>M.J4 x.1.1 x.1.2.1) [fe C.aZ,fe C.fC] [] (by intros;unfold M.J4;repeat' first|with_reducible apply gG|with_reducible apply Gp|with_reducible apply Gq|with_reducible apply Gs|with_reducible apply Gt|(intro _)|apply gG|rfl)
def M.qC{R:Type}(s':aF)(sign s:Int)(kn:Int→Option R)(ke:(Int)⊕(Int)→Option R):Option R:=match s with
 |i=>
 bif decide (i<(↑s'.length:Int)) then
 ((idx s' i).bind fun awi=>
 (bif IntKind.i64.wrap (↑awi.toNat:Int)==sign then(ke (.inl (IntKind.i64.wrap (i+1)))) else
 (bif IntKind.i64.wrap (↑awi.toNat:Int)==10 then(ke (.inl (-1))) else
 (bif IntKind.i64.wrap (↑awi.toNat:Int)==92 then
 ((M.fC s' (IntKind.i64.wrap (i+1))).bind fun aMG=>
 (bif aMG==10 then(ke (.inl (-1))) else(kn (IntKind.i64.wrap (IntKind.i64.wrap (i+1)+1))))) else(kn (IntKind.i64.wrap (i+1))))))) else(ke (.inr i))
def M.uV(s':aF)(sign s:Int):=M.qC s' sign s (fun s=>some (Sum.inl s)) fun t=>some (Sum.inr t)
def M.qE(s':aF)(sign s:Int):Option ((Int)⊕(Int)):=iR (M.uV s' sign) s
def F.qE:LE X0 225:=le 4 (La [fU 0 pS,fU 2 pI,fU 7 pI] []) (fun x=>x.1.2.2.1) (fun x s=>((x.1.1,x.1.2.1,s,()),())) (fun x=> .sum (.leaf (Int) (fun t=>(Ex.ret,{tm:=[(6,V.d (D.int .i64 t))],mem:=[]}))) (.leaf (Int) (fun t=>(Ex.exit 0,{tm:=[(0,V.d (D.str x.1.1)),(2,V.d (D.int .i64 x.1.2.1)),(7,V.d (D.int .i64 t)),(18,V.d (D.bool false))],mem:=[]})))) (fun x=>M.qC x.1.1 x.1.2.1) [fe C.fC] [] (by rintro _ _ _ _ _<;>simp only[M.qC,nb]<;>rfl)
def M.Fh{R:Type}(s':aF)(at' sign:Int)(k:Int→Option R):Option R:=
 (M.fC s' at').bind fun aMH=>
 (bif aMH !=sign then(k (-1)) else
 ((M.qE s' sign (IntKind.i64.wrap (at'+1))).bind fun aMI=>
 xZ aMI (fun aMJ=>(k aMJ)) fun aMK=>
 letE aMK fun aT9=>(k (-1))))
def M.nZ(s':aF)(at' sign:Int):Option (Int):=M.Fh s' at' sign some
theorem C.nZ:S.nZ.ok X0 fun x=>M.nZ x.1.1 x.1.2.1 x.1.2.2.1:=fnS (fun x=>M.Fh x.1.1 x.1.2.1 x.1.2.2.1) [fe C.fC] [F.qE] (by intros;simp only[M.Fh,nb]<;>rfl)
def M.J5{R:Type}(s':aF)(at':Int)(k:Int→Option R):Option R:=
 (M.nZ s' at' 34).bind fun aML=>(k aML)
def M.zM(s':aF)(at':Int):Option (Int):=M.J5 s' at' some
theorem C.zM:S.zM.ok X0 fun x=>M.zM x.1.1 x.1.2.1:=fnS (fun x=>M.J5 x.1.1 x.1.2.1) [fe C.nZ] [] (by intros;simp only[M.J5,nb]<;>rfl)
def M.J6{R:Type}(s':aF)(at':Int)(k:Int→Option R):Option R:=
 (M.nZ s' at' 47).bind fun aB7=>(bif aB7==IntKind.i64.wrap (at'+2) then(k (-1)) else(k aB7))
def M.zN(s':aF)(at':Int):Option (Int):=M.J6 s' at' some
theorem C.zN:S.zN.ok X0 fun x=>M.zN x.1.1 x.1.2.1:=fnS (fun x=>M.J6 x.1.1 x.1.2.1) [fe C.nZ] [] (by intros;simp only[M.J6,nb]<;>rfl)
def M.MW{R:Type}(k:ak→Option R):Option R:=
 k ([[D.str [123]],[D.str [125]],[D.str [40]],[D.str [41]],[D.str [91]],[D.str [93]],[D.str [44]],[D.str [59]],[D.str [43,61]],[D.str [45,61]],[D.str [42,61]],[D.str [47,61]],[D.str [37,61]],[D.str [94,61]],[D.str [124,124]],[D.str [38,38]],[D.str [33,126]],[D.str [61,61]],[D.str [60,61]],[D.str [62,61]],[D.str [33,61]],[D.str [43,43]],[D.str [45,45]],[D.str [62,62]],[D.str [61]],[D.str [43]],[D.str [45]],[D.str [42]],[D.str [47]],[D.str [37]],[D.str [94]],[D.str [33]],[D.str [62]],[D.str [60]],[D.str [124]],[D.str [63]],[D.str [58]],[D.str [126]],[D.str [36]]])
def M.tJ:Option (ak):=M.MW some
theorem C.tJ:S.tJ.ok X0 fun x=>M.tJ:=fnS (fun x=>M.MW) [] [] (by intros;simp only[M.MW,nb]<;>rfl)
def M.Ie{R:Type}(kind:Int)(k:aF→Option R):Option R:=
 bif kind==1 then(k [10]) else
 ((M.dL kind 10 26).bind fun aMM=>
 (bif aMM then
 (M.tH.bind fun aB8=>
 ((idx aB8 (IntKind.i64.wrap (kind - 10))).bind fun aMN=>
 ((aB8[(IntKind.i64.wrap (kind - 10)).toNat]?).bind fun awj=>((cStr awj 0).bind fun aMO=>(k aMO))))) else
 ((M.dL kind 30 68).bind fun aMP=>
 (bif aMP then
 (M.tJ.bind fun aB9=>
 ((idx aB9 (IntKind.i64.wrap (kind - 30))).bind fun aMQ=>
 ((aB9[(IntKind.i64.wrap (kind - 30)).toNat]?).bind fun awk=>((cStr awk 0).bind fun aMR=>(k aMR))))) else(k [])))))
def M.jl(kind:Int):Option (aF):=M.Ie kind some
theorem C.jl:S.jl.ok X0 fun x=>M.jl x.1.1:=fnS (fun x=>M.Ie x.1.1) [fe C.dL,fe C.tH,fe C.tJ] [] (by intros;simp only[M.Ie,nb]<;>rfl)
def M.Ig{R:Type}(t':Int)(gX:aF)(iK:Int)(k:Bool→Option R):Option R:=
 bif t'==2 then
 (bif decide ((↑gX.length:Int)>0) then
 ((idx gX 0).bind fun c116=>
 (bif(↑c116.toNat:Int)==35 then((M.wG gX).bind fun aMS=>(k aMS)) else(k false))) else(k false)) else
 (bif t'==3 then
 (bif decide ((↑gX.length:Int)>0) then((M.zL gX 0).bind fun aMT=>(k (aMT==(↑gX.length:Int)))) else(k false)) else
 (bif t'==4 then((M.zM gX 0).bind fun aMU=>(k (aMU==(↑gX.length:Int)))) else
 (bif t'==5 then((M.zN gX 0).bind fun aMV=>(k (aMV==(↑gX.length:Int)))) else
 (bif t'==6 then((M.ig gX).bind fun aMW=>(k aMW)) else
 (bif t'==7 then((M.ig gX).bind fun aMX=>(k aMX)) else
 (bif t'==8 then((M.kG gX).bind fun aMY=>(k aMY)) else
 (bif !gX==[] then((M.jl t').bind fun aMZ=>(k (aMZ==gX))) else(k false))))))))
def M.kU(t':Int)(gX:aF)(iK:Int):Option (Bool):=M.Ig t' gX iK some
theorem C.kU:S.kU.ok X0 fun x=>M.kU x.1.1.1 x.1.1.2.1 x.1.1.2.2.1:=fnS (fun x=>M.Ig x.1.1.1 x.1.1.2.1 x.1.1.2.2.1) [fe C.wG,fe C.zL,fe C.zM,fe C.zN,fe C.ig,fe C.kG,fe C.jl] [] (by intros;simp only[M.Ig,nb]<;>rfl)
def M.aI{R:Type}(n' gq:Int)(iT iG:aF)(iF:ak)(k:Bool→Option R):Option R:=
 bif n'==1 then((M.ig iT).bind fun aM0=>(bif aM0 then(k (iG==[])) else(k false))) else
 (bif n'==5 then((M.ig iT).bind fun aM1=>(bif aM1 then(k (iG==[])) else(k false))) else
 (bif n'==7 then((M.ig iT).bind fun aM2=>(bif aM2 then(k (iG==[])) else(k false))) else
 (bif n'==13 then((M.ig iT).bind fun aM3=>(bif aM3 then(k (iG==[])) else(k false))) else
 (bif n'==27 then((M.ig iT).bind fun aM4=>(bif aM4 then(k (iG==[])) else(k false))) else
 (bif n'==44 then((M.ig iT).bind fun aM5=>(bif aM5 then(k (iG==[])) else(k false))) else
 (bif n'==2 then((M.kU 3 iT 0).bind fun aM6=>(bif aM6 then(k (iG==[])) else(k false))) else
 (bif n'==3 then((M.kU 4 iT 0).bind fun aM7=>(bif aM7 then(k (iG==[])) else(k false))) else
 (bif n'==4 then((M.kU 5 iT 0).bind fun aM8=>(bif aM8 then(k (iG==[])) else(k false))) else
 (bif n'==34 then((M.kU 2 iT 0).bind fun aM9=>(bif aM9 then(k (iG==[])) else(k false))) else
 (bif n'==8 then((M.kG iT).bind fun aNa=>(bif aNa then(k (iG==[])) else(k false))) else
 (bif n'==32 then
 ((M.ig iT).bind fun aNb=>(bif aNb then((M.ig iG).bind fun aNc=>(k aNc)) else(k false))) else
 (bif n'==21 then
 (bif iT==[] then
 (bif iG==[] then(k true) else
 (bif iG==[62] then(k true) else(bif iG==[62,62] then(k true) else(k (iG==[124]))))) else(k false)) else(bif iT==[] then(k (iG==[])) else(k false))))))))))))))
def M.aS(n' gq:Int)(iT iG:aF)(iF:ak):Option (Bool):=M.aI n' gq iT iG iF some
theorem C.aS:S.aS.ok X0 fun x=>M.aS x.1.1.1 x.1.1.2.1 x.1.1.2.2.1 x.1.1.2.2.2.1 x.1.1.2.2.2.2.1:=fnS (fun x=>M.aI x.1.1.1 x.1.1.2.1 x.1.1.2.2.1 x.1.1.2.2.2.1 x.1.1.2.2.2.2.1) [fe C.ig,fe C.kU,fe C.kG] [] (by intros;unfold M.aI;repeat' first|with_reducible apply gG|with_reducible apply Gp|with_reducible apply Gq|with_reducible apply Gs|with_reducible apply Gt|(intro _)|apply gG|rfl)
def M.aC{R:Type}(n' gq:Int)(iT iG:aF)(iF:ak)(k:Bool→Option R):Option R:=
 (M.aQ n' gq iT iG iF).bind fun r75=>
 ((M.dL n' 1 16).bind fun r76=>
 (bif r76 then
 ((M.aW n' gq iT iG iF).bind fun r82=>
 (bif r82 then
 ((M.aS n' gq iT iG iF).bind fun aNd=>
 (bif aNd then((M.dL ((↑iF.length:Int)) r75.1 r75.2).bind fun aNe=>(k aNe)) else(k false))) else(k false))) else
 ((M.dL n' 20 34).bind fun aNf=>
 (bif aNf then
 ((M.aW n' gq iT iG iF).bind fun aNg=>
 (bif aNg then
 ((M.aS n' gq iT iG iF).bind fun aNh=>
 (bif aNh then((M.dL ((↑iF.length:Int)) r75.1 r75.2).bind fun aNi=>(k aNi)) else(k false))) else(k false))) else
 ((M.dL n' 40 45).bind fun aNj=>
 (bif aNj then
 ((M.aW n' gq iT iG iF).bind fun aNk=>
 (bif aNk then
 ((M.aS n' gq iT iG iF).bind fun aNl=>
 (bif aNl then((M.dL ((↑iF.length:Int)) r75.1 r75.2).bind fun aNm=>(k aNm)) else(k false))) else(k false))) else(k false)))))))
def M.ay(n' gq:Int)(iT iG:aF)(iF:ak):Option (Bool):=M.aC n' gq iT iG iF some
theorem C.ay:S.ay.ok X0 fun x=>M.ay x.1.1.1 x.1.1.2.1 x.1.1.2.2.1 x.1.1.2.2.2.1 x.1.1.2.2.2.2.1:=fnS (fun x=>M.aC x.1.1.1 x.1.1.2.1 x.1.1.2.2.1 x.1.1.2.2.2.1 x.1.1.2.2.2.2.1) [fe C.aQ,fe C.dL,fe C.aW,fe C.aS] [] (by intros;simp only[M.aC,nb]<;>rfl)
def M.Fj{R:Type}(kind:Int)(k:Bool→Option R):Option R:=
 bif kind==1 then(k true) else(bif kind==5 then(k true) else(k (kind==6)))
def M.og(kind:Int):Option (Bool):=M.Fj kind some
theorem C.og:S.og.ok X0 fun x=>M.og x.1.1:=fnS (fun x=>M.Fj x.1.1) [] [] (by intros;simp only[M.Fj,nb]<;>rfl)
def M.J7{R:Type}(kind:Int)(k:Bool→Option R):Option R:=
 (M.dL kind 1 15).bind fun aNn=>(k aNn)
def M.iL(kind:Int):Option (Bool):=M.J7 kind some
theorem C.iL:S.iL.ok X0 fun x=>M.iL x.1.1:=fnS (fun x=>M.J7 x.1.1) [fe C.dL] [] (by intros;simp only[M.J7,nb]<;>rfl)
def M.J8{R:Type}(kind:Int)(k:Bool→Option R):Option R:=
 (M.dL kind 20 34).bind fun aNo=>(k aNo)
def M.ug(kind:Int):Option (Bool):=M.J8 kind some
theorem C.ug:S.ug.ok X0 fun x=>M.ug x.1.1:=fnS (fun x=>M.J8 x.1.1) [fe C.dL] [] (by intros;simp only[M.J8,nb]<;>rfl)
def M.aO{R:Type}(n' gq:Int)(iT iG:aF)(iF:ak)(k' kind:Int)(k:Bool→Option R):Option R:=
 bif n'==9 then((M.og kind).bind fun aNp=>(k aNp)) else
 (bif n'==10 then((M.og kind).bind fun aNq=>(k aNq)) else
 (bif n'==15 then
 ((M.iL kind).bind fun aNr=>
 (bif aNr then(bif decide (k'>0) then(k true) else((M.og kind).bind fun aNs=>(k aNs))) else(k false))) else
 (bif n'==28 then
 (bif k'==0 then
 ((M.iL kind).bind fun aNt=>(bif aNt then(k true) else(bif decide (k'>0) then(k (kind==33)) else(k false)))) else(bif decide (k'>0) then(k (kind==33)) else(k false))) else
 (bif n'==29 then
 (bif k'==0 then
 ((M.iL kind).bind fun aNu=>(bif aNu then(k true) else(bif k'==1 then(k (kind==33)) else(k false)))) else(bif k'==1 then(k (kind==33)) else(k false))) else
 (bif n'==30 then
 (bif k'==0 then
 (bif kind==33 then(k true) else(bif k'==1 then((M.iL kind).bind fun aNv=>(k aNv)) else(k false))) else(bif k'==1 then((M.iL kind).bind fun aNw=>(k aNw)) else(k false))) else
 (bif n'==31 then
 (bif decide (k'<3) then
 ((M.iL kind).bind fun aNx=>
 (bif aNx then(k true) else(bif kind==16 then(k true) else(bif k'==3 then(k (kind==33)) else(k false))))) else(bif k'==3 then(k (kind==33)) else(k false))) else
 (bif n'==32 then(k (kind==33)) else
 (bif n'==40 then(k (kind==33)) else
 (bif n'==41 then(k (kind==33)) else
 (bif n'==33 then((M.ug kind).bind fun aNy=>(k aNy)) else
 (bif n'==42 then
 (bif gq==1 then
 ((M.iL kind).bind fun aNz=>
 (bif aNz then(k true) else
 (bif gq==2 then
 (bif kind==33 then(k true) else
 (bif gq==3 then
 (bif k'==IntKind.i64.wrap ((↑iF.length:Int) - 1) then
 (bif kind==33 then(k true) else
 (bif !k'==IntKind.i64.wrap ((↑iF.length:Int) - 1) then((M.iL kind).bind fun aNA=>(k aNA)) else(k false))) else
 (bif !k'==IntKind.i64.wrap ((↑iF.length:Int) - 1) then((M.iL kind).bind fun aNB=>(k aNB)) else(k false))) else(k false))) else
 (bif gq==3 then
 (bif k'==IntKind.i64.wrap ((↑iF.length:Int) - 1) then
 (bif kind==33 then(k true) else
 (bif !k'==IntKind.i64.wrap ((↑iF.length:Int) - 1) then((M.iL kind).bind fun aNC=>(k aNC)) else(k false))) else
 (bif !k'==IntKind.i64.wrap ((↑iF.length:Int) - 1) then((M.iL kind).bind fun aND=>(k aND)) else(k false))) else(k false))))) else
 (bif gq==2 then
 (bif kind==33 then(k true) else
 (bif gq==3 then
 (bif k'==IntKind.i64.wrap ((↑iF.length:Int) - 1) then
 (bif kind==33 then(k true) else
 (bif !k'==IntKind.i64.wrap ((↑iF.length:Int) - 1) then((M.iL kind).bind fun aNE=>(k aNE)) else(k false))) else
 (bif !k'==IntKind.i64.wrap ((↑iF.length:Int) - 1) then((M.iL kind).bind fun aNF=>(k aNF)) else(k false))) else(k false))) else
 (bif gq==3 then
 (bif k'==IntKind.i64.wrap ((↑iF.length:Int) - 1) then
 (bif kind==33 then(k true) else
 (bif !k'==IntKind.i64.wrap ((↑iF.length:Int) - 1) then((M.iL kind).bind fun aNG=>(k aNG)) else(k false))) else
 (bif !k'==IntKind.i64.wrap ((↑iF.length:Int) - 1) then((M.iL kind).bind fun aNH=>(k aNH)) else(k false))) else(k false)))) else
 (bif n'==43 then
 (bif decide (k'<2) then
 ((M.iL kind).bind fun aNI=>(bif aNI then(k true) else(bif k'==2 then(k (kind==33)) else(k false)))) else(bif k'==2 then(k (kind==33)) else(k false))) else
 (bif n'==44 then
 (bif k'==IntKind.i64.wrap ((↑iF.length:Int) - 1) then
 (bif kind==33 then(k true) else(bif !k'==IntKind.i64.wrap ((↑iF.length:Int) - 1) then(k (kind==1)) else(k false))) else(bif !k'==IntKind.i64.wrap ((↑iF.length:Int) - 1) then(k (kind==1)) else(k false))) else
 (bif n'==45 then((M.dL kind 40 44).bind fun aNJ=>(bif aNJ then(k true) else(k (kind==34)))) else((M.iL kind).bind fun aNK=>(k aNK))))))))))))))))
def M.aG(n' gq:Int)(iT iG:aF)(iF:ak)(k' kind:Int):Option (Bool):=M.aO n' gq iT iG iF k' kind some
theorem C.aG:S.aG.ok X0 fun x=>M.aG x.1.1.1 x.1.1.2.1 x.1.1.2.2.1 x.1.1.2.2.2.1 x.1.1.2.2.2.2.1 x.1.2.1 x.1.2.2.1:=fnS (fun x=>M.aO x.1.1.1 x.1.1.2.1 x.1.1.2.2.1 x.1.1.2.2.2.1 x.1.1.2.2.2.2.1 x.1.2.1 x.1.2.2.1) [fe C.og,fe C.iL,fe C.ug,fe C.dL] [] (by intros;unfold M.aO;repeat' first|with_reducible apply gG|with_reducible apply Gp|with_reducible apply Gq|with_reducible apply Gs|with_reducible apply Gt|(intro _)|apply gG|rfl)
def M.yP{R:Type}(l:ak)(i s:Int)(kn:Int→Option R)(ke:(Unit)⊕(Int)→Option R):Option R:=match s with
 |k'=>
 (idx l i).bind fun awl=>
 ((BK 1 awl 4).bind fun atG=>
 (bif decide (k'<(↑atG.length:Int)) then
 ((idx l i).bind fun abw=>
 ((dn .i64 abw 0).bind fun n231=>
 ((dn .i64 abw 1).bind fun n232=>
 ((cStr abw 2).bind fun aNL=>
 ((cStr abw 3).bind fun aNM=>
 ((BK 1 abw 4).bind fun atH=>
 ((idx l i).bind fun awm=>
 ((BK 1 awm 4).bind fun atI=>
 ((idx atI k').bind fun awn=>
 ((dn .i64 awn 0).bind fun n239=>
 ((idx l n239).bind fun awo=>
 ((dn .i64 awo 0).bind fun n241=>
 ((M.aG n231 n232 aNL aNM atH k' n241).bind fun aNN=>(bif !aNN then(ke (.inl ())) else(kn (IntKind.i64.wrap (k'+1))))))))))))))))) else(ke (.inr k'))))
def M.JB(l:ak)(i s:Int):=M.yP l i s (fun s=>some (Sum.inl s)) fun t=>some (Sum.inr t)
def M.Dl(l:ak)(i s:Int):Option ((Unit)⊕(Int)):=iR (M.JB l i) s
def F.Dl:LE X0 29:=le 9 (La [fU 0 (pL false 5),fU 3 pI,fU 4 pI] []) (fun x=>x.1.2.2.1) (fun x s=>((x.1.1,x.1.2.1,s,()),())) (fun x=> .sum (.leaf (Unit) (fun t=>(Ex.ret,{tm:=[(2,V.d (D.bool false))],mem:=[]}))) (.leaf (Int) (fun t=>(Ex.exit 2,{tm:=[(0,V.d (D.sl false 5 x.1.1)),(3,V.d (D.int .i64 x.1.2.1)),(4,V.d (D.int .i64 t)),(32,V.d (D.bool false))],mem:=[]})))) (fun x=>M.yP x.1.1 x.1.2.1) [fe C.aG] [] (by rintro _ _ _ _ _<;>simp only[M.yP,nb]<;>rfl)
def M.yQ{R:Type}(l:ak)(s:Int)(kn:Int→Option R)(ke:(Unit)⊕(Int)→Option R):Option R:=match s with
 |i=>
 bif decide (i<(↑l.length:Int)) then
 ((idx l i).bind fun agu=>
 ((dn .i64 agu 0).bind fun n70=>
 ((dn .i64 agu 1).bind fun n71=>
 ((cStr agu 2).bind fun s72=>
 ((cStr agu 3).bind fun s73=>
 ((BK 1 agu 4).bind fun awp=>
 ((M.ay n70 n71 s72 s73 awp).bind fun aNO=>
 (bif !aNO then(ke (.inl ())) else
 ((M.Dl l i 0).bind fun aNP=>
 xZ aNP (fun aUa=>(ke (.inl ()))) fun aNQ=>
 letE aNQ fun aUb=>(kn (IntKind.i64.wrap (i+1)))))))))))) else(ke (.inr i))
def M.JC(l:ak)(s:Int):=M.yQ l s (fun s=>some (Sum.inl s)) fun t=>some (Sum.inr t)
def M.Dn(l:ak)(s:Int):Option ((Unit)⊕(Int)):=iR (M.JC l) s
def F.Dn:LE X0 29:=le 4 (La [fU 0 (pL false 5),fU 3 pI] []) (fun x=>x.1.2.1) (fun x s=>((x.1.1,s,()),())) (fun x=> .sum (.leaf (Unit) (fun t=>(Ex.ret,{tm:=[(2,V.d (D.bool false))],mem:=[]}))) (.leaf (Int) (fun t=>(Ex.exit 0,{tm:=[(0,V.d (D.sl false 5 x.1.1)),(3,V.d (D.int .i64 t)),(16,V.d (D.bool false))],mem:=[]})))) (fun x=>M.yQ x.1.1) [fe C.ay] [F.Dl] (by rintro _ _ _ _ _<;>simp only[M.yQ,nb]<;>rfl)
def M.J9{R:Type}(l:ak)(k:Bool→Option R):Option R:=
 (M.qK l).bind fun r52=>
 (bif !r52 then(k false) else
 ((M.wE l).bind fun r68=>
 (bif decide (r68>40) then(k false) else
 ((M.Dn l 0).bind fun aNR=>
 xZ aNR (fun aUc=>(k false)) fun aNS=>
 letE aNS fun aUd=>(k true)))))
def M.zO(l:ak):Option (Bool):=M.J9 l some
theorem C.zO:S.zO.ok X0 fun x=>M.zO x.1.1:=fnS (fun x=>M.J9 x.1.1) [fe C.qK,fe C.wE] [F.Dn] (by intros;simp only[M.J9,nb]<;>rfl)
def M.U4{R:Type}(k:Int×Bool×Bool×Bool×Bool→Option R):Option R:=
 k ((1,false,false,false,false))
def M.gJ:Option (Int×Bool×Bool×Bool×Bool):=M.U4 some
theorem C.gJ:S.gJ.ok X0 fun x=>M.gJ:=fnS (fun x=>M.U4) [] [] (by intros;simp only[M.U4,nb]<;>rfl)
def M.LU{R:Type}(p:Int)(p1 p2 p3 p4:Bool)(k:Bool→Option R):Option R:=
 (M.dL p 1 15).bind fun aNT=>(bif aNT then(bif !p1 then(k true) else(k (p==14))) else(k false))
def M.yc(p:Int)(p1 p2 p3 p4:Bool):Option (Bool):=M.LU p p1 p2 p3 p4 some
theorem C.yc:S.yc.ok X0 fun x=>M.yc x.1.1.1 x.1.1.2.1 x.1.1.2.2.1 x.1.1.2.2.2.1 x.1.1.2.2.2.2.1:=fnS (fun x=>M.LU x.1.1.1 x.1.1.2.1 x.1.1.2.2.1 x.1.1.2.2.2.1 x.1.1.2.2.2.2.1) [fe C.dL] [] (by intros;unfold M.LU;repeat' first|with_reducible apply gG|with_reducible apply Gp|with_reducible apply Gq|with_reducible apply Gs|with_reducible apply Gt|(intro _)|apply gG|rfl)
def M.Ih{R:Type}(op':Int)(k:Int→Option R):Option R:=
 bif op'==44 then(k 3) else
 (bif op'==45 then(k 4) else
 (bif op'==67 then(k 6) else
 (bif op'==46 then(k 6) else
 (bif op'==63 then(k 7) else
 (bif op'==48 then(k 7) else
 (bif op'==47 then(k 7) else
 (bif op'==50 then(k 7) else
 (bif op'==62 then(k 7) else
 (bif op'==49 then(k 7) else
 (bif op'==99 then(k 8) else
 (bif op'==55 then(k 9) else
 (bif op'==56 then(k 9) else
 (bif op'==57 then(k 10) else
 (bif op'==58 then(k 10) else(bif op'==59 then(k 10) else(bif op'==60 then(k 12) else(k 0)))))))))))))))))
def M.qM(op':Int):Option (Int):=M.Ih op' some
theorem C.qM:S.qM.ok X0 fun x=>M.qM x.1.1:=fnS (fun x=>M.Ih x.1.1) [] [] (by intros;unfold M.Ih;repeat' first|with_reducible apply gG|with_reducible apply Gp|with_reducible apply Gq|with_reducible apply Gs|with_reducible apply Gt|(intro _)|apply gG|rfl)
def M.Ii{R:Type}(n' gq:Int)(iT iG:aF)(iF:ak)(k:Int→Option R):Option R:=
 bif n'==15 then(k 1) else
 (bif n'==14 then(k 2) else
 (bif n'==13 then(k 5) else
 (bif n'==12 then((M.qM gq).bind fun aNU=>(k aNU)) else
 (bif n'==11 then(k 11) else
 (bif n'==9 then(k 13) else
 (bif n'==10 then(k 13) else
 (bif n'==6 then(k 14) else
 (bif n'==1 then(k 15) else
 (bif n'==2 then(k 15) else
 (bif n'==3 then(k 15) else
 (bif n'==4 then(k 15) else
 (bif n'==5 then(k 15) else(bif n'==7 then(k 15) else(bif n'==8 then(k 15) else(k 0)))))))))))))))
def M.dU(n' gq:Int)(iT iG:aF)(iF:ak):Option (Int):=M.Ii n' gq iT iG iF some
theorem C.dU:S.dU.ok X0 fun x=>M.dU x.1.1.1 x.1.1.2.1 x.1.1.2.2.1 x.1.1.2.2.2.1 x.1.1.2.2.2.2.1:=fnS (fun x=>M.Ii x.1.1.1 x.1.1.2.1 x.1.1.2.2.1 x.1.1.2.2.2.1 x.1.1.2.2.2.2.1) [fe C.qM] [] (by intros;unfold M.Ii;repeat' first|with_reducible apply gG|with_reducible apply Gp|with_reducible apply Gq|with_reducible apply Gs|with_reducible apply Gt|(intro _)|apply gG|rfl)
def M.N7{R:Type}(n' gq:Int)(iT iG:aF)(iF:ak)(p:Int)(p1 p2 p3 p4:Bool)(k:Bool→Option R):Option R:=
 (M.yc p p1 p2 p3 p4).bind fun aNV=>
 (bif !aNV then(k false) else
 ((M.dU n' gq iT iG iF).bind fun aNW=>
 (bif aNW==0 then(k false) else
 (bif p2 then
 (bif n'==13 then(k false) else
 (bif p3 then
 (bif n'==12 then
 (bif gq==62 then(k false) else
 (bif p4 then
 (bif n'==11 then(k false) else
 (bif n'==9 then(k false) else
 (bif n'==4 then(k false) else
 (bif p1 then
 (bif n'==9 then(k true) else((M.dU n' gq iT iG iF).bind fun aNX=>(k (decide (aNX≥p))))) else((M.dU n' gq iT iG iF).bind fun aNY=>(k (decide (aNY≥p)))))))) else
 (bif p1 then
 (bif n'==9 then(k true) else((M.dU n' gq iT iG iF).bind fun aNZ=>(k (decide (aNZ≥p))))) else((M.dU n' gq iT iG iF).bind fun aN0=>(k (decide (aN0≥p))))))) else
 (bif p4 then
 (bif n'==11 then(k false) else
 (bif n'==9 then(k false) else
 (bif n'==4 then(k false) else
 (bif p1 then
 (bif n'==9 then(k true) else((M.dU n' gq iT iG iF).bind fun aN1=>(k (decide (aN1≥p))))) else((M.dU n' gq iT iG iF).bind fun aN2=>(k (decide (aN2≥p)))))))) else
 (bif p1 then
 (bif n'==9 then(k true) else((M.dU n' gq iT iG iF).bind fun aN3=>(k (decide (aN3≥p))))) else((M.dU n' gq iT iG iF).bind fun aN4=>(k (decide (aN4≥p))))))) else
 (bif p4 then
 (bif n'==11 then(k false) else
 (bif n'==9 then(k false) else
 (bif n'==4 then(k false) else
 (bif p1 then
 (bif n'==9 then(k true) else((M.dU n' gq iT iG iF).bind fun aN5=>(k (decide (aN5≥p))))) else((M.dU n' gq iT iG iF).bind fun aN6=>(k (decide (aN6≥p)))))))) else
 (bif p1 then
 (bif n'==9 then(k true) else((M.dU n' gq iT iG iF).bind fun aN7=>(k (decide (aN7≥p))))) else((M.dU n' gq iT iG iF).bind fun aN8=>(k (decide (aN8≥p)))))))) else
 (bif p3 then
 (bif n'==12 then
 (bif gq==62 then(k false) else
 (bif p4 then
 (bif n'==11 then(k false) else
 (bif n'==9 then(k false) else
 (bif n'==4 then(k false) else
 (bif p1 then
 (bif n'==9 then(k true) else((M.dU n' gq iT iG iF).bind fun aN9=>(k (decide (aN9≥p))))) else((M.dU n' gq iT iG iF).bind fun aOa=>(k (decide (aOa≥p)))))))) else
 (bif p1 then
 (bif n'==9 then(k true) else((M.dU n' gq iT iG iF).bind fun aOb=>(k (decide (aOb≥p))))) else((M.dU n' gq iT iG iF).bind fun aOc=>(k (decide (aOc≥p))))))) else
 (bif p4 then
 (bif n'==11 then(k false) else
 (bif n'==9 then(k false) else
 (bif n'==4 then(k false) else
 (bif p1 then
 (bif n'==9 then(k true) else((M.dU n' gq iT iG iF).bind fun aOd=>(k (decide (aOd≥p))))) else((M.dU n' gq iT iG iF).bind fun aOe=>(k (decide (aOe≥p)))))))) else
 (bif p1 then
 (bif n'==9 then(k true) else((M.dU n' gq iT iG iF).bind fun aOf=>(k (decide (aOf≥p))))) else((M.dU n' gq iT iG iF).bind fun aOg=>(k (decide (aOg≥p))))))) else
 (bif p4 then
 (bif n'==11 then(k false) else
 (bif n'==9 then(k false) else
 (bif n'==4 then(k false) else
 (bif p1 then
 (bif n'==9 then(k true) else((M.dU n' gq iT iG iF).bind fun aOh=>(k (decide (aOh≥p))))) else((M.dU n' gq iT iG iF).bind fun aOi=>(k (decide (aOi≥p)))))))) else
 (bif p1 then
 (bif n'==9 then(k true) else((M.dU n' gq iT iG iF).bind fun aOj=>(k (decide (aOj≥p))))) else((M.dU n' gq iT iG iF).bind fun aOk=>(k (decide (aOk≥p)))))))))))
def M.Bz(n' gq:Int)(iT iG:aF)(iF:ak)(p:Int)(p1 p2 p3 p4:Bool):Option (Bool):=M.N7 n' gq iT iG iF p p1 p2 p3 p4 some
theorem C.Bz:S.Bz.ok X0 fun x=>M.Bz x.1.1.1 x.1.1.2.1 x.1.1.2.2.1 x.1.1.2.2.2.1 x.1.1.2.2.2.2.1 x.1.2.1.1 x.1.2.1.2.1 x.1.2.1.2.2.1 x.1.2.1.2.2.2.1 x.1.2.1.2.2.2.2.1:=fnS (fun x=>M.N7 x.1.1.1 x.1.1.2.1 x.1.1.2.2.1 x.1.1.2.2.2.1 x.1.1.2.2.2.2.1 x.1.2.1.1 x.1.2.1.2.1 x.1.2.1.2.2.1 x.1.2.1.2.2.2.1 x.1.2.1.2.2.2.2.1) [fe C.yc,fe C.dU] [] (by intros;unfold M.N7;repeat' first|with_reducible apply gG|with_reducible apply Gp|with_reducible apply Gq|with_reducible apply Gs|with_reducible apply Gt|(intro _)|apply gG|rfl)
def M.dD{R:Type}(n' gq:Int)(iT iG:aF)(iF:ak)(k:Int×aF×Int→Option R):Option R:=
 bif n'==1 then(k ((6,iT,0))) else
 (bif n'==2 then(k ((3,iT,0))) else
 (bif n'==3 then(k ((4,iT,0))) else(bif n'==4 then(k ((5,iT,0))) else(k ((0,[],0))))))
def M.dJ(n' gq:Int)(iT iG:aF)(iF:ak):Option (Int×aF×Int):=M.dD n' gq iT iG iF some
theorem C.dJ:S.dJ.ok X0 fun x=>M.dJ x.1.1.1 x.1.1.2.1 x.1.1.2.2.1 x.1.1.2.2.2.1 x.1.1.2.2.2.2.1:=fnS (fun x=>M.dD x.1.1.1 x.1.1.2.1 x.1.1.2.2.1 x.1.1.2.2.2.1 x.1.1.2.2.2.2.1) [] [] (by intros;simp only[M.dD,nb]<;>rfl)
def M.Ij{R:Type}(s':aF)(k:ak→Option R):Option R:=
 k ([[D.int .i64 1,D.int .i64 0,D.str s',D.sl true 1 []]])
def M.aJ(s':aF):Option (ak):=M.Ij s' some
theorem C.aJ:S.aJ.ok X0 fun x=>M.aJ x.1.1:=fnS (fun x=>M.Ij x.1.1) [] [] (by intros;simp only[M.Ij,nb]<;>rfl)
def M.Ik{R:Type}(k:ak→Option R):Option R:=
 k ([[D.int .i64 2,D.int .i64 0,D.str [],D.sl true 1 []]])
def M.oK:Option (ak):=M.Ik some
theorem C.oK:S.oK.ok X0 fun x=>M.oK:=fnS (fun x=>M.Ik) [] [] (by intros;simp only[M.Ik,nb]<;>rfl)
def M.uX{R:Type}(l:ak)(by' i:Int)(x':ak)(uJ xX:Int)(CV:aF)(s:Int×ak)(kn:Int×ak→Option R)(ke:Int×ak→Option R):Option R:=match s with
 |(k',zC)=>
 (idx l i).bind fun awq=>
 ((BK 1 awq 3).bind fun atJ=>
 (bif decide (k'<(↑atJ.length:Int)) then
 ((idx l i).bind fun awr=>
 ((BK 1 awr 3).bind fun atK=>
 ((idx atK k').bind fun awt=>
 ((dn .i64 awt 0).bind fun awu=>
 (bif((zC.length+[[D.int .i64 (IntKind.i64.wrap (awu+by'))]].length) * 8).ble 140737488355328 then
 (bif(zC.length+[[D.int .i64 (IntKind.i64.wrap (awu+by'))]].length).ble 140737488355328 then
 (kn ((IntKind.i64.wrap (k'+1),zC++[[D.int .i64 (IntKind.i64.wrap (awu+by'))]]))) else none) else none))))) else(ke ((k',zC)))))
def M.Ag(l:ak)(by' i:Int)(x':ak)(uJ xX:Int)(CV:aF)(s:Int×ak):=M.uX l by' i x' uJ xX CV s (fun s=>some (Sum.inl s)) fun t=>some (Sum.inr t)
def M.D7(l:ak)(by' i:Int)(x':ak)(uJ xX:Int)(CV:aF)(s:Int×ak):Option (Int×ak):=iR (M.Ag l by' i x' uJ xX CV) s
def F.D7:LE X0 100:=le 8 (La [fU 0 (pL false 4),fU 1 pI,fU 5 (pO 300000 0),fU 6 pI,fU 7 (pP 300001 0),fU 8 pI] [fU 300000 (cA false false 0 4),fU 300001 (cB 58 [pI,pI,pS,pO 300002 0]),fU 300002 (cA false true 0 1)]) (fun x=>(x.1.2.2.2.2.2.1,x.2.2.2.1)) (fun x s=>((x.1.1,x.1.2.1,(),x.1.2.2.2.1,(),s.1,()),(x.2.1,(x.2.2.1.1,x.2.2.1.2.1,x.2.2.1.2.2.1,(),()),s.2,()))) (fun x=> .leaf (Int×ak) (fun t=>(Ex.exit 2,{tm:=[(0,V.d (D.sl false 4 x.1.1)),(1,V.d (D.int .i64 x.1.2.1)),(5,V.own 300000 0),(6,V.d (D.int .i64 x.1.2.2.2.1)),(7,V.ptr 300001 0),(8,V.d (D.int .i64 t.1)),(29,V.d (D.bool false))],mem:=[(300000,Cell.arr false false 0 4 x.2.1),(300001,Cell.box 58 [V.d (D.int .i64 x.2.2.1.1),V.d (D.int .i64 x.2.2.1.2.1),V.d (D.str x.2.2.1.2.2.1),V.own 300002 0]),(300002,Cell.arr false true 0 1 t.2)]}))) (fun x=>M.uX x.1.1 x.1.2.1 x.1.2.2.2.1 x.2.1 x.2.2.1.1 x.2.2.1.2.1 x.2.2.1.2.2.1) [] [] (by rintro _ _ ⟨_,_⟩ _ _<;>simp only[M.uX,nb]<;>rfl)
def M.uY{R:Type}(l:ak)(by':Int)(s:Int×ak)(kn:Int×ak→Option R)(ke:Int×ak→Option R):Option R:=match s with
 |(i,x')=>
 bif decide (i<(↑l.length:Int)) then
 ((idx l i).bind fun afe=>
 ((dn .i64 afe 0).bind fun n345=>
 ((dn .i64 afe 1).bind fun n346=>
 ((cStr afe 2).bind fun atL=>
 ((BK 1 afe 3).bind fun aJ5=>
 ((M.D7 l by' i x' n345 n346 atL ((0,[]))).bind fun atM=>
 (bif aB atM.2 then
 (bif((x'.length+[[D.int .i64 n345,D.int .i64 n346,D.str atL,D.sl true 1 atM.2]].length) * 56).ble 140737488355328 then
 (bif(x'.length+[[D.int .i64 n345,D.int .i64 n346,D.str atL,D.sl true 1 atM.2]].length).ble 140737488355328 then
 (kn ((IntKind.i64.wrap (i+1),x'++[[D.int .i64 n345,D.int .i64 n346,D.str atL,D.sl true 1 atM.2]]))) else none) else none) else none))))))) else(ke ((i,x')))
def M.Ah(l:ak)(by':Int)(s:Int×ak):=M.uY l by' s (fun s=>some (Sum.inl s)) fun t=>some (Sum.inr t)
def M.D8(l:ak)(by':Int)(s:Int×ak):Option (Int×ak):=iR (M.Ah l by') s
def F.D8:LE X0 100:=le 3 (La [fU 0 (pL false 4),fU 1 pI,fU 5 (pO 300000 0),fU 6 pI] [fU 300000 (cA false false 0 4)]) (fun x=>(x.1.2.2.2.1,x.2.1)) (fun x s=>((x.1.1,x.1.2.1,(),s.1,()),(s.2,()))) (fun x=> .leaf (Int×ak) (fun t=>(Ex.exit 0,{tm:=[(0,V.d (D.sl false 4 x.1.1)),(1,V.d (D.int .i64 x.1.2.1)),(5,V.own 300000 0),(6,V.d (D.int .i64 t.1)),(13,V.d (D.bool false))],mem:=[(300000,Cell.arr false false 0 4 t.2)]}))) (fun x=>M.uY x.1.1 x.1.2.1) [] [F.D7] (by rintro _ _ ⟨_,_⟩ _ _<;>simp only[M.uY,nb]<;>rfl)
def M.Fp{R:Type}(l:ak)(by':Int)(k:ak→Option R):Option R:=
 (M.D8 l by' ((0,[]))).bind fun aOl=>(k aOl.2)
def M.oh(l:ak)(by':Int):Option (ak):=M.Fp l by' some
theorem C.oh:S.oh.ok X0 fun x=>M.oh x.1.1 x.1.2.1:=fnS (fun x=>M.Fp x.1.1 x.1.2.1) [] [F.D8] (by intros;simp only[M.Fp,nb]<;>rfl)
def M.rZ{R:Type}(s:(ak×Int×ak×Int×Int×aF)⊕(ak×Int×ak×Int×Int×aF×ak))(kn:(ak×Int×ak×Int×Int×aF)⊕(ak×Int×ak×Int×Int×aF×ak)→Option R)(ke:(ak×Int×ak×Int×Int×aF)⊕(ak×Int×ak×Int×Int×aF×ak)→Option R):Option R:=match s with
 | .inl ((parts,k',x',uJ,xX,CV))=>
 bif decide (k'<(↑parts.length:Int)) then
 ((idx parts k').bind fun awv=>
 ((BK 4 awv 0).bind fun atN=>
 ((M.oh atN ((↑x'.length:Int))).bind fun atO=>
 (bif((x'.length+atO.length) * 56).ble 140737488355328 then
 (bif(x'.length+atO.length).ble 140737488355328 then
 (kn (.inr ((parts,IntKind.i64.wrap (k'+1),x'++atO,uJ,xX,CV,[[D.int .i64 (IntKind.i64.wrap ((↑(x'++atO).length:Int) - 1))]])))) else none) else none)))) else(ke (.inl ((parts,k',x',uJ,xX,CV))))
 | .inr ((parts,k',x',uJ,xX,CV,zC))=>
 bif decide (k'<(↑parts.length:Int)) then
 ((idx parts k').bind fun aww=>
 ((BK 4 aww 0).bind fun atP=>
 ((M.oh atP ((↑x'.length:Int))).bind fun aoC=>
 (bif((x'.length+aoC.length) * 56).ble 140737488355328 then
 (bif(x'.length+aoC.length).ble 140737488355328 then
 (bif((zC.length+[[D.int .i64 (IntKind.i64.wrap ((↑(x'++aoC).length:Int) - 1))]].length) * 8).ble 140737488355328 then
 (bif(zC.length+[[D.int .i64 (IntKind.i64.wrap ((↑(x'++aoC).length:Int) - 1))]].length).ble 140737488355328 then
 (kn (.inr ((parts,IntKind.i64.wrap (k'+1),x'++aoC,uJ,xX,CV,zC++[[D.int .i64 (IntKind.i64.wrap ((↑(x'++aoC).length:Int) - 1))]])))) else none) else none) else none) else none)))) else(ke (.inr ((parts,k',x',uJ,xX,CV,zC))))
def M.xg(s:(ak×Int×ak×Int×Int×aF)⊕(ak×Int×ak×Int×Int×aF×ak)):=M.rZ s (fun s=>some (Sum.inl s)) fun t=>some (Sum.inr t)
def M.Fq(s:(ak×Int×ak×Int×Int×aF)⊕(ak×Int×ak×Int×Int×aF×ak)):Option ((ak×Int×ak×Int×Int×aF)⊕(ak×Int×ak×Int×Int×aF×ak)):=iR (M.xg) s
def F.Fq:LE X0 52:=le 4 (pOr (La [fU 2 (pL false 1),fU 7 (pO 300000 0),fU 8 (pP 300001 0),fU 9 pI] [fU 300000 (cA false false 0 4),fU 300001 (cB 58 [pI,pI,pS,abk 1])]) (La [fU 2 (pL false 1),fU 7 (pO 300000 0),fU 8 (pP 300001 0),fU 9 pI] [fU 300000 (cA false false 0 4),fU 300001 (cB 58 [pI,pI,pS,pO 300002 0]),fU 300002 (cA false true 0 1)])) (σ:=(ak×Int×ak×Int×Int×aF)⊕(ak×Int×ak×Int×Int×aF×ak)) (fun x=>(match x with| .inl x=> .inl ((x.1.1,x.1.2.2.2.1,x.2.1,x.2.2.1.1,x.2.2.1.2.1,x.2.2.1.2.2.1))| .inr x=> .inr ((x.1.1,x.1.2.2.2.1,x.2.1,x.2.2.1.1,x.2.2.1.2.1,x.2.2.1.2.2.1,x.2.2.2.1)))) (fun x s=>(match s with| .inl s=> .inl (((s.1,(),(),s.2.1,()),(s.2.2.1,(s.2.2.2.1,s.2.2.2.2.1,s.2.2.2.2.2,(),()),())))| .inr s=> .inr (((s.1,(),(),s.2.1,()),(s.2.2.1,(s.2.2.2.1,s.2.2.2.2.1,s.2.2.2.2.2.1,(),()),s.2.2.2.2.2.2,()))))) (fun x=> .sum (.leaf (ak×Int×ak×Int×Int×aF) (fun t=>(Ex.exit 0,{tm:=[(2,V.d (D.sl false 1 t.1)),(7,V.own 300000 0),(8,V.ptr 300001 0),(9,V.d (D.int .i64 t.2.1)),(17,V.d (D.bool false))],mem:=[(300000,Cell.arr false false 0 4 t.2.2.1),(300001,Cell.box 58 [V.d (D.int .i64 t.2.2.2.1),V.d (D.int .i64 t.2.2.2.2.1),V.d (D.str t.2.2.2.2.2),V.nil 1])]}))) (.leaf (ak×Int×ak×Int×Int×aF×ak) (fun t=>(Ex.exit 0,{tm:=[(2,V.d (D.sl false 1 t.1)),(7,V.own 300000 0),(8,V.ptr 300001 0),(9,V.d (D.int .i64 t.2.1)),(17,V.d (D.bool false))],mem:=[(300000,Cell.arr false false 0 4 t.2.2.1),(300001,Cell.box 58 [V.d (D.int .i64 t.2.2.2.1),V.d (D.int .i64 t.2.2.2.2.1),V.d (D.str t.2.2.2.2.2.1),V.own 300002 0]),(300002,Cell.arr false true 0 1 t.2.2.2.2.2.2)]})))) (fun x=>M.rZ) [fe C.oh] [] (by rintro _ _ (⟨_,_,_,_,_,_⟩|⟨_,_,_,_,_,_,_⟩) _ _<;>simp only[M.rZ,nb]<;>rfl) (hE:=by intro _ _ s _;rcases s with s|s<;>kernel_rfl)
def M.Il{R:Type}(kind n':Int)(parts:ak)(k:ak→Option R):Option R:=
 (M.Fq (.inl ((parts,0,[],kind,n',[])))).bind fun aOm=>
 xZ aOm (fun Zh=>
 (bif((Zh.2.2.1.length+[[D.int .i64 Zh.2.2.2.1,D.int .i64 Zh.2.2.2.2.1,D.str Zh.2.2.2.2.2,D.sl true 1 []]].length) * 56).ble 140737488355328 then
 (bif(Zh.2.2.1.length+[[D.int .i64 Zh.2.2.2.1,D.int .i64 Zh.2.2.2.2.1,D.str Zh.2.2.2.2.2,D.sl true 1 []]].length).ble 140737488355328 then
 (k (Zh.2.2.1++[[D.int .i64 Zh.2.2.2.1,D.int .i64 Zh.2.2.2.2.1,D.str Zh.2.2.2.2.2,D.sl true 1 []]])) else none) else none)) fun aOn=>
 letE aOn fun Ti=>
 (bif aB Ti.2.2.2.2.2.2 then
 (bif((Ti.2.2.1.length+[[D.int .i64 Ti.2.2.2.1,D.int .i64 Ti.2.2.2.2.1,D.str Ti.2.2.2.2.2.1,D.sl true 1 Ti.2.2.2.2.2.2]].length) * 56).ble 140737488355328 then
 (bif(Ti.2.2.1.length+[[D.int .i64 Ti.2.2.2.1,D.int .i64 Ti.2.2.2.2.1,D.str Ti.2.2.2.2.2.1,D.sl true 1 Ti.2.2.2.2.2.2]].length).ble 140737488355328 then
 (k (Ti.2.2.1++[[D.int .i64 Ti.2.2.2.1,D.int .i64 Ti.2.2.2.2.1,D.str Ti.2.2.2.2.2.1,D.sl true 1 Ti.2.2.2.2.2.2]])) else none) else none) else none)
def M.aT(kind n':Int)(parts:ak):Option (ak):=M.Il kind n' parts some
theorem C.aT:S.aT.ok X0 fun x=>M.aT x.1.1 x.1.2.1 x.1.2.2.1:=fnS (fun x=>M.Il x.1.1 x.1.2.1 x.1.2.2.1) [] [F.Fq] (by intros;simp only[M.Il,nb]<;>rfl)
def M.xk{R:Type}(dF:ak→Bool→Int→Int→Bool→Bool→Bool→Bool→Option (ak))(kids x':ak)(uJ:Bool)(xX:Int)(CV zC Rf LV:Bool)(s:Int×ak)(kn:Int×ak→Option R)(ke:Int×ak→Option R):Option R:=match s with
 |(k',ES)=>
 bif decide (k'<(↑kids.length:Int)) then
 (bif decide (k'>0) then
 ((M.aJ [44]).bind fun aqj=>
 (M.oK.bind fun aqk=>
 (bif((ES.length+[[D.sl true 4 aqj],[D.sl true 4 aqk]].length) * 24).ble 140737488355328 then
 (bif(ES.length+[[D.sl true 4 aqj],[D.sl true 4 aqk]].length).ble 140737488355328 then
 ((idx kids k').bind fun awx=>
 ((dn .i64 awx 0).bind fun n336=>
 ((dF x' uJ n336 xX CV zC Rf LV).bind fun awy=>
 (bif(((ES++[[D.sl true 4 aqj],[D.sl true 4 aqk]]).length+[[D.sl true 4 awy]].length) * 24).ble 140737488355328 then
 (bif((ES++[[D.sl true 4 aqj],[D.sl true 4 aqk]]).length+[[D.sl true 4 awy]].length).ble 140737488355328 then
 (kn ((IntKind.i64.wrap (k'+1),ES++[[D.sl true 4 aqj],[D.sl true 4 aqk]]++[[D.sl true 4 awy]]))) else none) else none)))) else none) else none))) else
 ((idx kids k').bind fun awz=>
 ((dn .i64 awz 0).bind fun n339=>
 ((dF x' uJ n339 xX CV zC Rf LV).bind fun awC=>
 (bif((ES.length+[[D.sl true 4 awC]].length) * 24).ble 140737488355328 then
 (bif(ES.length+[[D.sl true 4 awC]].length).ble 140737488355328 then(kn ((IntKind.i64.wrap (k'+1),ES++[[D.sl true 4 awC]]))) else none) else none))))) else(ke ((k',ES)))
def M.BX(dF:ak→Bool→Int→Int→Bool→Bool→Bool→Bool→Option (ak))(kids x':ak)(uJ:Bool)(xX:Int)(CV zC Rf LV:Bool)(s:Int×ak):=M.xk dF kids x' uJ xX CV zC Rf LV s (fun s=>some (Sum.inl s)) fun t=>some (Sum.inr t)
def M.Fv(dF:ak→Bool→Int→Int→Bool→Bool→Bool→Bool→Option (ak))(kids x':ak)(uJ:Bool)(xX:Int)(CV zC Rf LV:Bool)(s:Int×ak):Option (Int×ak):=iR (M.BX dF kids x' uJ xX CV zC Rf LV) s
def F.Fv{dF:ak→Bool→Int→Int→Bool→Bool→Bool→Bool→Option (ak)}(Ai:S.eH.ok X0 fun x=>dF x.1.1.1 x.1.1.2.1 x.1.2.1 x.1.2.2.1.1 x.1.2.2.1.2.1 x.1.2.2.1.2.2.1 x.1.2.2.1.2.2.2.1 x.1.2.2.1.2.2.2.2.1):LE X0 70:=le 3 (La [fU 1 (pL false 1),fU 3 (pP 300000 0),fU 5 (pP 300001 0),fU 7 (pO 300002 0),fU 8 pI] [fU 300000 (cB 45 [pL false 5,pB]),fU 300001 (cB 65 [pI,pB,pB,pB,pB]),fU 300002 (cA false false 0 1)]) (fun x=>(x.1.2.2.2.2.1,x.2.2.2.1)) (fun x s=>((x.1.1,(),(),(),s.1,()),((x.2.1.1,x.2.1.2.1,()),(x.2.2.1.1,x.2.2.1.2.1,x.2.2.1.2.2.1,x.2.2.1.2.2.2.1,x.2.2.1.2.2.2.2.1,()),s.2,()))) (fun x=> .leaf (Int×ak) (fun t=>(Ex.exit 0,{tm:=[(1,V.d (D.sl false 1 x.1.1)),(3,V.ptr 300000 0),(5,V.ptr 300001 0),(7,V.own 300002 0),(8,V.d (D.int .i64 t.1)),(13,V.d (D.bool false))],mem:=[(300000,Cell.box 45 [V.d (D.sl false 5 x.2.1.1),V.d (D.bool x.2.1.2.1)]),(300001,Cell.box 65 [V.d (D.int .i64 x.2.2.1.1),V.d (D.bool x.2.2.1.2.1),V.d (D.bool x.2.2.1.2.2.1),V.d (D.bool x.2.2.1.2.2.2.1),V.d (D.bool x.2.2.1.2.2.2.2.1)]),(300002,Cell.arr false false 0 1 t.2)]}))) (fun x=>M.xk dF x.1.1 x.2.1.1 x.2.1.2.1 x.2.2.1.1 x.2.2.1.2.1 x.2.2.1.2.2.1 x.2.2.1.2.2.2.1 x.2.2.1.2.2.2.2.1) [fe C.aJ,fe C.oK,fe Ai] [] (by rintro _ _ ⟨_,_⟩ _ _<;>unfold M.xk<;>repeat' first|with_reducible apply gG|with_reducible apply Gp|with_reducible apply Gq|with_reducible apply Gs|with_reducible apply Gt|(intro _)|apply gG|rfl)
def M.yR{R:Type}(dF:ak→Bool→Int→Int→Bool→Bool→Bool→Bool→Option (ak))(w:ak)(w1:Bool)(kids:ak)(p:Int)(p1 p2 p3 p4:Bool)(k:ak→Option R):Option R:=
 (M.Fv dF kids w w1 p p1 p2 p3 p4 ((0,[]))).bind fun aOo=>
 ((M.aT 6 0 (aA aOo.2)).bind fun aCa=>
 (bif[[D.sl true 4 aCa]].all dM then
 ((M.aT 4 4 (aA [[D.sl true 4 aCa]])).bind fun aCb=>
 (bif[[D.sl true 4 aCb]].all dM then
 ((M.aT 5 0 (aA [[D.sl true 4 aCb]])).bind fun aCc=>(bif[[D.sl true 4 aCc]].all dM then(k aCc) else none)) else none)) else none))
theorem C.Zi{dF:ak→Bool→Int→Int→Bool→Bool→Bool→Bool→Option (ak)}(Ai:S.eH.ok X0 fun x=>dF x.1.1.1 x.1.1.2.1 x.1.2.1 x.1.2.2.1.1 x.1.2.2.1.2.1 x.1.2.2.1.2.2.1 x.1.2.2.1.2.2.2.1 x.1.2.2.1.2.2.2.2.1):S.jd.ok X0 fun x=>M.yR dF x.1.1.1 x.1.1.2.1 x.1.2.1 x.1.2.2.1.1 x.1.2.2.1.2.1 x.1.2.2.1.2.2.1 x.1.2.2.1.2.2.2.1 x.1.2.2.1.2.2.2.2.1 some:=fnS (fun x=>M.yR dF x.1.1.1 x.1.1.2.1 x.1.2.1 x.1.2.2.1.1 x.1.2.2.1.2.1 x.1.2.2.1.2.2.1 x.1.2.2.1.2.2.2.1 x.1.2.2.1.2.2.2.2.1) [fe C.aT] [F.Fv Ai] (by intros;unfold M.yR;repeat' first|with_reducible apply gG|with_reducible apply Gp|with_reducible apply Gq|with_reducible apply Gs|with_reducible apply Gt|(intro _)|apply gG|rfl)
def M.vV{R:Type}(kH:ak→Bool→ak→Int→Bool→Bool→Bool→Bool→Option (ak))(w:ak)(w1:Bool)(n' gq:Int)(iT iG:aF)(iF:ak)(open' end':aF)(k:ak→Option R):Option R:=
 bif(iT.length+open'.length).ble 9223372036854775807 then
 ((M.aJ (iT++open')).bind fun aOp=>
 (M.gJ.bind fun aql=>
 ((kH w w1 iF aql.1 aql.2.1 aql.2.2.1 aql.2.2.2.1 aql.2.2.2.2).bind fun aOq=>
 ((M.aJ end').bind fun aOr=>
 ((M.aT 6 0 (aA [[D.sl true 4 aOp],[D.sl true 4 aOq],[D.sl true 4 aOr]])).bind fun aCd=>(bif[[D.sl true 4 aCd]].all dM then(k aCd) else none)))))) else none
theorem C.XU{kH:ak→Bool→ak→Int→Bool→Bool→Bool→Bool→Option (ak)}(MX:S.jd.ok X0 fun x=>kH x.1.1.1 x.1.1.2.1 x.1.2.1 x.1.2.2.1.1 x.1.2.2.1.2.1 x.1.2.2.1.2.2.1 x.1.2.2.1.2.2.2.1 x.1.2.2.1.2.2.2.2.1):S.yg.ok X0 fun x=>M.vV kH x.1.1.1 x.1.1.2.1 x.1.2.1.1 x.1.2.1.2.1 x.1.2.1.2.2.1 x.1.2.1.2.2.2.1 x.1.2.1.2.2.2.2.1 x.1.2.2.1 x.1.2.2.2.1 some:=fnS (fun x=>M.vV kH x.1.1.1 x.1.1.2.1 x.1.2.1.1 x.1.2.1.2.1 x.1.2.1.2.2.1 x.1.2.1.2.2.2.1 x.1.2.1.2.2.2.2.1 x.1.2.2.1 x.1.2.2.2.1) [fe C.aJ,fe C.gJ,fe MX,fe C.aT] [] (by intros;unfold M.vV;repeat' first|with_reducible apply gG|with_reducible apply Gp|with_reducible apply Gq|with_reducible apply Gs|with_reducible apply Gt|(intro _)|apply gG|rfl)
def M.uG{R:Type}(jM:ak→Bool→Int→Int→Bool→Bool→Bool→Bool→Option (ak))(w:ak)(w1:Bool)(i:Int)(k:ak→Option R):Option R:=
 (jM w w1 i 14 false false false false).bind fun aOs=>(k aOs)
theorem C.V4{jM:ak→Bool→Int→Int→Bool→Bool→Bool→Bool→Option (ak)}(MZ:S.wJ.ok X0 fun x=>jM x.1.1.1 x.1.1.2.1 x.1.2.1 x.1.2.2.1.1 x.1.2.2.1.2.1 x.1.2.2.1.2.2.1 x.1.2.2.1.2.2.2.1 x.1.2.2.1.2.2.2.2.1):S.uP.ok X0 fun x=>M.uG jM x.1.1.1 x.1.1.2.1 x.1.2.1 some:=fnS (fun x=>M.uG jM x.1.1.1 x.1.1.2.1 x.1.2.1) [fe MZ] [] (by intros;unfold M.uG;repeat' first|with_reducible apply gG|with_reducible apply Gp|with_reducible apply Gq|with_reducible apply Gs|with_reducible apply Gt|(intro _)|apply gG|rfl)
def M.Io{R:Type}(op':Int)(k:Int×Int→Option R):Option R:=
 (M.qM op').bind fun amo=>
 (bif amo==3 then(k ((3,4))) else
 (bif amo==4 then(k ((4,5))) else
 (bif amo==6 then(k ((7,7))) else
 (bif amo==7 then(k ((8,8))) else
 (bif amo==8 then(k ((8,9))) else
 (bif amo==9 then(k ((9,10))) else(bif amo==10 then(k ((10,11))) else(k ((13,11))))))))))
def M.tN(op':Int):Option (Int×Int):=M.Io op' some
theorem C.tN:S.tN.ok X0 fun x=>M.tN x.1.1:=fnS (fun x=>M.Io x.1.1) [fe C.qM] [] (by intros;simp only[M.Io,nb]<;>rfl)
def M.Ko{R:Type}(n' gq:Int)(iT iG:aF)(iF:ak)(k' p:Int)(p1 p2 p3 p4:Bool)(k:Int×Bool×Bool×Bool×Bool→Option R):Option R:=
 (M.yc p p1 p2 p3 p4).bind fun aOt=>
 (bif !aOt then(k ((0,false,false,false,false))) else
 ((M.dL k' 0 (IntKind.i64.wrap ((↑iF.length:Int) - 1))).bind fun aOu=>
 (bif !aOu then(k ((0,false,false,false,false))) else
 ((M.dU n' gq iT iG iF).bind fun aOv=>
 (bif aOv==0 then(k ((0,false,false,false,false))) else
 (bif p4 then
 (bif n'==15 then
 (bif decide (k'>0) then(k ((1,false,p2,p3,k'==0))) else(k ((14,false,p2,p3,k'==0)))) else
 (bif n'==14 then(bif k'==0 then(k ((3,false,p2,p3,k'==0))) else(k ((2,false,p2,p3,k'==0)))) else
 (bif n'==13 then
 (bif decide ((↑iF.length:Int)>1) then
 (M.gJ.bind fun aqm=>
 (k ((aqm.1,aqm.2.1,aqm.2.2.1,aqm.2.2.2.1,aqm.2.2.2.2)))) else(k ((5,false,p2,p3,k'==0)))) else
 (bif n'==12 then
 ((M.tN gq).bind fun aCe=>
 (bif decide (k'>0) then(k ((aCe.2,false,p2,p3,gq==99))) else(k ((aCe.1,false,p2,p3,k'==0))))) else
 (bif n'==11 then(k ((11,false,p2,p3,false))) else
 (bif n'==9 then(k ((14,false,p2,p3,false))) else
 (bif n'==10 then(k ((14,false,p2,p3,false))) else
 (bif n'==6 then(k ((14,true,p2,p3,false))) else
 (M.gJ.bind fun aqn=>
 (k ((aqn.1,aqn.2.1,aqn.2.2.1,aqn.2.2.2.1,aqn.2.2.2.2)))))))))))) else
 (bif n'==15 then
 (bif decide (k'>0) then(k ((1,false,p2,p3,false))) else(k ((14,false,p2,p3,false)))) else
 (bif n'==14 then(bif k'==0 then(k ((3,false,p2,p3,false))) else(k ((2,false,p2,p3,false)))) else
 (bif n'==13 then
 (bif decide ((↑iF.length:Int)>1) then
 (M.gJ.bind fun aqo=>
 (k ((aqo.1,aqo.2.1,aqo.2.2.1,aqo.2.2.2.1,aqo.2.2.2.2)))) else(k ((5,false,p2,p3,false)))) else
 (bif n'==12 then
 ((M.tN gq).bind fun aCf=>
 (bif decide (k'>0) then(k ((aCf.2,false,p2,p3,gq==99))) else(k ((aCf.1,false,p2,p3,false))))) else
 (bif n'==11 then(k ((11,false,p2,p3,false))) else
 (bif n'==9 then(k ((14,false,p2,p3,false))) else
 (bif n'==10 then(k ((14,false,p2,p3,false))) else
 (bif n'==6 then(k ((14,true,p2,p3,false))) else
 (M.gJ.bind fun aqp=>
 (k ((aqp.1,aqp.2.1,aqp.2.2.1,aqp.2.2.2.1,aqp.2.2.2.2))))))))))))))))))
def M.fD(n' gq:Int)(iT iG:aF)(iF:ak)(k' p:Int)(p1 p2 p3 p4:Bool):Option (Int×Bool×Bool×Bool×Bool):=M.Ko n' gq iT iG iF k' p p1 p2 p3 p4 some
theorem C.fD:S.fD.ok X0 fun x=>M.fD x.1.1.1 x.1.1.2.1 x.1.1.2.2.1 x.1.1.2.2.2.1 x.1.1.2.2.2.2.1 x.1.2.1 x.1.2.2.1.1 x.1.2.2.1.2.1 x.1.2.2.1.2.2.1 x.1.2.2.1.2.2.2.1 x.1.2.2.1.2.2.2.2.1:=fnS (fun x=>M.Ko x.1.1.1 x.1.1.2.1 x.1.1.2.2.1 x.1.1.2.2.2.1 x.1.1.2.2.2.2.1 x.1.2.1 x.1.2.2.1.1 x.1.2.2.1.2.1 x.1.2.2.1.2.2.1 x.1.2.2.1.2.2.2.1 x.1.2.2.1.2.2.2.2.1) [fe C.yc,fe C.dL,fe C.dU,fe C.gJ,fe C.tN] [] (by intros;unfold M.Ko;repeat' first|with_reducible apply gG|with_reducible apply Gp|with_reducible apply Gq|with_reducible apply Gs|with_reducible apply Gt|(intro _)|apply gG|rfl)
def M.Kq{R:Type}(kind:Int)(k:Int×aF×Int→Option R):Option R:=
 (M.jl kind).bind fun aOw=>(k ((kind,aOw,0)))
def M.dX(kind:Int):Option (Int×aF×Int):=M.Kq kind some
theorem C.dX:S.dX.ok X0 fun x=>M.dX x.1.1:=fnS (fun x=>M.Kq x.1.1) [fe C.jl] [] (by intros;simp only[M.Kq,nb]<;>rfl)
def M.xq{R:Type}(dG:ak→Bool→Int→Int→Bool→Bool→Bool→Bool→Option (ak))(kids x':ak)(uJ:Bool)(s:Int×ak)(kn:Int×ak→Option R)(ke:Int×ak→Option R):Option R:=match s with
 |(k',xX)=>
 bif decide (k'<(↑kids.length:Int)) then
 (bif decide (k'>0) then
 ((M.dX 36).bind fun U5=>
 (bif((xX.length+[[D.int .i64 U5.1,D.str U5.2.1,D.int .i64 U5.2.2]].length) * 32).ble 140737488355328 then
 (bif(xX.length+[[D.int .i64 U5.1,D.str U5.2.1,D.int .i64 U5.2.2]].length).ble 140737488355328 then
 ((idx kids k').bind fun awD=>
 ((dn .i64 awD 0).bind fun aOx=>
 (M.gJ.bind fun aqr=>
 ((dG x' uJ aOx aqr.1 aqr.2.1 aqr.2.2.1 aqr.2.2.2.1 aqr.2.2.2.2).bind fun awE=>
 (bif(((xX++[[D.int .i64 U5.1,D.str U5.2.1,D.int .i64 U5.2.2]]).length+awE.length) * 32).ble 140737488355328 then
 (bif((xX++[[D.int .i64 U5.1,D.str U5.2.1,D.int .i64 U5.2.2]]).length+awE.length).ble 140737488355328 then
 (kn ((IntKind.i64.wrap (k'+1),xX++[[D.int .i64 U5.1,D.str U5.2.1,D.int .i64 U5.2.2]]++awE))) else none) else none))))) else none) else none)) else
 ((idx kids k').bind fun awF=>
 ((dn .i64 awF 0).bind fun aOy=>
 (M.gJ.bind fun aqs=>
 ((dG x' uJ aOy aqs.1 aqs.2.1 aqs.2.2.1 aqs.2.2.2.1 aqs.2.2.2.2).bind fun awG=>
 (bif((xX.length+awG.length) * 32).ble 140737488355328 then
 (bif(xX.length+awG.length).ble 140737488355328 then(kn ((IntKind.i64.wrap (k'+1),xX++awG))) else none) else none)))))) else(ke ((k',xX)))
def M.BZ(dG:ak→Bool→Int→Int→Bool→Bool→Bool→Bool→Option (ak))(kids x':ak)(uJ:Bool)(s:Int×ak):=M.xq dG kids x' uJ s (fun s=>some (Sum.inl s)) fun t=>some (Sum.inr t)
def M.Fz(dG:ak→Bool→Int→Int→Bool→Bool→Bool→Bool→Option (ak))(kids x':ak)(uJ:Bool)(s:Int×ak):Option (Int×ak):=iR (M.BZ dG kids x' uJ) s
def F.Fz{dG:ak→Bool→Int→Int→Bool→Bool→Bool→Bool→Option (ak)}(Aj:S.oL.ok X0 fun x=>dG x.1.1.1 x.1.1.2.1 x.1.2.1 x.1.2.2.1.1 x.1.2.2.1.2.1 x.1.2.2.1.2.2.1 x.1.2.2.1.2.2.2.1 x.1.2.2.1.2.2.2.2.1):LE X0 229:=le 3 (La [fU 1 (pL false 1),fU 2 (pP 300000 0),fU 5 (pO 300001 0),fU 6 pI] [fU 300000 (cB 45 [pL false 5,pB]),fU 300001 (cA false true 0 3)]) (fun x=>(x.1.2.2.2.1,x.2.2.1)) (fun x s=>((x.1.1,(),(),s.1,()),((x.2.1.1,x.2.1.2.1,()),s.2,()))) (fun x=> .leaf (Int×ak) (fun t=>(Ex.exit 0,{tm:=[(1,V.d (D.sl false 1 x.1.1)),(2,V.ptr 300000 0),(5,V.own 300001 0),(6,V.d (D.int .i64 t.1)),(11,V.d (D.bool false))],mem:=[(300000,Cell.box 45 [V.d (D.sl false 5 x.2.1.1),V.d (D.bool x.2.1.2.1)]),(300001,Cell.arr false true 0 3 t.2)]}))) (fun x=>M.xq dG x.1.1 x.2.1.1 x.2.1.2.1) [fe C.dX,fe C.gJ,fe Aj] [] (by rintro _ _ ⟨_,_⟩ _ _<;>unfold M.xq<;>repeat' first|with_reducible apply gG|with_reducible apply Gp|with_reducible apply Gq|with_reducible apply Gs|with_reducible apply Gt|(intro _)|apply gG|rfl)
def M.yS{R:Type}(dG:ak→Bool→Int→Int→Bool→Bool→Bool→Bool→Option (ak))(w:ak)(w1:Bool)(kids:ak)(k:ak→Option R):Option R:=
 (M.Fz dG kids w w1 ((0,[]))).bind fun aCg=>(bif aB aCg.2 then(k aCg.2) else none)
theorem C.Zj{dG:ak→Bool→Int→Int→Bool→Bool→Bool→Bool→Option (ak)}(Aj:S.oL.ok X0 fun x=>dG x.1.1.1 x.1.1.2.1 x.1.2.1 x.1.2.2.1.1 x.1.2.2.1.2.1 x.1.2.2.1.2.2.1 x.1.2.2.1.2.2.2.1 x.1.2.2.1.2.2.2.2.1):S.wH.ok X0 fun x=>M.yS dG x.1.1.1 x.1.1.2.1 x.1.2.1 some:=fnS (fun x=>M.yS dG x.1.1.1 x.1.1.2.1 x.1.2.1) [] [F.Fz Aj] (by intros;unfold M.yS;repeat' first|with_reducible apply gG|with_reducible apply Gp|with_reducible apply Gq|with_reducible apply Gs|with_reducible apply Gt|(intro _)|apply gG|rfl)
def M.vW{R:Type}(kJ:ak→Bool→ak→Option (ak))(w:ak)(w1:Bool)(t':Int)(gX:aF)(iK:Int)(kids:ak)(open':Int)(k:ak→Option R):Option R:=
 (M.dX open').bind fun Qp=>
 ((kJ w w1 kids).bind fun aoD=>
 (bif(([[D.int .i64 t',D.str gX,D.int .i64 iK],[D.int .i64 Qp.1,D.str Qp.2.1,D.int .i64 Qp.2.2]].length+aoD.length) * 32).ble 140737488355328 then
 (bif([[D.int .i64 t',D.str gX,D.int .i64 iK],[D.int .i64 Qp.1,D.str Qp.2.1,D.int .i64 Qp.2.2]].length+aoD.length).ble 140737488355328 then
 ((M.dX (IntKind.i64.wrap (open'+1))).bind fun Zk=>
 (bif((([[D.int .i64 t',D.str gX,D.int .i64 iK],[D.int .i64 Qp.1,D.str Qp.2.1,D.int .i64 Qp.2.2]]++aoD).length+[[D.int .i64 Zk.1,D.str Zk.2.1,D.int .i64 Zk.2.2]].length) * 32).ble 140737488355328 then
 (bif(([[D.int .i64 t',D.str gX,D.int .i64 iK],[D.int .i64 Qp.1,D.str Qp.2.1,D.int .i64 Qp.2.2]]++aoD).length+[[D.int .i64 Zk.1,D.str Zk.2.1,D.int .i64 Zk.2.2]].length).ble 140737488355328 then
 (bif aB ([[D.int .i64 t',D.str gX,D.int .i64 iK],[D.int .i64 Qp.1,D.str Qp.2.1,D.int .i64 Qp.2.2]]++aoD++[[D.int .i64 Zk.1,D.str Zk.2.1,D.int .i64 Zk.2.2]]) then
 (k ([[D.int .i64 t',D.str gX,D.int .i64 iK],[D.int .i64 Qp.1,D.str Qp.2.1,D.int .i64 Qp.2.2]]++aoD++[[D.int .i64 Zk.1,D.str Zk.2.1,D.int .i64 Zk.2.2]])) else none) else none) else none)) else none) else none))
theorem C.XV{kJ:ak→Bool→ak→Option (ak)}(Nh:S.wH.ok X0 fun x=>kJ x.1.1.1 x.1.1.2.1 x.1.2.1):S.yh.ok X0 fun x=>M.vW kJ x.1.1.1 x.1.1.2.1 x.1.2.1.1 x.1.2.1.2.1 x.1.2.1.2.2.1 x.1.2.2.1 x.1.2.2.2.1 some:=fnS (fun x=>M.vW kJ x.1.1.1 x.1.1.2.1 x.1.2.1.1 x.1.2.1.2.1 x.1.2.1.2.2.1 x.1.2.2.1 x.1.2.2.2.1) [fe C.dX,fe Nh] [] (by intros;unfold M.vW;repeat' first|with_reducible apply gG|with_reducible apply Gp|with_reducible apply Gq|with_reducible apply Gs|with_reducible apply Gt|(intro _)|apply gG|rfl)
def M.uH{R:Type}(fJ:ak→Bool→Int→Int→Bool→Bool→Bool→Bool→Option (ak))(w:ak)(w1:Bool)(i:Int)(k:ak→Option R):Option R:=
 (fJ w w1 i 14 false false false false).bind fun aCh=>(bif aB aCh then(k aCh) else none)
theorem C.V5{fJ:ak→Bool→Int→Int→Bool→Bool→Bool→Bool→Option (ak)}(Nj:S.wI.ok X0 fun x=>fJ x.1.1.1 x.1.1.2.1 x.1.2.1 x.1.2.2.1.1 x.1.2.2.1.2.1 x.1.2.2.1.2.2.1 x.1.2.2.1.2.2.2.1 x.1.2.2.1.2.2.2.2.1):S.uQ.ok X0 fun x=>M.uH fJ x.1.1.1 x.1.1.2.1 x.1.2.1 some:=fnS (fun x=>M.uH fJ x.1.1.1 x.1.1.2.1 x.1.2.1) [fe Nj] [] (by intros;unfold M.uH;repeat' first|with_reducible apply gG|with_reducible apply Gp|with_reducible apply Gq|with_reducible apply Gs|with_reducible apply Gt|(intro _)|apply gG|rfl)
def M.pY{R:Type}(dG:ak→Bool→Int→Int→Bool→Bool→Bool→Bool→Option (ak))(w:ak)(w1:Bool)(n' gq:Int)(iT iG:aF)(iF:ak)(p:Int)(p1 p2 p3 p4:Bool)(k:ak→Option R):Option R:=
 (idx iF 0).bind fun awH=>
 ((dn .i64 awH 0).bind fun aOz=>
 ((M.fD n' gq iT iG iF 0 p p1 p2 p3 p4).bind fun aqt=>
 ((dG w w1 aOz aqt.1 aqt.2.1 aqt.2.2.1 aqt.2.2.2.1 aqt.2.2.2.2).bind fun O6=>
 (bif n'==14 then
 ((M.dX 65).bind fun G7=>
 (bif((O6.length+[[D.int .i64 G7.1,D.str G7.2.1,D.int .i64 G7.2.2]].length) * 32).ble 140737488355328 then
 (bif(O6.length+[[D.int .i64 G7.1,D.str G7.2.1,D.int .i64 G7.2.2]].length).ble 140737488355328 then
 ((idx iF 1).bind fun awI=>
 ((dn .i64 awI 0).bind fun aOA=>
 ((M.fD n' gq iT iG iF 1 p p1 p2 p3 p4).bind fun aqu=>
 ((dG w w1 aOA aqu.1 aqu.2.1 aqu.2.2.1 aqu.2.2.2.1 aqu.2.2.2.2).bind fun agv=>
 (bif(((O6++[[D.int .i64 G7.1,D.str G7.2.1,D.int .i64 G7.2.2]]).length+agv.length) * 32).ble 140737488355328 then
 (bif((O6++[[D.int .i64 G7.1,D.str G7.2.1,D.int .i64 G7.2.2]]).length+agv.length).ble 140737488355328 then
 ((M.dX 66).bind fun Qq=>
 (bif(((O6++[[D.int .i64 G7.1,D.str G7.2.1,D.int .i64 G7.2.2]]++agv).length+[[D.int .i64 Qq.1,D.str Qq.2.1,D.int .i64 Qq.2.2]].length) * 32).ble 140737488355328 then
 (bif((O6++[[D.int .i64 G7.1,D.str G7.2.1,D.int .i64 G7.2.2]]++agv).length+[[D.int .i64 Qq.1,D.str Qq.2.1,D.int .i64 Qq.2.2]].length).ble 140737488355328 then
 ((idx iF 2).bind fun awJ=>
 ((dn .i64 awJ 0).bind fun aOB=>
 ((M.fD n' gq iT iG iF 2 p p1 p2 p3 p4).bind fun aqv=>
 ((dG w w1 aOB aqv.1 aqv.2.1 aqv.2.2.1 aqv.2.2.2.1 aqv.2.2.2.2).bind fun atQ=>
 (bif(((O6++[[D.int .i64 G7.1,D.str G7.2.1,D.int .i64 G7.2.2]]++agv++[[D.int .i64 Qq.1,D.str Qq.2.1,D.int .i64 Qq.2.2]]).length+atQ.length) * 32).ble 140737488355328 then
 (bif((O6++[[D.int .i64 G7.1,D.str G7.2.1,D.int .i64 G7.2.2]]++agv++[[D.int .i64 Qq.1,D.str Qq.2.1,D.int .i64 Qq.2.2]]).length+atQ.length).ble 140737488355328 then
 (bif aB (O6++[[D.int .i64 G7.1,D.str G7.2.1,D.int .i64 G7.2.2]]++agv++[[D.int .i64 Qq.1,D.str Qq.2.1,D.int .i64 Qq.2.2]]++atQ) then
 (k (O6++[[D.int .i64 G7.1,D.str G7.2.1,D.int .i64 G7.2.2]]++agv++[[D.int .i64 Qq.1,D.str Qq.2.1,D.int .i64 Qq.2.2]]++atQ)) else none) else none) else none))))) else none) else none)) else none) else none))))) else none) else none)) else
 (bif gq !=99 then
 ((M.dX gq).bind fun Qr=>
 (bif((O6.length+[[D.int .i64 Qr.1,D.str Qr.2.1,D.int .i64 Qr.2.2]].length) * 32).ble 140737488355328 then
 (bif(O6.length+[[D.int .i64 Qr.1,D.str Qr.2.1,D.int .i64 Qr.2.2]].length).ble 140737488355328 then
 ((idx iF 1).bind fun awK=>
 ((dn .i64 awK 0).bind fun aOC=>
 ((M.fD n' gq iT iG iF 1 p p1 p2 p3 p4).bind fun aqw=>
 ((dG w w1 aOC aqw.1 aqw.2.1 aqw.2.2.1 aqw.2.2.2.1 aqw.2.2.2.2).bind fun atS=>
 (bif(((O6++[[D.int .i64 Qr.1,D.str Qr.2.1,D.int .i64 Qr.2.2]]).length+atS.length) * 32).ble 140737488355328 then
 (bif((O6++[[D.int .i64 Qr.1,D.str Qr.2.1,D.int .i64 Qr.2.2]]).length+atS.length).ble 140737488355328 then
 (bif aB (O6++[[D.int .i64 Qr.1,D.str Qr.2.1,D.int .i64 Qr.2.2]]++atS) then
 (k (O6++[[D.int .i64 Qr.1,D.str Qr.2.1,D.int .i64 Qr.2.2]]++atS)) else none) else none) else none))))) else none) else none)) else
 ((idx iF 1).bind fun awL=>
 ((dn .i64 awL 0).bind fun aOD=>
 ((M.fD n' gq iT iG iF 1 p p1 p2 p3 p4).bind fun aqx=>
 ((dG w w1 aOD aqx.1 aqx.2.1 aqx.2.2.1 aqx.2.2.2.1 aqx.2.2.2.2).bind fun atT=>
 (bif((O6.length+atT.length) * 32).ble 140737488355328 then
 (bif(O6.length+atT.length).ble 140737488355328 then(bif aB (O6++atT) then(k (O6++atT)) else none) else none) else none))))))))))
theorem C.XW{dG:ak→Bool→Int→Int→Bool→Bool→Bool→Bool→Option (ak)}(Aj:S.oL.ok X0 fun x=>dG x.1.1.1 x.1.1.2.1 x.1.2.1 x.1.2.2.1.1 x.1.2.2.1.2.1 x.1.2.2.1.2.2.1 x.1.2.2.1.2.2.2.1 x.1.2.2.1.2.2.2.2.1):S.yj.ok X0 fun x=>M.pY dG x.1.1.1 x.1.1.2.1 x.1.2.1.1 x.1.2.1.2.1 x.1.2.1.2.2.1 x.1.2.1.2.2.2.1 x.1.2.1.2.2.2.2.1 x.1.2.2.1.1 x.1.2.2.1.2.1 x.1.2.2.1.2.2.1 x.1.2.2.1.2.2.2.1 x.1.2.2.1.2.2.2.2.1 some:=fnS (fun x=>M.pY dG x.1.1.1 x.1.1.2.1 x.1.2.1.1 x.1.2.1.2.1 x.1.2.1.2.2.1 x.1.2.1.2.2.2.1 x.1.2.1.2.2.2.2.1 x.1.2.2.1.1 x.1.2.2.1.2.1 x.1.2.2.1.2.2.1 x.1.2.2.1.2.2.2.1 x.1.2.2.1.2.2.2.2.1) [fe C.fD,fe Aj,fe C.dX] [] (by intros;unfold M.pY;repeat' first|with_reducible apply gG|with_reducible apply Gp|with_reducible apply Gq|with_reducible apply Gs|with_reducible apply Gt|(intro _)|apply gG|rfl)
def M.fV{R:Type}(oQ:ak→Bool→Int→aF→Int→ak→Int→Option (ak))(nM:ak→Bool→Int→Option (ak))(dG:ak→Bool→Int→Int→Bool→Bool→Bool→Bool→Option (ak))(kJ:ak→Bool→ak→Option (ak))(xu:ak→Bool→Int→Int→aF→aF→ak→Int→Bool→Bool→Bool→Bool→Option (ak))(w:ak)(w1:Bool)(i p:Int)(p1 p2 p3 p4:Bool)(k:ak→Option R):Option R:=
 (idx w i).bind fun abx=>
 ((dn .i64 abx 0).bind fun U6=>
 ((dn .i64 abx 1).bind fun ade=>
 ((cStr abx 2).bind fun Rh=>
 ((cStr abx 3).bind fun aoE=>
 ((BK 1 abx 4).bind fun vN=>
 ((M.dJ U6 ade Rh aoE vN).bind fun atU=>
 (bif atU.1 !=0 then(k ([[D.int .i64 atU.1,D.str atU.2.1,D.int .i64 atU.2.2]])) else
 (bif U6==5 then
 ((oQ w w1 6 Rh 0 vN 34).bind fun aCi=>(bif aB aCi then(k aCi) else none)) else
 (bif U6==7 then
 ((oQ w w1 7 Rh 0 vN 32).bind fun aCj=>(bif aB aCj then(k aCj) else none)) else
 (bif U6==8 then
 ((oQ w w1 8 Rh 0 vN 32).bind fun aCk=>(bif aB aCk then(k aCk) else none)) else
 (bif U6==9 then
 ((M.dX ade).bind fun Zl=>
 ((idx vN 0).bind fun awM=>
 ((dn .i64 awM 0).bind fun aOE=>
 ((nM w w1 aOE).bind fun atV=>
 (bif(([[D.int .i64 Zl.1,D.str Zl.2.1,D.int .i64 Zl.2.2]].length+atV.length) * 32).ble 140737488355328 then
 (bif([[D.int .i64 Zl.1,D.str Zl.2.1,D.int .i64 Zl.2.2]].length+atV.length).ble 140737488355328 then
 (bif aB ([[D.int .i64 Zl.1,D.str Zl.2.1,D.int .i64 Zl.2.2]]++atV) then
 (k ([[D.int .i64 Zl.1,D.str Zl.2.1,D.int .i64 Zl.2.2]]++atV)) else none) else none) else none))))) else
 (bif U6==10 then
 ((idx vN 0).bind fun awN=>
 ((dn .i64 awN 0).bind fun aOF=>
 ((nM w w1 aOF).bind fun atW=>
 ((M.dX ade).bind fun Zm=>
 (bif((atW.length+[[D.int .i64 Zm.1,D.str Zm.2.1,D.int .i64 Zm.2.2]].length) * 32).ble 140737488355328 then
 (bif(atW.length+[[D.int .i64 Zm.1,D.str Zm.2.1,D.int .i64 Zm.2.2]].length).ble 140737488355328 then
 (bif aB (atW++[[D.int .i64 Zm.1,D.str Zm.2.1,D.int .i64 Zm.2.2]]) then
 (k (atW++[[D.int .i64 Zm.1,D.str Zm.2.1,D.int .i64 Zm.2.2]])) else none) else none) else none))))) else
 (bif U6==15 then
 ((idx vN 0).bind fun awO=>
 ((dn .i64 awO 0).bind fun aOG=>
 ((nM w w1 aOG).bind fun aoF=>
 ((M.dX ade).bind fun Qs=>
 (bif((aoF.length+[[D.int .i64 Qs.1,D.str Qs.2.1,D.int .i64 Qs.2.2]].length) * 32).ble 140737488355328 then
 (bif(aoF.length+[[D.int .i64 Qs.1,D.str Qs.2.1,D.int .i64 Qs.2.2]].length).ble 140737488355328 then
 ((idx vN 1).bind fun awP=>
 ((dn .i64 awP 0).bind fun aOH=>
 ((M.fD U6 ade Rh aoE vN 1 p p1 p2 p3 p4).bind fun aqy=>
 ((dG w w1 aOH aqy.1 aqy.2.1 aqy.2.2.1 aqy.2.2.2.1 aqy.2.2.2.2).bind fun atX=>
 (bif(((aoF++[[D.int .i64 Qs.1,D.str Qs.2.1,D.int .i64 Qs.2.2]]).length+atX.length) * 32).ble 140737488355328 then
 (bif((aoF++[[D.int .i64 Qs.1,D.str Qs.2.1,D.int .i64 Qs.2.2]]).length+atX.length).ble 140737488355328 then
 (bif aB (aoF++[[D.int .i64 Qs.1,D.str Qs.2.1,D.int .i64 Qs.2.2]]++atX) then
 (k (aoF++[[D.int .i64 Qs.1,D.str Qs.2.1,D.int .i64 Qs.2.2]]++atX)) else none) else none) else none))))) else none) else none))))) else
 (bif U6==6 then
 ((M.dX 68).bind fun Zn=>
 ((idx vN 0).bind fun awQ=>
 ((dn .i64 awQ 0).bind fun aOI=>
 ((M.fD U6 ade Rh aoE vN 0 p p1 p2 p3 p4).bind fun aqz=>
 ((dG w w1 aOI aqz.1 aqz.2.1 aqz.2.2.1 aqz.2.2.2.1 aqz.2.2.2.2).bind fun atY=>
 (bif(([[D.int .i64 Zn.1,D.str Zn.2.1,D.int .i64 Zn.2.2]].length+atY.length) * 32).ble 140737488355328 then
 (bif([[D.int .i64 Zn.1,D.str Zn.2.1,D.int .i64 Zn.2.2]].length+atY.length).ble 140737488355328 then
 (bif aB ([[D.int .i64 Zn.1,D.str Zn.2.1,D.int .i64 Zn.2.2]]++atY) then
 (k ([[D.int .i64 Zn.1,D.str Zn.2.1,D.int .i64 Zn.2.2]]++atY)) else none) else none) else none)))))) else
 (bif U6==11 then
 ((M.dX ade).bind fun Zo=>
 ((idx vN 0).bind fun awR=>
 ((dn .i64 awR 0).bind fun aOJ=>
 ((M.fD U6 ade Rh aoE vN 0 p p1 p2 p3 p4).bind fun aqA=>
 ((dG w w1 aOJ aqA.1 aqA.2.1 aqA.2.2.1 aqA.2.2.2.1 aqA.2.2.2.2).bind fun atZ=>
 (bif(([[D.int .i64 Zo.1,D.str Zo.2.1,D.int .i64 Zo.2.2]].length+atZ.length) * 32).ble 140737488355328 then
 (bif([[D.int .i64 Zo.1,D.str Zo.2.1,D.int .i64 Zo.2.2]].length+atZ.length).ble 140737488355328 then
 (bif aB ([[D.int .i64 Zo.1,D.str Zo.2.1,D.int .i64 Zo.2.2]]++atZ) then
 (k ([[D.int .i64 Zo.1,D.str Zo.2.1,D.int .i64 Zo.2.2]]++atZ)) else none) else none) else none)))))) else
 (bif U6==13 then
 ((idx vN 0).bind fun awS=>
 ((dn .i64 awS 0).bind fun aOK=>
 ((M.fD U6 ade Rh aoE vN 0 p p1 p2 p3 p4).bind fun aqB=>
 ((dG w w1 aOK aqB.1 aqB.2.1 aqB.2.2.1 aqB.2.2.2.1 aqB.2.2.2.2).bind fun at1=>
 (bif decide ((↑vN.length:Int)>1) then
 ((M.dX 32).bind fun LW=>
 ((kJ w w1 vN).bind fun agw=>
 (bif(([[D.int .i64 LW.1,D.str LW.2.1,D.int .i64 LW.2.2]].length+agw.length) * 32).ble 140737488355328 then
 (bif([[D.int .i64 LW.1,D.str LW.2.1,D.int .i64 LW.2.2]].length+agw.length).ble 140737488355328 then
 ((M.dX 33).bind fun Qu=>
 (bif((([[D.int .i64 LW.1,D.str LW.2.1,D.int .i64 LW.2.2]]++agw).length+[[D.int .i64 Qu.1,D.str Qu.2.1,D.int .i64 Qu.2.2]].length) * 32).ble 140737488355328 then
 (bif(([[D.int .i64 LW.1,D.str LW.2.1,D.int .i64 LW.2.2]]++agw).length+[[D.int .i64 Qu.1,D.str Qu.2.1,D.int .i64 Qu.2.2]].length).ble 140737488355328 then
 ((M.dX 24).bind fun Zp=>
 (bif((([[D.int .i64 LW.1,D.str LW.2.1,D.int .i64 LW.2.2]]++agw++[[D.int .i64 Qu.1,D.str Qu.2.1,D.int .i64 Qu.2.2]]).length+[[D.int .i64 Zp.1,D.str Zp.2.1,D.int .i64 Zp.2.2],[D.int .i64 6,D.str Rh,D.int .i64 0]].length) * 32).ble 140737488355328 then
 (bif(([[D.int .i64 LW.1,D.str LW.2.1,D.int .i64 LW.2.2]]++agw++[[D.int .i64 Qu.1,D.str Qu.2.1,D.int .i64 Qu.2.2]]).length+[[D.int .i64 Zp.1,D.str Zp.2.1,D.int .i64 Zp.2.2],[D.int .i64 6,D.str Rh,D.int .i64 0]].length).ble 140737488355328 then
 (bif aB ([[D.int .i64 LW.1,D.str LW.2.1,D.int .i64 LW.2.2]]++agw++[[D.int .i64 Qu.1,D.str Qu.2.1,D.int .i64 Qu.2.2]]++[[D.int .i64 Zp.1,D.str Zp.2.1,D.int .i64 Zp.2.2],[D.int .i64 6,D.str Rh,D.int .i64 0]]) then
 (k ([[D.int .i64 LW.1,D.str LW.2.1,D.int .i64 LW.2.2]]++agw++[[D.int .i64 Qu.1,D.str Qu.2.1,D.int .i64 Qu.2.2]]++[[D.int .i64 Zp.1,D.str Zp.2.1,D.int .i64 Zp.2.2],[D.int .i64 6,D.str Rh,D.int .i64 0]])) else none) else none) else none)) else none) else none)) else none) else none))) else
 ((M.dX 24).bind fun Zq=>
 (bif((at1.length+[[D.int .i64 Zq.1,D.str Zq.2.1,D.int .i64 Zq.2.2],[D.int .i64 6,D.str Rh,D.int .i64 0]].length) * 32).ble 140737488355328 then
 (bif(at1.length+[[D.int .i64 Zq.1,D.str Zq.2.1,D.int .i64 Zq.2.2],[D.int .i64 6,D.str Rh,D.int .i64 0]].length).ble 140737488355328 then
 (bif aB (at1++[[D.int .i64 Zq.1,D.str Zq.2.1,D.int .i64 Zq.2.2],[D.int .i64 6,D.str Rh,D.int .i64 0]]) then
 (k (at1++[[D.int .i64 Zq.1,D.str Zq.2.1,D.int .i64 Zq.2.2],[D.int .i64 6,D.str Rh,D.int .i64 0]])) else none) else none) else none))))))) else
 ((xu w w1 U6 ade Rh aoE vN p p1 p2 p3 p4).bind fun aCl=>(bif aB aCl then(k aCl) else none))))))))))))))))))
theorem C.Zr{oQ:ak→Bool→Int→aF→Int→ak→Int→Option (ak)}{nM:ak→Bool→Int→Option (ak)}{dG:ak→Bool→Int→Int→Bool→Bool→Bool→Bool→Option (ak)}{kJ:ak→Bool→ak→Option (ak)}{xu:ak→Bool→Int→Int→aF→aF→ak→Int→Bool→Bool→Bool→Bool→Option (ak)}(Zt:S.yh.ok X0 fun x=>oQ x.1.1.1 x.1.1.2.1 x.1.2.1.1 x.1.2.1.2.1 x.1.2.1.2.2.1 x.1.2.2.1 x.1.2.2.2.1)(XY:S.uQ.ok X0 fun x=>nM x.1.1.1 x.1.1.2.1 x.1.2.1)(Aj:S.oL.ok X0 fun x=>dG x.1.1.1 x.1.1.2.1 x.1.2.1 x.1.2.2.1.1 x.1.2.2.1.2.1 x.1.2.2.1.2.2.1 x.1.2.2.1.2.2.2.1 x.1.2.2.1.2.2.2.2.1)(Nh:S.wH.ok X0 fun x=>kJ x.1.1.1 x.1.1.2.1 x.1.2.1)(Zu:S.yj.ok X0 fun x=>xu x.1.1.1 x.1.1.2.1 x.1.2.1.1 x.1.2.1.2.1 x.1.2.1.2.2.1 x.1.2.1.2.2.2.1 x.1.2.1.2.2.2.2.1 x.1.2.2.1.1 x.1.2.2.1.2.1 x.1.2.2.1.2.2.1 x.1.2.2.1.2.2.2.1 x.1.2.2.1.2.2.2.2.1):S.wI.ok X0 fun x=>M.fV oQ nM dG kJ xu x.1.1.1 x.1.1.2.1 x.1.2.1 x.1.2.2.1.1 x.1.2.2.1.2.1 x.1.2.2.1.2.2.1 x.1.2.2.1.2.2.2.1 x.1.2.2.1.2.2.2.2.1 some:=fnS (fun x=>M.fV oQ nM dG kJ xu x.1.1.1 x.1.1.2.1 x.1.2.1 x.1.2.2.1.1 x.1.2.2.1.2.1 x.1.2.2.1.2.2.1 x.1.2.2.1.2.2.2.1 x.1.2.2.1.2.2.2.2.1) [fe C.dJ,fe Zt,fe C.dX,fe XY,fe C.fD,fe Aj,fe Nh,fe Zu] [] (by intros;unfold M.fV;repeat' first|with_reducible apply gG|with_reducible apply Gp|with_reducible apply Gq|with_reducible apply Gs|with_reducible apply Gt|(intro _)|apply gG|rfl)
def M.D9{R:Type}(fJ:ak→Bool→Int→Int→Bool→Bool→Bool→Bool→Option (ak))(w:ak)(w1:Bool)(i p:Int)(p1 p2 p3 p4:Bool)(k:ak→Option R):Option R:=
 (idx w i).bind fun aby=>
 ((dn .i64 aby 0).bind fun aOL=>
 ((dn .i64 aby 1).bind fun aOM=>
 ((cStr aby 2).bind fun aON=>
 ((cStr aby 3).bind fun aOO=>
 ((BK 1 aby 4).bind fun at6=>
 ((M.Bz aOL aOM aON aOO at6 p p1 p2 p3 p4).bind fun aOP=>
 (bif aOP then
 (bif !w1 then
 ((fJ w w1 i p p1 p2 p3 p4).bind fun aCm=>(bif aB aCm then(k aCm) else none)) else
 (bif w1 then
 ((idx w i).bind fun abz=>
 ((dn .i64 abz 0).bind fun aOQ=>
 ((dn .i64 abz 1).bind fun aOR=>
 ((cStr abz 2).bind fun aOS=>
 ((cStr abz 3).bind fun aOT=>
 ((BK 1 abz 4).bind fun at7=>
 ((M.dU aOQ aOR aOS aOT at7).bind fun aOU=>
 (bif aOU==15 then
 ((idx w i).bind fun awT=>
 ((dn .i64 awT 0).bind fun aOV=>
 (bif aOV !=4 then
 ((fJ w w1 i p p1 p2 p3 p4).bind fun aCn=>(bif aB aCn then(k aCn) else none)) else
 ((M.dX 32).bind fun Qv=>
 (M.gJ.bind fun aqC=>
 ((fJ w w1 i aqC.1 aqC.2.1 aqC.2.2.1 aqC.2.2.2.1 aqC.2.2.2.2).bind fun aoG=>
 (bif(([[D.int .i64 Qv.1,D.str Qv.2.1,D.int .i64 Qv.2.2]].length+aoG.length) * 32).ble 140737488355328 then
 (bif([[D.int .i64 Qv.1,D.str Qv.2.1,D.int .i64 Qv.2.2]].length+aoG.length).ble 140737488355328 then
 ((M.dX 33).bind fun Zv=>
 (bif((([[D.int .i64 Qv.1,D.str Qv.2.1,D.int .i64 Qv.2.2]]++aoG).length+[[D.int .i64 Zv.1,D.str Zv.2.1,D.int .i64 Zv.2.2]].length) * 32).ble 140737488355328 then
 (bif(([[D.int .i64 Qv.1,D.str Qv.2.1,D.int .i64 Qv.2.2]]++aoG).length+[[D.int .i64 Zv.1,D.str Zv.2.1,D.int .i64 Zv.2.2]].length).ble 140737488355328 then
 (bif aB ([[D.int .i64 Qv.1,D.str Qv.2.1,D.int .i64 Qv.2.2]]++aoG++[[D.int .i64 Zv.1,D.str Zv.2.1,D.int .i64 Zv.2.2]]) then
 (k ([[D.int .i64 Qv.1,D.str Qv.2.1,D.int .i64 Qv.2.2]]++aoG++[[D.int .i64 Zv.1,D.str Zv.2.1,D.int .i64 Zv.2.2]])) else none) else none) else none)) else none) else none))))))) else
 ((M.dX 32).bind fun Qw=>
 (M.gJ.bind fun aqD=>
 ((fJ w w1 i aqD.1 aqD.2.1 aqD.2.2.1 aqD.2.2.2.1 aqD.2.2.2.2).bind fun aoH=>
 (bif(([[D.int .i64 Qw.1,D.str Qw.2.1,D.int .i64 Qw.2.2]].length+aoH.length) * 32).ble 140737488355328 then
 (bif([[D.int .i64 Qw.1,D.str Qw.2.1,D.int .i64 Qw.2.2]].length+aoH.length).ble 140737488355328 then
 ((M.dX 33).bind fun Zw=>
 (bif((([[D.int .i64 Qw.1,D.str Qw.2.1,D.int .i64 Qw.2.2]]++aoH).length+[[D.int .i64 Zw.1,D.str Zw.2.1,D.int .i64 Zw.2.2]].length) * 32).ble 140737488355328 then
 (bif(([[D.int .i64 Qw.1,D.str Qw.2.1,D.int .i64 Qw.2.2]]++aoH).length+[[D.int .i64 Zw.1,D.str Zw.2.1,D.int .i64 Zw.2.2]].length).ble 140737488355328 then
 (bif aB ([[D.int .i64 Qw.1,D.str Qw.2.1,D.int .i64 Qw.2.2]]++aoH++[[D.int .i64 Zw.1,D.str Zw.2.1,D.int .i64 Zw.2.2]]) then
 (k ([[D.int .i64 Qw.1,D.str Qw.2.1,D.int .i64 Qw.2.2]]++aoH++[[D.int .i64 Zw.1,D.str Zw.2.1,D.int .i64 Zw.2.2]])) else none) else none) else none)) else none) else none)))))))))))) else
 ((M.dX 32).bind fun Qx=>
 (M.gJ.bind fun aqE=>
 ((fJ w w1 i aqE.1 aqE.2.1 aqE.2.2.1 aqE.2.2.2.1 aqE.2.2.2.2).bind fun aoI=>
 (bif(([[D.int .i64 Qx.1,D.str Qx.2.1,D.int .i64 Qx.2.2]].length+aoI.length) * 32).ble 140737488355328 then
 (bif([[D.int .i64 Qx.1,D.str Qx.2.1,D.int .i64 Qx.2.2]].length+aoI.length).ble 140737488355328 then
 ((M.dX 33).bind fun Zx=>
 (bif((([[D.int .i64 Qx.1,D.str Qx.2.1,D.int .i64 Qx.2.2]]++aoI).length+[[D.int .i64 Zx.1,D.str Zx.2.1,D.int .i64 Zx.2.2]].length) * 32).ble 140737488355328 then
 (bif(([[D.int .i64 Qx.1,D.str Qx.2.1,D.int .i64 Qx.2.2]]++aoI).length+[[D.int .i64 Zx.1,D.str Zx.2.1,D.int .i64 Zx.2.2]].length).ble 140737488355328 then
 (bif aB ([[D.int .i64 Qx.1,D.str Qx.2.1,D.int .i64 Qx.2.2]]++aoI++[[D.int .i64 Zx.1,D.str Zx.2.1,D.int .i64 Zx.2.2]]) then
 (k ([[D.int .i64 Qx.1,D.str Qx.2.1,D.int .i64 Qx.2.2]]++aoI++[[D.int .i64 Zx.1,D.str Zx.2.1,D.int .i64 Zx.2.2]])) else none) else none) else none)) else none) else none)))))) else
 (bif w1 then
 ((idx w i).bind fun abA=>
 ((dn .i64 abA 0).bind fun aOW=>
 ((dn .i64 abA 1).bind fun aOX=>
 ((cStr abA 2).bind fun aOY=>
 ((cStr abA 3).bind fun aOZ=>
 ((BK 1 abA 4).bind fun aua=>
 ((M.dU aOW aOX aOY aOZ aua).bind fun aO0=>
 (bif aO0==15 then
 ((idx w i).bind fun awU=>
 ((dn .i64 awU 0).bind fun aO1=>
 (bif aO1 !=4 then
 ((fJ w w1 i p p1 p2 p3 p4).bind fun aCo=>(bif aB aCo then(k aCo) else none)) else
 ((M.dX 32).bind fun Qy=>
 (M.gJ.bind fun aqF=>
 ((fJ w w1 i aqF.1 aqF.2.1 aqF.2.2.1 aqF.2.2.2.1 aqF.2.2.2.2).bind fun aoJ=>
 (bif(([[D.int .i64 Qy.1,D.str Qy.2.1,D.int .i64 Qy.2.2]].length+aoJ.length) * 32).ble 140737488355328 then
 (bif([[D.int .i64 Qy.1,D.str Qy.2.1,D.int .i64 Qy.2.2]].length+aoJ.length).ble 140737488355328 then
 ((M.dX 33).bind fun Zy=>
 (bif((([[D.int .i64 Qy.1,D.str Qy.2.1,D.int .i64 Qy.2.2]]++aoJ).length+[[D.int .i64 Zy.1,D.str Zy.2.1,D.int .i64 Zy.2.2]].length) * 32).ble 140737488355328 then
 (bif(([[D.int .i64 Qy.1,D.str Qy.2.1,D.int .i64 Qy.2.2]]++aoJ).length+[[D.int .i64 Zy.1,D.str Zy.2.1,D.int .i64 Zy.2.2]].length).ble 140737488355328 then
 (bif aB ([[D.int .i64 Qy.1,D.str Qy.2.1,D.int .i64 Qy.2.2]]++aoJ++[[D.int .i64 Zy.1,D.str Zy.2.1,D.int .i64 Zy.2.2]]) then
 (k ([[D.int .i64 Qy.1,D.str Qy.2.1,D.int .i64 Qy.2.2]]++aoJ++[[D.int .i64 Zy.1,D.str Zy.2.1,D.int .i64 Zy.2.2]])) else none) else none) else none)) else none) else none))))))) else
 ((M.dX 32).bind fun Qz=>
 (M.gJ.bind fun aqG=>
 ((fJ w w1 i aqG.1 aqG.2.1 aqG.2.2.1 aqG.2.2.2.1 aqG.2.2.2.2).bind fun aoK=>
 (bif(([[D.int .i64 Qz.1,D.str Qz.2.1,D.int .i64 Qz.2.2]].length+aoK.length) * 32).ble 140737488355328 then
 (bif([[D.int .i64 Qz.1,D.str Qz.2.1,D.int .i64 Qz.2.2]].length+aoK.length).ble 140737488355328 then
 ((M.dX 33).bind fun Zz=>
 (bif((([[D.int .i64 Qz.1,D.str Qz.2.1,D.int .i64 Qz.2.2]]++aoK).length+[[D.int .i64 Zz.1,D.str Zz.2.1,D.int .i64 Zz.2.2]].length) * 32).ble 140737488355328 then
 (bif(([[D.int .i64 Qz.1,D.str Qz.2.1,D.int .i64 Qz.2.2]]++aoK).length+[[D.int .i64 Zz.1,D.str Zz.2.1,D.int .i64 Zz.2.2]].length).ble 140737488355328 then
 (bif aB ([[D.int .i64 Qz.1,D.str Qz.2.1,D.int .i64 Qz.2.2]]++aoK++[[D.int .i64 Zz.1,D.str Zz.2.1,D.int .i64 Zz.2.2]]) then
 (k ([[D.int .i64 Qz.1,D.str Qz.2.1,D.int .i64 Qz.2.2]]++aoK++[[D.int .i64 Zz.1,D.str Zz.2.1,D.int .i64 Zz.2.2]])) else none) else none) else none)) else none) else none)))))))))))) else
 ((M.dX 32).bind fun QA=>
 (M.gJ.bind fun aqH=>
 ((fJ w w1 i aqH.1 aqH.2.1 aqH.2.2.1 aqH.2.2.2.1 aqH.2.2.2.2).bind fun aoL=>
 (bif(([[D.int .i64 QA.1,D.str QA.2.1,D.int .i64 QA.2.2]].length+aoL.length) * 32).ble 140737488355328 then
 (bif([[D.int .i64 QA.1,D.str QA.2.1,D.int .i64 QA.2.2]].length+aoL.length).ble 140737488355328 then
 ((M.dX 33).bind fun ZA=>
 (bif((([[D.int .i64 QA.1,D.str QA.2.1,D.int .i64 QA.2.2]]++aoL).length+[[D.int .i64 ZA.1,D.str ZA.2.1,D.int .i64 ZA.2.2]].length) * 32).ble 140737488355328 then
 (bif(([[D.int .i64 QA.1,D.str QA.2.1,D.int .i64 QA.2.2]]++aoL).length+[[D.int .i64 ZA.1,D.str ZA.2.1,D.int .i64 ZA.2.2]].length).ble 140737488355328 then
 (bif aB ([[D.int .i64 QA.1,D.str QA.2.1,D.int .i64 QA.2.2]]++aoL++[[D.int .i64 ZA.1,D.str ZA.2.1,D.int .i64 ZA.2.2]]) then
 (k ([[D.int .i64 QA.1,D.str QA.2.1,D.int .i64 QA.2.2]]++aoL++[[D.int .i64 ZA.1,D.str ZA.2.1,D.int .i64 ZA.2.2]])) else none) else none) else none)) else none) else none))))))))))))
theorem C.adf{fJ:ak→Bool→Int→Int→Bool→Bool→Bool→Bool→Option (ak)}(Nj:S.wI.ok X0 fun x=>fJ x.1.1.1 x.1.1.2.1 x.1.2.1 x.1.2.2.1.1 x.1.2.2.1.2.1 x.1.2.2.1.2.2.1 x.1.2.2.1.2.2.2.1 x.1.2.2.1.2.2.2.2.1):S.oL.ok X0 fun x=>M.D9 fJ x.1.1.1 x.1.1.2.1 x.1.2.1 x.1.2.2.1.1 x.1.2.2.1.2.1 x.1.2.2.1.2.2.1 x.1.2.2.1.2.2.2.1 x.1.2.2.1.2.2.2.2.1 some:=fnS (fun x=>M.D9 fJ x.1.1.1 x.1.1.2.1 x.1.2.1 x.1.2.2.1.1 x.1.2.2.1.2.1 x.1.2.2.1.2.2.1 x.1.2.2.1.2.2.2.1 x.1.2.2.1.2.2.2.2.1) [fe C.Bz,fe Nj,fe C.dU,fe C.dX,fe C.gJ] [] (by intros;unfold M.D9;repeat' first|with_reducible apply gG|with_reducible apply Gp|with_reducible apply Gq|with_reducible apply Gs|with_reducible apply Gt|(intro _)|apply gG|rfl)
end
end Go.Proofs.YtbpldgeajbfgnaaGreatDoor
