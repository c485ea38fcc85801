import Derived.Test.YtodbelembghegaaGreatDoorVm4
import Derived.Test.YtodbelembghegaaGreatDoorProg
import Derived.Test.YtodbelembghegaaGreatDoorZPrim
namespace Go.Proofs.YtodbelembghegaaGreatDoor
open Go Go.Vm
set_option linter.unusedVariables false
set_option linter.unusedSimpArgs false
noncomputable section
def kp7 : List (List Nat) := [[0],[0,3],[0,3],[0,15],[2],[0,4],[0,4,5],[0,4,5,6],[0,4,5,6,26],[2],[0,4,5,6,31],[2],[0,4,5,6,7],[0,4,6,7],[0,4,6,42],[2],[0,4,6,8],[0,4,6,8],[0,4,6,8,9],[0,4,6,8,9],[0,4,6,8,9,50],[2],[0,4,6,8,53],[2],[4,6,8,10],[6,8,60],[2],[6,8,9],[8,9],[8,9,65],[2],[68],[2],[2]]
def kp8 : List (List Nat) := [[0],[0,3],[0,3],[0,15],[2],[0,4],[0,4,5],[0,4,5,6],[0,4,5,6,26],[2],[0,4,5,6,31],[2],[0,4,5,6,7],[0,4,6,7],[0,4,6,42],[2],[0,4,6,8],[0,4,6,8],[0,4,6,8,9],[0,4,6,8,9],[0,4,6,8,9,50],[2],[0,4,6,8,53],[2],[4,6,8,10],[6,8,60],[2],[6,8,9],[8,9],[8,9,65],[2],[68],[2],[2]]
def kp9 : List (List Nat) := [[0,1],[0,1],[0,1,11],[4],[0,1,5],[0,1,5,15],[0,1,5],[0,1,5],[0,1,5,25],[4],[4]]
def kp11 : List (List Nat) := [[0],[0,3],[0,3,4],[0,3,4,11],[0,3,4],[0,3,4],[2]]
def kp13 : List (List Nat) := [[0,1],[0,1,10],[4],[0,1,5],[0,1,5,14],[0,1,5],[0,1,5,26],[4],[4]]
def kp14 : List (List Nat) := [[0,1],[0,1,5],[0,1,5,9],[0,1,5],[0,1,5],[0,1,5],[0,1,5],[0,1,5],[0,1,5],[0,1,5],[0,1,5],[0,1,5],[0,1,5],[4]]
def kp15 : List (List Nat) := [[0,1],[0,1,5],[0,1,5,9],[0,1,5],[0,1,5,18],[4],[0,1,5],[0,1,5,27],[4],[0,1,5],[0,1,5,37],[4],[0,1,5],[0,1,5,47],[4],[0,1,5],[0,1,5],[0,1,5,58],[4],[4]]
def kp20 : List (List Nat) := [[0],[0,3],[0,3,12],[2],[0,3,4],[0,3,4,5],[0,3,4,5,24],[0,3,4,5],[0,3,4,5,6],[0,3,4,5,6,35],[0,3,4,5,6],[0,3,4,5,6,7],[0,3,4,5,6,7,8],[0,3,4,5,6,7,8,53],[0,3,4,5,6,7,8],[0,3,4,5,6,7,8,61],[0,3,4,5,6,7,8],[2]]
def kp21 : List (List Nat) := [[0],[0,3],[0,3,12],[2],[0,3,20,21,22],[0,3,20,21,22,23],[0,3,5,20,21,22],[0,3,5,6,20,21,22],[0,3,5,6,20,21,22,31],[0,3,5,6,20,21,22],[0,3,6,20,21,22,39,40,41],[0,3,6,20,21,22,39,40,41,42],[0,3,6,8,20,21,22,39,40,41],[0,3,6,8,20,21,22,39,40,41,47],[0,3,6,20,21,22,39,40,41],[0,3,6,20,21,22,39,40,41],[0,3,20,21,22],[3],[2]]
def kp25 : List (List Nat) := [[0],[0,3],[3,4],[3,4,5],[3,4,5,12],[3,4,5],[3,4,5,36],[3,4,5],[2]]
def kp26 : List (List Nat) := [[0],[3,4],[3,4,10,11,12],[3,4,10,11,12,13],[3,4,6,10,11,12],[3,4,6,10,11,12,27],[3,4,10,11,12],[3,4,10,11,12],[2]]
def kp27 : List (List Nat) := [[0,1],[0,1,10],[4],[0,1,5],[0,1,5,14],[0,1,5],[0,1,5,25],[4],[4]]
def kp28 : List (List Nat) := [[0,1],[0,1,5],[0,1,5,9],[0,1,5],[0,1,5],[0,1,5],[4]]
def kp29 : List (List Nat) := [[0,1],[0,1,5],[0,1,5,9],[0,1,5],[0,1,5,18],[4],[0,1,5],[4]]
def kp30 : List (List Nat) := [[0],[0,3],[0,3,4],[0,3,5],[0,3,5,6],[0,3,5,6,19],[0,3,5,6],[0,3,5,6,37],[0,3,5,6],[2]]
def kp31 : List (List Nat) := [[0],[0,3],[0,3,10],[2],[0,3,4],[0,3,4,16,17,18],[0,3,4,16,17,18,19],[0,3,4,6,16,17,18],[0,3,4,6,16,17,18,29],[0,3,4,16,17,18],[0,3,4,16,17,18],[2]]
def kp32 : List (List Nat) := [[1,2],[1,2],[1,2,11],[4],[1,2],[1,2,18],[4],[1],[1,24],[4],[4]]
def kp33 : List (List Nat) := [[0],[2]]
def kp36 : List (List Nat) := [[0],[0,12],[2],[0,3],[0,3,16],[0,3],[0,3,24],[2],[0,3,4],[0,3,4,32],[0,3,4],[0,3,4,53],[2],[2]]
def kp37 : List (List Nat) := [[1,2],[1,2,3],[1,2,3],[1,2,3],[1,2,3],[1,2,3],[2,3],[2]]
def kp38 : List (List Nat) := [[0],[2]]
def kp40 : List (List Nat) := [[0,2],[2]]
def kp41 : List (List Nat) := [[1],[2]]
def kp42 : List (List Nat) := [[0],[0,9],[2],[0,10,11,12],[0,10,11,12,13],[0,4,10,11,12],[0,4,10,11,12,18],[2],[0,4,10,11,12,20,21,22],[0,4,10,11,12,20,21,22,23],[0,4,5,6,10,11,12,20,21,22],[0,4,10,11,12,20,21,22,35],[2],[0,4,10,11,12,20,21,22],[0,10,11,12],[2]]
def kp43 : List (List Nat) := [[2,3],[2,3,9],[4],[2,3,14],[4],[2,3,19],[4],[2,3,24],[4],[30],[4],[4]]
def kp44 : List (List Nat) := [[0],[0,5],[2],[0,3],[0,3,7],[0,3],[0,3],[2]]
def kp45 : List (List Nat) := [[0,1],[0,1,5],[0,1,5,9],[0,1,5],[0,1,5],[0,1,5],[4]]
def kp46 : List (List Nat) := [[0,1],[0,1,5],[0,1,5,9],[0,1,5],[0,1,5,17],[4],[0,1,5],[4]]
def kp47 : List (List Nat) := [[0],[2]]
def kp51 : List (List Nat) := [[0],[2]]
def kp60 : List (List Nat) := [[0,1],[0,1,5],[4]]
def kp61 : List (List Nat) := [[0,3],[0,3,5],[0,3,5,6],[0,3,5,6,7],[0,3,5,6,7,12],[0,3,5,6,7],[0,3,5,6,7,20],[4],[0,3,5,6,7,53],[0,3,5,7],[0,3,5,6,7],[0,3,5,6,7],[3,5,66],[5],[4]]
def kp62 : List (List Nat) := [[0,1],[0,1,8],[4],[4]]
def kp63 : List (List Nat) := [[0,1,4],[]]
def kp66 : List (List Nat) := [[0],[0,8],[2],[0,3],[0,3,13],[0,3],[0,3,25],[0,3,4],[0,3,4,5],[0,3,4,5,32],[0,3,4,5],[0,3,4,5,44],[0,3,4,5],[0,3,4,5],[0,3],[2],[2]]
def kp68 : List (List Nat) := [[0,1],[0,1,5],[0,1,5,9],[0,1,5],[0,1,5,17],[4],[4]]
def kp69 : List (List Nat) := [[0,1],[0,1,5],[0,1,5,6],[0,1,5,6,12],[0,1,5,6],[0,1,5,6,7],[0,1,5,6,7,18],[0,1,5,6,7],[0,1,5,6,7,37],[0,1,5,6,7],[4]]
def kp70 : List (List Nat) := [[0,1],[0,1,5],[0,1,5,6],[0,1,5,6,7],[0,1,5,6,7,12],[0,1,5,6,7],[0,1,5,6,7,20],[4],[0,1,5,6,7,31],[0,1,5,7],[0,1,5,6,7],[0,1,5,6,7],[1,5,44],[5],[4]]
def kp71 : List (List Nat) := [[0,1],[4]]
def kp72 : List (List Nat) := [[0,1],[0,5,6],[0,5,6,15],[0,5,6,7],[0,5,6,7],[0,5,6,7,21,22,23],[0,5,6,7,21,22,23,24],[0,5,6,7,9,21,22,23],[0,5,6,7,9,21,22,23,37],[0,5,6,7,21,22,23],[0,5,6,7,21,22,23],[4]]
def kp73 : List (List Nat) := [[0],[0],[2]]
def kp74 : List (List Nat) := [[0],[0,3],[3,7,8,9],[3,7,8,9,10],[3,4,5,7,8,9],[3,4,7,8,9,16],[3,7,8,9],[3,7,8,9],[2]]
def kp75 : List (List Nat) := [[0,1],[1],[1,10],[4],[4]]
def kp76 : List (List Nat) := [[0,1],[0,1,5],[0,1,5,6],[0,1,5,6,13],[0,1,5,6],[0,1,5,6,7],[0,1,5,6,7],[0,1,5,6,7,8],[0,1,5,6,7,8,29],[0,1,5,6,7,8],[0,1,5,6,7,8],[0,1,5,6],[4]]
def kp77 : List (List Nat) := [[0],[0,8],[2],[0,3,4],[2]]
def kp78 : List (List Nat) := [[0],[0,9],[2],[0,3],[0,3,4],[0,3,4,14],[0,3,4],[0,3,4,5],[0,3,4,5,6],[0,3,4,5,6,24],[0,3,4,5,6],[0,3,4,5,6],[0,3,4],[2]]
def kp79 : List (List Nat) := [[1],[1,3,4],[1,3,4,5],[2]]
def kp80 : List (List Nat) := [[1,2,3],[1,2,3,7],[1,2,3,7,8],[1,2,3,7,8,18],[1,2,3,7,8,18,19],[1,2,3,7,8,18,19],[6],[1,2,3,7,8,18,24],[6],[1,2,3,7,8,18,36],[6],[1,2,3,7,8,18,51],[6],[1,2,3,7,8,18,66],[6],[1,2,3,7,8,18,81],[6],[1,2,3,7,8,18,100],[1,2,3,7,8,18,100],[1,2,3,7,8,18,100],[6],[1,2,3,7,8,18,105],[6],[1,2,3,7,8,18,109],[6],[1,2,7,8,18,145],[6],[2,7,8,18,160],[6],[2,174],[6],[6]]
def kp81 : List (List Nat) := [[0],[0,3],[0,3,4],[0,3,4,11],[0,3,4],[0,3,4],[2]]
def kp82 : List (List Nat) := [[0,1],[0,1,6],[0,1],[0,1],[0,1,16],[0],[4]]
def kp83 : List (List Nat) := [[0,1,4],[0,4,5],[0,4,5,6],[0,4,6,23,24,25],[0,4,6,23,24,25,26],[0,4,6,8,23,24,25],[0,4,6,23,24,25],[0,4,6,23,24,25],[4]]
def kp84 : List (List Nat) := [[1,2],[1,2,5],[1,5,18,19,20],[1,5,18,19,20,21],[1,5,7,18,19,20],[1,5,18,19,20],[1,5,18,19,20],[1,5,18,19,20],[4]]
def kp85 : List (List Nat) := [[0],[4],[2]]
def kp86 : List (List Nat) := [[1],[1,3],[2],[1,3,5],[1,3],[1,3],[1,3,15],[1,3],[1,3,29],[1,3],[1,3,35],[1,3],[2]]
def kp87 : List (List Nat) := [[1,2,3],[1,2,3,7],[1,2,3,7,8],[1,2,3,7,8,16],[1,2,3,7,8,16,17],[1,2,3,7,8,16,17],[6],[1,2,3,7,8,16,22],[6],[1,2,3,7,8,16,38],[1,2,3,7,8,16,38],[2,8],[1,2,3,7,8,16,43],[2,7,50],[6],[2,8],[1,2,3,7,8,16,52],[2,8],[2,3,7,8,16,56],[2,3,7,8,16,56],[2,3,7,8,16,56],[2,8],[2,3,7,8,16,60],[6],[2,3,7,8,16,64],[2,8],[2,3,7,8,16,72],[2,8],[2,7,8,16,80],[2,83],[6],[2,8],[2,8,86],[6],[2,94],[6],[6]]
def kp88 : List (List Nat) := [[1],[1,3],[3,7,8,9],[3,7,8,9,10],[3,5,7,8,9],[3,7,8,9],[3,7,8,9],[2]]
def kp89 : List (List Nat) := [[0,1],[0,1,10],[4],[0,1,5],[0,1,5,14],[0,1,5],[0,1,5,25],[4],[4]]
def kp90 : List (List Nat) := [[0],[2]]
def kp91 : List (List Nat) := [[0,1,2],[6]]
def kp92 : List (List Nat) := [[0],[2]]
def kp93 : List (List Nat) := [[0,1,2],[6]]
def kp94 : List (List Nat) := [[0],[0,4],[2],[2]]
def kp98 : List (List Nat) := [[0],[0,4],[0,4,5],[0,4,5,12],[0,4,5],[0,4,5,6],[0,4,5,6,7],[0,4,5,6,7,24],[0,4,5,6,7],[0,4,5,6,7,41],[2,3],[0,4,5,6,7],[0,4,5],[2,3]]
def kp99 : List (List Nat) := [[0,1],[0,1,5,6],[1,5,21],[4],[4]]
def kp102 : List (List Nat) := [[0,1],[0,1,7,8],[0,1,7,8,9],[0,1,5,7,8],[0,1,5,7,8,16],[4],[0,1,7,8],[4]]
def kp103 : List (List Nat) := [[0,2],[]]
def kp104 : List (List Nat) := [[0],[0,8],[2],[0,3],[0,3,13],[0,3],[0,3,25],[0,3,4],[0,3,4,5],[0,3,4,5,32],[0,3,4,5],[0,3,4,5,44],[0,3,4,5],[0,3,4,5],[0,3],[2],[2]]
def kp105 : List (List Nat) := [[1],[1,6],[1,6,7],[1,6,7],[2,3],[1,6,10],[1,6,10],[1,6,10],[2,3],[1,6,14],[1,6,14],[1,6,14],[1,6,14],[1,6,14],[1,6,14],[1,6,14],[1,6,14],[2,3],[1,6,23],[1,6,23],[1,6,23],[1,6,23],[2,3],[1,6,28],[2,3],[1,6,30],[1,4],[4,36],[2,3],[2,3],[1,6,40],[1,6,40],[2,3],[1,6,43],[2,3],[1,6,45],[2,3],[1,6,47],[1,6,47],[2,3],[1,6,53],[2,3],[1,6,63],[2,3],[73],[2,3],[2,3]]
def kp106 : List (List Nat) := [[1],[1,4],[1,4,5],[1,4,5],[2],[1,4,16],[2],[1,4,31],[2],[1,4,36],[2],[1,4,41],[2],[1,4,46],[2],[1,51],[2],[2]]
def kp107 : List (List Nat) := [[1],[1,4],[1,4,5],[1,4,5],[1,4,5],[1,4,5],[1,4,5],[1,4,5],[2],[1,4,20],[2],[1,4,31],[2],[1,4,42],[2],[1,4,53],[2],[1,4,64],[2],[1,4,74],[2],[1,84],[2],[2]]
def kp108 : List (List Nat) := [[0],[2]]
def kp109 : List (List Nat) := [[0],[2]]
def kp110 : List (List Nat) := [[0,2,3,9,30],[0,2,3,9,13,30],[2,3],[0,2,3,4,9,30],[0,2,3,4,9,17,18,19,30],[0,2,3,4,9,17,18,19,20,30],[0,2,3,4,5,6,9,17,18,19,30],[0,2,3,4,5,6,7,9,17,18,19,30],[0,2,3,4,5,7,9,17,18,19,28,30],[0,2,3,4,5,7,9,17,18,19,28,30],[0,2,3,4,5,7,9,17,18,19,28,30,37],[2,3],[0,2,3,4,5,7,9,17,18,19,28,30],[0,2,3,4,9,17,18,19,30],[0,2,3,4,9,17,18,19,30],[2,3]]
def kp111 : List (List Nat) := [[1,2],[1,2,4],[1,2,4,5],[2],[1,2,4,14],[1,2,4,14],[1,2,4,14],[2],[1,2,4,31],[1,2,4,31],[2],[1,2,4,41],[2],[1,2,4,50],[2],[1,2,4,59],[2],[1,2,4,68],[1,2,4,68],[2],[1,2,4,78],[2],[1,2,4,97],[2],[1,2,107],[2],[2]]
def kp112 : List (List Nat) := [[0],[2]]
def kp113 : List (List Nat) := [[1,2],[1,2,3],[1,2,3,15],[1,2,3,15,16],[2,3],[1,2,3,15,20],[1,2,3],[1,2,3],[1,2,3],[2,3,42],[2,3],[1,2,3,15,51],[1,2,3,15,51],[2,3],[1,2,3,15,55],[2,3],[1,2,3,15,62],[2,3],[1,2,3,15,66],[1,2,3,15,66],[2,3],[1,2,3,15,71],[2,3],[1,2,3,15,75],[2,3],[1,2,3,15,87],[2,3],[1,2,3,90],[2,3],[2]]
def kp114 : List (List Nat) := [[1,2],[1,2,3],[1,2,3,15],[2,3],[1,2,3,15,17],[1,2,3,15,17],[2,3],[1,2,3,15,22],[1,2,3],[2,3,31],[2,3],[2,3],[1,2,3,15,36],[1,2,3],[2,3,50],[2,3],[2,3],[1,2,3,55],[2,3],[2]]
def kp115 : List (List Nat) := [[0],[2]]
def kp116 : List (List Nat) := [[0],[2]]
def kp130 : List (List Nat) := [[0],[3],[3,4],[3,4],[3,4],[3,4],[3,4],[3,4],[3,4],[3,4],[3,4],[3,4],[3,4],[3,4],[3,4],[3,4],[3,4],[3,4],[4],[2],[2]]
def kp131 : List (List Nat) := [[0],[2]]
def kp132 : List (List Nat) := [[0],[2]]
def kp133 : List (List Nat) := [[1],[1,3],[1,3,8],[1,3,8,9],[2],[1,3,8,24],[2],[1,3,8,35],[2],[1,3,8,42],[2],[1,8,49],[1,8,49],[2],[1,55],[2],[2]]
def kp134 : List (List Nat) := [[0],[2]]
def kp136 : List (List Nat) := [[0],[2]]
def kp137 : List (List Nat) := [[1],[1,5],[2],[1,7],[1,7,8],[2],[1,7,20],[2],[1,7,29],[2],[1,7,38],[2],[1,7,47],[1,7,47],[2],[1,53],[2],[2]]
def kp138 : List (List Nat) := [[0],[2]]
def kp139 : List (List Nat) := [[0],[2]]
def kp140 : List (List Nat) := [[0],[3],[3,4],[2],[3,6],[2],[3,8],[3,8],[2],[3,11],[3,11],[3,11],[3,11],[3,11],[3,11],[2],[3,18],[2],[3,20],[3,20],[2],[3,23],[3,23],[3,23],[2],[27],[2],[2]]
def kp141 : List (List Nat) := [[0],[2]]
def kp157 : List (List Nat) := [[0],[0,3],[0,3,7],[0,3],[0,3,15],[2],[2]]
def kp158 : List (List Nat) := [[0],[3],[3,8],[2],[2]]
def kp159 : List (List Nat) := [[0],[0,3],[0,3,7],[0,3],[0,3,13],[2],[2]]
def kp160 : List (List Nat) := [[0,1],[0,1,9],[4],[0,1,5],[0,1,5,16],[0,1,5,6],[0,1,6,29],[4],[0,1,5],[0,5,33],[4],[0,5,43],[0,5,7],[0,5,7,55],[0,5,7],[0,5,7,62],[4],[4]]
def kp161 : List (List Nat) := [[0,1],[4]]
def kp162 : List (List Nat) := [[0,1],[1,5],[5,12],[4],[4]]
def kp163 : List (List Nat) := [[0],[0,3],[2],[0,6],[2],[0,14],[2],[2]]
def kp164 : List (List Nat) := [[],[0]]
def kp166 : List (List Nat) := [[0],[0,5,6],[0,5,6,7],[0,3,5,6],[0,5,6,14],[2],[0,5,6],[2]]
def kp167 : List (List Nat) := [[0],[3],[3,8],[2],[2]]
def kp168 : List (List Nat) := [[0,1],[4]]
def kp169 : List (List Nat) := [[0,1],[0,1,17],[4],[0,1,5],[0,5,6],[0,5,6,27],[0,5,6,7],[0,6,7],[0,5,6],[0,5,40],[4],[0,5,8],[0,5,49],[0,5,9],[0,5,9,10],[0,5,9,60],[0,5,9],[5,9,11],[5,11,68],[4],[4]]
def kp170 : List (List Nat) := [[0,1],[4]]
def kp171 : List (List Nat) := [[0,1],[1,5],[5,12],[4],[4]]
def kp172 : List (List Nat) := [[0],[0,3],[2],[0,6],[2],[0,13],[2],[2]]
def kp178 : List (List Nat) := [[0],[2]]
def kp179 : List (List Nat) := [[0],[2]]
def kp180 : List (List Nat) := [[],[0]]
def kp181 : List (List Nat) := [[0,1],[0,1,8],[0,1],[4]]
def kp182 : List (List Nat) := [[0,1],[0,1,12],[4],[4]]
def kp183 : List (List Nat) := [[0,1,2],[0,1,2,12],[6],[0,2,7],[0,2,7,18],[0,2,7],[0,2,7,24],[0,2,7,24,25],[6],[0,2,7,24,30],[6],[0,2,7,32],[0,2,7],[0,2,7,39],[6],[6]]
def kp184 : List (List Nat) := [[],[0]]
def kp185 : List (List Nat) := [[0],[2]]
def kp186 : List (List Nat) := [[0],[2]]
def kp188 : List (List Nat) := [[0,1],[0,1,8],[0,1],[4]]
def kp189 : List (List Nat) := [[0,1],[0,1,10],[4],[4]]
def kp190 : List (List Nat) := [[0,1,2],[0,1,2,12],[6],[0,2,7],[0,2,7,24],[0,2,7],[0,2,7,27],[6],[0,2,7,36],[0,2,7],[6]]
def kp191 : List (List Nat) := [[0],[2]]
def kp192 : List (List Nat) := [[0],[2]]
def kp194 : List (List Nat) := [[0],[2]]
def kp195 : List (List Nat) := [[0],[2]]
def keepT : List (List (List Nat)) := [[], [], [], [], [], [], [], kp7, kp8, kp9, [], kp11, [], kp13, kp14, kp15, [], [], [], [], kp20, kp21, [], [], [], kp25, kp26, kp27, kp28, kp29, kp30, kp31, kp32, kp33, [], [], kp36, kp37, kp38, [], kp40, kp41, kp42, kp43, kp44, kp45, kp46, kp47, [], [], [], kp51, [], [], [], [], [], [], [], [], kp60, kp61, kp62, kp63, [], [], kp66, [], kp68, kp69, kp70, kp71, kp72, kp73, kp74, kp75, kp76, kp77, kp78, kp79, kp80, kp81, kp82, kp83, kp84, kp85, kp86, kp87, kp88, kp89, kp90, kp91, kp92, kp93, kp94, [], [], [], kp98, kp99, [], [], kp102, kp103, kp104, kp105, kp106, kp107, kp108, kp109, kp110, kp111, kp112, kp113, kp114, kp115, kp116, [], [], [], [], [], [], [], [], [], [], [], [], [], kp130, kp131, kp132, kp133, kp134, [], kp136, kp137, kp138, kp139, kp140, kp141, [], [], [], [], [], [], [], [], [], [], [], [], [], [], [], kp157, kp158, kp159, kp160, kp161, kp162, kp163, kp164, [], kp166, kp167, kp168, kp169, kp170, kp171, kp172, [], [], [], [], [], kp178, kp179, kp180, kp181, kp182, kp183, kp184, kp185, kp186, [], kp188, kp189, kp190, kp191, kp192, [], kp194, kp195, [], [], [], [], [], [], [], [], [], [], [], [], [], [], [], [], [], [], [], [], [], [], [], [], [], [], [], [], [], [], [], []]
def refT : List (List Nat) := [[], [], [], [], [], [], [], [], [], [], [], [], [], [], [0], [], [], [], [], [], [], [], [], [0], [], [], [], [], [0], [], [], [], [], [], [], [], [], [], [], [], [], [], [], [], [], [0], [], [], [], [], [], [], [], [], [], [], [], [], [], [], [], [], [], [0], [], [], [], [], [], [], [], [], [], [], [], [], [], [], [], [], [], [], [], [], [], [], [], [], [], [], [], [], [], [], [], [], [], [], [], [], [], [], [], [0]]
def moveT : List (List Nat) := [[], [], [], [], [], [], [], [], [], [], [], [], [], [], [], [], [], [], [], [], [], [], [], [], [], [], [], [], [], [], [], [], [], [], [], [], [], [], [], [], [], [], [], [], [], [], [], [], [], [], [], [], [], [], [], [], [], [], [], [], [], [0], [], [], [], [], [0], [], [], [], [0], [], [], [0], [], [], [], [], [], [], [], [], [], [], [1], [], [], [], [], [], [], [], [], [], [], [], [], [], [], [], [], [], [], [], [0]]
def fuseT : List (List Nat) := [[], [], [], [], [], [], [], [], [], [], [], [], [], [], [0, 0, 0, 0, 0, 0, 0, 0, 0, 0, 0, 0, 5]]
def attT (f d : Nat) : List Nat := bif Nat.beq f 95 && Nat.beq d 43 then [] else bif Nat.beq f 95 && Nat.beq d 36 then [] else bif Nat.beq f 54 && Nat.beq d 28 then [] else bif Nat.beq f 21 && Nat.beq d 39 then [] else bif Nat.beq f 12 && Nat.beq d 22 then [] else List.range 200
def bownT : List (List Nat) := []
def rawT : List (List Nat) := [[], [], [], [], [], [], [], [], [], [], [], [], [], [], [], [], [], [], [], [], [], [], [], [], [], [], [], [], [], [], [], [], [], [], [], [], [], [], [], [], [], [], [], [], [], [], [], [], [], [], [], [], [], [], [], [], [], [], [], [], [], [], [], [], [], [], [], [], [], [], [], [], [], [], [], [], [], [], [], [], [], [], [0]]
def truncT : List (List Nat) := [[], [], [], [], [], [], [], [], [], [], [], [], [], [], [], [], [], [], [], [], [], [], [], [], [], [], [], [], [], [], [], [], [], [], [], [], [], [], [], [], [], [], [], [], [], [], [], [], [], [], [], [], [], [], [], [], [], [], [], [], [], [], [], [], [], [], [], [], [], [], [], [], [20]]
noncomputable def adv : Adv := ⟨fun f r => (keepT.getD f []).getD r [], fun f => moveT.getD f [], fun f => refT.getD f [], attT, fun t => (bownT.getD t []), fun f r => (fuseT.getD f []).getD r 0, fun f d => mem? d (truncT.getD f []), fun f => rawT.getD f []⟩
noncomputable def X0 : Ctx := ⟨Tryz.prog, adv, fun f => bif Nat.beq f 63 then some Prim.slices_SortFunc else bif Nat.beq f 66 then some Prim.slices_Compact else bif Nat.beq f 82 then some Prim.slices_Grow else bif Nat.beq f 94 then some Prim.slices_Clone else bif Nat.beq f 104 then some Prim.slices_Compact_v1 else bif Nat.beq f 103 then some Prim.slices_Sort else bif Nat.beq f 110 then some Prim.impl_startsOf else bif Nat.beq f 168 then some Prim.strings_Contains else none, fun g => bif Nat.beq g 2 then some signsRow else bif Nat.beq g 1 then some keywordsRow else bif Nat.beq g 0 then some builtinsRow else none, fun g => bif Nat.beq g 3 then true else false⟩
abbrev S.laws_szIntS : Sig := sg 75 [pL false 1, pI] [] (ρ := Int) fun r => ([[D.int IntKind.i64 r]], [])
abbrev S.laws_szNode : Sig := sg 32 [pAgg [pI, pI, pS, pS, pL false 1], pI] [] (ρ := Int) fun r => ([[D.int IntKind.i64 r]], [])
abbrev S.laws_szNodeS : Sig := sg 9 [pL false 5, pI] [] (ρ := Int) fun r => ([[D.int IntKind.i64 r]], [])
abbrev S.laws_toIntS : Sig := sg 81 [pL false 1] [] (ρ := List Row) fun r => ([[D.sl true 1 r]], [])
abbrev S.laws_toNode : Sig := sg 37 [pAgg [pI, pI, pS, pS, pL false 1]] [] (ρ := Int × Int × List UInt8 × List UInt8 × List Row) fun r => ([[D.int IntKind.i64 r.fst, D.int IntKind.i64 r.snd.fst, D.str r.snd.snd.fst, D.str r.snd.snd.snd.fst, D.sl true 1 r.snd.snd.snd.snd]], [])
abbrev S.laws_toNodeS : Sig := sg 11 [pL false 5] [] (ρ := List Row) fun r => ([[D.sl true 5 r]], [])
abbrev S.spec_l1In : Sig := sg 91 [pI, pI, pI] [] (ρ := Bool) fun r => ([[D.bool r]], [])
abbrev S.spec_l6Starts : Sig := sg 98 [pL false 5] [] (ρ := List Row × Bool) fun r => ([[D.sl true 1 r.fst], [D.bool r.snd]], [])
abbrev S.spec_ShapeOk : Sig := sg 77 [pL false 5] [] (ρ := Bool) fun r => ([[D.bool r]], [])
abbrev S.spec_DepthOf : Sig := sg 78 [pL false 5] [] (ρ := Int) fun r => ([[D.int IntKind.i64 r]], [])
abbrev S.spec_l7Many : Sig := sg 105 [pAgg [pI, pI, pS, pS, pL false 1]] [] (ρ := Int × Int) fun r => ([[D.int IntKind.i64 r.fst], [D.int IntKind.i64 r.snd]], [])
abbrev S.spec_l7IsBin : Sig := sg 130 [pI] [] (ρ := Bool) fun r => ([[D.bool r]], [])
abbrev S.spec_l7IsAssign : Sig := sg 131 [pI] [] (ρ := Bool) fun r => ([[D.bool r]], [])
abbrev S.spec_l7Op : Sig := sg 106 [pAgg [pI, pI, pS, pS, pL false 1]] [] (ρ := Bool) fun r => ([[D.bool r]], [])
abbrev S.spec_IsLetter : Sig := sg 179 [pI] [] (ρ := Bool) fun r => ([[D.bool r]], [])
abbrev S.spec_IsDigit : Sig := sg 194 [pI] [] (ρ := Bool) fun r => ([[D.bool r]], [])
abbrev S.spec_IsWordByte : Sig := sg 178 [pI] [] (ρ := Bool) fun r => ([[D.bool r]], [])
abbrev S.spec_NameShape : Sig := sg 157 [pS] [] (ρ := Bool) fun r => ([[D.bool r]], [])
abbrev S.spec_l3Words : Sig := sg 180 [] [] (ρ := List Row) fun r => ([[D.sl true 1 r]], [])
abbrev S.spec_l3Find : Sig := sg 68 [pL false 1, pS] [] (ρ := Int) fun r => ([[D.int IntKind.i64 r]], [])
abbrev S.spec_KeywordOf : Sig := sg 158 [pS] [] (ρ := Int) fun r => ([[D.int IntKind.i64 r]], [])
abbrev S.spec_l3Builtins : Sig := sg 164 [] [] (ρ := List Row) fun r => ([[D.sl true 1 r]], [])
abbrev S.spec_IsBuiltin : Sig := sg 134 [pS] [] (ρ := Bool) fun r => ([[D.bool r]], [])
abbrev S.spec_NameOk : Sig := sg 132 [pS] [] (ρ := Bool) fun r => ([[D.bool r]], [])
abbrev S.spec_l4Plain : Sig := sg 159 [pS] [] (ρ := Bool) fun r => ([[D.bool r]], [])
abbrev S.spec_l4Byte : Sig := sg 182 [pS, pI] [] (ρ := Int) fun r => ([[D.int IntKind.i64 r]], [])
abbrev S.spec_l4Digits : Sig := sg 181 [pS, pI] [] (ρ := Int) fun r => ([[D.int IntKind.i64 r]], [])
abbrev S.spec_NumEnd : Sig := sg 160 [pS, pI] [] (ρ := Int) fun r => ([[D.int IntKind.i64 r]], [])
abbrev S.spec_l4Quoted : Sig := sg 183 [pS, pI, pI] [] (ρ := Int) fun r => ([[D.int IntKind.i64 r]], [])
abbrev S.spec_StrEnd : Sig := sg 161 [pS, pI] [] (ρ := Int) fun r => ([[D.int IntKind.i64 r]], [])
abbrev S.spec_EreEnd : Sig := sg 162 [pS, pI] [] (ρ := Int) fun r => ([[D.int IntKind.i64 r]], [])
abbrev S.spec_l3Signs : Sig := sg 184 [] [] (ρ := List Row) fun r => ([[D.sl true 1 r]], [])
abbrev S.spec_SpellOf : Sig := sg 163 [pI] [] (ρ := List UInt8) fun r => ([[D.str r]], [])
abbrev S.spec_TokenOk : Sig := sg 133 [pAgg [pI, pS, pI]] [] (ρ := Bool) fun r => ([[D.bool r]], [])
abbrev S.spec_l7Text : Sig := sg 107 [pAgg [pI, pI, pS, pS, pL false 1]] [] (ρ := Bool) fun r => ([[D.bool r]], [])
abbrev S.spec_FieldsOk : Sig := sg 79 [pAgg [pI, pI, pS, pS, pL false 1]] [] (ρ := Bool) fun r => ([[D.bool r]], [])
abbrev S.spec_IsLvalue : Sig := sg 108 [pI] [] (ρ := Bool) fun r => ([[D.bool r]], [])
abbrev S.spec_IsExpr : Sig := sg 90 [pI] [] (ρ := Bool) fun r => ([[D.bool r]], [])
abbrev S.spec_IsStmt : Sig := sg 109 [pI] [] (ρ := Bool) fun r => ([[D.bool r]], [])
abbrev S.spec_l7Kid : Sig := sg 80 [pAgg [pI, pI, pS, pS, pL false 1], pI, pI] [] (ρ := Bool) fun r => ([[D.bool r]], [])
abbrev S.spec_TreeOk : Sig := sg 36 [pL false 5] [] (ρ := Bool) fun r => ([[D.bool r]], [])
abbrev S.spec_ProgramOk : Sig := sg 33 [pL false 5] [] (ρ := Bool) fun r => ([[D.bool r]], [])
abbrev S.spec_l6Shift : Sig := sg 76 [pL false 5, pI] [] (ρ := List Row) fun r => ([[D.sl true 5 r]], [])
abbrev S.spec_l6Part : Sig := sg 60 [pL false 5, pI] [] (ρ := List Row) fun r => ([[D.sl true 5 r]], [])
abbrev S.impl_startsOf : Sig := sg 110 [pL false 5] [] (ρ := List Row × Bool) fun r => ([[D.sl true 1 r.fst], [D.bool r.snd]], [])
abbrev S.impl_ShapeOk : Sig := sg 85 [pL false 5] [] (ρ := Bool) fun r => ([[D.bool r]], [])
abbrev S.impl_within : Sig := sg 93 [pI, pI, pI] [] (ρ := Bool) fun r => ([[D.bool r]], [])
abbrev S.impl_IsExpr : Sig := sg 92 [pI] [] (ρ := Bool) fun r => ([[D.bool r]], [])
abbrev S.impl_IsLetter : Sig := sg 186 [pI] [] (ρ := Bool) fun r => ([[D.bool r]], [])
abbrev S.impl_IsDigit : Sig := sg 195 [pI] [] (ρ := Bool) fun r => ([[D.bool r]], [])
abbrev S.impl_IsWordByte : Sig := sg 185 [pI] [] (ρ := Bool) fun r => ([[D.bool r]], [])
abbrev S.impl_NameShape : Sig := sg 166 [pS] [] (ρ := Bool) fun r => ([[D.bool r]], [])
abbrev S.slices_Index : Sig := sg 102 [pL false 1, pS] [] (ρ := Int) fun r => ([[D.int IntKind.i64 r]], [])
abbrev S.impl_KeywordOf : Sig := sg 167 [pS] [] (ρ := Int) fun r => ([[D.int IntKind.i64 r]], [])
abbrev S.slices_Contains : Sig := sg 71 [pL false 1, pS] [] (ρ := Bool) fun r => ([[D.bool r]], [])
abbrev S.impl_IsBuiltin : Sig := sg 138 [pS] [] (ρ := Bool) fun r => ([[D.bool r]], [])
abbrev S.impl_NameOk : Sig := sg 136 [pS] [] (ρ := Bool) fun r => ([[D.bool r]], [])
abbrev S.strings_Contains : Sig := sg 168 [pS, pS] [] (ρ := Bool) fun r => ([[D.bool r]], [])
abbrev S.impl_byteAt : Sig := sg 189 [pS, pI] [] (ρ := Int) fun r => ([[D.int IntKind.i64 r]], [])
abbrev S.impl_digitsEnd : Sig := sg 188 [pS, pI] [] (ρ := Int) fun r => ([[D.int IntKind.i64 r]], [])
abbrev S.impl_NumEnd : Sig := sg 169 [pS, pI] [] (ρ := Int) fun r => ([[D.int IntKind.i64 r]], [])
abbrev S.impl_quotedEnd : Sig := sg 190 [pS, pI, pI] [] (ρ := Int) fun r => ([[D.int IntKind.i64 r]], [])
abbrev S.impl_StrEnd : Sig := sg 170 [pS, pI] [] (ρ := Int) fun r => ([[D.int IntKind.i64 r]], [])
abbrev S.impl_EreEnd : Sig := sg 171 [pS, pI] [] (ρ := Int) fun r => ([[D.int IntKind.i64 r]], [])
abbrev S.impl_isKeywordKind : Sig := sg 191 [pI] [] (ρ := Bool) fun r => ([[D.bool r]], [])
abbrev S.impl_isSignKind : Sig := sg 192 [pI] [] (ρ := Bool) fun r => ([[D.bool r]], [])
abbrev S.impl_SpellOf : Sig := sg 172 [pI] [] (ρ := List UInt8) fun r => ([[D.str r]], [])
abbrev S.impl_TokenOk : Sig := sg 137 [pAgg [pI, pS, pI]] [] (ρ := Bool) fun r => ([[D.bool r]], [])
abbrev S.impl_isStep : Sig := sg 139 [pI] [] (ρ := Bool) fun r => ([[D.bool r]], [])
abbrev S.impl_OpLevel : Sig := sg 140 [pI] [] (ρ := Int) fun r => ([[D.int IntKind.i64 r]], [])
abbrev S.impl_isAssign : Sig := sg 141 [pI] [] (ρ := Bool) fun r => ([[D.bool r]], [])
abbrev S.impl_exprForm : Sig := sg 111 [pAgg [pI, pI, pS, pS, pL false 1]] [] (ρ := Bool × Bool × Bool × Int × Int) fun r => ([[D.bool r.fst, D.bool r.snd.fst, D.bool r.snd.snd.fst, D.int IntKind.i64 r.snd.snd.snd.fst, D.int IntKind.i64 r.snd.snd.snd.snd]], [])
abbrev S.impl_IsStmt : Sig := sg 112 [pI] [] (ρ := Bool) fun r => ([[D.bool r]], [])
abbrev S.impl_stmtForm : Sig := sg 113 [pAgg [pI, pI, pS, pS, pL false 1]] [] (ρ := Bool × Bool × Bool × Int × Int) fun r => ([[D.bool r.fst, D.bool r.snd.fst, D.bool r.snd.snd.fst, D.int IntKind.i64 r.snd.snd.snd.fst, D.int IntKind.i64 r.snd.snd.snd.snd]], [])
abbrev S.impl_itemForm : Sig := sg 114 [pAgg [pI, pI, pS, pS, pL false 1]] [] (ρ := Bool × Bool × Bool × Int × Int) fun r => ([[D.bool r.fst, D.bool r.snd.fst, D.bool r.snd.snd.fst, D.int IntKind.i64 r.snd.snd.snd.fst, D.int IntKind.i64 r.snd.snd.snd.snd]], [])
abbrev S.impl_FieldsOk : Sig := sg 86 [pAgg [pI, pI, pS, pS, pL false 1]] [] (ρ := Bool) fun r => ([[D.bool r]], [])
abbrev S.impl_IsLvalue : Sig := sg 115 [pI] [] (ρ := Bool) fun r => ([[D.bool r]], [])
abbrev S.impl_isItem : Sig := sg 116 [pI] [] (ρ := Bool) fun r => ([[D.bool r]], [])
abbrev S.impl_kidOk : Sig := sg 87 [pAgg [pI, pI, pS, pS, pL false 1], pI, pI] [] (ρ := Bool) fun r => ([[D.bool r]], [])
abbrev S.impl_treeAt : Sig := sg 83 [pL false 5, pI] [] (ρ := Int × Int × List UInt8 × List UInt8 × List Row) fun r => ([[D.int IntKind.i64 r.fst, D.int IntKind.i64 r.snd.fst, D.str r.snd.snd.fst, D.str r.snd.snd.snd.fst, D.sl true 5 r.snd.snd.snd.snd]], [])
abbrev S.impl_rootOf : Sig := sg 40 [pL false 5] [] (ρ := Int × Int × List UInt8 × List UInt8 × List Row) fun r => ([[D.int IntKind.i64 r.fst, D.int IntKind.i64 r.snd.fst, D.str r.snd.snd.fst, D.str r.snd.snd.snd.fst, D.sl true 5 r.snd.snd.snd.snd]], [])
abbrev S.impl_tree_depth : Sig := sg 88 [pAgg [pI, pI, pS, pS, pL false 5]] [] (ρ := Int) fun r => ([[D.int IntKind.i64 r]], [])
abbrev S.impl_TreeOk : Sig := sg 42 [pL false 5] [] (ρ := Bool) fun r => ([[D.bool r]], [])
abbrev S.impl_ProgramOk : Sig := sg 38 [pL false 5] [] (ρ := Bool) fun r => ([[D.bool r]], [])
abbrev S.slices_Grow : Sig := sg 82 [pNil 5, pI] [] (ρ := List Row) fun r => ([[D.sl true 5 r]], [])
abbrev S.impl_tree_add : Sig := sg 84 [pAgg [pI, pI, pS, pS, pL false 5], pL true 5] [] (ρ := List Row) fun r => ([[D.sl true 5 r]], [])
abbrev S.impl_tree_list : Sig := sg 41 [pAgg [pI, pI, pS, pS, pL false 5]] [] (ρ := List Row) fun r => ([[D.sl true 5 r]], [])
abbrev S.laws_eqIntS : Sig := sg 89 [pL false 1, pL false 1] [] (ρ := Bool) fun r => ([[D.bool r]], [])
abbrev S.laws_eqNode : Sig := sg 43 [pAgg [pI, pI, pS, pS, pL false 1], pAgg [pI, pI, pS, pS, pL false 1]] [] (ρ := Bool) fun r => ([[D.bool r]], [])
abbrev S.laws_eqNodeS : Sig := sg 13 [pL false 5, pL false 5] [] (ρ := Bool) fun r => ([[D.bool r]], [])
abbrev S.laws_markText : Sig := sg 44 [pI] [] (ρ := List UInt8) fun r => ([[D.str r]], [])
abbrev S.laws_markIntS : Sig := sg 45 [pO 100000 0, pI] [cA false true 0 1] (ρ := Int × List Row) fun r => ([[D.int IntKind.i64 r.fst]], [Cell.arr false true 0 1 r.snd])
abbrev S.laws_markNodeS : Sig := sg 14 [pO 100000 0, pI] [cA false false 0 5] (ρ := Int × List Row) fun r => ([[D.int IntKind.i64 r.fst]], [Cell.arr false false 0 5 r.snd])
abbrev S.laws_heldIntS : Sig := sg 46 [pL false 1, pI] [] (ρ := Int) fun r => ([[D.int IntKind.i64 r]], [])
abbrev S.laws_heldNodeS : Sig := sg 15 [pL false 5, pI] [] (ρ := Int) fun r => ([[D.int IntKind.i64 r]], [])
def M.laws_szIntS_C {R : Type} (a : List Row) (left : Int) (k : Int → Option R) : Option R :=
 bif decide (IntKind.i64.wrap (left - (↑a.length : Int)) < 0) then (k (-1)) else (k (IntKind.i64.wrap (left - (↑a.length : Int))))
def M.laws_szIntS (a : List Row) (left : Int) : Option (Int) := M.laws_szIntS_C a left some
theorem C.laws_szIntS : S.laws_szIntS.ok X0 fun x => M.laws_szIntS x.1.1 x.1.2.1 := fnS (fun x => M.laws_szIntS_C x.1.1 x.1.2.1) [] [] (by intros; simp only [M.laws_szIntS_C, nb] <;> rfl)
def M.laws_szNode_C {R : Type} (a : Int) (a1 : Int) (a2 : List UInt8) (a3 : List UInt8) (a4 : List Row) (left : Int) (k : Int → Option R) : Option R :=
 bif decide (IntKind.i64.wrap (left - (↑a2.length : Int)) < 0) then (k (-1)) else
 (bif decide (IntKind.i64.wrap (IntKind.i64.wrap (left - (↑a2.length : Int)) - (↑a3.length : Int)) < 0) then (k (-1)) else
 ((M.laws_szIntS a4 (IntKind.i64.wrap (IntKind.i64.wrap (left - (↑a2.length : Int)) - (↑a3.length : Int)))).bind fun r6 => (bif decide (r6 < 0) then (k (-1)) else (k r6))))
def M.laws_szNode (a : Int) (a1 : Int) (a2 : List UInt8) (a3 : List UInt8) (a4 : List Row) (left : Int) : Option (Int) := M.laws_szNode_C a a1 a2 a3 a4 left some
theorem C.laws_szNode : S.laws_szNode.ok X0 fun x => M.laws_szNode x.1.1.1 x.1.1.2.1 x.1.1.2.2.1 x.1.1.2.2.2.1 x.1.1.2.2.2.2.1 x.1.2.1 := fnS (fun x => M.laws_szNode_C x.1.1.1 x.1.1.2.1 x.1.1.2.2.1 x.1.1.2.2.2.1 x.1.1.2.2.2.2.1 x.1.2.1) [fe C.laws_szIntS] [] (by intros; simp only [M.laws_szNode_C, nb] <;> rfl)
def M.laws_szNodeS_l5_C {R : Type} (a : List Row) (s : Int × Int) (kn : Int × Int → Option R) (ke : (Unit) ⊕ (Int × Int) → Option R) : Option R := match s with
 | (left, i) =>
 bif decide (i < (↑a.length : Int)) then
 ((idx a i).bind fun row0 =>
 ((cInt IntKind.i64 row0 0).bind fun n1 =>
 ((cInt IntKind.i64 row0 1).bind fun n2 =>
 ((cStr row0 2).bind fun s3 =>
 ((cStr row0 3).bind fun s4 =>
 ((cSl 1 row0 4).bind fun rows5 =>
 ((M.laws_szNode n1 n2 s3 s4 rows5 left).bind fun r7 => (bif decide (r7 < 0) then (ke (.inl ())) else (kn ((r7, IntKind.i64.wrap (i + 1)))))))))))) else (ke (.inr ((left, i))))
def M.laws_szNodeS_l5_b (a : List Row) (s : Int × Int) := M.laws_szNodeS_l5_C a s (fun s => some (Sum.inl s)) fun t => some (Sum.inr t)
def M.laws_szNodeS_l5 (a : List Row) (s : Int × Int) : Option ((Unit) ⊕ (Int × Int)) := loopM (M.laws_szNodeS_l5_b a) s
def F.laws_szNodeS_l5 : LE X0 9 := le 5 (pSt [pAt 0 (pL false 5), pAt 1 pI, pAt 5 pI] []) (fun x => (x.1.2.1, x.1.2.2.1)) (fun x s => ((x.1.1, s.1, s.2, ()), ())) (fun x => .sum (.leaf (Unit) (fun t => (Ex.ret, { tm := [(4, V.d (D.int IntKind.i64 (-1)))], mem := [] }))) (.leaf (Int × Int) (fun t => (Ex.exit 0, { tm := [(0, V.d (D.sl false 5 x.1.1)), (1, V.d (D.int IntKind.i64 t.fst)), (5, V.d (D.int IntKind.i64 t.snd)), (15, V.d (D.bool false))], mem := [] })))) (fun x => M.laws_szNodeS_l5_C x.1.1) [fe C.laws_szNode] [] (by rintro _ _ ⟨_, _⟩ _ _ <;> simp only [M.laws_szNodeS_l5_C, nb] <;> rfl)
def M.laws_szNodeS_C {R : Type} (a : List Row) (left : Int) (k : Int → Option R) : Option R :=
 bif decide (IntKind.i64.wrap (left - (↑a.length : Int)) < 0) then (k (-1)) else
 ((M.laws_szNodeS_l5 a ((IntKind.i64.wrap (left - (↑a.length : Int)), 0))).bind fun u10 =>
 sumE u10 (fun t8 => (k (-1))) fun u11 =>
 letE u11 fun t9 => (k t9.fst))
def M.laws_szNodeS (a : List Row) (left : Int) : Option (Int) := M.laws_szNodeS_C a left some
theorem C.laws_szNodeS : S.laws_szNodeS.ok X0 fun x => M.laws_szNodeS x.1.1 x.1.2.1 := fnS (fun x => M.laws_szNodeS_C x.1.1 x.1.2.1) [] [F.laws_szNodeS_l5] (by intros; simp only [M.laws_szNodeS_C, nb] <;> rfl)
def M.laws_toIntS_l3_C {R : Type} (a : List Row) (s : Int × List Row) (kn : Int × List Row → Option R) (ke : Int × List Row → Option R) : Option R := match s with
 | (i, x') =>
 bif decide (i < (↑a.length : Int)) then
 ((idx a i).bind fun row20 =>
 ((cInt IntKind.i64 row20 0).bind fun n21 =>
 ((idx x' i).bind fun row22 =>
 (x'[i.toNat]?.bind fun row23 => (kn ((IntKind.i64.wrap (i + 1), x'.set i.toNat (splice row23 0 [D.int IntKind.i64 n21])))))))) else (ke ((i, x')))
def M.laws_toIntS_l3_b (a : List Row) (s : Int × List Row) := M.laws_toIntS_l3_C a s (fun s => some (Sum.inl s)) fun t => some (Sum.inr t)
def M.laws_toIntS_l3 (a : List Row) (s : Int × List Row) : Option (Int × List Row) := loopM (M.laws_toIntS_l3_b a) s
def F.laws_toIntS_l3 : LE X0 81 := le 3 (pSt [pAt 0 (pL false 1), pAt 3 (pO 300000 0), pAt 4 pI] [pAt 300000 (cA false true 0 1)]) (fun x => (x.1.2.2.1, x.2.1)) (fun x s => ((x.1.1, (), s.1, ()), (s.2, ()))) (fun x => .leaf (Int × List Row) (fun t => (Ex.exit 0, { tm := [(0, V.d (D.sl false 1 x.1.1)), (3, V.own 300000 0), (4, V.d (D.int IntKind.i64 t.fst)), (11, V.d (D.bool false))], mem := [(300000, Cell.arr false true 0 1 t.snd)] }))) (fun x => M.laws_toIntS_l3_C x.1.1) [] [] (by rintro _ _ ⟨_, _⟩ _ _ <;> simp only [M.laws_toIntS_l3_C, nb] <;> rfl)
def M.laws_toIntS_C {R : Type} (a : List Row) (k : List Row → Option R) : Option R :=
 bif decide (0 ≤ (↑a.length : Int)) && decide ((↑a.length : Int) ≤ (↑a.length : Int)) && decide ((↑a.length : Int) * 8 ≤ 140737488355328) && decide ((↑a.length : Int) ≤ 140737488355328) then
 ((M.laws_toIntS_l3 a ((0, List.replicate (↑a.length : Int).toNat [D.int IntKind.i64 0]))).bind fun t24 => (bif flatRows t24.snd then (k t24.snd) else none)) else none
def M.laws_toIntS (a : List Row) : Option (List Row) := M.laws_toIntS_C a some
theorem C.laws_toIntS : S.laws_toIntS.ok X0 fun x => M.laws_toIntS x.1.1 := fnS (fun x => M.laws_toIntS_C x.1.1) [] [F.laws_toIntS_l3] (by intros; simp only [M.laws_toIntS_C, nb] <;> rfl)
def M.laws_toNode_C {R : Type} (a : Int) (a1 : Int) (a2 : List UInt8) (a3 : List UInt8) (a4 : List Row) (k : Int × Int × List UInt8 × List UInt8 × List Row → Option R) : Option R :=
 (M.laws_toIntS a4).bind fun r25 => (bif flatRows r25 then (k ((a, a1, a2, a3, r25))) else none)
def M.laws_toNode (a : Int) (a1 : Int) (a2 : List UInt8) (a3 : List UInt8) (a4 : List Row) : Option (Int × Int × List UInt8 × List UInt8 × List Row) := M.laws_toNode_C a a1 a2 a3 a4 some
theorem C.laws_toNode : S.laws_toNode.ok X0 fun x => M.laws_toNode x.1.1.1 x.1.1.2.1 x.1.1.2.2.1 x.1.1.2.2.2.1 x.1.1.2.2.2.2.1 := fnS (fun x => M.laws_toNode_C x.1.1.1 x.1.1.2.1 x.1.1.2.2.1 x.1.1.2.2.2.1 x.1.1.2.2.2.2.1) [fe C.laws_toIntS] [] (by intros; simp only [M.laws_toNode_C, nb] <;> rfl)
def M.laws_toNodeS_l3_C {R : Type} (a : List Row) (s : Int × List Row) (kn : Int × List Row → Option R) (ke : Int × List Row → Option R) : Option R := match s with
 | (i, x') =>
 bif decide (i < (↑a.length : Int)) then
 ((idx a i).bind fun row14 =>
 ((cInt IntKind.i64 row14 0).bind fun n15 =>
 ((cInt IntKind.i64 row14 1).bind fun n16 =>
 ((cStr row14 2).bind fun s17 =>
 ((cStr row14 3).bind fun s18 =>
 ((cSl 1 row14 4).bind fun rows19 =>
 ((M.laws_toNode n15 n16 s17 s18 rows19).bind fun r26 =>
 ((idx x' i).bind fun row27 =>
 (bif flatRows r26.snd.snd.snd.snd then
 (x'[i.toNat]?.bind fun row28 =>
 (kn ((IntKind.i64.wrap (i + 1), x'.set i.toNat (splice row28 0 [D.int IntKind.i64 r26.fst, D.int IntKind.i64 r26.snd.fst, D.str r26.snd.snd.fst, D.str r26.snd.snd.snd.fst, D.sl true 1 r26.snd.snd.snd.snd]))))) else none))))))))) else (ke ((i, x')))
def M.laws_toNodeS_l3_b (a : List Row) (s : Int × List Row) := M.laws_toNodeS_l3_C a s (fun s => some (Sum.inl s)) fun t => some (Sum.inr t)
def M.laws_toNodeS_l3 (a : List Row) (s : Int × List Row) : Option (Int × List Row) := loopM (M.laws_toNodeS_l3_b a) s
def F.laws_toNodeS_l3 : LE X0 11 := le 3 (pSt [pAt 0 (pL false 5), pAt 3 (pO 300000 0), pAt 4 pI] [pAt 300000 (cA false false 0 5)]) (fun x => (x.1.2.2.1, x.2.1)) (fun x s => ((x.1.1, (), s.1, ()), (s.2, ()))) (fun x => .leaf (Int × List Row) (fun t => (Ex.exit 0, { tm := [(0, V.d (D.sl false 5 x.1.1)), (3, V.own 300000 0), (4, V.d (D.int IntKind.i64 t.fst)), (11, V.d (D.bool false))], mem := [(300000, Cell.arr false false 0 5 t.snd)] }))) (fun x => M.laws_toNodeS_l3_C x.1.1) [fe C.laws_toNode] [] (by rintro _ _ ⟨_, _⟩ _ _ <;> simp only [M.laws_toNodeS_l3_C, nb] <;> rfl)
def M.laws_toNodeS_C {R : Type} (a : List Row) (k : List Row → Option R) : Option R :=
 bif decide (0 ≤ (↑a.length : Int)) && decide ((↑a.length : Int) ≤ (↑a.length : Int)) && decide ((↑a.length : Int) * 72 ≤ 140737488355328) && decide ((↑a.length : Int) ≤ 140737488355328) then
 ((M.laws_toNodeS_l3 a ((0, List.replicate (↑a.length : Int).toNat [D.int IntKind.i64 0, D.int IntKind.i64 0, D.str [], D.str [], D.sl true 1 []]))).bind fun t29 => (k t29.snd)) else none
def M.laws_toNodeS (a : List Row) : Option (List Row) := M.laws_toNodeS_C a some
theorem C.laws_toNodeS : S.laws_toNodeS.ok X0 fun x => M.laws_toNodeS x.1.1 := fnS (fun x => M.laws_toNodeS_C x.1.1) [] [F.laws_toNodeS_l3] (by intros; simp only [M.laws_toNodeS_C, nb] <;> rfl)
def M.spec_l1In_C {R : Type} (x' : Int) (low : Int) (high : Int) (k : Bool → Option R) : Option R :=
 bif decide (x' ≥ low) then (k (decide (x' ≤ high))) else (k false)
def M.spec_l1In (x' : Int) (low : Int) (high : Int) : Option (Bool) := M.spec_l1In_C x' low high some
theorem C.spec_l1In : S.spec_l1In.ok X0 fun x => M.spec_l1In x.1.1 x.1.2.1 x.1.2.2.1 := fnS (fun x => M.spec_l1In_C x.1.1 x.1.2.1 x.1.2.2.1) [] [] (by intros; simp only [M.spec_l1In_C, nb] <;> rfl)
def M.spec_l6Starts_l7_C {R : Type} (l : List Row) (i : Int) (x' : List Row) (s : Int × Int) (kn : Int × Int → Option R) (ke : (Unit) ⊕ (Int × Int) → Option R) : Option R := match s with
 | (at', k') =>
 bif decide (k' ≥ 0) then
 ((idx l i).bind fun row35 =>
 ((cSl 1 row35 4).bind fun rows36 =>
 ((idx rows36 k').bind fun row37 =>
 ((cInt IntKind.i64 row37 0).bind fun n38 =>
 (bif n38 != IntKind.i64.wrap (at' - 1) then (ke (.inl ())) else
 (bif at' == 0 then (ke (.inl ())) else
 ((idx x' (IntKind.i64.wrap (at' - 1))).bind fun row39 =>
 ((x'[(IntKind.i64.wrap (at' - 1)).toNat]?).bind fun row40 => ((cInt IntKind.i64 row40 0).bind fun n41 => (kn ((n41, IntKind.i64.wrap (k' - 1))))))))))))) else (ke (.inr ((at', k'))))
def M.spec_l6Starts_l7_b (l : List Row) (i : Int) (x' : List Row) (s : Int × Int) := M.spec_l6Starts_l7_C l i x' s (fun s => some (Sum.inl s)) fun t => some (Sum.inr t)
def M.spec_l6Starts_l7 (l : List Row) (i : Int) (x' : List Row) (s : Int × Int) : Option ((Unit) ⊕ (Int × Int)) := loopM (M.spec_l6Starts_l7_b l i x') s
def F.spec_l6Starts_l7 : LE X0 98 := le 7 (pSt [pAt 0 (pL false 5), pAt 4 (pO 300000 0), pAt 5 pI, pAt 6 pI, pAt 7 pI] [pAt 300000 (cA false true 0 1)]) (fun x => (x.1.2.2.2.1, x.1.2.2.2.2.1)) (fun x s => ((x.1.1, (), x.1.2.2.1, s.1, s.2, ()), (x.2.1, ()))) (fun x => .sum (.leaf (Unit) (fun t => (Ex.ret, { tm := [(2, V.own 300000 0), (3, V.d (D.bool false))], mem := [(300000, Cell.arr false true 0 1 [])] }))) (.leaf (Int × Int) (fun t => (Ex.exit 2, { tm := [(0, V.d (D.sl false 5 x.1.1)), (4, V.own 300000 0), (5, V.d (D.int IntKind.i64 x.1.2.2.1)), (6, V.d (D.int IntKind.i64 t.fst)), (7, V.d (D.int IntKind.i64 t.snd)), (24, V.d (D.bool false))], mem := [(300000, Cell.arr false true 0 1 x.2.1)] })))) (fun x => M.spec_l6Starts_l7_C x.1.1 x.1.2.2.1 x.2.1) [] [] (by rintro _ _ ⟨_, _⟩ _ _ <;> simp only [M.spec_l6Starts_l7_C, nb] <;> rfl)
def M.spec_l6Starts_l3_C {R : Type} (l : List Row) (s : Int × List Row) (kn : Int × List Row → Option R) (ke : (Unit) ⊕ (Int × List Row) → Option R) : Option R := match s with
 | (i, x') =>
 bif decide (i < (↑l.length : Int)) then
 ((idx l i).bind fun row33 =>
 ((cSl 1 row33 4).bind fun rows34 =>
 ((M.spec_l6Starts_l7 l i x' ((i, IntKind.i64.wrap ((↑rows34.length : Int) - 1)))).bind fun u46 =>
 sumE u46 (fun t42 => (ke (.inl ()))) fun u47 =>
 letE u47 fun t43 =>
 (bif ((x'.length + [[D.int IntKind.i64 t43.fst]].length) * 8).ble 140737488355328 then
 (bif (x'.length + [[D.int IntKind.i64 t43.fst]].length).ble 140737488355328 then (kn ((IntKind.i64.wrap (i + 1), x' ++ [[D.int IntKind.i64 t43.fst]]))) else none) else none)))) else (ke (.inr ((i, x'))))
def M.spec_l6Starts_l3_b (l : List Row) (s : Int × List Row) := M.spec_l6Starts_l3_C l s (fun s => some (Sum.inl s)) fun t => some (Sum.inr t)
def M.spec_l6Starts_l3 (l : List Row) (s : Int × List Row) : Option ((Unit) ⊕ (Int × List Row)) := loopM (M.spec_l6Starts_l3_b l) s
def F.spec_l6Starts_l3 : LE X0 98 := le 3 (pSt [pAt 0 (pL false 5), pAt 4 (pO 300000 0), pAt 5 pI] [pAt 300000 (cA false true 0 1)]) (fun x => (x.1.2.2.1, x.2.1)) (fun x s => ((x.1.1, (), s.1, ()), (s.2, ()))) (fun x => .sum (.leaf (Unit) (fun t => (Ex.ret, { tm := [(2, V.own 300000 0), (3, V.d (D.bool false))], mem := [(300000, Cell.arr false true 0 1 [])] }))) (.leaf (Int × List Row) (fun t => (Ex.exit 0, { tm := [(0, V.d (D.sl false 5 x.1.1)), (4, V.own 300000 0), (5, V.d (D.int IntKind.i64 t.fst)), (12, V.d (D.bool false))], mem := [(300000, Cell.arr false true 0 1 t.snd)] })))) (fun x => M.spec_l6Starts_l3_C x.1.1) [] [F.spec_l6Starts_l7] (by rintro _ _ ⟨_, _⟩ _ _ <;> simp only [M.spec_l6Starts_l3_C, nb] <;> rfl)
def M.spec_l6Starts_C {R : Type} (l : List Row) (k : List Row × Bool → Option R) : Option R :=
 (M.spec_l6Starts_l3 l ((0, []))).bind fun u48 =>
 sumE u48 (fun t44 => (k (([], false)))) fun u49 =>
 letE u49 fun t45 => (bif flatRows t45.snd then (k ((t45.snd, true))) else none)
def M.spec_l6Starts (l : List Row) : Option (List Row × Bool) := M.spec_l6Starts_C l some
theorem C.spec_l6Starts : S.spec_l6Starts.ok X0 fun x => M.spec_l6Starts x.1.1 := fnS (fun x => M.spec_l6Starts_C x.1.1) [] [F.spec_l6Starts_l3] (by intros; simp only [M.spec_l6Starts_C, nb] <;> rfl)
def M.spec_ShapeOk_C {R : Type} (l : List Row) (k : Bool → Option R) : Option R :=
 (M.spec_l1In ((↑l.length : Int)) 1 400).bind fun r32 =>
 (bif !r32 then (k false) else
 ((M.spec_l6Starts l).bind fun r50 =>
 (bif r50.snd then
 ((idx r50.fst (IntKind.i64.wrap ((↑l.length : Int) - 1))).bind fun row51 =>
 ((r50.fst[(IntKind.i64.wrap ((↑l.length : Int) - 1)).toNat]?).bind fun row52 => ((cInt IntKind.i64 row52 0).bind fun n53 => (k (n53 == 0))))) else (k false))))
def M.spec_ShapeOk (l : List Row) : Option (Bool) := M.spec_ShapeOk_C l some
theorem C.spec_ShapeOk : S.spec_ShapeOk.ok X0 fun x => M.spec_ShapeOk x.1.1 := fnS (fun x => M.spec_ShapeOk_C x.1.1) [fe C.spec_l1In, fe C.spec_l6Starts] [] (by intros; simp only [M.spec_ShapeOk_C, nb] <;> rfl)
def M.spec_DepthOf_l9_C {R : Type} (l : List Row) (i : Int) (x' : List Row) (s : Int × Int) (kn : Int × Int → Option R) (ke : Int × Int → Option R) : Option R := match s with
 | (n', k') =>
 (idx l i).bind fun row56 =>
 ((cSl 1 row56 4).bind fun rows57 =>
 (bif decide (k' < (↑rows57.length : Int)) then
 ((idx l i).bind fun row58 =>
 ((cSl 1 row58 4).bind fun rows59 =>
 ((idx rows59 k').bind fun row60 =>
 ((cInt IntKind.i64 row60 0).bind fun n61 =>
 ((idx x' n61).bind fun row62 =>
 (x'[n61.toNat]?.bind fun row63 =>
 ((cInt IntKind.i64 row63 0).bind fun n64 =>
 (kn ((bif decide (n' < IntKind.i64.wrap (1 + n64)) then IntKind.i64.wrap (1 + n64) else n', IntKind.i64.wrap (k' + 1))))))))))) else (ke ((n', k')))))
def M.spec_DepthOf_l9_b (l : List Row) (i : Int) (x' : List Row) (s : Int × Int) := M.spec_DepthOf_l9_C l i x' s (fun s => some (Sum.inl s)) fun t => some (Sum.inr t)
def M.spec_DepthOf_l9 (l : List Row) (i : Int) (x' : List Row) (s : Int × Int) : Option (Int × Int) := loopM (M.spec_DepthOf_l9_b l i x') s
def F.spec_DepthOf_l9 : LE X0 78 := le 9 (pSt [pAt 0 (pL false 5), pAt 3 (pO 300000 0), pAt 4 pI, pAt 5 pI, pAt 6 pI] [pAt 300000 (cA false true 0 1)]) (fun x => (x.1.2.2.2.1, x.1.2.2.2.2.1)) (fun x s => ((x.1.1, (), x.1.2.2.1, s.1, s.2, ()), (x.2.1, ()))) (fun x => .leaf (Int × Int) (fun t => (Ex.exit 2, { tm := [(0, V.d (D.sl false 5 x.1.1)), (3, V.own 300000 0), (4, V.d (D.int IntKind.i64 x.1.2.2.1)), (5, V.d (D.int IntKind.i64 t.fst)), (6, V.d (D.int IntKind.i64 t.snd)), (24, V.d (D.bool false))], mem := [(300000, Cell.arr false true 0 1 x.2.1)] }))) (fun x => M.spec_DepthOf_l9_C x.1.1 x.1.2.2.1 x.2.1) [] [] (by rintro _ _ ⟨_, _⟩ _ _ <;> simp only [M.spec_DepthOf_l9_C, nb] <;> rfl)
def M.spec_DepthOf_l5_C {R : Type} (l : List Row) (s : Int × List Row) (kn : Int × List Row → Option R) (ke : Int × List Row → Option R) : Option R := match s with
 | (i, x') =>
 bif decide (i < (↑l.length : Int)) then
 ((M.spec_DepthOf_l9 l i x' ((1, 0))).bind fun t65 =>
 (bif ((x'.length + [[D.int IntKind.i64 t65.fst]].length) * 8).ble 140737488355328 then
 (bif (x'.length + [[D.int IntKind.i64 t65.fst]].length).ble 140737488355328 then (kn ((IntKind.i64.wrap (i + 1), x' ++ [[D.int IntKind.i64 t65.fst]]))) else none) else none)) else (ke ((i, x')))
def M.spec_DepthOf_l5_b (l : List Row) (s : Int × List Row) := M.spec_DepthOf_l5_C l s (fun s => some (Sum.inl s)) fun t => some (Sum.inr t)
def M.spec_DepthOf_l5 (l : List Row) (s : Int × List Row) : Option (Int × List Row) := loopM (M.spec_DepthOf_l5_b l) s
def F.spec_DepthOf_l5 : LE X0 78 := le 5 (pSt [pAt 0 (pL false 5), pAt 3 (pO 300000 0), pAt 4 pI] [pAt 300000 (cA false true 0 1)]) (fun x => (x.1.2.2.1, x.2.1)) (fun x s => ((x.1.1, (), s.1, ()), (s.2, ()))) (fun x => .leaf (Int × List Row) (fun t => (Ex.exit 0, { tm := [(0, V.d (D.sl false 5 x.1.1)), (3, V.own 300000 0), (4, V.d (D.int IntKind.i64 t.fst)), (14, V.d (D.bool false))], mem := [(300000, Cell.arr false true 0 1 t.snd)] }))) (fun x => M.spec_DepthOf_l5_C x.1.1) [] [F.spec_DepthOf_l9] (by rintro _ _ ⟨_, _⟩ _ _ <;> simp only [M.spec_DepthOf_l5_C, nb] <;> rfl)
def M.spec_DepthOf_C {R : Type} (l : List Row) (k : Int → Option R) : Option R :=
 (M.spec_ShapeOk l).bind fun r55 =>
 (bif !r55 then (k 0) else
 ((M.spec_DepthOf_l5 l ((0, []))).bind fun t66 =>
 ((idx t66.snd (IntKind.i64.wrap ((↑l.length : Int) - 1))).bind fun row67 =>
 ((t66.snd[(IntKind.i64.wrap ((↑l.length : Int) - 1)).toNat]?).bind fun row68 => ((cInt IntKind.i64 row68 0).bind fun n69 => (k n69))))))
def M.spec_DepthOf (l : List Row) : Option (Int) := M.spec_DepthOf_C l some
theorem C.spec_DepthOf : S.spec_DepthOf.ok X0 fun x => M.spec_DepthOf x.1.1 := fnS (fun x => M.spec_DepthOf_C x.1.1) [fe C.spec_ShapeOk] [F.spec_DepthOf_l5] (by intros; simp only [M.spec_DepthOf_C, nb] <;> rfl)
def M.spec_l7Many_C {R : Type} (n' : Int) (n'1 : Int) (n'2 : List UInt8) (n'3 : List UInt8) (n'4 : List Row) (k : Int × Int → Option R) : Option R :=
 bif n' == 5 then (k ((1, 6))) else
 (bif n' == 13 then (k ((1, 6))) else
 (bif n' == 7 then (k ((0, 6))) else
 (bif n' == 8 then (k ((0, 6))) else
 (bif n' == 27 then (k ((0, 6))) else
 (bif n' == 6 then (k ((1, 1))) else
 (bif n' == 9 then (k ((1, 1))) else
 (bif n' == 10 then (k ((1, 1))) else
 (bif n' == 11 then (k ((1, 1))) else
 (bif n' == 20 then (k ((1, 1))) else
 (bif n' == 32 then (k ((1, 1))) else
 (bif n' == 40 then (k ((1, 1))) else
 (bif n' == 41 then (k ((1, 1))) else
 (bif n' == 12 then (k ((2, 2))) else
 (bif n' == 15 then (k ((2, 2))) else
 (bif n' == 29 then (k ((2, 2))) else
 (bif n' == 30 then (k ((2, 2))) else
 (bif n' == 14 then (k ((3, 3))) else
 (bif n' == 21 then (bif !n'3 == [] then (k ((IntKind.i64.wrap (n'1 + 1), 7))) else (k ((n'1, 6)))) else
 (bif n' == 23 then (k ((0, 1))) else
 (bif n' == 24 then (k ((0, 1))) else
 (bif n' == 28 then (k ((2, 3))) else
 (bif n' == 31 then (k ((4, 4))) else
 (bif n' == 33 then (k ((0, (↑n'4.length : Int)))) else
 (bif n' == 45 then (k ((0, (↑n'4.length : Int)))) else
 (bif n' == 42 then
 (k ((IntKind.i64.wrap (1 + IntKind.i64.wrap (n'1.tdiv 3)), IntKind.i64.wrap (1 + IntKind.i64.wrap (n'1.tdiv 3))))) else
 (bif n' == 43 then
 (k ((IntKind.i64.wrap (2 + IntKind.i64.wrap (n'1.tdiv 3)), IntKind.i64.wrap (2 + IntKind.i64.wrap (n'1.tdiv 3))))) else (bif n' == 44 then (k ((1, 7))) else (k ((0, 0))))))))))))))))))))))))))))))
def M.spec_l7Many (n' : Int) (n'1 : Int) (n'2 : List UInt8) (n'3 : List UInt8) (n'4 : List Row) : Option (Int × Int) := M.spec_l7Many_C n' n'1 n'2 n'3 n'4 some
theorem C.spec_l7Many : S.spec_l7Many.ok X0 fun x => M.spec_l7Many x.1.1.1 x.1.1.2.1 x.1.1.2.2.1 x.1.1.2.2.2.1 x.1.1.2.2.2.2.1 := fnS (fun x => M.spec_l7Many_C x.1.1.1 x.1.1.2.1 x.1.1.2.2.1 x.1.1.2.2.2.1 x.1.1.2.2.2.2.1) [] [] (by intros; simp only [M.spec_l7Many_C, nb] <;> rfl)
def M.spec_l7IsBin_C {R : Type} (op' : Int) (k : Bool → Option R) : Option R :=
 bif op' == 60 then (k true) else
 (bif op' == 57 then (k true) else
 (bif op' == 58 then (k true) else
 (bif op' == 59 then (k true) else
 (bif op' == 55 then (k true) else
 (bif op' == 56 then (k true) else
 (bif op' == 99 then (k true) else
 (bif op' == 63 then (k true) else
 (bif op' == 48 then (k true) else
 (bif op' == 47 then (k true) else
 (bif op' == 50 then (k true) else
 (bif op' == 62 then (k true) else
 (bif op' == 49 then (k true) else
 (bif op' == 67 then (k true) else
 (bif op' == 46 then (k true) else (bif op' == 45 then (k true) else (bif op' == 44 then (k true) else (k false)))))))))))))))))
def M.spec_l7IsBin (op' : Int) : Option (Bool) := M.spec_l7IsBin_C op' some
theorem C.spec_l7IsBin : S.spec_l7IsBin.ok X0 fun x => M.spec_l7IsBin x.1.1 := fnS (fun x => M.spec_l7IsBin_C x.1.1) [] [] (by intros; simp only [M.spec_l7IsBin_C, nb] <;> rfl)
def M.spec_l7IsAssign_C {R : Type} (op' : Int) (k : Bool → Option R) : Option R :=
 bif op' == 54 then (k true) else ((M.spec_l1In op' 38 43).bind fun r80 => (k r80))
def M.spec_l7IsAssign (op' : Int) : Option (Bool) := M.spec_l7IsAssign_C op' some
theorem C.spec_l7IsAssign : S.spec_l7IsAssign.ok X0 fun x => M.spec_l7IsAssign x.1.1 := fnS (fun x => M.spec_l7IsAssign_C x.1.1) [fe C.spec_l1In] [] (by intros; simp only [M.spec_l7IsAssign_C, nb] <;> rfl)
def M.spec_l7Op_C {R : Type} (n' : Int) (n'1 : Int) (n'2 : List UInt8) (n'3 : List UInt8) (n'4 : List Row) (k : Bool → Option R) : Option R :=
 bif n' == 9 then (bif n'1 == 51 then (k true) else (k (n'1 == 52))) else
 (bif n' == 10 then (bif n'1 == 51 then (k true) else (k (n'1 == 52))) else
 (bif n' == 11 then (bif n'1 == 55 then (k true) else (bif n'1 == 56 then (k true) else (k (n'1 == 61)))) else
 (bif n' == 12 then ((M.spec_l7IsBin n'1).bind fun r79 => (k r79)) else
 (bif n' == 15 then ((M.spec_l7IsAssign n'1).bind fun r81 => (k r81)) else
 (bif n' == 21 then ((M.spec_l1In n'1 0 1).bind fun r82 => (k r82)) else
 (bif n' == 42 then ((M.spec_l1In n'1 1 3).bind fun r83 => (k r83)) else (bif n' == 43 then (bif n'1 == 1 then (k true) else (k (n'1 == 3))) else (k (n'1 == 0)))))))))
def M.spec_l7Op (n' : Int) (n'1 : Int) (n'2 : List UInt8) (n'3 : List UInt8) (n'4 : List Row) : Option (Bool) := M.spec_l7Op_C n' n'1 n'2 n'3 n'4 some
theorem C.spec_l7Op : S.spec_l7Op.ok X0 fun x => M.spec_l7Op x.1.1.1 x.1.1.2.1 x.1.1.2.2.1 x.1.1.2.2.2.1 x.1.1.2.2.2.2.1 := fnS (fun x => M.spec_l7Op_C x.1.1.1 x.1.1.2.1 x.1.1.2.2.1 x.1.1.2.2.2.1 x.1.1.2.2.2.2.1) [fe C.spec_l7IsBin, fe C.spec_l7IsAssign, fe C.spec_l1In] [] (by intros; simp only [M.spec_l7Op_C, nb] <;> rfl)
def M.spec_IsLetter_C {R : Type} (b : Int) (k : Bool → Option R) : Option R :=
 (M.spec_l1In b 97 122).bind fun r86 =>
 (bif r86 then (k true) else ((M.spec_l1In b 65 90).bind fun r87 => (bif r87 then (k true) else (k (b == 95)))))
def M.spec_IsLetter (b : Int) : Option (Bool) := M.spec_IsLetter_C b some
theorem C.spec_IsLetter : S.spec_IsLetter.ok X0 fun x => M.spec_IsLetter x.1.1 := fnS (fun x => M.spec_IsLetter_C x.1.1) [fe C.spec_l1In] [] (by intros; simp only [M.spec_IsLetter_C, nb] <;> rfl)
def M.spec_IsDigit_C {R : Type} (b : Int) (k : Bool → Option R) : Option R :=
 (M.spec_l1In b 48 57).bind fun r89 => (k r89)
def M.spec_IsDigit (b : Int) : Option (Bool) := M.spec_IsDigit_C b some
theorem C.spec_IsDigit : S.spec_IsDigit.ok X0 fun x => M.spec_IsDigit x.1.1 := fnS (fun x => M.spec_IsDigit_C x.1.1) [fe C.spec_l1In] [] (by intros; simp only [M.spec_IsDigit_C, nb] <;> rfl)
def M.spec_IsWordByte_C {R : Type} (b : Int) (k : Bool → Option R) : Option R :=
 (M.spec_IsLetter b).bind fun r88 => (bif r88 then (k true) else ((M.spec_IsDigit b).bind fun r90 => (k r90)))
def M.spec_IsWordByte (b : Int) : Option (Bool) := M.spec_IsWordByte_C b some
theorem C.spec_IsWordByte : S.spec_IsWordByte.ok X0 fun x => M.spec_IsWordByte x.1.1 := fnS (fun x => M.spec_IsWordByte_C x.1.1) [fe C.spec_IsLetter, fe C.spec_IsDigit] [] (by intros; simp only [M.spec_IsWordByte_C, nb] <;> rfl)
def M.spec_NameShape_l2_C {R : Type} (s' : List UInt8) (s : Int) (kn : Int → Option R) (ke : (Unit) ⊕ (Int) → Option R) : Option R := match s with
 | i =>
 bif decide (i < (↑s'.length : Int)) then
 ((idx s' i).bind fun c85 =>
 ((M.spec_IsWordByte (IntKind.i64.wrap (↑c85.toNat : Int))).bind fun r91 => (bif !r91 then (ke (.inl ())) else (kn (IntKind.i64.wrap (i + 1)))))) else (ke (.inr i))
def M.spec_NameShape_l2_b (s' : List UInt8) (s : Int) := M.spec_NameShape_l2_C s' s (fun s => some (Sum.inl s)) fun t => some (Sum.inr t)
def M.spec_NameShape_l2 (s' : List UInt8) (s : Int) : Option ((Unit) ⊕ (Int)) := loopM (M.spec_NameShape_l2_b s') s
def F.spec_NameShape_l2 : LE X0 157 := le 2 (pSt [pAt 0 pS, pAt 3 pI] []) (fun x => x.1.2.1) (fun x s => ((x.1.1, s, ()), ())) (fun x => .sum (.leaf (Unit) (fun t => (Ex.ret, { tm := [(2, V.d (D.bool false))], mem := [] }))) (.leaf (Int) (fun t => (Ex.exit 0, { tm := [(0, V.d (D.str x.1.1)), (3, V.d (D.int IntKind.i64 t)), (7, V.d (D.bool false))], mem := [] })))) (fun x => M.spec_NameShape_l2_C x.1.1) [fe C.spec_IsWordByte] [] (by rintro _ _ _ _ _ <;> simp only [M.spec_NameShape_l2_C, nb] <;> rfl)
def M.spec_NameShape_C {R : Type} (s' : List UInt8) (k : Bool → Option R) : Option R :=
 (M.spec_NameShape_l2 s' 0).bind fun u97 =>
 sumE u97 (fun t92 => (k false)) fun u98 =>
 letE u98 fun t93 =>
 ((M.spec_l1In ((↑s'.length : Int)) 1 12).bind fun r94 =>
 (bif r94 then
 ((idx s' 0).bind fun c95 => ((M.spec_IsLetter (IntKind.i64.wrap (↑c95.toNat : Int))).bind fun r96 => (k r96))) else (k false)))
def M.spec_NameShape (s' : List UInt8) : Option (Bool) := M.spec_NameShape_C s' some
theorem C.spec_NameShape : S.spec_NameShape.ok X0 fun x => M.spec_NameShape x.1.1 := fnS (fun x => M.spec_NameShape_C x.1.1) [fe C.spec_l1In, fe C.spec_IsLetter] [F.spec_NameShape_l2] (by intros; simp only [M.spec_NameShape_C, nb] <;> rfl)
def M.spec_l3Words_C {R : Type} (k : List Row → Option R) : Option R :=
 k ([[D.str [66, 69, 71, 73, 78]], [D.str [69, 78, 68]], [D.str [102, 117, 110, 99, 116, 105, 111, 110]], [D.str [105, 102]], [D.str [101, 108, 115, 101]], [D.str [119, 104, 105, 108, 101]], [D.str [102, 111, 114]], [D.str [100, 111]], [D.str [98, 114, 101, 97, 107]], [D.str [99, 111, 110, 116, 105, 110, 117, 101]], [D.str [110, 101, 120, 116]], [D.str [101, 120, 105, 116]], [D.str [114, 101, 116, 117, 114, 110]], [D.str [100, 101, 108, 101, 116, 101]], [D.str [105, 110]], [D.str [112, 114, 105, 110, 116]], [D.str [112, 114, 105, 110, 116, 102]]])
def M.spec_l3Words : Option (List Row) := M.spec_l3Words_C some
theorem C.spec_l3Words : S.spec_l3Words.ok X0 fun x => M.spec_l3Words := fnS (fun x => M.spec_l3Words_C) [] [] (by intros; simp only [M.spec_l3Words_C, nb] <;> rfl)
def M.spec_l3Find_l2_C {R : Type} (l : List Row) (s' : List UInt8) (s : Int) (kn : Int → Option R) (ke : (Int) ⊕ (Int) → Option R) : Option R := match s with
 | i =>
 bif decide (i < (↑l.length : Int)) then
 ((idx l i).bind fun row101 =>
 ((cStr row101 0).bind fun s102 => (bif s102 == s' then (ke (.inl i)) else (kn (IntKind.i64.wrap (i + 1)))))) else (ke (.inr i))
def M.spec_l3Find_l2_b (l : List Row) (s' : List UInt8) (s : Int) := M.spec_l3Find_l2_C l s' s (fun s => some (Sum.inl s)) fun t => some (Sum.inr t)
def M.spec_l3Find_l2 (l : List Row) (s' : List UInt8) (s : Int) : Option ((Int) ⊕ (Int)) := loopM (M.spec_l3Find_l2_b l s') s
def F.spec_l3Find_l2 : LE X0 68 := le 2 (pSt [pAt 0 (pL false 1), pAt 1 pS, pAt 5 pI] []) (fun x => x.1.2.2.1) (fun x s => ((x.1.1, x.1.2.1, s, ()), ())) (fun x => .sum (.leaf (Int) (fun t => (Ex.ret, { tm := [(4, V.d (D.int IntKind.i64 t))], mem := [] }))) (.leaf (Int) (fun t => (Ex.exit 0, { tm := [(0, V.d (D.sl false 1 x.1.1)), (1, V.d (D.str x.1.2.1)), (5, V.d (D.int IntKind.i64 t)), (9, V.d (D.bool false))], mem := [] })))) (fun x => M.spec_l3Find_l2_C x.1.1 x.1.2.1) [] [] (by rintro _ _ _ _ _ <;> simp only [M.spec_l3Find_l2_C, nb] <;> rfl)
def M.spec_l3Find_C {R : Type} (l : List Row) (s' : List UInt8) (k : Int → Option R) : Option R :=
 (M.spec_l3Find_l2 l s' 0).bind fun u105 =>
 sumE u105 (fun t103 => (k t103)) fun u106 =>
 letE u106 fun t104 => (k (-1))
def M.spec_l3Find (l : List Row) (s' : List UInt8) : Option (Int) := M.spec_l3Find_C l s' some
theorem C.spec_l3Find : S.spec_l3Find.ok X0 fun x => M.spec_l3Find x.1.1 x.1.2.1 := fnS (fun x => M.spec_l3Find_C x.1.1 x.1.2.1) [] [F.spec_l3Find_l2] (by intros; simp only [M.spec_l3Find_C, nb] <;> rfl)
def M.spec_KeywordOf_C {R : Type} (s' : List UInt8) (k : Int → Option R) : Option R :=
 M.spec_l3Words.bind fun r100 =>
 ((M.spec_l3Find r100 s').bind fun r107 => (bif decide (r107 < 0) then (k 0) else (k (IntKind.i64.wrap (10 + r107)))))
def M.spec_KeywordOf (s' : List UInt8) : Option (Int) := M.spec_KeywordOf_C s' some
theorem C.spec_KeywordOf : S.spec_KeywordOf.ok X0 fun x => M.spec_KeywordOf x.1.1 := fnS (fun x => M.spec_KeywordOf_C x.1.1) [fe C.spec_l3Words, fe C.spec_l3Find] [] (by intros; simp only [M.spec_KeywordOf_C, nb] <;> rfl)
def M.spec_l3Builtins_C {R : Type} (k : List Row → Option R) : Option R :=
 k ([[D.str [97, 116, 97, 110, 50]], [D.str [99, 108, 111, 115, 101]], [D.str [99, 111, 115]], [D.str [101, 120, 112]], [D.str [103, 115, 117, 98]], [D.str [105, 110, 100, 101, 120]], [D.str [105, 110, 116]], [D.str [108, 101, 110, 103, 116, 104]], [D.str [108, 111, 103]], [D.str [109, 97, 116, 99, 104]], [D.str [114, 97, 110, 100]], [D.str [115, 105, 110]], [D.str [115, 112, 108, 105, 116]], [D.str [115, 112, 114, 105, 110, 116, 102]], [D.str [115, 113, 114, 116]], [D.str [115, 114, 97, 110, 100]], [D.str [115, 117, 98]], [D.str [115, 117, 98, 115, 116, 114]], [D.str [115, 121, 115, 116, 101, 109]], [D.str [116, 111, 108, 111, 119, 101, 114]], [D.str [116, 111, 117, 112, 112, 101, 114]]])
def M.spec_l3Builtins : Option (List Row) := M.spec_l3Builtins_C some
theorem C.spec_l3Builtins : S.spec_l3Builtins.ok X0 fun x => M.spec_l3Builtins := fnS (fun x => M.spec_l3Builtins_C) [] [] (by intros; simp only [M.spec_l3Builtins_C, nb] <;> rfl)
def M.spec_IsBuiltin_C {R : Type} (s' : List UInt8) (k : Bool → Option R) : Option R :=
 M.spec_l3Builtins.bind fun r109 => ((M.spec_l3Find r109 s').bind fun r110 => (k (decide (r110 ≥ 0))))
def M.spec_IsBuiltin (s' : List UInt8) : Option (Bool) := M.spec_IsBuiltin_C s' some
theorem C.spec_IsBuiltin : S.spec_IsBuiltin.ok X0 fun x => M.spec_IsBuiltin x.1.1 := fnS (fun x => M.spec_IsBuiltin_C x.1.1) [fe C.spec_l3Builtins, fe C.spec_l3Find] [] (by intros; simp only [M.spec_IsBuiltin_C, nb] <;> rfl)
def M.spec_NameOk_C {R : Type} (s' : List UInt8) (k : Bool → Option R) : Option R :=
 (M.spec_NameShape s').bind fun r99 =>
 (bif r99 then
 ((M.spec_KeywordOf s').bind fun r108 => (bif r108 == 0 then ((M.spec_IsBuiltin s').bind fun r111 => (k !r111)) else (k false))) else (k false))
def M.spec_NameOk (s' : List UInt8) : Option (Bool) := M.spec_NameOk_C s' some
theorem C.spec_NameOk : S.spec_NameOk.ok X0 fun x => M.spec_NameOk x.1.1 := fnS (fun x => M.spec_NameOk_C x.1.1) [fe C.spec_NameShape, fe C.spec_KeywordOf, fe C.spec_IsBuiltin] [] (by intros; simp only [M.spec_NameOk_C, nb] <;> rfl)
def M.spec_l4Plain_l2_C {R : Type} (s' : List UInt8) (s : Int) (kn : Int → Option R) (ke : (Unit) ⊕ (Int) → Option R) : Option R := match s with
 | i =>
 bif decide (i < (↑s'.length : Int)) then
 ((idx s' i).bind fun c119 => (bif (↑c119.toNat : Int) == 10 then (ke (.inl ())) else (kn (IntKind.i64.wrap (i + 1))))) else (ke (.inr i))
def M.spec_l4Plain_l2_b (s' : List UInt8) (s : Int) := M.spec_l4Plain_l2_C s' s (fun s => some (Sum.inl s)) fun t => some (Sum.inr t)
def M.spec_l4Plain_l2 (s' : List UInt8) (s : Int) : Option ((Unit) ⊕ (Int)) := loopM (M.spec_l4Plain_l2_b s') s
def F.spec_l4Plain_l2 : LE X0 159 := le 2 (pSt [pAt 0 pS, pAt 3 pI] []) (fun x => x.1.2.1) (fun x s => ((x.1.1, s, ()), ())) (fun x => .sum (.leaf (Unit) (fun t => (Ex.ret, { tm := [(2, V.d (D.bool false))], mem := [] }))) (.leaf (Int) (fun t => (Ex.exit 0, { tm := [(0, V.d (D.str x.1.1)), (3, V.d (D.int IntKind.i64 t)), (7, V.d (D.bool false))], mem := [] })))) (fun x => M.spec_l4Plain_l2_C x.1.1) [] [] (by rintro _ _ _ _ _ <;> simp only [M.spec_l4Plain_l2_C, nb] <;> rfl)
def M.spec_l4Plain_C {R : Type} (s' : List UInt8) (k : Bool → Option R) : Option R :=
 (M.spec_l4Plain_l2 s' 0).bind fun u122 =>
 sumE u122 (fun t120 => (k false)) fun u123 =>
 letE u123 fun t121 => (k true)
def M.spec_l4Plain (s' : List UInt8) : Option (Bool) := M.spec_l4Plain_C s' some
theorem C.spec_l4Plain : S.spec_l4Plain.ok X0 fun x => M.spec_l4Plain x.1.1 := fnS (fun x => M.spec_l4Plain_C x.1.1) [] [F.spec_l4Plain_l2] (by intros; simp only [M.spec_l4Plain_C, nb] <;> rfl)
def M.spec_l4Byte_C {R : Type} (s' : List UInt8) (at' : Int) (k : Int → Option R) : Option R :=
 bif decide (at' < 0) then (k (-1)) else
 (bif decide (at' ≥ (↑s'.length : Int)) then (k (-1)) else ((idx s' at').bind fun c125 => (k (IntKind.i64.wrap (↑c125.toNat : Int)))))
def M.spec_l4Byte (s' : List UInt8) (at' : Int) : Option (Int) := M.spec_l4Byte_C s' at' some
theorem C.spec_l4Byte : S.spec_l4Byte.ok X0 fun x => M.spec_l4Byte x.1.1 x.1.2.1 := fnS (fun x => M.spec_l4Byte_C x.1.1 x.1.2.1) [] [] (by intros; simp only [M.spec_l4Byte_C, nb] <;> rfl)
def M.spec_l4Digits_l1_C {R : Type} (s' : List UInt8) (s : Int) (kn : Int → Option R) (ke : Int → Option R) : Option R := match s with
 | at' =>
 (M.spec_l4Byte s' at').bind fun r126 =>
 ((M.spec_IsDigit r126).bind fun r127 => (bif r127 then (kn (IntKind.i64.wrap (at' + 1))) else (ke at')))
def M.spec_l4Digits_l1_b (s' : List UInt8) (s : Int) := M.spec_l4Digits_l1_C s' s (fun s => some (Sum.inl s)) fun t => some (Sum.inr t)
def M.spec_l4Digits_l1 (s' : List UInt8) (s : Int) : Option (Int) := loopM (M.spec_l4Digits_l1_b s') s
def F.spec_l4Digits_l1 : LE X0 181 := le 1 (pSt [pAt 0 pS, pAt 1 pI] []) (fun x => x.1.2.1) (fun x s => ((x.1.1, s, ()), ())) (fun x => .leaf (Int) (fun t => (Ex.exit 0, { tm := [(0, V.d (D.str x.1.1)), (1, V.d (D.int IntKind.i64 t)), (8, V.d (D.bool false))], mem := [] }))) (fun x => M.spec_l4Digits_l1_C x.1.1) [fe C.spec_l4Byte, fe C.spec_IsDigit] [] (by rintro _ _ _ _ _ <;> simp only [M.spec_l4Digits_l1_C, nb] <;> rfl)
def M.spec_l4Digits_C {R : Type} (s' : List UInt8) (at' : Int) (k : Int → Option R) : Option R :=
 (M.spec_l4Digits_l1 s' at').bind fun t128 => (k t128)
def M.spec_l4Digits (s' : List UInt8) (at' : Int) : Option (Int) := M.spec_l4Digits_C s' at' some
theorem C.spec_l4Digits : S.spec_l4Digits.ok X0 fun x => M.spec_l4Digits x.1.1 x.1.2.1 := fnS (fun x => M.spec_l4Digits_C x.1.1 x.1.2.1) [] [F.spec_l4Digits_l1] (by intros; simp only [M.spec_l4Digits_C, nb] <;> rfl)
def M.spec_NumEnd_C {R : Type} (s' : List UInt8) (at' : Int) (k : Int → Option R) : Option R :=
 bif decide (at' < 0) then (k (-1)) else
 ((M.spec_l4Digits s' at').bind fun r129 =>
 ((M.spec_l4Byte s' r129).bind fun r130 =>
 (bif r130 == 46 then
 ((M.spec_l4Digits s' (IntKind.i64.wrap (r129 + 1))).bind fun r131 =>
 (bif r129 == at' then
 (bif r131 == IntKind.i64.wrap (r129 + 1) then (k (-1)) else
 (bif r131 == at' then (k (-1)) else
 ((M.spec_l4Byte s' r131).bind fun r132 =>
 (bif r132 == 101 then
 ((M.spec_l4Byte s' (IntKind.i64.wrap (r131 + 1))).bind fun r133 =>
 (bif r133 == 43 then
 ((M.spec_l4Digits s' (IntKind.i64.wrap (IntKind.i64.wrap (r131 + 1) + 1))).bind fun r134 =>
 (bif decide (r134 > IntKind.i64.wrap (IntKind.i64.wrap (r131 + 1) + 1)) then
 ((M.spec_l4Digits s' (IntKind.i64.wrap (IntKind.i64.wrap (r131 + 1) + 1))).bind fun r135 => (k r135)) else (k r131))) else
 ((M.spec_l4Byte s' (IntKind.i64.wrap (r131 + 1))).bind fun r136 =>
 (bif r136 == 45 then
 ((M.spec_l4Digits s' (IntKind.i64.wrap (IntKind.i64.wrap (r131 + 1) + 1))).bind fun r137 =>
 (bif decide (r137 > IntKind.i64.wrap (IntKind.i64.wrap (r131 + 1) + 1)) then
 ((M.spec_l4Digits s' (IntKind.i64.wrap (IntKind.i64.wrap (r131 + 1) + 1))).bind fun r138 => (k r138)) else (k r131))) else
 ((M.spec_l4Digits s' (IntKind.i64.wrap (r131 + 1))).bind fun r139 =>
 (bif decide (r139 > IntKind.i64.wrap (r131 + 1)) then ((M.spec_l4Digits s' (IntKind.i64.wrap (r131 + 1))).bind fun r140 => (k r140)) else (k r131))))))) else
 ((M.spec_l4Byte s' r131).bind fun r141 =>
 (bif r141 == 69 then
 ((M.spec_l4Byte s' (IntKind.i64.wrap (r131 + 1))).bind fun r142 =>
 (bif r142 == 43 then
 ((M.spec_l4Digits s' (IntKind.i64.wrap (IntKind.i64.wrap (r131 + 1) + 1))).bind fun r143 =>
 (bif decide (r143 > IntKind.i64.wrap (IntKind.i64.wrap (r131 + 1) + 1)) then
 ((M.spec_l4Digits s' (IntKind.i64.wrap (IntKind.i64.wrap (r131 + 1) + 1))).bind fun r144 => (k r144)) else (k r131))) else
 ((M.spec_l4Byte s' (IntKind.i64.wrap (r131 + 1))).bind fun r145 =>
 (bif r145 == 45 then
 ((M.spec_l4Digits s' (IntKind.i64.wrap (IntKind.i64.wrap (r131 + 1) + 1))).bind fun r146 =>
 (bif decide (r146 > IntKind.i64.wrap (IntKind.i64.wrap (r131 + 1) + 1)) then
 ((M.spec_l4Digits s' (IntKind.i64.wrap (IntKind.i64.wrap (r131 + 1) + 1))).bind fun r147 => (k r147)) else (k r131))) else
 ((M.spec_l4Digits s' (IntKind.i64.wrap (r131 + 1))).bind fun r148 =>
 (bif decide (r148 > IntKind.i64.wrap (r131 + 1)) then ((M.spec_l4Digits s' (IntKind.i64.wrap (r131 + 1))).bind fun r149 => (k r149)) else (k r131))))))) else (k r131))))))) else
 (bif r131 == at' then (k (-1)) else
 ((M.spec_l4Byte s' r131).bind fun r150 =>
 (bif r150 == 101 then
 ((M.spec_l4Byte s' (IntKind.i64.wrap (r131 + 1))).bind fun r151 =>
 (bif r151 == 43 then
 ((M.spec_l4Digits s' (IntKind.i64.wrap (IntKind.i64.wrap (r131 + 1) + 1))).bind fun r152 =>
 (bif decide (r152 > IntKind.i64.wrap (IntKind.i64.wrap (r131 + 1) + 1)) then
 ((M.spec_l4Digits s' (IntKind.i64.wrap (IntKind.i64.wrap (r131 + 1) + 1))).bind fun r153 => (k r153)) else (k r131))) else
 ((M.spec_l4Byte s' (IntKind.i64.wrap (r131 + 1))).bind fun r154 =>
 (bif r154 == 45 then
 ((M.spec_l4Digits s' (IntKind.i64.wrap (IntKind.i64.wrap (r131 + 1) + 1))).bind fun r155 =>
 (bif decide (r155 > IntKind.i64.wrap (IntKind.i64.wrap (r131 + 1) + 1)) then
 ((M.spec_l4Digits s' (IntKind.i64.wrap (IntKind.i64.wrap (r131 + 1) + 1))).bind fun r156 => (k r156)) else (k r131))) else
 ((M.spec_l4Digits s' (IntKind.i64.wrap (r131 + 1))).bind fun r157 =>
 (bif decide (r157 > IntKind.i64.wrap (r131 + 1)) then ((M.spec_l4Digits s' (IntKind.i64.wrap (r131 + 1))).bind fun r158 => (k r158)) else (k r131))))))) else
 ((M.spec_l4Byte s' r131).bind fun r159 =>
 (bif r159 == 69 then
 ((M.spec_l4Byte s' (IntKind.i64.wrap (r131 + 1))).bind fun r160 =>
 (bif r160 == 43 then
 ((M.spec_l4Digits s' (IntKind.i64.wrap (IntKind.i64.wrap (r131 + 1) + 1))).bind fun r161 =>
 (bif decide (r161 > IntKind.i64.wrap (IntKind.i64.wrap (r131 + 1) + 1)) then
 ((M.spec_l4Digits s' (IntKind.i64.wrap (IntKind.i64.wrap (r131 + 1) + 1))).bind fun r162 => (k r162)) else (k r131))) else
 ((M.spec_l4Byte s' (IntKind.i64.wrap (r131 + 1))).bind fun r163 =>
 (bif r163 == 45 then
 ((M.spec_l4Digits s' (IntKind.i64.wrap (IntKind.i64.wrap (r131 + 1) + 1))).bind fun r164 =>
 (bif decide (r164 > IntKind.i64.wrap (IntKind.i64.wrap (r131 + 1) + 1)) then
 ((M.spec_l4Digits s' (IntKind.i64.wrap (IntKind.i64.wrap (r131 + 1) + 1))).bind fun r165 => (k r165)) else (k r131))) else
 ((M.spec_l4Digits s' (IntKind.i64.wrap (r131 + 1))).bind fun r166 =>
 (bif decide (r166 > IntKind.i64.wrap (r131 + 1)) then ((M.spec_l4Digits s' (IntKind.i64.wrap (r131 + 1))).bind fun r167 => (k r167)) else (k r131))))))) else (k r131)))))))) else
 (bif r129 == at' then (k (-1)) else
 ((M.spec_l4Byte s' r129).bind fun r168 =>
 (bif r168 == 101 then
 ((M.spec_l4Byte s' (IntKind.i64.wrap (r129 + 1))).bind fun r169 =>
 (bif r169 == 43 then
 ((M.spec_l4Digits s' (IntKind.i64.wrap (IntKind.i64.wrap (r129 + 1) + 1))).bind fun r170 =>
 (bif decide (r170 > IntKind.i64.wrap (IntKind.i64.wrap (r129 + 1) + 1)) then
 ((M.spec_l4Digits s' (IntKind.i64.wrap (IntKind.i64.wrap (r129 + 1) + 1))).bind fun r171 => (k r171)) else (k r129))) else
 ((M.spec_l4Byte s' (IntKind.i64.wrap (r129 + 1))).bind fun r172 =>
 (bif r172 == 45 then
 ((M.spec_l4Digits s' (IntKind.i64.wrap (IntKind.i64.wrap (r129 + 1) + 1))).bind fun r173 =>
 (bif decide (r173 > IntKind.i64.wrap (IntKind.i64.wrap (r129 + 1) + 1)) then
 ((M.spec_l4Digits s' (IntKind.i64.wrap (IntKind.i64.wrap (r129 + 1) + 1))).bind fun r174 => (k r174)) else (k r129))) else
 ((M.spec_l4Digits s' (IntKind.i64.wrap (r129 + 1))).bind fun r175 =>
 (bif decide (r175 > IntKind.i64.wrap (r129 + 1)) then ((M.spec_l4Digits s' (IntKind.i64.wrap (r129 + 1))).bind fun r176 => (k r176)) else (k r129))))))) else
 ((M.spec_l4Byte s' r129).bind fun r177 =>
 (bif r177 == 69 then
 ((M.spec_l4Byte s' (IntKind.i64.wrap (r129 + 1))).bind fun r178 =>
 (bif r178 == 43 then
 ((M.spec_l4Digits s' (IntKind.i64.wrap (IntKind.i64.wrap (r129 + 1) + 1))).bind fun r179 =>
 (bif decide (r179 > IntKind.i64.wrap (IntKind.i64.wrap (r129 + 1) + 1)) then
 ((M.spec_l4Digits s' (IntKind.i64.wrap (IntKind.i64.wrap (r129 + 1) + 1))).bind fun r180 => (k r180)) else (k r129))) else
 ((M.spec_l4Byte s' (IntKind.i64.wrap (r129 + 1))).bind fun r181 =>
 (bif r181 == 45 then
 ((M.spec_l4Digits s' (IntKind.i64.wrap (IntKind.i64.wrap (r129 + 1) + 1))).bind fun r182 =>
 (bif decide (r182 > IntKind.i64.wrap (IntKind.i64.wrap (r129 + 1) + 1)) then
 ((M.spec_l4Digits s' (IntKind.i64.wrap (IntKind.i64.wrap (r129 + 1) + 1))).bind fun r183 => (k r183)) else (k r129))) else
 ((M.spec_l4Digits s' (IntKind.i64.wrap (r129 + 1))).bind fun r184 =>
 (bif decide (r184 > IntKind.i64.wrap (r129 + 1)) then ((M.spec_l4Digits s' (IntKind.i64.wrap (r129 + 1))).bind fun r185 => (k r185)) else (k r129))))))) else (k r129)))))))))
def M.spec_NumEnd (s' : List UInt8) (at' : Int) : Option (Int) := M.spec_NumEnd_C s' at' some
theorem C.spec_NumEnd : S.spec_NumEnd.ok X0 fun x => M.spec_NumEnd x.1.1 x.1.2.1 := fnS (fun x => M.spec_NumEnd_C x.1.1 x.1.2.1) [fe C.spec_l4Digits, fe C.spec_l4Byte] [] (by intros; simp only [M.spec_NumEnd_C, nb] <;> rfl)
def M.spec_l4Quoted_l4_C {R : Type} (s' : List UInt8) (sign : Int) (s : Int) (kn : Int → Option R) (ke : (Int) ⊕ (Int) → Option R) : Option R := match s with
 | i =>
 bif decide (i < (↑s'.length : Int)) then
 ((idx s' i).bind fun c188 =>
 (bif IntKind.i64.wrap (↑c188.toNat : Int) == sign then (ke (.inl (IntKind.i64.wrap (i + 1)))) else
 (bif IntKind.i64.wrap (↑c188.toNat : Int) == 10 then (ke (.inl (-1))) else
 (bif IntKind.i64.wrap (↑c188.toNat : Int) == 92 then
 ((M.spec_l4Byte s' (IntKind.i64.wrap (i + 1))).bind fun r189 =>
 (bif r189 == 10 then (ke (.inl (-1))) else (kn (IntKind.i64.wrap (IntKind.i64.wrap (i + 1) + 1))))) else (kn (IntKind.i64.wrap (i + 1))))))) else (ke (.inr i))
def M.spec_l4Quoted_l4_b (s' : List UInt8) (sign : Int) (s : Int) := M.spec_l4Quoted_l4_C s' sign s (fun s => some (Sum.inl s)) fun t => some (Sum.inr t)
def M.spec_l4Quoted_l4 (s' : List UInt8) (sign : Int) (s : Int) : Option ((Int) ⊕ (Int)) := loopM (M.spec_l4Quoted_l4_b s' sign) s
def F.spec_l4Quoted_l4 : LE X0 183 := le 4 (pSt [pAt 0 pS, pAt 2 pI, pAt 7 pI] []) (fun x => x.1.2.2.1) (fun x s => ((x.1.1, x.1.2.1, s, ()), ())) (fun x => .sum (.leaf (Int) (fun t => (Ex.ret, { tm := [(6, V.d (D.int IntKind.i64 t))], mem := [] }))) (.leaf (Int) (fun t => (Ex.exit 0, { tm := [(0, V.d (D.str x.1.1)), (2, V.d (D.int IntKind.i64 x.1.2.1)), (7, V.d (D.int IntKind.i64 t)), (18, V.d (D.bool false))], mem := [] })))) (fun x => M.spec_l4Quoted_l4_C x.1.1 x.1.2.1) [fe C.spec_l4Byte] [] (by rintro _ _ _ _ _ <;> simp only [M.spec_l4Quoted_l4_C, nb] <;> rfl)
def M.spec_l4Quoted_C {R : Type} (s' : List UInt8) (at' : Int) (sign : Int) (k : Int → Option R) : Option R :=
 (M.spec_l4Byte s' at').bind fun r187 =>
 (bif r187 != sign then (k (-1)) else
 ((M.spec_l4Quoted_l4 s' sign (IntKind.i64.wrap (at' + 1))).bind fun u192 =>
 sumE u192 (fun t190 => (k t190)) fun u193 =>
 letE u193 fun t191 => (k (-1))))
def M.spec_l4Quoted (s' : List UInt8) (at' : Int) (sign : Int) : Option (Int) := M.spec_l4Quoted_C s' at' sign some
theorem C.spec_l4Quoted : S.spec_l4Quoted.ok X0 fun x => M.spec_l4Quoted x.1.1 x.1.2.1 x.1.2.2.1 := fnS (fun x => M.spec_l4Quoted_C x.1.1 x.1.2.1 x.1.2.2.1) [fe C.spec_l4Byte] [F.spec_l4Quoted_l4] (by intros; simp only [M.spec_l4Quoted_C, nb] <;> rfl)
def M.spec_StrEnd_C {R : Type} (s' : List UInt8) (at' : Int) (k : Int → Option R) : Option R :=
 (M.spec_l4Quoted s' at' 34).bind fun r194 => (k r194)
def M.spec_StrEnd (s' : List UInt8) (at' : Int) : Option (Int) := M.spec_StrEnd_C s' at' some
theorem C.spec_StrEnd : S.spec_StrEnd.ok X0 fun x => M.spec_StrEnd x.1.1 x.1.2.1 := fnS (fun x => M.spec_StrEnd_C x.1.1 x.1.2.1) [fe C.spec_l4Quoted] [] (by intros; simp only [M.spec_StrEnd_C, nb] <;> rfl)
def M.spec_EreEnd_C {R : Type} (s' : List UInt8) (at' : Int) (k : Int → Option R) : Option R :=
 (M.spec_l4Quoted s' at' 47).bind fun r196 => (bif r196 == IntKind.i64.wrap (at' + 2) then (k (-1)) else (k r196))
def M.spec_EreEnd (s' : List UInt8) (at' : Int) : Option (Int) := M.spec_EreEnd_C s' at' some
theorem C.spec_EreEnd : S.spec_EreEnd.ok X0 fun x => M.spec_EreEnd x.1.1 x.1.2.1 := fnS (fun x => M.spec_EreEnd_C x.1.1 x.1.2.1) [fe C.spec_l4Quoted] [] (by intros; simp only [M.spec_EreEnd_C, nb] <;> rfl)
def M.spec_l3Signs_C {R : Type} (k : List Row → Option R) : Option R :=
 k ([[D.str [123]], [D.str [125]], [D.str [40]], [D.str [41]], [D.str [91]], [D.str [93]], [D.str [44]], [D.str [59]], [D.str [43, 61]], [D.str [45, 61]], [D.str [42, 61]], [D.str [47, 61]], [D.str [37, 61]], [D.str [94, 61]], [D.str [124, 124]], [D.str [38, 38]], [D.str [33, 126]], [D.str [61, 61]], [D.str [60, 61]], [D.str [62, 61]], [D.str [33, 61]], [D.str [43, 43]], [D.str [45, 45]], [D.str [62, 62]], [D.str [61]], [D.str [43]], [D.str [45]], [D.str [42]], [D.str [47]], [D.str [37]], [D.str [94]], [D.str [33]], [D.str [62]], [D.str [60]], [D.str [124]], [D.str [63]], [D.str [58]], [D.str [126]], [D.str [36]]])
def M.spec_l3Signs : Option (List Row) := M.spec_l3Signs_C some
theorem C.spec_l3Signs : S.spec_l3Signs.ok X0 fun x => M.spec_l3Signs := fnS (fun x => M.spec_l3Signs_C) [] [] (by intros; simp only [M.spec_l3Signs_C, nb] <;> rfl)
def M.spec_SpellOf_C {R : Type} (kind : Int) (k : List UInt8 → Option R) : Option R :=
 bif kind == 1 then (k [10]) else
 ((M.spec_l1In kind 10 26).bind fun r201 =>
 (bif r201 then
 (M.spec_l3Words.bind fun r202 =>
 ((idx r202 (IntKind.i64.wrap (kind - 10))).bind fun row203 =>
 ((r202[(IntKind.i64.wrap (kind - 10)).toNat]?).bind fun row204 => ((cStr row204 0).bind fun s205 => (k s205))))) else
 ((M.spec_l1In kind 30 68).bind fun r206 =>
 (bif r206 then
 (M.spec_l3Signs.bind fun r207 =>
 ((idx r207 (IntKind.i64.wrap (kind - 30))).bind fun row208 =>
 ((r207[(IntKind.i64.wrap (kind - 30)).toNat]?).bind fun row209 => ((cStr row209 0).bind fun s210 => (k s210))))) else (k [])))))
def M.spec_SpellOf (kind : Int) : Option (List UInt8) := M.spec_SpellOf_C kind some
theorem C.spec_SpellOf : S.spec_SpellOf.ok X0 fun x => M.spec_SpellOf x.1.1 := fnS (fun x => M.spec_SpellOf_C x.1.1) [fe C.spec_l1In, fe C.spec_l3Words, fe C.spec_l3Signs] [] (by intros; simp only [M.spec_SpellOf_C, nb] <;> rfl)
def M.spec_TokenOk_C {R : Type} (t' : Int) (t'1 : List UInt8) (t'2 : Int) (k : Bool → Option R) : Option R :=
 bif t' == 2 then
 (bif decide ((↑t'1.length : Int) > 0) then
 ((idx t'1 0).bind fun c118 =>
 (bif (↑c118.toNat : Int) == 35 then ((M.spec_l4Plain t'1).bind fun r124 => (k r124)) else (k false))) else (k false)) else
 (bif t' == 3 then
 (bif decide ((↑t'1.length : Int) > 0) then ((M.spec_NumEnd t'1 0).bind fun r186 => (k (r186 == (↑t'1.length : Int)))) else (k false)) else
 (bif t' == 4 then ((M.spec_StrEnd t'1 0).bind fun r195 => (k (r195 == (↑t'1.length : Int)))) else
 (bif t' == 5 then ((M.spec_EreEnd t'1 0).bind fun r197 => (k (r197 == (↑t'1.length : Int)))) else
 (bif t' == 6 then ((M.spec_NameOk t'1).bind fun r198 => (k r198)) else
 (bif t' == 7 then ((M.spec_NameOk t'1).bind fun r199 => (k r199)) else
 (bif t' == 8 then ((M.spec_IsBuiltin t'1).bind fun r200 => (k r200)) else
 (bif !t'1 == [] then ((M.spec_SpellOf t').bind fun r211 => (k (r211 == t'1))) else (k false))))))))
def M.spec_TokenOk (t' : Int) (t'1 : List UInt8) (t'2 : Int) : Option (Bool) := M.spec_TokenOk_C t' t'1 t'2 some
theorem C.spec_TokenOk : S.spec_TokenOk.ok X0 fun x => M.spec_TokenOk x.1.1.1 x.1.1.2.1 x.1.1.2.2.1 := fnS (fun x => M.spec_TokenOk_C x.1.1.1 x.1.1.2.1 x.1.1.2.2.1) [fe C.spec_l4Plain, fe C.spec_NumEnd, fe C.spec_StrEnd, fe C.spec_EreEnd, fe C.spec_NameOk, fe C.spec_IsBuiltin, fe C.spec_SpellOf] [] (by intros; simp only [M.spec_TokenOk_C, nb] <;> rfl)
def M.spec_l7Text_C {R : Type} (n' : Int) (n'1 : Int) (n'2 : List UInt8) (n'3 : List UInt8) (n'4 : List Row) (k : Bool → Option R) : Option R :=
 bif n' == 1 then ((M.spec_NameOk n'2).bind fun r112 => (bif r112 then (k (n'3 == [])) else (k false))) else
 (bif n' == 5 then ((M.spec_NameOk n'2).bind fun r113 => (bif r113 then (k (n'3 == [])) else (k false))) else
 (bif n' == 7 then ((M.spec_NameOk n'2).bind fun r114 => (bif r114 then (k (n'3 == [])) else (k false))) else
 (bif n' == 13 then ((M.spec_NameOk n'2).bind fun r115 => (bif r115 then (k (n'3 == [])) else (k false))) else
 (bif n' == 27 then ((M.spec_NameOk n'2).bind fun r116 => (bif r116 then (k (n'3 == [])) else (k false))) else
 (bif n' == 44 then ((M.spec_NameOk n'2).bind fun r117 => (bif r117 then (k (n'3 == [])) else (k false))) else
 (bif n' == 2 then ((M.spec_TokenOk 3 n'2 0).bind fun r212 => (bif r212 then (k (n'3 == [])) else (k false))) else
 (bif n' == 3 then ((M.spec_TokenOk 4 n'2 0).bind fun r213 => (bif r213 then (k (n'3 == [])) else (k false))) else
 (bif n' == 4 then ((M.spec_TokenOk 5 n'2 0).bind fun r214 => (bif r214 then (k (n'3 == [])) else (k false))) else
 (bif n' == 34 then ((M.spec_TokenOk 2 n'2 0).bind fun r215 => (bif r215 then (k (n'3 == [])) else (k false))) else
 (bif n' == 8 then ((M.spec_IsBuiltin n'2).bind fun r216 => (bif r216 then (k (n'3 == [])) else (k false))) else
 (bif n' == 32 then
 ((M.spec_NameOk n'2).bind fun r217 => (bif r217 then ((M.spec_NameOk n'3).bind fun r218 => (k r218)) else (k false))) else
 (bif n' == 21 then
 (bif n'2 == [] then
 (bif n'3 == [] then (k true) else
 (bif n'3 == [62] then (k true) else (bif n'3 == [62, 62] then (k true) else (k (n'3 == [124]))))) else (k false)) else (bif n'2 == [] then (k (n'3 == [])) else (k false))))))))))))))
def M.spec_l7Text (n' : Int) (n'1 : Int) (n'2 : List UInt8) (n'3 : List UInt8) (n'4 : List Row) : Option (Bool) := M.spec_l7Text_C n' n'1 n'2 n'3 n'4 some
theorem C.spec_l7Text : S.spec_l7Text.ok X0 fun x => M.spec_l7Text x.1.1.1 x.1.1.2.1 x.1.1.2.2.1 x.1.1.2.2.2.1 x.1.1.2.2.2.2.1 := fnS (fun x => M.spec_l7Text_C x.1.1.1 x.1.1.2.1 x.1.1.2.2.1 x.1.1.2.2.2.1 x.1.1.2.2.2.2.1) [fe C.spec_NameOk, fe C.spec_TokenOk, fe C.spec_IsBuiltin] [] (by intros; simp only [M.spec_l7Text_C, nb] <;> rfl)
def M.spec_FieldsOk_C {R : Type} (n' : Int) (n'1 : Int) (n'2 : List UInt8) (n'3 : List UInt8) (n'4 : List Row) (k : Bool → Option R) : Option R :=
 (M.spec_l7Many n' n'1 n'2 n'3 n'4).bind fun r77 =>
 ((M.spec_l1In n' 1 16).bind fun r78 =>
 (bif r78 then
 ((M.spec_l7Op n' n'1 n'2 n'3 n'4).bind fun r84 =>
 (bif r84 then
 ((M.spec_l7Text n' n'1 n'2 n'3 n'4).bind fun r219 =>
 (bif r219 then ((M.spec_l1In ((↑n'4.length : Int)) r77.fst r77.snd).bind fun r220 => (k r220)) else (k false))) else (k false))) else
 ((M.spec_l1In n' 20 34).bind fun r221 =>
 (bif r221 then
 ((M.spec_l7Op n' n'1 n'2 n'3 n'4).bind fun r222 =>
 (bif r222 then
 ((M.spec_l7Text n' n'1 n'2 n'3 n'4).bind fun r223 =>
 (bif r223 then ((M.spec_l1In ((↑n'4.length : Int)) r77.fst r77.snd).bind fun r224 => (k r224)) else (k false))) else (k false))) else
 ((M.spec_l1In n' 40 45).bind fun r225 =>
 (bif r225 then
 ((M.spec_l7Op n' n'1 n'2 n'3 n'4).bind fun r226 =>
 (bif r226 then
 ((M.spec_l7Text n' n'1 n'2 n'3 n'4).bind fun r227 =>
 (bif r227 then ((M.spec_l1In ((↑n'4.length : Int)) r77.fst r77.snd).bind fun r228 => (k r228)) else (k false))) else (k false))) else (k false)))))))
def M.spec_FieldsOk (n' : Int) (n'1 : Int) (n'2 : List UInt8) (n'3 : List UInt8) (n'4 : List Row) : Option (Bool) := M.spec_FieldsOk_C n' n'1 n'2 n'3 n'4 some
theorem C.spec_FieldsOk : S.spec_FieldsOk.ok X0 fun x => M.spec_FieldsOk x.1.1.1 x.1.1.2.1 x.1.1.2.2.1 x.1.1.2.2.2.1 x.1.1.2.2.2.2.1 := fnS (fun x => M.spec_FieldsOk_C x.1.1.1 x.1.1.2.1 x.1.1.2.2.1 x.1.1.2.2.2.1 x.1.1.2.2.2.2.1) [fe C.spec_l7Many, fe C.spec_l1In, fe C.spec_l7Op, fe C.spec_l7Text] [] (by intros; simp only [M.spec_FieldsOk_C, nb] <;> rfl)
def M.spec_IsLvalue_C {R : Type} (kind : Int) (k : Bool → Option R) : Option R :=
 bif kind == 1 then (k true) else (bif kind == 5 then (k true) else (k (kind == 6)))
def M.spec_IsLvalue (kind : Int) : Option (Bool) := M.spec_IsLvalue_C kind some
theorem C.spec_IsLvalue : S.spec_IsLvalue.ok X0 fun x => M.spec_IsLvalue x.1.1 := fnS (fun x => M.spec_IsLvalue_C x.1.1) [] [] (by intros; simp only [M.spec_IsLvalue_C, nb] <;> rfl)
def M.spec_IsExpr_C {R : Type} (kind : Int) (k : Bool → Option R) : Option R :=
 (M.spec_l1In kind 1 15).bind fun r246 => (k r246)
def M.spec_IsExpr (kind : Int) : Option (Bool) := M.spec_IsExpr_C kind some
theorem C.spec_IsExpr : S.spec_IsExpr.ok X0 fun x => M.spec_IsExpr x.1.1 := fnS (fun x => M.spec_IsExpr_C x.1.1) [fe C.spec_l1In] [] (by intros; simp only [M.spec_IsExpr_C, nb] <;> rfl)
def M.spec_IsStmt_C {R : Type} (kind : Int) (k : Bool → Option R) : Option R :=
 (M.spec_l1In kind 20 34).bind fun r254 => (k r254)
def M.spec_IsStmt (kind : Int) : Option (Bool) := M.spec_IsStmt_C kind some
theorem C.spec_IsStmt : S.spec_IsStmt.ok X0 fun x => M.spec_IsStmt x.1.1 := fnS (fun x => M.spec_IsStmt_C x.1.1) [fe C.spec_l1In] [] (by intros; simp only [M.spec_IsStmt_C, nb] <;> rfl)
def M.spec_l7Kid_C {R : Type} (n' : Int) (n'1 : Int) (n'2 : List UInt8) (n'3 : List UInt8) (n'4 : List Row) (k' : Int) (kind : Int) (k : Bool → Option R) : Option R :=
 bif n' == 9 then ((M.spec_IsLvalue kind).bind fun r244 => (k r244)) else
 (bif n' == 10 then ((M.spec_IsLvalue kind).bind fun r245 => (k r245)) else
 (bif n' == 15 then
 ((M.spec_IsExpr kind).bind fun r247 =>
 (bif r247 then (bif decide (k' > 0) then (k true) else ((M.spec_IsLvalue kind).bind fun r248 => (k r248))) else (k false))) else
 (bif n' == 28 then
 (bif k' == 0 then
 ((M.spec_IsExpr kind).bind fun r249 => (bif r249 then (k true) else (bif decide (k' > 0) then (k (kind == 33)) else (k false)))) else (bif decide (k' > 0) then (k (kind == 33)) else (k false))) else
 (bif n' == 29 then
 (bif k' == 0 then
 ((M.spec_IsExpr kind).bind fun r250 => (bif r250 then (k true) else (bif k' == 1 then (k (kind == 33)) else (k false)))) else (bif k' == 1 then (k (kind == 33)) else (k false))) else
 (bif n' == 30 then
 (bif k' == 0 then
 (bif kind == 33 then (k true) else (bif k' == 1 then ((M.spec_IsExpr kind).bind fun r251 => (k r251)) else (k false))) else (bif k' == 1 then ((M.spec_IsExpr kind).bind fun r252 => (k r252)) else (k false))) else
 (bif n' == 31 then
 (bif decide (k' < 3) then
 ((M.spec_IsExpr kind).bind fun r253 =>
 (bif r253 then (k true) else (bif kind == 16 then (k true) else (bif k' == 3 then (k (kind == 33)) else (k false))))) else (bif k' == 3 then (k (kind == 33)) else (k false))) else
 (bif n' == 32 then (k (kind == 33)) else
 (bif n' == 40 then (k (kind == 33)) else
 (bif n' == 41 then (k (kind == 33)) else
 (bif n' == 33 then ((M.spec_IsStmt kind).bind fun r255 => (k r255)) else
 (bif n' == 42 then
 (bif n'1 == 1 then
 ((M.spec_IsExpr kind).bind fun r256 =>
 (bif r256 then (k true) else
 (bif n'1 == 2 then
 (bif kind == 33 then (k true) else
 (bif n'1 == 3 then
 (bif k' == IntKind.i64.wrap ((↑n'4.length : Int) - 1) then
 (bif kind == 33 then (k true) else
 (bif !k' == IntKind.i64.wrap ((↑n'4.length : Int) - 1) then ((M.spec_IsExpr kind).bind fun r257 => (k r257)) else (k false))) else
 (bif !k' == IntKind.i64.wrap ((↑n'4.length : Int) - 1) then ((M.spec_IsExpr kind).bind fun r258 => (k r258)) else (k false))) else (k false))) else
 (bif n'1 == 3 then
 (bif k' == IntKind.i64.wrap ((↑n'4.length : Int) - 1) then
 (bif kind == 33 then (k true) else
 (bif !k' == IntKind.i64.wrap ((↑n'4.length : Int) - 1) then ((M.spec_IsExpr kind).bind fun r259 => (k r259)) else (k false))) else
 (bif !k' == IntKind.i64.wrap ((↑n'4.length : Int) - 1) then ((M.spec_IsExpr kind).bind fun r260 => (k r260)) else (k false))) else (k false))))) else
 (bif n'1 == 2 then
 (bif kind == 33 then (k true) else
 (bif n'1 == 3 then
 (bif k' == IntKind.i64.wrap ((↑n'4.length : Int) - 1) then
 (bif kind == 33 then (k true) else
 (bif !k' == IntKind.i64.wrap ((↑n'4.length : Int) - 1) then ((M.spec_IsExpr kind).bind fun r261 => (k r261)) else (k false))) else
 (bif !k' == IntKind.i64.wrap ((↑n'4.length : Int) - 1) then ((M.spec_IsExpr kind).bind fun r262 => (k r262)) else (k false))) else (k false))) else
 (bif n'1 == 3 then
 (bif k' == IntKind.i64.wrap ((↑n'4.length : Int) - 1) then
 (bif kind == 33 then (k true) else
 (bif !k' == IntKind.i64.wrap ((↑n'4.length : Int) - 1) then ((M.spec_IsExpr kind).bind fun r263 => (k r263)) else (k false))) else
 (bif !k' == IntKind.i64.wrap ((↑n'4.length : Int) - 1) then ((M.spec_IsExpr kind).bind fun r264 => (k r264)) else (k false))) else (k false)))) else
 (bif n' == 43 then
 (bif decide (k' < 2) then
 ((M.spec_IsExpr kind).bind fun r265 => (bif r265 then (k true) else (bif k' == 2 then (k (kind == 33)) else (k false)))) else (bif k' == 2 then (k (kind == 33)) else (k false))) else
 (bif n' == 44 then
 (bif k' == IntKind.i64.wrap ((↑n'4.length : Int) - 1) then
 (bif kind == 33 then (k true) else (bif !k' == IntKind.i64.wrap ((↑n'4.length : Int) - 1) then (k (kind == 1)) else (k false))) else (bif !k' == IntKind.i64.wrap ((↑n'4.length : Int) - 1) then (k (kind == 1)) else (k false))) else
 (bif n' == 45 then ((M.spec_l1In kind 40 44).bind fun r266 => (bif r266 then (k true) else (k (kind == 34)))) else ((M.spec_IsExpr kind).bind fun r267 => (k r267))))))))))))))))
def M.spec_l7Kid (n' : Int) (n'1 : Int) (n'2 : List UInt8) (n'3 : List UInt8) (n'4 : List Row) (k' : Int) (kind : Int) : Option (Bool) := M.spec_l7Kid_C n' n'1 n'2 n'3 n'4 k' kind some
theorem C.spec_l7Kid : S.spec_l7Kid.ok X0 fun x => M.spec_l7Kid x.1.1.1 x.1.1.2.1 x.1.1.2.2.1 x.1.1.2.2.2.1 x.1.1.2.2.2.2.1 x.1.2.1 x.1.2.2.1 := fnS (fun x => M.spec_l7Kid_C x.1.1.1 x.1.1.2.1 x.1.1.2.2.1 x.1.1.2.2.2.1 x.1.1.2.2.2.2.1 x.1.2.1 x.1.2.2.1) [fe C.spec_IsLvalue, fe C.spec_IsExpr, fe C.spec_IsStmt, fe C.spec_l1In] [] (by intros; simp only [M.spec_l7Kid_C, nb] <;> rfl)
def M.spec_TreeOk_l9_C {R : Type} (l : List Row) (i : Int) (s : Int) (kn : Int → Option R) (ke : (Unit) ⊕ (Int) → Option R) : Option R := match s with
 | k' =>
 (idx l i).bind fun row230 =>
 ((cSl 1 row230 4).bind fun rows231 =>
 (bif decide (k' < (↑rows231.length : Int)) then
 ((idx l i).bind fun row232 =>
 ((cInt IntKind.i64 row232 0).bind fun n233 =>
 ((cInt IntKind.i64 row232 1).bind fun n234 =>
 ((cStr row232 2).bind fun s235 =>
 ((cStr row232 3).bind fun s236 =>
 ((cSl 1 row232 4).bind fun rows237 =>
 ((idx l i).bind fun row238 =>
 ((cSl 1 row238 4).bind fun rows239 =>
 ((idx rows239 k').bind fun row240 =>
 ((cInt IntKind.i64 row240 0).bind fun n241 =>
 ((idx l n241).bind fun row242 =>
 ((cInt IntKind.i64 row242 0).bind fun n243 =>
 ((M.spec_l7Kid n233 n234 s235 s236 rows237 k' n243).bind fun r268 => (bif !r268 then (ke (.inl ())) else (kn (IntKind.i64.wrap (k' + 1))))))))))))))))) else (ke (.inr k'))))
def M.spec_TreeOk_l9_b (l : List Row) (i : Int) (s : Int) := M.spec_TreeOk_l9_C l i s (fun s => some (Sum.inl s)) fun t => some (Sum.inr t)
def M.spec_TreeOk_l9 (l : List Row) (i : Int) (s : Int) : Option ((Unit) ⊕ (Int)) := loopM (M.spec_TreeOk_l9_b l i) s
def F.spec_TreeOk_l9 : LE X0 36 := le 9 (pSt [pAt 0 (pL false 5), pAt 3 pI, pAt 4 pI] []) (fun x => x.1.2.2.1) (fun x s => ((x.1.1, x.1.2.1, s, ()), ())) (fun x => .sum (.leaf (Unit) (fun t => (Ex.ret, { tm := [(2, V.d (D.bool false))], mem := [] }))) (.leaf (Int) (fun t => (Ex.exit 2, { tm := [(0, V.d (D.sl false 5 x.1.1)), (3, V.d (D.int IntKind.i64 x.1.2.1)), (4, V.d (D.int IntKind.i64 t)), (32, V.d (D.bool false))], mem := [] })))) (fun x => M.spec_TreeOk_l9_C x.1.1 x.1.2.1) [fe C.spec_l7Kid] [] (by rintro _ _ _ _ _ <;> simp only [M.spec_TreeOk_l9_C, nb] <;> rfl)
def M.spec_TreeOk_l4_C {R : Type} (l : List Row) (s : Int) (kn : Int → Option R) (ke : (Unit) ⊕ (Int) → Option R) : Option R := match s with
 | i =>
 bif decide (i < (↑l.length : Int)) then
 ((idx l i).bind fun row71 =>
 ((cInt IntKind.i64 row71 0).bind fun n72 =>
 ((cInt IntKind.i64 row71 1).bind fun n73 =>
 ((cStr row71 2).bind fun s74 =>
 ((cStr row71 3).bind fun s75 =>
 ((cSl 1 row71 4).bind fun rows76 =>
 ((M.spec_FieldsOk n72 n73 s74 s75 rows76).bind fun r229 =>
 (bif !r229 then (ke (.inl ())) else
 ((M.spec_TreeOk_l9 l i 0).bind fun u273 =>
 sumE u273 (fun t269 => (ke (.inl ()))) fun u274 =>
 letE u274 fun t270 => (kn (IntKind.i64.wrap (i + 1)))))))))))) else (ke (.inr i))
def M.spec_TreeOk_l4_b (l : List Row) (s : Int) := M.spec_TreeOk_l4_C l s (fun s => some (Sum.inl s)) fun t => some (Sum.inr t)
def M.spec_TreeOk_l4 (l : List Row) (s : Int) : Option ((Unit) ⊕ (Int)) := loopM (M.spec_TreeOk_l4_b l) s
def F.spec_TreeOk_l4 : LE X0 36 := le 4 (pSt [pAt 0 (pL false 5), pAt 3 pI] []) (fun x => x.1.2.1) (fun x s => ((x.1.1, s, ()), ())) (fun x => .sum (.leaf (Unit) (fun t => (Ex.ret, { tm := [(2, V.d (D.bool false))], mem := [] }))) (.leaf (Int) (fun t => (Ex.exit 0, { tm := [(0, V.d (D.sl false 5 x.1.1)), (3, V.d (D.int IntKind.i64 t)), (16, V.d (D.bool false))], mem := [] })))) (fun x => M.spec_TreeOk_l4_C x.1.1) [fe C.spec_FieldsOk] [F.spec_TreeOk_l9] (by rintro _ _ _ _ _ <;> simp only [M.spec_TreeOk_l4_C, nb] <;> rfl)
def M.spec_TreeOk_C {R : Type} (l : List Row) (k : Bool → Option R) : Option R :=
 (M.spec_ShapeOk l).bind fun r54 =>
 (bif !r54 then (k false) else
 ((M.spec_DepthOf l).bind fun r70 =>
 (bif decide (r70 > 40) then (k false) else
 ((M.spec_TreeOk_l4 l 0).bind fun u275 =>
 sumE u275 (fun t271 => (k false)) fun u276 =>
 letE u276 fun t272 => (k true)))))
def M.spec_TreeOk (l : List Row) : Option (Bool) := M.spec_TreeOk_C l some
theorem C.spec_TreeOk : S.spec_TreeOk.ok X0 fun x => M.spec_TreeOk x.1.1 := fnS (fun x => M.spec_TreeOk_C x.1.1) [fe C.spec_ShapeOk, fe C.spec_DepthOf] [F.spec_TreeOk_l4] (by intros; simp only [M.spec_TreeOk_C, nb] <;> rfl)
def M.spec_ProgramOk_C {R : Type} (l : List Row) (k : Bool → Option R) : Option R :=
 (M.spec_TreeOk l).bind fun r277 =>
 (bif r277 then
 ((idx l (IntKind.i64.wrap ((↑l.length : Int) - 1))).bind fun row278 => ((cInt IntKind.i64 row278 0).bind fun n279 => (k (n279 == 45)))) else (k false))
def M.spec_ProgramOk (l : List Row) : Option (Bool) := M.spec_ProgramOk_C l some
theorem C.spec_ProgramOk : S.spec_ProgramOk.ok X0 fun x => M.spec_ProgramOk x.1.1 := fnS (fun x => M.spec_ProgramOk_C x.1.1) [fe C.spec_TreeOk] [] (by intros; simp only [M.spec_ProgramOk_C, nb] <;> rfl)
def M.spec_l6Shift_l8_C {R : Type} (l : List Row) (by' : Int) (i : Int) (x' : List Row) (x'1 : Int) (x'2 : Int) (x'3 : List UInt8) (x'4 : List UInt8) (s : Int × List Row) (kn : Int × List Row → Option R) (ke : Int × List Row → Option R) : Option R := match s with
 | (k', x'5) =>
 (idx l i).bind fun row300 =>
 ((cSl 1 row300 4).bind fun rows301 =>
 (bif decide (k' < (↑rows301.length : Int)) then
 ((idx l i).bind fun row302 =>
 ((cSl 1 row302 4).bind fun rows303 =>
 ((idx rows303 k').bind fun row304 =>
 ((cInt IntKind.i64 row304 0).bind fun n305 =>
 (bif ((x'5.length + [[D.int IntKind.i64 (IntKind.i64.wrap (n305 + by'))]].length) * 8).ble 140737488355328 then
 (bif (x'5.length + [[D.int IntKind.i64 (IntKind.i64.wrap (n305 + by'))]].length).ble 140737488355328 then
 (kn ((IntKind.i64.wrap (k' + 1), x'5 ++ [[D.int IntKind.i64 (IntKind.i64.wrap (n305 + by'))]]))) else none) else none))))) else (ke ((k', x'5)))))
def M.spec_l6Shift_l8_b (l : List Row) (by' : Int) (i : Int) (x' : List Row) (x'1 : Int) (x'2 : Int) (x'3 : List UInt8) (x'4 : List UInt8) (s : Int × List Row) := M.spec_l6Shift_l8_C l by' i x' x'1 x'2 x'3 x'4 s (fun s => some (Sum.inl s)) fun t => some (Sum.inr t)
def M.spec_l6Shift_l8 (l : List Row) (by' : Int) (i : Int) (x' : List Row) (x'1 : Int) (x'2 : Int) (x'3 : List UInt8) (x'4 : List UInt8) (s : Int × List Row) : Option (Int × List Row) := loopM (M.spec_l6Shift_l8_b l by' i x' x'1 x'2 x'3 x'4) s
def F.spec_l6Shift_l8 : LE X0 76 := le 8 (pSt [pAt 0 (pL false 5), pAt 1 pI, pAt 5 (pO 300000 0), pAt 6 pI, pAt 7 (pP 300001 0), pAt 8 pI] [pAt 300000 (cA false false 0 5), pAt 300001 (cB 49 [pI, pI, pS, pS, pO 300002 0]), pAt 300002 (cA false true 0 1)]) (fun x => (x.1.2.2.2.2.2.1, x.2.2.2.1)) (fun x s => ((x.1.1, x.1.2.1, (), x.1.2.2.2.1, (), s.1, ()), (x.2.1, (x.2.2.1.1, x.2.2.1.2.1, x.2.2.1.2.2.1, x.2.2.1.2.2.2.1, (), ()), s.2, ()))) (fun x => .leaf (Int × List Row) (fun t => (Ex.exit 2, { tm := [(0, V.d (D.sl false 5 x.1.1)), (1, V.d (D.int IntKind.i64 x.1.2.1)), (5, V.own 300000 0), (6, V.d (D.int IntKind.i64 x.1.2.2.2.1)), (7, V.ptr 300001 0), (8, V.d (D.int IntKind.i64 t.fst)), (29, V.d (D.bool false))], mem := [(300000, Cell.arr false false 0 5 x.2.1), (300001, Cell.box 49 [V.d (D.int IntKind.i64 x.2.2.1.1), V.d (D.int IntKind.i64 x.2.2.1.2.1), V.d (D.str x.2.2.1.2.2.1), V.d (D.str x.2.2.1.2.2.2.1), V.own 300002 0]), (300002, Cell.arr false true 0 1 t.snd)] }))) (fun x => M.spec_l6Shift_l8_C x.1.1 x.1.2.1 x.1.2.2.2.1 x.2.1 x.2.2.1.1 x.2.2.1.2.1 x.2.2.1.2.2.1 x.2.2.1.2.2.2.1) [] [] (by rintro _ _ ⟨_, _⟩ _ _ <;> simp only [M.spec_l6Shift_l8_C, nb] <;> rfl)
def M.spec_l6Shift_l3_C {R : Type} (l : List Row) (by' : Int) (s : Int × List Row) (kn : Int × List Row → Option R) (ke : Int × List Row → Option R) : Option R := match s with
 | (i, x') =>
 bif decide (i < (↑l.length : Int)) then
 ((idx l i).bind fun row294 =>
 ((cInt IntKind.i64 row294 0).bind fun n295 =>
 ((cInt IntKind.i64 row294 1).bind fun n296 =>
 ((cStr row294 2).bind fun s297 =>
 ((cStr row294 3).bind fun s298 =>
 ((cSl 1 row294 4).bind fun rows299 =>
 ((M.spec_l6Shift_l8 l by' i x' n295 n296 s297 s298 ((0, []))).bind fun t306 =>
 (bif flatRows t306.snd then
 (bif ((x'.length + [[D.int IntKind.i64 n295, D.int IntKind.i64 n296, D.str s297, D.str s298, D.sl true 1 t306.snd]].length) * 72).ble 140737488355328 then
 (bif (x'.length + [[D.int IntKind.i64 n295, D.int IntKind.i64 n296, D.str s297, D.str s298, D.sl true 1 t306.snd]].length).ble 140737488355328 then
 (kn ((IntKind.i64.wrap (i + 1), x' ++ [[D.int IntKind.i64 n295, D.int IntKind.i64 n296, D.str s297, D.str s298, D.sl true 1 t306.snd]]))) else none) else none) else none)))))))) else (ke ((i, x')))
def M.spec_l6Shift_l3_b (l : List Row) (by' : Int) (s : Int × List Row) := M.spec_l6Shift_l3_C l by' s (fun s => some (Sum.inl s)) fun t => some (Sum.inr t)
def M.spec_l6Shift_l3 (l : List Row) (by' : Int) (s : Int × List Row) : Option (Int × List Row) := loopM (M.spec_l6Shift_l3_b l by') s
def F.spec_l6Shift_l3 : LE X0 76 := le 3 (pSt [pAt 0 (pL false 5), pAt 1 pI, pAt 5 (pO 300000 0), pAt 6 pI] [pAt 300000 (cA false false 0 5)]) (fun x => (x.1.2.2.2.1, x.2.1)) (fun x s => ((x.1.1, x.1.2.1, (), s.1, ()), (s.2, ()))) (fun x => .leaf (Int × List Row) (fun t => (Ex.exit 0, { tm := [(0, V.d (D.sl false 5 x.1.1)), (1, V.d (D.int IntKind.i64 x.1.2.1)), (5, V.own 300000 0), (6, V.d (D.int IntKind.i64 t.fst)), (13, V.d (D.bool false))], mem := [(300000, Cell.arr false false 0 5 t.snd)] }))) (fun x => M.spec_l6Shift_l3_C x.1.1 x.1.2.1) [] [F.spec_l6Shift_l8] (by rintro _ _ ⟨_, _⟩ _ _ <;> simp only [M.spec_l6Shift_l3_C, nb] <;> rfl)
def M.spec_l6Shift_C {R : Type} (l : List Row) (by' : Int) (k : List Row → Option R) : Option R :=
 (M.spec_l6Shift_l3 l by' ((0, []))).bind fun t307 => (k t307.snd)
def M.spec_l6Shift (l : List Row) (by' : Int) : Option (List Row) := M.spec_l6Shift_C l by' some
theorem C.spec_l6Shift : S.spec_l6Shift.ok X0 fun x => M.spec_l6Shift x.1.1 x.1.2.1 := fnS (fun x => M.spec_l6Shift_C x.1.1 x.1.2.1) [] [F.spec_l6Shift_l3] (by intros; simp only [M.spec_l6Shift_C, nb] <;> rfl)
def M.spec_l6Part_C {R : Type} (l : List Row) (i : Int) (k : List Row → Option R) : Option R :=
 (M.spec_l6Starts l).bind fun r286 =>
 ((idx r286.fst i).bind fun row287 =>
 (r286.fst[i.toNat]?.bind fun row288 =>
 ((cInt IntKind.i64 row288 0).bind fun n289 =>
 ((cut l n289 (IntKind.i64.wrap (i + 1))).bind fun rows290 =>
 ((idx r286.fst i).bind fun row291 =>
 (r286.fst[i.toNat]?.bind fun row292 =>
 ((cInt IntKind.i64 row292 0).bind fun n293 => ((M.spec_l6Shift rows290 (IntKind.i64.wrap (0 - n293))).bind fun r308 => (k r308)))))))))
def M.spec_l6Part (l : List Row) (i : Int) : Option (List Row) := M.spec_l6Part_C l i some
theorem C.spec_l6Part : S.spec_l6Part.ok X0 fun x => M.spec_l6Part x.1.1 x.1.2.1 := fnS (fun x => M.spec_l6Part_C x.1.1 x.1.2.1) [fe C.spec_l6Starts, fe C.spec_l6Shift] [] (by intros; simp only [M.spec_l6Part_C, nb] <;> rfl)
theorem C.impl_startsOf : S.impl_startsOf.ok X0 fun x => M.impl_startsOf x.1.1 := Sig.prim (p := Prim.impl_startsOf)
def M.impl_ShapeOk_C {R : Type} (l : List Row) (k : Bool → Option R) : Option R :=
 (M.impl_startsOf l).bind fun r322 => (k r322.snd)
def M.impl_ShapeOk (l : List Row) : Option (Bool) := M.impl_ShapeOk_C l some
theorem C.impl_ShapeOk : S.impl_ShapeOk.ok X0 fun x => M.impl_ShapeOk x.1.1 := fnS (fun x => M.impl_ShapeOk_C x.1.1) [fe C.impl_startsOf] [] (by intros; simp only [M.impl_ShapeOk_C, nb] <;> rfl)
def M.impl_within_C {R : Type} (n' : Int) (low : Int) (high : Int) (k : Bool → Option R) : Option R :=
 bif decide (n' ≥ low) then (k (decide (n' ≤ high))) else (k false)
def M.impl_within (n' : Int) (low : Int) (high : Int) : Option (Bool) := M.impl_within_C n' low high some
theorem C.impl_within : S.impl_within.ok X0 fun x => M.impl_within x.1.1 x.1.2.1 x.1.2.2.1 := fnS (fun x => M.impl_within_C x.1.1 x.1.2.1 x.1.2.2.1) [] [] (by intros; simp only [M.impl_within_C, nb] <;> rfl)
def M.impl_IsExpr_C {R : Type} (kind : Int) (k : Bool → Option R) : Option R :=
 (M.impl_within kind 1 15).bind fun r330 => (k r330)
def M.impl_IsExpr (kind : Int) : Option (Bool) := M.impl_IsExpr_C kind some
theorem C.impl_IsExpr : S.impl_IsExpr.ok X0 fun x => M.impl_IsExpr x.1.1 := fnS (fun x => M.impl_IsExpr_C x.1.1) [fe C.impl_within] [] (by intros; simp only [M.impl_IsExpr_C, nb] <;> rfl)
def M.impl_IsLetter_C {R : Type} (b : Int) (k : Bool → Option R) : Option R :=
 bif decide (b ≥ 97) then
 (bif decide (b ≤ 122) then (k true) else
 (bif decide (b ≥ 65) then (bif decide (b ≤ 90) then (k true) else (k (b == 95))) else (k (b == 95)))) else
 (bif decide (b ≥ 65) then (bif decide (b ≤ 90) then (k true) else (k (b == 95))) else (k (b == 95)))
def M.impl_IsLetter (b : Int) : Option (Bool) := M.impl_IsLetter_C b some
theorem C.impl_IsLetter : S.impl_IsLetter.ok X0 fun x => M.impl_IsLetter x.1.1 := fnS (fun x => M.impl_IsLetter_C x.1.1) [] [] (by intros; simp only [M.impl_IsLetter_C, nb] <;> rfl)
def M.impl_IsDigit_C {R : Type} (b : Int) (k : Bool → Option R) : Option R :=
 bif decide (b ≥ 48) then (k (decide (b ≤ 57))) else (k false)
def M.impl_IsDigit (b : Int) : Option (Bool) := M.impl_IsDigit_C b some
theorem C.impl_IsDigit : S.impl_IsDigit.ok X0 fun x => M.impl_IsDigit x.1.1 := fnS (fun x => M.impl_IsDigit_C x.1.1) [] [] (by intros; simp only [M.impl_IsDigit_C, nb] <;> rfl)
def M.impl_IsWordByte_C {R : Type} (b : Int) (k : Bool → Option R) : Option R :=
 (M.impl_IsLetter b).bind fun r333 => (bif r333 then (k true) else ((M.impl_IsDigit b).bind fun r334 => (k r334)))
def M.impl_IsWordByte (b : Int) : Option (Bool) := M.impl_IsWordByte_C b some
theorem C.impl_IsWordByte : S.impl_IsWordByte.ok X0 fun x => M.impl_IsWordByte x.1.1 := fnS (fun x => M.impl_IsWordByte_C x.1.1) [fe C.impl_IsLetter, fe C.impl_IsDigit] [] (by intros; simp only [M.impl_IsWordByte_C, nb] <;> rfl)
def M.impl_NameShape_l2_C {R : Type} (s' : List UInt8) (v5 : Int) (s : Int) (kn : Int → Option R) (ke : (Unit) ⊕ (Int) → Option R) : Option R := match s with
 | v6 =>
 bif decide (v6 < v5) then
 ((idx s' v6).bind fun c332 =>
 ((M.impl_IsWordByte (IntKind.i64.wrap (↑c332.toNat : Int))).bind fun r335 => (bif !r335 then (ke (.inl ())) else (kn (IntKind.i64.wrap (v6 + 1)))))) else (ke (.inr v6))
def M.impl_NameShape_l2_b (s' : List UInt8) (v5 : Int) (s : Int) := M.impl_NameShape_l2_C s' v5 s (fun s => some (Sum.inl s)) fun t => some (Sum.inr t)
def M.impl_NameShape_l2 (s' : List UInt8) (v5 : Int) (s : Int) : Option ((Unit) ⊕ (Int)) := loopM (M.impl_NameShape_l2_b s' v5) s
def F.impl_NameShape_l2 : LE X0 166 := le 2 (pSt [pAt 0 pS, pAt 5 pI, pAt 6 pI] []) (fun x => x.1.2.2.1) (fun x s => ((x.1.1, x.1.2.1, s, ()), ())) (fun x => .sum (.leaf (Unit) (fun t => (Ex.ret, { tm := [(2, V.d (D.bool false))], mem := [] }))) (.leaf (Int) (fun t => (Ex.exit 0, { tm := [(0, V.d (D.str x.1.1)), (5, V.d (D.int IntKind.i64 x.1.2.1)), (6, V.d (D.int IntKind.i64 t)), (7, V.d (D.bool false))], mem := [] })))) (fun x => M.impl_NameShape_l2_C x.1.1 x.1.2.1) [fe C.impl_IsWordByte] [] (by rintro _ _ _ _ _ <;> simp only [M.impl_NameShape_l2_C, nb] <;> rfl)
def M.impl_NameShape_C {R : Type} (s' : List UInt8) (k : Bool → Option R) : Option R :=
 (M.impl_NameShape_l2 s' ((↑s'.length : Int)) 0).bind fun u341 =>
 sumE u341 (fun t336 => (k false)) fun u342 =>
 letE u342 fun t337 =>
 ((M.impl_within ((↑s'.length : Int)) 1 12).bind fun r338 =>
 (bif r338 then
 ((idx s' 0).bind fun c339 => ((M.impl_IsLetter (IntKind.i64.wrap (↑c339.toNat : Int))).bind fun r340 => (k r340))) else (k false)))
def M.impl_NameShape (s' : List UInt8) : Option (Bool) := M.impl_NameShape_C s' some
theorem C.impl_NameShape : S.impl_NameShape.ok X0 fun x => M.impl_NameShape x.1.1 := fnS (fun x => M.impl_NameShape_C x.1.1) [fe C.impl_within, fe C.impl_IsLetter] [F.impl_NameShape_l2] (by intros; simp only [M.impl_NameShape_C, nb] <;> rfl)
def M.slices_Index_l2_C {R : Type} (s' : List Row) (v : List UInt8) (v7 : Int) (s : Int) (kn : Int → Option R) (ke : (Int) ⊕ (Int) → Option R) : Option R := match s with
 | v8 =>
 bif decide (v8 < v7) then
 ((idx s' v8).bind fun row344 =>
 ((cStr row344 0).bind fun s345 => (bif v == s345 then (ke (.inl v8)) else (kn (IntKind.i64.wrap (v8 + 1)))))) else (ke (.inr v8))
def M.slices_Index_l2_b (s' : List Row) (v : List UInt8) (v7 : Int) (s : Int) := M.slices_Index_l2_C s' v v7 s (fun s => some (Sum.inl s)) fun t => some (Sum.inr t)
def M.slices_Index_l2 (s' : List Row) (v : List UInt8) (v7 : Int) (s : Int) : Option ((Int) ⊕ (Int)) := loopM (M.slices_Index_l2_b s' v v7) s
def F.slices_Index_l2 : LE X0 102 := le 2 (pSt [pAt 0 (pL false 1), pAt 1 pS, pAt 7 pI, pAt 8 pI] []) (fun x => x.1.2.2.2.1) (fun x s => ((x.1.1, x.1.2.1, x.1.2.2.1, s, ()), ())) (fun x => .sum (.leaf (Int) (fun t => (Ex.ret, { tm := [(4, V.d (D.int IntKind.i64 t))], mem := [] }))) (.leaf (Int) (fun t => (Ex.exit 0, { tm := [(0, V.d (D.sl false 1 x.1.1)), (1, V.d (D.str x.1.2.1)), (7, V.d (D.int IntKind.i64 x.1.2.2.1)), (8, V.d (D.int IntKind.i64 t)), (9, V.d (D.bool false))], mem := [] })))) (fun x => M.slices_Index_l2_C x.1.1 x.1.2.1 x.1.2.2.1) [] [] (by rintro _ _ _ _ _ <;> simp only [M.slices_Index_l2_C, nb] <;> rfl)
def M.slices_Index_C {R : Type} (s' : List Row) (v : List UInt8) (k : Int → Option R) : Option R :=
 (M.slices_Index_l2 s' v ((↑s'.length : Int)) 0).bind fun u348 =>
 sumE u348 (fun t346 => (k t346)) fun u349 =>
 letE u349 fun t347 => (k (-1))
def M.slices_Index (s' : List Row) (v : List UInt8) : Option (Int) := M.slices_Index_C s' v some
theorem C.slices_Index : S.slices_Index.ok X0 fun x => M.slices_Index x.1.1 x.1.2.1 := fnS (fun x => M.slices_Index_C x.1.1 x.1.2.1) [] [F.slices_Index_l2] (by intros; simp only [M.slices_Index_C, nb] <;> rfl)
def M.impl_KeywordOf_C {R : Type} (s' : List UInt8) (k : Int → Option R) : Option R :=
 (M.slices_Index (List.map (fun x => [x]) keywordsRow) s').bind fun r350 => (bif decide (r350 < 0) then (k 0) else (k (IntKind.i64.wrap (10 + r350))))
def M.impl_KeywordOf (s' : List UInt8) : Option (Int) := M.impl_KeywordOf_C s' some
theorem C.impl_KeywordOf : S.impl_KeywordOf.ok X0 fun x => M.impl_KeywordOf x.1.1 := fnS (fun x => M.impl_KeywordOf_C x.1.1) [fe C.slices_Index] [] (by intros; simp only [M.impl_KeywordOf_C, nb] <;> rfl)
def M.slices_Contains_C {R : Type} (s' : List Row) (v : List UInt8) (k : Bool → Option R) : Option R :=
 (M.slices_Index s' v).bind fun r352 => (k (decide (r352 ≥ 0)))
def M.slices_Contains (s' : List Row) (v : List UInt8) : Option (Bool) := M.slices_Contains_C s' v some
theorem C.slices_Contains : S.slices_Contains.ok X0 fun x => M.slices_Contains x.1.1 x.1.2.1 := fnS (fun x => M.slices_Contains_C x.1.1 x.1.2.1) [fe C.slices_Index] [] (by intros; simp only [M.slices_Contains_C, nb] <;> rfl)
def M.impl_IsBuiltin_C {R : Type} (s' : List UInt8) (k : Bool → Option R) : Option R :=
 (M.slices_Contains (List.map (fun x => [x]) builtinsRow) s').bind fun r353 => (k r353)
def M.impl_IsBuiltin (s' : List UInt8) : Option (Bool) := M.impl_IsBuiltin_C s' some
theorem C.impl_IsBuiltin : S.impl_IsBuiltin.ok X0 fun x => M.impl_IsBuiltin x.1.1 := fnS (fun x => M.impl_IsBuiltin_C x.1.1) [fe C.slices_Contains] [] (by intros; simp only [M.impl_IsBuiltin_C, nb] <;> rfl)
def M.impl_NameOk_C {R : Type} (s' : List UInt8) (k : Bool → Option R) : Option R :=
 (M.impl_NameShape s').bind fun r343 =>
 (bif r343 then
 ((M.impl_KeywordOf s').bind fun r351 => (bif r351 == 0 then ((M.impl_IsBuiltin s').bind fun r354 => (k !r354)) else (k false))) else (k false))
def M.impl_NameOk (s' : List UInt8) : Option (Bool) := M.impl_NameOk_C s' some
theorem C.impl_NameOk : S.impl_NameOk.ok X0 fun x => M.impl_NameOk x.1.1 := fnS (fun x => M.impl_NameOk_C x.1.1) [fe C.impl_NameShape, fe C.impl_KeywordOf, fe C.impl_IsBuiltin] [] (by intros; simp only [M.impl_NameOk_C, nb] <;> rfl)
theorem C.strings_Contains : S.strings_Contains.ok X0 fun x => M.strings_Contains x.1.1 x.1.2.1 := Sig.prim (p := Prim.strings_Contains)
def M.impl_byteAt_C {R : Type} (s' : List UInt8) (at' : Int) (k : Int → Option R) : Option R :=
 (M.impl_within at' 0 (IntKind.i64.wrap ((↑s'.length : Int) - 1))).bind fun r360 =>
 (bif !r360 then (k (-1)) else ((idx s' at').bind fun c361 => (k (IntKind.i64.wrap (↑c361.toNat : Int)))))
def M.impl_byteAt (s' : List UInt8) (at' : Int) : Option (Int) := M.impl_byteAt_C s' at' some
theorem C.impl_byteAt : S.impl_byteAt.ok X0 fun x => M.impl_byteAt x.1.1 x.1.2.1 := fnS (fun x => M.impl_byteAt_C x.1.1 x.1.2.1) [fe C.impl_within] [] (by intros; simp only [M.impl_byteAt_C, nb] <;> rfl)
def M.impl_digitsEnd_l1_C {R : Type} (s' : List UInt8) (s : Int) (kn : Int → Option R) (ke : Int → Option R) : Option R := match s with
 | at' =>
 (M.impl_byteAt s' at').bind fun r362 =>
 ((M.impl_IsDigit r362).bind fun r363 => (bif r363 then (kn (IntKind.i64.wrap (at' + 1))) else (ke at')))
def M.impl_digitsEnd_l1_b (s' : List UInt8) (s : Int) := M.impl_digitsEnd_l1_C s' s (fun s => some (Sum.inl s)) fun t => some (Sum.inr t)
def M.impl_digitsEnd_l1 (s' : List UInt8) (s : Int) : Option (Int) := loopM (M.impl_digitsEnd_l1_b s') s
def F.impl_digitsEnd_l1 : LE X0 188 := le 1 (pSt [pAt 0 pS, pAt 1 pI] []) (fun x => x.1.2.1) (fun x s => ((x.1.1, s, ()), ())) (fun x => .leaf (Int) (fun t => (Ex.exit 0, { tm := [(0, V.d (D.str x.1.1)), (1, V.d (D.int IntKind.i64 t)), (8, V.d (D.bool false))], mem := [] }))) (fun x => M.impl_digitsEnd_l1_C x.1.1) [fe C.impl_byteAt, fe C.impl_IsDigit] [] (by rintro _ _ _ _ _ <;> simp only [M.impl_digitsEnd_l1_C, nb] <;> rfl)
def M.impl_digitsEnd_C {R : Type} (s' : List UInt8) (at' : Int) (k : Int → Option R) : Option R :=
 (M.impl_digitsEnd_l1 s' at').bind fun t364 => (k t364)
def M.impl_digitsEnd (s' : List UInt8) (at' : Int) : Option (Int) := M.impl_digitsEnd_C s' at' some
theorem C.impl_digitsEnd : S.impl_digitsEnd.ok X0 fun x => M.impl_digitsEnd x.1.1 x.1.2.1 := fnS (fun x => M.impl_digitsEnd_C x.1.1 x.1.2.1) [] [F.impl_digitsEnd_l1] (by intros; simp only [M.impl_digitsEnd_C, nb] <;> rfl)
def M.impl_NumEnd_C {R : Type} (s' : List UInt8) (at' : Int) (k : Int → Option R) : Option R :=
 (M.impl_within at' 0 (IntKind.i64.wrap ((↑s'.length : Int) - 1))).bind fun r359 =>
 (bif !r359 then (k (-1)) else
 ((M.impl_digitsEnd s' at').bind fun r365 =>
 ((M.impl_byteAt s' r365).bind fun r366 =>
 (bif r366 == 46 then
 ((M.impl_digitsEnd s' (IntKind.i64.wrap (r365 + 1))).bind fun r367 =>
 (bif IntKind.i64.wrap (IntKind.i64.wrap (r365 - at') + IntKind.i64.wrap (IntKind.i64.wrap (r367 - r365) - 1)) == 0 then (k (-1)) else
 ((M.impl_byteAt s' r367).bind fun r368 =>
 (bif r368 == 101 then
 ((M.impl_byteAt s' (IntKind.i64.wrap (r367 + 1))).bind fun r369 =>
 (bif r369 == 43 then
 ((M.impl_digitsEnd s' (IntKind.i64.wrap (IntKind.i64.wrap (r367 + 1) + 1))).bind fun r370 =>
 (bif decide (r370 > IntKind.i64.wrap (IntKind.i64.wrap (r367 + 1) + 1)) then (k r370) else (k r367))) else
 (bif r369 == 45 then
 ((M.impl_digitsEnd s' (IntKind.i64.wrap (IntKind.i64.wrap (r367 + 1) + 1))).bind fun r371 =>
 (bif decide (r371 > IntKind.i64.wrap (IntKind.i64.wrap (r367 + 1) + 1)) then (k r371) else (k r367))) else
 ((M.impl_digitsEnd s' (IntKind.i64.wrap (r367 + 1))).bind fun r372 => (bif decide (r372 > IntKind.i64.wrap (r367 + 1)) then (k r372) else (k r367)))))) else
 (bif r368 == 69 then
 ((M.impl_byteAt s' (IntKind.i64.wrap (r367 + 1))).bind fun r373 =>
 (bif r373 == 43 then
 ((M.impl_digitsEnd s' (IntKind.i64.wrap (IntKind.i64.wrap (r367 + 1) + 1))).bind fun r374 =>
 (bif decide (r374 > IntKind.i64.wrap (IntKind.i64.wrap (r367 + 1) + 1)) then (k r374) else (k r367))) else
 (bif r373 == 45 then
 ((M.impl_digitsEnd s' (IntKind.i64.wrap (IntKind.i64.wrap (r367 + 1) + 1))).bind fun r375 =>
 (bif decide (r375 > IntKind.i64.wrap (IntKind.i64.wrap (r367 + 1) + 1)) then (k r375) else (k r367))) else
 ((M.impl_digitsEnd s' (IntKind.i64.wrap (r367 + 1))).bind fun r376 => (bif decide (r376 > IntKind.i64.wrap (r367 + 1)) then (k r376) else (k r367)))))) else (k r367)))))) else
 (bif IntKind.i64.wrap (r365 - at') == 0 then (k (-1)) else
 ((M.impl_byteAt s' r365).bind fun r377 =>
 (bif r377 == 101 then
 ((M.impl_byteAt s' (IntKind.i64.wrap (r365 + 1))).bind fun r378 =>
 (bif r378 == 43 then
 ((M.impl_digitsEnd s' (IntKind.i64.wrap (IntKind.i64.wrap (r365 + 1) + 1))).bind fun r379 =>
 (bif decide (r379 > IntKind.i64.wrap (IntKind.i64.wrap (r365 + 1) + 1)) then (k r379) else (k r365))) else
 (bif r378 == 45 then
 ((M.impl_digitsEnd s' (IntKind.i64.wrap (IntKind.i64.wrap (r365 + 1) + 1))).bind fun r380 =>
 (bif decide (r380 > IntKind.i64.wrap (IntKind.i64.wrap (r365 + 1) + 1)) then (k r380) else (k r365))) else
 ((M.impl_digitsEnd s' (IntKind.i64.wrap (r365 + 1))).bind fun r381 => (bif decide (r381 > IntKind.i64.wrap (r365 + 1)) then (k r381) else (k r365)))))) else
 (bif r377 == 69 then
 ((M.impl_byteAt s' (IntKind.i64.wrap (r365 + 1))).bind fun r382 =>
 (bif r382 == 43 then
 ((M.impl_digitsEnd s' (IntKind.i64.wrap (IntKind.i64.wrap (r365 + 1) + 1))).bind fun r383 =>
 (bif decide (r383 > IntKind.i64.wrap (IntKind.i64.wrap (r365 + 1) + 1)) then (k r383) else (k r365))) else
 (bif r382 == 45 then
 ((M.impl_digitsEnd s' (IntKind.i64.wrap (IntKind.i64.wrap (r365 + 1) + 1))).bind fun r384 =>
 (bif decide (r384 > IntKind.i64.wrap (IntKind.i64.wrap (r365 + 1) + 1)) then (k r384) else (k r365))) else
 ((M.impl_digitsEnd s' (IntKind.i64.wrap (r365 + 1))).bind fun r385 => (bif decide (r385 > IntKind.i64.wrap (r365 + 1)) then (k r385) else (k r365)))))) else (k r365)))))))))
def M.impl_NumEnd (s' : List UInt8) (at' : Int) : Option (Int) := M.impl_NumEnd_C s' at' some
theorem C.impl_NumEnd : S.impl_NumEnd.ok X0 fun x => M.impl_NumEnd x.1.1 x.1.2.1 := fnS (fun x => M.impl_NumEnd_C x.1.1 x.1.2.1) [fe C.impl_within, fe C.impl_digitsEnd, fe C.impl_byteAt] [] (by intros; simp only [M.impl_NumEnd_C, nb] <;> rfl)
def M.impl_quotedEnd_l4_C {R : Type} (s' : List UInt8) (quote : Int) (s : Int) (kn : Int → Option R) (ke : (Int) ⊕ (Int) → Option R) : Option R := match s with
 | i =>
 bif decide (i < (↑s'.length : Int)) then
 ((idx s' i).bind fun c388 =>
 (bif (↑c388.toNat : Int) != 10 then
 ((idx s' i).bind fun c389 =>
 (bif IntKind.i64.wrap (↑c389.toNat : Int) == quote then (ke (.inl (IntKind.i64.wrap (i + 1)))) else
 ((idx s' i).bind fun c390 =>
 (bif (↑c390.toNat : Int) == 92 then
 ((M.impl_byteAt s' (IntKind.i64.wrap (i + 1))).bind fun r391 =>
 (bif r391 != 10 then (kn (IntKind.i64.wrap (IntKind.i64.wrap (i + 1) + 1))) else (kn (IntKind.i64.wrap (i + 1))))) else (kn (IntKind.i64.wrap (i + 1))))))) else (ke (.inr i)))) else (ke (.inr i))
def M.impl_quotedEnd_l4_b (s' : List UInt8) (quote : Int) (s : Int) := M.impl_quotedEnd_l4_C s' quote s (fun s => some (Sum.inl s)) fun t => some (Sum.inr t)
def M.impl_quotedEnd_l4 (s' : List UInt8) (quote : Int) (s : Int) : Option ((Int) ⊕ (Int)) := loopM (M.impl_quotedEnd_l4_b s' quote) s
def F.impl_quotedEnd_l4 : LE X0 190 := le 4 (pSt [pAt 0 pS, pAt 2 pI, pAt 7 pI] []) (fun x => x.1.2.2.1) (fun x s => ((x.1.1, x.1.2.1, s, ()), ())) (fun x => .sum (.leaf (Int) (fun t => (Ex.ret, { tm := [(6, V.d (D.int IntKind.i64 t))], mem := [] }))) (.leaf (Int) (fun t => (Ex.exit 0, { tm := [(0, V.d (D.str x.1.1)), (2, V.d (D.int IntKind.i64 x.1.2.1)), (7, V.d (D.int IntKind.i64 t)), (24, V.d (D.bool false))], mem := [] })))) (fun x => M.impl_quotedEnd_l4_C x.1.1 x.1.2.1) [fe C.impl_byteAt] [] (by rintro _ _ _ _ _ <;> simp only [M.impl_quotedEnd_l4_C, nb] <;> rfl)
def M.impl_quotedEnd_C {R : Type} (s' : List UInt8) (at' : Int) (quote : Int) (k : Int → Option R) : Option R :=
 (M.impl_byteAt s' at').bind fun r387 =>
 (bif r387 != quote then (k (-1)) else
 ((M.impl_quotedEnd_l4 s' quote (IntKind.i64.wrap (at' + 1))).bind fun u394 =>
 sumE u394 (fun t392 => (k t392)) fun u395 =>
 letE u395 fun t393 => (k (-1))))
def M.impl_quotedEnd (s' : List UInt8) (at' : Int) (quote : Int) : Option (Int) := M.impl_quotedEnd_C s' at' quote some
theorem C.impl_quotedEnd : S.impl_quotedEnd.ok X0 fun x => M.impl_quotedEnd x.1.1 x.1.2.1 x.1.2.2.1 := fnS (fun x => M.impl_quotedEnd_C x.1.1 x.1.2.1 x.1.2.2.1) [fe C.impl_byteAt] [F.impl_quotedEnd_l4] (by intros; simp only [M.impl_quotedEnd_C, nb] <;> rfl)
def M.impl_StrEnd_C {R : Type} (s' : List UInt8) (at' : Int) (k : Int → Option R) : Option R :=
 (M.impl_quotedEnd s' at' 34).bind fun r396 => (k r396)
def M.impl_StrEnd (s' : List UInt8) (at' : Int) : Option (Int) := M.impl_StrEnd_C s' at' some
theorem C.impl_StrEnd : S.impl_StrEnd.ok X0 fun x => M.impl_StrEnd x.1.1 x.1.2.1 := fnS (fun x => M.impl_StrEnd_C x.1.1 x.1.2.1) [fe C.impl_quotedEnd] [] (by intros; simp only [M.impl_StrEnd_C, nb] <;> rfl)
def M.impl_EreEnd_C {R : Type} (s' : List UInt8) (at' : Int) (k : Int → Option R) : Option R :=
 (M.impl_quotedEnd s' at' 47).bind fun r398 => (bif r398 == IntKind.i64.wrap (at' + 2) then (k (-1)) else (k r398))
def M.impl_EreEnd (s' : List UInt8) (at' : Int) : Option (Int) := M.impl_EreEnd_C s' at' some
theorem C.impl_EreEnd : S.impl_EreEnd.ok X0 fun x => M.impl_EreEnd x.1.1 x.1.2.1 := fnS (fun x => M.impl_EreEnd_C x.1.1 x.1.2.1) [fe C.impl_quotedEnd] [] (by intros; simp only [M.impl_EreEnd_C, nb] <;> rfl)
def M.impl_isKeywordKind_C {R : Type} (kind : Int) (k : Bool → Option R) : Option R :=
 (M.impl_within kind 10 26).bind fun r403 => (k r403)
def M.impl_isKeywordKind (kind : Int) : Option (Bool) := M.impl_isKeywordKind_C kind some
theorem C.impl_isKeywordKind : S.impl_isKeywordKind.ok X0 fun x => M.impl_isKeywordKind x.1.1 := fnS (fun x => M.impl_isKeywordKind_C x.1.1) [fe C.impl_within] [] (by intros; simp only [M.impl_isKeywordKind_C, nb] <;> rfl)
def M.impl_isSignKind_C {R : Type} (kind : Int) (k : Bool → Option R) : Option R :=
 (M.impl_within kind 30 68).bind fun r406 => (k r406)
def M.impl_isSignKind (kind : Int) : Option (Bool) := M.impl_isSignKind_C kind some
theorem C.impl_isSignKind : S.impl_isSignKind.ok X0 fun x => M.impl_isSignKind x.1.1 := fnS (fun x => M.impl_isSignKind_C x.1.1) [fe C.impl_within] [] (by intros; simp only [M.impl_isSignKind_C, nb] <;> rfl)
def M.impl_SpellOf_C {R : Type} (kind : Int) (k : List UInt8 → Option R) : Option R :=
 bif kind == 1 then (k [10]) else
 ((M.impl_isKeywordKind kind).bind fun r404 =>
 (bif r404 then
 (bif decide (0 ≤ IntKind.i64.wrap (kind - 10)) && decide (IntKind.i64.wrap (kind - 10) < 17) then
 ((cStr keywordsRow (0 + (IntKind.i64.wrap (kind - 10)).toNat * 1)).bind fun s405 => (k s405)) else none) else
 ((M.impl_isSignKind kind).bind fun r407 =>
 (bif r407 then
 (bif decide (0 ≤ IntKind.i64.wrap (kind - 30)) && decide (IntKind.i64.wrap (kind - 30) < 39) then ((cStr signsRow (0 + (IntKind.i64.wrap (kind - 30)).toNat * 1)).bind fun s408 => (k s408)) else none) else (k [])))))
def M.impl_SpellOf (kind : Int) : Option (List UInt8) := M.impl_SpellOf_C kind some
theorem C.impl_SpellOf : S.impl_SpellOf.ok X0 fun x => M.impl_SpellOf x.1.1 := fnS (fun x => M.impl_SpellOf_C x.1.1) [fe C.impl_isKeywordKind, fe C.impl_isSignKind] [] (by intros; simp only [M.impl_SpellOf_C, nb] <;> rfl)
def M.impl_TokenOk_C {R : Type} (t' : Int) (t'1 : List UInt8) (t'2 : Int) (k : Bool → Option R) : Option R :=
 bif t'1 == [] then (k false) else
 (bif t' == 2 then
 ((idx t'1 0).bind fun c357 =>
 (bif (↑c357.toNat : Int) == 35 then ((M.strings_Contains t'1 [10]).bind fun r358 => (k !r358)) else (k false))) else
 (bif t' == 3 then ((M.impl_NumEnd t'1 0).bind fun r386 => (k (r386 == (↑t'1.length : Int)))) else
 (bif t' == 4 then ((M.impl_StrEnd t'1 0).bind fun r397 => (k (r397 == (↑t'1.length : Int)))) else
 (bif t' == 5 then ((M.impl_EreEnd t'1 0).bind fun r399 => (k (r399 == (↑t'1.length : Int)))) else
 (bif t' == 6 then ((M.impl_NameOk t'1).bind fun r400 => (k r400)) else
 (bif t' == 7 then ((M.impl_NameOk t'1).bind fun r401 => (k r401)) else
 (bif t' == 8 then ((M.impl_IsBuiltin t'1).bind fun r402 => (k r402)) else ((M.impl_SpellOf t').bind fun r409 => (k (t'1 == r409))))))))))
def M.impl_TokenOk (t' : Int) (t'1 : List UInt8) (t'2 : Int) : Option (Bool) := M.impl_TokenOk_C t' t'1 t'2 some
theorem C.impl_TokenOk : S.impl_TokenOk.ok X0 fun x => M.impl_TokenOk x.1.1.1 x.1.1.2.1 x.1.1.2.2.1 := fnS (fun x => M.impl_TokenOk_C x.1.1.1 x.1.1.2.1 x.1.1.2.2.1) [fe C.strings_Contains, fe C.impl_NumEnd, fe C.impl_StrEnd, fe C.impl_EreEnd, fe C.impl_NameOk, fe C.impl_IsBuiltin, fe C.impl_SpellOf] [] (by intros; simp only [M.impl_TokenOk_C, nb] <;> rfl)
def M.impl_isStep_C {R : Type} (kind : Int) (k : Bool → Option R) : Option R :=
 bif kind == 51 then (k true) else (k (kind == 52))
def M.impl_isStep (kind : Int) : Option (Bool) := M.impl_isStep_C kind some
theorem C.impl_isStep : S.impl_isStep.ok X0 fun x => M.impl_isStep x.1.1 := fnS (fun x => M.impl_isStep_C x.1.1) [] [] (by intros; simp only [M.impl_isStep_C, nb] <;> rfl)
def M.impl_OpLevel_C {R : Type} (op' : Int) (k : Int → Option R) : Option R :=
 bif op' == 44 then (k 3) else
 (bif op' == 45 then (k 4) else
 (bif op' == 67 then (k 6) else
 (bif op' == 46 then (k 6) else
 (bif op' == 63 then (k 7) else
 (bif op' == 48 then (k 7) else
 (bif op' == 47 then (k 7) else
 (bif op' == 50 then (k 7) else
 (bif op' == 62 then (k 7) else
 (bif op' == 49 then (k 7) else
 (bif op' == 99 then (k 8) else
 (bif op' == 55 then (k 9) else
 (bif op' == 56 then (k 9) else
 (bif op' == 57 then (k 10) else
 (bif op' == 58 then (k 10) else (bif op' == 59 then (k 10) else (bif op' == 60 then (k 12) else (k 0)))))))))))))))))
def M.impl_OpLevel (op' : Int) : Option (Int) := M.impl_OpLevel_C op' some
theorem C.impl_OpLevel : S.impl_OpLevel.ok X0 fun x => M.impl_OpLevel x.1.1 := fnS (fun x => M.impl_OpLevel_C x.1.1) [] [] (by intros; simp only [M.impl_OpLevel_C, nb] <;> rfl)
def M.impl_isAssign_C {R : Type} (kind : Int) (k : Bool → Option R) : Option R :=
 bif kind == 54 then (k true) else ((M.impl_within kind 38 43).bind fun r422 => (k r422))
def M.impl_isAssign (kind : Int) : Option (Bool) := M.impl_isAssign_C kind some
theorem C.impl_isAssign : S.impl_isAssign.ok X0 fun x => M.impl_isAssign x.1.1 := fnS (fun x => M.impl_isAssign_C x.1.1) [fe C.impl_within] [] (by intros; simp only [M.impl_isAssign_C, nb] <;> rfl)
def M.impl_exprForm_C {R : Type} (n' : Int) (n'1 : Int) (n'2 : List UInt8) (n'3 : List UInt8) (n'4 : List Row) (k : Bool × Bool × Bool × Int × Int → Option R) : Option R :=
 bif n' == 1 then ((M.impl_NameOk n'2).bind fun r355 => (k ((n'1 == 0, r355, false, 0, 0)))) else
 (bif n' == 2 then
 (bif decide (0 ≤ IntKind.i64.wrap (n' - 2)) && decide (IntKind.i64.wrap (n' - 2) < 3) then
 ((cInt IntKind.i64 [D.int IntKind.i64 3, D.int IntKind.i64 4, D.int IntKind.i64 5] (IntKind.i64.wrap (n' - 2)).toNat).bind fun n356 => ((M.impl_TokenOk n356 n'2 0).bind fun r410 => (k ((n'1 == 0, r410, false, 0, 0))))) else none) else
 (bif n' == 3 then
 (bif decide (0 ≤ IntKind.i64.wrap (n' - 2)) && decide (IntKind.i64.wrap (n' - 2) < 3) then
 ((cInt IntKind.i64 [D.int IntKind.i64 3, D.int IntKind.i64 4, D.int IntKind.i64 5] (IntKind.i64.wrap (n' - 2)).toNat).bind fun n411 => ((M.impl_TokenOk n411 n'2 0).bind fun r412 => (k ((n'1 == 0, r412, false, 0, 0))))) else none) else
 (bif n' == 4 then
 (bif decide (0 ≤ IntKind.i64.wrap (n' - 2)) && decide (IntKind.i64.wrap (n' - 2) < 3) then
 ((cInt IntKind.i64 [D.int IntKind.i64 3, D.int IntKind.i64 4, D.int IntKind.i64 5] (IntKind.i64.wrap (n' - 2)).toNat).bind fun n413 => ((M.impl_TokenOk n413 n'2 0).bind fun r414 => (k ((n'1 == 0, r414, false, 0, 0))))) else none) else
 (bif n' == 5 then ((M.impl_NameOk n'2).bind fun r415 => (k ((n'1 == 0, r415, false, 1, 6)))) else
 (bif n' == 13 then ((M.impl_NameOk n'2).bind fun r416 => (k ((n'1 == 0, r416, false, 1, 6)))) else
 (bif n' == 6 then (k ((n'1 == 0, n'2 == [], false, 1, 1))) else
 (bif n' == 7 then ((M.impl_NameOk n'2).bind fun r417 => (k ((n'1 == 0, r417, false, 0, 6)))) else
 (bif n' == 8 then ((M.impl_IsBuiltin n'2).bind fun r418 => (k ((n'1 == 0, r418, false, 0, 6)))) else
 (bif n' == 9 then ((M.impl_isStep n'1).bind fun r419 => (k ((r419, n'2 == [], false, 1, 1)))) else
 (bif n' == 10 then ((M.impl_isStep n'1).bind fun r420 => (k ((r420, n'2 == [], false, 1, 1)))) else
 (bif n' == 11 then
 (bif n'1 == 55 then (k ((true, n'2 == [], false, 1, 1))) else
 (bif n'1 == 56 then (k ((true, n'2 == [], false, 1, 1))) else (k ((n'1 == 61, n'2 == [], false, 1, 1))))) else
 (bif n' == 12 then ((M.impl_OpLevel n'1).bind fun r421 => (k ((r421 != 0, n'2 == [], false, 2, 2)))) else
 (bif n' == 14 then (k ((n'1 == 0, n'2 == [], false, 3, 3))) else ((M.impl_isAssign n'1).bind fun r423 => (k ((r423, n'2 == [], false, 2, 2)))))))))))))))))
def M.impl_exprForm (n' : Int) (n'1 : Int) (n'2 : List UInt8) (n'3 : List UInt8) (n'4 : List Row) : Option (Bool × Bool × Bool × Int × Int) := M.impl_exprForm_C n' n'1 n'2 n'3 n'4 some
theorem C.impl_exprForm : S.impl_exprForm.ok X0 fun x => M.impl_exprForm x.1.1.1 x.1.1.2.1 x.1.1.2.2.1 x.1.1.2.2.2.1 x.1.1.2.2.2.2.1 := fnS (fun x => M.impl_exprForm_C x.1.1.1 x.1.1.2.1 x.1.1.2.2.1 x.1.1.2.2.2.1 x.1.1.2.2.2.2.1) [fe C.impl_NameOk, fe C.impl_TokenOk, fe C.impl_IsBuiltin, fe C.impl_isStep, fe C.impl_OpLevel, fe C.impl_isAssign] [] (by intros; simp only [M.impl_exprForm_C, nb] <;> rfl)
def M.impl_IsStmt_C {R : Type} (kind : Int) (k : Bool → Option R) : Option R :=
 (M.impl_within kind 20 34).bind fun r427 => (k r427)
def M.impl_IsStmt (kind : Int) : Option (Bool) := M.impl_IsStmt_C kind some
theorem C.impl_IsStmt : S.impl_IsStmt.ok X0 fun x => M.impl_IsStmt x.1.1 := fnS (fun x => M.impl_IsStmt_C x.1.1) [fe C.impl_within] [] (by intros; simp only [M.impl_IsStmt_C, nb] <;> rfl)
def M.impl_stmtForm_C {R : Type} (n' : Int) (n'1 : Int) (n'2 : List UInt8) (n'3 : List UInt8) (n'4 : List Row) (k : Bool × Bool × Bool × Int × Int → Option R) : Option R :=
 bif n' == 20 then (k ((n'1 == 0, n'2 == [], n'3 == [], 1, 1))) else
 (bif n' == 21 then
 (bif n'1 == 0 then
 ((M.slices_Contains ([[D.str []], [D.str [62]], [D.str [62, 62]], [D.str [124]]]) n'3).bind fun r429 =>
 (bif !n'3 == [] then (k ((true, n'2 == [], r429, IntKind.i64.wrap (n'1 + 1), 7))) else (k ((true, n'2 == [], r429, n'1, 6))))) else
 ((M.slices_Contains ([[D.str []], [D.str [62]], [D.str [62, 62]], [D.str [124]]]) n'3).bind fun r430 =>
 (bif !n'3 == [] then (k ((n'1 == 1, n'2 == [], r430, IntKind.i64.wrap (n'1 + 1), 7))) else (k ((n'1 == 1, n'2 == [], r430, n'1, 6)))))) else
 (bif n' == 23 then (k ((n'1 == 0, n'2 == [], n'3 == [], 0, 1))) else
 (bif n' == 24 then (k ((n'1 == 0, n'2 == [], n'3 == [], 0, 1))) else
 (bif n' == 27 then ((M.impl_NameOk n'2).bind fun r431 => (k ((n'1 == 0, r431, n'3 == [], 0, 6)))) else
 (bif n' == 28 then (k ((n'1 == 0, n'2 == [], n'3 == [], 2, 3))) else
 (bif n' == 29 then (k ((n'1 == 0, n'2 == [], n'3 == [], 2, 2))) else
 (bif n' == 30 then (k ((n'1 == 0, n'2 == [], n'3 == [], 2, 2))) else
 (bif n' == 31 then (k ((n'1 == 0, n'2 == [], n'3 == [], 4, 4))) else
 (bif n' == 32 then
 ((M.impl_NameOk n'2).bind fun r432 => ((M.impl_NameOk n'3).bind fun r433 => (k ((n'1 == 0, r432, r433, 1, 1))))) else
 (bif n' == 33 then (k ((n'1 == 0, n'2 == [], n'3 == [], 0, 400))) else
 (bif n' == 34 then ((M.impl_TokenOk 2 n'2 0).bind fun r434 => (k ((n'1 == 0, r434, n'3 == [], 0, 0)))) else (k ((n'1 == 0, n'2 == [], n'3 == [], 0, 0))))))))))))))
def M.impl_stmtForm (n' : Int) (n'1 : Int) (n'2 : List UInt8) (n'3 : List UInt8) (n'4 : List Row) : Option (Bool × Bool × Bool × Int × Int) := M.impl_stmtForm_C n' n'1 n'2 n'3 n'4 some
theorem C.impl_stmtForm : S.impl_stmtForm.ok X0 fun x => M.impl_stmtForm x.1.1.1 x.1.1.2.1 x.1.1.2.2.1 x.1.1.2.2.2.1 x.1.1.2.2.2.2.1 := fnS (fun x => M.impl_stmtForm_C x.1.1.1 x.1.1.2.1 x.1.1.2.2.1 x.1.1.2.2.2.1 x.1.1.2.2.2.2.1) [fe C.slices_Contains, fe C.impl_NameOk, fe C.impl_TokenOk] [] (by intros; simp only [M.impl_stmtForm_C, nb] <;> rfl)
def M.impl_itemForm_C {R : Type} (n' : Int) (n'1 : Int) (n'2 : List UInt8) (n'3 : List UInt8) (n'4 : List Row) (k : Bool × Bool × Bool × Int × Int → Option R) : Option R :=
 bif n' == 40 then (k ((n'1 == 0, n'2 == [], n'3 == [], 1, 1))) else
 (bif n' == 41 then (k ((n'1 == 0, n'2 == [], n'3 == [], 1, 1))) else
 (bif n' == 42 then
 ((M.impl_within n'1 1 3).bind fun r438 =>
 (bif n'1 == 3 then (k ((r438, n'2 == [], n'3 == [], 2, 2))) else (k ((r438, n'2 == [], n'3 == [], 1, 1))))) else
 (bif n' == 43 then
 (bif n'1 == 1 then
 (bif n'1 == 3 then (k ((true, n'2 == [], n'3 == [], 3, 3))) else (k ((true, n'2 == [], n'3 == [], 2, 2)))) else
 (bif n'1 == 3 then (k ((n'1 == 3, n'2 == [], n'3 == [], 3, 3))) else (k ((n'1 == 3, n'2 == [], n'3 == [], 2, 2))))) else
 (bif n' == 44 then ((M.impl_NameOk n'2).bind fun r439 => (k ((n'1 == 0, r439, n'3 == [], 1, 7)))) else (k ((n'1 == 0, n'2 == [], n'3 == [], 0, 400)))))))
def M.impl_itemForm (n' : Int) (n'1 : Int) (n'2 : List UInt8) (n'3 : List UInt8) (n'4 : List Row) : Option (Bool × Bool × Bool × Int × Int) := M.impl_itemForm_C n' n'1 n'2 n'3 n'4 some
theorem C.impl_itemForm : S.impl_itemForm.ok X0 fun x => M.impl_itemForm x.1.1.1 x.1.1.2.1 x.1.1.2.2.1 x.1.1.2.2.2.1 x.1.1.2.2.2.2.1 := fnS (fun x => M.impl_itemForm_C x.1.1.1 x.1.1.2.1 x.1.1.2.2.1 x.1.1.2.2.2.1 x.1.1.2.2.2.2.1) [fe C.impl_within, fe C.impl_NameOk] [] (by intros; simp only [M.impl_itemForm_C, nb] <;> rfl)
def M.impl_FieldsOk_C {R : Type} (n' : Int) (n'1 : Int) (n'2 : List UInt8) (n'3 : List UInt8) (n'4 : List Row) (k : Bool → Option R) : Option R :=
 (M.impl_IsExpr n').bind fun r331 =>
 (bif r331 then
 ((M.impl_exprForm n' n'1 n'2 n'3 n'4).bind fun r424 =>
 (bif r424.fst then
 (bif r424.snd.fst then
 (bif n'3 == [] then
 ((M.impl_within ((↑n'4.length : Int)) r424.snd.snd.snd.fst r424.snd.snd.snd.snd).bind fun r425 => (k r425)) else (k false)) else (k false)) else (k false))) else
 (bif n' == 16 then
 (bif n'1 == 0 then
 (bif n'2 == [] then
 (bif n'3 == [] then ((M.impl_within ((↑n'4.length : Int)) 0 0).bind fun r426 => (k r426)) else (k false)) else (k false)) else (k false)) else
 ((M.impl_IsStmt n').bind fun r428 =>
 (bif r428 then
 ((M.impl_stmtForm n' n'1 n'2 n'3 n'4).bind fun r435 =>
 (bif r435.fst then
 (bif r435.snd.fst then
 (bif r435.snd.snd.fst then
 ((M.impl_within ((↑n'4.length : Int)) r435.snd.snd.snd.fst r435.snd.snd.snd.snd).bind fun r436 => (k r436)) else (k false)) else (k false)) else (k false))) else
 ((M.impl_within n' 40 45).bind fun r437 =>
 (bif r437 then
 ((M.impl_itemForm n' n'1 n'2 n'3 n'4).bind fun r440 =>
 (bif r440.fst then
 (bif r440.snd.fst then
 (bif r440.snd.snd.fst then
 ((M.impl_within ((↑n'4.length : Int)) r440.snd.snd.snd.fst r440.snd.snd.snd.snd).bind fun r441 => (k r441)) else (k false)) else (k false)) else (k false))) else (k false)))))))
def M.impl_FieldsOk (n' : Int) (n'1 : Int) (n'2 : List UInt8) (n'3 : List UInt8) (n'4 : List Row) : Option (Bool) := M.impl_FieldsOk_C n' n'1 n'2 n'3 n'4 some
theorem C.impl_FieldsOk : S.impl_FieldsOk.ok X0 fun x => M.impl_FieldsOk x.1.1.1 x.1.1.2.1 x.1.1.2.2.1 x.1.1.2.2.2.1 x.1.1.2.2.2.2.1 := fnS (fun x => M.impl_FieldsOk_C x.1.1.1 x.1.1.2.1 x.1.1.2.2.1 x.1.1.2.2.2.1 x.1.1.2.2.2.2.1) [fe C.impl_IsExpr, fe C.impl_exprForm, fe C.impl_within, fe C.impl_IsStmt, fe C.impl_stmtForm, fe C.impl_itemForm] [] (by intros; simp only [M.impl_FieldsOk_C, nb] <;> rfl)
def M.impl_IsLvalue_C {R : Type} (kind : Int) (k : Bool → Option R) : Option R :=
 bif kind == 1 then (k true) else (bif kind == 5 then (k true) else (k (kind == 6)))
def M.impl_IsLvalue (kind : Int) : Option (Bool) := M.impl_IsLvalue_C kind some
theorem C.impl_IsLvalue : S.impl_IsLvalue.ok X0 fun x => M.impl_IsLvalue x.1.1 := fnS (fun x => M.impl_IsLvalue_C x.1.1) [] [] (by intros; simp only [M.impl_IsLvalue_C, nb] <;> rfl)
def M.impl_isItem_C {R : Type} (kind : Int) (k : Bool → Option R) : Option R :=
 (M.impl_within kind 40 44).bind fun r462 => (k r462)
def M.impl_isItem (kind : Int) : Option (Bool) := M.impl_isItem_C kind some
theorem C.impl_isItem : S.impl_isItem.ok X0 fun x => M.impl_isItem x.1.1 := fnS (fun x => M.impl_isItem_C x.1.1) [fe C.impl_within] [] (by intros; simp only [M.impl_isItem_C, nb] <;> rfl)
def M.impl_kidOk_C {R : Type} (n' : Int) (n'1 : Int) (n'2 : List UInt8) (n'3 : List UInt8) (n'4 : List Row) (k' : Int) (kid : Int) (k : Bool → Option R) : Option R :=
 bif n' == 9 then ((M.impl_IsLvalue kid).bind fun r447 => (k r447)) else
 (bif n' == 10 then ((M.impl_IsLvalue kid).bind fun r448 => (k r448)) else
 (bif n' == 15 then
 (bif k' == 0 then
 ((M.impl_IsLvalue kid).bind fun r449 =>
 (bif r449 then (k true) else (bif decide (k' > 0) then ((M.impl_IsExpr kid).bind fun r450 => (k r450)) else (k false)))) else (bif decide (k' > 0) then ((M.impl_IsExpr kid).bind fun r451 => (k r451)) else (k false))) else
 (bif n' == 28 then
 (bif decide (k' > 0) then (k (kid == 33)) else ((M.impl_IsExpr kid).bind fun r452 => (k r452))) else
 (bif n' == 29 then
 (bif decide (k' > 0) then (k (kid == 33)) else ((M.impl_IsExpr kid).bind fun r453 => (k r453))) else
 (bif n' == 31 then
 (bif decide (k' < 3) then
 (bif kid == 16 then (k true) else
 (bif k' == IntKind.i64.wrap ((↑n'4.length : Int) - 1) then (k (kid == 33)) else ((M.impl_IsExpr kid).bind fun r454 => (k r454)))) else
 (bif k' == IntKind.i64.wrap ((↑n'4.length : Int) - 1) then (k (kid == 33)) else ((M.impl_IsExpr kid).bind fun r455 => (k r455)))) else
 (bif n' == 30 then (bif k' == 0 then (k (kid == 33)) else ((M.impl_IsExpr kid).bind fun r456 => (k r456))) else
 (bif n' == 32 then (k (kid == 33)) else
 (bif n' == 40 then (k (kid == 33)) else
 (bif n' == 41 then (k (kid == 33)) else
 (bif n' == 33 then ((M.impl_IsStmt kid).bind fun r457 => (k r457)) else
 (bif n' == 42 then
 (bif k' == IntKind.i64.wrap ((↑n'4.length : Int) - 1) then
 (bif decide (n'1 ≥ 2) then (k (kid == 33)) else ((M.impl_IsExpr kid).bind fun r458 => (k r458))) else ((M.impl_IsExpr kid).bind fun r459 => (k r459))) else
 (bif n' == 43 then
 (bif k' == IntKind.i64.wrap ((↑n'4.length : Int) - 1) then (bif n'1 == 3 then (k (kid == 33)) else ((M.impl_IsExpr kid).bind fun r460 => (k r460))) else ((M.impl_IsExpr kid).bind fun r461 => (k r461))) else
 (bif n' == 44 then
 (bif !k' == IntKind.i64.wrap ((↑n'4.length : Int) - 1) then (k (kid == 1)) else (k (kid == 33))) else
 (bif n' == 45 then ((M.impl_isItem kid).bind fun r463 => (bif r463 then (k true) else (k (kid == 34)))) else ((M.impl_IsExpr kid).bind fun r464 => (k r464))))))))))))))))
def M.impl_kidOk (n' : Int) (n'1 : Int) (n'2 : List UInt8) (n'3 : List UInt8) (n'4 : List Row) (k' : Int) (kid : Int) : Option (Bool) := M.impl_kidOk_C n' n'1 n'2 n'3 n'4 k' kid some
theorem C.impl_kidOk : S.impl_kidOk.ok X0 fun x => M.impl_kidOk x.1.1.1 x.1.1.2.1 x.1.1.2.2.1 x.1.1.2.2.2.1 x.1.1.2.2.2.2.1 x.1.2.1 x.1.2.2.1 := fnS (fun x => M.impl_kidOk_C x.1.1.1 x.1.1.2.1 x.1.1.2.2.1 x.1.1.2.2.2.1 x.1.1.2.2.2.2.1 x.1.2.1 x.1.2.2.1) [fe C.impl_IsLvalue, fe C.impl_IsExpr, fe C.impl_IsStmt, fe C.impl_isItem] [] (by intros; simp only [M.impl_kidOk_C, nb] <;> rfl)
def M.impl_treeAt_l4_C {R : Type} (rec_impl_treeAt : List Row → Int → Option (Int × Int × List UInt8 × List UInt8 × List Row)) (s : (List Row × List Row × Int × Int × Int × Int × List UInt8 × List UInt8 × Int × Int × List UInt8 × List UInt8) ⊕ (List Row × List Row × Int × Int × Int × Int × List UInt8 × List UInt8 × Int × Int × List UInt8 × List UInt8 × List Row)) (kn : (List Row × List Row × Int × Int × Int × Int × List UInt8 × List UInt8 × Int × Int × List UInt8 × List UInt8) ⊕ (List Row × List Row × Int × Int × Int × Int × List UInt8 × List UInt8 × Int × Int × List UInt8 × List UInt8 × List Row) → Option R) (ke : (List Row × List Row × Int × Int × Int × Int × List UInt8 × List UInt8 × Int × Int × List UInt8 × List UInt8) ⊕ (List Row × List Row × Int × Int × Int × Int × List UInt8 × List UInt8 × Int × Int × List UInt8 × List UInt8 × List Row) → Option R) : Option R := match s with
 | .inl ((l, v23, v24, v25, x', x'1, x'2, x'3, x'4, x'5, x'6, x'7)) =>
 bif decide (v25 < v24) then
 ((idx v23 v25).bind fun row476 =>
 ((cInt IntKind.i64 row476 0).bind fun n477 =>
 ((rec_impl_treeAt l n477).bind fun r478 =>
 (kn (.inr ((l, v23, v24, IntKind.i64.wrap (v25 + 1), x', x'1, x'2, x'3, x'4, x'5, x'6, x'7, [[D.int IntKind.i64 r478.fst, D.int IntKind.i64 r478.snd.fst, D.str r478.snd.snd.fst, D.str r478.snd.snd.snd.fst, D.sl true 5 r478.snd.snd.snd.snd]]))))))) else (ke (.inl ((l, v23, v24, v25, x', x'1, x'2, x'3, x'4, x'5, x'6, x'7))))
 | .inr ((l, v23, v24, v25, x', x'1, x'2, x'3, x'4, x'5, x'6, x'7, x'8)) =>
 bif decide (v25 < v24) then
 ((idx v23 v25).bind fun row479 =>
 ((cInt IntKind.i64 row479 0).bind fun n480 =>
 ((rec_impl_treeAt l n480).bind fun r481 =>
 (bif ((x'8.length + [[D.int IntKind.i64 r481.fst, D.int IntKind.i64 r481.snd.fst, D.str r481.snd.snd.fst, D.str r481.snd.snd.snd.fst, D.sl true 5 r481.snd.snd.snd.snd]].length) * 72).ble 140737488355328 then
 (bif (x'8.length + [[D.int IntKind.i64 r481.fst, D.int IntKind.i64 r481.snd.fst, D.str r481.snd.snd.fst, D.str r481.snd.snd.snd.fst, D.sl true 5 r481.snd.snd.snd.snd]].length).ble 140737488355328 then
 (kn (.inr ((l, v23, v24, IntKind.i64.wrap (v25 + 1), x', x'1, x'2, x'3, x'4, x'5, x'6, x'7, x'8 ++ [[D.int IntKind.i64 r481.fst, D.int IntKind.i64 r481.snd.fst, D.str r481.snd.snd.fst, D.str r481.snd.snd.snd.fst, D.sl true 5 r481.snd.snd.snd.snd]])))) else none) else none)))) else (ke (.inr ((l, v23, v24, v25, x', x'1, x'2, x'3, x'4, x'5, x'6, x'7, x'8))))
def M.impl_treeAt_l4_b (rec_impl_treeAt : List Row → Int → Option (Int × Int × List UInt8 × List UInt8 × List Row)) (s : (List Row × List Row × Int × Int × Int × Int × List UInt8 × List UInt8 × Int × Int × List UInt8 × List UInt8) ⊕ (List Row × List Row × Int × Int × Int × Int × List UInt8 × List UInt8 × Int × Int × List UInt8 × List UInt8 × List Row)) := M.impl_treeAt_l4_C rec_impl_treeAt s (fun s => some (Sum.inl s)) fun t => some (Sum.inr t)
def M.impl_treeAt_l4 (rec_impl_treeAt : List Row → Int → Option (Int × Int × List UInt8 × List UInt8 × List Row)) (s : (List Row × List Row × Int × Int × Int × Int × List UInt8 × List UInt8 × Int × Int × List UInt8 × List UInt8) ⊕ (List Row × List Row × Int × Int × Int × Int × List UInt8 × List UInt8 × Int × Int × List UInt8 × List UInt8 × List Row)) : Option ((List Row × List Row × Int × Int × Int × Int × List UInt8 × List UInt8 × Int × Int × List UInt8 × List UInt8) ⊕ (List Row × List Row × Int × Int × Int × Int × List UInt8 × List UInt8 × Int × Int × List UInt8 × List UInt8 × List Row)) := loopM (M.impl_treeAt_l4_b rec_impl_treeAt) s
def F.impl_treeAt_l4 {rec_impl_treeAt : List Row → Int → Option (Int × Int × List UInt8 × List UInt8 × List Row)} (h_impl_treeAt : S.impl_treeAt.ok X0 fun x => rec_impl_treeAt x.1.1 x.1.2.1) : LE X0 83 := le 4 (pOr (pSt [pAt 0 (pL false 5), pAt 4 (pP 300000 0), pAt 6 (pP 300001 0), pAt 23 (pL false 1), pAt 24 pI, pAt 25 pI] [pAt 300000 (cB 56 [pI, pI, pS, pS, pNil 5]), pAt 300001 (cB 56 [pI, pI, pS, pS, pNil 5])]) (pSt [pAt 0 (pL false 5), pAt 4 (pP 300000 0), pAt 6 (pP 300001 0), pAt 23 (pL false 1), pAt 24 pI, pAt 25 pI] [pAt 300000 (cB 56 [pI, pI, pS, pS, pNil 5]), pAt 300001 (cB 56 [pI, pI, pS, pS, pO 300002 0]), pAt 300002 (cA false false 0 5)])) (σ := (List Row × List Row × Int × Int × Int × Int × List UInt8 × List UInt8 × Int × Int × List UInt8 × List UInt8) ⊕ (List Row × List Row × Int × Int × Int × Int × List UInt8 × List UInt8 × Int × Int × List UInt8 × List UInt8 × List Row)) (fun x => (match x with | .inl x => .inl ((x.1.1, x.1.2.2.2.1, x.1.2.2.2.2.1, x.1.2.2.2.2.2.1, x.2.1.1, x.2.1.2.1, x.2.1.2.2.1, x.2.1.2.2.2.1, x.2.2.1.1, x.2.2.1.2.1, x.2.2.1.2.2.1, x.2.2.1.2.2.2.1)) | .inr x => .inr ((x.1.1, x.1.2.2.2.1, x.1.2.2.2.2.1, x.1.2.2.2.2.2.1, x.2.1.1, x.2.1.2.1, x.2.1.2.2.1, x.2.1.2.2.2.1, x.2.2.1.1, x.2.2.1.2.1, x.2.2.1.2.2.1, x.2.2.1.2.2.2.1, x.2.2.2.1)))) (fun x s => (match s with | .inl s => .inl (((s.1, (), (), s.2.1, s.2.2.1, s.2.2.2.1, ()), ((s.2.2.2.2.1, s.2.2.2.2.2.1, s.2.2.2.2.2.2.1, s.2.2.2.2.2.2.2.1, (), ()), (s.2.2.2.2.2.2.2.2.1, s.2.2.2.2.2.2.2.2.2.1, s.2.2.2.2.2.2.2.2.2.2.1, s.2.2.2.2.2.2.2.2.2.2.2, (), ()), ()))) | .inr s => .inr (((s.1, (), (), s.2.1, s.2.2.1, s.2.2.2.1, ()), ((s.2.2.2.2.1, s.2.2.2.2.2.1, s.2.2.2.2.2.2.1, s.2.2.2.2.2.2.2.1, (), ()), (s.2.2.2.2.2.2.2.2.1, s.2.2.2.2.2.2.2.2.2.1, s.2.2.2.2.2.2.2.2.2.2.1, s.2.2.2.2.2.2.2.2.2.2.2.1, (), ()), s.2.2.2.2.2.2.2.2.2.2.2.2, ()))))) (fun x => .sum (.leaf (List Row × List Row × Int × Int × Int × Int × List UInt8 × List UInt8 × Int × Int × List UInt8 × List UInt8) (fun t => (Ex.exit 0, { tm := [(0, V.d (D.sl false 5 t.fst)), (4, V.ptr 300000 0), (6, V.ptr 300001 0), (23, V.d (D.sl false 1 t.snd.fst)), (24, V.d (D.int IntKind.i64 t.snd.snd.fst)), (25, V.d (D.int IntKind.i64 t.snd.snd.snd.fst)), (26, V.d (D.bool false))], mem := [(300000, Cell.box 56 [V.d (D.int IntKind.i64 t.snd.snd.snd.snd.fst), V.d (D.int IntKind.i64 t.snd.snd.snd.snd.snd.fst), V.d (D.str t.snd.snd.snd.snd.snd.snd.fst), V.d (D.str t.snd.snd.snd.snd.snd.snd.snd.fst), V.nil 5]), (300001, Cell.box 56 [V.d (D.int IntKind.i64 t.snd.snd.snd.snd.snd.snd.snd.snd.fst), V.d (D.int IntKind.i64 t.snd.snd.snd.snd.snd.snd.snd.snd.snd.fst), V.d (D.str t.snd.snd.snd.snd.snd.snd.snd.snd.snd.snd.fst), V.d (D.str t.snd.snd.snd.snd.snd.snd.snd.snd.snd.snd.snd), V.nil 5])] }))) (.leaf (List Row × List Row × Int × Int × Int × Int × List UInt8 × List UInt8 × Int × Int × List UInt8 × List UInt8 × List Row) (fun t => (Ex.exit 0, { tm := [(0, V.d (D.sl false 5 t.fst)), (4, V.ptr 300000 0), (6, V.ptr 300001 0), (23, V.d (D.sl false 1 t.snd.fst)), (24, V.d (D.int IntKind.i64 t.snd.snd.fst)), (25, V.d (D.int IntKind.i64 t.snd.snd.snd.fst)), (26, V.d (D.bool false))], mem := [(300000, Cell.box 56 [V.d (D.int IntKind.i64 t.snd.snd.snd.snd.fst), V.d (D.int IntKind.i64 t.snd.snd.snd.snd.snd.fst), V.d (D.str t.snd.snd.snd.snd.snd.snd.fst), V.d (D.str t.snd.snd.snd.snd.snd.snd.snd.fst), V.nil 5]), (300001, Cell.box 56 [V.d (D.int IntKind.i64 t.snd.snd.snd.snd.snd.snd.snd.snd.fst), V.d (D.int IntKind.i64 t.snd.snd.snd.snd.snd.snd.snd.snd.snd.fst), V.d (D.str t.snd.snd.snd.snd.snd.snd.snd.snd.snd.snd.fst), V.d (D.str t.snd.snd.snd.snd.snd.snd.snd.snd.snd.snd.snd.fst), V.own 300002 0]), (300002, Cell.arr false false 0 5 t.snd.snd.snd.snd.snd.snd.snd.snd.snd.snd.snd.snd)] })))) (fun x => M.impl_treeAt_l4_C rec_impl_treeAt) [fe h_impl_treeAt] [] (by rintro _ _ (⟨_, _, _, _, _, _, _, _, _, _, _, _⟩ | ⟨_, _, _, _, _, _, _, _, _, _, _, _, _⟩) _ _ <;> simp only [M.impl_treeAt_l4_C, nb] <;> rfl) (hE := by intro _ _ s _; rcases s with s | s <;> kernel_rfl)
def M.impl_treeAt_C {R : Type} (rec_impl_treeAt : List Row → Int → Option (Int × Int × List UInt8 × List UInt8 × List Row)) (l : List Row) (i : Int) (k : Int × Int × List UInt8 × List UInt8 × List Row → Option R) : Option R :=
 (idx l i).bind fun row470 =>
 ((cInt IntKind.i64 row470 0).bind fun n471 =>
 ((cInt IntKind.i64 row470 1).bind fun n472 =>
 ((cStr row470 2).bind fun s473 =>
 ((cStr row470 3).bind fun s474 =>
 ((cSl 1 row470 4).bind fun rows475 =>
 ((M.impl_treeAt_l4 rec_impl_treeAt (.inl ((l, rows475, (↑rows475.length : Int), 0, 0, 0, [], [], n471, n472, s473, s474)))).bind fun u484 =>
 sumE u484 (fun t482 =>
 (k ((t482.snd.snd.snd.snd.snd.snd.snd.snd.fst, t482.snd.snd.snd.snd.snd.snd.snd.snd.snd.fst, t482.snd.snd.snd.snd.snd.snd.snd.snd.snd.snd.fst, t482.snd.snd.snd.snd.snd.snd.snd.snd.snd.snd.snd, [])))) fun u485 =>
 letE u485 fun t483 =>
 (k ((t483.snd.snd.snd.snd.snd.snd.snd.snd.fst, t483.snd.snd.snd.snd.snd.snd.snd.snd.snd.fst, t483.snd.snd.snd.snd.snd.snd.snd.snd.snd.snd.fst, t483.snd.snd.snd.snd.snd.snd.snd.snd.snd.snd.snd.fst, t483.snd.snd.snd.snd.snd.snd.snd.snd.snd.snd.snd.snd)))))))))
def M.impl_treeAt_N : Nat → List Row → Int → Option (Int × Int × List UInt8 × List UInt8 × List Row)
 | 0 => fun _ _ => none
 | n + 1 => fun l i => M.impl_treeAt_C (M.impl_treeAt_N n) l i some
def M.impl_treeAt (l : List Row) (i : Int) : Option (Int × Int × List UInt8 × List UInt8 × List Row) := lim fun n => M.impl_treeAt_N n l i
theorem C.impl_treeAt_1 {rec_impl_treeAt : List Row → Int → Option (Int × Int × List UInt8 × List UInt8 × List Row)} (h_impl_treeAt : S.impl_treeAt.ok X0 fun x => rec_impl_treeAt x.1.1 x.1.2.1) : S.impl_treeAt.ok X0 fun x => M.impl_treeAt_C rec_impl_treeAt x.1.1 x.1.2.1 some := fnS (fun x => M.impl_treeAt_C rec_impl_treeAt x.1.1 x.1.2.1) [] [F.impl_treeAt_l4 h_impl_treeAt] (by intros; simp only [M.impl_treeAt_C, nb] <;> rfl)
theorem C.impl_treeAt_N : ∀ n, S.impl_treeAt.ok X0 fun x => M.impl_treeAt_N n x.1.1 x.1.2.1
 | 0 => Sig.zero
 | n + 1 => C.impl_treeAt_1 (C.impl_treeAt_N n)
theorem C.impl_treeAt : S.impl_treeAt.ok X0 fun x => M.impl_treeAt x.1.1 x.1.2.1 := Sig.lim C.impl_treeAt_N
theorem M.impl_treeAt_of {n : Nat} {l : List Row} {i : Int} {r : Int × Int × List UInt8 × List UInt8 × List Row} (h : M.impl_treeAt_N n l i = some r) : M.impl_treeAt l i = some r :=
 Sig.lim_of C.impl_treeAt_N (by intro a b h; simp [S.impl_treeAt, sg] at h; first | exact h | simp [Prod.ext_iff, h]) (x := ((l, i, ()), ())) h
def M.impl_rootOf_C {R : Type} (l : List Row) (k : Int × Int × List UInt8 × List UInt8 × List Row → Option R) : Option R :=
 (M.impl_treeAt l (IntKind.i64.wrap ((↑l.length : Int) - 1))).bind fun r486 =>
 (k ((r486.fst, r486.snd.fst, r486.snd.snd.fst, r486.snd.snd.snd.fst, r486.snd.snd.snd.snd)))
def M.impl_rootOf (l : List Row) : Option (Int × Int × List UInt8 × List UInt8 × List Row) := M.impl_rootOf_C l some
theorem C.impl_rootOf : S.impl_rootOf.ok X0 fun x => M.impl_rootOf x.1.1 := fnS (fun x => M.impl_rootOf_C x.1.1) [fe C.impl_treeAt] [] (by intros; simp only [M.impl_rootOf_C, nb] <;> rfl)
def M.impl_tree_depth_l3_C {R : Type} (rec_impl_tree_depth : Int → Int → List UInt8 → List UInt8 → List Row → Option (Int)) (v7 : List Row) (v8 : Int) (s : Int × Int) (kn : Int × Int → Option R) (ke : Int × Int → Option R) : Option R := match s with
 | (most, v9) =>
 bif decide (v9 < v8) then
 ((idx v7 v9).bind fun row488 =>
 ((cInt IntKind.i64 row488 0).bind fun n489 =>
 ((cInt IntKind.i64 row488 1).bind fun n490 =>
 ((cStr row488 2).bind fun s491 =>
 ((cStr row488 3).bind fun s492 =>
 ((cSl 5 row488 4).bind fun rows493 =>
 ((rec_impl_tree_depth n489 n490 s491 s492 rows493).bind fun r494 => (kn ((bif decide (most < r494) then r494 else most, IntKind.i64.wrap (v9 + 1))))))))))) else (ke ((most, v9)))
def M.impl_tree_depth_l3_b (rec_impl_tree_depth : Int → Int → List UInt8 → List UInt8 → List Row → Option (Int)) (v7 : List Row) (v8 : Int) (s : Int × Int) := M.impl_tree_depth_l3_C rec_impl_tree_depth v7 v8 s (fun s => some (Sum.inl s)) fun t => some (Sum.inr t)
def M.impl_tree_depth_l3 (rec_impl_tree_depth : Int → Int → List UInt8 → List UInt8 → List Row → Option (Int)) (v7 : List Row) (v8 : Int) (s : Int × Int) : Option (Int × Int) := loopM (M.impl_tree_depth_l3_b rec_impl_tree_depth v7 v8) s
def F.impl_tree_depth_l3 {rec_impl_tree_depth : Int → Int → List UInt8 → List UInt8 → List Row → Option (Int)} (h_impl_tree_depth : S.impl_tree_depth.ok X0 fun x => rec_impl_tree_depth x.1.1.1 x.1.1.2.1 x.1.1.2.2.1 x.1.1.2.2.2.1 x.1.1.2.2.2.2.1) : LE X0 88 := le 3 (pSt [pAt 3 pI, pAt 7 (pL false 5), pAt 8 pI, pAt 9 pI] []) (fun x => (x.1.1, x.1.2.2.2.1)) (fun x s => ((s.1, x.1.2.1, x.1.2.2.1, s.2, ()), ())) (fun x => .leaf (Int × Int) (fun t => (Ex.exit 0, { tm := [(3, V.d (D.int IntKind.i64 t.fst)), (7, V.d (D.sl false 5 x.1.2.1)), (8, V.d (D.int IntKind.i64 x.1.2.2.1)), (9, V.d (D.int IntKind.i64 t.snd)), (10, V.d (D.bool false))], mem := [] }))) (fun x => M.impl_tree_depth_l3_C rec_impl_tree_depth x.1.2.1 x.1.2.2.1) [fe h_impl_tree_depth] [] (by rintro _ _ ⟨_, _⟩ _ _ <;> simp only [M.impl_tree_depth_l3_C, nb] <;> rfl)
def M.impl_tree_depth_C {R : Type} (rec_impl_tree_depth : Int → Int → List UInt8 → List UInt8 → List Row → Option (Int)) (t' : Int) (t'1 : Int) (t'2 : List UInt8) (t'3 : List UInt8) (t'4 : List Row) (k : Int → Option R) : Option R :=
 (M.impl_tree_depth_l3 rec_impl_tree_depth t'4 ((↑t'4.length : Int)) ((0, 0))).bind fun t495 => (k (IntKind.i64.wrap (t495.fst + 1)))
def M.impl_tree_depth_N : Nat → Int → Int → List UInt8 → List UInt8 → List Row → Option (Int)
 | 0 => fun _ _ _ _ _ => none
 | n + 1 => fun t' t'1 t'2 t'3 t'4 => M.impl_tree_depth_C (M.impl_tree_depth_N n) t' t'1 t'2 t'3 t'4 some
def M.impl_tree_depth (t' : Int) (t'1 : Int) (t'2 : List UInt8) (t'3 : List UInt8) (t'4 : List Row) : Option (Int) := lim fun n => M.impl_tree_depth_N n t' t'1 t'2 t'3 t'4
theorem C.impl_tree_depth_1 {rec_impl_tree_depth : Int → Int → List UInt8 → List UInt8 → List Row → Option (Int)} (h_impl_tree_depth : S.impl_tree_depth.ok X0 fun x => rec_impl_tree_depth x.1.1.1 x.1.1.2.1 x.1.1.2.2.1 x.1.1.2.2.2.1 x.1.1.2.2.2.2.1) : S.impl_tree_depth.ok X0 fun x => M.impl_tree_depth_C rec_impl_tree_depth x.1.1.1 x.1.1.2.1 x.1.1.2.2.1 x.1.1.2.2.2.1 x.1.1.2.2.2.2.1 some := fnS (fun x => M.impl_tree_depth_C rec_impl_tree_depth x.1.1.1 x.1.1.2.1 x.1.1.2.2.1 x.1.1.2.2.2.1 x.1.1.2.2.2.2.1) [] [F.impl_tree_depth_l3 h_impl_tree_depth] (by intros; simp only [M.impl_tree_depth_C, nb] <;> rfl)
theorem C.impl_tree_depth_N : ∀ n, S.impl_tree_depth.ok X0 fun x => M.impl_tree_depth_N n x.1.1.1 x.1.1.2.1 x.1.1.2.2.1 x.1.1.2.2.2.1 x.1.1.2.2.2.2.1
 | 0 => Sig.zero
 | n + 1 => C.impl_tree_depth_1 (C.impl_tree_depth_N n)
theorem C.impl_tree_depth : S.impl_tree_depth.ok X0 fun x => M.impl_tree_depth x.1.1.1 x.1.1.2.1 x.1.1.2.2.1 x.1.1.2.2.2.1 x.1.1.2.2.2.2.1 := Sig.lim C.impl_tree_depth_N
theorem M.impl_tree_depth_of {n : Nat} {t' : Int} {t'1 : Int} {t'2 : List UInt8} {t'3 : List UInt8} {t'4 : List Row} {r : Int} (h : M.impl_tree_depth_N n t' t'1 t'2 t'3 t'4 = some r) : M.impl_tree_depth t' t'1 t'2 t'3 t'4 = some r :=
 Sig.lim_of C.impl_tree_depth_N (by intro a b h; simp [S.impl_tree_depth, sg] at h; first | exact h | simp [Prod.ext_iff, h]) (x := (((t', t'1, t'2, t'3, t'4, ()), ()), ())) h
def M.impl_TreeOk_l9_C {R : Type} (l : List Row) (v10 : List Row) (v11 : Int) (v12 : Int) (v20 : List Row) (v21 : Int) (x' : Int) (x'1 : Int) (x'2 : List UInt8) (x'3 : List UInt8) (x'4 : List Row) (s : Int) (kn : Int → Option R) (ke : (Unit) ⊕ (Int) → Option R) : Option R := match s with
 | v22 =>
 bif decide (v22 < v21) then
 ((idx v20 v22).bind fun row443 =>
 ((cInt IntKind.i64 row443 0).bind fun n444 =>
 ((idx l n444).bind fun row445 =>
 ((cInt IntKind.i64 row445 0).bind fun n446 =>
 ((M.impl_kidOk x' x'1 x'2 x'3 x'4 v22 n446).bind fun r465 => (bif !r465 then (ke (.inl ())) else (kn (IntKind.i64.wrap (v22 + 1))))))))) else (ke (.inr v22))
def M.impl_TreeOk_l9_b (l : List Row) (v10 : List Row) (v11 : Int) (v12 : Int) (v20 : List Row) (v21 : Int) (x' : Int) (x'1 : Int) (x'2 : List UInt8) (x'3 : List UInt8) (x'4 : List Row) (s : Int) := M.impl_TreeOk_l9_C l v10 v11 v12 v20 v21 x' x'1 x'2 x'3 x'4 s (fun s => some (Sum.inl s)) fun t => some (Sum.inr t)
def M.impl_TreeOk_l9 (l : List Row) (v10 : List Row) (v11 : Int) (v12 : Int) (v20 : List Row) (v21 : Int) (x' : Int) (x'1 : Int) (x'2 : List UInt8) (x'3 : List UInt8) (x'4 : List Row) (s : Int) : Option ((Unit) ⊕ (Int)) := loopM (M.impl_TreeOk_l9_b l v10 v11 v12 v20 v21 x' x'1 x'2 x'3 x'4) s
def F.impl_TreeOk_l9 : LE X0 42 := le 9 (pSt [pAt 0 (pL false 5), pAt 4 (pP 300000 0), pAt 10 (pL false 5), pAt 11 pI, pAt 12 pI, pAt 20 (pL false 1), pAt 21 pI, pAt 22 pI] [pAt 300000 (cB 49 [pI, pI, pS, pS, pL false 1])]) (fun x => x.1.2.2.2.2.2.2.2.1) (fun x s => ((x.1.1, (), x.1.2.2.1, x.1.2.2.2.1, x.1.2.2.2.2.1, x.1.2.2.2.2.2.1, x.1.2.2.2.2.2.2.1, s, ()), ((x.2.1.1, x.2.1.2.1, x.2.1.2.2.1, x.2.1.2.2.2.1, x.2.1.2.2.2.2.1, ()), ()))) (fun x => .sum (.leaf (Unit) (fun t => (Ex.ret, { tm := [(2, V.d (D.bool false))], mem := [] }))) (.leaf (Int) (fun t => (Ex.exit 2, { tm := [(0, V.d (D.sl false 5 x.1.1)), (4, V.ptr 300000 0), (10, V.d (D.sl false 5 x.1.2.2.1)), (11, V.d (D.int IntKind.i64 x.1.2.2.2.1)), (12, V.d (D.int IntKind.i64 x.1.2.2.2.2.1)), (20, V.d (D.sl false 1 x.1.2.2.2.2.2.1)), (21, V.d (D.int IntKind.i64 x.1.2.2.2.2.2.2.1)), (22, V.d (D.int IntKind.i64 t)), (23, V.d (D.bool false))], mem := [(300000, Cell.box 49 [V.d (D.int IntKind.i64 x.2.1.1), V.d (D.int IntKind.i64 x.2.1.2.1), V.d (D.str x.2.1.2.2.1), V.d (D.str x.2.1.2.2.2.1), V.d (D.sl false 1 x.2.1.2.2.2.2.1)])] })))) (fun x => M.impl_TreeOk_l9_C x.1.1 x.1.2.2.1 x.1.2.2.2.1 x.1.2.2.2.2.1 x.1.2.2.2.2.2.1 x.1.2.2.2.2.2.2.1 x.2.1.1 x.2.1.2.1 x.2.1.2.2.1 x.2.1.2.2.2.1 x.2.1.2.2.2.2.1) [fe C.impl_kidOk] [] (by rintro _ _ _ _ _ <;> simp only [M.impl_TreeOk_l9_C, nb] <;> rfl)
def M.impl_TreeOk_l4_C {R : Type} (l : List Row) (v10 : List Row) (v11 : Int) (s : Int) (kn : Int → Option R) (ke : (Unit) ⊕ (Int) → Option R) : Option R := match s with
 | v12 =>
 bif decide (v12 < v11) then
 ((idx v10 v12).bind fun row324 =>
 ((cInt IntKind.i64 row324 0).bind fun n325 =>
 ((cInt IntKind.i64 row324 1).bind fun n326 =>
 ((cStr row324 2).bind fun s327 =>
 ((cStr row324 3).bind fun s328 =>
 ((cSl 1 row324 4).bind fun rows329 =>
 ((M.impl_FieldsOk n325 n326 s327 s328 rows329).bind fun r442 =>
 (bif !r442 then (ke (.inl ())) else
 ((M.impl_TreeOk_l9 l v10 v11 v12 rows329 ((↑rows329.length : Int)) n325 n326 s327 s328 rows329 0).bind fun u497 =>
 sumE u497 (fun t466 => (ke (.inl ()))) fun u498 =>
 letE u498 fun t467 => (kn (IntKind.i64.wrap (v12 + 1)))))))))))) else (ke (.inr v12))
def M.impl_TreeOk_l4_b (l : List Row) (v10 : List Row) (v11 : Int) (s : Int) := M.impl_TreeOk_l4_C l v10 v11 s (fun s => some (Sum.inl s)) fun t => some (Sum.inr t)
def M.impl_TreeOk_l4 (l : List Row) (v10 : List Row) (v11 : Int) (s : Int) : Option ((Unit) ⊕ (Int)) := loopM (M.impl_TreeOk_l4_b l v10 v11) s
def F.impl_TreeOk_l4 : LE X0 42 := le 4 (pSt [pAt 0 (pL false 5), pAt 10 (pL false 5), pAt 11 pI, pAt 12 pI] []) (fun x => x.1.2.2.2.1) (fun x s => ((x.1.1, x.1.2.1, x.1.2.2.1, s, ()), ())) (fun x => .sum (.leaf (Unit) (fun t => (Ex.ret, { tm := [(2, V.d (D.bool false))], mem := [] }))) (.leaf (Int) (fun t => (Ex.exit 0, { tm := [(0, V.d (D.sl false 5 x.1.1)), (10, V.d (D.sl false 5 x.1.2.1)), (11, V.d (D.int IntKind.i64 x.1.2.2.1)), (12, V.d (D.int IntKind.i64 t)), (13, V.d (D.bool false))], mem := [] })))) (fun x => M.impl_TreeOk_l4_C x.1.1 x.1.2.1 x.1.2.2.1) [fe C.impl_FieldsOk] [F.impl_TreeOk_l9] (by rintro _ _ _ _ _ <;> simp only [M.impl_TreeOk_l4_C, nb] <;> rfl)
def M.impl_TreeOk_C {R : Type} (l : List Row) (k : Bool → Option R) : Option R :=
 (M.impl_ShapeOk l).bind fun r323 =>
 (bif !r323 then (k false) else
 ((M.impl_TreeOk_l4 l l ((↑l.length : Int)) 0).bind fun u499 =>
 sumE u499 (fun t468 => (k false)) fun u500 =>
 letE u500 fun t469 =>
 ((M.impl_rootOf l).bind fun r487 =>
 ((M.impl_tree_depth r487.fst r487.snd.fst r487.snd.snd.fst r487.snd.snd.snd.fst (fzRows r487.snd.snd.snd.snd)).bind fun r496 => (k (decide (r496 ≤ 40)))))))
def M.impl_TreeOk (l : List Row) : Option (Bool) := M.impl_TreeOk_C l some
theorem C.impl_TreeOk : S.impl_TreeOk.ok X0 fun x => M.impl_TreeOk x.1.1 := fnS (fun x => M.impl_TreeOk_C x.1.1) [fe C.impl_ShapeOk, fe C.impl_rootOf, fe C.impl_tree_depth] [F.impl_TreeOk_l4] (by intros; simp only [M.impl_TreeOk_C, nb] <;> rfl)
def M.impl_ProgramOk_C {R : Type} (l : List Row) (k : Bool → Option R) : Option R :=
 (M.impl_TreeOk l).bind fun r501 =>
 (bif r501 then
 ((idx l (IntKind.i64.wrap ((↑l.length : Int) - 1))).bind fun row502 => ((cInt IntKind.i64 row502 0).bind fun n503 => (k (n503 == 45)))) else (k false))
def M.impl_ProgramOk (l : List Row) : Option (Bool) := M.impl_ProgramOk_C l some
theorem C.impl_ProgramOk : S.impl_ProgramOk.ok X0 fun x => M.impl_ProgramOk x.1.1 := fnS (fun x => M.impl_ProgramOk_C x.1.1) [fe C.impl_TreeOk] [] (by intros; simp only [M.impl_ProgramOk_C, nb] <;> rfl)
theorem C.slices_Grow : S.slices_Grow.ok X0 fun x => M.slices_Grow x.1.2.1 := Sig.prim (p := Prim.slices_Grow)
def M.impl_tree_add_l3_C {R : Type} (rec_impl_tree_add : Int → Int → List UInt8 → List UInt8 → List Row → List Row → Option (List Row)) (s : (List Row × Int × Int × List Row × Int × Int × List UInt8 × List UInt8) ⊕ (List Row × Int × Int × List Row × Int × Int × List UInt8 × List UInt8 × List Row)) (kn : (List Row × Int × Int × List Row × Int × Int × List UInt8 × List UInt8) ⊕ (List Row × Int × Int × List Row × Int × Int × List UInt8 × List UInt8 × List Row) → Option R) (ke : (List Row × Int × Int × List Row × Int × Int × List UInt8 × List UInt8) ⊕ (List Row × Int × Int × List Row × Int × Int × List UInt8 × List UInt8 × List Row) → Option R) : Option R := match s with
 | .inl ((v18, v19, v20, x', x'1, x'2, x'3, x'4)) =>
 bif decide (v20 < v19) then
 ((idx v18 v20).bind fun row516 =>
 ((cInt IntKind.i64 row516 0).bind fun n517 =>
 ((cInt IntKind.i64 row516 1).bind fun n518 =>
 ((cStr row516 2).bind fun s519 =>
 ((cStr row516 3).bind fun s520 =>
 ((cSl 5 row516 4).bind fun rows521 =>
 ((rec_impl_tree_add n517 n518 s519 s520 rows521 x').bind fun r522 =>
 (kn (.inr ((v18, v19, IntKind.i64.wrap (v20 + 1), r522, x'1, x'2, x'3, x'4, [[D.int IntKind.i64 (IntKind.i64.wrap ((↑r522.length : Int) - 1))]]))))))))))) else (ke (.inl ((v18, v19, v20, x', x'1, x'2, x'3, x'4))))
 | .inr ((v18, v19, v20, x', x'1, x'2, x'3, x'4, x'5)) =>
 bif decide (v20 < v19) then
 ((idx v18 v20).bind fun row523 =>
 ((cInt IntKind.i64 row523 0).bind fun n524 =>
 ((cInt IntKind.i64 row523 1).bind fun n525 =>
 ((cStr row523 2).bind fun s526 =>
 ((cStr row523 3).bind fun s527 =>
 ((cSl 5 row523 4).bind fun rows528 =>
 ((rec_impl_tree_add n524 n525 s526 s527 rows528 x').bind fun r529 =>
 (bif ((x'5.length + [[D.int IntKind.i64 (IntKind.i64.wrap ((↑r529.length : Int) - 1))]].length) * 8).ble 140737488355328 then
 (bif (x'5.length + [[D.int IntKind.i64 (IntKind.i64.wrap ((↑r529.length : Int) - 1))]].length).ble 140737488355328 then
 (kn (.inr ((v18, v19, IntKind.i64.wrap (v20 + 1), r529, x'1, x'2, x'3, x'4, x'5 ++ [[D.int IntKind.i64 (IntKind.i64.wrap ((↑r529.length : Int) - 1))]])))) else none) else none)))))))) else (ke (.inr ((v18, v19, v20, x', x'1, x'2, x'3, x'4, x'5))))
def M.impl_tree_add_l3_b (rec_impl_tree_add : Int → Int → List UInt8 → List UInt8 → List Row → List Row → Option (List Row)) (s : (List Row × Int × Int × List Row × Int × Int × List UInt8 × List UInt8) ⊕ (List Row × Int × Int × List Row × Int × Int × List UInt8 × List UInt8 × List Row)) := M.impl_tree_add_l3_C rec_impl_tree_add s (fun s => some (Sum.inl s)) fun t => some (Sum.inr t)
def M.impl_tree_add_l3 (rec_impl_tree_add : Int → Int → List UInt8 → List UInt8 → List Row → List Row → Option (List Row)) (s : (List Row × Int × Int × List Row × Int × Int × List UInt8 × List UInt8) ⊕ (List Row × Int × Int × List Row × Int × Int × List UInt8 × List UInt8 × List Row)) : Option ((List Row × Int × Int × List Row × Int × Int × List UInt8 × List UInt8) ⊕ (List Row × Int × Int × List Row × Int × Int × List UInt8 × List UInt8 × List Row)) := loopM (M.impl_tree_add_l3_b rec_impl_tree_add) s
def F.impl_tree_add_l3 {rec_impl_tree_add : Int → Int → List UInt8 → List UInt8 → List Row → List Row → Option (List Row)} (h_impl_tree_add : S.impl_tree_add.ok X0 fun x => rec_impl_tree_add x.1.1.1 x.1.1.2.1 x.1.1.2.2.1 x.1.1.2.2.2.1 x.1.1.2.2.2.2.1 x.1.2.1) : LE X0 84 := le 3 (pOr (pSt [pAt 1 (pO 300000 0), pAt 5 (pP 300001 0), pAt 18 (pL false 5), pAt 19 pI, pAt 20 pI] [pAt 300000 (cA false false 0 5), pAt 300001 (cB 49 [pI, pI, pS, pS, pNil 1])]) (pSt [pAt 1 (pO 300000 0), pAt 5 (pP 300001 0), pAt 18 (pL false 5), pAt 19 pI, pAt 20 pI] [pAt 300000 (cA false false 0 5), pAt 300001 (cB 49 [pI, pI, pS, pS, pO 300002 0]), pAt 300002 (cA false true 0 1)])) (σ := (List Row × Int × Int × List Row × Int × Int × List UInt8 × List UInt8) ⊕ (List Row × Int × Int × List Row × Int × Int × List UInt8 × List UInt8 × List Row)) (fun x => (match x with | .inl x => .inl ((x.1.2.2.1, x.1.2.2.2.1, x.1.2.2.2.2.1, x.2.1, x.2.2.1.1, x.2.2.1.2.1, x.2.2.1.2.2.1, x.2.2.1.2.2.2.1)) | .inr x => .inr ((x.1.2.2.1, x.1.2.2.2.1, x.1.2.2.2.2.1, x.2.1, x.2.2.1.1, x.2.2.1.2.1, x.2.2.1.2.2.1, x.2.2.1.2.2.2.1, x.2.2.2.1)))) (fun x s => (match s with | .inl s => .inl ((((), (), s.1, s.2.1, s.2.2.1, ()), (s.2.2.2.1, (s.2.2.2.2.1, s.2.2.2.2.2.1, s.2.2.2.2.2.2.1, s.2.2.2.2.2.2.2, (), ()), ()))) | .inr s => .inr ((((), (), s.1, s.2.1, s.2.2.1, ()), (s.2.2.2.1, (s.2.2.2.2.1, s.2.2.2.2.2.1, s.2.2.2.2.2.2.1, s.2.2.2.2.2.2.2.1, (), ()), s.2.2.2.2.2.2.2.2, ()))))) (fun x => .sum (.leaf (List Row × Int × Int × List Row × Int × Int × List UInt8 × List UInt8) (fun t => (Ex.exit 0, { tm := [(1, V.own 300000 0), (5, V.ptr 300001 0), (18, V.d (D.sl false 5 t.fst)), (19, V.d (D.int IntKind.i64 t.snd.fst)), (20, V.d (D.int IntKind.i64 t.snd.snd.fst)), (21, V.d (D.bool false))], mem := [(300000, Cell.arr false false 0 5 t.snd.snd.snd.fst), (300001, Cell.box 49 [V.d (D.int IntKind.i64 t.snd.snd.snd.snd.fst), V.d (D.int IntKind.i64 t.snd.snd.snd.snd.snd.fst), V.d (D.str t.snd.snd.snd.snd.snd.snd.fst), V.d (D.str t.snd.snd.snd.snd.snd.snd.snd), V.nil 1])] }))) (.leaf (List Row × Int × Int × List Row × Int × Int × List UInt8 × List UInt8 × List Row) (fun t => (Ex.exit 0, { tm := [(1, V.own 300000 0), (5, V.ptr 300001 0), (18, V.d (D.sl false 5 t.fst)), (19, V.d (D.int IntKind.i64 t.snd.fst)), (20, V.d (D.int IntKind.i64 t.snd.snd.fst)), (21, V.d (D.bool false))], mem := [(300000, Cell.arr false false 0 5 t.snd.snd.snd.fst), (300001, Cell.box 49 [V.d (D.int IntKind.i64 t.snd.snd.snd.snd.fst), V.d (D.int IntKind.i64 t.snd.snd.snd.snd.snd.fst), V.d (D.str t.snd.snd.snd.snd.snd.snd.fst), V.d (D.str t.snd.snd.snd.snd.snd.snd.snd.fst), V.own 300002 0]), (300002, Cell.arr false true 0 1 t.snd.snd.snd.snd.snd.snd.snd.snd)] })))) (fun x => M.impl_tree_add_l3_C rec_impl_tree_add) [fe h_impl_tree_add] [] (by rintro _ _ (⟨_, _, _, _, _, _, _, _⟩ | ⟨_, _, _, _, _, _, _, _, _⟩) _ _ <;> simp only [M.impl_tree_add_l3_C, nb] <;> rfl) (hE := by intro _ _ s _; rcases s with s | s <;> kernel_rfl)
def M.impl_tree_add_C {R : Type} (rec_impl_tree_add : Int → Int → List UInt8 → List UInt8 → List Row → List Row → Option (List Row)) (t' : Int) (t'1 : Int) (t'2 : List UInt8) (t'3 : List UInt8) (t'4 : List Row) (l : List Row) (k : List Row → Option R) : Option R :=
 (M.impl_tree_add_l3 rec_impl_tree_add (.inl ((t'4, (↑t'4.length : Int), 0, l, t', t'1, t'2, t'3)))).bind fun u532 =>
 sumE u532 (fun t530 =>
 (bif ((t530.snd.snd.snd.fst.length + [[D.int IntKind.i64 t530.snd.snd.snd.snd.fst, D.int IntKind.i64 t530.snd.snd.snd.snd.snd.fst, D.str t530.snd.snd.snd.snd.snd.snd.fst, D.str t530.snd.snd.snd.snd.snd.snd.snd, D.sl true 1 []]].length) * 72).ble 140737488355328 then
 (bif (t530.snd.snd.snd.fst.length + [[D.int IntKind.i64 t530.snd.snd.snd.snd.fst, D.int IntKind.i64 t530.snd.snd.snd.snd.snd.fst, D.str t530.snd.snd.snd.snd.snd.snd.fst, D.str t530.snd.snd.snd.snd.snd.snd.snd, D.sl true 1 []]].length).ble 140737488355328 then
 (k (t530.snd.snd.snd.fst ++ [[D.int IntKind.i64 t530.snd.snd.snd.snd.fst, D.int IntKind.i64 t530.snd.snd.snd.snd.snd.fst, D.str t530.snd.snd.snd.snd.snd.snd.fst, D.str t530.snd.snd.snd.snd.snd.snd.snd, D.sl true 1 []]])) else none) else none)) fun u533 =>
 letE u533 fun t531 =>
 (bif flatRows t531.snd.snd.snd.snd.snd.snd.snd.snd then
 (bif ((t531.snd.snd.snd.fst.length + [[D.int IntKind.i64 t531.snd.snd.snd.snd.fst, D.int IntKind.i64 t531.snd.snd.snd.snd.snd.fst, D.str t531.snd.snd.snd.snd.snd.snd.fst, D.str t531.snd.snd.snd.snd.snd.snd.snd.fst, D.sl true 1 t531.snd.snd.snd.snd.snd.snd.snd.snd]].length) * 72).ble 140737488355328 then
 (bif (t531.snd.snd.snd.fst.length + [[D.int IntKind.i64 t531.snd.snd.snd.snd.fst, D.int IntKind.i64 t531.snd.snd.snd.snd.snd.fst, D.str t531.snd.snd.snd.snd.snd.snd.fst, D.str t531.snd.snd.snd.snd.snd.snd.snd.fst, D.sl true 1 t531.snd.snd.snd.snd.snd.snd.snd.snd]].length).ble 140737488355328 then
 (k (t531.snd.snd.snd.fst ++ [[D.int IntKind.i64 t531.snd.snd.snd.snd.fst, D.int IntKind.i64 t531.snd.snd.snd.snd.snd.fst, D.str t531.snd.snd.snd.snd.snd.snd.fst, D.str t531.snd.snd.snd.snd.snd.snd.snd.fst, D.sl true 1 t531.snd.snd.snd.snd.snd.snd.snd.snd]])) else none) else none) else none)
def M.impl_tree_add_N : Nat → Int → Int → List UInt8 → List UInt8 → List Row → List Row → Option (List Row)
 | 0 => fun _ _ _ _ _ _ => none
 | n + 1 => fun t' t'1 t'2 t'3 t'4 l => M.impl_tree_add_C (M.impl_tree_add_N n) t' t'1 t'2 t'3 t'4 l some
def M.impl_tree_add (t' : Int) (t'1 : Int) (t'2 : List UInt8) (t'3 : List UInt8) (t'4 : List Row) (l : List Row) : Option (List Row) := lim fun n => M.impl_tree_add_N n t' t'1 t'2 t'3 t'4 l
theorem C.impl_tree_add_1 {rec_impl_tree_add : Int → Int → List UInt8 → List UInt8 → List Row → List Row → Option (List Row)} (h_impl_tree_add : S.impl_tree_add.ok X0 fun x => rec_impl_tree_add x.1.1.1 x.1.1.2.1 x.1.1.2.2.1 x.1.1.2.2.2.1 x.1.1.2.2.2.2.1 x.1.2.1) : S.impl_tree_add.ok X0 fun x => M.impl_tree_add_C rec_impl_tree_add x.1.1.1 x.1.1.2.1 x.1.1.2.2.1 x.1.1.2.2.2.1 x.1.1.2.2.2.2.1 x.1.2.1 some := fnS (fun x => M.impl_tree_add_C rec_impl_tree_add x.1.1.1 x.1.1.2.1 x.1.1.2.2.1 x.1.1.2.2.2.1 x.1.1.2.2.2.2.1 x.1.2.1) [] [F.impl_tree_add_l3 h_impl_tree_add] (by intros; simp only [M.impl_tree_add_C, nb] <;> rfl)
theorem C.impl_tree_add_N : ∀ n, S.impl_tree_add.ok X0 fun x => M.impl_tree_add_N n x.1.1.1 x.1.1.2.1 x.1.1.2.2.1 x.1.1.2.2.2.1 x.1.1.2.2.2.2.1 x.1.2.1
 | 0 => Sig.zero
 | n + 1 => C.impl_tree_add_1 (C.impl_tree_add_N n)
theorem C.impl_tree_add : S.impl_tree_add.ok X0 fun x => M.impl_tree_add x.1.1.1 x.1.1.2.1 x.1.1.2.2.1 x.1.1.2.2.2.1 x.1.1.2.2.2.2.1 x.1.2.1 := Sig.lim C.impl_tree_add_N
theorem M.impl_tree_add_of {n : Nat} {t' : Int} {t'1 : Int} {t'2 : List UInt8} {t'3 : List UInt8} {t'4 : List Row} {l : List Row} {r : List Row} (h : M.impl_tree_add_N n t' t'1 t'2 t'3 t'4 l = some r) : M.impl_tree_add t' t'1 t'2 t'3 t'4 l = some r :=
 Sig.lim_of C.impl_tree_add_N (by intro a b h; simp [S.impl_tree_add, sg] at h; first | exact h | simp [Prod.ext_iff, h]) (x := (((t', t'1, t'2, t'3, t'4, ()), l, ()), ())) h
def M.impl_tree_list_C {R : Type} (t' : Int) (t'1 : Int) (t'2 : List UInt8) (t'3 : List UInt8) (t'4 : List Row) (k : List Row → Option R) : Option R :=
 (M.impl_tree_add t' t'1 t'2 t'3 t'4 []).bind fun r534 => (k r534)
def M.impl_tree_list (t' : Int) (t'1 : Int) (t'2 : List UInt8) (t'3 : List UInt8) (t'4 : List Row) : Option (List Row) := M.impl_tree_list_C t' t'1 t'2 t'3 t'4 some
theorem C.impl_tree_list : S.impl_tree_list.ok X0 fun x => M.impl_tree_list x.1.1.1 x.1.1.2.1 x.1.1.2.2.1 x.1.1.2.2.2.1 x.1.1.2.2.2.2.1 := fnS (fun x => M.impl_tree_list_C x.1.1.1 x.1.1.2.1 x.1.1.2.2.1 x.1.1.2.2.2.1 x.1.1.2.2.2.2.1) [fe C.impl_tree_add] [] (by intros; simp only [M.impl_tree_list_C, nb] <;> rfl)
def M.laws_eqIntS_l4_C {R : Type} (a : List Row) (b : List Row) (s : Int) (kn : Int → Option R) (ke : (Unit) ⊕ (Int) → Option R) : Option R := match s with
 | i =>
 bif decide (i < (↑a.length : Int)) then
 ((idx a i).bind fun row550 =>
 ((cInt IntKind.i64 row550 0).bind fun n551 =>
 ((idx b i).bind fun row552 =>
 ((cInt IntKind.i64 row552 0).bind fun n553 => (bif n551 != n553 then (ke (.inl ())) else (kn (IntKind.i64.wrap (i + 1)))))))) else (ke (.inr i))
def M.laws_eqIntS_l4_b (a : List Row) (b : List Row) (s : Int) := M.laws_eqIntS_l4_C a b s (fun s => some (Sum.inl s)) fun t => some (Sum.inr t)
def M.laws_eqIntS_l4 (a : List Row) (b : List Row) (s : Int) : Option ((Unit) ⊕ (Int)) := loopM (M.laws_eqIntS_l4_b a b) s
def F.laws_eqIntS_l4 : LE X0 89 := le 4 (pSt [pAt 0 (pL false 1), pAt 1 (pL false 1), pAt 5 pI] []) (fun x => x.1.2.2.1) (fun x s => ((x.1.1, x.1.2.1, s, ()), ())) (fun x => .sum (.leaf (Unit) (fun t => (Ex.ret, { tm := [(4, V.d (D.bool false))], mem := [] }))) (.leaf (Int) (fun t => (Ex.exit 0, { tm := [(0, V.d (D.sl false 1 x.1.1)), (1, V.d (D.sl false 1 x.1.2.1)), (5, V.d (D.int IntKind.i64 t)), (14, V.d (D.bool false))], mem := [] })))) (fun x => M.laws_eqIntS_l4_C x.1.1 x.1.2.1) [] [] (by rintro _ _ _ _ _ <;> simp only [M.laws_eqIntS_l4_C, nb] <;> rfl)
def M.laws_eqIntS_C {R : Type} (a : List Row) (b : List Row) (k : Bool → Option R) : Option R :=
 bif (↑a.length : Int) != (↑b.length : Int) then (k false) else
 ((M.laws_eqIntS_l4 a b 0).bind fun u556 =>
 sumE u556 (fun t554 => (k false)) fun u557 =>
 letE u557 fun t555 => (k true))
def M.laws_eqIntS (a : List Row) (b : List Row) : Option (Bool) := M.laws_eqIntS_C a b some
theorem C.laws_eqIntS : S.laws_eqIntS.ok X0 fun x => M.laws_eqIntS x.1.1 x.1.2.1 := fnS (fun x => M.laws_eqIntS_C x.1.1 x.1.2.1) [] [F.laws_eqIntS_l4] (by intros; simp only [M.laws_eqIntS_C, nb] <;> rfl)
def M.laws_eqNode_C {R : Type} (a : Int) (a1 : Int) (a2 : List UInt8) (a3 : List UInt8) (a4 : List Row) (b : Int) (b1 : Int) (b2 : List UInt8) (b3 : List UInt8) (b4 : List Row) (k : Bool → Option R) : Option R :=
 bif a != b then (k false) else
 (bif a1 != b1 then (k false) else
 (bif !a2 == b2 then (k false) else
 (bif !a3 == b3 then (k false) else ((M.laws_eqIntS a4 b4).bind fun r558 => (bif !r558 then (k false) else (k true))))))
def M.laws_eqNode (a : Int) (a1 : Int) (a2 : List UInt8) (a3 : List UInt8) (a4 : List Row) (b : Int) (b1 : Int) (b2 : List UInt8) (b3 : List UInt8) (b4 : List Row) : Option (Bool) := M.laws_eqNode_C a a1 a2 a3 a4 b b1 b2 b3 b4 some
theorem C.laws_eqNode : S.laws_eqNode.ok X0 fun x => M.laws_eqNode x.1.1.1 x.1.1.2.1 x.1.1.2.2.1 x.1.1.2.2.2.1 x.1.1.2.2.2.2.1 x.1.2.1.1 x.1.2.1.2.1 x.1.2.1.2.2.1 x.1.2.1.2.2.2.1 x.1.2.1.2.2.2.2.1 := fnS (fun x => M.laws_eqNode_C x.1.1.1 x.1.1.2.1 x.1.1.2.2.1 x.1.1.2.2.2.1 x.1.1.2.2.2.2.1 x.1.2.1.1 x.1.2.1.2.1 x.1.2.1.2.2.1 x.1.2.1.2.2.2.1 x.1.2.1.2.2.2.2.1) [fe C.laws_eqIntS] [] (by intros; simp only [M.laws_eqNode_C, nb] <;> rfl)
def M.laws_eqNodeS_l4_C {R : Type} (a : List Row) (b : List Row) (s : Int) (kn : Int → Option R) (ke : (Unit) ⊕ (Int) → Option R) : Option R := match s with
 | i =>
 bif decide (i < (↑a.length : Int)) then
 ((idx a i).bind fun row538 =>
 ((cInt IntKind.i64 row538 0).bind fun n539 =>
 ((cInt IntKind.i64 row538 1).bind fun n540 =>
 ((cStr row538 2).bind fun s541 =>
 ((cStr row538 3).bind fun s542 =>
 ((cSl 1 row538 4).bind fun rows543 =>
 ((idx b i).bind fun row544 =>
 ((cInt IntKind.i64 row544 0).bind fun n545 =>
 ((cInt IntKind.i64 row544 1).bind fun n546 =>
 ((cStr row544 2).bind fun s547 =>
 ((cStr row544 3).bind fun s548 =>
 ((cSl 1 row544 4).bind fun rows549 =>
 ((M.laws_eqNode n539 n540 s541 s542 rows543 n545 n546 s547 s548 rows549).bind fun r559 => (bif !r559 then (ke (.inl ())) else (kn (IntKind.i64.wrap (i + 1))))))))))))))))) else (ke (.inr i))
def M.laws_eqNodeS_l4_b (a : List Row) (b : List Row) (s : Int) := M.laws_eqNodeS_l4_C a b s (fun s => some (Sum.inl s)) fun t => some (Sum.inr t)
def M.laws_eqNodeS_l4 (a : List Row) (b : List Row) (s : Int) : Option ((Unit) ⊕ (Int)) := loopM (M.laws_eqNodeS_l4_b a b) s
def F.laws_eqNodeS_l4 : LE X0 13 := le 4 (pSt [pAt 0 (pL false 5), pAt 1 (pL false 5), pAt 5 pI] []) (fun x => x.1.2.2.1) (fun x s => ((x.1.1, x.1.2.1, s, ()), ())) (fun x => .sum (.leaf (Unit) (fun t => (Ex.ret, { tm := [(4, V.d (D.bool false))], mem := [] }))) (.leaf (Int) (fun t => (Ex.exit 0, { tm := [(0, V.d (D.sl false 5 x.1.1)), (1, V.d (D.sl false 5 x.1.2.1)), (5, V.d (D.int IntKind.i64 t)), (14, V.d (D.bool false))], mem := [] })))) (fun x => M.laws_eqNodeS_l4_C x.1.1 x.1.2.1) [fe C.laws_eqNode] [] (by rintro _ _ _ _ _ <;> simp only [M.laws_eqNodeS_l4_C, nb] <;> rfl)
def M.laws_eqNodeS_C {R : Type} (a : List Row) (b : List Row) (k : Bool → Option R) : Option R :=
 bif (↑a.length : Int) != (↑b.length : Int) then (k false) else
 ((M.laws_eqNodeS_l4 a b 0).bind fun u562 =>
 sumE u562 (fun t560 => (k false)) fun u563 =>
 letE u563 fun t561 => (k true))
def M.laws_eqNodeS (a : List Row) (b : List Row) : Option (Bool) := M.laws_eqNodeS_C a b some
theorem C.laws_eqNodeS : S.laws_eqNodeS.ok X0 fun x => M.laws_eqNodeS x.1.1 x.1.2.1 := fnS (fun x => M.laws_eqNodeS_C x.1.1 x.1.2.1) [] [F.laws_eqNodeS_l4] (by intros; simp only [M.laws_eqNodeS_C, nb] <;> rfl)
def M.laws_markText_l4_C {R : Type} (s : Int × List UInt8) (kn : Int × List UInt8 → Option R) (ke : Int × List UInt8 → Option R) : Option R := match s with
 | (k', out') =>
 bif decide (k' > 0) then
 (bif ([UInt8.ofNat (IntKind.u8.wrap (IntKind.i64.wrap (48 + k'.tmod 10))).toNat].length + out'.length).ble 9223372036854775807 then
 (kn ((IntKind.i64.wrap (k'.tdiv 10), [UInt8.ofNat (IntKind.u8.wrap (IntKind.i64.wrap (48 + k'.tmod 10))).toNat] ++ out'))) else none) else (ke ((k', out')))
def M.laws_markText_l4_b (s : Int × List UInt8) := M.laws_markText_l4_C s (fun s => some (Sum.inl s)) fun t => some (Sum.inr t)
def M.laws_markText_l4 (s : Int × List UInt8) : Option (Int × List UInt8) := loopM (M.laws_markText_l4_b) s
def F.laws_markText_l4 : LE X0 44 := le 4 (pSt [pAt 0 pI, pAt 3 pS] []) (fun x => (x.1.1, x.1.2.1)) (fun x s => ((s.1, s.2, ()), ())) (fun x => .leaf (Int × List UInt8) (fun t => (Ex.exit 0, { tm := [(0, V.d (D.int IntKind.i64 t.fst)), (3, V.d (D.str t.snd)), (7, V.d (D.bool false))], mem := [] }))) (fun x => M.laws_markText_l4_C) [] [] (by rintro _ _ ⟨_, _⟩ _ _ <;> simp only [M.laws_markText_l4_C, nb] <;> rfl)
def M.laws_markText_C {R : Type} (k' : Int) (k : List UInt8 → Option R) : Option R :=
 bif decide (k' ≤ 0) then (k [109, 48]) else
 ((M.laws_markText_l4 ((k', []))).bind fun t573 => (bif (1 + t573.snd.length).ble 9223372036854775807 then (k ([109] ++ t573.snd)) else none))
def M.laws_markText (k' : Int) : Option (List UInt8) := M.laws_markText_C k' some
theorem C.laws_markText : S.laws_markText.ok X0 fun x => M.laws_markText x.1.1 := fnS (fun x => M.laws_markText_C x.1.1) [] [F.laws_markText_l4] (by intros; simp only [M.laws_markText_C, nb] <;> rfl)
def M.laws_markIntS_l2_C {R : Type} (s : Int × Int × List Row) (kn : Int × Int × List Row → Option R) (ke : Int × Int × List Row → Option R) : Option R := match s with
 | (k', i, v) =>
 bif decide (i < (↑v.length : Int)) then
 ((idx v i).bind fun row583 =>
 (v[i.toNat]?.bind fun row584 =>
 (kn ((IntKind.i64.wrap (k' + 1), IntKind.i64.wrap (i + 1), v.set i.toNat (splice row584 0 [D.int IntKind.i64 k'])))))) else (ke ((k', i, v)))
def M.laws_markIntS_l2_b (s : Int × Int × List Row) := M.laws_markIntS_l2_C s (fun s => some (Sum.inl s)) fun t => some (Sum.inr t)
def M.laws_markIntS_l2 (s : Int × Int × List Row) : Option (Int × Int × List Row) := loopM (M.laws_markIntS_l2_b) s
def F.laws_markIntS_l2 : LE X0 45 := le 2 (pSt [pAt 0 (pO 100000 0), pAt 1 pI, pAt 5 pI] [pAt 100000 (cA false true 0 1)]) (fun x => (x.1.2.1, x.1.2.2.1, x.2.1)) (fun x s => (((), s.1, s.2.1, ()), (s.2.2, ()))) (fun x => .leaf (Int × Int × List Row) (fun t => (Ex.exit 0, { tm := [(0, V.own 100000 0), (1, V.d (D.int IntKind.i64 t.fst)), (5, V.d (D.int IntKind.i64 t.snd.fst)), (9, V.d (D.bool false))], mem := [(100000, Cell.arr false true 0 1 t.snd.snd)] }))) (fun x => M.laws_markIntS_l2_C) [] [] (by rintro _ _ ⟨_, _, _⟩ _ _ <;> simp only [M.laws_markIntS_l2_C, nb] <;> rfl)
def M.laws_markIntS_C {R : Type} (k' : Int) (c : List Row) (k : Int × List Row → Option R) : Option R :=
 (M.laws_markIntS_l2 ((k', 0, c))).bind fun t585 => (k ((t585.fst, t585.snd.snd)))
def M.laws_markIntS (k' : Int) (c : List Row) : Option (Int × List Row) := M.laws_markIntS_C k' c some
theorem C.laws_markIntS : S.laws_markIntS.ok X0 fun x => M.laws_markIntS x.1.2.1 x.2.1 := fnS (fun x => M.laws_markIntS_C x.1.2.1 x.2.1) [] [F.laws_markIntS_l2] (by intros; simp only [M.laws_markIntS_C, nb] <;> rfl)
def M.laws_markNodeS_l2_C {R : Type} (s : Int × Int × List Row) (kn : Int × Int × List Row → Option R) (ke : Int × Int × List Row → Option R) : Option R := match s with
 | (k', i, v) =>
 bif decide (i < (↑v.length : Int)) then
 ((idx v i).bind fun row569 =>
 (v[i.toNat]?.bind fun row570 =>
 ((idx (v.set i.toNat (splice row570 0 [D.int IntKind.i64 k'])) i).bind fun row571 =>
 (((v.set i.toNat (splice row570 0 [D.int IntKind.i64 k']))[i.toNat]?).bind fun row572 =>
 ((M.laws_markText (IntKind.i64.wrap (IntKind.i64.wrap (k' + 1) + 1))).bind fun r574 =>
 ((idx ((v.set i.toNat (splice row570 0 [D.int IntKind.i64 k'])).set i.toNat (splice row572 1 [D.int IntKind.i64 (IntKind.i64.wrap (k' + 1))])) i).bind fun row575 =>
 ((((v.set i.toNat (splice row570 0 [D.int IntKind.i64 k'])).set i.toNat (splice row572 1 [D.int IntKind.i64 (IntKind.i64.wrap (k' + 1))]))[i.toNat]?).bind fun row576 =>
 ((M.laws_markText (IntKind.i64.wrap (IntKind.i64.wrap (IntKind.i64.wrap (k' + 1) + 1) + 1))).bind fun r577 =>
 ((idx (((v.set i.toNat (splice row570 0 [D.int IntKind.i64 k'])).set i.toNat (splice row572 1 [D.int IntKind.i64 (IntKind.i64.wrap (k' + 1))])).set i.toNat (splice row576 2 [D.str r574])) i).bind fun row578 =>
 (((((v.set i.toNat (splice row570 0 [D.int IntKind.i64 k'])).set i.toNat (splice row572 1 [D.int IntKind.i64 (IntKind.i64.wrap (k' + 1))])).set i.toNat (splice row576 2 [D.str r574]))[i.toNat]?).bind fun row579 =>
 ((idx ((((v.set i.toNat (splice row570 0 [D.int IntKind.i64 k'])).set i.toNat (splice row572 1 [D.int IntKind.i64 (IntKind.i64.wrap (k' + 1))])).set i.toNat (splice row576 2 [D.str r574])).set i.toNat (splice row579 3 [D.str r577])) i).bind fun row580 =>
 ((((((v.set i.toNat (splice row570 0 [D.int IntKind.i64 k'])).set i.toNat (splice row572 1 [D.int IntKind.i64 (IntKind.i64.wrap (k' + 1))])).set i.toNat (splice row576 2 [D.str r574])).set i.toNat (splice row579 3 [D.str r577]))[i.toNat]?).bind fun row581 =>
 ((cOwn 1 row581 4).bind fun rows582 =>
 (bif flatRows rows582 then
 ((M.laws_markIntS (IntKind.i64.wrap (IntKind.i64.wrap (IntKind.i64.wrap (IntKind.i64.wrap (k' + 1) + 1) + 1) + 1)) rows582).bind fun r586 =>
 (bif Nat.beq 1 1 && (true == true && (flatRows r586.snd && pureRows r586.snd)) then
 (kn ((r586.fst, IntKind.i64.wrap (i + 1), ((((v.set i.toNat (splice row570 0 [D.int IntKind.i64 k'])).set i.toNat (splice row572 1 [D.int IntKind.i64 (IntKind.i64.wrap (k' + 1))])).set i.toNat (splice row576 2 [D.str r574])).set i.toNat (splice row579 3 [D.str r577])).set i.toNat (splice row581 4 [D.sl true 1 r586.snd])))) else none)) else none)))))))))))))) else (ke ((k', i, v)))
def M.laws_markNodeS_l2_b (s : Int × Int × List Row) := M.laws_markNodeS_l2_C s (fun s => some (Sum.inl s)) fun t => some (Sum.inr t)
def M.laws_markNodeS_l2 (s : Int × Int × List Row) : Option (Int × Int × List Row) := loopM (M.laws_markNodeS_l2_b) s
def F.laws_markNodeS_l2 : LE X0 14 := le 2 (pSt [pAt 0 (pO 100000 0), pAt 1 pI, pAt 5 pI] [pAt 100000 (cA false false 0 5)]) (fun x => (x.1.2.1, x.1.2.2.1, x.2.1)) (fun x s => (((), s.1, s.2.1, ()), (s.2.2, ()))) (fun x => .leaf (Int × Int × List Row) (fun t => (Ex.exit 0, { tm := [(0, V.own 100000 0), (1, V.d (D.int IntKind.i64 t.fst)), (5, V.d (D.int IntKind.i64 t.snd.fst)), (9, V.d (D.bool false))], mem := [(100000, Cell.arr false false 0 5 t.snd.snd)] }))) (fun x => M.laws_markNodeS_l2_C) [fe C.laws_markText, fe C.laws_markIntS] [] (by rintro _ _ ⟨_, _, _⟩ _ _ <;> simp only [M.laws_markNodeS_l2_C, nb] <;> rfl)
def M.laws_markNodeS_C {R : Type} (k' : Int) (c : List Row) (k : Int × List Row → Option R) : Option R :=
 (M.laws_markNodeS_l2 ((k', 0, c))).bind fun t587 => (k ((t587.fst, t587.snd.snd)))
def M.laws_markNodeS (k' : Int) (c : List Row) : Option (Int × List Row) := M.laws_markNodeS_C k' c some
theorem C.laws_markNodeS : S.laws_markNodeS.ok X0 fun x => M.laws_markNodeS x.1.2.1 x.2.1 := fnS (fun x => M.laws_markNodeS_C x.1.2.1 x.2.1) [] [F.laws_markNodeS_l2] (by intros; simp only [M.laws_markNodeS_C, nb] <;> rfl)
def M.laws_heldIntS_l2_C {R : Type} (a : List Row) (s : Int × Int) (kn : Int × Int → Option R) (ke : (Unit) ⊕ (Int × Int) → Option R) : Option R := match s with
 | (k', i) =>
 bif decide (i < (↑a.length : Int)) then
 ((idx a i).bind fun row604 =>
 ((cInt IntKind.i64 row604 0).bind fun n605 =>
 (bif n605 != k' then (ke (.inl ())) else (kn ((IntKind.i64.wrap (k' + 1), IntKind.i64.wrap (i + 1))))))) else (ke (.inr ((k', i))))
def M.laws_heldIntS_l2_b (a : List Row) (s : Int × Int) := M.laws_heldIntS_l2_C a s (fun s => some (Sum.inl s)) fun t => some (Sum.inr t)
def M.laws_heldIntS_l2 (a : List Row) (s : Int × Int) : Option ((Unit) ⊕ (Int × Int)) := loopM (M.laws_heldIntS_l2_b a) s
def F.laws_heldIntS_l2 : LE X0 46 := le 2 (pSt [pAt 0 (pL false 1), pAt 1 pI, pAt 5 pI] []) (fun x => (x.1.2.1, x.1.2.2.1)) (fun x s => ((x.1.1, s.1, s.2, ()), ())) (fun x => .sum (.leaf (Unit) (fun t => (Ex.ret, { tm := [(4, V.d (D.int IntKind.i64 (-1)))], mem := [] }))) (.leaf (Int × Int) (fun t => (Ex.exit 0, { tm := [(0, V.d (D.sl false 1 x.1.1)), (1, V.d (D.int IntKind.i64 t.fst)), (5, V.d (D.int IntKind.i64 t.snd)), (9, V.d (D.bool false))], mem := [] })))) (fun x => M.laws_heldIntS_l2_C x.1.1) [] [] (by rintro _ _ ⟨_, _⟩ _ _ <;> simp only [M.laws_heldIntS_l2_C, nb] <;> rfl)
def M.laws_heldIntS_C {R : Type} (a : List Row) (k' : Int) (k : Int → Option R) : Option R :=
 (M.laws_heldIntS_l2 a ((k', 0))).bind fun u608 =>
 sumE u608 (fun t606 => (k (-1))) fun u609 =>
 letE u609 fun t607 => (k t607.fst)
def M.laws_heldIntS (a : List Row) (k' : Int) : Option (Int) := M.laws_heldIntS_C a k' some
theorem C.laws_heldIntS : S.laws_heldIntS.ok X0 fun x => M.laws_heldIntS x.1.1 x.1.2.1 := fnS (fun x => M.laws_heldIntS_C x.1.1 x.1.2.1) [] [F.laws_heldIntS_l2] (by intros; simp only [M.laws_heldIntS_C, nb] <;> rfl)
def M.laws_heldNodeS_l2_C {R : Type} (a : List Row) (s : Int × Int) (kn : Int × Int → Option R) (ke : (Unit) ⊕ (Int × Int) → Option R) : Option R := match s with
 | (k', i) =>
 bif decide (i < (↑a.length : Int)) then
 ((idx a i).bind fun row592 =>
 ((cInt IntKind.i64 row592 0).bind fun n593 =>
 (bif n593 != k' then (ke (.inl ())) else
 ((idx a i).bind fun row594 =>
 ((cInt IntKind.i64 row594 1).bind fun n595 =>
 (bif n595 != IntKind.i64.wrap (k' + 1) then (ke (.inl ())) else
 ((idx a i).bind fun row596 =>
 ((cStr row596 2).bind fun s597 =>
 ((M.laws_markText (IntKind.i64.wrap (IntKind.i64.wrap (k' + 1) + 1))).bind fun r598 =>
 (bif !s597 == r598 then (ke (.inl ())) else
 ((idx a i).bind fun row599 =>
 ((cStr row599 3).bind fun s600 =>
 ((M.laws_markText (IntKind.i64.wrap (IntKind.i64.wrap (IntKind.i64.wrap (k' + 1) + 1) + 1))).bind fun r601 =>
 (bif !s600 == r601 then (ke (.inl ())) else
 ((idx a i).bind fun row602 =>
 ((cSl 1 row602 4).bind fun rows603 =>
 ((M.laws_heldIntS rows603 (IntKind.i64.wrap (IntKind.i64.wrap (IntKind.i64.wrap (IntKind.i64.wrap (k' + 1) + 1) + 1) + 1))).bind fun r610 => (bif decide (r610 < 0) then (ke (.inl ())) else (kn ((r610, IntKind.i64.wrap (i + 1)))))))))))))))))))))) else (ke (.inr ((k', i))))
def M.laws_heldNodeS_l2_b (a : List Row) (s : Int × Int) := M.laws_heldNodeS_l2_C a s (fun s => some (Sum.inl s)) fun t => some (Sum.inr t)
def M.laws_heldNodeS_l2 (a : List Row) (s : Int × Int) : Option ((Unit) ⊕ (Int × Int)) := loopM (M.laws_heldNodeS_l2_b a) s
def F.laws_heldNodeS_l2 : LE X0 15 := le 2 (pSt [pAt 0 (pL false 5), pAt 1 pI, pAt 5 pI] []) (fun x => (x.1.2.1, x.1.2.2.1)) (fun x s => ((x.1.1, s.1, s.2, ()), ())) (fun x => .sum (.leaf (Unit) (fun t => (Ex.ret, { tm := [(4, V.d (D.int IntKind.i64 (-1)))], mem := [] }))) (.leaf (Int × Int) (fun t => (Ex.exit 0, { tm := [(0, V.d (D.sl false 5 x.1.1)), (1, V.d (D.int IntKind.i64 t.fst)), (5, V.d (D.int IntKind.i64 t.snd)), (9, V.d (D.bool false))], mem := [] })))) (fun x => M.laws_heldNodeS_l2_C x.1.1) [fe C.laws_markText, fe C.laws_heldIntS] [] (by rintro _ _ ⟨_, _⟩ _ _ <;> simp only [M.laws_heldNodeS_l2_C, nb] <;> rfl)
def M.laws_heldNodeS_C {R : Type} (a : List Row) (k' : Int) (k : Int → Option R) : Option R :=
 (M.laws_heldNodeS_l2 a ((k', 0))).bind fun u613 =>
 sumE u613 (fun t611 => (k (-1))) fun u614 =>
 letE u614 fun t612 => (k t612.fst)
def M.laws_heldNodeS (a : List Row) (k' : Int) : Option (Int) := M.laws_heldNodeS_C a k' some
theorem C.laws_heldNodeS : S.laws_heldNodeS.ok X0 fun x => M.laws_heldNodeS x.1.1 x.1.2.1 := fnS (fun x => M.laws_heldNodeS_C x.1.1 x.1.2.1) [] [F.laws_heldNodeS_l2] (by intros; simp only [M.laws_heldNodeS_C, nb] <;> rfl)
end
end Go.Proofs.YtodbelembghegaaGreatDoor
