import Derived.Test.YtephpnbbbimjbaaGreatDoorVm4
import Derived.Lib.Bytealg
import Derived.Test.YtephpnbbbimjbaaGreatDoorProg
set_option linter.defProp false
set_option linter.unusedVariables false
set_option linter.unusedSimpArgs false
open Go.IntKind (i64)
namespace Go.Proofs.YtephpnbbbimjbaaGreatDoor
open Go Go.Vm Go.Proofs
open Go.Vm (jv mY GV)
def abM(st:List Int):Prop:=∀(j:Nat) x,st[j]? =some x->0<=x/\x<=j
def Xo{st:List Int}(h:abM st)(j:Nat):0<=st[j]?.getD 0/\st[j]?.getD 0<=j:=by
 cases hj:st[j]? with
 |none=>simp
 |some x=>exact h j x hj
def Qn{st:List Int}(h:abM st):∀(ks:List Int) (a r:Int), -1<=a->a<st.length->jv st ks a=some r-> -1<=r/\r<st.length
 |[],a,r,h1,h2,e=>by rw[jv] at e;cases e;exact⟨h1,h2⟩
 |k::ks,a,r,h1,h2,e=>by
  rw[jv] at e;split at e
  ·cases e
  ·rename_i hc;have hk:=Xo h k.toNat;exact Qn h ks _ r ak ak e
def ake:∀(l:List (List Int)) (st r:List Int),mY st l=some r->r.length=st.length+l.length
 |[],st,r,h=>by rw[mY] at h;cases h;rfl
 |n::l,st,r,h=>by
  rw[mY] at h;split at h
  ·cases h
  ·have:=ake l _ r h;simp at this|-;omega
def Xq{st:List Int}(h:abM st){a:Int}(h1: -1<=a)(h2:a<st.length):abM (st++[a+1]):=by
 intro j x hj;rw[List.getElem?_append] at hj;split at hj
 ·exact h j x hj
 ·rename_i hn;have:j - st.length=0:=by
   cases hd:j - st.length with
   |zero=>rfl
   |succ d=>rw[hd] at hj;simp at hj
  rw[this] at hj;simp at hj;omega
def amO:∀(l:List (List Int)) (st r:List Int),abM st->mY st l=some r->abM r
 |[],st,r,h0,h=>by rw[mY] at h;cases h;exact h0
 |n::l,st,r,h0,h=>by
  rw[mY] at h;split at h
  ·cases h
  ·rename_i a ha;have:=Qn h0 _ _ _ ak ak ha;exact amO l _ r (Xq h0 this.1 this.2) h
def ZU:abM []:=λj x h=>by simp at h
end Go.Proofs.YtephpnbbbimjbaaGreatDoor
namespace Go.Proofs.YtephpnbbbimjbaaGreatDoor
open Go Go.Vm
def Fp:Row:=[.str [66,69,71,73,78],.str [69,78,68],.str [102,117,110,99,116,105,111,110],.str [105,102],.str [101,108,115,101],.str [119,104,105,108,101],.str [102,111,114],.str [100,111],.str [98,114,101,97,107],.str [99,111,110,116,105,110,117,101],.str [110,101,120,116],.str [101,120,105,116],.str [114,101,116,117,114,110],.str [100,101,108,101,116,101],.str [105,110],.str [112,114,105,110,116],.str [112,114,105,110,116,102]]
def UM:Row:=[.str [123],.str [125],.str [40],.str [41],.str [91],.str [93],.str [44],.str [59],.str [43,61],.str [45,61],.str [42,61],.str [47,61],.str [37,61],.str [94,61],.str [124,124],.str [38,38],.str [33,126],.str [61,61],.str [60,61],.str [62,61],.str [33,61],.str [43,43],.str [45,45],.str [62,62],.str [61],.str [43],.str [45],.str [42],.str [47],.str [37],.str [94],.str [33],.str [62],.str [60],.str [124],.str [63],.str [58],.str [126],.str [36]]
def ND:Row:=[.str [97,116,97,110,50],.str [99,108,111,115,101],.str [99,111,115],.str [101,120,112],.str [103,115,117,98],.str [105,110,100,101,120],.str [105,110,116],.str [108,101,110,103,116,104],.str [108,111,103],.str [109,97,116,99,104],.str [114,97,110,100],.str [115,105,110],.str [115,112,108,105,116],.str [115,112,114,105,110,116,102],.str [115,113,114,116],.str [115,114,97,110,100],.str [115,117,98],.str [115,117,98,115,116,114],.str [115,121,115,116,101,109],.str [116,111,108,111,119,101,114],.str [116,111,117,112,112,101,114]]
def M.strings_Contains(s t:aC):Option Bool:=match t with
 |[c]=>some (decide (0<=Lib.indexByte s c))
 |_=>none
def Prim.strings_Contains(a:List V)(c:List Cell):Option (ay×List Cell):=match a,c with
 |[.d (.str s),.d (.str t)],[]=>(M.strings_Contains s t).map λr=>([[.bool r]],[])
 |_,_=>none
def M.strings_IndexByte(s:aC)(c:Int):Option Int:=some (Lib.indexByte s (UInt8.ofNat c.toNat))
def Prim.strings_IndexByte(a:List V)(c:List Cell):Option (ay×List Cell):=match a,c with
 |[.d (.str s),.d (.int .u8 b)],[]=>(M.strings_IndexByte s b).map λr=>([[.int .i64 r]],[])
 |_,_=>none
abbrev nI{R:Type}(x r:ay)(n:Nat)(k:ay->Option R):Option R:=bif((x.length+r.length) * n).ble 140737488355328 then(bif(x.length+r.length).ble 140737488355328 then k (x++r) else none) else none
def aSQ(r:Int×Int×aC×ay×Int):Row:=[D.int .i64 r.1,D.int .i64 r.2.1,D.str r.2.2.1,D.sl false 5 (aB r.2.2.2.1),D.int .i64 r.2.2.2.2]
def aSR(r:Int×Int×aC×ay×Int):Int×Int×aC×ay×Int:=(r.1,r.2.1,r.2.2.1,aB r.2.2.2.1,r.2.2.2.2)
def Oh{R:Type}(n:Nat)(x:Row)(k:Int->Int->aC->aC->ay->Option R):Option R:=(jR .i64 x 0).bind λa=>(jR .i64 x 1).bind λb=>(cStr x 2).bind λc=>(cStr x 3).bind λd=>(cSl n x 4).bind λe=>k a b c d e
abbrev oJ{A B C D E F G:Type}(f:A->B->C->D->E->G)(p:A×B×C×D×E×F):G:=f p.1 p.2.1 p.2.2.1 p.2.2.2.1 p.2.2.2.2.1
abbrev jq(n:Int):V:=V.d (D.int .i64 n)
abbrev og(b:Bool):V:=V.d (D.bool b)
abbrev sS(s:aC):V:=V.d (D.str s)
abbrev GL(n:Nat)(r:ay):V:=V.d (D.sl false n r)
def yH:(∀(R:Type) (x r:ay) (n:Nat) (k:ay->Option R),nI x r n k=bif((x.length+r.length) * n).ble 140737488355328 then(bif(x.length+r.length).ble 140737488355328 then k (x++r) else none) else none)/\(∀r,aSQ r=[D.int .i64 r.1,D.int .i64 r.2.1,D.str r.2.2.1,D.sl false 5 (aB r.2.2.2.1),D.int .i64 r.2.2.2.2])/\(∀r,aSR r=(r.1,r.2.1,r.2.2.1,aB r.2.2.2.1,r.2.2.2.2))/\(∀(R:Type) (n:Nat) (x:Row) (k:Int->Int->aC->aC->ay->Option R),Oh n x k=(jR .i64 x 0).bind λa=>(jR .i64 x 1).bind λb=>(cStr x 2).bind λc=>(cStr x 3).bind λd=>(cSl n x 4).bind λe=>k a b c d e):= ⟨λ_ _ _ _ _=>rfl,λ_=>rfl,λ_=>rfl,λ_ _ _ _=>rfl⟩
noncomputable section
variable {R:Type}
def kd:List Nat->List (List Nat)->List (List Nat)
 |_,[]=>[]
 |p,l::r=>match l with
  |[]=>[]::kd [] r
  |k::l=>(p.take k++l)::kd (p.take k++l) r
def kp3:=[[0],[0,15],[2],[0,3],[0,3,5],[0,5,40],[2],[0,5,6],[5,7],[5,7,8,9],[5,7,8,9,10,11],[8,9,10,11,12,13],[2]]
def kp4:=[[0],[2]]
def kp5:=[[0,3],[2,3]]
def kp6:=[[0,3],[5],[4]]
def kp7:=[[0],[0]]
def kp8:=kd [] [[0,0],[1,9],[0,2],[0,0,3],[2,4],[3,14],[3],[3,5],[4,6],[5,24],[5],[5],[3],[0,2]]
def kp9:=[[0,1],[0,1,8],[4],[4]]
def aSS:=[[0,3],[3,4,5],[3,4,5,13],[2,3],[2,3]]
def aST:=kd [] [[0,0,1],[2,10],[0,4],[0,0,1,5],[3,14],[3],[3,80],[0,4],[1]]
def aSU:=[[0],[2]]
def aSV:=[[0,3],[3,4],[2,3]]
def aSW:=kd [] [[0,0],[1,8],[0,2,3],[0,0,4],[2,5],[3,13],[3],[3,20],[4,21],[3],[3,20,30],[3],[3,35],[0,2,3],[2]]
def aSX:=[[0,3],[0,3,12],[4],[4]]
def aSY:=[[0],[0,8],[2],[0,3,4],[2]]
def aSZ:=[[0,3],[0,3,6],[2,3],[2,3]]
def aS0:=kd [] [[0,0,3],[2,4],[3,12],[0,2,3],[0,0,3,5,6],[4],[4,33],[4],[4],[4],[4,52],[0,2,3],[0,3,6],[2,7],[3,70],[0,2,3],[2]]
def aS1:=kd [] [[0,0,1],[2,10],[0,4],[0,0,1,5],[3,14],[3],[3,25],[0,4],[1]]
def aS2:=kd [] [[0,0],[1,12],[0,2],[0,0,3],[2,16],[2],[2,24],[0,2],[0,0,3,4],[3,32],[3],[3,53],[0,2],[1]]
def aS3:=kd [] [[0,0],[1,3],[2,4],[3,15],[3],[3],[0,2]]
def aS4:=[[0],[0,4],[2],[2]]
def aS5:=kd [] [[0,0,2],[2,3],[3,15],[4,16],[0,2,3],[2,15,22],[2],[2,15,25],[2],[2],[2,15,29],[4],[2,29],[2],[1]]
def aS6:=[[0],[0,9],[2],[0,3],[0,3,13],[0,3],[0,3,21],[2],[0,4,5],[2]]
def aS7:=[[0],[2]]
def aS8:=[[1],[2]]
def aS9:=[[1,3,5],[1,3,5,13],[6],[6]]
def aTa:=[[0,1,2],[6]]
def aTb:=kd [] [[0,0],[1,4],[2,5],[3,12],[3],[3,6],[4,7],[5,24],[5],[5,41],[0,2,3],[0,0,4,5,6,7],[3],[0,2,3]]
def aTc:=kd [] [[0,0,1,2,7],[4,8],[5,14],[5,15],[5],[5,23],[5],[2,7,8,9],[5,43],[0,6,7],[0,0,1,7,8,9],[2,2,7,8],[0,6,7]]
def aTd:=[[0,2],[0,2,6],[2],[0,2,3],[0,2,3,11],[2],[2]]
def aTe:=[[0],[0,12],[0]]
def aTf:=kd [] [[0,0],[1,3],[2,10,11,12],[5,13],[2,5,10,11,12],[2,10,11,12],[5],[0,3],[0,2]]
def aTg:=kd [] [[0,0,2],[2,5],[3,6],[2],[0,2],[0,0,2,5,19],[2],[0,2],[0,0,2,5,32],[2],[0,2],[0,0,2,43],[0,2],[0,0,2,3],[3,64],[3],[3],[3],[3,93],[0,2,3],[1],[0,0,2,3,107],[0,2,3],[1]]
def aTh:=[[0,1],[0,1,5],[4],[0,15],[4],[4]]
def aTi:=[[1,2],[1,2,3],[2],[2,8],[2],[2]]
def aTj:=[[1],[2]]
def aTk:=[[1],[1,3,4],[1,3,4,5],[2]]
def aTl:=kd [] [[0,1,2,3],[3,7],[4,8],[5,18],[6,19],[7],[0,6],[0,1,2,3,7,8,18,24],[0,6],[0,1,2,3,7,8,18,36],[0,6],[0,1,2,3,7,8,18,51],[0,6],[0,1,2,3,7,8,18,66],[0,6],[0,1,2,3,7,8,18,81],[0,6],[0,1,2,3,7,8,18,100],[7],[7],[0,6],[0,1,2,3,7,8,18,105],[0,6],[0,1,2,3,7,8,18,109],[0,6],[0,1,2,7,8,18,145],[0,6],[0,2,7,8,18,160],[0,6],[0,2,174],[0,6],[1]]
def aTm:=[[0,1],[4]]
def aTn:=[[0],[0,3],[0,3,4],[0,3,4,12],[0,3,4,12,13],[3],[0,3,4,12,21],[3],[0,3,4,12,30],[3],[0,3,4,12,39],[3],[0,3,48],[2],[2]]
def aTo:=[[0],[0,3],[0,3,11],[2]]
def aTp:=[[0,1],[0,1,10],[4],[0,1,12],[4],[0,1,5],[0,1,5,6],[0,1,5,6,7],[1,5,6,7,8],[4]]
def aTq:=[[0,1],[4]]
def aTr:=[[1],[1,20],[2],[1,22],[1,22,23],[2],[1,22,34],[1,22,34],[2],[1,22,41],[2],[1,52],[2],[2]]
def aTs:=kd [] [[0,0],[1,4],[2,5],[3,12],[3],[3,6],[4,7],[5,24],[5],[5,41],[0,2,3],[0,0,4,5,6,7],[3],[0,2,3]]
def aTt:=[[0],[2]]
def aTu:=[[2,3],[2,3,5],[4],[2,3,14],[4],[2,3,22],[4],[2,3,35],[4],[2,3,53],[4],[4]]
def aTv:=[[1,3,5],[3,5,7],[3,5,7,8],[3,5,7,8,19],[6],[3,5,7,24],[3,5,7,24,25],[6],[3,5,7,24,30],[3,5,7,24,30],[6],[3,5,7,24,36],[6],[3,5,7,24,50],[6],[3,5,7,24,64],[6],[3,5,7,24,78],[6],[3,5,7,24,103],[3,5,7,9],[3,5,7,9,122],[3,5,7,9],[6],[3,5,7,24,138],[6],[3,5,7,171],[3,5,7,176],[6],[6],[6]]
def aTw:=kd [] [[0,0,1,2],[3,7],[0,2,7,8],[3,9],[4,17],[4],[4],[4],[0,6]]
def aTx:=[[0],[2]]
def aTy:=[[0],[2]]
def aTz:=[[0,1],[0,1,10],[4],[4]]
def aTA:=kd [] [[0,0,1,2,6],[4,7],[5,9],[2,6,11,12],[3,7,8],[2,2,6,7,9,27],[2,6,7,8],[2,2,6,7,9,32],[2,6,7,8],[5,10],[6,42],[5],[2,2,6,7,9,46],[2,6,7,8],[2,2,6,7,9,56],[2,6,7,8],[4,9,62],[4,8],[4,73],[4,8],[5,83],[0,6],[0,0,1,6,7,8,93],[0,6],[1]]
def aTB:=kd [] [[0,0],[1,9],[0,2],[0,0,3],[2,10,11,12],[5,13],[2,4,5,10,11,12],[4,6,10,11,12],[8,21],[2,5,6,10,11,12],[7,28],[0,2],[0,0,3,5,6,10,11,12,32],[0,2],[0,0,3,5,10,11,12,40],[0,2],[0,0,3,5,10,11,12,52],[1,5,10,11,12,52],[0,2],[0,0,3,10,11,12],[5],[0,2]]
def aTC:=kd [] [[0,0],[1,3],[0,3,6,7,8],[4,9],[1,4,5,6,7,8],[6,13],[2,6,7,8],[5,19],[5],[5,27],[0,2],[0,3,6,7,8],[0,2]]
def aTD:=[[0,6],[0,8],[0,8,9],[0,11],[0],[0]]
def aTE:=[[0],[0,12],[2],[2]]
def aTF:=kd [] [[0,0,2],[2,3],[3],[3],[3,18],[3],[3],[3],[3],[0,2,3],[1]]
def aTG:=kd [] [[0,0,2],[2,3],[3,12],[0,2,3],[1],[0,0,2,3],[3],[3,31],[3,36],[3],[3,53],[3,57],[3],[3],[3],[3],[3],[0,2,3],[1]]
def aTH:=kd [] [[0,0,3,4],[3,5],[4,25],[0,4],[0,0,3,4,5,6],[5],[0,4,5,6,7],[1]]
def aTI:=[[0,5],[]]
def aTJ:=kd [] [[0,1],[1,3],[0,3,7,8,9],[4,10],[1,5,7,8,9],[1,7,8,9],[4],[0,2]]
def aTK:=kd [] [[0,1],[1,3],[0,3,7,8,9],[4,10],[1,5,7,8,9],[1,7,8,9],[4],[0,2]]
def aTL:=kd [] [[0,1,2],[2,5],[1,5,18,19,20],[5,21],[2,7,18,19,20],[2,18,19,20],[5],[5],[0,4]]
def aTM:=kd [] [[0,1],[1,6],[2,7],[3],[0,2,3],[0,1,6,10],[3],[3],[0,2,3],[0,1,6,14],[3],[3],[3],[3],[3],[3],[3],[0,2,3],[0,1,6,23],[3],[3],[3],[0,2,3],[0,1,6,28],[0,2,3],[0,1,6,30],[1,4],[0,4,36],[0,2,3],[2],[0,1,6,40],[3],[0,2,3],[0,1,6,43],[0,2,3],[0,1,6,45],[0,2,3],[0,1,6,47],[3],[0,2,3],[0,1,6,53],[0,2,3],[0,1,6,63],[0,2,3],[0,73],[0,2,3],[2]]
def aTN:=[[1],[1,4],[1,4,5],[1,4,5],[2],[1,4,16],[2],[1,4,31],[2],[1,4,36],[2],[1,4,41],[2],[1,4,46],[2],[1,51],[2],[2]]
def aTO:=[[1],[1,4],[1,4,5],[1,4,5],[1,4,5],[1,4,5],[1,4,5],[1,4,5],[2],[1,4,20],[2],[1,4,31],[2],[1,4,42],[2],[1,4,53],[2],[1,4,64],[2],[1,4,74],[2],[1,84],[2],[2]]
def aTP:=[[0],[2]]
def aTQ:=[[0],[2]]
def aTR:=[[0],[0,4],[0,4,5],[0,4,5],[2],[0,10],[2],[2]]
def aTS:=[[0,1],[4]]
def aTT:=[[0],[0,3],[0,3,4],[0,3,4,12],[0,3,4,12,13],[2],[0,3,4,12,18],[3],[0,3,4,12,35],[0,3,4,43],[3],[3,55],[2],[2]]
def aTU:=[[0,1],[0,1,7],[4],[0,1,5],[0,1,5,14],[0,1,5,14,15],[4],[0,1,5,14,19],[4],[0,1,5,14,24],[4],[0,1,5,14,33],[4],[0,1,5,14,43],[4],[0,1,5,14,54],[4],[0,1,5,14,64],[4],[0,1,14,74],[0,1,14,74],[4],[0,1,14,87],[4],[0,1,14,97],[4],[0,1,114],[4],[4]]
def aTV:=[[0],[0],[0,3],[0,3,34],[0,3],[3],[2]]
def aTW:=[[0],[0,3],[0,3,7],[0,3],[0,3,13],[2],[2]]
def aTX:=[[1],[1,4],[1,4,5],[2],[1,4,7],[2],[1,4,9],[2],[1,4,11],[2],[4,16],[2],[4,18],[4,18],[2],[4,21],[2],[4,23],[4,23],[4,23],[4,23],[4,23],[4,23],[23],[2],[2]]
def aTY:=[[1,2],[1,2,4],[1,2,4,5],[2],[1,2,4,10],[2],[1,2,4,15],[2],[1,2,20],[2],[2]]
def aTZ:=[[2,3,4,5],[8]]
def aT0:=[[0],[0,3],[2],[0,6],[2],[0,14],[2],[2]]
def aT1:=[[1,2],[4]]
def aT2:=kd [] [[0,1,3,5,6],[4,26],[0,6],[0,1,3,6,7],[4,40],[0,6],[0,1,3,6,7,40,42],[1,6,7],[0,6,7,46],[2],[0,1,3,6,7,40,48],[1,6,7],[0,6,7,52],[2],[0,1,3,6,7,40,54],[0,6,7,59],[1],[1,7],[0,1,3,6,7,40,62],[4,8,9],[4,9],[0,3,6,7,9,73],[3],[0,6,7],[2,40,80],[2],[2],[2,40,84],[4],[2],[2],[2,89],[2],[2],[2],[1]]
def aT3:=[[2,3],[2,3,31],[4],[2,3,5],[2,3,5,6],[2,3,5,44],[4],[2,3,51],[4],[2,3,63],[4],[2,8],[4]]
def aT4:=[[0,2],[2]]
def aT5:=[[1,3,5],[1,3,5,19],[6],[1,3,5,43],[6],[7],[6]]
def aT6:=kd [] [[0,1,3,5],[3,7],[4,8],[5,13],[5],[5,17],[5],[5],[0,6]]
def aT7:=kd [] [[0,3,4,5],[3,7],[0,4,7,8],[3,28],[4,29],[0,6],[0,4,7,8,28,36],[3,36],[0,6],[1]]
def aT8:=kd [] [[0,0,1],[2,5],[3,6],[4,13],[4],[4,7],[5],[5,8],[6,29],[6],[6],[4],[0,4]]
def aT9:=[[0,1,2],[6]]
def aUa:=[[0,1],[4]]
def aUb:=[[0],[2]]
def aUc:=kd [] [[0,0,1],[2,17],[0,4],[0,0,1,5],[1,5,6],[3,27],[3,7],[1,6,7],[1,5,6],[2,40],[0,4],[0,0,5,8],[2,49],[2,9],[3,10],[3,60],[3],[0,5,9,11],[1,11,68],[0,4],[1]]
def aUd:=[[0,1],[4]]
def aUe:=kd [] [[0,0],[0,3],[1,4],[2],[2],[2],[2],[2],[2],[2],[0,4],[0,2],[1]]
def aUf:=[[0,1],[1,5],[5,12],[4],[4]]
def aUg:=[[0],[2]]
def aUh:=[[0,1],[0,1,9],[4],[0,1,13],[0,1],[4]]
def aUi:=[[0],[0,5,6],[0,5,6,7],[0,3,5,6],[0,5,6,14],[2],[0,5,6],[2]]
def aUj:=[[0,1,2,6],[0,1,2,6,7],[0,1,2,6,7,12],[6],[0,1,2,6,7,21],[6],[1,6,7,27],[6],[6]]
def aLb:=kd [] [[0,0,1],[2,15],[0,4,5],[0,0,1,6,7],[4,16,17],[6,18],[4,8,9,16,17],[8,31],[4,16,17],[6],[0,4,5]]
def aLc:=[[1],[1,5],[2],[1,7],[1,7,8],[2],[1,7,20],[2],[1,7,29],[2],[1,7,38],[2],[1,7,47],[1,7,47],[2],[1,53],[2],[2]]
def aLd:=[[0],[2]]
def aLe:=[[0],[2]]
def aLf:=[[0,1],[0,14],[],[4],[],[4]]
def aLg:=kd [] [[0,0,2],[2,3],[3,10],[2,4],[3,17],[0,2,4],[1],[0,0,2,3,10,21],[0,2],[0,0,2,3,10,25],[5],[5],[3,25],[3],[2,37],[3,38],[0,2],[0,0,2,37,42],[2,5],[0,2],[0,0,2,51],[2,6],[3],[3],[3,7],[4,65],[0,2,6,7],[1],[1]]
def aLh:=[[0],[0,3],[3],[2]]
def aLi:=[[0],[0,11],[],[2],[2]]
def aLj:=kd [] [[0,0,3,4],[3,5],[4,19],[0,4],[0,0,3,4,5],[4,6],[5],[5,36],[0,4],[1,5,6,7],[1]]
def aLk:=[[0],[2]]
def aLl:=[[0],[2]]
def aLm:=kd [] [[0,0],[0,3],[1,4],[2],[2],[2],[2],[2],[2],[2],[2],[2],[2],[2],[2],[2],[2],[2],[0,4],[0,2],[1]]
def aLn:=[[0],[2]]
def aLo:=[[0],[2]]
def aLp:=[[1],[1,3],[1,3,8],[1,3,8,9],[2],[1,3,8,24],[2],[1,3,8,35],[2],[1,3,8,42],[2],[1,8,49],[1,8,49],[2],[1,55],[2],[2]]
def aLq:=[[0],[2]]
def aLr:=[[0,1],[0,1,11],[4],[0,1,17],[0,1,17,18],[4],[0,1,17,29],[4],[0,1,17,44],[4],[0,1,17,55],[4],[0,1,66],[4],[0,1,82],[4],[4]]
def aLs:=kd [] [[0,0],[1,3],[2,4],[3,10],[3],[3],[1,5],[2,23],[0,2]]
def aLt:=[[0],[0,4],[0,4,5],[2],[0,4,11],[2],[0,17],[0,20],[2],[2]]
def aLu:=[[0,1],[0,1,6],[0,1,6,7],[4],[0,1,18],[4],[4]]
def aLv:=kd [] [[0,1,2],[2,5],[3],[3,6],[4,13],[4],[4],[4],[0,4]]
def aLw:=[[0],[2]]
def aLx:=kd [] [[0,0,1,2,3],[4,9],[1,3,9,10],[4,21],[4],[4],[0,8]]
def aLy:=[[0],[2]]
def aLz:=[[0],[3],[3,4],[2],[3,6],[2],[3,8],[3,8],[2],[3,11],[3,11],[3,11],[3,11],[3,11],[3,11],[2],[3,18],[2],[3,20],[3,20],[2],[3,23],[3,23],[3,23],[2],[27],[2],[2]]
def aLA:=[[],[0]]
def aLB:=[[],[0]]
def aLC:=[[0],[5],[5,6],[2,3],[5,8],[2,3],[5,10],[2,3],[5,12],[2,3],[5,14],[2,3],[5,16],[2,3],[18],[2,3],[2,3]]
def aLD:=[[0],[2]]
def aLE:=kd [] [[0,0,1],[2,6],[3,7],[4,8],[5,9],[6,15],[6],[6,10],[7,56],[3,8,9,10],[3,7,8,9],[0,4,5]]
def aLF:=[[1,3,5],[3,5,7],[3,5,7,8],[3,5,7,8,20],[6],[3,5,7,24],[3,5,7,24,25],[6],[3,5,7,24,34],[6],[3,5,7,24,43],[6],[3,5,7,24,52],[6],[3,5,7,24,65],[6],[3,5,7,24,78],[3,5,7,9],[6],[3,5,7,24,102],[6],[3,5,7,24,116],[6],[3,5,7,132],[3,7,10],[3,7,10,146],[7,10],[7,10],[6],[6]]
def aLG:=[[],[0]]
def aLH:=[[0,1],[0,1,8],[0,1],[4]]
def aLI:=kd [] [[0,0,1,2],[3,12],[0,6],[0,0,2,7],[3,24],[3],[3,27],[0,6],[0,0,2,7,36],[3],[0,6]]
def aLJ:=[[0],[2]]
def aLK:=[[0],[3],[3,8],[2],[2]]
def aLL:=[[0],[2]]
def aLM:=[[0,1],[4]]
def aLN:=[[0,1],[4]]
def aLO:=[[0],[2]]
def aLP:=[[0],[0,3],[2],[0,6],[2],[0,13],[2],[2]]
def aLQ:=kd [] [[0,0,2],[2,3],[3,4],[4,8],[0,2],[0,0,2,3,4,8,15],[6],[3],[0,2],[0,0,2,3,4,8,28],[4],[4,8,31],[4],[4,8,34],[4],[4,8,37],[4],[4,8,40],[4],[2,4,43],[3],[3],[3,65],[3],[0,2,4],[1],[0,0,2,3,4],[2,4,95],[0,2,4],[1]]
def aLR:=kd [] [[0,0,2],[2,3],[2,4],[3,5,6],[5],[5,33],[5,38],[0,2,4],[1],[0,0,2,4],[0,2,4],[1]]
def aLS:=[[0,2],[0,2],[0,2,3],[2,3],[2]]
def aLT:=[[0,2],[0,2],[0,2,9],[2],[0,2,13],[2],[0,2,3],[0,2,3,21],[2,3],[2],[2,3],[2]]
def aLU:=kd [] [[0,0,2],[2],[2,46],[2,3],[3],[3],[3],[0,2,3],[1],[0,0,2,4],[3],[3],[3,5],[4],[4],[4,6],[5],[0,2]]
def aLV:=kd [] [[0,0,3,4],[3,5],[4,18],[4],[4],[4],[0,4]]
def aLW:=[[0],[0,3],[0,3,7],[0,3],[0,3,15],[2],[2]]
def aLX:=[[0],[3],[3,8],[2],[2]]
def aLY:=kd [] [[0,0,1],[2,9],[0,4],[0,0,1,5],[3,16],[3,6],[2,6,29],[0,4],[0,0,1,5],[1,5,33],[0,4],[0,0,5,43],[2,7],[3,55],[3],[3,62],[0,4],[1]]
def aLZ:=[[0,1],[4]]
def aL0:=[[0,1],[1,5],[5,12],[4],[4]]
def aL1:=kd [] [[0,0,1],[2,5],[3,9],[3],[3,17],[0,4],[1]]
def aL2:=[[],[0]]
def aL3:=kd [] [[0,0,1],[2,8],[3,9],[4],[2,5],[3,6],[4,21],[4],[0,5,6],[0,4],[0,0,1,8,36],[0,4],[0,0,1,8,43],[0,4],[0,0,1,8,53],[0,4],[0,0,1,63],[2,66],[0,4],[1]]
def aL4:=kd [] [[0,0,1],[2,5],[3,6],[4,11],[4],[4],[0,4]]
def aL5:=[[0,1],[0,1,6],[4],[4]]
def aL6:=[[0],[0,3],[0,3,10],[0,3,10,11],[2],[0,3,10,22],[2],[0,3,10,30],[2],[0,3,10,38],[2],[0,3,10,47],[2],[0,3,10,59],[0,3,4],[0,3,4,5],[0,3,4,5,65],[0,3,4,5],[0,3,4,5],[2],[0,3,86],[2],[2]]
def aL7:=[[0],[2]]
def aL8:=[[0],[2]]
def aL9:=[[0],[2]]
def aMa:=kd [] [[0,0,1],[2,5],[3,6],[4,13],[4],[4,7],[5],[5,8],[6,29],[6],[6],[4],[0,4]]
def aMb:=[[0],[2]]
def aMc:=[[0],[2]]
def aMd:=[[2,3,4,5],[3,9],[8]]
def aMe:=[[1,2],[4]]
def aMf:=kd [] [[0,1,2],[2,5],[3,6],[4,11],[4],[4,15],[4],[4],[0,4]]
def aMg:=kd [] [[0,3,4,5],[3,7],[4,19],[4],[4],[4],[0,6],[0,3,4,5,7,52],[4],[0,6]]
def aMh:=kd [] [[0,0,1],[2,7,8],[4,9],[2,5,7,8],[5,16],[0,4],[0,0,1,7,8],[0,4]]
def aMi:=[[0,1],[4]]
def aMj:=[[0,1],[4]]
def aMk:=[[0],[2]]
def aMl:=[[0],[2]]
def aMm:=kd [] [[0,0,1,4],[1,4,5],[3,23],[3],[3,37],[3],[0,4,5],[1]]
def aMn:=[[0,1],[0,1,5],[0,1,5,14],[5],[4],[0,1,5],[5],[4]]
def aMo:=[[0,1,5,6],[0,5,6,10],[6],[6]]
def aMp:=kd [] [[0,0,3,4],[3,5],[4,18],[4],[4],[4],[0,4]]
def aMq:=[[0,4,5,6],[6]]
def aMr:=[[0,1],[0,1,8],[0,1],[4]]
def aMs:=[[0,1],[0,1,12],[4],[4]]
def aMt:=kd [] [[0,0,1,2],[3,12],[0,6],[0,0,2,7],[3,18],[3],[3,24],[4,25],[0,6],[0,0,2,7,24,30],[0,6],[0,0,2,7,32],[3],[3,39],[0,6],[1]]
def aMu:=[[0],[2]]
def aMv:=kd [] [[0,0,3],[2,5],[3,11],[3],[3,27],[3,30],[0,5],[0,0,3,5],[3],[0,4]]
def aMw:=[[0,3,4],[0,3,4,5],[0,3,4,5,18],[4],[0,3,4,5,22],[0,3,4,5,22,23],[4],[0,3,4,5,22,28],[4],[0,3,4,5,22,33],[4],[0,3,4,5,22,38],[4],[0,3,4,5,22,43],[4],[0,3,4,5,22,48],[4],[0,3,4,5,22,53],[4],[0,3,4,5,22,58],[4],[0,3,4,5,22,63],[4],[0,3,4,5,22,68],[4],[0,3,4,5,22,73],[4],[0,3,4,5,22,78],[4],[0,3,4,22,83],[4],[0,3,4,87],[0,4,95],[4],[4],[4]]
def aMx:=kd [] [[0,0,3,4],[3,5,6],[5,26],[4],[4,6],[5,45],[0,4],[0,0,3,4,5,6],[5,65],[5],[5,74],[5],[4],[4,6],[0,4]]
def aMy:=[[0],[3],[3,4],[3,4],[3,4],[3,4],[3,4],[3,4],[4],[2],[2]]
def aMz:=[[0,2],[2],[2]]
def aMA:=kd [] [[0,0,3,4],[3,5],[4,23],[0,4],[0,0,3,4,5,6],[5],[0,4]]
def aMB:=kd [] [[0,0,3,4],[3,5],[4,28],[0,4],[0,0,3,4,5,6],[5],[0,4]]
def aMC:=kd [] [[0,0,3,4],[3,5],[4,18],[4],[0,4]]
def aMD:=kd [] [[0,0,3,4],[3,5],[4,20],[4,6],[5],[4],[0,4]]
def aME:=kd [] [[0,0,3,4],[3,5],[4,20],[4,6],[5],[4],[0,4]]
def aMF:=[[0,3,4],[0,3,4,5],[0,3,4,5,24],[4],[0,3,4,5],[4,5,6],[4]]
def aMG:=[[0,3,4],[0,3,4,5],[0,3,4,5,16],[4],[0,3,4,5],[4]]
def aMH:=[[0,2],[0,2,14],[2],[0,2,3],[0,2,3,33],[2],[0,2,3,4],[2,3,4],[2]]
def aMI:=[[0],[2]]
def aMJ:=[[0,2],[0,2,3],[0,2,3],[2,3,4],[2]]
def aMK:=[[0,2],[0,2,12],[2],[0,2],[0,2,3],[0,2,3,25],[2,3],[2,3],[2]]
def aML:=kd [] [[0,0,2],[2,9],[0,2],[0,0,2,3],[3,13],[4,14],[0,2],[0,0,2,3,13,20],[0,2],[0,0,2,3,13,26],[0,2],[0,0,2,3,13,32],[0,2],[0,0,2,3,13,36],[5],[3,4],[2,4,43],[3],[3,52],[0,2],[0,0,2,4,56],[0,2,4],[1],[0,0,2,62],[2],[2,5],[0,2,5],[1],[1]]
def aMM:=kd [] [[0,0],[1,3],[0,3,14,15,16],[4,17],[1,5,14,15,16],[5,20],[1,14,15,16],[1,5,14,15,16,26],[1,14,15,16],[4,32],[0,2],[0,3,14,15,16,41],[4],[0,2]]
def aMN:=[[0],[3],[3,4],[2],[3,6],[2],[3,8],[3,8],[2],[3,11],[3,11],[3,11],[3,11],[3,11],[3,11],[2],[3,18],[2],[3,20],[3,20],[2],[3,23],[3,23],[3,23],[2],[27],[2],[2]]
def aMO:=[[0,2],[0,2,3],[0,2,8],[2],[0,2,14],[2],[2]]
def aMP:=kd [] [[0,0,2],[2,3],[3,9],[3],[0,2,3],[1]]
def aMQ:List (List (List Nat)):=[[],[],[],kp3,kp4,kp5,kp6,kp7,kp8,kp9,aSS,aST,aSU,aSV,aSW,aSX,aSY,aSZ,aS0,aS1,aS2,aS3,aS4,aS5,aS6,aS7,aS8,aS9,aTa,aTb,aTc,aTd,aTe,aTf,aTg,aTh,aTi,aTj,aTk,aTl,aTm,aTn,aTo,aTp,aTq,aTr,aTs,aTt,aTu,aTv,aTw,aTx,aTy,aTz,aTA,aTB,aTC,aTD,aTE,aTF,aTG,aTH,aTI,aTJ,aTK,aTL,aTM,aTN,aTO,aTP,aTQ,aTR,aTS,aTT,aTU,aTV,aTW,aTX,aTY,aTZ,aT0,aT1,aT2,aT3,aT4,aT5,aT6,aT7,aT8,aT9,aUa,aUb,aUc,aUd,aUe,aUf,aUg,aUh,aUi,aUj,aLb,aLc,aLd,aLe,aLf,aLg,aLh,aLi,aLj,aLk,aLl,aLm,aLn,aLo,aLp,aLq,aLr,aLs,aLt,aLu,aLv,aLw,aLx,aLy,aLz,aLA,aLB,aLC,aLD,aLE,aLF,aLG,[],aLH,aLI,aLJ,aLK,aLL,aLM,aLN,aLO,aLP,aLQ,aLR,aLS,aLT,aLU,aLV,aLW,aLX,aLY,aLZ,aL0,aL1,aL2,aL3,aL4,aL5,aL6,aL7,aL8,aL9,aMa,aMb,aMc,aMd,aMe,aMf,aMg,[],aMh,aMi,aMj,[],aMk,aMl,aMm,aMn,aMo,aMp,aMq,aMr,aMs,aMt,[],aMu,aMv,aMw,aMx,[],[],[],aMy,aMz,aMA,aMB,aMC,aMD,aME,aMF,aMG,aMH,aMI,aMJ,aMK,aML,aMM,[],aMN,aMO,aMP,[],[],[],[],[],[],[],[],[],[],[],[],[],[],[],[],[],[],[],[],[],[],[],[],[]]
def aMR(f:Nat):List Nat:=bif Nat.beq f 65 then[1] else[]
def aUk(f:Nat):List Nat:=([(3,[18]),(5,[5]),(13,[8]),(18,[19,35,39,45,63]),(22,[6]),(32,[3,10]),(34,[5,16,29,42,46,51,62,73,78,91,97,109]),(41,[51]),(57,[8]),(59,[6,8,16,20,24,30,35,39]),(60,[6,10,18,21,29,40,51,69,71,73,77]),(61,[10,22,28,38]),(62,[3]),(104,[11]),(105,[9,12,19,24,41,45,48,54,56,58,60,67,73]),(107,[9,16]),(108,[10,17,30,32,40]),(142,[6,11,27,53,63,74,92,98]),(143,[8,11,24,31,63]),(144,[5,8,10]),(145,[5,12,15,20,33]),(146,[8,16,48,51,53,56,58,64,66,68,71,73,75,78,80,85]),(147,[8,16,27,31,32]),(176,[14,19,35,39,45]),(177,[8,25,28]),(178,[8,14]),(179,[8,16,27,31,32]),(186,[15,25,42]),(187,[15,20,27,32,37,42,47,52,57,62,67,72,77,82,86,93,97,99,101]),(188,[15,25,35,43,47,50,58,79]),(194,[9,16,20,26,38,39]),(195,[9,16,25,31,43,44]),(196,[8,16,22,23]),(197,[9,17,22,34,35]),(198,[9,17,22,34,35]),(199,[8,27,37]),(200,[7,14,28,29]),(201,[12,16,18,30,36]),(203,[6,15]),(204,[10,14,24,27,29]),(205,[12,17,23,29,35,40,50,56,58,73,75,80]),(209,[10,13,16,19,21]),(210,[5,8,18])]:List (Nat×List Nat)).foldr (λx r=>bif Nat.beq f x.1 then x.2 else r) []
def aUl(f d:Nat):List Nat:=bif mem? d (aUk f) then[] else List.range 200
def aMS(f:Nat):List Nat:=bif Nat.beq f 70 then[3] else[]
def aMT(f:Nat):List Nat:=[]
def aHI(f:Nat):List Nat:=bif Nat.beq f 143 then[47] else[]
def aMU:List (List Nat):=[[],[],[],[],[],[],[],[],[],[],[],[],[],[],[],[],[],[],[],[],[],[],[],[],[],[],[],[],[],[],[],[],[],[],[],[],[],[],[],[],[],[],[],[],[],[],[],[],[],[],[],[],[],[],[],[],[],[],[],[],[],[],[],[],[],[],[],[],[],[],[],[],[],[26,41,48]]
noncomputable def TA:Adv:=⟨λf r=>(aMQ.getD f []).getD r [],λf=>aMR f,aUl,λt=>(aMS t),λf d=>mem? d (aHI f),λf=>aMT f,λf d=>mem? d (aMU.getD f [])⟩
theorem zaP:(!true)=false:=rfl
theorem zaQ:∀n:Nat,n≤n:=Nat.le_refl
theorem zaR:∀{A B:Type}{l:List A}(f:A->B),(l.map f).length=l.length:=fun f=>List.length_map f
abbrev zar:=ay×Int×Bool×ay
abbrev zas:=ay×Int×Bool×Int×Int×aC×aC×Int×Int×aC×aC×ay×ay
abbrev zat:=Bool×ay×Int×Int×ay
abbrev zau:=ay×Int×Bool×Int×Int×aC×aC×Int×Int×aC×aC×ay
abbrev zav:=Int×aC
abbrev zaw:=ay×Int×Bool×ay×ay
abbrev zax:=Int×ay×Int×Int×ay
abbrev zay:=ay×Int×Bool×Int×Int×aC×aC×ay×Bool×ay
abbrev zaz:=ay×Int×Bool×Bool×Bool×Int×Int×aC×aC×Bool×Int×Int×aC×aC×ay×Bool×ay
abbrev zaA:=ay×Int×Bool×Bool×Bool×Int×Int×aC×aC×Bool×Int×Int×aC×aC×Bool×ay×ay
abbrev zaB:=ay×Int×Int×ay×Int×Int×aC×aC
abbrev zaC:=ay×Int×Int×ay×Int×Int×aC×aC×ay
abbrev zaD:=ay×Int×Int×ay×Int×Bool×Int×Int×aC×aC×ay
abbrev zaE:=ay×Int×Int×ay×Int×Bool×Int×Int×aC×aC×ay×ay
abbrev zaF:=ay×Int×ay×Int×Int×aC
abbrev zaG:=ay×Int×ay×Int×Int×aC×ay
abbrev zaH:=ay×ay×Int×Int
abbrev zaI:=ay×Bool×ay×Int×Bool×Bool×Bool×Int×Int×aC×aC×Bool×Int×Int×aC×aC×Bool×ay
abbrev zaJ:=Bool×ay×Int×Bool×Int×Int×aC×aC×Int×Int×aC×aC×ay
abbrev zaK:=ay×Int×ay×ay
abbrev zaL:=ay×ay×Int×Bool×Bool×Bool×Int×Int×aC×aC×Bool×Int×Int×aC×aC×Bool×ay
abbrev zaM:=ay×Int×Int×Int×aC×aC×Int×Int×aC×aC×ay×ay
abbrev zaN:=Int×Int×aC×aC×Bool×ay×Bool×ay×Int×Bool×ay
abbrev zaO:=Bool×ay×ay×Int×Bool×ay
abbrev zaa:=Bool->Bool->ay->Int->Bool->ay->Option zaN
abbrev zab:=ay->Bool->Int->Int->Bool->Bool->Bool->Bool->Option (ay)
abbrev zac:=ay->Int->Bool->ay->Option (Int×Int×aC×aC×Bool×ay×ay×Int×Bool×ay)
abbrev zad:=ay->Int->Bool->ay->Option zaN
abbrev zae:=Int->ay->Int->Int->Option zaH
abbrev zaf:=Int->ay->Int->Bool->ay->Option zaO
abbrev zag:=Int->Int->aC->aC->ay->Option (Int)
abbrev zah:=ay->Bool->Int->Option (ay)
abbrev zai:=ay->Bool->Int->Int->aC->aC->ay->Int->Bool->Bool->Bool->Bool->Option (ay)
abbrev zaj:=ay->Bool->ay->Int->Bool->Bool->Bool->Bool->Option (ay)
abbrev zak:=ay->Bool->ay->Option (ay)
abbrev zal:=Bool->Bool->ay->Int->Bool->ay->Option zaO
abbrev zam:=Int->Int->aC->aC->ay->ay->Option (ay)
abbrev zan:=Int->Int->Int->ay->Int->Int->Option zaH
abbrev zao:=ay->Bool->Int->aC->Int->ay->Int->Option (ay)
abbrev zap:=ay->Bool->Int->Int->aC->aC->ay->aC->aC->Option (ay)
abbrev zaq:=Nat->Int->Int->aC->aC->ay->Option (Int)
noncomputable def X0:Ctx:=⟨Tryz.prog,TA,λf=>bif Nat.beq f 90 then some Prim.strings_IndexByte else bif Nat.beq f 139 then some Prim.strings_Contains else none,λg=>bif Nat.beq g 2 then some ND else bif Nat.beq g 0 then some UM else bif Nat.beq g 1 then some Fp else none,λg=>bif Nat.beq g 3 then true else false⟩
def fTa(S:fD)(C:∀{R:Type},S.α->(S.ρ->Option R)->Option R)(K:List (FE X0):=[])(L:List (LE X0 S.f):=[])(hn:∀{R:Type} x (k:S.ρ->Option R),C x k=(C x some).bind k:=by intros;exact zbC)
  (hE:∀{R:Type} x (k:List Row->List Cell->Option R),bodyC X0 (kt K) (lt L) S.f (S.p.enc x.1) (S.q.enc x.2) k=C x (λr=>k (S.enc r).1 (S.enc r).2):=by intros;kernel_rfl)
  (hL:loops (codeOf X0.P S.f)=L.map LE.c:=by kernel_rfl) (hd:apart (L.map LE.n)=true:=by kernel_rfl) (hp:X0.aeN S.f=none:=by kernel_rfl):S.ok X0 λx=>C x some:=fnS C K L hn hE hL hd hp (λ_=>rfl)
abbrev ra:=λn a=>sg n a [] (ρ:=Bool) λr=>([[D.bool r]],[])
abbrev rb:=λn a=>sg n a [] (ρ:=ay) λr=>([[D.sl true 5 r]],[])
abbrev rc:=λn a=>sg n a [] (ρ:=Bool×ay×Int×Bool×Bool×Bool×Bool) λr=>([[D.sl r.1 5 r.2.1],[D.int .i64 r.2.2.1,D.bool r.2.2.2.1,D.bool r.2.2.2.2.1,D.bool r.2.2.2.2.2.1,D.bool r.2.2.2.2.2.2]],[])
abbrev re:=λn a=>sg n a [] (ρ:=Int×Bool×Bool×Bool×Bool) λr=>([[D.int .i64 r.1,D.bool r.2.1,D.bool r.2.2.1,D.bool r.2.2.2.1,D.bool r.2.2.2.2]],[])
abbrev rf:=λn a=>sg n a [] (ρ:=ay×Bool) λr=>([[D.sl true 1 r.1],[D.bool r.2]],[])
abbrev rg:=λn a=>sg n a [] (ρ:=Int) λr=>([[D.int .i64 r]],[])
abbrev rh:=λn a=>sg n a [] (ρ:=Int×Int) λr=>([[D.int .i64 r.1],[D.int .i64 r.2]],[])
abbrev rj:=λn a=>sg n a [] (ρ:=ay) λr=>([[D.sl true 1 r]],[])
abbrev rk:=λn a=>sg n a [] (ρ:=aC) λr=>([[D.str r]],[])
abbrev rl:=λn a=>sg n a [] (ρ:=Int×aC×Int) λr=>([[D.int .i64 r.1,D.str r.2.1,D.int .i64 r.2.2]],[])
abbrev rm:=λn a=>sg n a [] (ρ:=ay) λr=>([[D.sl true 4 r]],[])
abbrev rn:=λn a=>sg n a [] (ρ:=ay) λr=>([[D.sl true 3 r]],[])
abbrev rp:=λn a=>sg n a [] (ρ:=ay×Int×Int) λr=>([[D.sl true 3 r.1],[D.int .i64 r.2.1,D.int .i64 r.2.2]],[])
abbrev rq:=λn a=>sg n a [] (ρ:=Int×Int) λr=>([[D.int .i64 r.1,D.int .i64 r.2]],[])
abbrev rr:=λn a=>sg n a [] (ρ:=ay×Int×Int) λr=>([[D.sl true 5 r.1],[D.int .i64 r.2.1,D.int .i64 r.2.2]],[])
abbrev _root_.Prod.va{A B C D:Type _}(x:A×B×C×D):D:=x.2.2.2
abbrev _root_.Prod.wc{A B C D E F G H I:Type _}(x:A×B×C×D×E×F×G×H×I):I:=x.2.2.2.2.2.2.2.2
abbrev zaS(r:ay×Int×Bool×ay):=Cell.box 70 [V.d (D.sl false 3 r.1),V.d (D.int .i64 r.2.1),V.d (D.bool r.2.2.1),V.d (D.sl true 1 r.2.2.2)]
abbrev zaT{A:Type}(r:ay×Int×Bool×A)(n:Nat):=Cell.box 70 [GL 3 r.1,jq r.2.1,og r.2.2.1,V.own n 0]
abbrev zaU:=λn a=>sg n a [cB 82 [pL false 1,pI,pI]] (ρ:=Int×ay×Int×Int) λr=>([[D.int .i64 r.1]],[Cell.box 82 [V.d (D.sl false 1 r.2.1),V.d (D.int .i64 r.2.2.1),V.d (D.int .i64 r.2.2.2)]])
abbrev zaV:=λn a=>sg n a [cB 82 [pL false 1,pI,pI]] (ρ:=aC×ay×Int×Int) λr=>([[D.str r.1]],[Cell.box 82 [V.d (D.sl false 1 r.2.1),V.d (D.int .i64 r.2.2.1),V.d (D.int .i64 r.2.2.2)]])
abbrev zaW:=λn a=>sg n a [cB 82 [pL false 1,pI,pI]] (ρ:=ay×ay×Int×Int) λr=>([[D.sl true 5 r.1]],[Cell.box 82 [V.d (D.sl false 1 r.2.1),V.d (D.int .i64 r.2.2.1),V.d (D.int .i64 r.2.2.2)]])
abbrev zaX:=λn a=>sg n a [cB 82 [pL false 1,pI,pI]] (ρ:=Bool×ay×ay×Int×Int) λr=>([[D.sl r.1 5 r.2.1]],[Cell.box 82 [V.d (D.sl false 1 r.2.2.1),V.d (D.int .i64 r.2.2.2.1),V.d (D.int .i64 r.2.2.2.2)]])
abbrev zaY:=λn a=>sg n a [cB 70 [pL false 3,pI,pB,pL true 1]] (ρ:=ay×Int×Bool×ay) λr=>([],[zaS r])
abbrev zaZ:=λn a=>sg n a [cB 70 [pL false 3,pI,pB,pL true 1]] (ρ:=Bool×ay×ay×Int×Bool×ay) λr=>([[D.sl r.1 5 r.2.1]],[zaS r.2.2])
abbrev zba:=λn a=>sg n a [cB 70 [pL false 3,pI,pB,pL true 1]] (ρ:=Bool×ay×Int×Bool×ay) λr=>([[D.bool r.1]],[zaS r.2])
abbrev zbb:=λn a=>sg n a [cB 70 [pL false 3,pI,pB,pL true 1]] (ρ:=Int×Int×aC×aC×Bool×ay×Bool×ay×Int×Bool×ay) λr=>([[D.int .i64 r.1,D.int .i64 r.2.1,D.str r.2.2.1,D.str r.2.2.2.1,D.sl r.2.2.2.2.1 5 r.2.2.2.2.2.1,D.bool r.2.2.2.2.2.2.1]],[zaS r.2.2.2.2.2.2.2])
abbrev zbc:=λn a=>sg n a [cB 70 [pL false 3,pI,pB,pL true 1]] (ρ:=aC×ay×Int×Bool×ay) λr=>([[D.str r.1]],[zaS r.2])
abbrev zbd:=λn a=>sg n a [cB 70 [pL false 3,pI,pB,pL true 1]] (ρ:=Int×Int×aC×aC×Bool×ay×ay×Int×Bool×ay) λr=>([[D.int .i64 r.1,D.int .i64 r.2.1,D.str r.2.2.1,D.str r.2.2.2.1,D.sl r.2.2.2.2.1 5 r.2.2.2.2.2.1]],[zaS r.2.2.2.2.2.2])
abbrev zbe:=[dH 100000 (cB 70 [pL false 3,pI,pB,pO 300003 0]),dH 300000 (cB 103 [pB,pB]),dH 300001 (cB 100 [pI,pI,pS,pS,Xm 5,pB]),dH 300002 (cB 100 [pI,pI,pS,pS,pL false 5,pB]),dH 300003 (cA false true 0 1)]
abbrev zbf:=(cA false true 0 1)
abbrev zbg:=[dH 0 (pP 100000 0),dH 3 (pP 300000 0),dH 4 (pP 300001 0),dH 5 (pP 300002 0)]
abbrev zbh:=[pI,pI,pS,pS,pL false 1]
abbrev zbi:=[pP 100000 0,qL [pB,pB]]
abbrev zbj:=[dH 100000 (cB 82 [pL false 1,pI,pI]),dH 300000 (cA false false 0 1)]
abbrev zbk:=(pOr (IV [dH 0 (pP 100000 0)] [dH 100000 (cB 70 [pL false 3,pI,pB,pO 100001039999 0]),dH 100001039999 zbf]) (IV [dH 0 (pP 100000 0)] [dH 100000 (cB 70 [pL false 3,pI,pB,pO 300000 0]),dH 300000 zbf]))
abbrev zbl:=(cA false false 0 5)
abbrev zbm:=[pI,pB,pB,pB,pB]
abbrev zbn:=[dH 100000 (cB 70 [pL false 3,pI,pB,pO 300002 0]),dH 300000 (cB 73 [pI,pI,pS,pS,Xm 5]),dH 300001 (cB 73 [pI,pI,pS,pS,pO 300003 0]),dH 300002 zbf,dH 300003 zbl]
abbrev zbo:=[dH 100000 (cB 70 [pL false 3,pI,pB,pO 300002 0]),dH 300000 (cB 73 [pI,pI,pS,pS,Xm 5]),dH 300001 (cB 73 [pI,pI,pS,pS,Xm 5]),dH 300002 zbf]
abbrev zbp:=[pP 100000 0,pI]
abbrev zbq:=[dH 0 (pP 100000 0),dH 2 (pP 300000 0),dH 3 (pP 300001 0)]
abbrev zbr:=(cB 70 [pL false 3,pI,pB,pO 300003 0])
abbrev zbs:=[dH 0 (pP 100000 0),dH 3 (pP 300000 0),dH 4 (pP 300001 0),dH 5 (pP 300002 0),dH 6 (Xm 5)]
abbrev zbt:=[pL false 1,pI,pI]
abbrev zbu:=[dH 300000 (cA false false 0 4),dH 300001 (cB 58 [pI,pI,pS,pO 300002 0]),dH 300002 zbf]
abbrev zbv:=[pI,pI,pS,pS,pL false 5]
abbrev zbw:=[dH 1 (pO 300000 0),dH 5 (pP 300001 0),dH 18 (pL false 5),dH 19 pI,dH 20 pI]
abbrev zbx:=[dH 0 (pL false 3),dH 3 (pP 300000 0),dH 5 (pP 300001 0),dH 6 (pP 300002 0)]
abbrev zby:=[dH 300000 zbl,dH 300001 (cB 46 [pI,pI,pS,pS,pO 300002 0]),dH 300002 zbf]
abbrev zbz:=[dH 1 (pL false 1),dH 2 (pP 300000 0),dH 5 (pO 300001 0),dH 6 pI]
abbrev zbA:=[dH 2 (pL false 1),dH 7 (pO 300000 0),dH 8 (pP 300001 0),dH 9 pI]
abbrev zbB{A B C D E F:Type}(f:A->B->C->D->E)(x:A×B×C×D×F):E:=f x.1 x.2.1 x.2.2.1 x.2.2.2.1
def zbD{R P:Type}{k:P->Option R}{n:Nat}{x:Row}{f:Int->Int->aC->aC->ay->Option R}{g:Int->Int->aC->aC->ay->Option P}(h:∀a b c d e,f a b c d e=(g a b c d e).bind k):Oh n x f=(Oh n x g).bind k:=by unfold Oh;repeat' first|(with_reducible first|apply dO|apply Bg|apply Bh|apply Bj|apply Bl)|intro _|apply h
theorem zbC{P:Prop}(h:P:=by repeat' first|(with_reducible first|apply dO|apply Bg|apply Bh|apply Bj|apply Bl|apply zbD)|intro _|apply dO|rfl):P:=h
abbrev S.UN:=ra 4 [pL false 1]
abbrev S.IW:fD:=sg 21 [pL false 1] [] (ρ:=ay×Int×Int) λr=>([[D.sl false 1 r.1,D.int .i64 r.2.1,D.int .i64 r.2.2]],[])
abbrev S.qB:=zaU 75 [pP 100000 0]
abbrev S.aX:=zaU 43 zbp
abbrev S.jh:fD:=sg 40 zbp [cB 82 zbt] (ρ:=Bool×ay×Int×Int) λr=>([[D.bool r.1]],[Cell.box 82 [V.d (D.sl false 1 r.2.1),V.d (D.int .i64 r.2.2.1),V.d (D.int .i64 r.2.2.2)]])
abbrev S.iI:=zaV 72 [pP 100000 0,pL false 1]
abbrev S.IX:=zaV 159 [pP 100000 0]
abbrev S.IY:=zaV 160 [pP 100000 0]
abbrev S.IZ:=zaV 161 [pP 100000 0]
abbrev S.jJ:=zaV 121 [pP 100000 0]
abbrev S.BO:=zaW 118 [pP 100000 0]
abbrev S.zu:=rb 162 [pL false 5,pI]
abbrev S.bT:=rb 120 [qL zbh,pL false 1]
abbrev S.WC:=zaW 119 zbp
abbrev S.oP:fD:=sg 122 [pP 100000 0,pI,pI,pI] [cB 82 zbt] (ρ:=ay×ay×Int×Int) λr=>([[D.sl true 1 r.1]],[Cell.box 82 [V.d (D.sl false 1 r.2.1),V.d (D.int .i64 r.2.2.1),V.d (D.int .i64 r.2.2.2)]])
abbrev S.iC:=zaU 44 [pP 100000 0,pL false 1]
abbrev S.BP:=zaU 123 [pP 100000 0]
abbrev S.eP:=zaW 74 zbp
abbrev S.xA:=zaW 42 [pP 100000 0]
abbrev S.wO:=zaW 155 zbp
abbrev S.lW:=zaW 156 zbp
abbrev S.wP:=zaW 157 zbp
abbrev S.su:=zaW 116 zbp
abbrev S.Fq:=zaW 158 [pP 100000 0]
abbrev S.xB:=zaW 117 [pP 100000 0]
abbrev S.yI:=zaW 71 [pP 100000 0]
abbrev S.Fv:=zaX 73 [pP 100000 0]
abbrev S.zK:=zaX 41 [pP 100000 0]
abbrev S.BQ:=zaX 22 [pP 100000 0]
abbrev S.I4:fD:=sg 23 [pP 100000 0] [cB 82 zbt] (ρ:=Int×Bool×Bool×Bool×Bool×ay×Int×Int) λr=>([[D.int .i64 r.1,D.bool r.2.1,D.bool r.2.2.1,D.bool r.2.2.2.1,D.bool r.2.2.2.2.1]],[Cell.box 82 [V.d (D.sl false 1 r.2.2.2.2.2.1),V.d (D.int .i64 r.2.2.2.2.2.2.1),V.d (D.int .i64 r.2.2.2.2.2.2.2)]])
abbrev S.vX:=rc 13 [pL false 1]
abbrev S.qC:=rc 5 [pL false 1]
abbrev S.oQ:=re 7 []
abbrev S.dI:=ra 28 [pI,pI,pI]
abbrev S.DJ:=rf 29 [pL false 5]
abbrev S.wQ:=ra 16 [pL false 5]
abbrev S.wR:=rg 8 [pL false 5]
abbrev S.dZ:=rh 66 [qL zbh]
abbrev S.BR:=ra 111 [pI]
abbrev S.uZ:=ra 112 [pI]
abbrev S.fV:=ra 67 [qL zbh]
abbrev S.tu:=ra 163 [pI]
abbrev S.wS:=ra 164 [pI]
abbrev S.kV:=ra 128 [pI]
abbrev S.xC:=ra 148 [pS]
abbrev S.zx:=rj 125 []
abbrev S.zL:=rg 153 [pL false 1,pS]
abbrev S.xE:=rg 149 [pS]
abbrev S.yJ:=rj 154 []
abbrev S.nK:=ra 115 [pS]
abbrev S.lN:=ra 113 [pS]
abbrev S.wU:=ra 76 [pS]
abbrev S.jK:=rg 182 [pS,pI]
abbrev S.fC:=rg 181 [pS,pI]
abbrev S.Fz:=rg 150 [pS,pI]
abbrev S.tC:=rg 183 [pS,pI,pI]
abbrev S.FC:=rg 151 [pS,pI]
abbrev S.FD:=rg 152 [pS,pI]
abbrev S.zy:=rj 126 []
abbrev S.kH:=rk 80 [pI]
abbrev S.pW:=ra 114 [qL [pI,pS,pI]]
abbrev S.dW:=ra 68 [qL zbh]
abbrev S.bJ:=ra 38 [qL zbh]
abbrev S.tH:=ra 69 [pI]
abbrev S.kJ:=ra 47 [pI]
abbrev S.FH:=ra 70 [pI]
abbrev S.dN:=ra 39 [qL zbh,pI,pI]
abbrev S.zM:=ra 20 [pL false 5]
abbrev S.I5:=ra 25 [pL false 5]
abbrev S.vY:=ra 26 [qL zbm]
abbrev S.tZ:=rg 124 [pI]
abbrev S.lX:=rg 77 [qL zbh]
abbrev S.Ho:=ra 48 [qL zbh,qL zbm]
abbrev S.cZ:=rl 78 [qL zbh]
abbrev S.eX:=rm 51 [pS]
abbrev S.wV:=rm 131 []
abbrev S.tJ:=rm 88 [pL false 4,pI]
abbrev S.eY:=rm 50 [pI,pI,pL false 1]
abbrev S.TK:=rm 86 [qL [pL false 5,pB],pL false 1,qL zbm]
abbrev S.WE:=rm 79 [qL [pL false 5,pB],qL zbh,pS,pS]
abbrev S.UO:=rm 81 [qL [pL false 5,pB],pI]
abbrev S.zA:=rh 127 [pI]
abbrev S.fQ:=re 82 [qL zbh,pI,qL zbm]
abbrev S.fU:=rl 84 [pI]
abbrev S.TM:=rn 167 [qL [pL false 5,pB],pL false 1]
abbrev S.WG:=rn 165 [qL [pL false 5,pB],qL [pI,pS,pI],pL false 1,pI]
abbrev S.UQ:=rn 166 [qL [pL false 5,pB],pI]
abbrev S.WH:=rn 168 [qL [pL false 5,pB],qL zbh,qL zbm]
abbrev S.TN:=rn 130 [qL [pL false 5,pB],pI,qL zbm]
abbrev S.uf:=rn 85 [qL [pL false 5,pB],pI,qL zbm]
abbrev S.Jz:=rh 129 [pS,pI]
abbrev S.wW:=ra 83 [qL [pI,pS,pI],qL [pI,pS,pI]]
abbrev S.ZV:=rm 87 [qL [pL false 5,pB],qL zbh,qL zbm]
abbrev S.TQ:=rm 49 [qL [pL false 5,pB],pI,qL zbm]
abbrev S.qo:=rm 27 [qL [pL false 5,pB],pI,qL zbm]
abbrev S.FW:=rm 15 [pL false 5,qL zbm]
abbrev S.BU:=ra 45 [qL [pI,pI,pS,pL false 1]]
abbrev S.xF:=rf 46 [pL false 4]
abbrev S.I7:=ra 24 [pL false 4]
abbrev S.tN:fD:=sg 14 [pL false 4] [] (ρ:=aC×Bool) λr=>([[D.str r.1],[D.bool r.2]],[])
abbrev S.zN:=rk 6 [pL false 5,qL zbm]
abbrev S.VP:=rg 9 [pL false 1,pI]
abbrev S.BX:=ra 52 [pI]
abbrev S.jy:=ra 89 [pI,pI,pI]
abbrev S.iJ:=rg 53 [pS,pI]
abbrev S.strings_IndexByte:=rg 90 [pS,pK IntKind.u8]
abbrev S.ru:=ra 91 [pI]
abbrev S.jd:=rg 133 [pS,pI]
abbrev S.xG:=rg 92 [pS,pI]
abbrev S.qP:=rg 134 [pS,pI,pI]
abbrev S.zO:=rg 93 [pS,pI]
abbrev S.iU:=ra 94 [pI]
abbrev S.zQ:=rg 95 [pS,pI]
abbrev S.lD:=ra 96 [pI]
abbrev S.nM:=ra 135 [pI]
abbrev S.zB:=rg 97 [pS,pI]
abbrev S.oU:=ra 98 [pS]
abbrev S.slices_Index:=rg 170 [pL false 1,pS]
abbrev S.oV:=rg 136 [pS]
abbrev S.slices_Contains:=ra 171 [pL false 1,pS]
abbrev S.nN:=ra 137 [pS]
abbrev S.ug:=rl 99 [pS,pI,pI]
abbrev S.jk:=ra 172 [pS,pS]
abbrev S.strings_HasPrefix:=ra 138 [pS,pS]
abbrev S.JA:=rh 100 [pS,pI]
abbrev S.zC:=rl 54 [pS,pI,pI]
abbrev S.FX:=rp 30 [pS,pI,pI]
abbrev S.RU:=rp 17 [pS]
abbrev S.strings_Contains:=ra 139 [pS,pS]
abbrev S.BZ:=ra 140 [pS]
abbrev S.rF:=ra 174 [pI]
abbrev S.yK:=ra 175 [pI]
abbrev S.Cb:=rk 141 [pI]
abbrev S.zD:=ra 101 [qL [pI,pS,pI]]
abbrev S.zS:=ra 55 [pL false 3]
abbrev S.yL:=ra 102 [pI]
abbrev S.yM:=ra 103 [pI]
abbrev S.FI:=rg 56 [pL false 3]
abbrev S.uh:=rg 35 [pL false 3,pI]
abbrev S.zF:=rq 31 [pL false 3]
abbrev S.aA:fD:=sg 58 [pP 100000 0] [cB 70 [pL false 3,pI,pB,pL true 1]] (ρ:=Int×ay×Int×Bool×ay) λr=>([[D.int .i64 r.1]],[zaS r.2])
abbrev S.aK:=zaY 57 [pP 100000 0]
abbrev S.bG:=zaY 32 [pP 100000 0]
abbrev S.dL:=zaZ 33 [pP 100000 0]
abbrev S.aI:=zba 104 zbp
abbrev S.lQ:=zba 206 [pP 100000 0]
abbrev S.iK:=zaZ 186 zbi
abbrev S.iV:=zaZ 177 zbp
abbrev S.jl:=zbb 193 [pP 100000 0]
abbrev S.eU:=zbc 106 [pP 100000 0]
abbrev S.aY:=zbc 107 [pP 100000 0]
abbrev S.qE:=ra 202 [pI]
abbrev S.Cc:=zbb 210 [pP 100000 0]
abbrev S.kN:=zbb 205 [pP 100000 0]
abbrev S.ji:=zbb 204 [pP 100000 0]
abbrev S.MO:=zbb 209 [pP 100000 0]
abbrev S.kG:=zbb 203 [pP 100000 0]
abbrev S.nT:=zbb 201 [pP 100000 0]
abbrev S.lK:fD:=sg 180 [pI,qL [pI,pI,pS,pS,pL false 5,pB],qL [pI,pI,pS,pS,pL false 5,pB]] [] (ρ:=Int×Int×aC×aC×Bool×ay×Bool) λr=>([[D.int .i64 r.1,D.int .i64 r.2.1,D.str r.2.2.1,D.str r.2.2.2.1,D.sl r.2.2.2.2.1 5 r.2.2.2.2.2.1,D.bool r.2.2.2.2.2.2]],[])
abbrev S.pG:=zbb 200 zbi
abbrev S.jC:=zbb 199 zbi
abbrev S.oC:=rg 208 [pI]
abbrev S.nO:=zbb 198 zbi
abbrev S.jG:=zbb 197 zbi
abbrev S.lF:=ra 192 [pI]
abbrev S.pJ:=zbb 196 zbi
abbrev S.kP:=zbb 195 zbi
abbrev S.lq:=zbb 194 zbi
abbrev S.oW:=zbb 188 zbi
abbrev S.nP:=zbb 179 zbi
abbrev S.qQ:=zbb 147 zbi
abbrev S.mJ:=zbb 108 zbi
abbrev S.zT:=ra 109 [pI]
abbrev S.bD:=zbb 61 zbi
abbrev S.gU:=zbd 144 [pP 100000 0]
abbrev S.ED:=zbd 145 [pP 100000 0]
abbrev S.MP:=zbd 143 [pP 100000 0]
abbrev S.kQ:=ra 110 [pI]
abbrev S.iW:=zaY 62 [pP 100000 0]
abbrev S.eu:=zbd 178 [pP 100000 0,pI,qL [pB,pB]]
abbrev S.Qo:=zbd 146 [pP 100000 0]
abbrev S.DK:=ra 185 [pI]
abbrev S.jZ:=zbb 187 [pP 100000 0,qL zbm]
abbrev S.mZ:=zbd 176 zbp
abbrev S.lG:=zbd 142 [pP 100000 0]
abbrev S.vJ:=zbd 105 [pP 100000 0]
abbrev S.bQ:=zbd 59 [pP 100000 0]
abbrev S.ni:=zbd 60 [pP 100000 0]
abbrev S.kW:=zbd 34 [pP 100000 0]
abbrev S.nR:=rg 63 [qL zbv]
abbrev S.mD:=rg 64 [qL zbv]
abbrev S.uj:=rq 36 [qL zbv]
abbrev S.pR:=rb 65 [qL zbv,pL true 5]
abbrev S.oZ:=rb 37 [qL zbv]
abbrev S.nU:=rr 18 [pL false 3]
abbrev S.Ag:=rr 10 [pS]
abbrev S.FK:=ra 19 [pL false 1,pL false 1]
abbrev S.wX:=ra 11 [pL false 5,pL false 5]
abbrev S.xH:=ra 12 [pL false 5]
abbrev S.DN:=ra 3 [pL false 1]
abbrev M.Yl(code:ay)(k:Bool->Option R):=k (decide ((↑code.length:Int)>1048576))
def M.UN code:=M.Yl code some
def C.UN:=fTa S.UN (λx=>M.Yl x.1.1)
def M.BF(code:ay)(s:Int×Int)(kn:Int×Int->Option R)(ke:Int×Int->Option R):Option R:=match s with
 |(h',i)=>bif decide (i<(↑code.length:Int)) then(bif decide (i<4000) then((idx code i).bind λa=>(jR IntKind.u8 a 0).bind λb=>kn (i64.wrap (↑(BitVec.ofInt 64 (i64.wrap (i64.wrap (i64.wrap (h' * 131)+i64.wrap b)+7)) &&& BitVec.ofInt 64 1073741823).toNat:Int),i64.wrap (i+1))) else ke (h',i)) else ke (h',i)
def M.GX code s:=M.BF code s (λs=>some (Sum.inl s)) λt=>some (Sum.inr t)
def M.QI code s:=fJ (M.GX code) s
def F.QI:LE X0 21:=le 3 (IV [dH 0 (pL false 1),dH 3 pI,dH 4 pI] []) (λx=>(x.1.2.1,x.1.2.2.1)) (λx s=>((x.1.1,s.1,s.2,()),())) (λx=> .leaf (Int×Int) (λt=>(Ex.exit 0,⟨[(0,GL 1 x.1.1),(3,jq t.1),(4,jq t.2),(15,og false)],[]⟩))) (λx=>M.BF x.1.1) [] [] (by rintro _ _ ⟨_,_⟩ _ _<;>simp only[M.BF,nb]<;>rfl)
abbrev M.TR(code:ay)(k:ay×Int×Int->Option R):=(M.QI code (i64.wrap (10101+(↑code.length:Int)),0)).bind λa=>k (code,0,a.1)
def M.IW code:=M.TR code some
def C.IW:=fTa S.IW (λx=>M.TR x.1.1) [] [F.QI]
abbrev M.QJ(c:ay)(c1 c2:Int)(k:Int×ay×Int×Int->Option R):=cond (decide (c1<(↑c.length:Int))) ((idx c c1).bind λa=>(jR IntKind.u8 a 0).bind λb=>k (i64.wrap (↑(BitVec.ofInt 64 (i64.wrap (i64.wrap (↑(BitVec.ofInt 64 (i64.wrap (↑(BitVec.ofInt 64 ((i64.wrap (i64.wrap (c2 * 6364136223846793005)+1442695040888963407)).fdiv 8589934592) ^^^ BitVec.ofInt 64 ((i64.wrap (i64.wrap (c2 * 6364136223846793005)+1442695040888963407)).fdiv 35184372088832)).toNat:Int)) &&& BitVec.ofInt 64 255).toNat:Int)+i64.wrap b)) &&& BitVec.ofInt 64 255).toNat:Int),c,i64.wrap (c1+1),i64.wrap (i64.wrap (c2 * 6364136223846793005)+1442695040888963407))) (k (i64.wrap (↑(BitVec.ofInt 64 (i64.wrap (↑(BitVec.ofInt 64 ((i64.wrap (i64.wrap (c2 * 6364136223846793005)+1442695040888963407)).fdiv 8589934592) ^^^ BitVec.ofInt 64 ((i64.wrap (i64.wrap (c2 * 6364136223846793005)+1442695040888963407)).fdiv 35184372088832)).toNat:Int)) &&& BitVec.ofInt 64 255).toNat:Int),c,c1,i64.wrap (i64.wrap (c2 * 6364136223846793005)+1442695040888963407)))
def M.qB c c1 c2:=M.QJ c c1 c2 some
def C.qB:=fTa S.qB (λx=>M.QJ x.2.1.1 x.2.1.2.1 x.2.1.2.2.1)
abbrev M.EF(n':Int)(c:ay)(c1 c2:Int)(k:Int×ay×Int×Int->Option R):=cond (decide (n'<=0)) (k (0,c,c1,c2)) (cond (decide (n'<=256)) ((M.qB c c1 c2).bind λd=>cond (!decide (n'=0)) (k (d.1.tmod n',d.2.1,d.2.2.1,d.2.2.2)) none) ((M.qB c c1 c2).bind λe=>(M.qB e.2.1 e.2.2.1 e.2.2.2).bind λf=>(M.qB f.2.1 f.2.2.1 f.2.2.2).bind λb=>(M.qB b.2.1 b.2.2.1 b.2.2.2).bind λa=>cond (!decide (n'=0)) (k ((i64.wrap (i64.wrap (i64.wrap (i64.wrap (e.1 * 16777216)+i64.wrap (f.1 * 65536))+i64.wrap (b.1 * 256))+a.1)).tmod n',a.2.1,a.2.2.1,a.2.2.2)) none))
def M.aX n' c c1 c2:=M.EF n' c c1 c2 some
def C.aX:=fTa S.aX (λx=>M.EF x.1.2.1 x.2.1.1 x.2.1.2.1 x.2.1.2.2.1) [fe C.qB]
abbrev M.QK(n':Int)(c:ay)(c1 c2:Int)(k:Bool×ay×Int×Int->Option R):=(M.aX n' c c1 c2).bind λa=>k (a.1==0,a.2.1,a.2.2.1,a.2.2.2)
def M.jh n' c c1 c2:=M.QK n' c c1 c2 some
def C.jh:=fTa S.jh (λx=>M.QK x.1.2.1 x.2.1.1 x.2.1.2.1 x.2.1.2.2.1) [fe C.aX]
abbrev M.QL(list c:ay)(c1 c2:Int)(k:aC×ay×Int×Int->Option R):=(M.aX ((↑list.length:Int)) c c1 c2).bind λa=>(idx list a.1).bind λd=>(cStr d 0).bind λb=>k (b,a.2.1,a.2.2.1,a.2.2.2)
def M.iI list c c1 c2:=M.QL list c c1 c2 some
def C.iI:=fTa S.iI (λx=>M.QL x.1.2.1 x.2.1.1 x.2.1.2.1 x.2.1.2.2.1) [fe C.aX]
abbrev M.TS(c:ay)(c1 c2:Int)(k:aC×ay×Int×Int->Option R):=(M.iI ([[D.str [48]],[D.str [49]],[D.str [52,50]],[D.str [51,46,53]],[D.str [46,53]],[D.str [55,46]],[D.str [49,101,51]],[D.str [50,69,45,52]],[D.str [49,48,46,50,53,101,43,49]]]) c c1 c2).bind λa=>k (a.1,a.2.1,a.2.2.1,a.2.2.2)
def M.IX c c1 c2:=M.TS c c1 c2 some
def C.IX:=fTa S.IX (λx=>M.TS x.2.1.1 x.2.1.2.1 x.2.1.2.2.1) [fe C.iI]
abbrev M.TU(c:ay)(c1 c2:Int)(k:aC×ay×Int×Int->Option R):=(M.iI ([[D.str [34,34]],[D.str [34,97,34]],[D.str [34,120,32,121,34]],[D.str [34,113,92,34,113,34]],[D.str [34,92,110,34]],[D.str [34,35,110,111,34]],[D.str [34,47,34]]]) c c1 c2).bind λa=>k (a.1,a.2.1,a.2.2.1,a.2.2.2)
def M.IY c c1 c2:=M.TU c c1 c2 some
def C.IY:=fTa S.IY (λx=>M.TU x.2.1.1 x.2.1.2.1 x.2.1.2.2.1) [fe C.iI]
abbrev M.TV(c:ay)(c1 c2:Int)(k:aC×ay×Int×Int->Option R):=(M.iI ([[D.str [47,97,47]],[D.str [47,94,120,43,36,47]],[D.str [47,97,92,47,98,47]],[D.str [47,61,47]],[D.str [47,32,47]],[D.str [47,91,48,45,57,93,47]]]) c c1 c2).bind λa=>k (a.1,a.2.1,a.2.2.1,a.2.2.2)
def M.IZ c c1 c2:=M.TV c c1 c2 some
def C.IZ:=fTa S.IZ (λx=>M.TV x.2.1.1 x.2.1.2.1 x.2.1.2.2.1) [fe C.iI]
abbrev M.QM(c:ay)(c1 c2:Int)(k:aC×ay×Int×Int->Option R):=(M.iI ([[D.str [120]],[D.str [121]],[D.str [110]],[D.str [105]],[D.str [97,114,114]],[D.str [78,82]],[D.str [70,83]],[D.str [116,111,116,97,108]],[D.str [97,49]],[D.str [95,116]],[D.str [99,111,117,110,116]]]) c c1 c2).bind λa=>k (a.1,a.2.1,a.2.2.1,a.2.2.2)
def M.jJ c c1 c2:=M.QM c c1 c2 some
def C.jJ:=fTa S.jJ (λx=>M.QM x.2.1.1 x.2.1.2.1 x.2.1.2.2.1) [fe C.iI]
abbrev M.QN(c:ay)(c1 c2:Int)(k:ay×ay×Int×Int->Option R):=(M.aX 7 c c1 c2).bind λa=>cond (a.1==0) ((M.IX a.2.1 a.2.2.1 a.2.2.2).bind λe=>k ([[D.int .i64 2,D.int .i64 0,D.str e.1,D.str [],D.sl true 1 []]],e.2.1,e.2.2.1,e.2.2.2)) (cond (a.1==1) ((M.IY a.2.1 a.2.2.1 a.2.2.2).bind λg=>k ([[D.int .i64 3,D.int .i64 0,D.str g.1,D.str [],D.sl true 1 []]],g.2.1,g.2.2.1,g.2.2.2)) (cond (a.1==2) ((M.jh 2 a.2.1 a.2.2.1 a.2.2.2).bind λb=>cond b.1 ((M.IZ b.2.1 b.2.2.1 b.2.2.2).bind λh=>k ([[D.int .i64 4,D.int .i64 0,D.str h.1,D.str [],D.sl true 1 []]],h.2.1,h.2.2.1,h.2.2.2)) ((M.jJ b.2.1 b.2.2.1 b.2.2.2).bind λd=>k ([[D.int .i64 1,D.int .i64 0,D.str d.1,D.str [],D.sl true 1 []]],d.2.1,d.2.2.1,d.2.2.2))) ((M.jJ a.2.1 a.2.2.1 a.2.2.2).bind λf=>k ([[D.int .i64 1,D.int .i64 0,D.str f.1,D.str [],D.sl true 1 []]],f.2.1,f.2.2.1,f.2.2.2))))
def M.BO c c1 c2:=M.QN c c1 c2 some
def C.BO:=fTa S.BO (λx=>M.QN x.2.1.1 x.2.1.2.1 x.2.1.2.2.1) [fe C.aX,fe C.IX,fe C.IY,fe C.jh,fe C.IZ,fe C.jJ]
def M.Ce(l:ay)(by' i:Int)(x':ay)(qY uV:Int)(x8 Ae:aC)(s:Int×ay)(kn:Int×ay->Option R)(ke:Int×ay->Option R):Option R:=match s with
 |(k',Fg)=>(idx l i).bind λb=>(cSl 1 b 4).bind λd=>bif decide (k'<(↑d.length:Int)) then((idx l i).bind λa=>(cSl 1 a 4).bind λf=>(idx f k').bind λe=>(jR .i64 e 0).bind λc=>nI Fg [[D.int .i64 (i64.wrap (c+by'))]] 8 λg=>kn (i64.wrap (k'+1),g)) else ke (k',Fg)
def M.Hz l by' i x' qY uV x8 Ae s:=M.Ce l by' i x' qY uV x8 Ae s (λs=>some (Sum.inl s)) λt=>some (Sum.inr t)
def M.Lj l by' i x' qY uV x8 Ae s:=fJ (M.Hz l by' i x' qY uV x8 Ae) s
def F.Lj:LE X0 162:=le 8 (IV [dH 0 (pL false 5),dH 1 pI,dH 5 (pO 300000 0),dH 6 pI,dH 7 (pP 300001 0),dH 8 pI] zby) (λx=>(x.1.va.2.2.1,x.va.1)) (λx s=>((x.1.1,x.1.2.1,(),x.1.va.1,(),s.1,()),(x.2.1,(x.2.2.1.1,x.2.2.1.2.1,x.2.2.1.2.2.1,x.2.2.1.va.1,(),()),s.2,()))) (λx=> .leaf (Int×ay) (λt=>(Ex.exit 2,⟨[(0,GL 5 x.1.1),(1,jq x.1.2.1),(5,V.own 300000 0),(6,jq x.1.va.1),(7,V.ptr 300001 0),(8,jq t.1),(29,og false)],[(300000,Cell.arr false false 0 5 x.2.1),(300001,Cell.box 46 [jq x.2.2.1.1,jq x.2.2.1.2.1,sS x.2.2.1.2.2.1,sS x.2.2.1.va.1,V.own 300002 0]),(300002,Cell.arr false true 0 1 t.2)]⟩))) (λx=>zbB (M.Ce x.1.1 x.1.2.1 x.1.va.1 x.2.1) x.2.2.1) [] [] (by rintro _ _ ⟨_,_⟩ _ _<;>simp only[zbB,nI,M.Ce,nb]<;>rfl)
def M.Ci(l:ay)(by':Int)(s:Int×ay)(kn:Int×ay->Option R)(ke:Int×ay->Option R):Option R:=match s with
 |(i,x')=>bif decide (i<(↑l.length:Int)) then((idx l i).bind λa=>Oh 1 a λn40 n41 s42 s43 _=>((M.Lj l by' i x' n40 n41 s42 s43 (0,[])).bind λb=>bif aj b.2 then(nI x' [[D.int .i64 n40,D.int .i64 n41,D.str s42,D.str s43,D.sl true 1 b.2]] 72 λc=>kn (i64.wrap (i+1),c)) else none)) else ke (i,x')
def M.HY l by' s:=M.Ci l by' s (λs=>some (Sum.inl s)) λt=>some (Sum.inr t)
def M.Ll l by' s:=fJ (M.HY l by') s
def F.Ll:LE X0 162:=le 3 (IV [dH 0 (pL false 5),dH 1 pI,dH 5 (pO 300000 0),dH 6 pI] [dH 300000 zbl]) (λx=>(x.1.va.1,x.2.1)) (λx s=>((x.1.1,x.1.2.1,(),s.1,()),(s.2,()))) (λx=> .leaf (Int×ay) (λt=>(Ex.exit 0,⟨[(0,GL 5 x.1.1),(1,jq x.1.2.1),(5,V.own 300000 0),(6,jq t.1),(13,og false)],[(300000,Cell.arr false false 0 5 t.2)]⟩))) (λx=>M.Ci x.1.1 x.1.2.1) [] [F.Lj] (by rintro _ _ ⟨_,_⟩ _ _<;>simp only[nI,Oh,M.Ci,nb]<;>rfl)
abbrev M.Oi(l:ay)(by':Int)(k:ay->Option R):=(M.Ll l by' (0,[])).bind λa=>k a.2
def M.zu l by':=M.Oi l by' some
def C.zu:=fTa S.zu (λx=>M.Oi x.1.1 x.1.2.1) [] [F.Ll]
def M.EH(parts:ay)(x' qY:Int)(uV x8:aC)(s:Int×ay×ay)(kn:Int×ay×ay->Option R)(ke:Int×ay×ay->Option R):Option R:=match s with
 |(k',Ae,Fg)=>bif decide (k'<(↑parts.length:Int)) then((idx parts k').bind λc=>(cSl 5 c 0).bind λb=>(M.zu b ((↑Ae.length:Int))).bind λa=>nI Ae a 72 λd=>nI Fg [[D.int .i64 (i64.wrap ((↑d.length:Int) - 1))]] 8 λe=>kn (i64.wrap (k'+1),d,e)) else ke (k',Ae,Fg)
def M.JB parts x' qY uV x8 s:=M.EH parts x' qY uV x8 s (λs=>some (Sum.inl s)) λt=>some (Sum.inr t)
def M.Oj parts x' qY uV x8 s:=fJ (M.JB parts x' qY uV x8) s
def F.Oj:LE X0 120:=le 4 (IV zbz [dH 300000 (cB 46 [pI,pI,pS,pS,pO 300002 0]),dH 300001 zbl,dH 300002 zbf]) (λx=>(x.1.va.1,x.2.2.1,x.va.1)) (λx s=>((x.1.1,(),(),s.1,()),((x.2.1.1,x.2.1.2.1,x.2.1.2.2.1,x.2.1.va.1,(),()),s.2.1,s.2.2,()))) (λx=> .leaf (Int×ay×ay) (λt=>(Ex.exit 0,⟨[(1,GL 1 x.1.1),(2,V.ptr 300000 0),(5,V.own 300001 0),(6,jq t.1),(13,og false)],[(300000,Cell.box 46 [jq x.2.1.1,jq x.2.1.2.1,sS x.2.1.2.2.1,sS x.2.1.va.1,V.own 300002 0]),(300001,Cell.arr false false 0 5 t.2.1),(300002,Cell.arr false true 0 1 t.2.2)]⟩))) (λx=>zbB (M.EH x.1.1) x.2.1) [fe C.zu] [] (by rintro _ _ ⟨_,_,_⟩ _ _<;>simp only[zbB,nI,M.EH,nb]<;>rfl)
abbrev M.QO(n' qZ:Int)(yN yj:aC)(zU parts:ay)(k:ay->Option R):=(M.Oj parts n' qZ yN yj (0,[],[])).bind λa=>cond (aj a.2.2) (nI a.2.1 [[D.int .i64 n',D.int .i64 qZ,D.str yN,D.str yj,D.sl true 1 a.2.2]] 72 λb=>k b) none
def M.bT n' qZ yN yj zU parts:=M.QO n' qZ yN yj zU parts some
def C.bT:=fTa S.bT (λx=>M.QO x.1.1.1 x.1.1.2.1 x.1.1.2.2.1 x.1.1.va.1 x.1.1.va.2.1 x.1.2.1) [] [F.Oj]
def M.BG(bI:zae)(deep:Int)(c:ay)(c1 c2:Int)(k:ay×ay×Int×Int->Option R):=(M.aX 4 c c1 c2).bind λa=>cond (a.1==0) ((M.jJ a.2.1 a.2.2.1 a.2.2.2).bind λb=>(bI (i64.wrap (deep - 1)) b.2.1 b.2.2.1 b.2.2.2).bind λf=>(M.bT 5 0 b.1 [] [] (aB [[D.sl true 5 f.1]])).bind λg=>cond ([[D.sl true 5 g]].all dw) (k (g,f.2.1,f.2.2.1,f.2.2.2)) none) (cond (a.1==1) ((bI (i64.wrap (deep - 2)) a.2.1 a.2.2.1 a.2.2.2).bind λd=>(M.bT 6 0 [] [] [] (aB [[D.sl true 5 d.1]])).bind λh=>cond ([[D.sl true 5 h]].all dw) (k (h,d.2.1,d.2.2.1,d.2.2.2)) none) ((M.jJ a.2.1 a.2.2.1 a.2.2.2).bind λe=>k ([[D.int .i64 1,D.int .i64 0,D.str e.1,D.str [],D.sl true 1 []]],e.2.1,e.2.2.1,e.2.2.2)))
def C.agC{bI:zae}(DT:S.eP.ok X0 λx=>bI x.1.2.1 x.2.1.1 x.2.1.2.1 x.2.1.2.2.1):S.WC.ok X0 λx=>M.BG bI x.1.2.1 x.2.1.1 x.2.1.2.1 x.2.1.2.2.1 some:=fnS (λx=>M.BG bI x.1.2.1 x.2.1.1 x.2.1.2.1 x.2.1.2.2.1) [fe C.aX,fe C.jJ,fe DT,fe C.bT] [] (by intros;simp only[M.BG,nb]<;>rfl)
def M.JC(bI:zae)(deep:Int)(s:Int×ay×Int×Int×ay)(kn:Int×ay×Int×Int×ay->Option R)(ke:Int×ay×Int×Int×ay->Option R):Option R:=match s with
 |(n',v,v1,v2,x')=>bif decide (n'>0) then((bI deep v v1 v2).bind λa=>nI x' [[D.sl true 5 a.1]] 24 λb=>kn (i64.wrap (n' - 1),a.2.1,a.2.2.1,a.2.2.2,b)) else ke (n',v,v1,v2,x')
def M.Qp bI deep s:=M.JC bI deep s (λs=>some (Sum.inl s)) λt=>some (Sum.inr t)
def M.Ol bI deep s:=fJ (M.Qp bI deep) s
def F.Ol{bI:zae}(DT:S.eP.ok X0 λx=>bI x.1.2.1 x.2.1.1 x.2.1.2.1 x.2.1.2.2.1):LE X0 122:=le 3 (IV [dH 0 (pP 100000 0),dH 3 pI,dH 9 (pO 300000 0),dH 10 pI] zbj) (λx=>(x.1.va.1,x.2.1.1,x.2.1.2.1,x.2.1.2.2.1,x.2.2.1)) (λx s=>(((),x.1.2.1,(),s.1,()),((s.2.1,s.2.2.1,s.va.1,()),s.va.2,()))) (λx=> .leaf zax (λt=>(Ex.exit 0,⟨[(0,V.ptr 100000 0),(3,jq x.1.2.1),(9,V.own 300000 0),(10,jq t.1),(21,og false)],[(100000,Cell.box 82 [GL 1 t.2.1,jq t.2.2.1,jq t.va.1]),(300000,Cell.arr false false 0 1 t.va.2)]⟩))) (λx=>M.JC bI x.1.2.1) [fe DT] [] (by rintro _ _ ⟨_,_,_,_,_⟩ _ _<;>simp only[nI,M.JC,nb]<;>rfl)
def M.Hq(bI:zae)(least most deep:Int)(c:ay)(c1 c2:Int)(k:ay×ay×Int×Int->Option R):=(M.aX (i64.wrap (i64.wrap (most - least)+1)) c c1 c2).bind λb=>(M.Ol bI deep (i64.wrap (least+b.1),b.2.1,b.2.2.1,b.2.2.2,[])).bind λa=>k (a.2.2.2.2,a.2.1,a.2.2.1,a.2.2.2.1)
def C.akf{bI:zae}(DT:S.eP.ok X0 λx=>bI x.1.2.1 x.2.1.1 x.2.1.2.1 x.2.1.2.2.1):S.oP.ok X0 λx=>M.Hq bI x.1.2.1 x.1.2.2.1 x.1.va.1 x.2.1.1 x.2.1.2.1 x.2.1.2.2.1 some:=fnS (λx=>M.Hq bI x.1.2.1 x.1.2.2.1 x.1.va.1 x.2.1.1 x.2.1.2.1 x.2.1.2.2.1) [fe C.aX] [F.Ol DT] (by intros;simp only[M.Hq,nb]<;>rfl)
abbrev M.JD(list c:ay)(c1 c2:Int)(k:Int×ay×Int×Int->Option R):=(M.aX ((↑list.length:Int)) c c1 c2).bind λa=>(idx list a.1).bind λd=>(jR .i64 d 0).bind λb=>k (b,a.2.1,a.2.2.1,a.2.2.2)
def M.iC list c c1 c2:=M.JD list c c1 c2 some
def C.iC:=fTa S.iC (λx=>M.JD x.1.2.1 x.2.1.1 x.2.1.2.1 x.2.1.2.2.1) [fe C.aX]
abbrev M.Om(c:ay)(c1 c2:Int)(k:Int×ay×Int×Int->Option R):=(M.iC ([[D.int .i64 60],[D.int .i64 57],[D.int .i64 58],[D.int .i64 59],[D.int .i64 55],[D.int .i64 56],[D.int .i64 56],[D.int .i64 99],[D.int .i64 99],[D.int .i64 99],[D.int .i64 63],[D.int .i64 48],[D.int .i64 47],[D.int .i64 50],[D.int .i64 62],[D.int .i64 62],[D.int .i64 49],[D.int .i64 67],[D.int .i64 46],[D.int .i64 45],[D.int .i64 44]]) c c1 c2).bind λa=>k (a.1,a.2.1,a.2.2.1,a.2.2.2)
def M.BP c c1 c2:=M.Om c c1 c2 some
def C.BP:=fTa S.BP (λx=>M.Om x.2.1.1 x.2.1.2.1 x.2.1.2.2.1) [fe C.iC]
abbrev M.I8(r32:Int×ay×Int×Int)(bI:zae)(deep:Int)(k:ay×ay×Int×Int->Option R):=(M.iC ([[D.int .i64 56],[D.int .i64 55],[D.int .i64 61]]) r32.2.1 r32.2.2.1 r32.2.2.2).bind λb=>(bI (i64.wrap (deep - 1)) b.2.1 b.2.2.1 b.2.2.2).bind λa=>(M.bT 11 b.1 [] [] [] (aB [[D.sl true 5 a.1]])).bind λc=>cond ([[D.sl true 5 c]].all dw) (k (c,a.2)) none
def M.DU(qF:zae)(bI:zae)(yO:zan)(deep:Int)(c:ay)(c1 c2:Int)(k:ay×ay×Int×Int->Option R):=cond (decide (deep<=0)) ((M.BO c c1 c2).bind λy=>k (y)) ((M.aX 2 c c1 c2).bind λb=>(M.aX 16 b.2.1 b.2.2.1 b.2.2.2).bind λa=>cond (a.1==0) ((M.BO a.2.1 a.2.2.1 a.2.2.2).bind λf=>k (f)) (cond (a.1==1) ((qF deep a.2.1 a.2.2.1 a.2.2.2).bind λg=>k (g)) (cond (a.1==2) ((bI (i64.wrap (deep - 1)) a.2.1 a.2.2.1 a.2.2.2).bind λw=>(M.bT 6 0 [] [] [] (aB [[D.sl true 5 w.1]])).bind λB=>cond ([[D.sl true 5 B]].all dw) (k (B,w.2)) none) (cond (a.1==3) ((M.jJ a.2.1 a.2.2.1 a.2.2.2).bind λt=>(yO 0 3 (i64.wrap (deep - 1)) t.2.1 t.2.2.1 t.2.2.2).bind λv=>(M.bT 7 0 t.1 [] [] (aB v.1)).bind λI=>cond ([[D.sl true 5 I]].all dw) (k (I,v.2)) none) (cond (a.1==4) ((M.iI ([[D.str [108,101,110,103,116,104]],[D.str [115,117,98,115,116,114]],[D.str [105,110,100,101,120]],[D.str [105,110,116]],[D.str [116,111,117,112,112,101,114]]]) a.2.1 a.2.2.1 a.2.2.2).bind λh=>(yO 0 3 (i64.wrap (deep - 2)) h.2.1 h.2.2.1 h.2.2.2).bind λr=>(M.bT 8 0 h.1 [] [] (aB r.1)).bind λH=>cond ([[D.sl true 5 H]].all dw) (k (H,r.2)) none) (cond (a.1==5) ((qF (i64.wrap (deep - 1)) a.2.1 a.2.2.1 a.2.2.2).bind λe=>(M.bT 9 (i64.wrap (51+b.1)) [] [] [] (aB [[D.sl true 5 e.1]])).bind λF=>cond ([[D.sl true 5 F]].all dw) (k (F,e.2)) none) (cond (a.1==6) ((qF (i64.wrap (deep - 1)) a.2.1 a.2.2.1 a.2.2.2).bind λu=>(M.bT 10 (i64.wrap (51+b.1)) [] [] [] (aB [[D.sl true 5 u.1]])).bind λz=>cond ([[D.sl true 5 z]].all dw) (k (z,u.2)) none) (cond (a.1==7) (M.I8 a bI deep k) (cond (a.1==8) (M.I8 a bI deep k) (cond (a.1==9) ((M.jJ a.2.1 a.2.2.1 a.2.2.2).bind λi=>(yO 1 2 (i64.wrap (deep - 1)) i.2.1 i.2.2.1 i.2.2.2).bind λm=>(M.bT 13 0 i.1 [] [] (aB m.1)).bind λE=>cond ([[D.sl true 5 E]].all dw) (k (E,m.2)) none) (cond (a.1==10) ((bI (i64.wrap (deep - 1)) a.2.1 a.2.2.1 a.2.2.2).bind λd=>(bI (i64.wrap (deep - 1)) d.2.1 d.2.2.1 d.2.2.2).bind λx=>(bI (i64.wrap (deep - 1)) x.2.1 x.2.2.1 x.2.2.2).bind λl=>(M.bT 14 0 [] [] [] (aB [[D.sl true 5 d.1],[D.sl true 5 x.1],[D.sl true 5 l.1]])).bind λC=>cond ([[D.sl true 5 C]].all dw) (k (C,l.2)) none) (cond (a.1==11) ((M.iC ([[D.int .i64 54],[D.int .i64 38],[D.int .i64 43]]) a.2.1 a.2.2.1 a.2.2.2).bind λj=>(qF (i64.wrap (deep - 1)) j.2.1 j.2.2.1 j.2.2.2).bind λp=>(bI (i64.wrap (deep - 1)) p.2.1 p.2.2.1 p.2.2.2).bind λn=>(M.bT 15 j.1 [] [] [] (aB [[D.sl true 5 p.1],[D.sl true 5 n.1]])).bind λG=>cond ([[D.sl true 5 G]].all dw) (k (G,n.2)) none) ((M.BP a.2.1 a.2.2.1 a.2.2.2).bind λq=>(bI (i64.wrap (deep - 1)) q.2.1 q.2.2.1 q.2.2.2).bind λo=>(bI (i64.wrap (deep - 1)) o.2.1 o.2.2.1 o.2.2.2).bind λs=>(M.bT 12 q.1 [] [] [] (aB [[D.sl true 5 o.1],[D.sl true 5 s.1]])).bind λA=>cond ([[D.sl true 5 A]].all dw) (k (A,s.2)) none)))))))))))))
def C.akg{qF:zae}{bI:zae}{yO:zan}(ah8:S.WC.ok X0 λx=>qF x.1.2.1 x.2.1.1 x.2.1.2.1 x.2.1.2.2.1)(DT:S.eP.ok X0 λx=>bI x.1.2.1 x.2.1.1 x.2.1.2.1 x.2.1.2.2.1)(alQ:S.oP.ok X0 λx=>yO x.1.2.1 x.1.2.2.1 x.1.va.1 x.2.1.1 x.2.1.2.1 x.2.1.2.2.1):S.eP.ok X0 λx=>M.DU qF bI yO x.1.2.1 x.2.1.1 x.2.1.2.1 x.2.1.2.2.1 some:=fnS (λx=>M.DU qF bI yO x.1.2.1 x.2.1.1 x.2.1.2.1 x.2.1.2.2.1) [fe C.BO,fe C.aX,fe ah8,fe DT,fe C.bT,fe C.jJ,fe alQ,fe C.iI,fe C.iC,fe C.BP] [] (by intros;simp only[M.DU,M.I8,nb]<;>rfl)
def M.wY:Nat->(zae)×(zae)×(zan):=Nat.rec (λ_ _ _ _=>none,λ_ _ _ _=>none,λ_ _ _ _ _ _=>none) λ_ qz=>(λdeep c c1 c2=>M.DU qz.2.1 qz.1 qz.2.2 deep c c1 c2 some,λdeep c c1 c2=>M.BG qz.1 deep c c1 c2 some,λleast most deep c c1 c2=>M.Hq qz.1 least most deep c c1 c2 some)
def M.qR n:=(M.wY n).1
def M.Lm n:=(M.wY n).2.1
def M.Hr n:=(M.wY n).2.2
def M.aci(n:Nat):M.qR (n+1)=λdeep c c1 c2=>M.DU (M.Lm n) (M.qR n) (M.Hr n) deep c c1 c2 some:=rfl
def M.ah9(n:Nat):M.Lm (n+1)=λdeep c c1 c2=>M.BG (M.qR n) deep c c1 c2 some:=rfl
def M.alR(n:Nat):M.Hr (n+1)=λleast most deep c c1 c2=>M.Hq (M.qR n) least most deep c c1 c2 some:=rfl
def M.eP deep c c1 c2:=lim λn=>M.qR n deep c c1 c2
def M.oP least most deep c c1 c2:=lim λn=>M.Hr n least most deep c c1 c2
def C.wY:∀n,(S.eP.ok X0 λx=>M.qR n x.1.2.1 x.2.1.1 x.2.1.2.1 x.2.1.2.2.1)/\(S.WC.ok X0 λx=>M.Lm n x.1.2.1 x.2.1.1 x.2.1.2.1 x.2.1.2.2.1)/\(S.oP.ok X0 λx=>M.Hr n x.1.2.1 x.1.2.2.1 x.1.va.1 x.2.1.1 x.2.1.2.1 x.2.1.2.2.1)
 |0=>⟨fD.zero,fD.zero,fD.zero⟩
 |n+1=>have h:=C.wY n;⟨C.akg h.2.1 h.1 h.2.2,C.agC h.1,C.akf h.1⟩
def C.eP:S.eP.ok X0 λx=>M.eP x.1.2.1 x.2.1.1 x.2.1.2.1 x.2.1.2.2.1:=fD.lim λn=>(C.wY n).1
def M.akh{n:Nat}{deep:Int}{c:ay}{c1 c2:Int}{r:ay×ay×Int×Int}(h:M.qR n deep c c1 c2=some r):M.eP deep c c1 c2=some r:=fD.FV (λn=>(C.wY n).1) (by intro a b h;simp[S.eP,sg] at h;first|exact h|simp[Prod.ext_iff,h]) (x:=(((),deep,()),((c,c1,c2,()),()))) h
def C.oP:S.oP.ok X0 λx=>M.oP x.1.2.1 x.1.2.2.1 x.1.va.1 x.2.1.1 x.2.1.2.1 x.2.1.2.2.1:=fD.lim λn=>(C.wY n).2.2
def M.aki{n:Nat}{least most deep:Int}{c:ay}{c1 c2:Int}{r:ay×ay×Int×Int}(h:M.Hr n least most deep c c1 c2=some r):M.oP least most deep c c1 c2=some r:=fD.FV (λn=>(C.wY n).2.2) (by intro a b h;simp[S.oP,sg] at h;first|exact h|simp[Prod.ext_iff,h]) (x:=(((),least,most,deep,()),((c,c1,c2,()),()))) h
def M.EI(s:(ay×Int×Int)⊕zat)(kn:(ay×Int×Int)⊕zat->Option R)(ke:ay×Int×Int×ay->Option R):Option R:=match s with
 | .inl (v,v1,v2)=>(M.aX 4 v v1 v2).bind λd=>((M.eP (i64.wrap (1+d.1)) d.2.1 d.2.2.1 d.2.2.2).bind λb=>bif decide ((↑b.1.length:Int)<=60) then(ke (b.2.1,b.2.2.1,b.2.2.2,b.1)) else kn (.inr (false,b.2.1,b.2.2.1,b.2.2.2,b.1)))
 | .inr (v11,v,v1,v2,x')=>(M.aX 4 v v1 v2).bind λc=>(M.eP (i64.wrap (1+c.1)) c.2.1 c.2.2.1 c.2.2.2).bind λa=>bif decide ((↑a.1.length:Int)<=60) then(ke (a.2.1,a.2.2.1,a.2.2.2,a.1)) else kn (.inr (false,a.2.1,a.2.2.1,a.2.2.2,a.1))
def M.EJ s:=M.EI s (λs=>some (Sum.inl s)) λt=>some (Sum.inr t)
def M.Oo s:=fJ (M.EJ) s
def F.Oo:LE X0 42:=le 1 (pOr (IV [dH 0 (pP 100000 0)] [dH 100000 (cB 82 zbt)]) (IV [dH 0 (pP 100000 0),dH 3 (pO 300000 0),dH 11 pB] [dH 100000 (cB 82 zbt),dH 300000 zbl])) (σ:=(ay×Int×Int)⊕zat) (λx=>(match x with| .inl x=> .inl ((x.2.1.1,x.2.1.2.1,x.2.1.2.2.1))| .inr x=> .inr ((x.1.2.2.1,x.2.1.1,x.2.1.2.1,x.2.1.2.2.1,x.2.2.1)))) (λx s=>(match s with| .inl s=> .inl ((((),()),((s.1,s.2.1,s.2.2,()),())))| .inr s=> .inr ((((),(),s.1,()),((s.2.1,s.2.2.1,s.va.1,()),s.va.2,()))))) (λx=> .leaf (ay×Int×Int×ay) (λt=>(Ex.ret,⟨[(2,V.own 300000 0)],[(100000,Cell.box 82 [GL 1 t.1,jq t.2.1,jq t.2.2.1]),(300000,Cell.arr false false 0 5 t.va)]⟩))) (λx=>M.EI) [fe C.aX,fe C.eP] [] (by rintro _ _ (⟨_,_,_⟩|⟨_,_,_,_,_⟩) _ _<;>unfold M.EI<;>exact zbC) (hE:=by intro _ _ s _;rcases s with s|s<;>kernel_rfl)
abbrev M.QS(c:ay)(c1 c2:Int)(k:ay×ay×Int×Int->Option R):=(M.Oo (.inl (c,c1,c2))).bind λa=>k (a.2.2.2,a.1,a.2.1,a.2.2.1)
def M.xA c c1 c2:=M.QS c c1 c2 some
def C.xA:=fTa S.xA (λx=>M.QS x.2.1.1 x.2.1.2.1 x.2.1.2.2.1) [] [F.Oo]
abbrev M.JE(JF:Int×ay×Int×Int)(deep:Int)(k:ay×ay×Int×Int->Option R):=(M.aX 2 JF.2.1 JF.2.2.1 JF.2.2.2).bind λc=>(M.oP c.1 3 deep c.2.1 c.2.2.1 c.2.2.2).bind λa=>(M.jh 3 a.2.1 a.2.2.1 a.2.2.2).bind λb=>cond b.1 ((M.iI ([[D.str [62]],[D.str [62,62]],[D.str [124]]]) b.2.1 b.2.2.1 b.2.2.2).bind λe=>(M.eP (i64.wrap (deep - 1)) e.2.1 e.2.2.1 e.2.2.2).bind λd=>cond (((a.1.length+[[D.sl true 5 d.1]].length) * 24).ble 140737488355328) (cond ((a.1.length+[[D.sl true 5 d.1]].length).ble 140737488355328) ((M.bT 21 c.1 [] e.1 [] (aB (a.1++[[D.sl true 5 d.1]]))).bind λg=>cond ([[D.sl true 5 g]].all dw) (k (g,d.2.1,d.2.2.1,d.2.2.2)) none) none) none) ((M.bT 21 c.1 [] [] [] (aB a.1)).bind λf=>cond ([[D.sl true 5 f]].all dw) (k (f,b.2.1,b.2.2.1,b.2.2.2)) none)
abbrev M.Lp(deep:Int)(c:ay)(c1 c2:Int)(k:ay×ay×Int×Int->Option R):=(M.aX 9 c c1 c2).bind λa=>cond (a.1==0) (M.JE a deep k) (cond (a.1==1) (M.JE a deep k) (cond (a.1==2) ((M.iC ([[D.int .i64 22],[D.int .i64 25],[D.int .i64 26]]) a.2.1 a.2.2.1 a.2.2.2).bind λj=>k ([[D.int .i64 j.1,D.int .i64 0,D.str [],D.str [],D.sl true 1 []]],j.2.1,j.2.2.1,j.2.2.2)) (cond (a.1==3) ((M.iC ([[D.int .i64 23],[D.int .i64 24]]) a.2.1 a.2.2.1 a.2.2.2).bind λf=>(M.oP 0 1 deep f.2.1 f.2.2.1 f.2.2.2).bind λd=>(M.bT f.1 0 [] [] [] (aB d.1)).bind λn=>cond ([[D.sl true 5 n]].all dw) (k (n,d.2.1,d.2.2.1,d.2.2.2)) none) (cond (a.1==4) ((M.jJ a.2.1 a.2.2.1 a.2.2.2).bind λg=>(M.oP 0 2 (i64.wrap (deep - 1)) g.2.1 g.2.2.1 g.2.2.2).bind λl=>(M.bT 27 0 g.1 [] [] (aB l.1)).bind λp=>cond ([[D.sl true 5 p]].all dw) (k (p,l.2.1,l.2.2.1,l.2.2.2)) none) (cond (a.1==5) ((M.jh 2 a.2.1 a.2.2.1 a.2.2.2).bind λb=>cond b.1 ((M.iI ([[D.str [35]],[D.str [35,32,110,111,116,101]],[D.str [35,120,32,61,32,49]]]) b.2.1 b.2.2.1 b.2.2.2).bind λi=>k ([[D.int .i64 34,D.int .i64 0,D.str i.1,D.str [],D.sl true 1 []]],i.2.1,i.2.2.1,i.2.2.2)) ((M.eP deep b.2.1 b.2.2.1 b.2.2.2).bind λh=>(M.bT 20 0 [] [] [] (aB [[D.sl true 5 h.1]])).bind λm=>cond ([[D.sl true 5 m]].all dw) (k (m,h.2.1,h.2.2.1,h.2.2.2)) none)) ((M.eP deep a.2.1 a.2.2.1 a.2.2.2).bind λe=>(M.bT 20 0 [] [] [] (aB [[D.sl true 5 e.1]])).bind λo=>cond ([[D.sl true 5 o]].all dw) (k (o,e.2.1,e.2.2.1,e.2.2.2)) none))))))
def M.wO deep c c1 c2:=M.Lp deep c c1 c2 some
def C.wO:=fTa S.wO (λx=>M.Lp x.1.2.1 x.2.1.1 x.2.1.2.1 x.2.1.2.2.1) [fe C.aX,fe C.oP,fe C.jh,fe C.iI,fe C.eP,fe C.bT,fe C.iC,fe C.jJ]
def M.H6(kC:zae)(deep:Int)(s:Int×ay×Int×Int×ay)(kn:Int×ay×Int×Int×ay->Option R)(ke:Int×ay×Int×Int×ay->Option R):Option R:=match s with
 |(n',v,v1,v2,x')=>bif decide (n'>0) then((kC deep v v1 v2).bind λa=>nI x' [[D.sl true 5 a.1]] 24 λb=>kn (i64.wrap (n' - 1),a.2.1,a.2.2.1,a.2.2.2,b)) else ke (n',v,v1,v2,x')
def M.Oq kC deep s:=M.H6 kC deep s (λs=>some (Sum.inl s)) λt=>some (Sum.inr t)
def M.Lr kC deep s:=fJ (M.Oq kC deep) s
def F.Lr{kC:zae}(WI:S.su.ok X0 λx=>kC x.1.2.1 x.2.1.1 x.2.1.2.1 x.2.1.2.2.1):LE X0 156:=le 3 (IV [dH 0 (pP 100000 0),dH 1 pI,dH 5 (pO 300000 0),dH 6 pI] zbj) (λx=>(x.1.va.1,x.2.1.1,x.2.1.2.1,x.2.1.2.2.1,x.2.2.1)) (λx s=>(((),x.1.2.1,(),s.1,()),((s.2.1,s.2.2.1,s.va.1,()),s.va.2,()))) (λx=> .leaf zax (λt=>(Ex.exit 0,⟨[(0,V.ptr 100000 0),(1,jq x.1.2.1),(5,V.own 300000 0),(6,jq t.1),(11,og false)],[(100000,Cell.box 82 [GL 1 t.2.1,jq t.2.2.1,jq t.va.1]),(300000,Cell.arr false false 0 1 t.va.2)]⟩))) (λx=>M.H6 kC x.1.2.1) [fe WI] [] (by rintro _ _ ⟨_,_,_,_,_⟩ _ _<;>simp only[nI,M.H6,nb]<;>rfl)
def M.EK(kC:zae)(deep:Int)(c:ay)(c1 c2:Int)(k:ay×ay×Int×Int->Option R):=(M.aX 3 c c1 c2).bind λb=>(M.Lr kC deep (b.1,b.2.1,b.2.2.1,b.2.2.2,[])).bind λa=>(M.bT 33 0 [] [] [] (aB a.2.2.2.2)).bind λd=>cond ([[D.sl true 5 d]].all dw) (k (d,a.2.1,a.2.2.1,a.2.2.2.1)) none
def C.aib{kC:zae}(WI:S.su.ok X0 λx=>kC x.1.2.1 x.2.1.1 x.2.1.2.1 x.2.1.2.2.1):S.lW.ok X0 λx=>M.EK kC x.1.2.1 x.2.1.1 x.2.1.2.1 x.2.1.2.2.1 some:=fnS (λx=>M.EK kC x.1.2.1 x.2.1.1 x.2.1.2.1 x.2.1.2.2.1) [fe C.aX,fe C.bT] [F.Lr WI] (by intros;simp only[M.EK,nb]<;>rfl)
abbrev M.Ot(deep:Int)(c:ay)(c1 c2:Int)(k:ay×ay×Int×Int->Option R):=(M.jh 3 c c1 c2).bind λa=>cond a.1 (k ([[D.int .i64 16,D.int .i64 0,D.str [],D.str [],D.sl true 1 []]],a.2.1,a.2.2.1,a.2.2.2)) ((M.eP deep a.2.1 a.2.2.1 a.2.2.2).bind λb=>k (b.1,b.2.1,b.2.2.1,b.2.2.2))
def M.wP deep c c1 c2:=M.Ot deep c c1 c2 some
def C.wP:=fTa S.wP (λx=>M.Ot x.1.2.1 x.2.1.1 x.2.1.2.1 x.2.1.2.2.1) [fe C.jh,fe C.eP]
def M.DV(kX:zae)(deep:Int)(c:ay)(c1 c2:Int)(k:ay×ay×Int×Int->Option R):=cond (decide (deep<=0)) ((M.wO (cond (decide (2<deep)) 2 deep) c c1 c2).bind λn=>k (n.1,n.2.1,n.2.2.1,n.2.2.2)) ((M.jh 3 c c1 c2).bind λd=>cond (!d.1) ((M.wO (cond (decide (2<deep)) 2 deep) d.2.1 d.2.2.1 d.2.2.2).bind λg=>k (g.1,g.2.1,g.2.2.1,g.2.2.2)) ((M.aX 6 d.2.1 d.2.2.1 d.2.2.2).bind λa=>cond (a.1==0) ((M.eP 1 a.2.1 a.2.2.1 a.2.2.2).bind λh=>(kX (i64.wrap (deep - 1)) h.2.1 h.2.2.1 h.2.2.2).bind λx=>(M.bT 28 0 [] [] [] (aB [[D.sl true 5 h.1],[D.sl true 5 x.1]])).bind λz=>cond ([[D.sl true 5 z]].all dw) (k (z,x.2.1,x.2.2.1,x.2.2.2)) none) (cond (a.1==1) ((M.eP 1 a.2.1 a.2.2.1 a.2.2.2).bind λl=>(kX (i64.wrap (deep - 1)) l.2.1 l.2.2.1 l.2.2.2).bind λr=>(kX (i64.wrap (deep - 1)) r.2.1 r.2.2.1 r.2.2.2).bind λu=>(M.bT 28 0 [] [] [] (aB [[D.sl true 5 l.1],[D.sl true 5 r.1],[D.sl true 5 u.1]])).bind λE=>cond ([[D.sl true 5 E]].all dw) (k (E,u.2.1,u.2.2.1,u.2.2.2)) none) (cond (a.1==2) ((M.eP 1 a.2.1 a.2.2.1 a.2.2.2).bind λe=>(kX (i64.wrap (deep - 1)) e.2.1 e.2.2.1 e.2.2.2).bind λo=>(M.bT 29 0 [] [] [] (aB [[D.sl true 5 e.1],[D.sl true 5 o.1]])).bind λC=>cond ([[D.sl true 5 C]].all dw) (k (C,o.2.1,o.2.2.1,o.2.2.2)) none) (cond (a.1==3) ((kX (i64.wrap (deep - 1)) a.2.1 a.2.2.1 a.2.2.2).bind λv=>(M.eP 1 v.2.1 v.2.2.1 v.2.2.2).bind λm=>(M.bT 30 0 [] [] [] (aB [[D.sl true 5 v.1],[D.sl true 5 m.1]])).bind λy=>cond ([[D.sl true 5 y]].all dw) (k (y,m.2.1,m.2.2.1,m.2.2.2)) none) (cond (a.1==4) ((M.wP 2 a.2.1 a.2.2.1 a.2.2.2).bind λj=>(M.wP 1 j.2.1 j.2.2.1 j.2.2.2).bind λi=>(M.wP 1 i.2.1 i.2.2.1 i.2.2.2).bind λs=>(kX (i64.wrap (deep - 1)) s.2.1 s.2.2.1 s.2.2.2).bind λt=>(M.bT 31 0 [] [] [] (aB [[D.sl true 5 j.1],[D.sl true 5 i.1],[D.sl true 5 s.1],[D.sl true 5 t.1]])).bind λA=>cond ([[D.sl true 5 A]].all dw) (k (A,t.2.1,t.2.2.1,t.2.2.2)) none) ((M.jh 2 a.2.1 a.2.2.1 a.2.2.2).bind λb=>cond b.1 ((kX (i64.wrap (deep - 1)) b.2.1 b.2.2.1 b.2.2.2).bind λq=>k (q.1,q.2.1,q.2.2.1,q.2.2.2)) ((M.jJ b.2.1 b.2.2.1 b.2.2.2).bind λf=>(M.jJ f.2.1 f.2.2.1 f.2.2.2).bind λw=>(kX (i64.wrap (deep - 1)) w.2.1 w.2.2.1 w.2.2.2).bind λp=>(M.bT 32 0 f.1 w.1 [] (aB [[D.sl true 5 p.1]])).bind λB=>cond ([[D.sl true 5 B]].all dw) (k (B,p.2.1,p.2.2.1,p.2.2.2)) none))))))))
def C.akk{kX:zae}(akl:S.lW.ok X0 λx=>kX x.1.2.1 x.2.1.1 x.2.1.2.1 x.2.1.2.2.1):S.su.ok X0 λx=>M.DV kX x.1.2.1 x.2.1.1 x.2.1.2.1 x.2.1.2.2.1 some:=fnS (λx=>M.DV kX x.1.2.1 x.2.1.1 x.2.1.2.1 x.2.1.2.2.1) [fe C.wO,fe C.jh,fe C.aX,fe C.eP,fe akl,fe C.bT,fe C.wP,fe C.jJ] [] (by intros;simp only[M.DV,nb]<;>rfl)
def M.zV:Nat->(zae)×(zae):=Nat.rec (λ_ _ _ _=>none,λ_ _ _ _=>none) λ_ qz=>(λdeep c c1 c2=>M.DV qz.2 deep c c1 c2 some,λdeep c c1 c2=>M.EK qz.1 deep c c1 c2 some)
def M.wZ n:=(M.zV n).1
def M.EL n:=(M.zV n).2
def M.acj(n:Nat):M.wZ (n+1)=λdeep c c1 c2=>M.DV (M.EL n) deep c c1 c2 some:=rfl
def M.akm(n:Nat):M.EL (n+1)=λdeep c c1 c2=>M.EK (M.wZ n) deep c c1 c2 some:=rfl
def M.su deep c c1 c2:=lim λn=>M.wZ n deep c c1 c2
def M.lW deep c c1 c2:=lim λn=>M.EL n deep c c1 c2
def C.zV:∀n,(S.su.ok X0 λx=>M.wZ n x.1.2.1 x.2.1.1 x.2.1.2.1 x.2.1.2.2.1)/\(S.lW.ok X0 λx=>M.EL n x.1.2.1 x.2.1.1 x.2.1.2.1 x.2.1.2.2.1)
 |0=>⟨fD.zero,fD.zero⟩
 |n+1=>have h:=C.zV n;⟨C.akk h.2,C.aib h.1⟩
def C.su:S.su.ok X0 λx=>M.su x.1.2.1 x.2.1.1 x.2.1.2.1 x.2.1.2.2.1:=fD.lim λn=>(C.zV n).1
def M.akn{n:Nat}{deep:Int}{c:ay}{c1 c2:Int}{r:ay×ay×Int×Int}(h:M.wZ n deep c c1 c2=some r):M.su deep c c1 c2=some r:=fD.FV (λn=>(C.zV n).1) (by intro a b h;simp[S.su,sg] at h;first|exact h|simp[Prod.ext_iff,h]) (x:=(((),deep,()),((c,c1,c2,()),()))) h
def C.lW:S.lW.ok X0 λx=>M.lW x.1.2.1 x.2.1.1 x.2.1.2.1 x.2.1.2.2.1:=fD.lim λn=>(C.zV n).2
def M.aic{n:Nat}{deep:Int}{c:ay}{c1 c2:Int}{r:ay×ay×Int×Int}(h:M.EL n deep c c1 c2=some r):M.lW deep c c1 c2=some r:=fD.FV (λn=>(C.zV n).2) (by intro a b h;simp[S.lW,sg] at h;first|exact h|simp[Prod.ext_iff,h]) (x:=(((),deep,()),((c,c1,c2,()),()))) h
def M.H7(deep:Int)(s:Int×ay×Int×Int×ay)(kn:Int×ay×Int×Int×ay->Option R)(ke:Int×ay×Int×Int×ay->Option R):Option R:=match s with
 |(n',v,v1,v2,x')=>bif decide (n'>0) then((M.jJ v v1 v2).bind λa=>nI x' [[D.sl true 5 [[D.int .i64 1,D.int .i64 0,D.str a.1,D.str [],D.sl true 1 []]]]] 24 λb=>kn (i64.wrap (n' - 1),a.2.1,a.2.2.1,a.2.2.2,b)) else ke (n',v,v1,v2,x')
def M.Ou deep s:=M.H7 deep s (λs=>some (Sum.inl s)) λt=>some (Sum.inr t)
def M.Ls deep s:=fJ (M.Ou deep) s
def F.Ls:LE X0 158:=le 16 (IV [dH 0 (pP 100000 0),dH 3 pI,dH 4 (pO 300000 0),dH 5 pI] zbj) (λx=>(x.1.va.1,x.2.1.1,x.2.1.2.1,x.2.1.2.2.1,x.2.2.1)) (λx s=>(((),x.1.2.1,(),s.1,()),((s.2.1,s.2.2.1,s.va.1,()),s.va.2,()))) (λx=> .leaf zax (λt=>(Ex.exit 1,⟨[(0,V.ptr 100000 0),(3,jq x.1.2.1),(4,V.own 300000 0),(5,jq t.1),(65,og false)],[(100000,Cell.box 82 [GL 1 t.2.1,jq t.2.2.1,jq t.va.1]),(300000,Cell.arr false false 0 1 t.va.2)]⟩))) (λx=>M.H7 x.1.2.1) [fe C.jJ] [] (by rintro _ _ ⟨_,_,_,_,_⟩ _ _<;>simp only[nI,M.H7,nb]<;>rfl)
abbrev M.QT(c:ay)(c1 c2:Int)(k:ay×ay×Int×Int->Option R):=(M.aX 2 c c1 c2).bind λb=>(M.aX 8 b.2.1 b.2.2.1 b.2.2.2).bind λa=>cond (a.1==0) ((M.aX 2 a.2.1 a.2.2.1 a.2.2.2).bind λm=>(M.lW (i64.wrap (1+b.1)) m.2.1 m.2.2.1 m.2.2.2).bind λq=>(M.bT (i64.wrap (40+m.1)) 0 [] [] [] (aB [[D.sl true 5 q.1]])).bind λu=>cond ([[D.sl true 5 u]].all dw) (k (u,q.2.1,q.2.2.1,q.2.2.2)) none) (cond (a.1==1) ((M.eP (i64.wrap (1+b.1)) a.2.1 a.2.2.1 a.2.2.2).bind λj=>(M.bT 42 1 [] [] [] (aB [[D.sl true 5 j.1]])).bind λA=>cond ([[D.sl true 5 A]].all dw) (k (A,j.2.1,j.2.2.1,j.2.2.2)) none) (cond (a.1==2) ((M.lW (i64.wrap (1+b.1)) a.2.1 a.2.2.1 a.2.2.2).bind λr=>(M.bT 42 2 [] [] [] (aB [[D.sl true 5 r.1]])).bind λy=>cond ([[D.sl true 5 y]].all dw) (k (y,r.2.1,r.2.2.1,r.2.2.2)) none) (cond (a.1==3) ((M.eP 1 a.2.1 a.2.2.1 a.2.2.2).bind λg=>(M.eP 1 g.2.1 g.2.2.1 g.2.2.2).bind λd=>(M.bT 43 1 [] [] [] (aB [[D.sl true 5 g.1],[D.sl true 5 d.1]])).bind λv=>cond ([[D.sl true 5 v]].all dw) (k (v,d.2.1,d.2.2.1,d.2.2.2)) none) (cond (a.1==4) ((M.eP 1 a.2.1 a.2.2.1 a.2.2.2).bind λs=>(M.eP 1 s.2.1 s.2.2.1 s.2.2.2).bind λo=>(M.lW (i64.wrap (1+b.1)) o.2.1 o.2.2.1 o.2.2.2).bind λt=>(M.bT 43 3 [] [] [] (aB [[D.sl true 5 s.1],[D.sl true 5 o.1],[D.sl true 5 t.1]])).bind λz=>cond ([[D.sl true 5 z]].all dw) (k (z,t.2.1,t.2.2.1,t.2.2.2)) none) (cond (a.1==5) ((M.aX 3 a.2.1 a.2.2.1 a.2.2.2).bind λf=>(M.Ls (i64.wrap (1+b.1)) (f.1,f.2.1,f.2.2.1,f.2.2.2,[])).bind λl=>(M.iI ([[D.str [102]],[D.str [103]],[D.str [109,97,120]]]) l.2.1 l.2.2.1 l.2.2.2.1).bind λi=>(M.lW (i64.wrap (1+b.1)) i.2.1 i.2.2.1 i.2.2.2).bind λe=>nI l.2.2.2.2 [[D.sl true 5 e.1]] 24 λB=>(M.bT 44 0 i.1 [] [] (aB B)).bind λx=>cond ([[D.sl true 5 x]].all dw) (k (x,e.2.1,e.2.2.1,e.2.2.2)) none) (cond (a.1==6) ((M.iI ([[D.str [35,32,116,111,112]],[D.str [35]]]) a.2.1 a.2.2.1 a.2.2.2).bind λp=>k ([[D.int .i64 34,D.int .i64 0,D.str p.1,D.str [],D.sl true 1 []]],p.2.1,p.2.2.1,p.2.2.2)) ((M.eP (i64.wrap (1+b.1)) a.2.1 a.2.2.1 a.2.2.2).bind λn=>(M.lW (i64.wrap (1+b.1)) n.2.1 n.2.2.1 n.2.2.2).bind λh=>(M.bT 42 3 [] [] [] (aB [[D.sl true 5 n.1],[D.sl true 5 h.1]])).bind λw=>cond ([[D.sl true 5 w]].all dw) (k (w,h.2.1,h.2.2.1,h.2.2.2)) none)))))))
def M.Fq c c1 c2:=M.QT c c1 c2 some
def C.Fq:=fTa S.Fq (λx=>M.QT x.2.1.1 x.2.1.2.1 x.2.1.2.2.1) [fe C.aX,fe C.lW,fe C.bT,fe C.eP,fe C.iI] [F.Ls]
def M.Eb(s:Int×ay×Int×Int×ay)(kn:Int×ay×Int×Int×ay->Option R)(ke:Int×ay×Int×Int×ay->Option R):Option R:=match s with
 |(n',v,v1,v2,x')=>bif decide (n'>0) then((M.Fq v v1 v2).bind λa=>nI x' [[D.sl true 5 a.1]] 24 λb=>kn (i64.wrap (n' - 1),a.2.1,a.2.2.1,a.2.2.2,b)) else ke (n',v,v1,v2,x')
def M.KD s:=M.Eb s (λs=>some (Sum.inl s)) λt=>some (Sum.inr t)
def M.Cj s:=fJ (M.KD) s
def F.Cj:LE X0 117:=le 3 (IV [dH 0 (pP 100000 0),dH 3 (pO 300000 0),dH 4 pI] zbj) (λx=>(x.1.2.2.1,x.2.1.1,x.2.1.2.1,x.2.1.2.2.1,x.2.2.1)) (λx s=>(((),(),s.1,()),((s.2.1,s.2.2.1,s.va.1,()),s.va.2,()))) (λx=> .leaf zax (λt=>(Ex.exit 2,⟨[(0,V.ptr 100000 0),(3,V.own 300000 0),(4,jq t.1),(10,og false)],[(100000,Cell.box 82 [GL 1 t.2.1,jq t.2.2.1,jq t.va.1]),(300000,Cell.arr false false 0 1 t.va.2)]⟩))) (λx=>M.Eb) [fe C.Fq] [] (by rintro _ _ ⟨_,_,_,_,_⟩ _ _<;>simp only[nI,M.Eb,nb]<;>rfl)
def M.yU(s:(ay×Int×Int)⊕zat)(kn:(ay×Int×Int)⊕zat->Option R)(ke:ay×Int×Int×ay->Option R):Option R:=match s with
 | .inl (v,v1,v2)=>(M.aX 4 v v1 v2).bind λd=>((M.Cj (d.1,d.2.1,d.2.2.1,d.2.2.2,[])).bind λa=>(M.bT 45 0 [] [] [] (aB a.2.2.2.2)).bind λe=>bif[[D.sl true 5 e]].all dw then(bif decide ((↑e.length:Int)<=220) then(ke (a.2.1,a.2.2.1,a.2.2.2.1,e)) else kn (.inr (false,a.2.1,a.2.2.1,a.2.2.2.1,e))) else none)
 | .inr (v23,v,v1,v2,x')=>(M.aX 4 v v1 v2).bind λc=>(M.Cj (c.1,c.2.1,c.2.2.1,c.2.2.2,[])).bind λb=>(M.bT 45 0 [] [] [] (aB b.2.2.2.2)).bind λf=>bif[[D.sl true 5 f]].all dw then(bif decide ((↑f.length:Int)<=220) then(ke (b.2.1,b.2.2.1,b.2.2.2.1,f)) else kn (.inr (false,b.2.1,b.2.2.1,b.2.2.2.1,f))) else none
def M.yV s:=M.yU s (λs=>some (Sum.inl s)) λt=>some (Sum.inr t)
def M.H8 s:=fJ (M.yV) s
def F.H8:LE X0 117:=le 1 (pOr (IV [dH 0 (pP 100000 0)] [dH 100000 (cB 82 zbt)]) (IV [dH 0 (pP 100000 0),dH 5 (pO 300000 0),dH 23 pB] [dH 100000 (cB 82 zbt),dH 300000 zbl])) (σ:=(ay×Int×Int)⊕zat) (λx=>(match x with| .inl x=> .inl ((x.2.1.1,x.2.1.2.1,x.2.1.2.2.1))| .inr x=> .inr ((x.1.2.2.1,x.2.1.1,x.2.1.2.1,x.2.1.2.2.1,x.2.2.1)))) (λx s=>(match s with| .inl s=> .inl ((((),()),((s.1,s.2.1,s.2.2,()),())))| .inr s=> .inr ((((),(),s.1,()),((s.2.1,s.2.2.1,s.va.1,()),s.va.2,()))))) (λx=> .leaf (ay×Int×Int×ay) (λt=>(Ex.ret,⟨[(2,V.own 300000 0)],[(100000,Cell.box 82 [GL 1 t.1,jq t.2.1,jq t.2.2.1]),(300000,Cell.arr false false 0 5 t.va)]⟩))) (λx=>M.yU) [fe C.aX,fe C.bT] [F.Cj] (by rintro _ _ (⟨_,_,_⟩|⟨_,_,_,_,_⟩) _ _<;>unfold M.yU<;>exact zbC) (hE:=by intro _ _ s _;rcases s with s|s<;>kernel_rfl)
abbrev M.JG(c:ay)(c1 c2:Int)(k:ay×ay×Int×Int->Option R):=(M.H8 (.inl (c,c1,c2))).bind λa=>k (a.2.2.2,a.1,a.2.1,a.2.2.1)
def M.xB c c1 c2:=M.JG c c1 c2 some
def C.xB:=fTa S.xB (λx=>M.JG x.2.1.1 x.2.1.2.1 x.2.1.2.2.1) [] [F.H8]
abbrev M.Ov(c:ay)(c1 c2:Int)(k:ay×ay×Int×Int->Option R):=(M.aX 5 c c1 c2).bind λa=>cond (a.1==0) ((M.xA a.2.1 a.2.2.1 a.2.2.2).bind λf=>k (f.1,f.2.1,f.2.2.1,f.2.2.2)) (cond (a.1==1) ((M.xA a.2.1 a.2.2.1 a.2.2.2).bind λe=>k (e.1,e.2.1,e.2.2.1,e.2.2.2)) (cond (a.1==2) ((M.su 2 a.2.1 a.2.2.1 a.2.2.2).bind λd=>k (d.1,d.2.1,d.2.2.1,d.2.2.2)) ((M.xB a.2.1 a.2.2.1 a.2.2.2).bind λb=>k (b.1,b.2.1,b.2.2.1,b.2.2.2))))
def M.yI c c1 c2:=M.Ov c c1 c2 some
def C.yI:=fTa S.yI (λx=>M.Ov x.2.1.1 x.2.1.2.1 x.2.1.2.2.1) [fe C.aX,fe C.xA,fe C.su,fe C.xB]
abbrev M.QU(c:ay)(c1 c2:Int)(k:Bool×ay×ay×Int×Int->Option R):=(M.yI c c1 c2).bind λa=>(M.aX ((↑a.1.length:Int)) a.2.1 a.2.2.1 a.2.2.2).bind λb=>(M.aX 12 b.2.1 b.2.2.1 b.2.2.2).bind λd=>cond (d.1==0) ((cut (aB a.1) 0 b.1).bind λo=>k (false,o,d.2.1,d.2.2.1,d.2.2.2)) (cond (d.1==1) ((idx a.1 b.1).bind λw=>a.1[b.1.toNat]?.bind λn=>(aja 1 n 4).bind λj=>cond (aj j) ((M.iC ([[D.int .i64 (-1)],[D.int .i64 b.1],[D.int .i64 0],[D.int .i64 99]]) d.2.1 d.2.2.1 d.2.2.2).bind λh=>nI j [[D.int .i64 h.1]] 8 λs=>(idx a.1 b.1).bind λx=>cond (aj s) (cond (true &&(b.1.toNat.beq b.1.toNat &&(true && [D.sl true 1 s].length.beq 1))) (a.1[b.1.toNat]?.bind λq=>k (true,a.1.set b.1.toNat (splice q 4 [D.sl true 1 s]),h.2.1,h.2.2.1,h.2.2.2)) none) none) none) (cond (d.1==2) ((idx a.1 b.1).bind λt=>a.1[b.1.toNat]?.bind λr=>(aja 1 r 4).bind λi=>cond (aj i) (cond (aj i) (a.1[b.1.toNat]?.bind λg=>cond (decide ((↑i.length:Int)>0)) ((idx (a.1.set b.1.toNat (splice g 4 [D.sl true 1 i])) b.1).bind λu=>((a.1.set b.1.toNat (splice g 4 [D.sl true 1 i]))[b.1.toNat]?).bind λp=>(aja 1 p 4).bind λf=>cond (aj f) ((M.aX (i64.wrap (b.1+1)) d.2.1 d.2.2.1 d.2.2.2).bind λe=>(idx f 0).bind λv=>f[0]?.bind λl=>cond (aj (f.set 0 (splice l 0 [D.int .i64 (i64.wrap (e.1 - 1))]))) (((a.1.set b.1.toNat (splice g 4 [D.sl true 1 i]))[b.1.toNat]?).bind λm=>k (true,(a.1.set b.1.toNat (splice g 4 [D.sl true 1 i])).set b.1.toNat (splice m 4 [D.sl true 1 (f.set 0 (splice l 0 [D.int .i64 (i64.wrap (e.1 - 1))]))]),e.2.1,e.2.2.1,e.2.2.2)) none) none) (k (true,a.1.set b.1.toNat (splice g 4 [D.sl true 1 i]),d.2.1,d.2.2.1,d.2.2.2))) none) none) (cond (d.1==3) (cond (((a.1.length+a.1.length) * 72).ble 140737488355328 &&(a.1.length+a.1.length).ble 140737488355328) (k (false,aB a.1++aB a.1,d.2.1,d.2.2.1,d.2.2.2)) none) (k (true,a.1,d.2.1,d.2.2.1,d.2.2.2)))))
def M.Fv c c1 c2:=M.QU c c1 c2 some
def C.Fv:=fTa S.Fv (λx=>M.QU x.2.1.1 x.2.1.2.1 x.2.1.2.2.1) [fe C.yI,fe C.aX,fe C.iC]
abbrev M.Lu(c:ay)(c1 c2:Int)(k:Bool×ay×ay×Int×Int->Option R):=(M.yI c c1 c2).bind λd=>(M.aX ((↑d.1.length:Int)) d.2.1 d.2.2.1 d.2.2.2).bind λa=>(M.aX 14 a.2.1 a.2.2.1 a.2.2.2).bind λb=>cond (b.1==0) ((M.aX 47 b.2.1 b.2.2.1 b.2.2.2).bind λf=>(idx d.1 a.1).bind λo=>d.1[a.1.toNat]?.bind λn=>k (true,d.1.set a.1.toNat (splice n 0 [D.int .i64 f.1]),f.2.1,f.2.2.1,f.2.2.2)) (cond (b.1==1) ((M.iC ([[D.int .i64 0],[D.int .i64 1],[D.int .i64 56],[D.int .i64 99],[D.int .i64 54],[D.int .i64 51],[D.int .i64 (-1)]]) b.2.1 b.2.2.1 b.2.2.2).bind λg=>(idx d.1 a.1).bind λp=>d.1[a.1.toNat]?.bind λj=>k (true,d.1.set a.1.toNat (splice j 1 [D.int .i64 g.1]),g.2.1,g.2.2.1,g.2.2.2)) (cond (b.1==2) ((M.iI ([[D.str []],[D.str [120]],[D.str [105,102]],[D.str [108,101,110,103,116,104]],[D.str [49]],[D.str [47]]]) b.2.1 b.2.2.1 b.2.2.2).bind λh=>(idx d.1 a.1).bind λq=>d.1[a.1.toNat]?.bind λl=>k (true,d.1.set a.1.toNat (splice l 2 [D.str h.1]),h.2.1,h.2.2.1,h.2.2.2)) (cond (b.1==3) ((M.iI ([[D.str []],[D.str [62]],[D.str [120]]]) b.2.1 b.2.2.1 b.2.2.2).bind λe=>(idx d.1 a.1).bind λr=>d.1[a.1.toNat]?.bind λm=>k (true,d.1.set a.1.toNat (splice m 3 [D.str e.1]),e.2.1,e.2.2.1,e.2.2.2)) (cond (b.1==4) ((M.Fv b.2.1 b.2.2.1 b.2.2.2).bind λi=>k (false,aB i.2.1,i.2.2.1,i.2.2.2.1,i.2.2.2.2)) (k (true,d.1,b.2.1,b.2.2.1,b.2.2.2))))))
def M.zK c c1 c2:=M.Lu c c1 c2 some
def C.zK:=fTa S.zK (λx=>M.Lu x.2.1.1 x.2.1.2.1 x.2.1.2.2.1) [fe C.yI,fe C.aX,fe C.iC,fe C.iI,fe C.Fv]
abbrev M.Ox(c:ay)(c1 c2:Int)(k:Bool×ay×ay×Int×Int->Option R):=(M.jh 10 c c1 c2).bind λa=>cond a.1 ((M.zK a.2.1 a.2.2.1 a.2.2.2).bind λd=>k (false,aB d.2.1,d.2.2)) ((M.xA a.2.1 a.2.2.1 a.2.2.2).bind λb=>k (true,b))
def M.BQ c c1 c2:=M.Ox c c1 c2 some
def C.BQ:=fTa S.BQ (λx=>M.Ox x.2.1.1 x.2.1.2.1 x.2.1.2.2.1) [fe C.jh,fe C.zK,fe C.xA]
abbrev M.TW(c:ay)(c1 c2:Int)(k:Int×Bool×Bool×Bool×Bool×ay×Int×Int->Option R):=(M.aX 15 c c1 c2).bind λf=>(M.jh 4 f.2.1 f.2.2.1 f.2.2.2).bind λe=>(M.jh 4 e.2.1 e.2.2.1 e.2.2.2).bind λb=>(M.jh 4 b.2.1 b.2.2.1 b.2.2.2).bind λd=>(M.aX 12 d.2.1 d.2.2.1 d.2.2.2).bind λa=>cond (a.1==0) ((M.iC ([[D.int .i64 0],[D.int .i64 16],[D.int .i64 (-1)]]) a.2.1 a.2.2.1 a.2.2.2).bind λg=>k (g.1,false,e.1,b.1,d.1,g.2.1,g.2.2.1,g.2.2.2)) (cond (a.1==1) (k (i64.wrap (1+f.1),true,e.1,b.1,d.1,a.2.1,a.2.2.1,a.2.2.2)) (cond (a.1==2) (k (14,true,e.1,b.1,d.1,a.2.1,a.2.2.1,a.2.2.2)) (cond (a.1==3) (k (1,false,e.1,b.1,d.1,a.2.1,a.2.2.1,a.2.2.2)) (cond (a.1==4) (k (1,false,e.1,b.1,d.1,a.2.1,a.2.2.1,a.2.2.2)) (cond (a.1==5) (k (1,false,e.1,b.1,d.1,a.2.1,a.2.2.1,a.2.2.2)) (k (i64.wrap (1+f.1),false,e.1,b.1,d.1,a.2.1,a.2.2.1,a.2.2.2)))))))
def M.I4 c c1 c2:=M.TW c c1 c2 some
def C.I4:=fTa S.I4 (λx=>M.TW x.2.1.1 x.2.1.2.1 x.2.1.2.2.1) [fe C.aX,fe C.jh,fe C.iC]
abbrev M.FY(code:ay)(k:Bool×ay×Int×Bool×Bool×Bool×Bool->Option R):=(M.IW code).bind λc=>(M.BQ c.1 c.2.1 c.2.2).bind λb=>(M.I4 b.2.2.1 b.2.2.2.1 b.2.2.2.2).bind λa=>k (false,aB b.2.1,a.1,a.2.1,a.2.2.1,a.2.2.2.1,a.2.2.2.2.1)
def M.vX code:=M.FY code some
def C.vX:=fTa S.vX (λx=>M.FY x.1.1) [fe C.IW,fe C.BQ,fe C.I4]
abbrev M.Ec(code:ay)(k:Bool×ay×Int×Bool×Bool×Bool×Bool->Option R):=(M.vX code).bind λa=>k (false,aB a.2.1,a.2.2)
def M.qC code:=M.Ec code some
def C.qC:=fTa S.qC (λx=>M.Ec x.1.1) [fe C.vX]
abbrev M.aee(k:Int×Bool×Bool×Bool×Bool->Option R):=k (1,false,false,false,false)
def M.oQ:Option (Int×Bool×Bool×Bool×Bool):=M.aee some
def C.oQ:=fTa S.oQ (λx=>M.aee)
abbrev M.Cm(x' low high:Int)(k:Bool->Option R):=cond (decide (x'>=low)) (k (decide (x'<=high))) (k false)
def M.dI x' low high:=M.Cm x' low high some
def C.dI:=fTa S.dI (λx=>M.Cm x.1.1 x.1.2.1 x.1.2.2.1)
def M.Ah(l:ay)(i:Int)(x':ay)(s:Int×Int)(kn:Int×Int->Option R)(ke:(Unit)⊕(Int×Int)->Option R):Option R:=match s with
 |(at',k')=>bif decide (k'>=0) then((idx l i).bind λd=>(cSl 1 d 4).bind λc=>(idx c k').bind λf=>(jR .i64 f 0).bind λb=>bif b !=i64.wrap (at' - 1) then(ke (.inl ())) else bif at'==0 then(ke (.inl ())) else (idx x' (i64.wrap (at' - 1))).bind λg=>(x'[(i64.wrap (at' - 1)).toNat]?).bind λe=>(jR .i64 e 0).bind λa=>kn (a,i64.wrap (k' - 1))) else ke (.inr (at',k'))
def M.FZ l i x' s:=M.Ah l i x' s (λs=>some (Sum.inl s)) λt=>some (Sum.inr t)
def M.vZ l i x' s:=fJ (M.FZ l i x') s
def F.vZ:LE X0 29:=le 7 (IV [dH 0 (pL false 5),dH 4 (pO 300000 0),dH 5 pI,dH 6 pI,dH 7 pI] [dH 300000 zbf]) (λx=>(x.1.va.1,x.1.va.2.1)) (λx s=>((x.1.1,(),x.1.2.2.1,s.1,s.2,()),(x.2.1,()))) (λx=> .sum (.leaf (Unit) (λt=>(Ex.ret,⟨[(2,V.own 300000 0),(3,og false)],[(300000,Cell.arr false true 0 1 [])]⟩))) (.leaf (Int×Int) (λt=>(Ex.exit 2,⟨[(0,GL 5 x.1.1),(4,V.own 300000 0),(5,jq x.1.2.2.1),(6,jq t.1),(7,jq t.2),(24,og false)],[(300000,Cell.arr false true 0 1 x.2.1)]⟩)))) (λx=>M.Ah x.1.1 x.1.2.2.1 x.2.1) [] [] (by rintro _ _ ⟨_,_⟩ _ _<;>simp only[M.Ah,nb]<;>rfl)
def M.Ai(l:ay)(s:Int×ay)(kn:Int×ay->Option R)(ke:(Unit)⊕(Int×ay)->Option R):Option R:=match s with
 |(i,x')=>bif decide (i<(↑l.length:Int)) then((idx l i).bind λe=>(cSl 1 e 4).bind λb=>(M.vZ l i x' (i,i64.wrap ((↑b.length:Int) - 1))).bind λc=>jX c (λf=>ke (.inl ())) λd=>letE d λa=>nI x' [[D.int .i64 a.1]] 8 λg=>kn (i64.wrap (i+1),g)) else ke (.inr (i,x'))
def M.F5 l s:=M.Ai l s (λs=>some (Sum.inl s)) λt=>some (Sum.inr t)
def M.wo l s:=fJ (M.F5 l) s
def F.wo:LE X0 29:=le 3 (IV [dH 0 (pL false 5),dH 4 (pO 300000 0),dH 5 pI] [dH 300000 zbf]) (λx=>(x.1.2.2.1,x.2.1)) (λx s=>((x.1.1,(),s.1,()),(s.2,()))) (λx=> .sum (.leaf (Unit) (λt=>(Ex.ret,⟨[(2,V.own 300000 0),(3,og false)],[(300000,Cell.arr false true 0 1 [])]⟩))) (.leaf (Int×ay) (λt=>(Ex.exit 0,⟨[(0,GL 5 x.1.1),(4,V.own 300000 0),(5,jq t.1),(12,og false)],[(300000,Cell.arr false true 0 1 t.2)]⟩)))) (λx=>M.Ai x.1.1) [] [F.vZ] (by rintro _ _ ⟨_,_⟩ _ _<;>simp only[nI,M.Ai,nb]<;>rfl)
abbrev M.LC(l:ay)(k:ay×Bool->Option R):=(M.wo l (0,[])).bind λb=>jX b (λd=>k ([],false)) λc=>letE c λa=>cond (aj a.2) (k (a.2,true)) none
def M.DJ l:=M.LC l some
def C.DJ:=fTa S.DJ (λx=>M.LC x.1.1) [] [F.wo]
abbrev M.Oy(l:ay)(k:Bool->Option R):=(M.dI ((↑l.length:Int)) 1 400).bind λc=>cond (!c) (k false) ((M.DJ l).bind λa=>cond a.2 ((idx a.1 (i64.wrap ((↑l.length:Int) - 1))).bind λe=>(a.1[(i64.wrap ((↑l.length:Int) - 1)).toNat]?).bind λd=>(jR .i64 d 0).bind λb=>k (b==0)) (k false))
def M.wQ l:=M.Oy l some
def C.wQ:=fTa S.wQ (λx=>M.Oy x.1.1) [fe C.dI,fe C.DJ]
def M.CB(l:ay)(i:Int)(x':ay)(s:Int×Int)(kn:Int×Int->Option R)(ke:Int×Int->Option R):Option R:=match s with
 |(n',k')=>(idx l i).bind λe=>(cSl 1 e 4).bind λg=>bif decide (k'<(↑g.length:Int)) then((idx l i).bind λh=>(cSl 1 h 4).bind λc=>(idx c k').bind λd=>(jR .i64 d 0).bind λa=>(idx x' a).bind λj=>x'[a.toNat]?.bind λf=>(jR .i64 f 0).bind λb=>kn (bif decide (n'<i64.wrap (1+b)) then i64.wrap (1+b) else n',i64.wrap (k'+1))) else ke (n',k')
def M.H9 l i x' s:=M.CB l i x' s (λs=>some (Sum.inl s)) λt=>some (Sum.inr t)
def M.GY l i x' s:=fJ (M.H9 l i x') s
def F.GY:LE X0 8:=le 9 (IV [dH 0 (pL false 5),dH 3 (pO 300000 0),dH 4 pI,dH 5 pI,dH 6 pI] [dH 300000 zbf]) (λx=>(x.1.va.1,x.1.va.2.1)) (λx s=>((x.1.1,(),x.1.2.2.1,s.1,s.2,()),(x.2.1,()))) (λx=> .leaf (Int×Int) (λt=>(Ex.exit 2,⟨[(0,GL 5 x.1.1),(3,V.own 300000 0),(4,jq x.1.2.2.1),(5,jq t.1),(6,jq t.2),(24,og false)],[(300000,Cell.arr false true 0 1 x.2.1)]⟩))) (λx=>M.CB x.1.1 x.1.2.2.1 x.2.1) [] [] (by rintro _ _ ⟨_,_⟩ _ _<;>simp only[M.CB,nb]<;>rfl)
def M.CG(l:ay)(s:Int×ay)(kn:Int×ay->Option R)(ke:Int×ay->Option R):Option R:=match s with
 |(i,x')=>bif decide (i<(↑l.length:Int)) then((M.GY l i x' (1,0)).bind λa=>nI x' [[D.int .i64 a.1]] 8 λb=>kn (i64.wrap (i+1),b)) else ke (i,x')
def M.Ia l s:=M.CG l s (λs=>some (Sum.inl s)) λt=>some (Sum.inr t)
def M.LD l s:=fJ (M.Ia l) s
def F.LD:LE X0 8:=le 5 (IV [dH 0 (pL false 5),dH 3 (pO 300000 0),dH 4 pI] [dH 300000 zbf]) (λx=>(x.1.2.2.1,x.2.1)) (λx s=>((x.1.1,(),s.1,()),(s.2,()))) (λx=> .leaf (Int×ay) (λt=>(Ex.exit 0,⟨[(0,GL 5 x.1.1),(3,V.own 300000 0),(4,jq t.1),(14,og false)],[(300000,Cell.arr false true 0 1 t.2)]⟩))) (λx=>M.CG x.1.1) [] [F.GY] (by rintro _ _ ⟨_,_⟩ _ _<;>simp only[nI,M.CG,nb]<;>rfl)
abbrev M.Oz(l:ay)(k:Int->Option R):=(M.wQ l).bind λd=>cond (!d) (k 0) ((M.LD l (0,[])).bind λa=>(idx a.2 (i64.wrap ((↑l.length:Int) - 1))).bind λe=>(a.2[(i64.wrap ((↑l.length:Int) - 1)).toNat]?).bind λc=>(jR .i64 c 0).bind λb=>k b)
def M.wR l:=M.Oz l some
def C.wR:=fTa S.wR (λx=>M.Oz x.1.1) [fe C.wQ] [F.LD]
abbrev M.dQ(n' qZ:Int)(yN yj:aC)(zU:ay)(k:Int×Int->Option R):=cond (n'==5) (k (1,6)) (cond (n'==13) (k (1,6)) (cond (n'==7) (k (0,6)) (cond (n'==8) (k (0,6)) (cond (n'==27) (k (0,6)) (cond (n'==6) (k (1,1)) (cond (n'==9) (k (1,1)) (cond (n'==10) (k (1,1)) (cond (n'==11) (k (1,1)) (cond (n'==20) (k (1,1)) (cond (n'==32) (k (1,1)) (cond (n'==40) (k (1,1)) (cond (n'==41) (k (1,1)) (cond (n'==12) (k (2,2)) (cond (n'==15) (k (2,2)) (cond (n'==29) (k (2,2)) (cond (n'==30) (k (2,2)) (cond (n'==14) (k (3,3)) (cond (n'==21) (cond (!yj==[]) (k (i64.wrap (qZ+1),7)) (k (qZ,6))) (cond (n'==23) (k (0,1)) (cond (n'==24) (k (0,1)) (cond (n'==28) (k (2,3)) (cond (n'==31) (k (4,4)) (cond (n'==33) (k (0,(↑zU.length:Int))) (cond (n'==45) (k (0,(↑zU.length:Int))) (cond (n'==42) (k (i64.wrap (1+i64.wrap (qZ.tdiv 3)),i64.wrap (1+i64.wrap (qZ.tdiv 3)))) (cond (n'==43) (k (i64.wrap (2+i64.wrap (qZ.tdiv 3)),i64.wrap (2+i64.wrap (qZ.tdiv 3)))) (cond (n'==44) (k (1,7)) (k (0,0)))))))))))))))))))))))))))))
def M.dZ n' qZ yN yj zU:=M.dQ n' qZ yN yj zU some
def C.dZ:=fTa S.dZ (λx=>M.dQ x.1.1.1 x.1.1.2.1 x.1.1.2.2.1 x.1.1.va.1 x.1.1.va.2.1)
abbrev M.OA(op':Int)(k:Bool->Option R):=cond (op'==60) (k true) (cond (op'==57) (k true) (cond (op'==58) (k true) (cond (op'==59) (k true) (cond (op'==55) (k true) (cond (op'==56) (k true) (cond (op'==99) (k true) (cond (op'==63) (k true) (cond (op'==48) (k true) (cond (op'==47) (k true) (cond (op'==50) (k true) (cond (op'==62) (k true) (cond (op'==49) (k true) (cond (op'==67) (k true) (cond (op'==46) (k true) (cond (op'==45) (k true) (cond (op'==44) (k true) (k false)))))))))))))))))
def M.BR op':=M.OA op' some
def C.BR:=fTa S.BR (λx=>M.OA x.1.1)
abbrev M.Ib(op':Int)(k:Bool->Option R):=cond (op'==54) (k true) ((M.dI op' 38 43).bind λa=>k a)
def M.uZ op':=M.Ib op' some
def C.uZ:=fTa S.uZ (λx=>M.Ib x.1.1) [fe C.dI]
abbrev M.fG(n' qZ:Int)(yN yj:aC)(zU:ay)(k:Bool->Option R):=cond (n'==9) (cond (qZ==51) (k true) (k (qZ==52))) (cond (n'==10) (cond (qZ==51) (k true) (k (qZ==52))) (cond (n'==11) (cond (qZ==55) (k true) (cond (qZ==56) (k true) (k (qZ==61)))) (cond (n'==12) ((M.BR qZ).bind λa=>k a) (cond (n'==15) ((M.uZ qZ).bind λd=>k d) (cond (n'==21) ((M.dI qZ 0 1).bind λb=>k b) (cond (n'==42) ((M.dI qZ 1 3).bind λc=>k c) (cond (n'==43) (cond (qZ==1) (k true) (k (qZ==3))) (k (qZ==0)))))))))
def M.fV n' qZ yN yj zU:=M.fG n' qZ yN yj zU some
def C.fV:=fTa S.fV (λx=>M.fG x.1.1.1 x.1.1.2.1 x.1.1.2.2.1 x.1.1.va.1 x.1.1.va.2.1) [fe C.BR,fe C.uZ,fe C.dI]
abbrev M.LG(b:Int)(k:Bool->Option R):=(M.dI b 97 122).bind λa=>cond a (k true) ((M.dI b 65 90).bind λc=>cond c (k true) (k (b==95)))
def M.tu b:=M.LG b some
def C.tu:=fTa S.tu (λx=>M.LG x.1.1) [fe C.dI]
abbrev M.OB(b:Int)(k:Bool->Option R):=(M.dI b 48 57).bind λa=>k a
def M.wS b:=M.OB b some
def C.wS:=fTa S.wS (λx=>M.OB x.1.1) [fe C.dI]
abbrev M.Ic(b:Int)(k:Bool->Option R):=(M.tu b).bind λc=>cond c (k true) ((M.wS b).bind λa=>k a)
def M.kV b:=M.Ic b some
def C.kV:=fTa S.kV (λx=>M.Ic x.1.1) [fe C.tu,fe C.wS]
def M.yX(s':aC)(s:Int)(kn:Int->Option R)(ke:(Unit)⊕(Int)->Option R):Option R:=match s with
 |i=>bif decide (i<(↑s'.length:Int)) then((idx s' i).bind λa=>(M.kV (i64.wrap (↑a.toNat:Int))).bind λb=>bif !b then(ke (.inl ())) else kn (i64.wrap (i+1))) else ke (.inr i)
def M.Ed s' s:=M.yX s' s (λs=>some (Sum.inl s)) λt=>some (Sum.inr t)
def M.Ie s' s:=fJ (M.Ed s') s
def F.Ie:LE X0 148:=le 2 (IV [dH 0 pS,dH 3 pI] []) (λx=>x.1.2.1) (λx s=>((x.1.1,s,()),())) (λx=> .sum (.leaf (Unit) (λt=>(Ex.ret,⟨[(2,og false)],[]⟩))) (.leaf (Int) (λt=>(Ex.exit 0,⟨[(0,sS x.1.1),(3,jq t),(7,og false)],[]⟩)))) (λx=>M.yX x.1.1) [fe C.kV] [] (by rintro _ _ _ _ _<;>simp only[M.yX,nb]<;>rfl)
abbrev M.JH(s':aC)(k:Bool->Option R):=(M.Ie s' 0).bind λb=>jX b (λf=>k false) λd=>letE d λg=>(M.dI ((↑s'.length:Int)) 1 12).bind λe=>cond e ((idx s' 0).bind λc=>(M.tu (i64.wrap (↑c.toNat:Int))).bind λa=>k a) (k false)
def M.xC s':=M.JH s' some
def C.xC:=fTa S.xC (λx=>M.JH x.1.1) [fe C.dI,fe C.tu] [F.Ie]
abbrev M.UU(k:ay->Option R):=k ([[D.str [66,69,71,73,78]],[D.str [69,78,68]],[D.str [102,117,110,99,116,105,111,110]],[D.str [105,102]],[D.str [101,108,115,101]],[D.str [119,104,105,108,101]],[D.str [102,111,114]],[D.str [100,111]],[D.str [98,114,101,97,107]],[D.str [99,111,110,116,105,110,117,101]],[D.str [110,101,120,116]],[D.str [101,120,105,116]],[D.str [114,101,116,117,114,110]],[D.str [100,101,108,101,116,101]],[D.str [105,110]],[D.str [112,114,105,110,116]],[D.str [112,114,105,110,116,102]]])
def M.zx:Option (ay):=M.UU some
def C.zx:=fTa S.zx (λx=>M.UU)
def M.EM(l:ay)(s':aC)(s:Int)(kn:Int->Option R)(ke:(Int)⊕(Int)->Option R):Option R:=match s with
 |i=>bif decide (i<(↑l.length:Int)) then((idx l i).bind λa=>(cStr a 0).bind λb=>bif b==s' then(ke (.inl i)) else kn (i64.wrap (i+1))) else ke (.inr i)
def M.JI l s' s:=M.EM l s' s (λs=>some (Sum.inl s)) λt=>some (Sum.inr t)
def M.OC l s' s:=fJ (M.JI l s') s
def F.OC:LE X0 153:=le 2 (IV [dH 0 (pL false 1),dH 1 pS,dH 5 pI] []) (λx=>x.1.2.2.1) (λx s=>((x.1.1,x.1.2.1,s,()),())) (λx=> .sum (.leaf (Int) (λt=>(Ex.ret,⟨[(4,jq t)],[]⟩))) (.leaf (Int) (λt=>(Ex.exit 0,⟨[(0,GL 1 x.1.1),(1,sS x.1.2.1),(5,jq t),(9,og false)],[]⟩)))) (λx=>M.EM x.1.1 x.1.2.1) [] [] (by rintro _ _ _ _ _<;>simp only[M.EM,nb]<;>rfl)
abbrev M.QV(l:ay)(s':aC)(k:Int->Option R):=(M.OC l s' 0).bind λb=>jX b (λc=>k c) λa=>letE a λd=>k (-1)
def M.zL l s':=M.QV l s' some
def C.zL:=fTa S.zL (λx=>M.QV x.1.1 x.1.2.1) [] [F.OC]
abbrev M.JJ(s':aC)(k:Int->Option R):=M.zx.bind λb=>(M.zL b s').bind λa=>cond (decide (a<0)) (k 0) (k (i64.wrap (10+a)))
def M.xE s':=M.JJ s' some
def C.xE:=fTa S.xE (λx=>M.JJ x.1.1) [fe C.zx,fe C.zL]
abbrev M.OD(k:ay->Option R):=k ([[D.str [97,116,97,110,50]],[D.str [99,108,111,115,101]],[D.str [99,111,115]],[D.str [101,120,112]],[D.str [103,115,117,98]],[D.str [105,110,100,101,120]],[D.str [105,110,116]],[D.str [108,101,110,103,116,104]],[D.str [108,111,103]],[D.str [109,97,116,99,104]],[D.str [114,97,110,100]],[D.str [115,105,110]],[D.str [115,112,108,105,116]],[D.str [115,112,114,105,110,116,102]],[D.str [115,113,114,116]],[D.str [115,114,97,110,100]],[D.str [115,117,98]],[D.str [115,117,98,115,116,114]],[D.str [115,121,115,116,101,109]],[D.str [116,111,108,111,119,101,114]],[D.str [116,111,117,112,112,101,114]]])
def M.yJ:Option (ay):=M.OD some
def C.yJ:=fTa S.yJ (λx=>M.OD)
abbrev M.JK(s':aC)(k:Bool->Option R):=M.yJ.bind λb=>(M.zL b s').bind λa=>k (decide (a>=0))
def M.nK s':=M.JK s' some
def C.nK:=fTa S.nK (λx=>M.JK x.1.1) [fe C.yJ,fe C.zL]
abbrev M.QW(s':aC)(k:Bool->Option R):=(M.xC s').bind λc=>cond c ((M.xE s').bind λa=>cond (a==0) ((M.nK s').bind λb=>k !b) (k false)) (k false)
def M.lN s':=M.QW s' some
def C.lN:=fTa S.lN (λx=>M.QW x.1.1) [fe C.xC,fe C.xE,fe C.nK]
def M.CJ(s':aC)(s:Int)(kn:Int->Option R)(ke:(Unit)⊕(Int)->Option R):Option R:=match s with
 |i=>bif decide (i<(↑s'.length:Int)) then((idx s' i).bind λa=>bif(↑a.toNat:Int)==10 then(ke (.inl ())) else kn (i64.wrap (i+1))) else ke (.inr i)
def M.CO s' s:=M.CJ s' s (λs=>some (Sum.inl s)) λt=>some (Sum.inr t)
def M.LH s' s:=fJ (M.CO s') s
def F.LH:LE X0 76:=le 2 (IV [dH 0 pS,dH 3 pI] []) (λx=>x.1.2.1) (λx s=>((x.1.1,s,()),())) (λx=> .sum (.leaf (Unit) (λt=>(Ex.ret,⟨[(2,og false)],[]⟩))) (.leaf (Int) (λt=>(Ex.exit 0,⟨[(0,sS x.1.1),(3,jq t),(7,og false)],[]⟩)))) (λx=>M.CJ x.1.1) [] [] (by rintro _ _ _ _ _<;>simp only[M.CJ,nb]<;>rfl)
abbrev M.OE(s':aC)(k:Bool->Option R):=(M.LH s' 0).bind λa=>jX a (λd=>k false) λb=>letE b λc=>k true
def M.wU s':=M.OE s' some
def C.wU:=fTa S.wU (λx=>M.OE x.1.1) [] [F.LH]
abbrev M.QX(s':aC)(at':Int)(k:Int->Option R):=cond (decide (at'<0)) (k (-1)) (cond (decide (at'>=(↑s'.length:Int))) (k (-1)) ((idx s' at').bind λa=>k (i64.wrap (↑a.toNat:Int))))
def M.jK s' at':=M.QX s' at' some
def C.jK:=fTa S.jK (λx=>M.QX x.1.1 x.1.2.1)
def M.F6(s':aC)(s:Int)(kn:Int->Option R)(ke:Int->Option R):Option R:=match s with
 |at'=>(M.jK s' at').bind λb=>(M.wS b).bind λa=>bif a then(kn (i64.wrap (at'+1))) else ke at'
def M.UW s' s:=M.F6 s' s (λs=>some (Sum.inl s)) λt=>some (Sum.inr t)
def M.JL s' s:=fJ (M.UW s') s
def F.JL:LE X0 181:=le 1 (IV [dH 0 pS,dH 1 pI] []) (λx=>x.1.2.1) (λx s=>((x.1.1,s,()),())) (λx=> .leaf (Int) (λt=>(Ex.exit 0,⟨[(0,sS x.1.1),(1,jq t),(8,og false)],[]⟩))) (λx=>M.F6 x.1.1) [fe C.jK,fe C.wS] [] (by rintro _ _ _ _ _<;>simp only[M.F6,nb]<;>rfl)
abbrev M.LJ(s':aC)(at':Int)(k:Int->Option R):=(M.JL s' at').bind λa=>k a
def M.fC s' at':=M.LJ s' at' some
def C.fC:=fTa S.fC (λx=>M.LJ x.1.1 x.1.2.1) [] [F.JL]
abbrev M.xI(s':aC)(MR:Int)(k:Int->Option R):=(M.jK s' (i64.wrap (MR+1))).bind λa=>cond (a==43) ((M.fC s' (i64.wrap (i64.wrap (MR+1)+1))).bind λf=>cond (decide (f>i64.wrap (i64.wrap (MR+1)+1))) ((M.fC s' (i64.wrap (i64.wrap (MR+1)+1))).bind λh=>k h) (k MR)) ((M.jK s' (i64.wrap (MR+1))).bind λd=>cond (d==45) ((M.fC s' (i64.wrap (i64.wrap (MR+1)+1))).bind λg=>cond (decide (g>i64.wrap (i64.wrap (MR+1)+1))) ((M.fC s' (i64.wrap (i64.wrap (MR+1)+1))).bind λc=>k c) (k MR)) ((M.fC s' (i64.wrap (MR+1))).bind λb=>cond (decide (b>i64.wrap (MR+1))) ((M.fC s' (i64.wrap (MR+1))).bind λe=>k e) (k MR)))
def M.QY(s':aC)(at':Int)(k:Int->Option R):=cond (decide (at'<0)) (k (-1)) ((M.fC s' at').bind λa=>(M.jK s' a).bind λf=>cond (f==46) ((M.fC s' (i64.wrap (a+1))).bind λb=>cond (a==at') (cond (b==i64.wrap (a+1)) (k (-1)) (cond (b==at') (k (-1)) ((M.jK s' b).bind λg=>cond (g==101) (M.xI s' b k) ((M.jK s' b).bind λd=>cond (d==69) (M.xI s' b k) (k b))))) (cond (b==at') (k (-1)) ((M.jK s' b).bind λc=>cond (c==101) (M.xI s' b k) ((M.jK s' b).bind λe=>cond (e==69) (M.xI s' b k) (k b))))) (cond (a==at') (k (-1)) ((M.jK s' a).bind λi=>cond (i==101) (M.xI s' a k) ((M.jK s' a).bind λh=>cond (h==69) (M.xI s' a k) (k a)))))
def M.Fz s' at':=M.QY s' at' some
def C.Fz:S.Fz.ok X0 λx=>M.Fz x.1.1 x.1.2.1:=fnS (λx=>M.QY x.1.1 x.1.2.1) [fe C.fC,fe C.jK] [] (by intros;unfold M.QY M.xI;exact zbC)
def M.wu(s':aC)(sign s:Int)(kn:Int->Option R)(ke:(Int)⊕(Int)->Option R):Option R:=match s with
 |i=>bif decide (i<(↑s'.length:Int)) then((idx s' i).bind λa=>bif i64.wrap (↑a.toNat:Int)==sign then(ke (.inl (i64.wrap (i+1)))) else bif i64.wrap (↑a.toNat:Int)==10 then(ke (.inl (-1))) else bif i64.wrap (↑a.toNat:Int)==92 then((M.jK s' (i64.wrap (i+1))).bind λb=>bif b==10 then(ke (.inl (-1))) else kn (i64.wrap (i64.wrap (i+1)+1))) else kn (i64.wrap (i+1))) else ke (.inr i)
def M.Aj s' sign s:=M.wu s' sign s (λs=>some (Sum.inl s)) λt=>some (Sum.inr t)
def M.wz s' sign s:=fJ (M.Aj s' sign) s
def F.wz:LE X0 183:=le 4 (IV [dH 0 pS,dH 2 pI,dH 7 pI] []) (λx=>x.1.2.2.1) (λx s=>((x.1.1,x.1.2.1,s,()),())) (λx=> .sum (.leaf (Int) (λt=>(Ex.ret,⟨[(6,jq t)],[]⟩))) (.leaf (Int) (λt=>(Ex.exit 0,⟨[(0,sS x.1.1),(2,jq x.1.2.1),(7,jq t),(18,og false)],[]⟩)))) (λx=>M.wu x.1.1 x.1.2.1) [fe C.jK] [] (by rintro _ _ _ _ _<;>simp only[M.wu,nb]<;>rfl)
abbrev M.LK(s':aC)(at' sign:Int)(k:Int->Option R):=(M.jK s' at').bind λa=>cond (a !=sign) (k (-1)) ((M.wz s' sign (i64.wrap (at'+1))).bind λc=>jX c (λb=>k b) λd=>letE d λe=>k (-1))
def M.tC s' at' sign:=M.LK s' at' sign some
def C.tC:=fTa S.tC (λx=>M.LK x.1.1 x.1.2.1 x.1.2.2.1) [fe C.jK] [F.wz]
abbrev M.QZ(s':aC)(at':Int)(k:Int->Option R):=(M.tC s' at' 34).bind λa=>k a
def M.FC s' at':=M.QZ s' at' some
def C.FC:=fTa S.FC (λx=>M.QZ x.1.1 x.1.2.1) [fe C.tC]
abbrev M.Q5(s':aC)(at':Int)(k:Int->Option R):=(M.tC s' at' 47).bind λa=>cond (a==i64.wrap (at'+2)) (k (-1)) (k a)
def M.FD s' at':=M.Q5 s' at' some
def C.FD:=fTa S.FD (λx=>M.Q5 x.1.1 x.1.2.1) [fe C.tC]
abbrev M.UY(k:ay->Option R):=k ([[D.str [123]],[D.str [125]],[D.str [40]],[D.str [41]],[D.str [91]],[D.str [93]],[D.str [44]],[D.str [59]],[D.str [43,61]],[D.str [45,61]],[D.str [42,61]],[D.str [47,61]],[D.str [37,61]],[D.str [94,61]],[D.str [124,124]],[D.str [38,38]],[D.str [33,126]],[D.str [61,61]],[D.str [60,61]],[D.str [62,61]],[D.str [33,61]],[D.str [43,43]],[D.str [45,45]],[D.str [62,62]],[D.str [61]],[D.str [43]],[D.str [45]],[D.str [42]],[D.str [47]],[D.str [37]],[D.str [94]],[D.str [33]],[D.str [62]],[D.str [60]],[D.str [124]],[D.str [63]],[D.str [58]],[D.str [126]],[D.str [36]]])
def M.zy:Option (ay):=M.UY some
def C.zy:=fTa S.zy (λx=>M.UY)
abbrev M.OG(kind:Int)(k:aC->Option R):=cond (kind==1) (k [10]) ((M.dI kind 10 26).bind λe=>cond e (M.zx.bind λh=>(idx h (i64.wrap (kind - 10))).bind λi=>(h[(i64.wrap (kind - 10)).toNat]?).bind λd=>(cStr d 0).bind λc=>k c) ((M.dI kind 30 68).bind λa=>cond a (M.zy.bind λg=>(idx g (i64.wrap (kind - 30))).bind λj=>(g[(i64.wrap (kind - 30)).toNat]?).bind λf=>(cStr f 0).bind λb=>k b) (k [])))
def M.kH kind:=M.OG kind some
def C.kH:=fTa S.kH (λx=>M.OG x.1.1) [fe C.dI,fe C.zx,fe C.zy]
abbrev M.OH(t':Int)(Ht:aC)(Us:Int)(k:Bool->Option R):=cond (t'==2) (cond (decide ((↑Ht.length:Int)>0)) ((idx Ht 0).bind λd=>cond ((↑d.toNat:Int)==35) ((M.wU Ht).bind λh=>k h) (k false)) (k false)) (cond (t'==3) (cond (decide ((↑Ht.length:Int)>0)) ((M.Fz Ht 0).bind λb=>k (b==(↑Ht.length:Int))) (k false)) (cond (t'==4) ((M.FC Ht 0).bind λa=>k (a==(↑Ht.length:Int))) (cond (t'==5) ((M.FD Ht 0).bind λc=>k (c==(↑Ht.length:Int))) (cond (t'==6) ((M.lN Ht).bind λe=>k e) (cond (t'==7) ((M.lN Ht).bind λi=>k i) (cond (t'==8) ((M.nK Ht).bind λg=>k g) (cond (!Ht==[]) ((M.kH t').bind λf=>k (f==Ht)) (k false))))))))
def M.pW t' Ht Us:=M.OH t' Ht Us some
def C.pW:=fTa S.pW (λx=>M.OH x.1.1.1 x.1.1.2.1 x.1.1.2.2.1) [fe C.wU,fe C.Fz,fe C.FC,fe C.FD,fe C.lN,fe C.nK,fe C.kH]
abbrev M.dR(n' qZ:Int)(yN yj:aC)(zU:ay)(k:Bool->Option R):=cond (n'==1) ((M.lN yN).bind λj=>cond j (k (yj==[])) (k false)) (cond (n'==5) ((M.lN yN).bind λl=>cond l (k (yj==[])) (k false)) (cond (n'==7) ((M.lN yN).bind λh=>cond h (k (yj==[])) (k false)) (cond (n'==13) ((M.lN yN).bind λn=>cond n (k (yj==[])) (k false)) (cond (n'==27) ((M.lN yN).bind λe=>cond e (k (yj==[])) (k false)) (cond (n'==44) ((M.lN yN).bind λb=>cond b (k (yj==[])) (k false)) (cond (n'==2) ((M.pW 3 yN 0).bind λd=>cond d (k (yj==[])) (k false)) (cond (n'==3) ((M.pW 4 yN 0).bind λf=>cond f (k (yj==[])) (k false)) (cond (n'==4) ((M.pW 5 yN 0).bind λc=>cond c (k (yj==[])) (k false)) (cond (n'==34) ((M.pW 2 yN 0).bind λa=>cond a (k (yj==[])) (k false)) (cond (n'==8) ((M.nK yN).bind λm=>cond m (k (yj==[])) (k false)) (cond (n'==32) ((M.lN yN).bind λg=>cond g ((M.lN yj).bind λi=>k i) (k false)) (cond (n'==21) (cond (yN==[]) (cond (yj==[]) (k true) (cond (yj==[62]) (k true) (cond (yj==[62,62]) (k true) (k (yj==[124]))))) (k false)) (cond (yN==[]) (k (yj==[])) (k false))))))))))))))
def M.dW n' qZ yN yj zU:=M.dR n' qZ yN yj zU some
def C.dW:=fTa S.dW (λx=>M.dR x.1.1.1 x.1.1.2.1 x.1.1.2.2.1 x.1.1.va.1 x.1.1.va.2.1) [fe C.lN,fe C.pW,fe C.nK]
abbrev M.bY(n' qZ:Int)(yN yj:aC)(zU:ay)(k:Bool->Option R):=(M.dZ n' qZ yN yj zU).bind λa=>(M.dI n' 1 16).bind λg=>cond g ((M.fV n' qZ yN yj zU).bind λc=>cond c ((M.dW n' qZ yN yj zU).bind λm=>cond m ((M.dI ((↑zU.length:Int)) a.1 a.2).bind λd=>k d) (k false)) (k false)) ((M.dI n' 20 34).bind λl=>cond l ((M.fV n' qZ yN yj zU).bind λb=>cond b ((M.dW n' qZ yN yj zU).bind λh=>cond h ((M.dI ((↑zU.length:Int)) a.1 a.2).bind λe=>k e) (k false)) (k false)) ((M.dI n' 40 45).bind λf=>cond f ((M.fV n' qZ yN yj zU).bind λi=>cond i ((M.dW n' qZ yN yj zU).bind λj=>cond j ((M.dI ((↑zU.length:Int)) a.1 a.2).bind λn=>k n) (k false)) (k false)) (k false)))
def M.bJ n' qZ yN yj zU:=M.bY n' qZ yN yj zU some
def C.bJ:=fTa S.bJ (λx=>M.bY x.1.1.1 x.1.1.2.1 x.1.1.2.2.1 x.1.1.va.1 x.1.1.va.2.1) [fe C.dZ,fe C.dI,fe C.fV,fe C.dW]
abbrev M.LM(kind:Int)(k:Bool->Option R):=cond (kind==1) (k true) (cond (kind==5) (k true) (k (kind==6)))
def M.tH kind:=M.LM kind some
def C.tH:=fTa S.tH (λx=>M.LM x.1.1)
abbrev M.Q7(kind:Int)(k:Bool->Option R):=(M.dI kind 1 15).bind λa=>k a
def M.kJ kind:=M.Q7 kind some
def C.kJ:=fTa S.kJ (λx=>M.Q7 x.1.1) [fe C.dI]
abbrev M.Q8(kind:Int)(k:Bool->Option R):=(M.dI kind 20 34).bind λa=>k a
def M.FH kind:=M.Q8 kind some
def C.FH:=fTa S.FH (λx=>M.Q8 x.1.1) [fe C.dI]
abbrev M.bZ(qZ k':Int)(zU:ay)(kind:Int)(k:Bool->Option R):=cond (qZ==3) (cond (k'==i64.wrap ((↑zU.length:Int) - 1)) (cond (kind==33) (k true) (cond (!k'==i64.wrap ((↑zU.length:Int) - 1)) ((M.kJ kind).bind λa=>k a) (k false))) (cond (!k'==i64.wrap ((↑zU.length:Int) - 1)) ((M.kJ kind).bind λb=>k b) (k false))) (k false)
def M.dX(n' qZ:Int)(yN yj:aC)(zU:ay)(k' kind:Int)(k:Bool->Option R):=cond (n'==9) ((M.tH kind).bind λj=>k j) (cond (n'==10) ((M.tH kind).bind λb=>k b) (cond (n'==15) ((M.kJ kind).bind λf=>cond f (cond (decide (k'>0)) (k true) ((M.tH kind).bind λa=>k a)) (k false)) (cond (n'==28) (cond (k'==0) ((M.kJ kind).bind λh=>cond h (k true) (cond (decide (k'>0)) (k (kind==33)) (k false))) (cond (decide (k'>0)) (k (kind==33)) (k false))) (cond (n'==29) (cond (k'==0) ((M.kJ kind).bind λc=>cond c (k true) (cond (k'==1) (k (kind==33)) (k false))) (cond (k'==1) (k (kind==33)) (k false))) (cond (n'==30) (cond (k'==0) (cond (kind==33) (k true) (cond (k'==1) ((M.kJ kind).bind λo=>k o) (k false))) (cond (k'==1) ((M.kJ kind).bind λn=>k n) (k false))) (cond (n'==31) (cond (decide (k'<3)) ((M.kJ kind).bind λm=>cond m (k true) (cond (kind==16) (k true) (cond (k'==3) (k (kind==33)) (k false)))) (cond (k'==3) (k (kind==33)) (k false))) (cond (n'==32) (k (kind==33)) (cond (n'==40) (k (kind==33)) (cond (n'==41) (k (kind==33)) (cond (n'==33) ((M.FH kind).bind λi=>k i) (cond (n'==42) (cond (qZ==1) ((M.kJ kind).bind λd=>cond d (k true) (cond (qZ==2) (cond (kind==33) (k true) (M.bZ qZ k' zU kind k)) (M.bZ qZ k' zU kind k))) (cond (qZ==2) (cond (kind==33) (k true) (M.bZ qZ k' zU kind k)) (M.bZ qZ k' zU kind k))) (cond (n'==43) (cond (decide (k'<2)) ((M.kJ kind).bind λl=>cond l (k true) (cond (k'==2) (k (kind==33)) (k false))) (cond (k'==2) (k (kind==33)) (k false))) (cond (n'==44) (cond (k'==i64.wrap ((↑zU.length:Int) - 1)) (cond (kind==33) (k true) (cond (!k'==i64.wrap ((↑zU.length:Int) - 1)) (k (kind==1)) (k false))) (cond (!k'==i64.wrap ((↑zU.length:Int) - 1)) (k (kind==1)) (k false))) (cond (n'==45) ((M.dI kind 40 44).bind λe=>cond e (k true) (k (kind==34))) ((M.kJ kind).bind λg=>k g)))))))))))))))
def M.dN n' qZ yN yj zU k' kind:=M.dX n' qZ yN yj zU k' kind some
def C.dN:S.dN.ok X0 λx=>oJ M.dN x.1.1 x.1.2.1 x.1.2.2.1:=fnS (λx=>M.dX x.1.1.1 x.1.1.2.1 x.1.1.2.2.1 x.1.1.va.1 x.1.1.va.2.1 x.1.2.1 x.1.2.2.1) [fe C.tH,fe C.kJ,fe C.FH,fe C.dI] [] (by intros;unfold M.dX M.bZ;exact zbC)
def M.EN(l:ay)(i s:Int)(kn:Int->Option R)(ke:(Unit)⊕(Int)->Option R):Option R:=match s with
 |k'=>(idx l i).bind λh=>(cSl 1 h 4).bind λk=>bif decide (k'<(↑k.length:Int)) then((idx l i).bind λj=>Oh 1 j λaWn aWo aWp aWq aDY=>((idx l i).bind λf=>(cSl 1 f 4).bind λc=>(idx c k').bind λd=>(jR .i64 d 0).bind λb=>(idx l b).bind λe=>(jR .i64 e 0).bind λa=>(M.dN aWn aWo aWp aWq aDY k' a).bind λg=>bif !g then(ke (.inl ())) else kn (i64.wrap (k'+1)))) else ke (.inr k')
def M.Qr l i s:=M.EN l i s (λs=>some (Sum.inl s)) λt=>some (Sum.inr t)
def M.I9 l i s:=fJ (M.Qr l i) s
def F.I9:LE X0 20:=le 9 (IV [dH 0 (pL false 5),dH 3 pI,dH 4 pI] []) (λx=>x.1.2.2.1) (λx s=>((x.1.1,x.1.2.1,s,()),())) (λx=> .sum (.leaf (Unit) (λt=>(Ex.ret,⟨[(2,og false)],[]⟩))) (.leaf (Int) (λt=>(Ex.exit 2,⟨[(0,GL 5 x.1.1),(3,jq x.1.2.1),(4,jq t),(32,og false)],[]⟩)))) (λx=>M.EN x.1.1 x.1.2.1) [fe C.dN] [] (by rintro _ _ _ _ _<;>simp only[Oh,M.EN,nb]<;>rfl)
def M.EO(l:ay)(s:Int)(kn:Int->Option R)(ke:(Unit)⊕(Int)->Option R):Option R:=match s with
 |i=>bif decide (i<(↑l.length:Int)) then((idx l i).bind λa=>Oh 1 a λn294 n295 aWu aWv aD0=>((M.bJ n294 n295 aWu aWv aD0).bind λb=>bif !b then(ke (.inl ())) else (M.I9 l i 0).bind λc=>jX c (λe=>ke (.inl ())) λd=>letE d λf=>kn (i64.wrap (i+1)))) else ke (.inr i)
def M.Qs l s:=M.EO l s (λs=>some (Sum.inl s)) λt=>some (Sum.inr t)
def M.Ja l s:=fJ (M.Qs l) s
def F.Ja:LE X0 20:=le 4 (IV [dH 0 (pL false 5),dH 3 pI] []) (λx=>x.1.2.1) (λx s=>((x.1.1,s,()),())) (λx=> .sum (.leaf (Unit) (λt=>(Ex.ret,⟨[(2,og false)],[]⟩))) (.leaf (Int) (λt=>(Ex.exit 0,⟨[(0,GL 5 x.1.1),(3,jq t),(16,og false)],[]⟩)))) (λx=>M.EO x.1.1) [fe C.bJ] [F.I9] (by rintro _ _ _ _ _<;>simp only[Oh,M.EO,nb]<;>rfl)
abbrev M.Q9(l:ay)(k:Bool->Option R):=(M.wQ l).bind λa=>cond (!a) (k false) ((M.wR l).bind λd=>cond (decide (d>40)) (k false) ((M.Ja l 0).bind λb=>jX b (λf=>k false) λc=>letE c λe=>k true))
def M.zM l:=M.Q9 l some
def C.zM:=fTa S.zM (λx=>M.Q9 x.1.1) [fe C.wQ,fe C.wR] [F.Ja]
abbrev M.Rf(l:ay)(k:Bool->Option R):=(M.zM l).bind λc=>cond c ((idx l (i64.wrap ((↑l.length:Int) - 1))).bind λa=>(jR .i64 a 0).bind λb=>(M.kJ b).bind λd=>k d) (k false)
def M.I5 l:=M.Rf l some
def C.I5:=fTa S.I5 (λx=>M.Rf x.1.1) [fe C.zM,fe C.kJ]
abbrev M.Ub(p:Int)(p1 p2 p3 p4:Bool)(k:Bool->Option R):=(M.dI p 1 15).bind λa=>cond a (cond (!p1) (k true) (k (p==14))) (k false)
def M.vY p p1 p2 p3 p4:=M.Ub p p1 p2 p3 p4 some
def C.vY:=fTa S.vY (λx=>M.Ub x.1.1.1 x.1.1.2.1 x.1.1.2.2.1 x.1.1.va.1 x.1.1.va.2.1) [fe C.dI]
abbrev M.OI(op':Int)(k:Int->Option R):=cond (op'==44) (k 3) (cond (op'==45) (k 4) (cond (op'==67) (k 6) (cond (op'==46) (k 6) (cond (op'==63) (k 7) (cond (op'==48) (k 7) (cond (op'==47) (k 7) (cond (op'==50) (k 7) (cond (op'==62) (k 7) (cond (op'==49) (k 7) (cond (op'==99) (k 8) (cond (op'==55) (k 9) (cond (op'==56) (k 9) (cond (op'==57) (k 10) (cond (op'==58) (k 10) (cond (op'==59) (k 10) (cond (op'==60) (k 12) (k 0)))))))))))))))))
def M.tZ op':=M.OI op' some
def C.tZ:=fTa S.tZ (λx=>M.OI x.1.1)
abbrev M.OJ(n' qZ:Int)(yN yj:aC)(zU:ay)(k:Int->Option R):=cond (n'==15) (k 1) (cond (n'==14) (k 2) (cond (n'==13) (k 5) (cond (n'==12) ((M.tZ qZ).bind λa=>k a) (cond (n'==11) (k 11) (cond (n'==9) (k 13) (cond (n'==10) (k 13) (cond (n'==6) (k 14) (cond (n'==1) (k 15) (cond (n'==2) (k 15) (cond (n'==3) (k 15) (cond (n'==4) (k 15) (cond (n'==5) (k 15) (cond (n'==7) (k 15) (cond (n'==8) (k 15) (k 0)))))))))))))))
def M.lX n' qZ yN yj zU:=M.OJ n' qZ yN yj zU some
def C.lX:=fTa S.lX (λx=>M.OJ x.1.1.1 x.1.1.2.1 x.1.1.2.2.1 x.1.1.va.1 x.1.1.va.2.1) [fe C.tZ]
abbrev M.CP(p4:Bool)(n':Int)(k:Bool->Option R)(p1:Bool)(qZ:Int)(yN yj:aC)(zU:ay)(p:Int):=cond p4 (cond (n'==11) (k false) (cond (n'==9) (k false) (cond (n'==4) (k false) (cond p1 (cond (n'==9) (k true) ((M.lX n' qZ yN yj zU).bind λd=>k (decide (d>=p)))) ((M.lX n' qZ yN yj zU).bind λc=>k (decide (c>=p))))))) (cond p1 (cond (n'==9) (k true) ((M.lX n' qZ yN yj zU).bind λb=>k (decide (b>=p)))) ((M.lX n' qZ yN yj zU).bind λa=>k (decide (a>=p))))
def M.VR(n' qZ:Int)(yN yj:aC)(zU:ay)(p:Int)(p1 p2 p3 p4:Bool)(k:Bool->Option R):=(M.vY p p1 p2 p3 p4).bind λb=>cond (!b) (k false) ((M.lX n' qZ yN yj zU).bind λa=>cond (a==0) (k false) (cond p2 (cond (n'==13) (k false) (cond p3 (cond (n'==12) (cond (qZ==62) (k false) (M.CP p4 n' k p1 qZ yN yj zU p)) (M.CP p4 n' k p1 qZ yN yj zU p)) (M.CP p4 n' k p1 qZ yN yj zU p))) (cond p3 (cond (n'==12) (cond (qZ==62) (k false) (M.CP p4 n' k p1 qZ yN yj zU p)) (M.CP p4 n' k p1 qZ yN yj zU p)) (M.CP p4 n' k p1 qZ yN yj zU p))))
def M.Ho n' qZ yN yj zU p p1 p2 p3 p4:=M.VR n' qZ yN yj zU p p1 p2 p3 p4 some
def C.Ho:S.Ho.ok X0 λx=>oJ (oJ M.Ho x.1.1) x.1.2.1:=fnS (λx=>M.VR x.1.1.1 x.1.1.2.1 x.1.1.2.2.1 x.1.1.va.1 x.1.1.va.2.1 x.1.2.1.1 x.1.2.1.2.1 x.1.2.1.2.2.1 x.1.2.1.va.1 x.1.2.1.va.2.1) [fe C.vY,fe C.lX] [] (by intros;unfold M.VR M.CP;exact zbC)
abbrev M.bW(n' qZ:Int)(yN yj:aC)(zU:ay)(k:Int×aC×Int->Option R):=cond (n'==1) (k (6,yN,0)) (cond (n'==2) (k (3,yN,0)) (cond (n'==3) (k (4,yN,0)) (cond (n'==4) (k (5,yN,0)) (k (0,[],0)))))
def M.cZ n' qZ yN yj zU:=M.bW n' qZ yN yj zU some
def C.cZ:=fTa S.cZ (λx=>M.bW x.1.1.1 x.1.1.2.1 x.1.1.2.2.1 x.1.1.va.1 x.1.1.va.2.1)
abbrev M.OL(s':aC)(k:ay->Option R):=k ([[D.int .i64 1,D.int .i64 0,D.str s',D.sl true 1 []]])
def M.eX s':=M.OL s' some
def C.eX:=fTa S.eX (λx=>M.OL x.1.1)
abbrev M.OM(k:ay->Option R):=k ([[D.int .i64 2,D.int .i64 0,D.str [],D.sl true 1 []]])
def M.wV:Option (ay):=M.OM some
def C.wV:=fTa S.wV (λx=>M.OM)
end
noncomputable section
variable {R:Type}
def M.Ak(l:ay)(by' i:Int)(x':ay)(qY uV:Int)(x8:aC)(s:Int×ay)(kn:Int×ay->Option R)(ke:Int×ay->Option R):Option R:=match s with
 |(k',Ae)=>(idx l i).bind λb=>(cSl 1 b 3).bind λd=>bif decide (k'<(↑d.length:Int)) then((idx l i).bind λf=>(cSl 1 f 3).bind λa=>(idx a k').bind λe=>(jR .i64 e 0).bind λc=>nI Ae [[D.int .i64 (i64.wrap (c+by'))]] 8 λg=>kn (i64.wrap (k'+1),g)) else ke (k',Ae)
def M.F7 l by' i x' qY uV x8 s:=M.Ak l by' i x' qY uV x8 s (λs=>some (Sum.inl s)) λt=>some (Sum.inr t)
def M.JM l by' i x' qY uV x8 s:=fJ (M.F7 l by' i x' qY uV x8) s
def F.JM:LE X0 88:=le 8 (IV [dH 0 (pL false 4),dH 1 pI,dH 5 (pO 300000 0),dH 6 pI,dH 7 (pP 300001 0),dH 8 pI] zbu) (λx=>(x.1.va.2.2.1,x.va.1)) (λx s=>((x.1.1,x.1.2.1,(),x.1.va.1,(),s.1,()),(x.2.1,(x.2.2.1.1,x.2.2.1.2.1,x.2.2.1.2.2.1,(),()),s.2,()))) (λx=> .leaf (Int×ay) (λt=>(Ex.exit 2,⟨[(0,GL 4 x.1.1),(1,jq x.1.2.1),(5,V.own 300000 0),(6,jq x.1.va.1),(7,V.ptr 300001 0),(8,jq t.1),(29,og false)],[(300000,Cell.arr false false 0 4 x.2.1),(300001,Cell.box 58 [jq x.2.2.1.1,jq x.2.2.1.2.1,sS x.2.2.1.2.2.1,V.own 300002 0]),(300002,Cell.arr false true 0 1 t.2)]⟩))) (λx=>M.Ak x.1.1 x.1.2.1 x.1.va.1 x.2.1 x.2.2.1.1 x.2.2.1.2.1 x.2.2.1.2.2.1) [] [] (by rintro _ _ ⟨_,_⟩ _ _<;>simp only[nI,M.Ak,nb]<;>rfl)
def M.Am(l:ay)(by':Int)(s:Int×ay)(kn:Int×ay->Option R)(ke:Int×ay->Option R):Option R:=match s with
 |(i,x')=>bif decide (i<(↑l.length:Int)) then((idx l i).bind λa=>(jR .i64 a 0).bind λe=>(jR .i64 a 1).bind λd=>(cStr a 2).bind λb=>(cSl 1 a 3).bind λf=>(M.JM l by' i x' e d b (0,[])).bind λc=>bif aj c.2 then(nI x' [[D.int .i64 e,D.int .i64 d,D.str b,D.sl true 1 c.2]] 56 λg=>kn (i64.wrap (i+1),g)) else none) else ke (i,x')
def M.F8 l by' s:=M.Am l by' s (λs=>some (Sum.inl s)) λt=>some (Sum.inr t)
def M.JO l by' s:=fJ (M.F8 l by') s
def F.JO:LE X0 88:=le 3 (IV [dH 0 (pL false 4),dH 1 pI,dH 5 (pO 300000 0),dH 6 pI] [dH 300000 (cA false false 0 4)]) (λx=>(x.1.va.1,x.2.1)) (λx s=>((x.1.1,x.1.2.1,(),s.1,()),(s.2,()))) (λx=> .leaf (Int×ay) (λt=>(Ex.exit 0,⟨[(0,GL 4 x.1.1),(1,jq x.1.2.1),(5,V.own 300000 0),(6,jq t.1),(13,og false)],[(300000,Cell.arr false false 0 4 t.2)]⟩))) (λx=>M.Am x.1.1 x.1.2.1) [] [F.JM] (by rintro _ _ ⟨_,_⟩ _ _<;>simp only[nI,M.Am,nb]<;>rfl)
abbrev M.LP(l:ay)(by':Int)(k:ay->Option R):=(M.JO l by' (0,[])).bind λa=>k a.2
def M.tJ l by':=M.LP l by' some
def C.tJ:=fTa S.tJ (λx=>M.LP x.1.1 x.1.2.1) [] [F.JO]
def M.yt(s:zaF⊕zaG)(kn:zaF⊕zaG->Option R)(ke:zaF⊕zaG->Option R):Option R:=match s with
 | .inl (parts,k',x',qY,uV,x8)=>bif decide (k'<(↑parts.length:Int)) then((idx parts k').bind λb=>(cSl 4 b 0).bind λf=>(M.tJ f ((↑x'.length:Int))).bind λa=>nI x' a 56 λza=>kn (.inr (parts,i64.wrap (k'+1),za,qY,uV,x8,[[D.int .i64 (i64.wrap ((↑za.length:Int) - 1))]]))) else(ke (.inl (parts,k',x',qY,uV,x8)))
 | .inr (parts,k',x',qY,uV,x8,Ae)=>bif decide (k'<(↑parts.length:Int)) then((idx parts k').bind λe=>(cSl 4 e 0).bind λc=>(M.tJ c ((↑x'.length:Int))).bind λd=>nI x' d 56 λza=>nI Ae [[D.int .i64 (i64.wrap ((↑za.length:Int) - 1))]] 8 λg=>kn (.inr (parts,i64.wrap (k'+1),za,qY,uV,x8,g))) else ke (.inr (parts,k',x',qY,uV,x8,Ae))
def M.CQ s:=M.yt s (λs=>some (Sum.inl s)) λt=>some (Sum.inr t)
def M.LQ s:=fJ (M.CQ) s
def F.LQ:LE X0 50:=le 4 (pOr (IV zbA [dH 300000 (cA false false 0 4),dH 300001 (cB 58 [pI,pI,pS,Xm 1])]) (IV zbA zbu)) (σ:=zaF⊕zaG) (λx=>(match x with| .inl x=> .inl ((x.1.1,x.1.va.1,x.2.1,x.2.2.1.1,x.2.2.1.2.1,x.2.2.1.2.2.1))| .inr x=> .inr ((x.1.1,x.1.va.1,x.2.1,x.2.2.1.1,x.2.2.1.2.1,x.2.2.1.2.2.1,x.va.1)))) (λx s=>(match s with| .inl s=> .inl (((s.1,(),(),s.2.1,()),(s.2.2.1,(s.va.1,s.va.2.1,s.va.2.2,(),()),())))| .inr s=> .inr (((s.1,(),(),s.2.1,()),(s.2.2.1,(s.va.1,s.va.2.1,s.va.2.2.1,(),()),s.va.va,()))))) (λx=> .sum (.leaf zaF (λt=>(Ex.exit 0,⟨[(2,GL 1 t.1),(7,V.own 300000 0),(8,V.ptr 300001 0),(9,jq t.2.1),(17,og false)],[(300000,Cell.arr false false 0 4 t.2.2.1),(300001,Cell.box 58 [jq t.va.1,jq t.va.2.1,sS t.va.2.2,V.nil 1])]⟩))) (.leaf zaG (λt=>(Ex.exit 0,⟨[(2,GL 1 t.1),(7,V.own 300000 0),(8,V.ptr 300001 0),(9,jq t.2.1),(17,og false)],[(300000,Cell.arr false false 0 4 t.2.2.1),(300001,Cell.box 58 [jq t.va.1,jq t.va.2.1,sS t.va.2.2.1,V.own 300002 0]),(300002,Cell.arr false true 0 1 t.va.va)]⟩)))) (λx=>M.yt) [fe C.tJ] [] (by rintro _ _ (⟨_,_,_,_,_,_⟩|⟨_,_,_,_,_,_,_⟩) _ _<;>simp only[nI,M.yt,nb]<;>rfl) (hE:=by intro _ _ s _;rcases s with s|s<;>kernel_rfl)
abbrev M.OO(kind n':Int)(parts:ay)(k:ay->Option R):=(M.LQ (.inl (parts,0,[],kind,n',[]))).bind λc=>jX c (λb=>nI b.2.2.1 [[D.int .i64 b.2.2.2.1,D.int .i64 b.2.2.2.2.1,D.str b.2.2.2.2.2,D.sl true 1 []]] 56 λza=>k za) λd=>letE d λa=>cond (aj a.2.2.2.2.2.2) (nI a.2.2.1 [[D.int .i64 a.2.2.2.1,D.int .i64 a.2.2.2.2.1,D.str a.2.2.2.2.2.1,D.sl true 1 a.2.2.2.2.2.2]] 56 λza=>k za) none
def M.eY kind n' parts:=M.OO kind n' parts some
def C.eY:=fTa S.eY (λx=>M.OO x.1.1 x.1.2.1 x.1.2.2.1) [] [F.LQ]
def M.CS(bU:zab)(kids x':ay)(qY:Bool)(uV:Int)(x8 Ae Fg IJ:Bool)(s:Int×ay)(kn:Int×ay->Option R)(ke:Int×ay->Option R):Option R:=match s with
 |(k',LU)=>bif decide (k'<(↑kids.length:Int)) then(bif decide (k'>0) then((M.eX [44]).bind λc=>M.wV.bind λe=>nI LU [[D.sl true 4 c],[D.sl true 4 e]] 24 λza=>(idx kids k').bind λd=>(jR .i64 d 0).bind λf=>(bU x' qY f uV x8 Ae Fg IJ).bind λa=>nI za [[D.sl true 4 a]] 24 λi=>kn (i64.wrap (k'+1),i)) else (idx kids k').bind λb=>(jR .i64 b 0).bind λh=>(bU x' qY h uV x8 Ae Fg IJ).bind λg=>nI LU [[D.sl true 4 g]] 24 λza=>kn (i64.wrap (k'+1),za)) else ke (k',LU)
def M.Ig bU kids x' qY uV x8 Ae Fg IJ s:=M.CS bU kids x' qY uV x8 Ae Fg IJ s (λs=>some (Sum.inl s)) λt=>some (Sum.inr t)
def M.LV bU kids x' qY uV x8 Ae Fg IJ s:=fJ (M.Ig bU kids x' qY uV x8 Ae Fg IJ) s
def F.LV{bU:zab}(F9:S.qo.ok X0 λx=>oJ (bU x.1.1.1 x.1.1.2.1 x.1.2.1) x.1.2.2.1):LE X0 86:=le 3 (IV [dH 1 (pL false 1),dH 3 (pP 300000 0),dH 5 (pP 300001 0),dH 7 (pO 300002 0),dH 8 pI] [dH 300000 (cB 62 [pL false 5,pB]),dH 300001 (cB 26 zbm),dH 300002 (cA false false 0 1)]) (λx=>(x.1.va.2.1,x.va.1)) (λx s=>((x.1.1,(),(),(),s.1,()),((x.2.1.1,x.2.1.2.1,()),(x.2.2.1.1,x.2.2.1.2.1,x.2.2.1.2.2.1,x.2.2.1.va.1,x.2.2.1.va.2.1,()),s.2,()))) (λx=> .leaf (Int×ay) (λt=>(Ex.exit 0,⟨[(1,GL 1 x.1.1),(3,V.ptr 300000 0),(5,V.ptr 300001 0),(7,V.own 300002 0),(8,jq t.1),(13,og false)],[(300000,Cell.box 62 [GL 5 x.2.1.1,og x.2.1.2.1]),(300001,Cell.box 26 [jq x.2.2.1.1,og x.2.2.1.2.1,og x.2.2.1.2.2.1,og x.2.2.1.va.1,og x.2.2.1.va.2.1]),(300002,Cell.arr false false 0 1 t.2)]⟩))) (λx=>M.CS bU x.1.1 x.2.1.1 x.2.1.2.1 x.2.2.1.1 x.2.2.1.2.1 x.2.2.1.2.2.1 x.2.2.1.va.1 x.2.2.1.va.2.1) [fe C.eX,fe C.wV,fe F9] [] (by rintro _ _ ⟨_,_⟩ _ _<;>unfold M.CS<;>exact zbC)
def M.EP(bU:zab)(w:ay)(w1:Bool)(kids:ay)(p:Int)(p1 p2 p3 p4:Bool)(k:ay->Option R):=(M.LV bU kids w w1 p p1 p2 p3 p4 (0,[])).bind λd=>(M.eY 6 0 (aB d.2)).bind λc=>cond ([[D.sl true 4 c]].all dw) ((M.eY 4 4 (aB [[D.sl true 4 c]])).bind λb=>cond ([[D.sl true 4 b]].all dw) ((M.eY 5 0 (aB [[D.sl true 4 b]])).bind λa=>cond ([[D.sl true 4 a]].all dw) (k a) none) none) none
def C.aie{bU:zab}(F9:S.qo.ok X0 λx=>oJ (bU x.1.1.1 x.1.1.2.1 x.1.2.1) x.1.2.2.1):S.TK.ok X0 λx=>oJ (M.EP bU x.1.1.1 x.1.1.2.1 x.1.2.1) x.1.2.2.1 some:=fnS (λx=>M.EP bU x.1.1.1 x.1.1.2.1 x.1.2.1 x.1.2.2.1.1 x.1.2.2.1.2.1 x.1.2.2.1.2.2.1 x.1.2.2.1.va.1 x.1.2.2.1.va.2.1) [fe C.eY] [F.LV F9] (by intros;unfold M.EP;exact zbC)
def M.BH(mM:zaj)(w:ay)(w1:Bool)(n' qZ:Int)(yN yj:aC)(zU:ay)(open' end':aC)(k:ay->Option R):=cond ((yN.length+open'.length).ble 9223372036854775807) ((M.eX (yN++open')).bind λc=>M.oQ.bind λa=>(mM w w1 zU a.1 a.2.1 a.2.2.1 a.2.2.2.1 a.2.2.2.2).bind λd=>(M.eX end').bind λe=>(M.eY 6 0 (aB [[D.sl true 4 c],[D.sl true 4 d],[D.sl true 4 e]])).bind λb=>cond ([[D.sl true 4 b]].all dw) (k b) none) none
def C.agH{mM:zaj}(U0:S.TK.ok X0 λx=>oJ (mM x.1.1.1 x.1.1.2.1 x.1.2.1) x.1.2.2.1):S.WE.ok X0 λx=>oJ (M.BH mM x.1.1.1 x.1.1.2.1) x.1.2.1 x.1.2.2.1 x.1.va.1 some:=fnS (λx=>M.BH mM x.1.1.1 x.1.1.2.1 x.1.2.1.1 x.1.2.1.2.1 x.1.2.1.2.2.1 x.1.2.1.va.1 x.1.2.1.va.2.1 x.1.2.2.1 x.1.va.1) [fe C.eX,fe C.oQ,fe U0,fe C.eY] [] (by intros;unfold M.BH;exact zbC)
def M.zZ(kY:zab)(w:ay)(w1:Bool)(i:Int)(k:ay->Option R):=(kY w w1 i 14 false false false false).bind λa=>k a
def C.afl{kY:zab}(U1:S.TQ.ok X0 λx=>oJ (kY x.1.1.1 x.1.1.2.1 x.1.2.1) x.1.2.2.1):S.UO.ok X0 λx=>M.zZ kY x.1.1.1 x.1.1.2.1 x.1.2.1 some:=fnS (λx=>M.zZ kY x.1.1.1 x.1.1.2.1 x.1.2.1) [fe U1] [] (by intros;unfold M.zZ;exact zbC)
abbrev M.OQ(op':Int)(k:Int×Int->Option R):=(M.tZ op').bind λa=>cond (a==3) (k (3,4)) (cond (a==4) (k (4,5)) (cond (a==6) (k (7,7)) (cond (a==7) (k (8,8)) (cond (a==8) (k (8,9)) (cond (a==9) (k (9,10)) (cond (a==10) (k (10,11)) (k (13,11))))))))
def M.zA op':=M.OQ op' some
def C.zA:=fTa S.zA (λx=>M.OQ x.1.1) [fe C.tZ]
abbrev M.Rh(n' qZ:Int)(yN yj:aC)(zU:ay)(k' p:Int)(p1 p2 p3 p4:Bool)(k:Int×Bool×Bool×Bool×Bool->Option R):=(M.vY p p1 p2 p3 p4).bind λi=>cond (!i) (k (0,false,false,false,false)) ((M.dI k' 0 (i64.wrap ((↑zU.length:Int) - 1))).bind λg=>cond (!g) (k (0,false,false,false,false)) ((M.lX n' qZ yN yj zU).bind λh=>cond (h==0) (k (0,false,false,false,false)) (cond p4 (cond (n'==15) (cond (decide (k'>0)) (k (1,false,p2,p3,k'==0)) (k (14,false,p2,p3,k'==0))) (cond (n'==14) (cond (k'==0) (k (3,false,p2,p3,k'==0)) (k (2,false,p2,p3,k'==0))) (cond (n'==13) (cond (decide ((↑zU.length:Int)>1)) (M.oQ.bind λa=>k (a)) (k (5,false,p2,p3,k'==0))) (cond (n'==12) ((M.zA qZ).bind λe=>cond (decide (k'>0)) (k (e.2,false,p2,p3,qZ==99)) (k (e.1,false,p2,p3,k'==0))) (cond (n'==11) (k (11,false,p2,p3,false)) (cond (n'==9) (k (14,false,p2,p3,false)) (cond (n'==10) (k (14,false,p2,p3,false)) (cond (n'==6) (k (14,true,p2,p3,false)) (M.oQ.bind λd=>k (d)))))))))) (cond (n'==15) (cond (decide (k'>0)) (k (1,false,p2,p3,false)) (k (14,false,p2,p3,false))) (cond (n'==14) (cond (k'==0) (k (3,false,p2,p3,false)) (k (2,false,p2,p3,false))) (cond (n'==13) (cond (decide ((↑zU.length:Int)>1)) (M.oQ.bind λb=>k (b)) (k (5,false,p2,p3,false))) (cond (n'==12) ((M.zA qZ).bind λf=>cond (decide (k'>0)) (k (f.2,false,p2,p3,qZ==99)) (k (f.1,false,p2,p3,false))) (cond (n'==11) (k (11,false,p2,p3,false)) (cond (n'==9) (k (14,false,p2,p3,false)) (cond (n'==10) (k (14,false,p2,p3,false)) (cond (n'==6) (k (14,true,p2,p3,false)) (M.oQ.bind λc=>k (c)))))))))))))
def M.fQ n' qZ yN yj zU k' p p1 p2 p3 p4:=M.Rh n' qZ yN yj zU k' p p1 p2 p3 p4 some
def C.fQ:=fTa S.fQ (λx=>M.Rh x.1.1.1 x.1.1.2.1 x.1.1.2.2.1 x.1.1.va.1 x.1.1.va.2.1 x.1.2.1 x.1.2.2.1.1 x.1.2.2.1.2.1 x.1.2.2.1.2.2.1 x.1.2.2.1.va.1 x.1.2.2.1.va.2.1) [fe C.vY,fe C.dI,fe C.lX,fe C.oQ,fe C.zA]
abbrev M.Ri(kind:Int)(k:Int×aC×Int->Option R):=(M.kH kind).bind λa=>k (kind,a,0)
def M.fU kind:=M.Ri kind some
def C.fU:=fTa S.fU (λx=>M.Ri x.1.1) [fe C.kH]
def M.CU(cO:zab)(kids x':ay)(qY:Bool)(s:Int×ay)(kn:Int×ay->Option R)(ke:Int×ay->Option R):Option R:=match s with
 |(k',uV)=>bif decide (k'<(↑kids.length:Int)) then(bif decide (k'>0) then((M.fU 36).bind λc=>nI uV [[D.int .i64 c.1,D.str c.2.1,D.int .i64 c.2.2]] 32 λza=>(idx kids k').bind λh=>(jR .i64 h 0).bind λf=>M.oQ.bind λa=>(cO x' qY f a.1 a.2.1 a.2.2.1 a.2.2.2.1 a.2.2.2.2).bind λi=>nI za i 32 λj=>kn (i64.wrap (k'+1),j)) else (idx kids k').bind λg=>(jR .i64 g 0).bind λe=>M.oQ.bind λb=>(cO x' qY e b.1 b.2.1 b.2.2.1 b.2.2.2.1 b.2.2.2.2).bind λd=>nI uV d 32 λza=>kn (i64.wrap (k'+1),za)) else ke (k',uV)
def M.Ih cO kids x' qY s:=M.CU cO kids x' qY s (λs=>some (Sum.inl s)) λt=>some (Sum.inr t)
def M.LW cO kids x' qY s:=fJ (M.Ih cO kids x' qY) s
def F.LW{cO:zab}(Gf:S.uf.ok X0 λx=>oJ (cO x.1.1.1 x.1.1.2.1 x.1.2.1) x.1.2.2.1):LE X0 167:=le 3 (IV zbz [dH 300000 (cB 62 [pL false 5,pB]),dH 300001 (cA false true 0 3)]) (λx=>(x.1.va.1,x.2.2.1)) (λx s=>((x.1.1,(),(),s.1,()),((x.2.1.1,x.2.1.2.1,()),s.2,()))) (λx=> .leaf (Int×ay) (λt=>(Ex.exit 0,⟨[(1,GL 1 x.1.1),(2,V.ptr 300000 0),(5,V.own 300001 0),(6,jq t.1),(11,og false)],[(300000,Cell.box 62 [GL 5 x.2.1.1,og x.2.1.2.1]),(300001,Cell.arr false true 0 3 t.2)]⟩))) (λx=>M.CU cO x.1.1 x.2.1.1 x.2.1.2.1) [fe C.fU,fe C.oQ,fe Gf] [] (by rintro _ _ ⟨_,_⟩ _ _<;>unfold M.CU<;>exact zbC)
def M.ER(cO:zab)(w:ay)(w1:Bool)(kids:ay)(k:ay->Option R):=(M.LW cO kids w w1 (0,[])).bind λa=>cond (aj a.2) (k a.2) none
def C.aif{cO:zab}(Gf:S.uf.ok X0 λx=>oJ (cO x.1.1.1 x.1.1.2.1 x.1.2.1) x.1.2.2.1):S.TM.ok X0 λx=>M.ER cO x.1.1.1 x.1.1.2.1 x.1.2.1 some:=fnS (λx=>M.ER cO x.1.1.1 x.1.1.2.1 x.1.2.1) [] [F.LW Gf] (by intros;unfold M.ER;exact zbC)
def M.BI(mO:zak)(w:ay)(w1:Bool)(t':Int)(Ht:aC)(Us:Int)(kids:ay)(open':Int)(k:ay->Option R):=(M.fU open').bind λb=>(mO w w1 kids).bind λc=>nI [[D.int .i64 t',D.str Ht,D.int .i64 Us],[D.int .i64 b.1,D.str b.2.1,D.int .i64 b.2.2]] c 32 λe=>(M.fU (i64.wrap (open'+1))).bind λa=>nI e [[D.int .i64 a.1,D.str a.2.1,D.int .i64 a.2.2]] 32 λd=>cond (aj d) (k d) none
def C.agJ{mO:zak}(U2:S.TM.ok X0 λx=>mO x.1.1.1 x.1.1.2.1 x.1.2.1):S.WG.ok X0 λx=>M.BI mO x.1.1.1 x.1.1.2.1 x.1.2.1.1 x.1.2.1.2.1 x.1.2.1.2.2.1 x.1.2.2.1 x.1.va.1 some:=fnS (λx=>M.BI mO x.1.1.1 x.1.1.2.1 x.1.2.1.1 x.1.2.1.2.1 x.1.2.1.2.2.1 x.1.2.2.1 x.1.va.1) [fe C.fU,fe U2] [] (by intros;simp only[M.BI,nI];exact zbC)
def M.Aa(fH:zab)(w:ay)(w1:Bool)(i:Int)(k:ay->Option R):=(fH w w1 i 14 false false false false).bind λa=>cond (aj a) (k a) none
def C.afm{fH:zab}(U3:S.TN.ok X0 λx=>oJ (fH x.1.1.1 x.1.1.2.1 x.1.2.1) x.1.2.2.1):S.UQ.ok X0 λx=>M.Aa fH x.1.1.1 x.1.1.2.1 x.1.2.1 some:=fnS (λx=>M.Aa fH x.1.1.1 x.1.1.2.1 x.1.2.1) [fe U3] [] (by intros;unfold M.Aa;exact zbC)
def M.vg(cO:zab)(w:ay)(w1:Bool)(n' qZ:Int)(yN yj:aC)(zU:ay)(p:Int)(p1 p2 p3 p4:Bool)(k:ay->Option R):=(idx zU 0).bind λz=>(jR .i64 z 0).bind λn=>(M.fQ n' qZ yN yj zU 0 p p1 p2 p3 p4).bind λc=>(cO w w1 n c.1 c.2.1 c.2.2.1 c.2.2.2.1 c.2.2.2.2).bind λg=>cond (n'==14) ((M.fU 65).bind λi=>nI g [[D.int .i64 i.1,D.str i.2.1,D.int .i64 i.2.2]] 32 λza=>(idx zU 1).bind λv=>(jR .i64 v 0).bind λr=>(M.fQ n' qZ yN yj zU 1 p p1 p2 p3 p4).bind λa=>(cO w w1 r a.1 a.2.1 a.2.2.1 a.2.2.2.1 a.2.2.2.2).bind λm=>nI za m 32 λzb=>(M.fU 66).bind λf=>nI zb [[D.int .i64 f.1,D.str f.2.1,D.int .i64 f.2.2]] 32 λza=>(idx zU 2).bind λs=>(jR .i64 s 0).bind λt=>(M.fQ n' qZ yN yj zU 2 p p1 p2 p3 p4).bind λe=>(cO w w1 t e.1 e.2.1 e.2.2.1 e.2.2.2.1 e.2.2.2.2).bind λo=>nI za o 32 λzb=>cond (aj zb) (k zb) none) (cond (qZ !=99) ((M.fU qZ).bind λh=>nI g [[D.int .i64 h.1,D.str h.2.1,D.int .i64 h.2.2]] 32 λza=>(idx zU 1).bind λy=>(jR .i64 y 0).bind λx=>(M.fQ n' qZ yN yj zU 1 p p1 p2 p3 p4).bind λd=>(cO w w1 x d.1 d.2.1 d.2.2.1 d.2.2.2.1 d.2.2.2.2).bind λj=>nI za j 32 λzb=>cond (aj zb) (k zb) none) ((idx zU 1).bind λq=>(jR .i64 q 0).bind λu=>(M.fQ n' qZ yN yj zU 1 p p1 p2 p3 p4).bind λb=>(cO w w1 u b.1 b.2.1 b.2.2.1 b.2.2.2.1 b.2.2.2.2).bind λl=>nI g l 32 λza=>cond (aj za) (k za) none))
def C.agK{cO:zab}(Gf:S.uf.ok X0 λx=>oJ (cO x.1.1.1 x.1.1.2.1 x.1.2.1) x.1.2.2.1):S.WH.ok X0 λx=>oJ (oJ (M.vg cO x.1.1.1 x.1.1.2.1) x.1.2.1) x.1.2.2.1 some:=fnS (λx=>M.vg cO x.1.1.1 x.1.1.2.1 x.1.2.1.1 x.1.2.1.2.1 x.1.2.1.2.2.1 x.1.2.1.va.1 x.1.2.1.va.2.1 x.1.2.2.1.1 x.1.2.2.1.2.1 x.1.2.2.1.2.2.1 x.1.2.2.1.va.1 x.1.2.2.1.va.2.1) [fe C.fQ,fe Gf,fe C.fU] [] (by intros;simp only[M.vg,nI];exact zbC)
abbrev M.fZ(afn:Int×aC×Int)(axK:ay)(k:ay->Option R):=cond ((([[D.int .i64 afn.1,D.str afn.2.1,D.int .i64 afn.2.2]].length+axK.length) * 32).ble 140737488355328) (cond (([[D.int .i64 afn.1,D.str afn.2.1,D.int .i64 afn.2.2]].length+axK.length).ble 140737488355328) (cond (aj ([[D.int .i64 afn.1,D.str afn.2.1,D.int .i64 afn.2.2]]++axK)) (k ([[D.int .i64 afn.1,D.str afn.2.1,D.int .i64 afn.2.2]]++axK)) none) none) none
def M.gV(um:zao)(rG:zah)(cO:zab)(mO:zak)(CV:zai)(w:ay)(w1:Bool)(i p:Int)(p1 p2 p3 p4:Bool)(k:ay->Option R):=(idx w i).bind λC=>Oh 1 C λaef alV akq axL Bf=>((M.cZ aef alV akq axL Bf).bind λe=>cond (e.1 !=0) (k ([[D.int .i64 e.1,D.str e.2.1,D.int .i64 e.2.2]])) (cond (aef==5) ((um w w1 6 akq 0 Bf 34).bind λo=>cond (aj o) (k o) none) (cond (aef==7) ((um w w1 7 akq 0 Bf 32).bind λq=>cond (aj q) (k q) none) (cond (aef==8) ((um w w1 8 akq 0 Bf 32).bind λn=>cond (aj n) (k n) none) (cond (aef==9) ((M.fU alV).bind λG=>(idx Bf 0).bind λT=>(jR .i64 T 0).bind λz=>(rG w w1 z).bind λu=>M.fZ G u k) (cond (aef==10) ((idx Bf 0).bind λx=>(jR .i64 x 0).bind λv=>(rG w w1 v).bind λN=>(M.fU alV).bind λf=>nI N [[D.int .i64 f.1,D.str f.2.1,D.int .i64 f.2.2]] 32 λza=>cond (aj za) (k za) none) (cond (aef==15) ((idx Bf 0).bind λJ=>(jR .i64 J 0).bind λL=>(rG w w1 L).bind λU=>(M.fU alV).bind λl=>nI U [[D.int .i64 l.1,D.str l.2.1,D.int .i64 l.2.2]] 32 λza=>(idx Bf 1).bind λQ=>(jR .i64 Q 0).bind λW=>(M.fQ aef alV akq axL Bf 1 p p1 p2 p3 p4).bind λa=>(cO w w1 W a.1 a.2.1 a.2.2.1 a.2.2.2.1 a.2.2.2.2).bind λy=>nI za y 32 λzb=>cond (aj zb) (k zb) none) (cond (aef==6) ((M.fU 68).bind λO=>(idx Bf 0).bind λH=>(jR .i64 H 0).bind λK=>(M.fQ aef alV akq axL Bf 0 p p1 p2 p3 p4).bind λc=>(cO w w1 K c.1 c.2.1 c.2.2.1 c.2.2.2.1 c.2.2.2.2).bind λA=>M.fZ O A k) (cond (aef==11) ((M.fU alV).bind λE=>(idx Bf 0).bind λs=>(jR .i64 s 0).bind λF=>(M.fQ aef alV akq axL Bf 0 p p1 p2 p3 p4).bind λd=>(cO w w1 F d.1 d.2.1 d.2.2.1 d.2.2.2.1 d.2.2.2.2).bind λP=>M.fZ E P k) (cond (aef==13) ((idx Bf 0).bind λB=>(jR .i64 B 0).bind λV=>(M.fQ aef alV akq axL Bf 0 p p1 p2 p3 p4).bind λb=>(cO w w1 V b.1 b.2.1 b.2.2.1 b.2.2.2.1 b.2.2.2.2).bind λI=>cond (decide ((↑Bf.length:Int)>1)) ((M.fU 32).bind λm=>(mO w w1 Bf).bind λt=>nI [[D.int .i64 m.1,D.str m.2.1,D.int .i64 m.2.2]] t 32 λza=>(M.fU 33).bind λh=>nI za [[D.int .i64 h.1,D.str h.2.1,D.int .i64 h.2.2]] 32 λzb=>(M.fU 24).bind λj=>nI zb [[D.int .i64 j.1,D.str j.2.1,D.int .i64 j.2.2],[D.int .i64 6,D.str akq,D.int .i64 0]] 32 λza=>cond (aj za) (k za) none) ((M.fU 24).bind λg=>nI I [[D.int .i64 g.1,D.str g.2.1,D.int .i64 g.2.2],[D.int .i64 6,D.str akq,D.int .i64 0]] 32 λza=>cond (aj za) (k za) none)) ((CV w w1 aef alV akq axL Bf p p1 p2 p3 p4).bind λr=>cond (aj r) (k r) none)))))))))))
def C.aii{um:zao}{rG:zah}{cO:zab}{mO:zak}{CV:zai}(aij:S.WG.ok X0 λx=>um x.1.1.1 x.1.1.2.1 x.1.2.1.1 x.1.2.1.2.1 x.1.2.1.2.2.1 x.1.2.2.1 x.1.va.1)(agL:S.UQ.ok X0 λx=>rG x.1.1.1 x.1.1.2.1 x.1.2.1)(Gf:S.uf.ok X0 λx=>oJ (cO x.1.1.1 x.1.1.2.1 x.1.2.1) x.1.2.2.1)(U2:S.TM.ok X0 λx=>mO x.1.1.1 x.1.1.2.1 x.1.2.1)(aik:S.WH.ok X0 λx=>oJ (oJ (CV x.1.1.1 x.1.1.2.1) x.1.2.1) x.1.2.2.1):S.TN.ok X0 λx=>oJ (M.gV um rG cO mO CV x.1.1.1 x.1.1.2.1 x.1.2.1) x.1.2.2.1 some:=fnS (λx=>M.gV um rG cO mO CV x.1.1.1 x.1.1.2.1 x.1.2.1 x.1.2.2.1.1 x.1.2.2.1.2.1 x.1.2.2.1.2.2.1 x.1.2.2.1.va.1 x.1.2.2.1.va.2.1) [fe C.cZ,fe aij,fe C.fU,fe agL,fe C.fQ,fe Gf,fe U2,fe aik] [] (by intros;unfold M.gV M.fZ;exact zbC)
abbrev M.KT(fH:zab)(w:ay)(w1:Bool)(i:Int)(k:ay->Option R):=(M.fU 32).bind λb=>M.oQ.bind λd=>(fH w w1 i d.1 d.2.1 d.2.2.1 d.2.2.2.1 d.2.2.2.2).bind λc=>cond ((([[D.int .i64 b.1,D.str b.2.1,D.int .i64 b.2.2]].length+c.length) * 32).ble 140737488355328) (cond (([[D.int .i64 b.1,D.str b.2.1,D.int .i64 b.2.2]].length+c.length).ble 140737488355328) ((M.fU 33).bind λa=>cond (((([[D.int .i64 b.1,D.str b.2.1,D.int .i64 b.2.2]]++c).length+[[D.int .i64 a.1,D.str a.2.1,D.int .i64 a.2.2]].length) * 32).ble 140737488355328) (cond ((([[D.int .i64 b.1,D.str b.2.1,D.int .i64 b.2.2]]++c).length+[[D.int .i64 a.1,D.str a.2.1,D.int .i64 a.2.2]].length).ble 140737488355328) (cond (aj ([[D.int .i64 b.1,D.str b.2.1,D.int .i64 b.2.2]]++c++[[D.int .i64 a.1,D.str a.2.1,D.int .i64 a.2.2]])) (k ([[D.int .i64 b.1,D.str b.2.1,D.int .i64 b.2.2]]++c++[[D.int .i64 a.1,D.str a.2.1,D.int .i64 a.2.2]])) none) none) none) none) none
abbrev M.Rj(w1:Bool)(w:ay)(i:Int)(fH:zab)(p:Int)(p1 p2 p3 p4:Bool)(k:ay->Option R):=cond w1 ((idx w i).bind λa=>(jR .i64 a 0).bind λl=>(jR .i64 a 1).bind λe=>(cStr a 2).bind λf=>(cStr a 3).bind λg=>(cSl 1 a 4).bind λh=>(M.lX l e f g h).bind λd=>cond (d==15) ((idx w i).bind λc=>(jR .i64 c 0).bind λj=>cond (j !=4) ((fH w w1 i p p1 p2 p3 p4).bind λb=>cond (aj b) (k b) none) (M.KT fH w w1 i k)) (M.KT fH w w1 i k)) (M.KT fH w w1 i k)
def M.JQ(fH:zab)(w:ay)(w1:Bool)(i p:Int)(p1 p2 p3 p4:Bool)(k:ay->Option R):=(idx w i).bind λc=>Oh 1 c λaXH aXI aXJ aXK aD8=>((M.Ho aXH aXI aXJ aXK aD8 p p1 p2 p3 p4).bind λb=>cond b (cond (!w1) ((fH w w1 i p p1 p2 p3 p4).bind λa=>cond (aj a) (k a) none) (M.Rj w1 w i fH p p1 p2 p3 p4 k)) (M.Rj w1 w i fH p p1 p2 p3 p4 k))
def C.alW{fH:zab}(U3:S.TN.ok X0 λx=>oJ (fH x.1.1.1 x.1.1.2.1 x.1.2.1) x.1.2.2.1):S.uf.ok X0 λx=>oJ (M.JQ fH x.1.1.1 x.1.1.2.1 x.1.2.1) x.1.2.2.1 some:=fnS (λx=>M.JQ fH x.1.1.1 x.1.1.2.1 x.1.2.1 x.1.2.2.1.1 x.1.2.2.1.2.1 x.1.2.2.1.2.2.1 x.1.2.2.1.va.1 x.1.2.2.1.va.2.1) [fe C.Ho,fe U3,fe C.lX,fe C.fU,fe C.oQ] [] (by intros;unfold M.JQ M.Rj M.KT;exact zbC)
def M.xg:Nat->(zab)×(zak)×(zao)×(zah)×(zai)×(zab):=Nat.rec (λ_ _ _ _ _ _ _ _=>none,λ_ _ _=>none,λ_ _ _ _ _ _ _=>none,λ_ _ _=>none,λ_ _ _ _ _ _ _ _ _ _ _ _=>none,λ_ _ _ _ _ _ _ _=>none) λ_ qz=>(λw w1 i p p1 p2 p3 p4=>M.JQ qz.2.2.2.2.2 w w1 i p p1 p2 p3 p4 some,λw w1 kids=>M.ER qz.1 w w1 kids some,λw w1 t' Ht Us kids open'=>M.BI qz.2.1 w w1 t' Ht Us kids open' some,λw w1 i=>M.Aa qz.2.2.2.2.2 w w1 i some,λw w1 n' qZ yN yj zU p p1 p2 p3 p4=>M.vg qz.1 w w1 n' qZ yN yj zU p p1 p2 p3 p4 some,λw w1 i p p1 p2 p3 p4=>M.gV qz.2.2.1 qz.2.2.2.1 qz.1 qz.2.1 qz.2.2.2.2.1 w w1 i p p1 p2 p3 p4 some)
def M.xk n:=(M.xg n).1
def M.Jb n:=(M.xg n).2.1
def M.LX n:=(M.xg n).2.2.1
def M.JR n:=(M.xg n).2.2.2.1
def M.LY n:=(M.xg n).2.2.2.2.1
def M.Jc n:=(M.xg n).2.2.2.2.2
def M.aoR(n:Nat):M.xk (n+1)=λw w1 i p p1 p2 p3 p4=>M.JQ (M.Jc n) w w1 i p p1 p2 p3 p4 some:=rfl
def M.aks(n:Nat):M.Jb (n+1)=λw w1 kids=>M.ER (M.xk n) w w1 kids some:=rfl
def M.ain(n:Nat):M.LX (n+1)=λw w1 t' Ht Us kids open'=>M.BI (M.Jb n) w w1 t' Ht Us kids open' some:=rfl
def M.agM(n:Nat):M.JR (n+1)=λw w1 i=>M.Aa (M.Jc n) w w1 i some:=rfl
def M.aio(n:Nat):M.LY (n+1)=λw w1 n' qZ yN yj zU p p1 p2 p3 p4=>M.vg (M.xk n) w w1 n' qZ yN yj zU p p1 p2 p3 p4 some:=rfl
def M.akt(n:Nat):M.Jc (n+1)=λw w1 i p p1 p2 p3 p4=>M.gV (M.LX n) (M.JR n) (M.xk n) (M.Jb n) (M.LY n) w w1 i p p1 p2 p3 p4 some:=rfl
def M.uf w w1 i p p1 p2 p3 p4:=lim λn=>M.xk n w w1 i p p1 p2 p3 p4
def C.xg:∀n,(S.uf.ok X0 λx=>oJ (M.xk n x.1.1.1 x.1.1.2.1 x.1.2.1) x.1.2.2.1)/\(S.TM.ok X0 λx=>M.Jb n x.1.1.1 x.1.1.2.1 x.1.2.1)/\(S.WG.ok X0 λx=>M.LX n x.1.1.1 x.1.1.2.1 x.1.2.1.1 x.1.2.1.2.1 x.1.2.1.2.2.1 x.1.2.2.1 x.1.va.1)/\(S.UQ.ok X0 λx=>M.JR n x.1.1.1 x.1.1.2.1 x.1.2.1)/\(S.WH.ok X0 λx=>oJ (oJ (M.LY n x.1.1.1 x.1.1.2.1) x.1.2.1) x.1.2.2.1)/\(S.TN.ok X0 λx=>oJ (M.Jc n x.1.1.1 x.1.1.2.1 x.1.2.1) x.1.2.2.1)
 |0=>⟨fD.zero,fD.zero,fD.zero,fD.zero,fD.zero,fD.zero⟩
 |n+1=>have h:=C.xg n;⟨C.alW h.2.2.2.2.2,C.aif h.1,C.agJ h.2.1,C.afm h.2.2.2.2.2,C.agK h.1,C.aii h.2.2.1 h.2.2.2.1 h.1 h.2.1 h.2.2.2.2.1⟩
def C.uf:S.uf.ok X0 λx=>oJ (M.uf x.1.1.1 x.1.1.2.1 x.1.2.1) x.1.2.2.1:=fD.lim λn=>(C.xg n).1
def M.alX{n:Nat}{w:ay}{w1:Bool}{i p:Int}{p1 p2 p3 p4:Bool}{r:ay}(h:M.xk n w w1 i p p1 p2 p3 p4=some r):M.uf w w1 i p p1 p2 p3 p4=some r:=fD.FV (λn=>(C.xg n).1) (by intro a b h;simp[S.uf,rn,sg] at h;first|exact h|simp[Prod.ext_iff,h]) (x:=(((w,w1,()),i,(p,p1,p2,p3,p4,()),()),())) h
def M.Jd(s':aC)(at':Int)(x':ay)(s:Int×Int×Int)(kn:Int×Int×Int->Option R)(ke:Int×Int×Int->Option R):Option R:=match s with
 |(kind,size,i)=>bif decide (i<(↑x'.length:Int)) then((idx x' i).bind λg=>x'[i.toNat]?.bind λe=>(cStr e 0).bind λa=>bif decide (at'>=0) then(bif decide (at'<=(↑s'.length:Int)) then(bif decide ((↑a.length:Int)<=i64.wrap ((↑s'.length:Int) - at')) then((cut s' at' (i64.wrap (at'+(↑a.length:Int)))).bind λc=>(idx x' i).bind λf=>x'[i.toNat]?.bind λb=>(cStr b 0).bind λd=>bif c==d then(bif decide ((↑a.length:Int)>size) then(kn (i64.wrap (30+i),(↑a.length:Int),i64.wrap (i+1))) else kn (kind,size,i64.wrap (i+1))) else kn (kind,size,i64.wrap (i+1))) else kn (kind,size,i64.wrap (i+1))) else kn (kind,size,i64.wrap (i+1))) else kn (kind,size,i64.wrap (i+1))) else ke (kind,size,i)
def M.U4 s' at' x' s:=M.Jd s' at' x' s (λs=>some (Sum.inl s)) λt=>some (Sum.inr t)
def M.Uc s' at' x' s:=fJ (M.U4 s' at' x') s
def F.Uc:LE X0 129:=le 5 (IV [dH 0 pS,dH 1 pI,dH 6 pI,dH 7 pI,dH 8 (pO 300000 0),dH 9 pI] [dH 300000 zbf]) (λx=>(x.1.2.2.1,x.1.va.1,x.1.va.2.2.1)) (λx s=>((x.1.1,x.1.2.1,s.1,s.2.1,(),s.2.2,()),(x.2.1,()))) (λx=> .leaf (Int×Int×Int) (λt=>(Ex.exit 0,⟨[(0,sS x.1.1),(1,jq x.1.2.1),(6,jq t.1),(7,jq t.2.1),(8,V.own 300000 0),(9,jq t.2.2),(15,og false)],[(300000,Cell.arr false true 0 1 x.2.1)]⟩))) (λx=>M.Jd x.1.1 x.1.2.1 x.2.1) [] [] (by rintro _ _ ⟨_,_,_⟩ _ _<;>simp only[M.Jd,nb]<;>rfl)
abbrev M.VT(s':aC)(at':Int)(k:Int×Int->Option R):=M.zy.bind λb=>(M.Uc s' at' b (0,0,0)).bind λa=>k (a.1,a.2.1)
def M.Jz s' at':=M.VT s' at' some
def C.Jz:=fTa S.Jz (λx=>M.VT x.1.1 x.1.2.1) [fe C.zy] [F.Uc]
abbrev M.Ac(a b:Int)(k:Bool->Option R)(a1 b1:aC):=cond (a==6) (cond (b==32) (k true) (cond ((a1.length+b1.length).ble 9223372036854775807) ((M.Jz (a1++b1) 0).bind λe=>(M.dI a 30 68).bind λc=>cond c (k (decide (e.2>(↑a1.length:Int)))) (k false)) none)) (cond ((a1.length+b1.length).ble 9223372036854775807) ((M.Jz (a1++b1) 0).bind λd=>(M.dI a 30 68).bind λf=>cond f (k (decide (d.2>(↑a1.length:Int)))) (k false)) none)
def M.LZ(a:Int)(a1:aC)(a2 b:Int)(b1:aC)(b2:Int)(k:Bool->Option R):=cond (a1==[]) (k false) (cond (b1==[]) (k false) (cond (a==2) (k false) (cond (a==1) (k false) (cond (b==1) (k false) ((idx b1 0).bind λc=>(idx a1 (i64.wrap ((↑a1.length:Int) - 1))).bind λf=>(M.kV (i64.wrap (↑f.toNat:Int))).bind λh=>cond h ((M.kV (i64.wrap (↑c.toNat:Int))).bind λe=>cond e (k true) (cond (a==3) ((M.kV (i64.wrap (↑c.toNat:Int))).bind λd=>cond d (k true) (cond (i64.wrap (↑c.toNat:Int)==46) (k true) (M.Ac a b k a1 b1))) (M.Ac a b k a1 b1))) (cond (a==3) ((M.kV (i64.wrap (↑c.toNat:Int))).bind λg=>cond g (k true) (cond (i64.wrap (↑c.toNat:Int)==46) (k true) (M.Ac a b k a1 b1))) (M.Ac a b k a1 b1)))))))
def M.wW a a1 a2 b b1 b2:=M.LZ a a1 a2 b b1 b2 some
def C.wW:S.wW.ok X0 λx=>M.wW x.1.1.1 x.1.1.2.1 x.1.1.2.2.1 x.1.2.1.1 x.1.2.1.2.1 x.1.2.1.2.2.1:=fnS (λx=>M.LZ x.1.1.1 x.1.1.2.1 x.1.1.2.2.1 x.1.2.1.1 x.1.2.1.2.1 x.1.2.1.2.2.1) [fe C.kV,fe C.Jz,fe C.dI] [] (by intros;unfold M.LZ M.Ac;exact zbC)
abbrev M.Ap(qZ:Int)(axN axO:ay)(k:ay->Option R):=(M.kH qZ).bind λc=>cond ((1+c.length).ble 9223372036854775807) ((M.eX ([32]++c)).bind λe=>M.wV.bind λf=>(M.eY 6 0 (aB [[D.sl true 4 axN],[D.sl true 4 e],[D.sl true 4 f],[D.sl true 4 axO]])).bind λa=>cond ([[D.sl true 4 a]].all dw) ((M.eY 4 4 (aB [[D.sl true 4 a]])).bind λd=>cond ([[D.sl true 4 d]].all dw) ((M.eY 5 0 (aB [[D.sl true 4 d]])).bind λb=>cond ([[D.sl true 4 b]].all dw) (k b) none) none) none) none
def M.xq(bU:zab)(w:ay)(w1:Bool)(n' qZ:Int)(yN yj:aC)(zU:ay)(p:Int)(p1 p2 p3 p4:Bool)(k:ay->Option R):=(idx zU 0).bind λj=>(jR .i64 j 0).bind λh=>(M.fQ n' qZ yN yj zU 0 p p1 p2 p3 p4).bind λa=>(bU w w1 h a.1 a.2.1 a.2.2.1 a.2.2.2.1 a.2.2.2.2).bind λc=>(idx zU 1).bind λl=>(jR .i64 l 0).bind λm=>(M.fQ n' qZ yN yj zU 1 p p1 p2 p3 p4).bind λb=>(bU w w1 m b.1 b.2.1 b.2.2.1 b.2.2.2.1 b.2.2.2.2).bind λd=>cond (qZ==99) ((M.eX [32]).bind λi=>(M.eY 6 0 (aB [[D.sl true 4 c],[D.sl true 4 i],[D.sl true 4 d]])).bind λg=>cond ([[D.sl true 4 g]].all dw) (k g) none) (cond (qZ==45) (M.Ap qZ c d k) (cond (qZ==44) (M.Ap qZ c d k) ((M.kH qZ).bind λe=>cond ((1+e.length).ble 9223372036854775807) (cond ((([32]++e).length+1).ble 9223372036854775807) ((M.eX ([32]++e++[32])).bind λn=>(M.eY 6 0 (aB [[D.sl true 4 c],[D.sl true 4 n],[D.sl true 4 d]])).bind λf=>cond ([[D.sl true 4 f]].all dw) (k f) none) none) none)))
def C.aku{bU:zab}(F9:S.qo.ok X0 λx=>oJ (bU x.1.1.1 x.1.1.2.1 x.1.2.1) x.1.2.2.1):S.ZV.ok X0 λx=>oJ (oJ (M.xq bU x.1.1.1 x.1.1.2.1) x.1.2.1) x.1.2.2.1 some:=fnS (λx=>M.xq bU x.1.1.1 x.1.1.2.1 x.1.2.1.1 x.1.2.1.2.1 x.1.2.1.2.2.1 x.1.2.1.va.1 x.1.2.1.va.2.1 x.1.2.2.1.1 x.1.2.2.1.2.1 x.1.2.2.1.2.2.1 x.1.2.2.1.va.1 x.1.2.2.1.va.2.1) [fe C.fQ,fe F9,fe C.eX,fe C.eY,fe C.kH,fe C.wV] [] (by intros;unfold M.xq M.Ap;exact zbC)
abbrev M.gq(oN:ay)(RV WJ:Int)(Xr abO:aC)(p:Int)(p1 p2 p3 p4:Bool)(bU:zab)(w:ay)(w1:Bool)(aIX:ay)(k:ay->Option R):=(idx oN 0).bind λd=>(jR .i64 d 0).bind λe=>(M.fQ RV WJ Xr abO oN 0 p p1 p2 p3 p4).bind λa=>(bU w w1 e a.1 a.2.1 a.2.2.1 a.2.2.2.1 a.2.2.2.2).bind λc=>(M.eY 6 0 (aB [[D.sl true 4 aIX],[D.sl true 4 c]])).bind λb=>cond ([[D.sl true 4 b]].all dw) (k b) none
def M.gW(uo:zap)(rH:zah)(bU:zab)(mM:zaj)(GZ:zai)(w:ay)(w1:Bool)(i p:Int)(p1 p2 p3 p4:Bool)(k:ay->Option R):=(idx w i).bind λaIZ=>Oh 1 aIZ λRV WJ Xr abO oN=>((M.cZ RV WJ Xr abO oN).bind λq=>cond (q.1 !=0) ((M.eX q.2.1).bind λP=>k P) (cond (RV==5) ((uo w w1 RV WJ Xr abO oN [91] [93]).bind λaX8=>k aX8) (cond (RV==7) ((uo w w1 RV WJ Xr abO oN [40] [41]).bind λaX9=>k aX9) (cond (RV==8) ((uo w w1 RV WJ Xr abO oN [40] [41]).bind λx=>k x) (cond (RV==9) ((M.kH WJ).bind λJ=>(M.eX J).bind λF=>(idx oN 0).bind λaI0=>(jR .i64 aI0 0).bind λG=>(rH w w1 G).bind λaYe=>(M.eY 6 0 (aB [[D.sl true 4 F],[D.sl true 4 aYe]])).bind λn=>cond ([[D.sl true 4 n]].all dw) (k n) none) (cond (RV==10) ((idx oN 0).bind λX=>(jR .i64 X 0).bind λV=>(rH w w1 V).bind λaYg=>(M.kH WJ).bind λU=>(M.eX U).bind λaYi=>(M.eY 6 0 (aB [[D.sl true 4 aYg],[D.sl true 4 aYi]])).bind λm=>cond ([[D.sl true 4 m]].all dw) (k m) none) (cond (RV==6) ((M.eX [36]).bind λK=>M.gq oN RV WJ Xr abO p p1 p2 p3 p4 bU w w1 K k) (cond (RV==15) ((idx oN 0).bind λN=>(jR .i64 N 0).bind λA=>(rH w w1 A).bind λQ=>(M.kH WJ).bind λh=>cond ((1+h.length).ble 9223372036854775807) (cond ((([32]++h).length+1).ble 9223372036854775807) ((M.eX ([32]++h++[32])).bind λy=>(idx oN 1).bind λaI3=>(jR .i64 aI3 0).bind λaYk=>(M.fQ RV WJ Xr abO oN 1 p p1 p2 p3 p4).bind λg=>(bU w w1 aYk g.1 g.2.1 g.2.2.1 g.2.2.2.1 g.2.2.2.2).bind λVD=>(M.eY 6 0 (aB [[D.sl true 4 Q],[D.sl true 4 y],[D.sl true 4 VD]])).bind λu=>cond ([[D.sl true 4 u]].all dw) (k u) none) none) none) (cond (RV==11) ((M.kH WJ).bind λl=>(M.fU WJ).bind λUd=>(idx oN 0).bind λW=>(jR .i64 W 0).bind λL=>(M.fQ RV WJ Xr abO oN 0 p p1 p2 p3 p4).bind λf=>(M.uf w w1 L f.1 f.2.1 f.2.2.1 f.2.2.2.1 f.2.2.2.2).bind λs=>(idx s 0).bind λaYm=>s[0]?.bind λj=>(jR .i64 j 0).bind λaYn=>(cStr j 1).bind λC=>(jR .i64 j 2).bind λY=>(M.wW Ud.1 Ud.2.1 Ud.2.2 aYn C Y).bind λz=>cond z (cond ((l.length+1).ble 9223372036854775807) ((M.eX (l++[32])).bind λaYr=>M.gq oN RV WJ Xr abO p p1 p2 p3 p4 bU w w1 aYr k) none) ((M.eX l).bind λaYs=>M.gq oN RV WJ Xr abO p p1 p2 p3 p4 bU w w1 aYs k)) (cond (RV==14) ((idx oN 0).bind λZ=>(jR .i64 Z 0).bind λv=>(M.fQ RV WJ Xr abO oN 0 p p1 p2 p3 p4).bind λa=>(bU w w1 v a.1 a.2.1 a.2.2.1 a.2.2.2.1 a.2.2.2.2).bind λI=>(M.eX [32,63,32]).bind λB=>(idx oN 1).bind λaI6=>(jR .i64 aI6 0).bind λE=>(M.fQ RV WJ Xr abO oN 1 p p1 p2 p3 p4).bind λb=>(bU w w1 E b.1 b.2.1 b.2.2.1 b.2.2.2.1 b.2.2.2.2).bind λaYx=>(M.eX [32,58,32]).bind λO=>(idx oN 2).bind λaI7=>(jR .i64 aI7 0).bind λaYz=>(M.fQ RV WJ Xr abO oN 2 p p1 p2 p3 p4).bind λd=>(bU w w1 aYz d.1 d.2.1 d.2.2.1 d.2.2.2.1 d.2.2.2.2).bind λaYA=>(M.eY 6 0 (aB [[D.sl true 4 I],[D.sl true 4 B],[D.sl true 4 aYx],[D.sl true 4 O],[D.sl true 4 aYA]])).bind λt=>cond ([[D.sl true 4 t]].all dw) (k t) none) (cond (RV==13) (cond ((↑oN.length:Int)==1) ((idx oN 0).bind λaI8=>(jR .i64 aI8 0).bind λaYB=>(M.fQ RV WJ Xr abO oN 0 p p1 p2 p3 p4).bind λc=>(bU w w1 aYB c.1 c.2.1 c.2.2.1 c.2.2.2.1 c.2.2.2.2).bind λaYC=>cond ((4+Xr.length).ble 9223372036854775807) ((M.eX ([32,105,110,32]++Xr)).bind λT=>(M.eY 6 0 (aB [[D.sl true 4 aYC],[D.sl true 4 T]])).bind λr=>cond ([[D.sl true 4 r]].all dw) (k r) none) none) ((M.eX [40]).bind λaYE=>M.oQ.bind λe=>(mM w w1 oN e.1 e.2.1 e.2.2.1 e.2.2.2.1 e.2.2.2.2).bind λaYF=>cond ((5+Xr.length).ble 9223372036854775807) ((M.eX ([41,32,105,110,32]++Xr)).bind λaYG=>(M.eY 6 0 (aB [[D.sl true 4 aYE],[D.sl true 4 aYF],[D.sl true 4 aYG]])).bind λo=>cond ([[D.sl true 4 o]].all dw) (k o) none) none)) ((GZ w w1 RV WJ Xr abO oN p p1 p2 p3 p4).bind λH=>k H))))))))))))
def C.aiq{uo:zap}{rH:zah}{bU:zab}{mM:zaj}{GZ:zai}(air:S.WE.ok X0 λx=>oJ (uo x.1.1.1 x.1.1.2.1) x.1.2.1 x.1.2.2.1 x.1.va.1)(agN:S.UO.ok X0 λx=>rH x.1.1.1 x.1.1.2.1 x.1.2.1)(F9:S.qo.ok X0 λx=>oJ (bU x.1.1.1 x.1.1.2.1 x.1.2.1) x.1.2.2.1)(U0:S.TK.ok X0 λx=>oJ (mM x.1.1.1 x.1.1.2.1 x.1.2.1) x.1.2.2.1)(alY:S.ZV.ok X0 λx=>oJ (oJ (GZ x.1.1.1 x.1.1.2.1) x.1.2.1) x.1.2.2.1):S.TQ.ok X0 λx=>oJ (M.gW uo rH bU mM GZ x.1.1.1 x.1.1.2.1 x.1.2.1) x.1.2.2.1 some:=fnS (λx=>M.gW uo rH bU mM GZ x.1.1.1 x.1.1.2.1 x.1.2.1 x.1.2.2.1.1 x.1.2.2.1.2.1 x.1.2.2.1.2.2.1 x.1.2.2.1.va.1 x.1.2.2.1.va.2.1) [fe C.cZ,fe C.eX,fe air,fe C.kH,fe agN,fe C.eY,fe C.fQ,fe F9,fe C.fU,fe C.uf,fe C.wW,fe C.oQ,fe U0,fe alY] [] (by intros;unfold M.gW M.gq;exact zbC)
def M.JU(kY:zab)(w:ay)(w1:Bool)(i p:Int)(p1 p2 p3 p4:Bool)(k:ay->Option R):=(idx w i).bind λg=>Oh 1 g λaYI aYJ aYK aYL aEa=>((M.Ho aYI aYJ aYK aYL aEa p p1 p2 p3 p4).bind λe=>cond e ((kY w w1 i p p1 p2 p3 p4).bind λf=>k f) ((M.eX [40]).bind λc=>M.oQ.bind λa=>(kY w w1 i a.1 a.2.1 a.2.2.1 a.2.2.2.1 a.2.2.2.2).bind λh=>(M.eX [41]).bind λd=>(M.eY 6 0 (aB [[D.sl true 4 c],[D.sl true 4 h],[D.sl true 4 d]])).bind λb=>cond ([[D.sl true 4 b]].all dw) (k b) none))
def C.alZ{kY:zab}(U1:S.TQ.ok X0 λx=>oJ (kY x.1.1.1 x.1.1.2.1 x.1.2.1) x.1.2.2.1):S.qo.ok X0 λx=>oJ (M.JU kY x.1.1.1 x.1.1.2.1 x.1.2.1) x.1.2.2.1 some:=fnS (λx=>M.JU kY x.1.1.1 x.1.1.2.1 x.1.2.1 x.1.2.2.1.1 x.1.2.2.1.2.1 x.1.2.2.1.2.2.1 x.1.2.2.1.va.1 x.1.2.2.1.va.2.1) [fe C.Ho,fe U1,fe C.eX,fe C.oQ,fe C.eY] [] (by intros;simp only[M.JU,Oh];exact zbC)
def M.xu:Nat->(zab)×(zaj)×(zap)×(zah)×(zai)×(zab):=Nat.rec (λ_ _ _ _ _ _ _ _=>none,λ_ _ _ _ _ _ _ _=>none,λ_ _ _ _ _ _ _ _ _=>none,λ_ _ _=>none,λ_ _ _ _ _ _ _ _ _ _ _ _=>none,λ_ _ _ _ _ _ _ _=>none) λ_ qz=>(λw w1 i p p1 p2 p3 p4=>M.JU qz.2.2.2.2.2 w w1 i p p1 p2 p3 p4 some,λw w1 kids p p1 p2 p3 p4=>M.EP qz.1 w w1 kids p p1 p2 p3 p4 some,λw w1 n' qZ yN yj zU open' end'=>M.BH qz.2.1 w w1 n' qZ yN yj zU open' end' some,λw w1 i=>M.zZ qz.2.2.2.2.2 w w1 i some,λw w1 n' qZ yN yj zU p p1 p2 p3 p4=>M.xq qz.1 w w1 n' qZ yN yj zU p p1 p2 p3 p4 some,λw w1 i p p1 p2 p3 p4=>M.gW qz.2.2.1 qz.2.2.2.1 qz.1 qz.2.1 qz.2.2.2.2.1 w w1 i p p1 p2 p3 p4 some)
def M.uq n:=(M.xu n).1
def M.Je n:=(M.xu n).2.1
def M.L6 n:=(M.xu n).2.2.1
def M.JV n:=(M.xu n).2.2.2.1
def M.Rk n:=(M.xu n).2.2.2.2.1
def M.Jf n:=(M.xu n).2.2.2.2.2
def M.aoU(n:Nat):M.uq (n+1)=λw w1 i p p1 p2 p3 p4=>M.JU (M.Jf n) w w1 i p p1 p2 p3 p4 some:=rfl
def M.akw(n:Nat):M.Je (n+1)=λw w1 kids p p1 p2 p3 p4=>M.EP (M.uq n) w w1 kids p p1 p2 p3 p4 some:=rfl
def M.ais(n:Nat):M.L6 (n+1)=λw w1 n' qZ yN yj zU open' end'=>M.BH (M.Je n) w w1 n' qZ yN yj zU open' end' some:=rfl
def M.agO(n:Nat):M.JV (n+1)=λw w1 i=>M.zZ (M.Jf n) w w1 i some:=rfl
def M.al0(n:Nat):M.Rk (n+1)=λw w1 n' qZ yN yj zU p p1 p2 p3 p4=>M.xq (M.uq n) w w1 n' qZ yN yj zU p p1 p2 p3 p4 some:=rfl
def M.akx(n:Nat):M.Jf (n+1)=λw w1 i p p1 p2 p3 p4=>M.gW (M.L6 n) (M.JV n) (M.uq n) (M.Je n) (M.Rk n) w w1 i p p1 p2 p3 p4 some:=rfl
def M.qo w w1 i p p1 p2 p3 p4:=lim λn=>M.uq n w w1 i p p1 p2 p3 p4
def C.xu:∀n,(S.qo.ok X0 λx=>oJ (M.uq n x.1.1.1 x.1.1.2.1 x.1.2.1) x.1.2.2.1)/\(S.TK.ok X0 λx=>oJ (M.Je n x.1.1.1 x.1.1.2.1 x.1.2.1) x.1.2.2.1)/\(S.WE.ok X0 λx=>oJ (M.L6 n x.1.1.1 x.1.1.2.1) x.1.2.1 x.1.2.2.1 x.1.va.1)/\(S.UO.ok X0 λx=>M.JV n x.1.1.1 x.1.1.2.1 x.1.2.1)/\(S.ZV.ok X0 λx=>oJ (oJ (M.Rk n x.1.1.1 x.1.1.2.1) x.1.2.1) x.1.2.2.1)/\(S.TQ.ok X0 λx=>oJ (M.Jf n x.1.1.1 x.1.1.2.1 x.1.2.1) x.1.2.2.1)
 |0=>⟨fD.zero,fD.zero,fD.zero,fD.zero,fD.zero,fD.zero⟩
 |n+1=>have h:=C.xu n;⟨C.alZ h.2.2.2.2.2,C.aie h.1,C.agH h.2.1,C.afl h.2.2.2.2.2,C.aku h.1,C.aiq h.2.2.1 h.2.2.2.1 h.1 h.2.1 h.2.2.2.2.1⟩
def C.qo:S.qo.ok X0 λx=>oJ (M.qo x.1.1.1 x.1.1.2.1 x.1.2.1) x.1.2.2.1:=fD.lim λn=>(C.xu n).1
def M.al1{n:Nat}{w:ay}{w1:Bool}{i p:Int}{p1 p2 p3 p4:Bool}{r:ay}(h:M.uq n w w1 i p p1 p2 p3 p4=some r):M.qo w w1 i p p1 p2 p3 p4=some r:=fD.FV (λn=>(C.xu n).1) (by intro a b h;simp[S.qo,rm,sg] at h;first|exact h|simp[Prod.ext_iff,h]) (x:=(((w,w1,()),i,(p,p1,p2,p3,p4,()),()),())) h
abbrev M.OT(l:ay)(p:Int)(p1 p2 p3 p4:Bool)(k:ay->Option R):=(M.I5 l).bind λb=>cond (!b) (k []) ((M.vY p p1 p2 p3 p4).bind λa=>cond (!a) (k []) ((M.qo l false (i64.wrap ((↑l.length:Int) - 1)) p p1 p2 p3 p4).bind λc=>k c))
def M.FW l p p1 p2 p3 p4:=M.OT l p p1 p2 p3 p4 some
def C.FW:=fTa S.FW (λx=>M.OT x.1.1 x.1.2.1.1 x.1.2.1.2.1 x.1.2.1.2.2.1 x.1.2.1.va.1 x.1.2.1.va.2.1) [fe C.I5,fe C.vY,fe C.qo]
abbrev M.BJ(n':Int)(yN:aC)(k:Bool->Option R)(yj:ay)(qZ:Int):=cond (n'==1) ((M.wU yN).bind λb=>cond b (k ((↑yj.length:Int)==0)) (k false)) (cond (n'==2) (k ((↑yj.length:Int)==0)) (cond (n'==3) (k ((↑yj.length:Int)==0)) (cond (n'==4) ((M.dI qZ 0 40).bind λa=>cond a (k ((↑yj.length:Int)==1)) (k false)) (cond (n'==5) (k ((↑yj.length:Int)==1)) (k (n'==6))))))
def M.OU(n' qZ:Int)(yN:aC)(yj:ay)(k:Bool->Option R):=cond (n' !=1) (cond (!yN==[]) (k false) (cond (n' !=4) (cond (qZ !=0) (k false) (M.BJ n' yN k yj qZ)) (M.BJ n' yN k yj qZ))) (cond (n' !=4) (cond (qZ !=0) (k false) (M.BJ n' yN k yj qZ)) (M.BJ n' yN k yj qZ))
def M.BU n' qZ yN yj:=M.OU n' qZ yN yj some
def C.BU:S.BU.ok X0 λx=>zbB M.BU x.1.1:=fnS (λx=>zbB M.OU x.1.1) [fe C.wU,fe C.dI] [] (by intros;unfold M.OU M.BJ;exact zbC)
def M.yY(l:ay)(i:Int)(x':ay)(s:Int×Int)(kn:Int×Int->Option R)(ke:(Unit)⊕(Int×Int)->Option R):Option R:=match s with
 |(at',k')=>bif decide (k'>=0) then((idx l i).bind λe=>(cSl 1 e 3).bind λf=>(idx f k').bind λd=>(jR .i64 d 0).bind λa=>bif a !=i64.wrap (at' - 1) then(ke (.inl ())) else bif at'==0 then(ke (.inl ())) else (idx x' (i64.wrap (at' - 1))).bind λg=>(x'[(i64.wrap (at' - 1)).toNat]?).bind λc=>(jR .i64 c 0).bind λb=>kn (b,i64.wrap (k' - 1))) else ke (.inr (at',k'))
def M.Ee l i x' s:=M.yY l i x' s (λs=>some (Sum.inl s)) λt=>some (Sum.inr t)
def M.uw l i x' s:=fJ (M.Ee l i x') s
def F.uw:LE X0 46:=le 7 (IV [dH 0 (pL false 4),dH 4 (pO 300000 0),dH 5 pI,dH 6 pI,dH 7 pI] [dH 300000 zbf]) (λx=>(x.1.va.1,x.1.va.2.1)) (λx s=>((x.1.1,(),x.1.2.2.1,s.1,s.2,()),(x.2.1,()))) (λx=> .sum (.leaf (Unit) (λt=>(Ex.ret,⟨[(2,V.own 300000 0),(3,og false)],[(300000,Cell.arr false true 0 1 [])]⟩))) (.leaf (Int×Int) (λt=>(Ex.exit 2,⟨[(0,GL 4 x.1.1),(4,V.own 300000 0),(5,jq x.1.2.2.1),(6,jq t.1),(7,jq t.2),(24,og false)],[(300000,Cell.arr false true 0 1 x.2.1)]⟩)))) (λx=>M.yY x.1.1 x.1.2.2.1 x.2.1) [] [] (by rintro _ _ ⟨_,_⟩ _ _<;>simp only[M.yY,nb]<;>rfl)
def M.yZ(l:ay)(s:Int×ay)(kn:Int×ay->Option R)(ke:(Unit)⊕(Int×ay)->Option R):Option R:=match s with
 |(i,x')=>bif decide (i<(↑l.length:Int)) then((idx l i).bind λc=>(cSl 1 c 3).bind λd=>(M.uw l i x' (i,i64.wrap ((↑d.length:Int) - 1))).bind λa=>jX a (λf=>ke (.inl ())) λb=>letE b λe=>nI x' [[D.int .i64 e.1]] 8 λg=>kn (i64.wrap (i+1),g)) else ke (.inr (i,x'))
def M.Ef l s:=M.yZ l s (λs=>some (Sum.inl s)) λt=>some (Sum.inr t)
def M.uy l s:=fJ (M.Ef l) s
def F.uy:LE X0 46:=le 3 (IV [dH 0 (pL false 4),dH 4 (pO 300000 0),dH 5 pI] [dH 300000 zbf]) (λx=>(x.1.2.2.1,x.2.1)) (λx s=>((x.1.1,(),s.1,()),(s.2,()))) (λx=> .sum (.leaf (Unit) (λt=>(Ex.ret,⟨[(2,V.own 300000 0),(3,og false)],[(300000,Cell.arr false true 0 1 [])]⟩))) (.leaf (Int×ay) (λt=>(Ex.exit 0,⟨[(0,GL 4 x.1.1),(4,V.own 300000 0),(5,jq t.1),(12,og false)],[(300000,Cell.arr false true 0 1 t.2)]⟩)))) (λx=>M.yZ x.1.1) [] [F.uw] (by rintro _ _ ⟨_,_⟩ _ _<;>simp only[nI,M.yZ,nb]<;>rfl)
abbrev M.JW(l:ay)(k:ay×Bool->Option R):=(M.uy l (0,[])).bind λb=>jX b (λd=>k ([],false)) λc=>letE c λa=>cond (aj a.2) (k (a.2,true)) none
def M.xF l:=M.JW l some
def C.xF:=fTa S.xF (λx=>M.JW x.1.1) [] [F.uy]
def M.G7(l:ay)(s:Int)(kn:Int->Option R)(ke:(Unit)⊕(Int)->Option R):Option R:=match s with
 |i=>bif decide (i<(↑l.length:Int)) then((idx l i).bind λa=>(jR .i64 a 0).bind λb=>(jR .i64 a 1).bind λe=>(cStr a 2).bind λc=>(cSl 1 a 3).bind λd=>(M.BU b e c d).bind λf=>bif !f then(ke (.inl ())) else kn (i64.wrap (i+1))) else ke (.inr i)
def M.L8 l s:=M.G7 l s (λs=>some (Sum.inl s)) λt=>some (Sum.inr t)
def M.Rn l s:=fJ (M.L8 l) s
def F.Rn:LE X0 24:=le 4 (IV [dH 0 (pL false 4),dH 3 pI] []) (λx=>x.1.2.1) (λx s=>((x.1.1,s,()),())) (λx=> .sum (.leaf (Unit) (λt=>(Ex.ret,⟨[(2,og false)],[]⟩))) (.leaf (Int) (λt=>(Ex.exit 0,⟨[(0,GL 4 x.1.1),(3,jq t),(13,og false)],[]⟩)))) (λx=>M.G7 x.1.1) [fe C.BU] [] (by rintro _ _ _ _ _<;>simp only[M.G7,nb]<;>rfl)
abbrev M.Ue(l:ay)(k:Bool->Option R):=(M.dI ((↑l.length:Int)) 1 4000).bind λb=>cond (!b) (k false) ((M.Rn l 0).bind λe=>jX e (λi=>k false) λc=>letE c λg=>(M.xF l).bind λa=>cond a.2 ((idx a.1 (i64.wrap ((↑l.length:Int) - 1))).bind λh=>(a.1[(i64.wrap ((↑l.length:Int) - 1)).toNat]?).bind λd=>(jR .i64 d 0).bind λf=>k (f==0)) (k false))
def M.I7 l:=M.Ue l some
def C.I7:=fTa S.I7 (λx=>M.Ue x.1.1) [fe C.dI,fe C.xF] [F.Rn]
def M.o7(l:ay)(s:Int×ay)(kn:Int×ay->Option R)(ke:(Unit)⊕(Int×ay)->Option R):Option R:=match s with
 |(i,x')=>bif decide (i<(↑l.length:Int)) then((idx l i).bind λc=>(jR .i64 c 0).bind λa=>bif a==1 then((idx l i).bind λd=>(cStr d 2).bind λb=>bif((x'.length+(List.map byteRow b).length) * 1).ble 140737488355328 then(bif(x'.length+(List.map byteRow b).length).ble 140737488355328 then(kn (i64.wrap (i+1),x'++List.map byteRow b)) else none) else none) else bif a==2 then(bif((x'.length+1) * 1).ble 140737488355328 then(bif(x'.length+1).ble 140737488355328 then(kn (i64.wrap (i+1),x'++[[D.int IntKind.u8 32]])) else none) else none) else bif a==3 then(ke (.inl ())) else kn (i64.wrap (i+1),x')) else ke (.inr (i,x'))
def M.rJ l s:=M.o7 l s (λs=>some (Sum.inl s)) λt=>some (Sum.inr t)
def M.mP l s:=fJ (M.rJ l) s
def F.mP:LE X0 14:=le 5 (IV [dH 0 (pL false 4),dH 4 (pO 300000 0),dH 5 pI] [dH 300000 zbf]) (λx=>(x.1.2.2.1,x.2.1)) (λx s=>((x.1.1,(),s.1,()),(s.2,()))) (λx=> .sum (.leaf (Unit) (λt=>(Ex.ret,⟨[(2,V.d (D.str [])),(3,og false)],[]⟩))) (.leaf (Int×ay) (λt=>(Ex.exit 0,⟨[(0,GL 4 x.1.1),(4,V.own 300000 0),(5,jq t.1),(13,og false)],[(300000,Cell.arr false true 0 1 t.2)]⟩)))) (λx=>M.o7 x.1.1) [] [] (by rintro _ _ ⟨_,_⟩ _ _<;>simp only[M.o7,nb]<;>rfl)
abbrev M.G8(l:ay)(k:aC×Bool->Option R):=(M.I7 l).bind λc=>cond (!c) (k ([],false)) ((M.mP l (0,[])).bind λe=>jX e (λf=>k ([],false)) λa=>letE a λd=>(bytesOf d.2).bind λb=>k (b,true))
def M.tN l:=M.G8 l some
def C.tN:=fTa S.tN (λx=>M.G8 x.1.1) [fe C.I7] [F.mP]
abbrev M.L9(l:ay)(p:Int)(p1 p2 p3 p4:Bool)(k:aC->Option R):=(M.FW l p p1 p2 p3 p4).bind λb=>(M.tN (aB b)).bind λa=>k a.1
def M.zN l p p1 p2 p3 p4:=M.L9 l p p1 p2 p3 p4 some
def C.zN:=fTa S.zN (λx=>M.L9 x.1.1 x.1.2.1.1 x.1.2.1.2.1 x.1.2.1.2.2.1 x.1.2.1.va.1 x.1.2.1.va.2.1) [fe C.FW,fe C.tN]
abbrev M.abz(code:ay)(i:Int)(k:Int->Option R):=cond (decide (i<(↑code.length:Int))) ((idx code i).bind λa=>(jR IntKind.u8 a 0).bind λb=>k (i64.wrap b)) (k ((i64.wrap (i64.wrap (i * 37)+i64.wrap ((↑code.length:Int) * 11))).tmod 256))
def M.VP code i:=M.abz code i some
def C.VP:=fTa S.VP (λx=>M.abz x.1.1 x.1.2.1)
abbrev M.OV(b:Int)(k:Bool->Option R):=cond (b==32) (k true) (k (b==9))
def M.BX b:=M.OV b some
def C.BX:=fTa S.BX (λx=>M.OV x.1.1)
abbrev M.DW(n' low high:Int)(k:Bool->Option R):=cond (decide (n'>=low)) (k (decide (n'<=high))) (k false)
def M.jy n' low high:=M.DW n' low high some
def C.jy:=fTa S.jy (λx=>M.DW x.1.1 x.1.2.1 x.1.2.2.1)
abbrev M.Ro(s':aC)(at':Int)(k:Int->Option R):=(M.jy at' 0 (i64.wrap ((↑s'.length:Int) - 1))).bind λa=>cond (!a) (k (-1)) ((idx s' at').bind λb=>k (i64.wrap (↑b.toNat:Int)))
def M.iJ s' at':=M.Ro s' at' some
def C.iJ:=fTa S.iJ (λx=>M.Ro x.1.1 x.1.2.1) [fe C.jy]
def C.strings_IndexByte:S.strings_IndexByte.ok X0 λx=>M.strings_IndexByte x.1.1 x.1.2.1:=fD.aeN (p:=Prim.strings_IndexByte)
abbrev M.OW(b:Int)(k:Bool->Option R):=cond (decide (b>=48)) (k (decide (b<=57))) (k false)
def M.ru b:=M.OW b some
def C.ru:=fTa S.ru (λx=>M.OW x.1.1)
def M.Eh(s':aC)(s:Int)(kn:Int->Option R)(ke:Int->Option R):Option R:=match s with
 |at'=>(M.iJ s' at').bind λa=>(M.ru a).bind λb=>bif b then(kn (i64.wrap (at'+1))) else ke at'
def M.SV s' s:=M.Eh s' s (λs=>some (Sum.inl s)) λt=>some (Sum.inr t)
def M.Ii s' s:=fJ (M.SV s') s
def F.Ii:LE X0 133:=le 1 (IV [dH 0 pS,dH 1 pI] []) (λx=>x.1.2.1) (λx s=>((x.1.1,s,()),())) (λx=> .leaf (Int) (λt=>(Ex.exit 0,⟨[(0,sS x.1.1),(1,jq t),(8,og false)],[]⟩))) (λx=>M.Eh x.1.1) [fe C.iJ,fe C.ru] [] (by rintro _ _ _ _ _<;>simp only[M.Eh,nb]<;>rfl)
abbrev M.JX(s':aC)(at':Int)(k:Int->Option R):=(M.Ii s' at').bind λa=>k a
def M.jd s' at':=M.JX s' at' some
def C.jd:=fTa S.jd (λx=>M.JX x.1.1 x.1.2.1) [] [F.Ii]
abbrev M.ES(s':aC)(abQ:Int)(k:Int->Option R):=(M.iJ s' (i64.wrap (abQ+1))).bind λc=>cond (c==43) ((M.jd s' (i64.wrap (i64.wrap (abQ+1)+1))).bind λb=>cond (decide (b>i64.wrap (i64.wrap (abQ+1)+1))) (k b) (k abQ)) (cond (c==45) ((M.jd s' (i64.wrap (i64.wrap (abQ+1)+1))).bind λa=>cond (decide (a>i64.wrap (i64.wrap (abQ+1)+1))) (k a) (k abQ)) ((M.jd s' (i64.wrap (abQ+1))).bind λd=>cond (decide (d>i64.wrap (abQ+1))) (k d) (k abQ)))
def M.Rq(s':aC)(at':Int)(k:Int->Option R):=(M.jy at' 0 (i64.wrap ((↑s'.length:Int) - 1))).bind λf=>cond (!f) (k (-1)) ((M.jd s' at').bind λa=>(M.iJ s' a).bind λe=>cond (e==46) ((M.jd s' (i64.wrap (a+1))).bind λb=>cond (i64.wrap (i64.wrap (a - at')+i64.wrap (i64.wrap (b - a) - 1))==0) (k (-1)) ((M.iJ s' b).bind λc=>cond (c==101) (M.ES s' b k) (cond (c==69) (M.ES s' b k) (k b)))) (cond (i64.wrap (a - at')==0) (k (-1)) ((M.iJ s' a).bind λd=>cond (d==101) (M.ES s' a k) (cond (d==69) (M.ES s' a k) (k a)))))
def M.xG s' at':=M.Rq s' at' some
def C.xG:S.xG.ok X0 λx=>M.xG x.1.1 x.1.2.1:=fnS (λx=>M.Rq x.1.1 x.1.2.1) [fe C.jy,fe C.jd,fe C.iJ] [] (by intros;unfold M.Rq M.ES;exact zbC)
def M.uS(s':aC)(quote s:Int)(kn:Int->Option R)(ke:(Int)⊕(Int)->Option R):Option R:=match s with
 |i=>bif decide (i<(↑s'.length:Int)) then((idx s' i).bind λc=>bif(↑c.toNat:Int) !=10 then((idx s' i).bind λb=>bif i64.wrap (↑b.toNat:Int)==quote then(ke (.inl (i64.wrap (i+1)))) else (idx s' i).bind λd=>bif(↑d.toNat:Int)==92 then((M.iJ s' (i64.wrap (i+1))).bind λa=>bif a !=10 then(kn (i64.wrap (i64.wrap (i+1)+1))) else kn (i64.wrap (i+1))) else kn (i64.wrap (i+1))) else ke (.inr i)) else ke (.inr i)
def M.y5 s' quote s:=M.uS s' quote s (λs=>some (Sum.inl s)) λt=>some (Sum.inr t)
def M.uz s' quote s:=fJ (M.y5 s' quote) s
def F.uz:LE X0 134:=le 4 (IV [dH 0 pS,dH 2 pI,dH 7 pI] []) (λx=>x.1.2.2.1) (λx s=>((x.1.1,x.1.2.1,s,()),())) (λx=> .sum (.leaf (Int) (λt=>(Ex.ret,⟨[(6,jq t)],[]⟩))) (.leaf (Int) (λt=>(Ex.exit 0,⟨[(0,sS x.1.1),(2,jq x.1.2.1),(7,jq t),(24,og false)],[]⟩)))) (λx=>M.uS x.1.1 x.1.2.1) [fe C.iJ] [] (by rintro _ _ _ _ _<;>simp only[M.uS,nb]<;>rfl)
abbrev M.JY(s':aC)(at' quote:Int)(k:Int->Option R):=(M.iJ s' at').bind λa=>cond (a !=quote) (k (-1)) ((M.uz s' quote (i64.wrap (at'+1))).bind λb=>jX b (λd=>k d) λc=>letE c λe=>k (-1))
def M.qP s' at' quote:=M.JY s' at' quote some
def C.qP:=fTa S.qP (λx=>M.JY x.1.1 x.1.2.1 x.1.2.2.1) [fe C.iJ] [F.uz]
abbrev M.Rt(s':aC)(at':Int)(k:Int->Option R):=(M.qP s' at' 34).bind λa=>k a
def M.zO s' at':=M.Rt s' at' some
def C.zO:=fTa S.zO (λx=>M.Rt x.1.1 x.1.2.1) [fe C.qP]
abbrev M.Aq(kind:Int)(k:Bool->Option R):=cond (kind==3) (k true) (cond (kind==4) (k true) (cond (kind==5) (k true) (cond (kind==6) (k true) (cond (kind==8) (k true) (cond (kind==33) (k true) (cond (kind==35) (k true) (cond (kind==51) (k true) (cond (kind==52) (k true) (k false)))))))))
def M.iU kind:=M.Aq kind some
def C.iU:=fTa S.iU (λx=>M.Aq x.1.1)
abbrev M.Ru(s':aC)(at':Int)(k:Int->Option R):=(M.qP s' at' 47).bind λa=>cond (a==i64.wrap (at'+2)) (k (-1)) (k a)
def M.zQ s' at':=M.Ru s' at' some
def C.zQ:=fTa S.zQ (λx=>M.Ru x.1.1 x.1.2.1) [fe C.qP]
abbrev M.Mc(b:Int)(k:Bool->Option R):=cond (decide (b>=97)) (cond (decide (b<=122)) (k true) (cond (decide (b>=65)) (cond (decide (b<=90)) (k true) (k (b==95))) (k (b==95)))) (cond (decide (b>=65)) (cond (decide (b<=90)) (k true) (k (b==95))) (k (b==95)))
def M.lD b:=M.Mc b some
def C.lD:=fTa S.lD (λx=>M.Mc x.1.1)
abbrev M.Ij(b:Int)(k:Bool->Option R):=(M.lD b).bind λa=>cond a (k true) ((M.ru b).bind λc=>k c)
def M.nM b:=M.Ij b some
def C.nM:=fTa S.nM (λx=>M.Ij x.1.1) [fe C.lD,fe C.ru]
def M.CW(s:(aC×Int×Bool)⊕(aC×Int))(kn:(aC×Int×Bool)⊕(aC×Int)->Option R)(ke:aC×Int->Option R):Option R:=match s with
 | .inl (s',at',v9)=>(M.iJ s' at').bind λa=>((M.nM a).bind λd=>bif d then(kn (.inr (s',i64.wrap (at'+1)))) else ke (s',at'))
 | .inr (s',at')=>(M.iJ s' at').bind λc=>(M.nM c).bind λb=>bif b then(kn (.inr (s',i64.wrap (at'+1)))) else ke (s',at')
def M.OX s:=M.CW s (λs=>some (Sum.inl s)) λt=>some (Sum.inr t)
def M.Md s:=fJ (M.OX) s
def F.Md:LE X0 97:=le 3 (pOr (IV [dH 0 pS,dH 1 pI,dH 9 pB] []) (IV [dH 0 pS,dH 1 pI] [])) (σ:=(aC×Int×Bool)⊕(aC×Int)) (λx=>(match x with| .inl x=> .inl ((x.1.1,x.1.2.1,x.1.2.2.1))| .inr x=> .inr ((x.1.1,x.1.2.1)))) (λx s=>(match s with| .inl s=> .inl (((s.1,s.2.1,s.2.2,()),()))| .inr s=> .inr (((s.1,s.2,()),())))) (λx=> .leaf (aC×Int) (λt=>(Ex.exit 0,⟨[(0,sS t.1),(1,jq t.2),(13,og false)],[]⟩))) (λx=>M.CW) [fe C.iJ,fe C.nM] [] (by rintro _ _ (⟨_,_,_⟩|⟨_,_⟩) _ _<;>unfold M.CW<;>exact zbC) (hE:=by intro _ _ s _;rcases s with s|s<;>kernel_rfl)
abbrev M.OY(s':aC)(at':Int)(k:Int->Option R):=(M.iJ s' at').bind λb=>(M.lD b).bind λa=>cond (!a) (k (-1)) ((M.Md (.inl (s',at',false))).bind λc=>k c.2)
def M.zB s' at':=M.OY s' at' some
def C.zB:=fTa S.zB (λx=>M.OY x.1.1 x.1.2.1) [fe C.iJ,fe C.lD] [F.Md]
def M.y7(s':aC)(v5 s:Int)(kn:Int->Option R)(ke:(Unit)⊕(Int)->Option R):Option R:=match s with
 |v6=>bif decide (v6<v5) then((idx s' v6).bind λa=>(M.nM (i64.wrap (↑a.toNat:Int))).bind λb=>bif !b then(ke (.inl ())) else kn (i64.wrap (v6+1))) else ke (.inr v6)
def M.Ei s' v5 s:=M.y7 s' v5 s (λs=>some (Sum.inl s)) λt=>some (Sum.inr t)
def M.Ik s' v5 s:=fJ (M.Ei s' v5) s
def F.Ik:LE X0 98:=le 2 (IV [dH 0 pS,dH 5 pI,dH 6 pI] []) (λx=>x.1.2.2.1) (λx s=>((x.1.1,x.1.2.1,s,()),())) (λx=> .sum (.leaf (Unit) (λt=>(Ex.ret,⟨[(2,og false)],[]⟩))) (.leaf (Int) (λt=>(Ex.exit 0,⟨[(0,sS x.1.1),(5,jq x.1.2.1),(6,jq t),(7,og false)],[]⟩)))) (λx=>M.y7 x.1.1 x.1.2.1) [fe C.nM] [] (by rintro _ _ _ _ _<;>simp only[M.y7,nb]<;>rfl)
abbrev M.JZ(s':aC)(k:Bool->Option R):=(M.Ik s' ((↑s'.length:Int)) 0).bind λd=>jX d (λf=>k false) λc=>letE c λg=>(M.jy ((↑s'.length:Int)) 1 12).bind λe=>cond e ((idx s' 0).bind λb=>(M.lD (i64.wrap (↑b.toNat:Int))).bind λa=>k a) (k false)
def M.oU s':=M.JZ s' some
def C.oU:=fTa S.oU (λx=>M.JZ x.1.1) [fe C.jy,fe C.lD] [F.Ik]
def M.CX(s':ay)(v:aC)(v7 s:Int)(kn:Int->Option R)(ke:(Int)⊕(Int)->Option R):Option R:=match s with
 |v8=>bif decide (v8<v7) then((idx s' v8).bind λb=>(cStr b 0).bind λa=>bif v==a then(ke (.inl v8)) else kn (i64.wrap (v8+1))) else ke (.inr v8)
def M.Il s' v v7 s:=M.CX s' v v7 s (λs=>some (Sum.inl s)) λt=>some (Sum.inr t)
def M.Me s' v v7 s:=fJ (M.Il s' v v7) s
def F.Me:LE X0 170:=le 2 (IV [dH 0 (pL false 1),dH 1 pS,dH 7 pI,dH 8 pI] []) (λx=>x.1.va.1) (λx s=>((x.1.1,x.1.2.1,x.1.2.2.1,s,()),())) (λx=> .sum (.leaf (Int) (λt=>(Ex.ret,⟨[(4,jq t)],[]⟩))) (.leaf (Int) (λt=>(Ex.exit 0,⟨[(0,GL 1 x.1.1),(1,sS x.1.2.1),(7,jq x.1.2.2.1),(8,jq t),(9,og false)],[]⟩)))) (λx=>M.CX x.1.1 x.1.2.1 x.1.2.2.1) [] [] (by rintro _ _ _ _ _<;>simp only[M.CX,nb]<;>rfl)
abbrev M.OZ(s':ay)(v:aC)(k:Int->Option R):=(M.Me s' v ((↑s'.length:Int)) 0).bind λb=>jX b (λc=>k c) λa=>letE a λd=>k (-1)
def M.slices_Index s' v:=M.OZ s' v some
def C.slices_Index:=fTa S.slices_Index (λx=>M.OZ x.1.1 x.1.2.1) [] [F.Me]
abbrev M.J3(s':aC)(k:Int->Option R):=(M.slices_Index (List.map (λx=>[x]) Fp) s').bind λa=>cond (decide (a<0)) (k 0) (k (i64.wrap (10+a)))
def M.oV s':=M.J3 s' some
def C.oV:=fTa S.oV (λx=>M.J3 x.1.1) [fe C.slices_Index]
abbrev M.Io(s':ay)(v:aC)(k:Bool->Option R):=(M.slices_Index s' v).bind λa=>k (decide (a>=0))
def M.slices_Contains(s':ay)(v:aC):Option (Bool):=M.Io s' v some
def C.slices_Contains:=fTa S.slices_Contains (λx=>M.Io x.1.1 x.1.2.1) [fe C.slices_Index]
abbrev M.J4(s':aC)(k:Bool->Option R):=(M.slices_Contains (List.map (λx=>[x]) ND) s').bind λa=>k a
def M.nN s':=M.J4 s' some
def C.nN:=fTa S.nN (λx=>M.J4 x.1.1) [fe C.slices_Contains]
abbrev M.J5(s':aC)(at' end':Int)(k:Int×aC×Int->Option R):=(cut s' at' end').bind λa=>(M.oV a).bind λb=>cond (b !=0) ((M.oV a).bind λd=>k (d,a,at')) ((M.nN a).bind λc=>cond c (k (8,a,at')) ((M.iJ s' end').bind λe=>cond (e==40) (k (7,a,at')) (k (6,a,at'))))
def M.ug s' at' end':=M.J5 s' at' end' some
def C.ug:=fTa S.ug (λx=>M.J5 x.1.1 x.1.2.1 x.1.2.2.1) [fe C.oV,fe C.nN,fe C.iJ]
abbrev M.oD(s' afo:aC)(k:Bool->Option R):=cond (decide ((↑s'.length:Int)>=(↑afo.length:Int))) ((cut s' 0 (↑afo.length:Int)).bind λa=>k (a==afo)) (k false)
def M.jk s' afo:=M.oD s' afo some
def C.jk:=fTa S.jk (λx=>M.oD x.1.1 x.1.2.1)
abbrev M.Ej(s' afo:aC)(k:Bool->Option R):=(M.jk s' afo).bind λa=>k a
def M.strings_HasPrefix s' afo:=M.Ej s' afo some
def C.strings_HasPrefix:=fTa S.strings_HasPrefix (λx=>M.Ej x.1.1 x.1.2.1) [fe C.jk]
def M.O1(s':aC)(at':Int)(v16 az6 v162 az7 v164 az8 az9 v167 v168 aAa aqt aqu aqv aqw aqx aqy aqz aqA aqB aqC aqD aqE aqF aqG aqH aqI aqJ aqK aqL aqM aqN aqO aqP aqQ aqR aqS aqT aqU aqV:aC)(s:Int×Int×Int)(kn:Int×Int×Int->Option R)(ke:Int×Int×Int->Option R):Option R:=match s with
 |(kind,most,v17)=>bif decide (v17<39) then(bif decide (0<=v17) && decide (v17<39) then((cStr [D.str v16,D.str az6,D.str v162,D.str az7,D.str v164,D.str az8,D.str az9,D.str v167,D.str v168,D.str aAa,D.str aqt,D.str aqu,D.str aqv,D.str aqw,D.str aqx,D.str aqy,D.str aqz,D.str aqA,D.str aqB,D.str aqC,D.str aqD,D.str aqE,D.str aqF,D.str aqG,D.str aqH,D.str aqI,D.str aqJ,D.str aqK,D.str aqL,D.str aqM,D.str aqN,D.str aqO,D.str aqP,D.str aqQ,D.str aqR,D.str aqS,D.str aqT,D.str aqU,D.str aqV] v17.toNat).bind λa=>bif decide ((↑a.length:Int)>most) then((cut s' at' (↑s'.length:Int)).bind λb=>(M.strings_HasPrefix b a).bind λc=>bif c then(kn (i64.wrap (30+v17),(↑a.length:Int),i64.wrap (v17+1))) else kn (kind,most,i64.wrap (v17+1))) else kn (kind,most,i64.wrap (v17+1))) else none) else ke (kind,most,v17)
def M.ZX s' at' v16 az6 v162 az7 v164 az8 az9 v167 v168 aAa aqt aqu aqv aqw aqx aqy aqz aqA aqB aqC aqD aqE aqF aqG aqH aqI aqJ aqK aqL aqM aqN aqO aqP aqQ aqR aqS aqT aqU aqV s:=M.O1 s' at' v16 az6 v162 az7 v164 az8 az9 v167 v168 aAa aqt aqu aqv aqw aqx aqy aqz aqA aqB aqC aqD aqE aqF aqG aqH aqI aqJ aqK aqL aqM aqN aqO aqP aqQ aqR aqS aqT aqU aqV s (λs=>some (Sum.inl s)) λt=>some (Sum.inr t)
def M.Uf s' at' v16 az6 v162 az7 v164 az8 az9 v167 v168 aAa aqt aqu aqv aqw aqx aqy aqz aqA aqB aqC aqD aqE aqF aqG aqH aqI aqJ aqK aqL aqM aqN aqO aqP aqQ aqR aqS aqT aqU aqV s:=fJ (M.ZX s' at' v16 az6 v162 az7 v164 az8 az9 v167 v168 aAa aqt aqu aqv aqw aqx aqy aqz aqA aqB aqC aqD aqE aqF aqG aqH aqI aqJ aqK aqL aqM aqN aqO aqP aqQ aqR aqS aqT aqU aqV) s
def F.Uf:LE X0 100:=le 5 (IV [dH 0 pS,dH 1 pI,dH 6 pI,dH 7 pI,dH 16 (qL [pS,pS,pS,pS,pS,pS,pS,pS,pS,pS,pS,pS,pS,pS,pS,pS,pS,pS,pS,pS,pS,pS,pS,pS,pS,pS,pS,pS,pS,pS,pS,pS,pS,pS,pS,pS,pS,pS,pS]),dH 17 pI] []) (λx=>(x.1.2.2.1,x.1.va.1,x.1.va.2.2.1)) (λx s=>((x.1.1,x.1.2.1,s.1,s.2.1,(x.1.va.2.1.1,x.1.va.2.1.2.1,x.1.va.2.1.2.2.1,x.1.va.2.1.va.1,x.1.va.2.1.va.2.1,x.1.va.2.1.va.2.2.1,x.1.va.2.1.va.va.1,x.1.va.2.1.va.va.2.1,x.1.va.2.1.wc.1,x.1.va.2.1.wc.2.1,x.1.va.2.1.wc.2.2.1,x.1.va.2.1.wc.va.1,x.1.va.2.1.wc.va.2.1,x.1.va.2.1.wc.va.2.2.1,x.1.va.2.1.wc.va.va.1,x.1.va.2.1.wc.va.va.2.1,x.1.va.2.1.wc.wc.1,x.1.va.2.1.wc.wc.2.1,x.1.va.2.1.wc.wc.2.2.1,x.1.va.2.1.wc.wc.va.1,x.1.va.2.1.wc.wc.va.2.1,x.1.va.2.1.wc.wc.va.2.2.1,x.1.va.2.1.wc.wc.va.va.1,x.1.va.2.1.wc.wc.va.va.2.1,x.1.va.2.1.wc.wc.wc.1,x.1.va.2.1.wc.wc.wc.2.1,x.1.va.2.1.wc.wc.wc.2.2.1,x.1.va.2.1.wc.wc.wc.va.1,x.1.va.2.1.wc.wc.wc.va.2.1,x.1.va.2.1.wc.wc.wc.va.2.2.1,x.1.va.2.1.wc.wc.wc.va.va.1,x.1.va.2.1.wc.wc.wc.va.va.2.1,x.1.va.2.1.wc.wc.wc.wc.1,x.1.va.2.1.wc.wc.wc.wc.2.1,x.1.va.2.1.wc.wc.wc.wc.2.2.1,x.1.va.2.1.wc.wc.wc.wc.va.1,x.1.va.2.1.wc.wc.wc.wc.va.2.1,x.1.va.2.1.wc.wc.wc.wc.va.2.2.1,x.1.va.2.1.wc.wc.wc.wc.va.va.1,()),s.2.2,()),())) (λx=> .leaf (Int×Int×Int) (λt=>(Ex.exit 0,⟨[(0,sS x.1.1),(1,jq x.1.2.1),(6,jq t.1),(7,jq t.2.1),(16,V.agg [sS x.1.va.2.1.1,sS x.1.va.2.1.2.1,sS x.1.va.2.1.2.2.1,sS x.1.va.2.1.va.1,sS x.1.va.2.1.va.2.1,sS x.1.va.2.1.va.2.2.1,sS x.1.va.2.1.va.va.1,sS x.1.va.2.1.va.va.2.1,sS x.1.va.2.1.wc.1,sS x.1.va.2.1.wc.2.1,sS x.1.va.2.1.wc.2.2.1,sS x.1.va.2.1.wc.va.1,sS x.1.va.2.1.wc.va.2.1,sS x.1.va.2.1.wc.va.2.2.1,sS x.1.va.2.1.wc.va.va.1,sS x.1.va.2.1.wc.va.va.2.1,sS x.1.va.2.1.wc.wc.1,sS x.1.va.2.1.wc.wc.2.1,sS x.1.va.2.1.wc.wc.2.2.1,sS x.1.va.2.1.wc.wc.va.1,sS x.1.va.2.1.wc.wc.va.2.1,sS x.1.va.2.1.wc.wc.va.2.2.1,sS x.1.va.2.1.wc.wc.va.va.1,sS x.1.va.2.1.wc.wc.va.va.2.1,sS x.1.va.2.1.wc.wc.wc.1,sS x.1.va.2.1.wc.wc.wc.2.1,sS x.1.va.2.1.wc.wc.wc.2.2.1,sS x.1.va.2.1.wc.wc.wc.va.1,sS x.1.va.2.1.wc.wc.wc.va.2.1,sS x.1.va.2.1.wc.wc.wc.va.2.2.1,sS x.1.va.2.1.wc.wc.wc.va.va.1,sS x.1.va.2.1.wc.wc.wc.va.va.2.1,sS x.1.va.2.1.wc.wc.wc.wc.1,sS x.1.va.2.1.wc.wc.wc.wc.2.1,sS x.1.va.2.1.wc.wc.wc.wc.2.2.1,sS x.1.va.2.1.wc.wc.wc.wc.va.1,sS x.1.va.2.1.wc.wc.wc.wc.va.2.1,sS x.1.va.2.1.wc.wc.wc.wc.va.2.2.1,sS x.1.va.2.1.wc.wc.wc.wc.va.va.1]),(17,jq t.2.2),(18,og false)],[]⟩))) (λx=>M.O1 x.1.1 x.1.2.1 x.1.va.2.1.1 x.1.va.2.1.2.1 x.1.va.2.1.2.2.1 x.1.va.2.1.va.1 x.1.va.2.1.va.2.1 x.1.va.2.1.va.2.2.1 x.1.va.2.1.va.va.1 x.1.va.2.1.va.va.2.1 x.1.va.2.1.wc.1 x.1.va.2.1.wc.2.1 x.1.va.2.1.wc.2.2.1 x.1.va.2.1.wc.va.1 x.1.va.2.1.wc.va.2.1 x.1.va.2.1.wc.va.2.2.1 x.1.va.2.1.wc.va.va.1 x.1.va.2.1.wc.va.va.2.1 x.1.va.2.1.wc.wc.1 x.1.va.2.1.wc.wc.2.1 x.1.va.2.1.wc.wc.2.2.1 x.1.va.2.1.wc.wc.va.1 x.1.va.2.1.wc.wc.va.2.1 x.1.va.2.1.wc.wc.va.2.2.1 x.1.va.2.1.wc.wc.va.va.1 x.1.va.2.1.wc.wc.va.va.2.1 x.1.va.2.1.wc.wc.wc.1 x.1.va.2.1.wc.wc.wc.2.1 x.1.va.2.1.wc.wc.wc.2.2.1 x.1.va.2.1.wc.wc.wc.va.1 x.1.va.2.1.wc.wc.wc.va.2.1 x.1.va.2.1.wc.wc.wc.va.2.2.1 x.1.va.2.1.wc.wc.wc.va.va.1 x.1.va.2.1.wc.wc.wc.va.va.2.1 x.1.va.2.1.wc.wc.wc.wc.1 x.1.va.2.1.wc.wc.wc.wc.2.1 x.1.va.2.1.wc.wc.wc.wc.2.2.1 x.1.va.2.1.wc.wc.wc.wc.va.1 x.1.va.2.1.wc.wc.wc.wc.va.2.1 x.1.va.2.1.wc.wc.wc.wc.va.2.2.1 x.1.va.2.1.wc.wc.wc.wc.va.va.1) [fe C.strings_HasPrefix] [] (by rintro _ _ ⟨_,_,_⟩ _ _<;>simp only[M.O1,nb]<;>rfl)
abbrev M.VU(s':aC)(at':Int)(k:Int×Int->Option R):=(M.jy at' 0 (i64.wrap ((↑s'.length:Int) - 1))).bind λb=>cond (!b) (k (0,0)) ((M.Uf s' at' [123] [125] [40] [41] [91] [93] [44] [59] [43,61] [45,61] [42,61] [47,61] [37,61] [94,61] [124,124] [38,38] [33,126] [61,61] [60,61] [62,61] [33,61] [43,43] [45,45] [62,62] [61] [43] [45] [42] [47] [37] [94] [33] [62] [60] [124] [63] [58] [126] [36] (0,0,0)).bind λa=>k (a.1,a.2.1))
def M.JA s' at':=M.VU s' at' some
def C.JA:=fTa S.JA (λx=>M.VU x.1.1 x.1.2.1) [fe C.jy] [F.Uf]
abbrev M.MB(al2:UInt8)(s':aC)(at':Int)(k:Int×aC×Int->Option R):=(M.lD (i64.wrap (↑al2.toNat:Int))).bind λd=>cond d ((M.zB s' at').bind λc=>(cut s' at' c).bind λf=>(M.oU f).bind λe=>cond e ((M.ug s' at' c).bind λb=>k (b)) (k (0,[],0))) ((M.JA s' at').bind λa=>cond (a.1==0) (k (0,[],0)) (cond (decide (i64.wrap (at'+a.2)<0)) (k (0,[],0)) ((cut s' at' (i64.wrap (at'+a.2))).bind λg=>k (a.1,g,at'))))
def M.O4(s':aC)(at' before:Int)(k:Int×aC×Int->Option R):=(idx s' at').bind λa=>cond (i64.wrap (↑a.toNat:Int)==10) (cond (decide (i64.wrap (at'+1)<0)) (k (0,[],0)) ((cut s' at' (i64.wrap (at'+1))).bind λq=>k (1,q,at'))) (cond (i64.wrap (↑a.toNat:Int)==35) ((cut s' at' (↑s'.length:Int)).bind λj=>(M.strings_IndexByte j 10).bind λb=>cond (decide (b>=0)) (cond (decide (i64.wrap (at'+b)<0)) (k (0,[],0)) ((cut s' at' (i64.wrap (at'+b))).bind λg=>k (2,g,at'))) ((cut s' at' (↑s'.length:Int)).bind λl=>k (2,l,at'))) ((M.ru (i64.wrap (↑a.toNat:Int))).bind λp=>cond p ((M.xG s' at').bind λf=>cond (decide (f<0)) (k (0,[],0)) ((cut s' at' f).bind λm=>k (3,m,at'))) (cond (i64.wrap (↑a.toNat:Int)==46) ((M.xG s' at').bind λe=>cond (decide (e<0)) (k (0,[],0)) ((cut s' at' e).bind λi=>k (3,i,at'))) (cond (i64.wrap (↑a.toNat:Int)==34) ((M.zO s' at').bind λc=>cond (decide (c<0)) (k (0,[],0)) ((cut s' at' c).bind λh=>k (4,h,at'))) (cond (i64.wrap (↑a.toNat:Int)==47) ((M.iU before).bind λn=>cond (!n) ((M.zQ s' at').bind λd=>cond (decide (d<0)) (k (0,[],0)) ((cut s' at' d).bind λo=>k (5,o,at'))) (M.MB a s' at' k)) (M.MB a s' at' k))))))
def M.zC s' at' before:=M.O4 s' at' before some
def C.zC:S.zC.ok X0 λx=>M.zC x.1.1 x.1.2.1 x.1.2.2.1:=fnS (λx=>M.O4 x.1.1 x.1.2.1 x.1.2.2.1) [fe C.strings_IndexByte,fe C.ru,fe C.xG,fe C.zO,fe C.iU,fe C.zQ,fe C.lD,fe C.zB,fe C.oU,fe C.ug,fe C.JA] [] (by intros;unfold M.O4 M.MB;exact zbC)
abbrev M.Ar(s':aC)(at' before:Int)(ke:(Int)⊕(Int×Int×ay)->Option R)(uV:ay)(kn:Int×Int×ay->Option R):=(M.zC s' at' before).bind λa=>cond (a.1==0) (ke (.inl at')) (cond (((uV.length+[[D.int .i64 a.1,D.str a.2.1,D.int .i64 a.2.2]].length) * 32).ble 140737488355328) (cond ((uV.length+[[D.int .i64 a.1,D.str a.2.1,D.int .i64 a.2.2]].length).ble 140737488355328) (kn (i64.wrap (at'+(↑a.2.1.length:Int)),a.1,uV++[[D.int .i64 a.1,D.str a.2.1,D.int .i64 a.2.2]])) none) none)
def M.CY(s':aC)(x' qY:Int)(s:Int×Int×ay)(kn:Int×Int×ay->Option R)(ke:(Int)⊕(Int×Int×ay)->Option R):Option R:=match s with
 |(at',before,uV)=>bif decide (at'<(↑s'.length:Int)) then((idx s' at').bind λc=>(M.BX (i64.wrap (↑c.toNat:Int))).bind λd=>bif d then(kn (i64.wrap (at'+1),before,uV)) else (idx s' at').bind λa=>bif(↑a.toNat:Int)==92 then((M.iJ s' (i64.wrap (at'+1))).bind λb=>bif b==10 then(kn (i64.wrap (at'+2),before,uV)) else M.Ar s' at' before ke uV kn) else M.Ar s' at' before ke uV kn) else ke (.inr (at',before,uV))
def M.Ip s' x' qY s:=M.CY s' x' qY s (λs=>some (Sum.inl s)) λt=>some (Sum.inr t)
def M.pU s' x' qY s:=fJ (M.Ip s' x' qY) s
def F.pU:LE X0 30:=le 2 (IV [dH 0 pS,dH 1 pI,dH 2 pI,dH 7 (pP 300000 0),dH 8 (pO 300001 0)] [dH 300000 (cB 35 [pI,pI]),dH 300001 (cA false true 0 3)]) (λx=>(x.1.2.1,x.1.2.2.1,x.2.2.1)) (λx s=>((x.1.1,s.1,s.2.1,(),(),()),((x.2.1.1,x.2.1.2.1,()),s.2.2,()))) (λx=> .sum (.leaf (Int) (λt=>(Ex.ret,⟨[(6,V.nil 3),(7,V.ptr 300000 0)],[(300000,Cell.box 35 [jq 2,jq t])]⟩))) (.leaf (Int×Int×ay) (λt=>(Ex.exit 0,⟨[(0,sS x.1.1),(1,jq t.1),(2,jq t.2.1),(7,V.ptr 300000 0),(8,V.own 300001 0),(14,og false)],[(300000,Cell.box 35 [jq x.2.1.1,jq x.2.1.2.1]),(300001,Cell.arr false true 0 3 t.2.2)]⟩)))) (λx=>M.CY x.1.1 x.2.1.1 x.2.1.2.1) [fe C.BX,fe C.iJ,fe C.zC] [] (by rintro _ _ ⟨_,_,_⟩ _ _<;>simp only[M.CY,M.Ar,nb]<;>rfl)
abbrev M.O5(s':aC)(at' before:Int)(k:ay×Int×Int->Option R):=(M.pU s' 0 0 (at',before,[])).bind λb=>jX b (λc=>k ([],2,c)) λd=>letE d λa=>cond (aj a.2.2) (k (a.2.2,0,0)) none
def M.FX s' at' before:=M.O5 s' at' before some
def C.FX:=fTa S.FX (λx=>M.O5 x.1.1 x.1.2.1 x.1.2.2.1) [] [F.pU]
abbrev M.Ym(s':aC)(k:ay×Int×Int->Option R):=cond (decide ((↑s'.length:Int)>3000)) (k ([],1,0)) ((M.FX s' 0 0).bind λa=>cond (aj a.1) (k (a)) none)
def M.RU s':=M.Ym s' some
def C.RU:=fTa S.RU (λx=>M.Ym x.1.1) [fe C.FX]
def C.strings_Contains:S.strings_Contains.ok X0 λx=>M.strings_Contains x.1.1 x.1.2.1:=fD.aeN (p:=Prim.strings_Contains)
abbrev M.Rw(s':aC)(k:Bool->Option R):=(M.oU s').bind λc=>cond c ((M.oV s').bind λb=>cond (b==0) ((M.nN s').bind λa=>k !a) (k false)) (k false)
def M.BZ s':=M.Rw s' some
def C.BZ:=fTa S.BZ (λx=>M.Rw x.1.1) [fe C.oU,fe C.oV,fe C.nN]
abbrev M.CZ(kind:Int)(k:Bool->Option R):=(M.jy kind 10 26).bind λa=>k a
def M.rF kind:=M.CZ kind some
def C.rF:=fTa S.rF (λx=>M.CZ x.1.1) [fe C.jy]
abbrev M.Iq(kind:Int)(k:Bool->Option R):=(M.jy kind 30 68).bind λa=>k a
def M.yK kind:=M.Iq kind some
def C.yK:=fTa S.yK (λx=>M.Iq x.1.1) [fe C.jy]
abbrev M.O6(kind:Int)(k:aC->Option R):=cond (kind==1) (k [10]) ((M.rF kind).bind λd=>cond d (cond (decide (0<=i64.wrap (kind - 10)) && decide (i64.wrap (kind - 10)<17)) ((cStr Fp (0+(i64.wrap (kind - 10)).toNat * 1)).bind λa=>k a) none) ((M.yK kind).bind λb=>cond b (cond (decide (0<=i64.wrap (kind - 30)) && decide (i64.wrap (kind - 30)<39)) ((cStr UM (0+(i64.wrap (kind - 30)).toNat * 1)).bind λc=>k c) none) (k [])))
def M.Cb kind:=M.O6 kind some
def C.Cb:=fTa S.Cb (λx=>M.O6 x.1.1) [fe C.rF,fe C.yK]
abbrev M.O7(t':Int)(Ht:aC)(Us:Int)(k:Bool->Option R):=cond (Ht==[]) (k false) (cond (t'==2) ((idx Ht 0).bind λi=>cond ((↑i.toNat:Int)==35) ((M.strings_Contains Ht [10]).bind λb=>k !b) (k false)) (cond (t'==3) ((M.xG Ht 0).bind λh=>k (h==(↑Ht.length:Int))) (cond (t'==4) ((M.zO Ht 0).bind λg=>k (g==(↑Ht.length:Int))) (cond (t'==5) ((M.zQ Ht 0).bind λa=>k (a==(↑Ht.length:Int))) (cond (t'==6) ((M.BZ Ht).bind λe=>k e) (cond (t'==7) ((M.BZ Ht).bind λf=>k f) (cond (t'==8) ((M.nN Ht).bind λd=>k d) ((M.Cb t').bind λc=>k (Ht==c)))))))))
def M.zD t' Ht Us:=M.O7 t' Ht Us some
def C.zD:=fTa S.zD (λx=>M.O7 x.1.1.1 x.1.1.2.1 x.1.1.2.2.1) [fe C.strings_Contains,fe C.xG,fe C.zO,fe C.zQ,fe C.BZ,fe C.nN,fe C.Cb]
abbrev M.jM(ET before:Int)(ke:(Unit)⊕(Int×Int)->Option R)(kn:Int×Int->Option R)(v12:Int):=cond (ET==5) ((M.iU before).bind λc=>cond c (ke (.inl ())) (cond (ET==58) ((M.iU before).bind λe=>cond (!e) (ke (.inl ())) (kn (ET,i64.wrap (v12+1)))) (cond (ET==41) ((M.iU before).bind λd=>cond (!d) (ke (.inl ())) (kn (ET,i64.wrap (v12+1)))) (kn (ET,i64.wrap (v12+1)))))) (cond (ET==58) ((M.iU before).bind λa=>cond (!a) (ke (.inl ())) (kn (ET,i64.wrap (v12+1)))) (cond (ET==41) ((M.iU before).bind λb=>cond (!b) (ke (.inl ())) (kn (ET,i64.wrap (v12+1)))) (kn (ET,i64.wrap (v12+1)))))
def M.Au(l v10:ay)(v11:Int)(s:Int×Int)(kn:Int×Int->Option R)(ke:(Unit)⊕(Int×Int)->Option R):Option R:=match s with
 |(before,v12)=>bif decide (v12<v11) then((idx v10 v12).bind λc=>(jR .i64 c 0).bind λa=>(cStr c 1).bind λe=>(jR .i64 c 2).bind λd=>bif decide (i64.wrap (v12+1)<(↑l.length:Int)) then((idx l (i64.wrap (v12+1))).bind λg=>(jR .i64 g 0).bind λb=>(M.zD a e d).bind λh=>bif !h then(ke (.inl ())) else bif a==7 then(bif b !=32 then(ke (.inl ())) else bif a==2 then(bif b !=1 then(bif b !=0 then(ke (.inl ())) else M.jM a before ke kn v12) else M.jM a before ke kn v12) else M.jM a before ke kn v12) else bif a==2 then(bif b !=1 then(bif b !=0 then(ke (.inl ())) else M.jM a before ke kn v12) else M.jM a before ke kn v12) else M.jM a before ke kn v12) else (M.zD a e d).bind λf=>bif !f then(ke (.inl ())) else bif a==7 then(ke (.inl ())) else bif a==2 then(M.jM a before ke kn v12) else M.jM a before ke kn v12) else ke (.inr (before,v12))
def M.Aw l v10 v11 s:=M.Au l v10 v11 s (λs=>some (Sum.inl s)) λt=>some (Sum.inr t)
def M.J6 l v10 v11 s:=fJ (M.Aw l v10 v11) s
def F.J6:LE X0 55:=le 5 (IV [dH 0 (pL false 3),dH 3 pI,dH 10 (pL false 3),dH 11 pI,dH 12 pI] []) (λx=>(x.1.2.1,x.1.va.2.1)) (λx s=>((x.1.1,s.1,x.1.2.2.1,x.1.va.1,s.2,()),())) (λx=> .sum (.leaf (Unit) (λt=>(Ex.ret,⟨[(2,og false)],[]⟩))) (.leaf (Int×Int) (λt=>(Ex.exit 0,⟨[(0,GL 3 x.1.1),(3,jq t.1),(10,GL 3 x.1.2.2.1),(11,jq x.1.va.1),(12,jq t.2),(13,og false)],[]⟩)))) (λx=>M.Au x.1.1 x.1.2.2.1 x.1.va.1) [fe C.zD,fe C.iU] [] (by rintro _ _ ⟨_,_⟩ _ _<;>unfold M.Au M.jM<;>exact zbC)
abbrev M.MC(l:ay)(k:Bool->Option R):=cond (decide ((↑l.length:Int)>3000)) (k false) ((M.J6 l l ((↑l.length:Int)) (0,0)).bind λa=>jX a (λc=>k false) λb=>letE b λd=>k true)
def M.zS l:=M.MC l some
def C.zS:=fTa S.zS (λx=>M.MC x.1.1) [] [F.J6]
abbrev M.O8(kind:Int)(k:Bool->Option R):=cond (kind==32) (k true) (cond (kind==34) (k true) (k (kind==30)))
def M.yL kind:=M.O8 kind some
def C.yL:=fTa S.yL (λx=>M.O8 x.1.1)
abbrev M.O9(kind:Int)(k:Bool->Option R):=cond (kind==33) (k true) (cond (kind==35) (k true) (k (kind==31)))
def M.yM kind:=M.O9 kind some
def C.yM:=fTa S.yM (λx=>M.O9 x.1.1)
def M.EU(v6:ay)(v7:Int)(s:Int×Int)(kn:Int×Int->Option R)(ke:(Int)⊕(Int×Int)->Option R):Option R:=match s with
 |(open',v8)=>bif decide (v8<v7) then((idx v6 v8).bind λa=>(jR .i64 a 0).bind λb=>(cStr a 1).bind λe=>(jR .i64 a 2).bind λf=>(M.yL b).bind λd=>bif d then(bif decide (i64.wrap (open'+1)>40) then(ke (.inl v8)) else kn (i64.wrap (open'+1),i64.wrap (v8+1))) else (M.yM b).bind λc=>bif c then(bif decide ((bif decide (i64.wrap (open' - 1)<0) then 0 else i64.wrap (open' - 1))>40) then(ke (.inl v8)) else kn (bif decide (i64.wrap (open' - 1)<0) then 0 else i64.wrap (open' - 1),i64.wrap (v8+1))) else bif decide (open'>40) then(ke (.inl v8)) else kn (open',i64.wrap (v8+1))) else ke (.inr (open',v8))
def M.EW v6 v7 s:=M.EU v6 v7 s (λs=>some (Sum.inl s)) λt=>some (Sum.inr t)
def M.Pg v6 v7 s:=fJ (M.EW v6 v7) s
def F.Pg:LE X0 56:=le 3 (IV [dH 3 pI,dH 6 (pL false 3),dH 7 pI,dH 8 pI] []) (λx=>(x.1.1,x.1.va.1)) (λx s=>((s.1,x.1.2.1,x.1.2.2.1,s.2,()),())) (λx=> .sum (.leaf (Int) (λt=>(Ex.ret,⟨[(2,jq t)],[]⟩))) (.leaf (Int×Int) (λt=>(Ex.exit 0,⟨[(3,jq t.1),(6,GL 3 x.1.2.1),(7,jq x.1.2.2.1),(8,jq t.2),(9,og false)],[]⟩)))) (λx=>M.EU x.1.2.1 x.1.2.2.1) [fe C.yL,fe C.yM] [] (by rintro _ _ ⟨_,_⟩ _ _<;>simp only[M.EU,nb]<;>rfl)
abbrev M.Rx(l:ay)(k:Int->Option R):=(M.Pg l ((↑l.length:Int)) (0,0)).bind λb=>jX b (λa=>k a) λc=>letE c λd=>k (-1)
def M.FI l:=M.Rx l some
def C.FI:=fTa S.FI (λx=>M.Rx x.1.1) [] [F.Pg]
abbrev M.U5(l:ay)(i:Int)(k:Int->Option R):=cond (decide (i<(↑l.length:Int))) ((idx l i).bind λb=>(jR .i64 b 2).bind λd=>k d) (cond ((↑l.length:Int)==0) (k 0) ((idx l (i64.wrap ((↑l.length:Int) - 1))).bind λf=>(jR .i64 f 2).bind λe=>(idx l (i64.wrap ((↑l.length:Int) - 1))).bind λc=>(cStr c 1).bind λa=>k (i64.wrap (e+(↑a.length:Int)))))
def M.uh l i:=M.U5 l i some
def C.uh:=fTa S.uh (λx=>M.U5 x.1.1 x.1.2.1)
abbrev M.Ph(l:ay)(k:Int×Int->Option R):=(M.zS l).bind λb=>cond (!b) (k (2,0)) ((M.FI l).bind λa=>cond (decide (a>=0)) ((M.uh l a).bind λc=>k (4,c)) (k (0,0)))
def M.zF l:=M.Ph l some
def C.zF:=fTa S.zF (λx=>M.Ph x.1.1) [fe C.zS,fe C.FI,fe C.uh]
abbrev M.Gg(c:ay)(c1:Int)(c2:Bool)(c3:ay)(k:Int×ay×Int×Bool×ay->Option R):=cond (decide (c1>=(↑c.length:Int))) (cond (aj c3) (k (0,c,c1,c2,c3)) none) ((idx c c1).bind λa=>(jR .i64 a 0).bind λb=>cond (aj c3) (k (b,c,c1,c2,c3)) none)
def M.aA c c1 c2 c3:=M.Gg c c1 c2 c3 some
def C.aA:=fTa S.aA (λx=>zbB M.Gg x.2.1)
def M.nD(s:zar⊕zar)(kn:zar⊕zar->Option R)(ke:zar⊕zar->Option R):Option R:=match s with
 | .inl (v,v1,v2,v3)=>bif !v2 then(bif aj v3 then((M.aA v v1 v2 v3).bind λa=>bif a.1==1 then(kn (.inr (a.2.1,i64.wrap (a.2.2.1+1),a.2.2.2.1,a.2.2.2.2))) else bif a.1==2 then((idx a.2.1 a.2.2.1).bind λe=>(cStr e 1).bind λc=>nI a.2.2.2.2 [[D.str c]] 16 λza=>kn (.inr (a.2.1,i64.wrap (a.2.2.1+1),a.2.2.2.1,za))) else ke (.inl (a.2.1,a.2.2.1,a.2.2.2.1,a.2.2.2.2))) else none) else(ke (.inr (v,v1,v2,v3)))
 | .inr (v,v1,v2,x')=>bif !v2 then(bif aj x' then((M.aA v v1 v2 x').bind λb=>bif b.1==1 then(kn (.inr (b.2.1,i64.wrap (b.2.2.1+1),b.2.2.2.1,b.2.2.2.2))) else bif b.1==2 then((idx b.2.1 b.2.2.1).bind λf=>(cStr f 1).bind λd=>nI b.2.2.2.2 [[D.str d]] 16 λza=>kn (.inr (b.2.1,i64.wrap (b.2.2.1+1),b.2.2.2.1,za))) else ke (.inl (b.2.1,b.2.2.1,b.2.2.2.1,b.2.2.2.2))) else none) else ke (.inr (v,v1,v2,x'))
def M.kT s:=M.nD s (λs=>some (Sum.inl s)) λt=>some (Sum.inr t)
def M.jD s:=fJ (M.kT) s
def F.jD:LE X0 57:=le 1 zbk (σ:=zar⊕zar) (λx=>(match x with| .inl x=> .inl ((x.2.1.1,x.2.1.2.1,x.2.1.2.2.1,x.2.2.1))| .inr x=> .inr ((x.2.1.1,x.2.1.2.1,x.2.1.2.2.1,x.2.2.1)))) (λx s=>(match s with| .inl s=> .inl ((((),()),((s.1,s.2.1,s.2.2.1,(),()),s.va,())))| .inr s=> .inr ((((),()),((s.1,s.2.1,s.2.2.1,(),()),s.va,()))))) (λx=> .sum (.leaf zar (λt=>(Ex.ret,⟨[(0,V.ptr 100000 0),(11,og false)],[(100000,zaT t 300000),(300000,Cell.arr false true 0 1 t.va)]⟩))) (.leaf zar (λt=>(Ex.exit 0,⟨[(0,V.ptr 100000 0),(6,og false)],[(100000,zaT t 300000),(300000,Cell.arr false true 0 1 t.va)]⟩)))) (λx=>M.nD) [fe C.aA] [] (by rintro _ _ (⟨_,_,_,_⟩|⟨_,_,_,_⟩) _ _<;>unfold M.nD<;>exact zbC) (hE:=by intro _ _ s _;rcases s with s|s<;>kernel_rfl)
abbrev M.uD(c:ay)(c1:Int)(c2:Bool)(c3:ay)(k:ay×Int×Bool×ay->Option R):=(M.jD (.inl (c,c1,c2,c3))).bind λe=>jX e (λb=>cond (aj b.2.2.2) (k (b)) none) λd=>letE d λa=>cond (aj a.2.2.2) (k (a)) none
def M.aK c c1 c2 c3:=M.uD c c1 c2 c3 some
def C.aK:=fTa S.aK (λx=>zbB M.uD x.2.1) [] [F.jD]
def M.jQ(s:zar⊕zar)(kn:zar⊕zar->Option R)(ke:ay×Int×Bool×ay->Option R):Option R:=match s with
 | .inl (v,v1,v2,v3)=>bif aj v3 then((M.aK v v1 v2 v3).bind λa=>bif a.2.2.1 then(ke (a.1,a.2.1,a.2.2.1,a.2.2.2)) else bif aj a.2.2.2 then((M.aA a.1 a.2.1 a.2.2.1 a.2.2.2).bind λc=>bif c.1 !=37 then(ke (c.2.1,c.2.2.1,c.2.2.2.1,c.2.2.2.2)) else kn (.inr (c.2.1,i64.wrap (c.2.2.1+1),c.2.2.2.1,c.2.2.2.2))) else none) else none
 | .inr (v,v1,v2,x')=>bif aj x' then((M.aK v v1 v2 x').bind λb=>bif b.2.2.1 then(ke (b.1,b.2.1,b.2.2.1,b.2.2.2)) else bif aj b.2.2.2 then((M.aA b.1 b.2.1 b.2.2.1 b.2.2.2).bind λd=>bif d.1 !=37 then(ke (d.2.1,d.2.2.1,d.2.2.2.1,d.2.2.2.2)) else kn (.inr (d.2.1,i64.wrap (d.2.2.1+1),d.2.2.2.1,d.2.2.2.2))) else none) else none
def M.lJ s:=M.jQ s (λs=>some (Sum.inl s)) λt=>some (Sum.inr t)
def M.kU s:=fJ (M.lJ) s
def F.kU:LE X0 32:=le 1 zbk (σ:=zar⊕zar) (λx=>(match x with| .inl x=> .inl ((x.2.1.1,x.2.1.2.1,x.2.1.2.2.1,x.2.2.1))| .inr x=> .inr ((x.2.1.1,x.2.1.2.1,x.2.1.2.2.1,x.2.2.1)))) (λx s=>(match s with| .inl s=> .inl ((((),()),((s.1,s.2.1,s.2.2.1,(),()),s.va,())))| .inr s=> .inr ((((),()),((s.1,s.2.1,s.2.2.1,(),()),s.va,()))))) (λx=> .leaf zar (λt=>(Ex.ret,⟨[(0,V.ptr 100000 0),(12,og true)],[(100000,zaT t 300000),(300000,Cell.arr false true 0 1 t.va)]⟩))) (λx=>M.jQ) [fe C.aK,fe C.aA] [] (by rintro _ _ (⟨_,_,_,_⟩|⟨_,_,_,_⟩) _ _<;>unfold M.jQ<;>exact zbC) (hE:=by intro _ _ s _;rcases s with s|s<;>kernel_rfl)
abbrev M.qU(c:ay)(c1:Int)(c2:Bool)(c3:ay)(k:ay×Int×Bool×ay->Option R):=(M.kU (.inl (c,c1,c2,c3))).bind λa=>cond (aj a.2.2.2) (k (a)) none
def M.bG c c1 c2 c3:=M.qU c c1 c2 c3 some
def C.bG:=fTa S.bG (λx=>zbB M.qU x.2.1) [] [F.kU]
def M.qm(v11:Int)(v:ay)(v1:Int)(v2:Bool)(qY:ay)(s:Int×ay)(kn:Int×ay->Option R)(ke:Int×ay->Option R):Option R:=match s with
 |(v12,x')=>bif decide (v12<v11) then((idx qY v12).bind λd=>qY[v12.toNat]?.bind λa=>(cStr a 0).bind λb=>nI x' [[D.int .i64 34,D.int .i64 0,D.str b,D.str [],D.sl true 5 []]] 72 λc=>kn (i64.wrap (v12+1),c)) else ke (v12,x')
def M.vH v11 v v1 v2 qY s:=M.qm v11 v v1 v2 qY s (λs=>some (Sum.inl s)) λt=>some (Sum.inr t)
def M.yu v11 v v1 v2 qY s:=fJ (M.vH v11 v v1 v2 qY) s
def F.yu:LE X0 33:=le 3 (IV [dH 0 (pP 100000 0),dH 3 (pO 300000 0),dH 10 (pO 300001 0),dH 11 pI,dH 12 pI] [dH 100000 (cB 70 [pL false 3,pI,pB,pO 300001 0]),dH 300000 zbl,dH 300001 zbf]) (λx=>(x.1.va.2.1,x.2.2.1)) (λx s=>(((),(),(),x.1.va.1,s.1,()),((x.2.1.1,x.2.1.2.1,x.2.1.2.2.1,(),()),s.2,x.va.1,()))) (λx=> .leaf (Int×ay) (λt=>(Ex.exit 0,⟨[(0,V.ptr 100000 0),(3,V.own 300000 0),(10,V.own 300001 0),(11,jq x.1.va.1),(12,jq t.1),(13,og false)],[(100000,zaT x.2.1 300001),(300000,Cell.arr false false 0 5 t.2),(300001,Cell.arr false true 0 1 x.va.1)]⟩))) (λx=>M.qm x.1.va.1 x.2.1.1 x.2.1.2.1 x.2.1.2.2.1 x.va.1) [] [] (by rintro _ _ ⟨_,_⟩ _ _<;>unfold M.qm<;>exact zbC)
abbrev M.zG(c:ay)(c1:Int)(c2:Bool)(c3:ay)(k:Bool×ay×ay×Int×Bool×ay->Option R):=(M.yu ((↑c3.length:Int)) c c1 c2 c3 (0,[])).bind λa=>k (true,a.2,c,c1,c2,[])
def M.dL c c1 c2 c3:=M.zG c c1 c2 c3 some
def C.dL:=fTa S.dL (λx=>zbB M.zG x.2.1) [] [F.yu]
abbrev M.rM(kind:Int)(c:ay)(c1:Int)(c2:Bool)(c3:ay)(k:Bool×ay×Int×Bool×ay->Option R):=cond c2 (cond (aj c3) (k (false,c,c1,true,c3)) none) (cond (aj c3) ((M.aA c c1 c2 c3).bind λa=>cond (a.1 !=kind) (cond (aj a.2.2.2.2) (k (false,a.2.1,a.2.2.1,true,a.2.2.2.2)) none) (cond (aj a.2.2.2.2) (k (true,a.2.1,i64.wrap (a.2.2.1+1),a.2.2.2)) none)) none)
def M.aI kind c c1 c2 c3:=M.rM kind c c1 c2 c3 some
def C.aI:=fTa S.aI (λx=>zbB (M.rM x.1.2.1) x.2.1) [fe C.aA]
def M.fA(v14:ay)(v15:Int)(v:ay)(v1:Int)(v2:Bool)(x':ay)(s:Int×Int)(kn:Int×Int->Option R)(ke:(Int×Int)⊕(Unit)⊕(Int×Int)->Option R):Option R:=match s with
 |(open',v16)=>bif decide (v16<v15) then((idx v14 v16).bind λa=>(jR .i64 a 0).bind λb=>(cStr a 1).bind λf=>(jR .i64 a 2).bind λe=>(M.yL b).bind λc=>bif c then(bif decide (i64.wrap (open'+1)<=0) then(ke (.inl (i64.wrap (open'+1),v16))) else kn (i64.wrap (open'+1),i64.wrap (v16+1))) else (M.yM b).bind λd=>bif d then(bif decide (i64.wrap (open' - 1)<=0) then(ke (.inl (i64.wrap (open' - 1),v16))) else kn (i64.wrap (open' - 1),i64.wrap (v16+1))) else bif b==36 then(bif open'==1 then(ke (.inr (.inl ()))) else bif decide (open'<=0) then(ke (.inl (open',v16))) else kn (open',i64.wrap (v16+1))) else bif decide (open'<=0) then(ke (.inl (open',v16))) else kn (open',i64.wrap (v16+1))) else ke (.inr (.inr (open',v16)))
def M.bM v14 v15 v v1 v2 x' s:=M.fA v14 v15 v v1 v2 x' s (λs=>some (Sum.inl s)) λt=>some (Sum.inr t)
def M.nV v14 v15 v v1 v2 x' s:=fJ (M.bM v14 v15 v v1 v2 x') s
def F.nV:LE X0 206:=le 3 (IV [dH 3 pI,dH 14 (pL false 3),dH 15 pI,dH 16 pI] [dH 100000 (cB 70 [pL false 3,pI,pB,pO 300000 0]),dH 300000 zbf]) (λx=>(x.1.1,x.1.va.1)) (λx s=>((s.1,x.1.2.1,x.1.2.2.1,s.2,()),((x.2.1.1,x.2.1.2.1,x.2.1.2.2.1,(),()),x.2.2.1,()))) (λx=> .sum (.leaf (Int×Int) (λt=>(Ex.exit 0,⟨[(3,jq t.1),(14,GL 3 x.1.2.1),(15,jq x.1.2.2.1),(16,jq t.2),(41,og true)],[(100000,zaT x.2.1 300000),(300000,Cell.arr false true 0 1 x.2.2.1)]⟩))) (.sum (.leaf (Unit) (λt=>(Ex.ret,⟨[(2,og true)],[(100000,zaT x.2.1 300000),(300000,Cell.arr false true 0 1 x.2.2.1)]⟩))) (.leaf (Int×Int) (λt=>(Ex.exit 0,⟨[(3,jq t.1),(14,GL 3 x.1.2.1),(15,jq x.1.2.2.1),(16,jq t.2),(17,og false)],[(100000,zaT x.2.1 300000),(300000,Cell.arr false true 0 1 x.2.2.1)]⟩))))) (λx=>M.fA x.1.2.1 x.1.2.2.1 x.2.1.1 x.2.1.2.1 x.2.1.2.2.1 x.2.2.1) [fe C.yL,fe C.yM] [] (by rintro _ _ ⟨_,_⟩ _ _<;>unfold M.fA<;>exact zbC)
abbrev M.yw(c:ay)(c1:Int)(c2:Bool)(c3:ay)(k:Bool×ay×Int×Bool×ay->Option R):=(cut c c1 (↑c.length:Int)).bind λb=>(M.nV b ((↑b.length:Int)) c c1 c2 c3 (0,0)).bind λe=>jX e (λg=>cond (aj c3) (k (false,c,c1,c2,c3)) none) λa=>jX a (λh=>cond (aj c3) (k (true,c,c1,c2,c3)) none) λd=>letE d λf=>cond (aj c3) (k (false,c,c1,c2,c3)) none
def M.lQ c c1 c2 c3:=M.yw c c1 c2 c3 some
def C.lQ:=fTa S.lQ (λx=>zbB M.yw x.2.1) [] [F.nV]
def M.zH(bn:zaa)(x' qY:Bool)(s:ay×Int×Bool×ay×ay)(kn:ay×Int×Bool×ay×ay->Option R)(ke:zaw⊕zaK⊕zaw->Option R):Option R:=match s with
 |(v,v1,v2,uV,x8)=>bif !v2 then(bif aj x8 then((bn x' qY v v1 v2 x8).bind λa=>nI uV [[D.int .i64 a.1,D.int .i64 a.2.1,D.str a.2.2.1,D.str a.2.2.2.1,D.sl false 5 (aB a.2.2.2.2.2.1)]] 72 λd=>bif a.2.2.2.2.2.2.2.2.2.1 then(ke (.inl (a.2.2.2.2.2.2.2.1,a.2.2.2.2.2.2.2.2.1,a.2.2.2.2.2.2.2.2.2.1,d,a.2.2.2.2.2.2.2.2.2.2))) else bif aj a.2.2.2.2.2.2.2.2.2.2 then((M.aA a.2.2.2.2.2.2.2.1 a.2.2.2.2.2.2.2.2.1 a.2.2.2.2.2.2.2.2.2.1 a.2.2.2.2.2.2.2.2.2.2).bind λb=>bif b.1 !=36 then(ke (.inl (b.2.1,b.2.2.1,b.2.2.2.1,d,b.2.2.2.2))) else bif(↑d.length:Int)==6 then(ke (.inr (.inl (b.2.1,b.2.2.1,d,b.2.2.2.2)))) else bif aj b.2.2.2.2 then((M.aK b.2.1 (i64.wrap (b.2.2.1+1)) b.2.2.2.1 b.2.2.2.2).bind λc=>kn (c.1,c.2.1,c.2.2.1,d,c.2.2.2)) else none) else none) else none) else ke (.inr (.inr (v,v1,v2,uV,x8)))
def M.Gi bn x' qY s:=M.zH bn x' qY s (λs=>some (Sum.inl s)) λt=>some (Sum.inr t)
def M.sD bn x' qY s:=fJ (M.Gi bn x' qY) s
def F.sD{bn:zaa}(o8:S.bD.ok X0 λx=>bn x.1.2.1.1 x.1.2.1.2.1 x.2.1.1 x.2.1.2.1 x.2.1.2.2.1 x.2.1.va.1):LE X0 186:=le 2 (IV [dH 0 (pP 100000 0),dH 3 (pP 300000 0),dH 5 (pO 300001 0)] [dH 100000 (cB 70 [pL false 3,pI,pB,pO 300002 0]),dH 300000 (cB 103 [pB,pB]),dH 300001 zbl,dH 300002 zbf]) (λx=>(x.2.1.1,x.2.1.2.1,x.2.1.2.2.1,x.va.1,x.va.2.1)) (λx s=>(((),(),(),()),((s.1,s.2.1,s.2.2.1,(),()),(x.2.2.1.1,x.2.2.1.2.1,()),s.va.1,s.va.2,()))) (λx=> .sum (.leaf zaw (λt=>(Ex.exit 0,⟨[(0,V.ptr 100000 0),(3,V.ptr 300000 0),(5,V.own 300001 0),(27,og true)],[(100000,zaT t 300002),(300000,Cell.box 103 [og x.2.2.1.1,og x.2.2.1.2.1]),(300001,Cell.arr false false 0 5 t.va.1),(300002,Cell.arr false true 0 1 t.va.2)]⟩))) (.sum (.leaf zaK (λt=>(Ex.exit 0,⟨[(5,V.own 300000 0)],[(100000,Cell.box 70 [GL 3 t.1,jq t.2.1,og true,V.own 300001 0]),(300000,Cell.arr false false 0 5 t.2.2.1),(300001,Cell.arr false true 0 1 t.va)]⟩))) (.leaf zaw (λt=>(Ex.exit 0,⟨[(0,V.ptr 100000 0),(3,V.ptr 300000 0),(5,V.own 300001 0),(11,og false)],[(100000,zaT t 300002),(300000,Cell.box 103 [og x.2.2.1.1,og x.2.2.1.2.1]),(300001,Cell.arr false false 0 5 t.va.1),(300002,Cell.arr false true 0 1 t.va.2)]⟩))))) (λx=>M.zH bn x.2.2.1.1 x.2.2.1.2.1) [fe o8,fe C.aA,fe C.aK] [] (by rintro _ _ ⟨_,_,_,_,_⟩ _ _<;>unfold M.zH<;>exact zbC)
def M.qp(bn:zaa)(r' nS:Bool)(c:ay)(c1:Int)(c2:Bool)(c3:ay)(k:Bool×ay×ay×Int×Bool×ay->Option R):=(M.sD bn r' nS (c,c1,c2,[],c3)).bind λe=>jX e (λa=>cond (aj a.2.2.2.2) (k (true,a.2.2.2.1,a.1,a.2.1,a.2.2.1,a.2.2.2.2)) none) λg=>jX g (λd=>cond (aj d.2.2.2) (k (true,d.2.2.1,d.1,d.2.1,true,d.2.2.2)) none) λf=>letE f λb=>cond (aj b.2.2.2.2) (k (true,b.2.2.2.1,b.1,b.2.1,b.2.2.1,b.2.2.2.2)) none
def C.ZY{bn:zaa}(o8:S.bD.ok X0 λx=>bn x.1.2.1.1 x.1.2.1.2.1 x.2.1.1 x.2.1.2.1 x.2.1.2.2.1 x.2.1.va.1):S.iK.ok X0 λx=>M.qp bn x.1.2.1.1 x.1.2.1.2.1 x.2.1.1 x.2.1.2.1 x.2.1.2.2.1 x.2.1.va.1 some:=fnS (λx=>zbB (M.qp bn x.1.2.1.1 x.1.2.1.2.1) x.2.1) [] [F.sD o8] (by intros;unfold M.qp;exact zbC)
abbrev M.y8(VW:Int×ay×Int×Bool×ay)(lS:zal)(shut:Int)(k:Bool×ay×ay×Int×Bool×ay->Option R):=cond (aj VW.2.2.2.2) ((lS false false VW.2.1 VW.2.2.1 VW.2.2.2.1 VW.2.2.2.2).bind λa=>cond (aj a.2.2.2.2.2) ((M.aI shut a.2.2.1 a.2.2.2.1 a.2.2.2.2.1 a.2.2.2.2.2).bind λb=>cond (aj b.2.2.2.2) (k (false,aB a.2.1,b.2)) none) none) none
def M.rO(lS:zal)(shut:Int)(c:ay)(c1:Int)(c2:Bool)(c3:ay)(k:Bool×ay×ay×Int×Bool×ay->Option R):=cond (aj c3) ((M.aA c c1 c2 c3).bind λa=>cond (a.1==shut) (cond (shut==33) (cond (aj a.2.2.2.2) (k (true,[],a.2.1,i64.wrap (a.2.2.1+1),a.2.2.2)) none) (M.y8 a lS shut k)) (M.y8 a lS shut k)) none
def C.abR{lS:zal}(abS:S.iK.ok X0 λx=>lS x.1.2.1.1 x.1.2.1.2.1 x.2.1.1 x.2.1.2.1 x.2.1.2.2.1 x.2.1.va.1):S.iV.ok X0 λx=>M.rO lS x.1.2.1 x.2.1.1 x.2.1.2.1 x.2.1.2.2.1 x.2.1.va.1 some:=fnS (λx=>zbB (M.rO lS x.1.2.1) x.2.1) [fe C.aA,fe abS,fe C.aI] [] (by intros;unfold M.rO M.y8;exact zbC)
abbrev M.Gj(c:ay)(c1:Int)(c2:Bool)(c3:ay)(k:Int×Int×aC×aC×Bool×ay×Bool×ay×Int×Bool×ay->Option R):=cond (aj c3) (k (0,0,[],[],true,[],false,c,c1,true,c3)) none
def M.jl c c1 c2 c3:=M.Gj c c1 c2 c3 some
def C.jl:=fTa S.jl (λx=>zbB M.Gj x.2.1)
abbrev M.Gl(c:ay)(c1:Int)(c2:Bool)(c3:ay)(k:aC×ay×Int×Bool×ay->Option R):=(idx c c1).bind λa=>(cStr a 1).bind λb=>cond (aj c3) (k (b,c,i64.wrap (c1+1),c2,c3)) none
def M.eU c c1 c2 c3:=M.Gl c c1 c2 c3 some
def C.eU:=fTa S.eU (λx=>zbB M.Gl x.2.1)
abbrev M.iL(c:ay)(c1:Int)(c2:Bool)(c3:ay)(k:aC×ay×Int×Bool×ay->Option R):=cond c2 (cond (aj c3) (k ([],c,c1,true,c3)) none) (cond (aj c3) ((M.aA c c1 c2 c3).bind λa=>cond (a.1 !=6) (cond (aj a.2.2.2.2) (k ([],a.2.1,a.2.2.1,true,a.2.2.2.2)) none) (cond (aj a.2.2.2.2) ((M.eU a.2.1 a.2.2.1 a.2.2.2.1 a.2.2.2.2).bind λb=>cond (aj b.2.2.2.2) (k (b)) none) none)) none)
def M.aY c c1 c2 c3:=M.iL c c1 c2 c3 some
def C.aY:=fTa S.aY (λx=>zbB M.iL x.2.1) [fe C.aA,fe C.eU]
abbrev M.Ry(kind:Int)(k:Bool->Option R):=cond (kind==51) (k true) (k (kind==52))
def M.qE kind:=M.Ry kind some
def C.qE:=fTa S.qE (λx=>M.Ry x.1.1)
def M.pX(aN:zaf)(c:ay)(c1:Int)(c2:Bool)(c3:ay)(k:Int×Int×aC×aC×Bool×ay×Bool×ay×Int×Bool×ay->Option R):=cond (aj c3) ((M.eU c c1 c2 c3).bind λa=>cond (aj a.2.2.2.2) ((M.aA a.2.1 a.2.2.1 a.2.2.2.1 a.2.2.2.2).bind λd=>cond (d.1==34) (cond (aj d.2.2.2.2) ((aN 35 d.2.1 (i64.wrap (d.2.2.1+1)) d.2.2.2.1 d.2.2.2.2).bind λb=>cond (aj b.2.2.2.2.2) (k (5,0,a.1,[],false,aB b.2.1,true,b.2.2)) none) none) (cond (aj d.2.2.2.2) (k (1,0,a.1,[],true,[],true,d.2)) none)) none) none
def C.Xu{aN:zaf}(rP:S.iV.ok X0 λx=>aN x.1.2.1 x.2.1.1 x.2.1.2.1 x.2.1.2.2.1 x.2.1.va.1):S.Cc.ok X0 λx=>M.pX aN x.2.1.1 x.2.1.2.1 x.2.1.2.2.1 x.2.1.va.1 some:=fnS (λx=>zbB (M.pX aN) x.2.1) [fe C.eU,fe C.aA,fe rP] [] (by intros;unfold M.pX;exact zbC)
abbrev M.vI(Xv:Bool×ay×Int×Bool×ay)(aN:zaf)(k:Int×Int×aC×aC×Bool×ay×Bool×ay×Int×Bool×ay->Option R)(Ir:aC×ay×Int×Bool×ay):=cond Xv.1 (cond (aj Xv.2.2.2.2) ((aN 33 Xv.2.1 Xv.2.2.1 Xv.2.2.2.1 Xv.2.2.2.2).bind λa=>cond (aj a.2.2.2.2.2) (k (8,0,Ir.1,[],false,aB a.2.1,false,a.2.2)) none) none) (cond (aj Xv.2.2.2.2) (k (8,0,Ir.1,[],true,[],false,Xv.2)) none)
abbrev M.uF(pV:Int×ay×Int×Bool×ay)(k:Int×Int×aC×aC×Bool×ay×Bool×ay×Int×Bool×ay->Option R)(aN:zaf):=cond (aj pV.2.2.2.2) ((M.eU pV.2.1 pV.2.2.1 pV.2.2.2.1 pV.2.2.2.2).bind λa=>cond (pV.1==8) (cond (a.1==[108,101,110,103,116,104]) (cond (aj a.2.2.2.2) ((M.aA a.2.1 a.2.2.1 a.2.2.2.1 a.2.2.2.2).bind λc=>cond (c.1 !=32) (cond (aj c.2.2.2.2) (k (8,0,a.1,[],true,[],false,c.2)) none) (cond (aj c.2.2.2.2) ((M.aI 32 c.2.1 c.2.2.1 c.2.2.2.1 c.2.2.2.2).bind λf=>M.vI f aN k a) none)) none) (cond (aj a.2.2.2.2) ((M.aI 32 a.2.1 a.2.2.1 a.2.2.2.1 a.2.2.2.2).bind λe=>M.vI e aN k a) none)) (cond (aj a.2.2.2.2) ((M.aI 32 a.2.1 a.2.2.1 a.2.2.2.1 a.2.2.2.2).bind λd=>cond d.1 (cond (aj d.2.2.2.2) ((aN 33 d.2.1 d.2.2.1 d.2.2.2.1 d.2.2.2.2).bind λb=>cond (aj b.2.2.2.2.2) (k (7,0,a.1,[],false,aB b.2.1,false,b.2.2)) none) none) (cond (aj d.2.2.2.2) (k (7,0,a.1,[],true,[],false,d.2)) none)) none)) none
def M.oh(gX:zad)(aN:zaf)(bn:zaa)(c:ay)(c1:Int)(c2:Bool)(c3:ay)(k:Int×Int×aC×aC×Bool×ay×Bool×ay×Int×Bool×ay->Option R):=cond c2 (cond (aj c3) (k (0,0,[],[],true,[],false,c,c1,c2,c3)) none) (cond (aj c3) ((M.aA c c1 c2 c3).bind λa=>cond (a.1==3) (cond (aj a.2.2.2.2) ((M.eU a.2.1 a.2.2.1 a.2.2.2.1 a.2.2.2.2).bind λf=>cond (aj f.2.2.2.2) (k (2,0,f.1,[],true,[],false,f.2)) none) none) (cond (a.1==4) (cond (aj a.2.2.2.2) ((M.eU a.2.1 a.2.2.1 a.2.2.2.1 a.2.2.2.2).bind λd=>cond (aj d.2.2.2.2) (k (3,0,d.1,[],true,[],false,d.2)) none) none) (cond (a.1==5) (cond (aj a.2.2.2.2) ((M.eU a.2.1 a.2.2.1 a.2.2.2.1 a.2.2.2.2).bind λe=>cond (aj e.2.2.2.2) (k (4,0,e.1,[],true,[],false,e.2)) none) none) (cond (a.1==6) (cond (aj a.2.2.2.2) ((gX a.2.1 a.2.2.1 a.2.2.2.1 a.2.2.2.2).bind λi=>cond (aj i.2.2.2.2.2.2.2.2.2.2) (k (i.1,i.2.1,i.2.2.1,i.2.2.2.1,false,aB i.2.2.2.2.2.1,i.2.2.2.2.2.2)) none) none) (cond (a.1==7) (M.uF a k aN) (cond (a.1==8) (M.uF a k aN) (cond (a.1==32) (cond (aj a.2.2.2.2) ((bn false false a.2.1 (i64.wrap (a.2.2.1+1)) a.2.2.2.1 a.2.2.2.2).bind λb=>cond (aj b.2.2.2.2.2.2.2.2.2.2) ((M.aI 33 b.2.2.2.2.2.2.2.1 b.2.2.2.2.2.2.2.2.1 b.2.2.2.2.2.2.2.2.2.1 b.2.2.2.2.2.2.2.2.2.2).bind λg=>cond (aj g.2.2.2.2) (k (b.1,b.2.1,b.2.2.1,b.2.2.2.1,false,aB b.2.2.2.2.2.1,false,g.2)) none) none) none) (cond (aj a.2.2.2.2) ((M.jl a.2.1 a.2.2.1 a.2.2.2.1 a.2.2.2.2).bind λh=>cond (aj h.2.2.2.2.2.2.2.2.2.2) (k (h.1,h.2.1,h.2.2.1,h.2.2.2.1,false,aB h.2.2.2.2.2.1,h.2.2.2.2.2.2)) none) none)))))))) none)
def C.Yn{gX:zad}{aN:zaf}{bn:zaa}(Gm:S.Cc.ok X0 λx=>gX x.2.1.1 x.2.1.2.1 x.2.1.2.2.1 x.2.1.va.1)(rP:S.iV.ok X0 λx=>aN x.1.2.1 x.2.1.1 x.2.1.2.1 x.2.1.2.2.1 x.2.1.va.1)(o8:S.bD.ok X0 λx=>bn x.1.2.1.1 x.1.2.1.2.1 x.2.1.1 x.2.1.2.1 x.2.1.2.2.1 x.2.1.va.1):S.kN.ok X0 λx=>M.oh gX aN bn x.2.1.1 x.2.1.2.1 x.2.1.2.2.1 x.2.1.va.1 some:=fnS (λx=>zbB (M.oh gX aN bn) x.2.1) [fe C.aA,fe C.eU,fe Gm,fe C.aI,fe rP,fe o8,fe C.jl] [] (by intros;unfold M.oh M.uF;exact zbC)
abbrev M.xJ(YW:Int×Int×aC×aC×Bool×ay×Bool×ay×Int×Bool×ay)(k:Int×Int×aC×aC×Bool×ay×Bool×ay×Int×Bool×ay->Option R):=cond (aj YW.2.2.2.2.2.2.2.2.2.2) (k (6,0,[],[],true,[[D.int .i64 YW.1,D.int .i64 YW.2.1,D.str YW.2.2.1,D.str YW.2.2.2.1,D.sl false 5 (aB YW.2.2.2.2.2.1)]],true,YW.2.2.2.2.2.2.2)) none
def M.qw(oK:zad)(iM:zad)(dU:zad)(c:ay)(c1:Int)(c2:Bool)(c3:ay)(k:Int×Int×aC×aC×Bool×ay×Bool×ay×Int×Bool×ay->Option R):=cond c2 (cond (aj c3) ((oK c c1 c2 c3).bind λb=>cond (aj b.2.2.2.2.2.2.2.2.2.2) (k (b.1,b.2.1,b.2.2.1,b.2.2.2.1,false,aB b.2.2.2.2.2.1,b.2.2.2.2.2.2)) none) none) (cond (aj c3) ((M.aA c c1 c2 c3).bind λa=>cond (a.1 !=68) (cond (aj a.2.2.2.2) ((oK a.2.1 a.2.2.1 a.2.2.2.1 a.2.2.2.2).bind λd=>cond (aj d.2.2.2.2.2.2.2.2.2.2) (k (d.1,d.2.1,d.2.2.1,d.2.2.2.1,false,aB d.2.2.2.2.2.1,d.2.2.2.2.2.2)) none) none) (cond (aj a.2.2.2.2) ((M.aA a.2.1 (i64.wrap (a.2.2.1+1)) a.2.2.2.1 a.2.2.2.2).bind λe=>(M.qE e.1).bind λg=>cond g (cond (aj e.2.2.2.2) ((iM e.2.1 e.2.2.1 e.2.2.2.1 e.2.2.2.2).bind λh=>M.xJ h k) none) (cond (aj e.2.2.2.2) ((dU e.2.1 e.2.2.1 e.2.2.2.1 e.2.2.2.2).bind λf=>M.xJ f k) none)) none)) none)
def C.aag{oK:zad}{iM:zad}{dU:zad}(Zi:S.kN.ok X0 λx=>oK x.2.1.1 x.2.1.2.1 x.2.1.2.2.1 x.2.1.va.1)(Jg:S.kG.ok X0 λx=>iM x.2.1.1 x.2.1.2.1 x.2.1.2.2.1 x.2.1.va.1)(y9:S.ji.ok X0 λx=>dU x.2.1.1 x.2.1.2.1 x.2.1.2.2.1 x.2.1.va.1):S.ji.ok X0 λx=>M.qw oK iM dU x.2.1.1 x.2.1.2.1 x.2.1.2.2.1 x.2.1.va.1 some:=fnS (λx=>zbB (M.qw oK iM dU) x.2.1) [fe Zi,fe C.aA,fe C.qE,fe Jg,fe y9] [] (by intros;unfold M.qw M.xJ;exact zbC)
end
noncomputable section
variable {R:Type}
abbrev M.qM(Xw:Int×Int×aC×aC×Bool×ay×Bool×ay×Int×Bool×ay)(k:Int×Int×aC×aC×Bool×ay×Bool×ay×Int×Bool×ay->Option R):=cond (aj Xw.2.2.2.2.2.2.2.2.2.2) (k (Xw.1,Xw.2.1,Xw.2.2.1,Xw.2.2.2.1,false,aB Xw.2.2.2.2.2.1,Xw.2.2.2.2.2.2)) none
def M.sF(dU:zad)(gX:zad)(c:ay)(c1:Int)(c2:Bool)(c3:ay)(k:Int×Int×aC×aC×Bool×ay×Bool×ay×Int×Bool×ay->Option R):=cond c2 (cond (aj c3) ((M.jl c c1 c2 c3).bind λg=>M.qM g k) none) (cond (aj c3) ((M.aA c c1 c2 c3).bind λa=>cond (a.1==68) (cond (aj a.2.2.2.2) ((dU a.2.1 a.2.2.1 a.2.2.2.1 a.2.2.2.2).bind λe=>M.qM e k) none) (cond (aj a.2.2.2.2) ((M.aA a.2.1 a.2.2.1 a.2.2.2.1 a.2.2.2.2).bind λb=>cond (b.1==6) (cond (aj b.2.2.2.2) ((gX b.2.1 b.2.2.1 b.2.2.2.1 b.2.2.2.2).bind λf=>M.qM f k) none) (cond (aj b.2.2.2.2) ((M.jl b.2.1 b.2.2.1 b.2.2.2.1 b.2.2.2.2).bind λd=>M.qM d k) none)) none)) none)
def C.Zj{dU:zad}{gX:zad}(y9:S.ji.ok X0 λx=>dU x.2.1.1 x.2.1.2.1 x.2.1.2.2.1 x.2.1.va.1)(Gm:S.Cc.ok X0 λx=>gX x.2.1.1 x.2.1.2.1 x.2.1.2.2.1 x.2.1.va.1):S.MO.ok X0 λx=>M.sF dU gX x.2.1.1 x.2.1.2.1 x.2.1.2.2.1 x.2.1.va.1 some:=fnS (λx=>zbB (M.sF dU gX) x.2.1) [fe C.jl,fe C.aA,fe y9,fe Gm] [] (by intros;unfold M.sF M.qM;exact zbC)
def M.sG(uG:zad)(c:ay)(c1:Int)(c2:Bool)(c3:ay)(k:Int×Int×aC×aC×Bool×ay×Bool×ay×Int×Bool×ay->Option R):=cond (aj c3) ((M.aA c c1 c2 c3).bind λb=>cond (aj b.2.2.2.2) ((uG b.2.1 (i64.wrap (b.2.2.1+1)) b.2.2.2.1 b.2.2.2.2).bind λa=>cond (aj a.2.2.2.2.2.2.2.2.2.2) (k (9,b.1,[],[],true,[[D.int .i64 a.1,D.int .i64 a.2.1,D.str a.2.2.1,D.str a.2.2.2.1,D.sl false 5 (aB a.2.2.2.2.2.1)]],false,a.2.2.2.2.2.2.2)) none) none) none
def C.Zk{uG:zad}(aaj:S.MO.ok X0 λx=>uG x.2.1.1 x.2.1.2.1 x.2.1.2.2.1 x.2.1.va.1):S.kG.ok X0 λx=>M.sG uG x.2.1.1 x.2.1.2.1 x.2.1.2.2.1 x.2.1.va.1 some:=fnS (λx=>zbB (M.sG uG) x.2.1) [fe C.aA,fe aaj] [] (by intros;unfold M.sG;exact zbC)
abbrev M.zf(rD:Int×Int×aC×aC×Bool×ay×Bool×ay×Int×Bool×ay)(k:Int×Int×aC×aC×Bool×ay×Bool×ay×Int×Bool×ay->Option R):=cond rD.2.2.2.2.2.2.2.2.2.1 (cond (aj rD.2.2.2.2.2.2.2.2.2.2) (k (rD.1,rD.2.1,rD.2.2.1,rD.2.2.2.1,false,aB rD.2.2.2.2.2.1,rD.2.2.2.2.2.2)) none) (cond (!rD.2.2.2.2.2.2.1) (cond (aj rD.2.2.2.2.2.2.2.2.2.2) (k (rD.1,rD.2.1,rD.2.2.1,rD.2.2.2.1,false,aB rD.2.2.2.2.2.1,rD.2.2.2.2.2.2)) none) (cond (aj rD.2.2.2.2.2.2.2.2.2.2) ((M.aA rD.2.2.2.2.2.2.2.1 rD.2.2.2.2.2.2.2.2.1 rD.2.2.2.2.2.2.2.2.2.1 rD.2.2.2.2.2.2.2.2.2.2).bind λa=>(M.qE a.1).bind λc=>cond (!c) (cond (aj a.2.2.2.2) (k (rD.1,rD.2.1,rD.2.2.1,rD.2.2.2.1,false,aB rD.2.2.2.2.2.1,rD.2.2.2.2.2.2.1,a.2)) none) (cond (aj a.2.2.2.2) ((M.aA a.2.1 a.2.2.1 a.2.2.2.1 a.2.2.2.2).bind λb=>cond (aj b.2.2.2.2) (k (10,b.1,[],[],true,[[D.int .i64 rD.1,D.int .i64 rD.2.1,D.str rD.2.2.1,D.str rD.2.2.2.1,D.sl false 5 (aB rD.2.2.2.2.2.1)]],false,b.2.1,i64.wrap (b.2.2.1+1),b.2.2.2)) none) none)) none))
def M.rQ(iM:zad)(dU:zad)(c:ay)(c1:Int)(c2:Bool)(c3:ay)(k:Int×Int×aC×aC×Bool×ay×Bool×ay×Int×Bool×ay->Option R):=cond (!c2) (cond (aj c3) ((M.aA c c1 c2 c3).bind λb=>(M.qE b.1).bind λe=>cond e (cond (aj b.2.2.2.2) ((iM b.2.1 b.2.2.1 b.2.2.2.1 b.2.2.2.2).bind λa=>cond (aj a.2.2.2.2.2.2.2.2.2.2) (k (a.1,a.2.1,a.2.2.1,a.2.2.2.1,false,aB a.2.2.2.2.2.1,a.2.2.2.2.2.2)) none) none) (cond (aj b.2.2.2.2) ((dU b.2.1 b.2.2.1 b.2.2.2.1 b.2.2.2.2).bind λf=>M.zf f k) none)) none) (cond (aj c3) ((dU c c1 c2 c3).bind λd=>M.zf d k) none)
def C.abT{iM:zad}{dU:zad}(Jg:S.kG.ok X0 λx=>iM x.2.1.1 x.2.1.2.1 x.2.1.2.2.1 x.2.1.va.1)(y9:S.ji.ok X0 λx=>dU x.2.1.1 x.2.1.2.1 x.2.1.2.2.1 x.2.1.va.1):S.nT.ok X0 λx=>M.rQ iM dU x.2.1.1 x.2.1.2.1 x.2.1.2.2.1 x.2.1.va.1 some:=fnS (λx=>zbB (M.rQ iM dU) x.2.1) [fe C.aA,fe C.qE,fe Jg,fe y9] [] (by intros;unfold M.rQ M.zf;exact zbC)
abbrev M.Az(op' a a1:Int)(a2 a3:aC)(a4:ay)(a5:Bool)(b b1:Int)(b2 b3:aC)(b4:ay)(b5:Bool)(k:Int×Int×aC×aC×Bool×ay×Bool->Option R):=k (12,op',[],[],true,[[D.int .i64 a,D.int .i64 a1,D.str a2,D.str a3,D.sl false 5 a4],[D.int .i64 b,D.int .i64 b1,D.str b2,D.str b3,D.sl false 5 b4]],false)
def M.lK op' a a1 a2 a3 a4 a5 b b1 b2 b3 b4 b5:=M.Az op' a a1 a2 a3 a4 a5 b b1 b2 b3 b4 b5 some
def C.lK:=fTa S.lK (λx=>M.Az x.1.1 x.1.2.1.1 x.1.2.1.2.1 x.1.2.1.2.2.1 x.1.2.1.va.1 x.1.2.1.va.2.1 x.1.2.1.va.2.2.1 x.1.2.2.1.1 x.1.2.2.1.2.1 x.1.2.2.1.2.2.1 x.1.2.2.1.va.1 x.1.2.2.1.va.2.1 x.1.2.2.1.va.2.2.1)
def M.uH(xK:zad)(aW:zaa)(r' nS:Bool)(c:ay)(c1:Int)(c2:Bool)(c3:ay)(k:Int×Int×aC×aC×Bool×ay×Bool×ay×Int×Bool×ay->Option R):=cond (aj c3) ((xK c c1 c2 c3).bind λa=>cond a.2.2.2.2.2.2.2.2.2.1 (cond (aj a.2.2.2.2.2.2.2.2.2.2) (k (a.1,a.2.1,a.2.2.1,a.2.2.2.1,false,aB a.2.2.2.2.2.1,a.2.2.2.2.2.2)) none) (cond (aj a.2.2.2.2.2.2.2.2.2.2) ((M.aA a.2.2.2.2.2.2.2.1 a.2.2.2.2.2.2.2.2.1 a.2.2.2.2.2.2.2.2.2.1 a.2.2.2.2.2.2.2.2.2.2).bind λb=>cond (b.1 !=60) (cond (aj b.2.2.2.2) (k (a.1,a.2.1,a.2.2.1,a.2.2.2.1,false,aB a.2.2.2.2.2.1,a.2.2.2.2.2.2.1,b.2)) none) (cond (aj b.2.2.2.2) ((aW r' nS b.2.1 (i64.wrap (b.2.2.1+1)) b.2.2.2.1 b.2.2.2.2).bind λd=>(M.lK 60 a.1 a.2.1 a.2.2.1 a.2.2.2.1 (aB a.2.2.2.2.2.1) a.2.2.2.2.2.2.1 d.1 d.2.1 d.2.2.1 d.2.2.2.1 (aB d.2.2.2.2.2.1) d.2.2.2.2.2.2.1).bind λe=>cond (aj d.2.2.2.2.2.2.2.2.2.2) (k (e.1,e.2.1,e.2.2.1,e.2.2.2.1,false,aB e.2.2.2.2.2.1,e.2.2.2.2.2.2,d.2.2.2.2.2.2.2)) none) none)) none)) none
def C.aeg{xK:zad}{aW:zaa}(aeh:S.nT.ok X0 λx=>xK x.2.1.1 x.2.1.2.1 x.2.1.2.2.1 x.2.1.va.1)(nX:S.jC.ok X0 λx=>aW x.1.2.1.1 x.1.2.1.2.1 x.2.1.1 x.2.1.2.1 x.2.1.2.2.1 x.2.1.va.1):S.pG.ok X0 λx=>M.uH xK aW x.1.2.1.1 x.1.2.1.2.1 x.2.1.1 x.2.1.2.1 x.2.1.2.2.1 x.2.1.va.1 some:=fnS (λx=>zbB (M.uH xK aW x.1.2.1.1 x.1.2.1.2.1) x.2.1) [fe aeh,fe C.aA,fe nX,fe C.lK] [] (by intros;unfold M.uH;exact zbC)
abbrev M.xM(Kw:Int×ay×Int×Bool×ay)(nY:zaa)(r' nS:Bool)(k:Int×Int×aC×aC×Bool×ay×Bool×ay×Int×Bool×ay->Option R):=cond (aj Kw.2.2.2.2) ((nY r' nS Kw.2.1 Kw.2.2.1 Kw.2.2.2.1 Kw.2.2.2.2).bind λa=>cond (aj a.2.2.2.2.2.2.2.2.2.2) (k (a.1,a.2.1,a.2.2.1,a.2.2.2.1,false,aB a.2.2.2.2.2.1,a.2.2.2.2.2.2)) none) none
abbrev M.sH(Kw:Int×ay×Int×Bool×ay)(aW:zaa)(r' nS:Bool)(k:Int×Int×aC×aC×Bool×ay×Bool×ay×Int×Bool×ay->Option R):=cond (aj Kw.2.2.2.2) ((aW r' nS Kw.2.1 (i64.wrap (Kw.2.2.1+1)) Kw.2.2.2.1 Kw.2.2.2.2).bind λa=>cond (aj a.2.2.2.2.2.2.2.2.2.2) (k (11,Kw.1,[],[],true,[[D.int .i64 a.1,D.int .i64 a.2.1,D.str a.2.2.1,D.str a.2.2.2.1,D.sl false 5 (aB a.2.2.2.2.2.1)]],false,a.2.2.2.2.2.2.2)) none) none
def M.qx(nY:zaa)(aW:zaa)(r' nS:Bool)(c:ay)(c1:Int)(c2:Bool)(c3:ay)(k:Int×Int×aC×aC×Bool×ay×Bool×ay×Int×Bool×ay->Option R):=cond (aj c3) ((M.aA c c1 c2 c3).bind λa=>cond a.2.2.2.1 (M.xM a nY r' nS k) (cond (a.1 !=55) (cond (a.1 !=56) (cond (a.1 !=61) (M.xM a nY r' nS k) (M.sH a aW r' nS k)) (M.sH a aW r' nS k)) (M.sH a aW r' nS k))) none
def C.aaq{nY:zaa}{aW:zaa}(afr:S.pG.ok X0 λx=>nY x.1.2.1.1 x.1.2.1.2.1 x.2.1.1 x.2.1.2.1 x.2.1.2.2.1 x.2.1.va.1)(nX:S.jC.ok X0 λx=>aW x.1.2.1.1 x.1.2.1.2.1 x.2.1.1 x.2.1.2.1 x.2.1.2.2.1 x.2.1.va.1):S.jC.ok X0 λx=>M.qx nY aW x.1.2.1.1 x.1.2.1.2.1 x.2.1.1 x.2.1.2.1 x.2.1.2.2.1 x.2.1.va.1 some:=fnS (λx=>zbB (M.qx nY aW x.1.2.1.1 x.1.2.1.2.1) x.2.1) [fe C.aA,fe afr,fe nX] [] (by intros;unfold M.qx M.sH M.xM;exact zbC)
abbrev M.Jh(op':Int)(k:Int->Option R):=cond (op'==44) (k 3) (cond (op'==45) (k 4) (cond (op'==67) (k 6) (cond (op'==46) (k 6) (cond (op'==63) (k 7) (cond (op'==48) (k 7) (cond (op'==47) (k 7) (cond (op'==50) (k 7) (cond (op'==62) (k 7) (cond (op'==49) (k 7) (cond (op'==99) (k 8) (cond (op'==55) (k 9) (cond (op'==56) (k 9) (cond (op'==57) (k 10) (cond (op'==58) (k 10) (cond (op'==59) (k 10) (cond (op'==60) (k 12) (k 0)))))))))))))))))
def M.oC op':=M.Jh op' some
def C.oC:=fTa S.oC (λx=>M.Jh x.1.1)
def M.xO(aW:zaa)(x' qY:Bool)(uV x8:Int)(Ae Fg:aC)(IJ:Bool)(s:ay×Int×Bool×Int×Int×aC×aC×ay×Bool×ay)(kn:ay×Int×Bool×Int×Int×aC×aC×ay×Bool×ay->Option R)(ke:ay×Int×Bool×Int×Int×aC×aC×ay×Bool×ay->Option R):Option R:=match s with
 |(v,v1,v2,LU,PU,SE,Gn,KU,MS,PV)=>bif !v2 then(bif aj PV then((M.aA v v1 v2 PV).bind λa=>(M.oC a.1).bind λe=>bif e==10 then(bif aj a.2.2.2.2 then((M.aA a.2.1 a.2.2.1 a.2.2.2.1 a.2.2.2.2).bind λc=>bif aj c.2.2.2.2 then((aW x' qY c.2.1 (i64.wrap (c.2.2.1+1)) c.2.2.2.1 c.2.2.2.2).bind λb=>(M.lK c.1 LU PU SE Gn KU MS b.1 b.2.1 b.2.2.1 b.2.2.2.1 (aB b.2.2.2.2.2.1) b.2.2.2.2.2.2.1).bind λd=>kn (b.2.2.2.2.2.2.2.1,b.2.2.2.2.2.2.2.2.1,b.2.2.2.2.2.2.2.2.2.1,d.1,d.2.1,d.2.2.1,d.2.2.2.1,aB d.2.2.2.2.2.1,d.2.2.2.2.2.2,b.2.2.2.2.2.2.2.2.2.2)) else none) else none) else ke (a.2.1,a.2.2.1,a.2.2.2.1,LU,PU,SE,Gn,KU,MS,a.2.2.2.2)) else none) else ke (v,v1,v2,LU,PU,SE,Gn,KU,MS,PV)
def M.Ji aW x' qY uV x8 Ae Fg IJ s:=M.xO aW x' qY uV x8 Ae Fg IJ s (λs=>some (Sum.inl s)) λt=>some (Sum.inr t)
def M.wB aW x' qY uV x8 Ae Fg IJ s:=fJ (M.Ji aW x' qY uV x8 Ae Fg IJ) s
def F.wB{aW:zaa}(nX:S.jC.ok X0 λx=>aW x.1.2.1.1 x.1.2.1.2.1 x.2.1.1 x.2.1.2.1 x.2.1.2.2.1 x.2.1.va.1):LE X0 198:=le 2 (IV zbg zbe) (λx=>(x.2.1.1,x.2.1.2.1,x.2.1.2.2.1,x.va.2.1.1,x.va.2.1.2.1,x.va.2.1.2.2.1,x.va.2.1.va.1,x.va.2.1.va.2.1,x.va.2.1.va.2.2.1,x.va.2.2.1)) (λx s=>(((),(),(),(),()),((s.1,s.2.1,s.2.2.1,(),()),(x.2.2.1.1,x.2.2.1.2.1,()),(x.va.1.1,x.va.1.2.1,x.va.1.2.2.1,x.va.1.va.1,(),x.va.1.va.2.2.1,()),(s.va.1,s.va.2.1,s.va.2.2.1,s.va.va.1,s.va.va.2.1,s.wc.1,()),s.wc.2,()))) (λx=> .leaf zay (λt=>(Ex.exit 0,⟨[(0,V.ptr 100000 0),(3,V.ptr 300000 0),(4,V.ptr 300001 0),(5,V.ptr 300002 0),(20,og false)],[(100000,zaT t 300003),(300000,Cell.box 103 [og x.2.2.1.1,og x.2.2.1.2.1]),(300001,Cell.box 100 [jq x.va.1.1,jq x.va.1.2.1,sS x.va.1.2.2.1,sS x.va.1.va.1,V.nil 5,og x.va.1.va.2.2.1]),(300002,Cell.box 100 [jq t.va.1,jq t.va.2.1,sS t.va.2.2.1,sS t.va.va.1,GL 5 t.va.va.2.1,og t.wc.1]),(300003,Cell.arr false true 0 1 t.wc.2)]⟩))) (λx=>M.xO aW x.2.2.1.1 x.2.2.1.2.1 x.va.1.1 x.va.1.2.1 x.va.1.2.2.1 x.va.1.va.1 x.va.1.va.2.2.1) [fe C.aA,fe C.oC,fe nX,fe C.lK] [] (by rintro _ _ ⟨_,_,_,_,_,_,_,_,_,_⟩ _ _<;>unfold M.xO<;>exact zbC)
def M.uI(aW:zaa)(r' nS:Bool)(c:ay)(c1:Int)(c2:Bool)(c3:ay)(k:Int×Int×aC×aC×Bool×ay×Bool×ay×Int×Bool×ay->Option R):=cond (aj c3) ((aW r' nS c c1 c2 c3).bind λb=>(M.wB aW r' nS 0 0 [] [] false (b.2.2.2.2.2.2.2.1,b.2.2.2.2.2.2.2.2.1,b.2.2.2.2.2.2.2.2.2.1,b.1,b.2.1,b.2.2.1,b.2.2.2.1,aB b.2.2.2.2.2.1,b.2.2.2.2.2.2.1,b.2.2.2.2.2.2.2.2.2.2)).bind λa=>cond (aj a.2.2.2.2.2.2.2.2.2) (k (a.2.2.2.1,a.2.2.2.2.1,a.2.2.2.2.2.1,a.2.2.2.2.2.2.1,false,a.2.2.2.2.2.2.2.1,a.2.2.2.2.2.2.2.2.1,a.1,a.2.1,a.2.2.1,a.2.2.2.2.2.2.2.2.2)) none) none
def C.aei{aW:zaa}(nX:S.jC.ok X0 λx=>aW x.1.2.1.1 x.1.2.1.2.1 x.2.1.1 x.2.1.2.1 x.2.1.2.2.1 x.2.1.va.1):S.nO.ok X0 λx=>M.uI aW x.1.2.1.1 x.1.2.1.2.1 x.2.1.1 x.2.1.2.1 x.2.1.2.2.1 x.2.1.va.1 some:=fnS (λx=>zbB (M.uI aW x.1.2.1.1 x.1.2.1.2.1) x.2.1) [fe nX] [F.wB nX] (by intros;unfold M.uI;exact zbC)
def M.xP(gu:zaa)(x' qY:Bool)(uV x8:Int)(Ae Fg:aC)(IJ:Bool)(s:ay×Int×Bool×Int×Int×aC×aC×ay×Bool×ay)(kn:ay×Int×Bool×Int×Int×aC×aC×ay×Bool×ay->Option R)(ke:ay×Int×Bool×Int×Int×aC×aC×ay×Bool×ay->Option R):Option R:=match s with
 |(v,v1,v2,LU,PU,SE,Gn,KU,MS,PV)=>bif !v2 then(bif aj PV then((M.aA v v1 v2 PV).bind λb=>(M.oC b.1).bind λe=>bif e==9 then(bif aj b.2.2.2.2 then((M.aA b.2.1 b.2.2.1 b.2.2.2.1 b.2.2.2.2).bind λc=>bif aj c.2.2.2.2 then((gu x' qY c.2.1 (i64.wrap (c.2.2.1+1)) c.2.2.2.1 c.2.2.2.2).bind λa=>(M.lK c.1 LU PU SE Gn KU MS a.1 a.2.1 a.2.2.1 a.2.2.2.1 (aB a.2.2.2.2.2.1) a.2.2.2.2.2.2.1).bind λd=>kn (a.2.2.2.2.2.2.2.1,a.2.2.2.2.2.2.2.2.1,a.2.2.2.2.2.2.2.2.2.1,d.1,d.2.1,d.2.2.1,d.2.2.2.1,aB d.2.2.2.2.2.1,d.2.2.2.2.2.2,a.2.2.2.2.2.2.2.2.2.2)) else none) else none) else ke (b.2.1,b.2.2.1,b.2.2.2.1,LU,PU,SE,Gn,KU,MS,b.2.2.2.2)) else none) else ke (v,v1,v2,LU,PU,SE,Gn,KU,MS,PV)
def M.Jj gu x' qY uV x8 Ae Fg IJ s:=M.xP gu x' qY uV x8 Ae Fg IJ s (λs=>some (Sum.inl s)) λt=>some (Sum.inr t)
def M.wC gu x' qY uV x8 Ae Fg IJ s:=fJ (M.Jj gu x' qY uV x8 Ae Fg IJ) s
def F.wC{gu:zaa}(Iu:S.nO.ok X0 λx=>gu x.1.2.1.1 x.1.2.1.2.1 x.2.1.1 x.2.1.2.1 x.2.1.2.2.1 x.2.1.va.1):LE X0 197:=le 2 (IV zbg zbe) (λx=>(x.2.1.1,x.2.1.2.1,x.2.1.2.2.1,x.va.2.1.1,x.va.2.1.2.1,x.va.2.1.2.2.1,x.va.2.1.va.1,x.va.2.1.va.2.1,x.va.2.1.va.2.2.1,x.va.2.2.1)) (λx s=>(((),(),(),(),()),((s.1,s.2.1,s.2.2.1,(),()),(x.2.2.1.1,x.2.2.1.2.1,()),(x.va.1.1,x.va.1.2.1,x.va.1.2.2.1,x.va.1.va.1,(),x.va.1.va.2.2.1,()),(s.va.1,s.va.2.1,s.va.2.2.1,s.va.va.1,s.va.va.2.1,s.wc.1,()),s.wc.2,()))) (λx=> .leaf zay (λt=>(Ex.exit 0,⟨[(0,V.ptr 100000 0),(3,V.ptr 300000 0),(4,V.ptr 300001 0),(5,V.ptr 300002 0),(20,og false)],[(100000,zaT t 300003),(300000,Cell.box 103 [og x.2.2.1.1,og x.2.2.1.2.1]),(300001,Cell.box 100 [jq x.va.1.1,jq x.va.1.2.1,sS x.va.1.2.2.1,sS x.va.1.va.1,V.nil 5,og x.va.1.va.2.2.1]),(300002,Cell.box 100 [jq t.va.1,jq t.va.2.1,sS t.va.2.2.1,sS t.va.va.1,GL 5 t.va.va.2.1,og t.wc.1]),(300003,Cell.arr false true 0 1 t.wc.2)]⟩))) (λx=>M.xP gu x.2.2.1.1 x.2.2.1.2.1 x.va.1.1 x.va.1.2.1 x.va.1.2.2.1 x.va.1.va.1 x.va.1.va.2.2.1) [fe C.aA,fe C.oC,fe Iu,fe C.lK] [] (by rintro _ _ ⟨_,_,_,_,_,_,_,_,_,_⟩ _ _<;>unfold M.xP<;>exact zbC)
def M.uJ(gu:zaa)(r' nS:Bool)(c:ay)(c1:Int)(c2:Bool)(c3:ay)(k:Int×Int×aC×aC×Bool×ay×Bool×ay×Int×Bool×ay->Option R):=cond (aj c3) ((gu r' nS c c1 c2 c3).bind λb=>(M.wC gu r' nS 0 0 [] [] false (b.2.2.2.2.2.2.2.1,b.2.2.2.2.2.2.2.2.1,b.2.2.2.2.2.2.2.2.2.1,b.1,b.2.1,b.2.2.1,b.2.2.2.1,aB b.2.2.2.2.2.1,b.2.2.2.2.2.2.1,b.2.2.2.2.2.2.2.2.2.2)).bind λa=>cond (aj a.2.2.2.2.2.2.2.2.2) (k (a.2.2.2.1,a.2.2.2.2.1,a.2.2.2.2.2.1,a.2.2.2.2.2.2.1,false,a.2.2.2.2.2.2.2.1,a.2.2.2.2.2.2.2.2.1,a.1,a.2.1,a.2.2.1,a.2.2.2.2.2.2.2.2.2)) none) none
def C.aej{gu:zaa}(Iu:S.nO.ok X0 λx=>gu x.1.2.1.1 x.1.2.1.2.1 x.2.1.1 x.2.1.2.1 x.2.1.2.2.1 x.2.1.va.1):S.jG.ok X0 λx=>M.uJ gu x.1.2.1.1 x.1.2.1.2.1 x.2.1.1 x.2.1.2.1 x.2.1.2.2.1 x.2.1.va.1 some:=fnS (λx=>zbB (M.uJ gu x.1.2.1.1 x.1.2.1.2.1) x.2.1) [fe Iu] [F.wC Iu] (by intros;unfold M.uJ;exact zbC)
abbrev M.Dc(kind:Int)(k:Bool->Option R):=cond (kind==3) (k true) (cond (kind==4) (k true) (cond (kind==6) (k true) (cond (kind==7) (k true) (cond (kind==8) (k true) (cond (kind==32) (k true) (cond (kind==68) (k true) (k false)))))))
def M.lF kind:=M.Dc kind some
def C.lF:=fTa S.lF (λx=>M.Dc x.1.1)
def M.xQ(gG:zaa)(x' qY:Bool)(uV x8:Int)(Ae Fg:aC)(IJ:Bool)(s:ay×Int×Bool×Int×Int×aC×aC×ay×Bool×ay)(kn:ay×Int×Bool×Int×Int×aC×aC×ay×Bool×ay->Option R)(ke:ay×Int×Bool×Int×Int×aC×aC×ay×Bool×ay->Option R):Option R:=match s with
 |(v,v1,v2,LU,PU,SE,Gn,KU,MS,PV)=>bif !v2 then(bif aj PV then((M.aA v v1 v2 PV).bind λa=>(M.lF a.1).bind λd=>bif d then(bif aj a.2.2.2.2 then((gG x' qY a.2.1 a.2.2.1 a.2.2.2.1 a.2.2.2.2).bind λb=>(M.lK 99 LU PU SE Gn KU MS b.1 b.2.1 b.2.2.1 b.2.2.2.1 (aB b.2.2.2.2.2.1) b.2.2.2.2.2.2.1).bind λc=>kn (b.2.2.2.2.2.2.2.1,b.2.2.2.2.2.2.2.2.1,b.2.2.2.2.2.2.2.2.2.1,c.1,c.2.1,c.2.2.1,c.2.2.2.1,aB c.2.2.2.2.2.1,c.2.2.2.2.2.2,b.2.2.2.2.2.2.2.2.2.2)) else none) else ke (a.2.1,a.2.2.1,a.2.2.2.1,LU,PU,SE,Gn,KU,MS,a.2.2.2.2)) else none) else ke (v,v1,v2,LU,PU,SE,Gn,KU,MS,PV)
def M.Jk gG x' qY uV x8 Ae Fg IJ s:=M.xQ gG x' qY uV x8 Ae Fg IJ s (λs=>some (Sum.inl s)) λt=>some (Sum.inr t)
def M.wE gG x' qY uV x8 Ae Fg IJ s:=fJ (M.Jk gG x' qY uV x8 Ae Fg IJ) s
def F.wE{gG:zaa}(Iw:S.jG.ok X0 λx=>gG x.1.2.1.1 x.1.2.1.2.1 x.2.1.1 x.2.1.2.1 x.2.1.2.2.1 x.2.1.va.1):LE X0 196:=le 2 (IV zbg zbe) (λx=>(x.2.1.1,x.2.1.2.1,x.2.1.2.2.1,x.va.2.1.1,x.va.2.1.2.1,x.va.2.1.2.2.1,x.va.2.1.va.1,x.va.2.1.va.2.1,x.va.2.1.va.2.2.1,x.va.2.2.1)) (λx s=>(((),(),(),(),()),((s.1,s.2.1,s.2.2.1,(),()),(x.2.2.1.1,x.2.2.1.2.1,()),(x.va.1.1,x.va.1.2.1,x.va.1.2.2.1,x.va.1.va.1,(),x.va.1.va.2.2.1,()),(s.va.1,s.va.2.1,s.va.2.2.1,s.va.va.1,s.va.va.2.1,s.wc.1,()),s.wc.2,()))) (λx=> .leaf zay (λt=>(Ex.exit 0,⟨[(0,V.ptr 100000 0),(3,V.ptr 300000 0),(4,V.ptr 300001 0),(5,V.ptr 300002 0),(18,og false)],[(100000,zaT t 300003),(300000,Cell.box 103 [og x.2.2.1.1,og x.2.2.1.2.1]),(300001,Cell.box 100 [jq x.va.1.1,jq x.va.1.2.1,sS x.va.1.2.2.1,sS x.va.1.va.1,V.nil 5,og x.va.1.va.2.2.1]),(300002,Cell.box 100 [jq t.va.1,jq t.va.2.1,sS t.va.2.2.1,sS t.va.va.1,GL 5 t.va.va.2.1,og t.wc.1]),(300003,Cell.arr false true 0 1 t.wc.2)]⟩))) (λx=>M.xQ gG x.2.2.1.1 x.2.2.1.2.1 x.va.1.1 x.va.1.2.1 x.va.1.2.2.1 x.va.1.va.1 x.va.1.va.2.2.1) [fe C.aA,fe C.lF,fe Iw,fe C.lK] [] (by rintro _ _ ⟨_,_,_,_,_,_,_,_,_,_⟩ _ _<;>unfold M.xQ<;>exact zbC)
def M.uK(gG:zaa)(r' nS:Bool)(c:ay)(c1:Int)(c2:Bool)(c3:ay)(k:Int×Int×aC×aC×Bool×ay×Bool×ay×Int×Bool×ay->Option R):=cond (aj c3) ((gG r' nS c c1 c2 c3).bind λb=>(M.wE gG r' nS 0 0 [] [] false (b.2.2.2.2.2.2.2.1,b.2.2.2.2.2.2.2.2.1,b.2.2.2.2.2.2.2.2.2.1,b.1,b.2.1,b.2.2.1,b.2.2.2.1,aB b.2.2.2.2.2.1,b.2.2.2.2.2.2.1,b.2.2.2.2.2.2.2.2.2.2)).bind λa=>cond (aj a.2.2.2.2.2.2.2.2.2) (k (a.2.2.2.1,a.2.2.2.2.1,a.2.2.2.2.2.1,a.2.2.2.2.2.2.1,false,a.2.2.2.2.2.2.2.1,a.2.2.2.2.2.2.2.2.1,a.1,a.2.1,a.2.2.1,a.2.2.2.2.2.2.2.2.2)) none) none
def C.aek{gG:zaa}(Iw:S.jG.ok X0 λx=>gG x.1.2.1.1 x.1.2.1.2.1 x.2.1.1 x.2.1.2.1 x.2.1.2.2.1 x.2.1.va.1):S.pJ.ok X0 λx=>M.uK gG x.1.2.1.1 x.1.2.1.2.1 x.2.1.1 x.2.1.2.1 x.2.1.2.2.1 x.2.1.va.1 some:=fnS (λx=>zbB (M.uK gG x.1.2.1.1 x.1.2.1.2.1) x.2.1) [fe Iw] [F.wE Iw] (by intros;unfold M.uK;exact zbC)
abbrev M.uM(Xx:Int×ay×Int×Bool×ay)(lY:zaa)(r' nS:Bool)(vk:Int×Int×aC×aC×Bool×ay×Bool×ay×Int×Bool×ay)(k:Int×Int×aC×aC×Bool×ay×Bool×ay×Int×Bool×ay->Option R):=cond (aj Xx.2.2.2.2) ((M.aA Xx.2.1 Xx.2.2.1 Xx.2.2.2.1 Xx.2.2.2.2).bind λb=>cond (aj b.2.2.2.2) ((lY r' nS b.2.1 (i64.wrap (b.2.2.1+1)) b.2.2.2.1 b.2.2.2.2).bind λa=>(M.lK b.1 vk.1 vk.2.1 vk.2.2.1 vk.2.2.2.1 (aB vk.2.2.2.2.2.1) vk.2.2.2.2.2.2.1 a.1 a.2.1 a.2.2.1 a.2.2.2.1 (aB a.2.2.2.2.2.1) a.2.2.2.2.2.2.1).bind λc=>cond (aj a.2.2.2.2.2.2.2.2.2.2) (k (c.1,c.2.1,c.2.2.1,c.2.2.2.1,false,aB c.2.2.2.2.2.1,c.2.2.2.2.2.2,a.2.2.2.2.2.2.2)) none) none) none
def M.oq(lY:zaa)(r' nS:Bool)(c:ay)(c1:Int)(c2:Bool)(c3:ay)(k:Int×Int×aC×aC×Bool×ay×Bool×ay×Int×Bool×ay->Option R):=cond (aj c3) ((lY r' nS c c1 c2 c3).bind λa=>cond a.2.2.2.2.2.2.2.2.2.1 (cond (aj a.2.2.2.2.2.2.2.2.2.2) (k (a.1,a.2.1,a.2.2.1,a.2.2.2.1,false,aB a.2.2.2.2.2.1,a.2.2.2.2.2.2)) none) (cond (aj a.2.2.2.2.2.2.2.2.2.2) ((M.aA a.2.2.2.2.2.2.2.1 a.2.2.2.2.2.2.2.2.1 a.2.2.2.2.2.2.2.2.2.1 a.2.2.2.2.2.2.2.2.2.2).bind λb=>(M.oC b.1).bind λe=>cond (e !=7) (cond (aj b.2.2.2.2) (k (a.1,a.2.1,a.2.2.1,a.2.2.2.1,false,aB a.2.2.2.2.2.1,a.2.2.2.2.2.2.1,b.2)) none) (cond nS (cond (aj b.2.2.2.2) ((M.aA b.2.1 b.2.2.1 b.2.2.2.1 b.2.2.2.2).bind λd=>cond (d.1==62) (cond (aj d.2.2.2.2) (k (a.1,a.2.1,a.2.2.1,a.2.2.2.1,false,aB a.2.2.2.2.2.1,a.2.2.2.2.2.2.1,d.2)) none) (M.uM d lY r' nS a k)) none) (M.uM b lY r' nS a k))) none)) none
def C.Yo{lY:zaa}(afs:S.pJ.ok X0 λx=>lY x.1.2.1.1 x.1.2.1.2.1 x.2.1.1 x.2.1.2.1 x.2.1.2.2.1 x.2.1.va.1):S.kP.ok X0 λx=>M.oq lY x.1.2.1.1 x.1.2.1.2.1 x.2.1.1 x.2.1.2.1 x.2.1.2.2.1 x.2.1.va.1 some:=fnS (λx=>zbB (M.oq lY x.1.2.1.1 x.1.2.1.2.1) x.2.1) [fe afs,fe C.aA,fe C.oC,fe C.lK] [] (by intros;unfold M.oq M.uM;exact zbC)
abbrev M.xR(Xy:Int×ay×Int×Bool×ay)(jE:zaa)(r' nS:Bool)(zW:Int×Int×aC×aC×Bool×ay×Bool×ay×Int×Bool×ay)(k:Int×Int×aC×aC×Bool×ay×Bool×ay×Int×Bool×ay->Option R):=cond (aj Xy.2.2.2.2) ((M.aA Xy.2.1 Xy.2.2.1 Xy.2.2.2.1 Xy.2.2.2.2).bind λc=>cond (aj c.2.2.2.2) ((jE r' nS c.2.1 (i64.wrap (c.2.2.1+1)) c.2.2.2.1 c.2.2.2.2).bind λa=>(M.lK c.1 zW.1 zW.2.1 zW.2.2.1 zW.2.2.2.1 (aB zW.2.2.2.2.2.1) zW.2.2.2.2.2.2.1 a.1 a.2.1 a.2.2.1 a.2.2.2.1 (aB a.2.2.2.2.2.1) a.2.2.2.2.2.2.1).bind λb=>cond (aj a.2.2.2.2.2.2.2.2.2.2) (k (b.1,b.2.1,b.2.2.1,b.2.2.2.1,false,aB b.2.2.2.2.2.1,b.2.2.2.2.2.2,a.2.2.2.2.2.2.2)) none) none) none
def M.qy(jE:zaa)(r' nS:Bool)(c:ay)(c1:Int)(c2:Bool)(c3:ay)(k:Int×Int×aC×aC×Bool×ay×Bool×ay×Int×Bool×ay->Option R):=cond (aj c3) ((jE r' nS c c1 c2 c3).bind λa=>cond a.2.2.2.2.2.2.2.2.2.1 (cond (aj a.2.2.2.2.2.2.2.2.2.2) (k (a.1,a.2.1,a.2.2.1,a.2.2.2.1,false,aB a.2.2.2.2.2.1,a.2.2.2.2.2.2)) none) (cond (aj a.2.2.2.2.2.2.2.2.2.2) ((M.aA a.2.2.2.2.2.2.2.1 a.2.2.2.2.2.2.2.2.1 a.2.2.2.2.2.2.2.2.2.1 a.2.2.2.2.2.2.2.2.2.2).bind λb=>cond (b.1 !=67) (cond (aj b.2.2.2.2) ((M.aA b.2.1 b.2.2.1 b.2.2.2.1 b.2.2.2.2).bind λd=>cond (d.1 !=46) (cond (aj d.2.2.2.2) (k (a.1,a.2.1,a.2.2.1,a.2.2.2.1,false,aB a.2.2.2.2.2.1,a.2.2.2.2.2.2.1,d.2)) none) (M.xR d jE r' nS a k)) none) (M.xR b jE r' nS a k)) none)) none
def C.aaw{jE:zaa}(Zl:S.kP.ok X0 λx=>jE x.1.2.1.1 x.1.2.1.2.1 x.2.1.1 x.2.1.2.1 x.2.1.2.2.1 x.2.1.va.1):S.lq.ok X0 λx=>M.qy jE x.1.2.1.1 x.1.2.1.2.1 x.2.1.1 x.2.1.2.1 x.2.1.2.2.1 x.2.1.va.1 some:=fnS (λx=>zbB (M.qy jE x.1.2.1.1 x.1.2.1.2.1) x.2.1) [fe Zl,fe C.aA,fe C.lK] [] (by intros;unfold M.qy M.xR;exact zbC)
def M.kR(aN:zaf)(bP:zaa)(s:zaI⊕zaz⊕zaA)(kn:zaI⊕zaz⊕zaA->Option R)(ke:zaL⊕zaz⊕zaA->Option R):Option R:=match s with
 | .inl (group,v45,v,v1,v2,x',qY,uV,x8,Ae,Fg,IJ,LU,PU,SE,Gn,KU,MS)=>bif !v2 then(bif aj MS then((M.aA v v1 v2 MS).bind λa=>bif a.1==24 then(bif !x' then(bif Nat.ble 1 group.length then(bif aj a.2.2.2.2 then((M.aY a.2.1 (i64.wrap (a.2.2.1+1)) a.2.2.2.1 a.2.2.2.2).bind λf=>kn (.inr (.inl (f.2.1,f.2.2.1,f.2.2.2.1,x',qY,uV,x8,Ae,Fg,IJ,13,0,f.1,[],group,false,f.2.2.2.2)))) else none) else none) else ke (.inl (group,a.2.1,a.2.2.1,a.2.2.2.1,x',qY,uV,x8,Ae,Fg,IJ,LU,PU,SE,Gn,KU,a.2.2.2.2))) else ke (.inl (group,a.2.1,a.2.2.1,a.2.2.2.1,x',qY,uV,x8,Ae,Fg,IJ,LU,PU,SE,Gn,KU,a.2.2.2.2))) else none) else(ke (.inl (group,v,v1,v2,x',qY,uV,x8,Ae,Fg,IJ,LU,PU,SE,Gn,KU,MS)))
 | .inr (.inl (v,v1,v2,x',qY,uV,x8,Ae,Fg,IJ,LU,PU,SE,Gn,KU,MS,PV))=>bif !v2 then(bif aj PV then((M.aA v v1 v2 PV).bind λb=>bif b.1==24 then(bif !x' then(bif aj b.2.2.2.2 then((M.aY b.2.1 (i64.wrap (b.2.2.1+1)) b.2.2.2.1 b.2.2.2.2).bind λe=>kn (.inr (.inr (e.2.1,e.2.2.1,e.2.2.2.1,x',qY,uV,x8,Ae,Fg,IJ,13,0,e.1,[],false,e.2.2.2.2,[[D.int .i64 LU,D.int .i64 PU,D.str SE,D.str Gn,D.sl false 5 KU]])))) else none) else ke (.inr (.inl (b.2.1,b.2.2.1,b.2.2.2.1,x',qY,uV,x8,Ae,Fg,IJ,LU,PU,SE,Gn,KU,MS,b.2.2.2.2)))) else ke (.inr (.inl (b.2.1,b.2.2.1,b.2.2.2.1,x',qY,uV,x8,Ae,Fg,IJ,LU,PU,SE,Gn,KU,MS,b.2.2.2.2)))) else none) else(ke (.inr (.inl (v,v1,v2,x',qY,uV,x8,Ae,Fg,IJ,LU,PU,SE,Gn,KU,MS,PV))))
 | .inr (.inr (v,v1,v2,x',qY,uV,x8,Ae,Fg,IJ,LU,PU,SE,Gn,KU,MS,PV))=>bif !v2 then(bif aj MS then((M.aA v v1 v2 MS).bind λc=>bif c.1==24 then(bif !x' then(bif aj c.2.2.2.2 then((M.aY c.2.1 (i64.wrap (c.2.2.1+1)) c.2.2.2.1 c.2.2.2.2).bind λd=>kn (.inr (.inr (d.2.1,d.2.2.1,d.2.2.2.1,x',qY,uV,x8,Ae,Fg,IJ,13,0,d.1,[],false,d.2.2.2.2,[[D.int .i64 LU,D.int .i64 PU,D.str SE,D.str Gn,D.sl true 5 PV]])))) else none) else ke (.inr (.inr (c.2.1,c.2.2.1,c.2.2.2.1,x',qY,uV,x8,Ae,Fg,IJ,LU,PU,SE,Gn,KU,c.2.2.2.2,PV)))) else ke (.inr (.inr (c.2.1,c.2.2.1,c.2.2.2.1,x',qY,uV,x8,Ae,Fg,IJ,LU,PU,SE,Gn,KU,c.2.2.2.2,PV)))) else none) else ke (.inr (.inr (v,v1,v2,x',qY,uV,x8,Ae,Fg,IJ,LU,PU,SE,Gn,KU,MS,PV)))
def M.gI aN bP s:=M.kR aN bP s (λs=>some (Sum.inl s)) λt=>some (Sum.inr t)
def M.iO aN bP s:=fJ (M.gI aN bP) s
def F.iO{aN:zaf}{bP:zaa}(rP:S.iV.ok X0 λx=>aN x.1.2.1 x.2.1.1 x.2.1.2.1 x.2.1.2.2.1 x.2.1.va.1)(KE:S.lq.ok X0 λx=>bP x.1.2.1.1 x.1.2.1.2.1 x.2.1.1 x.2.1.2.1 x.2.1.2.2.1 x.2.1.va.1):LE X0 188:=le 8 (pOr (IV [dH 0 (pP 100000 0),dH 3 (pP 300000 0),dH 4 (pP 300001 0),dH 5 (pP 300002 0),dH 6 (pL false 5),dH 45 pB] [dH 100000 zbr,dH 300000 (cB 103 [pB,pB]),dH 300001 (cB 100 [pI,pI,pS,pS,Xm 5,pB]),dH 300002 (cB 100 [pI,pI,pS,pS,Xm 5,pB]),dH 300003 zbf]) (pOr (IV zbs zbe) (IV zbs [dH 100000 zbr,dH 300000 (cB 103 [pB,pB]),dH 300001 (cB 100 [pI,pI,pS,pS,Xm 5,pB]),dH 300002 (cB 100 [pI,pI,pS,pS,pO 300004 0,pB]),dH 300003 zbf,dH 300004 zbl]))) (σ:=zaI⊕zaz⊕zaA) (λx=>(match x with| .inl x=> .inl ((x.1.va.2.1,x.1.va.2.2.1,x.2.1.1,x.2.1.2.1,x.2.1.2.2.1,x.2.2.1.1,x.2.2.1.2.1,x.va.1.1,x.va.1.2.1,x.va.1.2.2.1,x.va.1.va.1,x.va.1.va.2.2.1,x.va.2.1.1,x.va.2.1.2.1,x.va.2.1.2.2.1,x.va.2.1.va.1,x.va.2.1.va.2.2.1,x.va.2.2.1))| .inr x=>(match x with| .inl x=> .inr (.inl ((x.2.1.1,x.2.1.2.1,x.2.1.2.2.1,x.2.2.1.1,x.2.2.1.2.1,x.va.1.1,x.va.1.2.1,x.va.1.2.2.1,x.va.1.va.1,x.va.1.va.2.2.1,x.va.2.1.1,x.va.2.1.2.1,x.va.2.1.2.2.1,x.va.2.1.va.1,x.va.2.1.va.2.1,x.va.2.1.va.2.2.1,x.va.2.2.1)))| .inr x=> .inr (.inr ((x.2.1.1,x.2.1.2.1,x.2.1.2.2.1,x.2.2.1.1,x.2.2.1.2.1,x.va.1.1,x.va.1.2.1,x.va.1.2.2.1,x.va.1.va.1,x.va.1.va.2.2.1,x.va.2.1.1,x.va.2.1.2.1,x.va.2.1.2.2.1,x.va.2.1.va.1,x.va.2.1.va.2.2.1,x.va.2.2.1,x.va.va.1)))))) (λx s=>(match s with| .inl s=> .inl ((((),(),(),(),s.1,s.2.1,()),((s.2.2.1,s.va.1,s.va.2.1,(),()),(s.va.2.2.1,s.va.va.1,()),(s.va.va.2.1,s.wc.1,s.wc.2.1,s.wc.2.2.1,(),s.wc.va.1,()),(s.wc.va.2.1,s.wc.va.2.2.1,s.wc.va.va.1,s.wc.va.va.2.1,(),s.wc.wc.1,()),s.wc.wc.2,())))| .inr s=>(match s with| .inl s=> .inr (.inl ((((),(),(),(),(),()),((s.1,s.2.1,s.2.2.1,(),()),(s.va.1,s.va.2.1,()),(s.va.2.2.1,s.va.va.1,s.va.va.2.1,s.wc.1,(),s.wc.2.1,()),(s.wc.2.2.1,s.wc.va.1,s.wc.va.2.1,s.wc.va.2.2.1,s.wc.va.va.1,s.wc.va.va.2.1,()),s.wc.wc,()))))| .inr s=> .inr (.inr ((((),(),(),(),(),()),((s.1,s.2.1,s.2.2.1,(),()),(s.va.1,s.va.2.1,()),(s.va.2.2.1,s.va.va.1,s.va.va.2.1,s.wc.1,(),s.wc.2.1,()),(s.wc.2.2.1,s.wc.va.1,s.wc.va.2.1,s.wc.va.2.2.1,(),s.wc.va.va.1,()),s.wc.va.va.2.1,s.wc.wc,()))))))) (λx=> .sum (.leaf zaL (λt=>(Ex.exit 0,⟨[(0,V.ptr 100000 0),(3,V.ptr 300000 0),(4,V.ptr 300001 0),(5,V.ptr 300002 0),(6,GL 5 t.1),(65,og false)],[(100000,Cell.box 70 [GL 3 t.2.1,jq t.2.2.1,og t.va.1,V.own 300003 0]),(300000,Cell.box 103 [og t.va.2.1,og t.va.2.2.1]),(300001,Cell.box 100 [jq t.va.va.1,jq t.va.va.2.1,sS t.wc.1,sS t.wc.2.1,V.nil 5,og t.wc.2.2.1]),(300002,Cell.box 100 [jq t.wc.va.1,jq t.wc.va.2.1,sS t.wc.va.2.2.1,sS t.wc.va.va.1,V.nil 5,og t.wc.va.va.2.1]),(300003,Cell.arr false true 0 1 t.wc.wc)]⟩))) (.sum (.leaf zaz (λt=>(Ex.exit 0,⟨[(0,V.ptr 100000 0),(3,V.ptr 300000 0),(4,V.ptr 300001 0),(5,V.ptr 300002 0),(6,V.nil 5),(65,og false)],[(100000,zaT t 300003),(300000,Cell.box 103 [og t.va.1,og t.va.2.1]),(300001,Cell.box 100 [jq t.va.2.2.1,jq t.va.va.1,sS t.va.va.2.1,sS t.wc.1,V.nil 5,og t.wc.2.1]),(300002,Cell.box 100 [jq t.wc.2.2.1,jq t.wc.va.1,sS t.wc.va.2.1,sS t.wc.va.2.2.1,GL 5 t.wc.va.va.1,og t.wc.va.va.2.1]),(300003,Cell.arr false true 0 1 t.wc.wc)]⟩))) (.leaf zaA (λt=>(Ex.exit 0,⟨[(0,V.ptr 100000 0),(3,V.ptr 300000 0),(4,V.ptr 300001 0),(5,V.ptr 300002 0),(6,V.nil 5),(65,og false)],[(100000,zaT t 300003),(300000,Cell.box 103 [og t.va.1,og t.va.2.1]),(300001,Cell.box 100 [jq t.va.2.2.1,jq t.va.va.1,sS t.va.va.2.1,sS t.wc.1,V.nil 5,og t.wc.2.1]),(300002,Cell.box 100 [jq t.wc.2.2.1,jq t.wc.va.1,sS t.wc.va.2.1,sS t.wc.va.2.2.1,V.own 300004 0,og t.wc.va.va.1]),(300003,Cell.arr false true 0 1 t.wc.va.va.2.1),(300004,Cell.arr false false 0 5 t.wc.wc)]⟩))))) (λx=>M.kR aN bP) [fe C.aA,fe C.aY] [] (by rintro _ _ (⟨_,_,_,_,_,_,_,_,_,_,_,_,_,_,_,_,_,_⟩|⟨_,_,_,_,_,_,_,_,_,_,_,_,_,_,_,_,_⟩|⟨_,_,_,_,_,_,_,_,_,_,_,_,_,_,_,_,_⟩) _ _<;>unfold M.kR<;>exact zbC) (hE:=by intro _ _ s _;rcases s with s|s|s<;>kernel_rfl)
abbrev M.Df(YZ:ay×ay×Int×Bool×Bool×Bool×Int×Int×aC×aC×Bool×Int×Int×aC×aC×Bool×ay)(k:Int×Int×aC×aC×Bool×ay×Bool×ay×Int×Bool×ay->Option R):=cond (aj YZ.2.2.2.2.2.2.2.2.2.2.2.2.2.2.2.2) (k (YZ.2.2.2.2.2.2.2.2.2.2.2.1,YZ.2.2.2.2.2.2.2.2.2.2.2.2.1,YZ.2.2.2.2.2.2.2.2.2.2.2.2.2.1,YZ.2.2.2.2.2.2.2.2.2.2.2.2.2.2.1,true,[],YZ.2.2.2.2.2.2.2.2.2.2.2.2.2.2.2.1,YZ.2.1,YZ.2.2.1,YZ.2.2.2.1,YZ.2.2.2.2.2.2.2.2.2.2.2.2.2.2.2.2)) none
abbrev M.Dh(Xz:ay×Int×Bool×Bool×Bool×Int×Int×aC×aC×Bool×Int×Int×aC×aC×Bool×ay×ay)(k:Int×Int×aC×aC×Bool×ay×Bool×ay×Int×Bool×ay->Option R):=cond (aj Xz.2.2.2.2.2.2.2.2.2.2.2.2.2.2.2.1) (k (Xz.2.2.2.2.2.2.2.2.2.2.1,Xz.2.2.2.2.2.2.2.2.2.2.2.1,Xz.2.2.2.2.2.2.2.2.2.2.2.2.1,Xz.2.2.2.2.2.2.2.2.2.2.2.2.2.1,true,Xz.2.2.2.2.2.2.2.2.2.2.2.2.2.2.2.2,Xz.2.2.2.2.2.2.2.2.2.2.2.2.2.2.1,Xz.1,Xz.2.1,Xz.2.2.1,Xz.2.2.2.2.2.2.2.2.2.2.2.2.2.2.2.1)) none
abbrev M.Di(XA:ay×Int×Bool×Bool×Bool×Int×Int×aC×aC×Bool×Int×Int×aC×aC×ay×Bool×ay)(k:Int×Int×aC×aC×Bool×ay×Bool×ay×Int×Bool×ay->Option R):=cond (aj XA.2.2.2.2.2.2.2.2.2.2.2.2.2.2.2.2) (k (XA.2.2.2.2.2.2.2.2.2.2.1,XA.2.2.2.2.2.2.2.2.2.2.2.1,XA.2.2.2.2.2.2.2.2.2.2.2.2.1,XA.2.2.2.2.2.2.2.2.2.2.2.2.2.1,false,XA.2.2.2.2.2.2.2.2.2.2.2.2.2.2.1,XA.2.2.2.2.2.2.2.2.2.2.2.2.2.2.2.1,XA.1,XA.2.1,XA.2.2.1,XA.2.2.2.2.2.2.2.2.2.2.2.2.2.2.2.2)) none
abbrev M.uN(aN:zaf)(bP:zaa)(Y0:Int×Int×aC×aC×Bool×ay×Bool×ay×Int×Bool×ay)(r' nS:Bool)(k:Int×Int×aC×aC×Bool×ay×Bool×ay×Int×Bool×ay->Option R):=(M.iO aN bP (.inr (.inl (Y0.2.2.2.2.2.2.2.1,Y0.2.2.2.2.2.2.2.2.1,Y0.2.2.2.2.2.2.2.2.2.1,r',nS,0,0,[],[],false,Y0.1,Y0.2.1,Y0.2.2.1,Y0.2.2.2.1,aB Y0.2.2.2.2.2.1,Y0.2.2.2.2.2.2.1,Y0.2.2.2.2.2.2.2.2.2.2)))).bind λf=>jX f (λc=>cond (aj c.2.2.2.2.2.2.2.2.2.2.2.2.2.2.2.2) (k (c.2.2.2.2.2.2.2.2.2.2.2.1,c.2.2.2.2.2.2.2.2.2.2.2.2.1,c.2.2.2.2.2.2.2.2.2.2.2.2.2.1,c.2.2.2.2.2.2.2.2.2.2.2.2.2.2.1,true,[],c.2.2.2.2.2.2.2.2.2.2.2.2.2.2.2.1,c.2.1,c.2.2.1,c.2.2.2.1,c.2.2.2.2.2.2.2.2.2.2.2.2.2.2.2.2)) none) λd=>jX d (λa=>cond (aj a.2.2.2.2.2.2.2.2.2.2.2.2.2.2.2.2) (k (a.2.2.2.2.2.2.2.2.2.2.1,a.2.2.2.2.2.2.2.2.2.2.2.1,a.2.2.2.2.2.2.2.2.2.2.2.2.1,a.2.2.2.2.2.2.2.2.2.2.2.2.2.1,false,a.2.2.2.2.2.2.2.2.2.2.2.2.2.2.1,a.2.2.2.2.2.2.2.2.2.2.2.2.2.2.2.1,a.1,a.2.1,a.2.2.1,a.2.2.2.2.2.2.2.2.2.2.2.2.2.2.2.2)) none) λe=>letE e λb=>cond (aj b.2.2.2.2.2.2.2.2.2.2.2.2.2.2.2.1) (k (b.2.2.2.2.2.2.2.2.2.2.1,b.2.2.2.2.2.2.2.2.2.2.2.1,b.2.2.2.2.2.2.2.2.2.2.2.2.1,b.2.2.2.2.2.2.2.2.2.2.2.2.2.1,true,b.2.2.2.2.2.2.2.2.2.2.2.2.2.2.2.2,b.2.2.2.2.2.2.2.2.2.2.2.2.2.2.1,b.1,b.2.1,b.2.2.1,b.2.2.2.2.2.2.2.2.2.2.2.2.2.2.2.1)) none
def M.wF(aN:zaf)(bP:zaa)(r' nS:Bool)(c:ay)(c1:Int)(c2:Bool)(c3:ay)(k:Int×Int×aC×aC×Bool×ay×Bool×ay×Int×Bool×ay->Option R):=cond (!c2) (cond (aj c3) ((M.aA c c1 c2 c3).bind λe=>cond (e.1==32) (cond (!r') (cond (aj e.2.2.2.2) ((M.lQ e.2.1 e.2.2.1 e.2.2.2.1 e.2.2.2.2).bind λa=>cond a.1 (cond (aj a.2.2.2.2) ((aN 33 a.2.1 (i64.wrap (a.2.2.1+1)) a.2.2.2.1 a.2.2.2.2).bind λf=>cond (!f.2.2.2.2.1) (cond (aj f.2.2.2.2.2) ((M.aA f.2.2.1 f.2.2.2.1 f.2.2.2.2.1 f.2.2.2.2.2).bind λd=>cond (d.1 !=24) (cond (aj d.2.2.2.2) ((M.jl d.2.1 d.2.2.1 d.2.2.2.1 d.2.2.2.2).bind λb=>cond (aj b.2.2.2.2.2.2.2.2.2.2) (k (b.1,b.2.1,b.2.2.1,b.2.2.2.1,false,aB b.2.2.2.2.2.1,b.2.2.2.2.2.2)) none) none) ((M.iO aN bP (.inl (aB f.2.1,false,d.2.1,d.2.2.1,d.2.2.2.1,r',nS,0,0,[],[],false,0,0,[],[],false,d.2.2.2.2))).bind λo=>jX o (λu=>M.Df u k) λp=>jX p (λw=>M.Di w k) λs=>letE s λt=>M.Dh t k)) none) ((M.iO aN bP (.inl (aB f.2.1,false,f.2.2.1,f.2.2.2.1,f.2.2.2.2.1,r',nS,0,0,[],[],false,0,0,[],[],false,f.2.2.2.2.2))).bind λh=>jX h (λl=>M.Df l k) λq=>jX q (λj=>M.Di j k) λr=>letE r λm=>M.Dh m k)) none) (cond (aj a.2.2.2.2) ((bP r' nS a.2.1 a.2.2.1 a.2.2.2.1 a.2.2.2.2).bind λv=>M.uN aN bP v r' nS k) none)) none) (cond (aj e.2.2.2.2) ((bP r' nS e.2.1 e.2.2.1 e.2.2.2.1 e.2.2.2.2).bind λg=>M.uN aN bP g r' nS k) none)) (cond (aj e.2.2.2.2) ((bP r' nS e.2.1 e.2.2.1 e.2.2.2.1 e.2.2.2.2).bind λi=>M.uN aN bP i r' nS k) none)) none) (cond (aj c3) ((bP r' nS c c1 c2 c3).bind λn=>M.uN aN bP n r' nS k) none)
def C.aft{aN:zaf}{bP:zaa}(rP:S.iV.ok X0 λx=>aN x.1.2.1 x.2.1.1 x.2.1.2.1 x.2.1.2.2.1 x.2.1.va.1)(KE:S.lq.ok X0 λx=>bP x.1.2.1.1 x.1.2.1.2.1 x.2.1.1 x.2.1.2.1 x.2.1.2.2.1 x.2.1.va.1):S.oW.ok X0 λx=>M.wF aN bP x.1.2.1.1 x.1.2.1.2.1 x.2.1.1 x.2.1.2.1 x.2.1.2.2.1 x.2.1.va.1 some:=fnS (λx=>zbB (M.wF aN bP x.1.2.1.1 x.1.2.1.2.1) x.2.1) [fe C.aA,fe C.lQ,fe rP,fe C.jl,fe KE] [F.iO rP KE] (by intros;unfold M.wF M.uN M.Di M.Dh M.Df;exact zbC)
def M.xU(ig:zaa)(x' qY:Bool)(uV x8:Int)(Ae Fg:aC)(IJ:Bool)(s:ay×Int×Bool×Int×Int×aC×aC×ay×Bool×ay)(kn:ay×Int×Bool×Int×Int×aC×aC×ay×Bool×ay->Option R)(ke:ay×Int×Bool×Int×Int×aC×aC×ay×Bool×ay->Option R):Option R:=match s with
 |(v,v1,v2,LU,PU,SE,Gn,KU,MS,PV)=>bif !v2 then(bif aj PV then((M.aA v v1 v2 PV).bind λa=>bif a.1==45 then(bif aj a.2.2.2.2 then((M.aK a.2.1 (i64.wrap (a.2.2.1+1)) a.2.2.2.1 a.2.2.2.2).bind λd=>bif aj d.2.2.2 then((ig x' qY d.1 d.2.1 d.2.2.1 d.2.2.2).bind λb=>(M.lK 45 LU PU SE Gn KU MS b.1 b.2.1 b.2.2.1 b.2.2.2.1 (aB b.2.2.2.2.2.1) b.2.2.2.2.2.2.1).bind λc=>kn (b.2.2.2.2.2.2.2.1,b.2.2.2.2.2.2.2.2.1,b.2.2.2.2.2.2.2.2.2.1,c.1,c.2.1,c.2.2.1,c.2.2.2.1,aB c.2.2.2.2.2.1,c.2.2.2.2.2.2,b.2.2.2.2.2.2.2.2.2.2)) else none) else none) else ke (a.2.1,a.2.2.1,a.2.2.2.1,LU,PU,SE,Gn,KU,MS,a.2.2.2.2)) else none) else ke (v,v1,v2,LU,PU,SE,Gn,KU,MS,PV)
def M.Jl ig x' qY uV x8 Ae Fg IJ s:=M.xU ig x' qY uV x8 Ae Fg IJ s (λs=>some (Sum.inl s)) λt=>some (Sum.inr t)
def M.wG ig x' qY uV x8 Ae Fg IJ s:=fJ (M.Jl ig x' qY uV x8 Ae Fg IJ) s
def F.wG{ig:zaa}(J7:S.oW.ok X0 λx=>ig x.1.2.1.1 x.1.2.1.2.1 x.2.1.1 x.2.1.2.1 x.2.1.2.2.1 x.2.1.va.1):LE X0 179:=le 2 (IV zbg zbe) (λx=>(x.2.1.1,x.2.1.2.1,x.2.1.2.2.1,x.va.2.1.1,x.va.2.1.2.1,x.va.2.1.2.2.1,x.va.2.1.va.1,x.va.2.1.va.2.1,x.va.2.1.va.2.2.1,x.va.2.2.1)) (λx s=>(((),(),(),(),()),((s.1,s.2.1,s.2.2.1,(),()),(x.2.2.1.1,x.2.2.1.2.1,()),(x.va.1.1,x.va.1.2.1,x.va.1.2.2.1,x.va.1.va.1,(),x.va.1.va.2.2.1,()),(s.va.1,s.va.2.1,s.va.2.2.1,s.va.va.1,s.va.va.2.1,s.wc.1,()),s.wc.2,()))) (λx=> .leaf zay (λt=>(Ex.exit 0,⟨[(0,V.ptr 100000 0),(3,V.ptr 300000 0),(4,V.ptr 300001 0),(5,V.ptr 300002 0),(18,og false)],[(100000,zaT t 300003),(300000,Cell.box 103 [og x.2.2.1.1,og x.2.2.1.2.1]),(300001,Cell.box 100 [jq x.va.1.1,jq x.va.1.2.1,sS x.va.1.2.2.1,sS x.va.1.va.1,V.nil 5,og x.va.1.va.2.2.1]),(300002,Cell.box 100 [jq t.va.1,jq t.va.2.1,sS t.va.2.2.1,sS t.va.va.1,GL 5 t.va.va.2.1,og t.wc.1]),(300003,Cell.arr false true 0 1 t.wc.2)]⟩))) (λx=>M.xU ig x.2.2.1.1 x.2.2.1.2.1 x.va.1.1 x.va.1.2.1 x.va.1.2.2.1 x.va.1.va.1 x.va.1.va.2.2.1) [fe C.aA,fe C.aK,fe J7,fe C.lK] [] (by rintro _ _ ⟨_,_,_,_,_,_,_,_,_,_⟩ _ _<;>unfold M.xU<;>exact zbC)
def M.uO(ig:zaa)(r' nS:Bool)(c:ay)(c1:Int)(c2:Bool)(c3:ay)(k:Int×Int×aC×aC×Bool×ay×Bool×ay×Int×Bool×ay->Option R):=cond (aj c3) ((ig r' nS c c1 c2 c3).bind λb=>(M.wG ig r' nS 0 0 [] [] false (b.2.2.2.2.2.2.2.1,b.2.2.2.2.2.2.2.2.1,b.2.2.2.2.2.2.2.2.2.1,b.1,b.2.1,b.2.2.1,b.2.2.2.1,aB b.2.2.2.2.2.1,b.2.2.2.2.2.2.1,b.2.2.2.2.2.2.2.2.2.2)).bind λa=>cond (aj a.2.2.2.2.2.2.2.2.2) (k (a.2.2.2.1,a.2.2.2.2.1,a.2.2.2.2.2.1,a.2.2.2.2.2.2.1,false,a.2.2.2.2.2.2.2.1,a.2.2.2.2.2.2.2.2.1,a.1,a.2.1,a.2.2.1,a.2.2.2.2.2.2.2.2.2)) none) none
def C.ael{ig:zaa}(J7:S.oW.ok X0 λx=>ig x.1.2.1.1 x.1.2.1.2.1 x.2.1.1 x.2.1.2.1 x.2.1.2.2.1 x.2.1.va.1):S.nP.ok X0 λx=>M.uO ig x.1.2.1.1 x.1.2.1.2.1 x.2.1.1 x.2.1.2.1 x.2.1.2.2.1 x.2.1.va.1 some:=fnS (λx=>zbB (M.uO ig x.1.2.1.1 x.1.2.1.2.1) x.2.1) [fe J7] [F.wG J7] (by intros;unfold M.uO;exact zbC)
def M.zh(gJ:zaa)(x' qY:Bool)(uV x8:Int)(Ae Fg:aC)(IJ:Bool)(s:ay×Int×Bool×Int×Int×aC×aC×ay×Bool×ay)(kn:ay×Int×Bool×Int×Int×aC×aC×ay×Bool×ay->Option R)(ke:ay×Int×Bool×Int×Int×aC×aC×ay×Bool×ay->Option R):Option R:=match s with
 |(v,v1,v2,LU,PU,SE,Gn,KU,MS,PV)=>bif !v2 then(bif aj PV then((M.aA v v1 v2 PV).bind λb=>bif b.1==44 then(bif aj b.2.2.2.2 then((M.aK b.2.1 (i64.wrap (b.2.2.1+1)) b.2.2.2.1 b.2.2.2.2).bind λd=>bif aj d.2.2.2 then((gJ x' qY d.1 d.2.1 d.2.2.1 d.2.2.2).bind λa=>(M.lK 44 LU PU SE Gn KU MS a.1 a.2.1 a.2.2.1 a.2.2.2.1 (aB a.2.2.2.2.2.1) a.2.2.2.2.2.2.1).bind λc=>kn (a.2.2.2.2.2.2.2.1,a.2.2.2.2.2.2.2.2.1,a.2.2.2.2.2.2.2.2.2.1,c.1,c.2.1,c.2.2.1,c.2.2.2.1,aB c.2.2.2.2.2.1,c.2.2.2.2.2.2,a.2.2.2.2.2.2.2.2.2.2)) else none) else none) else ke (b.2.1,b.2.2.1,b.2.2.2.1,LU,PU,SE,Gn,KU,MS,b.2.2.2.2)) else none) else ke (v,v1,v2,LU,PU,SE,Gn,KU,MS,PV)
def M.KF gJ x' qY uV x8 Ae Fg IJ s:=M.zh gJ x' qY uV x8 Ae Fg IJ s (λs=>some (Sum.inl s)) λt=>some (Sum.inr t)
def M.yx gJ x' qY uV x8 Ae Fg IJ s:=fJ (M.KF gJ x' qY uV x8 Ae Fg IJ) s
def F.yx{gJ:zaa}(Iy:S.nP.ok X0 λx=>gJ x.1.2.1.1 x.1.2.1.2.1 x.2.1.1 x.2.1.2.1 x.2.1.2.2.1 x.2.1.va.1):LE X0 147:=le 2 (IV zbg zbe) (λx=>(x.2.1.1,x.2.1.2.1,x.2.1.2.2.1,x.va.2.1.1,x.va.2.1.2.1,x.va.2.1.2.2.1,x.va.2.1.va.1,x.va.2.1.va.2.1,x.va.2.1.va.2.2.1,x.va.2.2.1)) (λx s=>(((),(),(),(),()),((s.1,s.2.1,s.2.2.1,(),()),(x.2.2.1.1,x.2.2.1.2.1,()),(x.va.1.1,x.va.1.2.1,x.va.1.2.2.1,x.va.1.va.1,(),x.va.1.va.2.2.1,()),(s.va.1,s.va.2.1,s.va.2.2.1,s.va.va.1,s.va.va.2.1,s.wc.1,()),s.wc.2,()))) (λx=> .leaf zay (λt=>(Ex.exit 0,⟨[(0,V.ptr 100000 0),(3,V.ptr 300000 0),(4,V.ptr 300001 0),(5,V.ptr 300002 0),(18,og false)],[(100000,zaT t 300003),(300000,Cell.box 103 [og x.2.2.1.1,og x.2.2.1.2.1]),(300001,Cell.box 100 [jq x.va.1.1,jq x.va.1.2.1,sS x.va.1.2.2.1,sS x.va.1.va.1,V.nil 5,og x.va.1.va.2.2.1]),(300002,Cell.box 100 [jq t.va.1,jq t.va.2.1,sS t.va.2.2.1,sS t.va.va.1,GL 5 t.va.va.2.1,og t.wc.1]),(300003,Cell.arr false true 0 1 t.wc.2)]⟩))) (λx=>M.zh gJ x.2.2.1.1 x.2.2.1.2.1 x.va.1.1 x.va.1.2.1 x.va.1.2.2.1 x.va.1.va.1 x.va.1.va.2.2.1) [fe C.aA,fe C.aK,fe Iy,fe C.lK] [] (by rintro _ _ ⟨_,_,_,_,_,_,_,_,_,_⟩ _ _<;>unfold M.zh<;>exact zbC)
def M.wH(gJ:zaa)(r' nS:Bool)(c:ay)(c1:Int)(c2:Bool)(c3:ay)(k:Int×Int×aC×aC×Bool×ay×Bool×ay×Int×Bool×ay->Option R):=cond (aj c3) ((gJ r' nS c c1 c2 c3).bind λb=>(M.yx gJ r' nS 0 0 [] [] false (b.2.2.2.2.2.2.2.1,b.2.2.2.2.2.2.2.2.1,b.2.2.2.2.2.2.2.2.2.1,b.1,b.2.1,b.2.2.1,b.2.2.2.1,aB b.2.2.2.2.2.1,b.2.2.2.2.2.2.1,b.2.2.2.2.2.2.2.2.2.2)).bind λa=>cond (aj a.2.2.2.2.2.2.2.2.2) (k (a.2.2.2.1,a.2.2.2.2.1,a.2.2.2.2.2.1,a.2.2.2.2.2.2.1,false,a.2.2.2.2.2.2.2.1,a.2.2.2.2.2.2.2.2.1,a.1,a.2.1,a.2.2.1,a.2.2.2.2.2.2.2.2.2)) none) none
def C.afu{gJ:zaa}(Iy:S.nP.ok X0 λx=>gJ x.1.2.1.1 x.1.2.1.2.1 x.2.1.1 x.2.1.2.1 x.2.1.2.2.1 x.2.1.va.1):S.qQ.ok X0 λx=>M.wH gJ x.1.2.1.1 x.1.2.1.2.1 x.2.1.1 x.2.1.2.1 x.2.1.2.2.1 x.2.1.va.1 some:=fnS (λx=>zbB (M.wH gJ x.1.2.1.1 x.1.2.1.2.1) x.2.1) [fe Iy] [F.yx Iy] (by intros;unfold M.wH;exact zbC)
def M.rU(AA:zaa)(iZ:zaa)(r' nS:Bool)(c:ay)(c1:Int)(c2:Bool)(c3:ay)(k:Int×Int×aC×aC×Bool×ay×Bool×ay×Int×Bool×ay->Option R):=cond (aj c3) ((AA r' nS c c1 c2 c3).bind λa=>cond a.2.2.2.2.2.2.2.2.2.1 (cond (aj a.2.2.2.2.2.2.2.2.2.2) (k (a.1,a.2.1,a.2.2.1,a.2.2.2.1,false,aB a.2.2.2.2.2.1,a.2.2.2.2.2.2)) none) (cond (aj a.2.2.2.2.2.2.2.2.2.2) ((M.aA a.2.2.2.2.2.2.2.1 a.2.2.2.2.2.2.2.2.1 a.2.2.2.2.2.2.2.2.2.1 a.2.2.2.2.2.2.2.2.2.2).bind λb=>cond (b.1 !=65) (cond (aj b.2.2.2.2) (k (a.1,a.2.1,a.2.2.1,a.2.2.2.1,false,aB a.2.2.2.2.2.1,a.2.2.2.2.2.2.1,b.2)) none) (cond (aj b.2.2.2.2) ((iZ r' nS b.2.1 (i64.wrap (b.2.2.1+1)) b.2.2.2.1 b.2.2.2.2).bind λf=>cond (aj f.2.2.2.2.2.2.2.2.2.2) ((M.aI 66 f.2.2.2.2.2.2.2.1 f.2.2.2.2.2.2.2.2.1 f.2.2.2.2.2.2.2.2.2.1 f.2.2.2.2.2.2.2.2.2.2).bind λd=>cond d.2.2.2.1 (cond (aj d.2.2.2.2) (k (0,0,[],[],true,[],false,d.2)) none) (cond (aj d.2.2.2.2) ((iZ r' nS d.2.1 d.2.2.1 d.2.2.2.1 d.2.2.2.2).bind λe=>cond (aj e.2.2.2.2.2.2.2.2.2.2) (k (14,0,[],[],true,[[D.int .i64 a.1,D.int .i64 a.2.1,D.str a.2.2.1,D.str a.2.2.2.1,D.sl false 5 (aB a.2.2.2.2.2.1)],[D.int .i64 f.1,D.int .i64 f.2.1,D.str f.2.2.1,D.str f.2.2.2.1,D.sl false 5 (aB f.2.2.2.2.2.1)],[D.int .i64 e.1,D.int .i64 e.2.1,D.str e.2.2.1,D.str e.2.2.2.1,D.sl false 5 (aB e.2.2.2.2.2.1)]],false,e.2.2.2.2.2.2.2)) none) none)) none) none)) none)) none
def C.abU{AA:zaa}{iZ:zaa}(agP:S.qQ.ok X0 λx=>AA x.1.2.1.1 x.1.2.1.2.1 x.2.1.1 x.2.1.2.1 x.2.1.2.2.1 x.2.1.va.1)(MV:S.mJ.ok X0 λx=>iZ x.1.2.1.1 x.1.2.1.2.1 x.2.1.1 x.2.1.2.1 x.2.1.2.2.1 x.2.1.va.1):S.mJ.ok X0 λx=>M.rU AA iZ x.1.2.1.1 x.1.2.1.2.1 x.2.1.1 x.2.1.2.1 x.2.1.2.2.1 x.2.1.va.1 some:=fnS (λx=>zbB (M.rU AA iZ x.1.2.1.1 x.1.2.1.2.1) x.2.1) [fe agP,fe C.aA,fe MV,fe C.aI] [] (by intros;unfold M.rU;exact zbC)
abbrev M.MF(kind:Int)(k:Bool->Option R):=cond (kind==54) (k true) ((M.jy kind 38 43).bind λa=>k a)
def M.zT kind:=M.MF kind some
def C.zT:=fTa S.zT (λx=>M.MF x.1.1) [fe C.jy]
def M.o9(iZ:zaa)(bn:zaa)(r' nS:Bool)(c:ay)(c1:Int)(c2:Bool)(c3:ay)(k:Int×Int×aC×aC×Bool×ay×Bool×ay×Int×Bool×ay->Option R):=cond (aj c3) ((iZ r' nS c c1 c2 c3).bind λa=>cond a.2.2.2.2.2.2.2.2.2.1 (cond (aj a.2.2.2.2.2.2.2.2.2.2) (k (a.1,a.2.1,a.2.2.1,a.2.2.2.1,false,aB a.2.2.2.2.2.1,a.2.2.2.2.2.2)) none) (cond (!a.2.2.2.2.2.2.1) (cond (aj a.2.2.2.2.2.2.2.2.2.2) (k (a.1,a.2.1,a.2.2.1,a.2.2.2.1,false,aB a.2.2.2.2.2.1,a.2.2.2.2.2.2)) none) (cond (aj a.2.2.2.2.2.2.2.2.2.2) ((M.aA a.2.2.2.2.2.2.2.1 a.2.2.2.2.2.2.2.2.1 a.2.2.2.2.2.2.2.2.2.1 a.2.2.2.2.2.2.2.2.2.2).bind λb=>(M.zT b.1).bind λf=>cond (!f) (cond (aj b.2.2.2.2) (k (a.1,a.2.1,a.2.2.1,a.2.2.2.1,false,aB a.2.2.2.2.2.1,a.2.2.2.2.2.2.1,b.2)) none) (cond (aj b.2.2.2.2) ((M.aA b.2.1 b.2.2.1 b.2.2.2.1 b.2.2.2.2).bind λe=>cond (aj e.2.2.2.2) ((bn r' nS e.2.1 (i64.wrap (e.2.2.1+1)) e.2.2.2.1 e.2.2.2.2).bind λd=>cond (aj d.2.2.2.2.2.2.2.2.2.2) (k (15,e.1,[],[],true,[[D.int .i64 a.1,D.int .i64 a.2.1,D.str a.2.2.1,D.str a.2.2.2.1,D.sl false 5 (aB a.2.2.2.2.2.1)],[D.int .i64 d.1,D.int .i64 d.2.1,D.str d.2.2.1,D.str d.2.2.2.1,D.sl false 5 (aB d.2.2.2.2.2.1)]],false,d.2.2.2.2.2.2.2)) none) none) none)) none))) none
def C.Zm{iZ:zaa}{bn:zaa}(MV:S.mJ.ok X0 λx=>iZ x.1.2.1.1 x.1.2.1.2.1 x.2.1.1 x.2.1.2.1 x.2.1.2.2.1 x.2.1.va.1)(o8:S.bD.ok X0 λx=>bn x.1.2.1.1 x.1.2.1.2.1 x.2.1.1 x.2.1.2.1 x.2.1.2.2.1 x.2.1.va.1):S.bD.ok X0 λx=>M.o9 iZ bn x.1.2.1.1 x.1.2.1.2.1 x.2.1.1 x.2.1.2.1 x.2.1.2.2.1 x.2.1.va.1 some:=fnS (λx=>zbB (M.o9 iZ bn x.1.2.1.1 x.1.2.1.2.1) x.2.1) [fe MV,fe C.aA,fe C.zT,fe o8] [] (by intros;unfold M.o9;exact zbC)
def M.aJ:Nat->(zaa)×(zal)×(zaf)×(zad)×(zad)×(zad)×(zad)×(zad)×(zad)×(zaa)×(zaa)×(zaa)×(zaa)×(zaa)×(zaa)×(zaa)×(zaa)×(zaa)×(zaa)×(zaa):=Nat.rec (λ_ _ _ _ _ _=>none,λ_ _ _ _ _ _=>none,λ_ _ _ _ _=>none,λ_ _ _ _=>none,λ_ _ _ _=>none,λ_ _ _ _=>none,λ_ _ _ _=>none,λ_ _ _ _=>none,λ_ _ _ _=>none,λ_ _ _ _ _ _=>none,λ_ _ _ _ _ _=>none,λ_ _ _ _ _ _=>none,λ_ _ _ _ _ _=>none,λ_ _ _ _ _ _=>none,λ_ _ _ _ _ _=>none,λ_ _ _ _ _ _=>none,λ_ _ _ _ _ _=>none,λ_ _ _ _ _ _=>none,λ_ _ _ _ _ _=>none,λ_ _ _ _ _ _=>none) λ_ qz=>(λr' nS c c1 c2 c3=>M.o9 qz.2.2.2.2.2.2.2.2.2.2.2.2.2.2.2.2.2.2.2 qz.1 r' nS c c1 c2 c3 some,λr' nS c c1 c2 c3=>M.qp qz.1 r' nS c c1 c2 c3 some,λshut c c1 c2 c3=>M.rO qz.2.1 shut c c1 c2 c3 some,λc c1 c2 c3=>M.pX qz.2.2.1 c c1 c2 c3 some,λc c1 c2 c3=>M.oh qz.2.2.2.1 qz.2.2.1 qz.1 c c1 c2 c3 some,λc c1 c2 c3=>M.qw qz.2.2.2.2.1 qz.2.2.2.2.2.2.2.1 qz.2.2.2.2.2.1 c c1 c2 c3 some,λc c1 c2 c3=>M.sF qz.2.2.2.2.2.1 qz.2.2.2.1 c c1 c2 c3 some,λc c1 c2 c3=>M.sG qz.2.2.2.2.2.2.1 c c1 c2 c3 some,λc c1 c2 c3=>M.rQ qz.2.2.2.2.2.2.2.1 qz.2.2.2.2.2.1 c c1 c2 c3 some,λr' nS c c1 c2 c3=>M.uH qz.2.2.2.2.2.2.2.2.1 qz.2.2.2.2.2.2.2.2.2.2.1 r' nS c c1 c2 c3 some,λr' nS c c1 c2 c3=>M.qx qz.2.2.2.2.2.2.2.2.2.1 qz.2.2.2.2.2.2.2.2.2.2.1 r' nS c c1 c2 c3 some,λr' nS c c1 c2 c3=>M.uI qz.2.2.2.2.2.2.2.2.2.2.1 r' nS c c1 c2 c3 some,λr' nS c c1 c2 c3=>M.uJ qz.2.2.2.2.2.2.2.2.2.2.2.1 r' nS c c1 c2 c3 some,λr' nS c c1 c2 c3=>M.uK qz.2.2.2.2.2.2.2.2.2.2.2.2.1 r' nS c c1 c2 c3 some,λr' nS c c1 c2 c3=>M.oq qz.2.2.2.2.2.2.2.2.2.2.2.2.2.1 r' nS c c1 c2 c3 some,λr' nS c c1 c2 c3=>M.qy qz.2.2.2.2.2.2.2.2.2.2.2.2.2.2.1 r' nS c c1 c2 c3 some,λr' nS c c1 c2 c3=>M.wF qz.2.2.1 qz.2.2.2.2.2.2.2.2.2.2.2.2.2.2.2.1 r' nS c c1 c2 c3 some,λr' nS c c1 c2 c3=>M.uO qz.2.2.2.2.2.2.2.2.2.2.2.2.2.2.2.2.1 r' nS c c1 c2 c3 some,λr' nS c c1 c2 c3=>M.wH qz.2.2.2.2.2.2.2.2.2.2.2.2.2.2.2.2.2.1 r' nS c c1 c2 c3 some,λr' nS c c1 c2 c3=>M.rU qz.2.2.2.2.2.2.2.2.2.2.2.2.2.2.2.2.2.2.1 qz.2.2.2.2.2.2.2.2.2.2.2.2.2.2.2.2.2.2.2 r' nS c c1 c2 c3 some)
def M.gQ n:=(M.aJ n).1
def M.kS n:=(M.aJ n).2.1
def M.jm n:=(M.aJ n).2.2.1
def M.uP n:=(M.aJ n).2.2.2.1
def M.ou n:=(M.aJ n).2.2.2.2.1
def M.lZ n:=(M.aJ n).2.2.2.2.2.1
def M.Dj n:=(M.aJ n).2.2.2.2.2.2.1
def M.pq n:=(M.aJ n).2.2.2.2.2.2.2.1
def M.rV n:=(M.aJ n).2.2.2.2.2.2.2.2.1
def M.uQ n:=(M.aJ n).2.2.2.2.2.2.2.2.2.1
def M.jO n:=(M.aJ n).2.2.2.2.2.2.2.2.2.2.1
def M.qG n:=(M.aJ n).2.2.2.2.2.2.2.2.2.2.2.1
def M.oG n:=(M.aJ n).2.2.2.2.2.2.2.2.2.2.2.2.1
def M.qH n:=(M.aJ n).2.2.2.2.2.2.2.2.2.2.2.2.2.1
def M.lT n:=(M.aJ n).2.2.2.2.2.2.2.2.2.2.2.2.2.2.1
def M.jP n:=(M.aJ n).2.2.2.2.2.2.2.2.2.2.2.2.2.2.2.1
def M.sJ n:=(M.aJ n).2.2.2.2.2.2.2.2.2.2.2.2.2.2.2.2.1
def M.qI n:=(M.aJ n).2.2.2.2.2.2.2.2.2.2.2.2.2.2.2.2.2.1
def M.wI n:=(M.aJ n).2.2.2.2.2.2.2.2.2.2.2.2.2.2.2.2.2.2.1
def M.pz n:=(M.aJ n).2.2.2.2.2.2.2.2.2.2.2.2.2.2.2.2.2.2.2
def M.RX(n:Nat):M.gQ (n+1)=λr' nS c c1 c2 c3=>M.o9 (M.pz n) (M.gQ n) r' nS c c1 c2 c3 some:=rfl
def M.abV(n:Nat):M.kS (n+1)=λr' nS c c1 c2 c3=>M.qp (M.gQ n) r' nS c c1 c2 c3 some:=rfl
def M.U7(n:Nat):M.jm (n+1)=λshut c c1 c2 c3=>M.rO (M.kS n) shut c c1 c2 c3 some:=rfl
def M.Yp(n:Nat):M.uP (n+1)=λc c1 c2 c3=>M.pX (M.jm n) c c1 c2 c3 some:=rfl
def M.PZ(n:Nat):M.ou (n+1)=λc c1 c2 c3=>M.oh (M.uP n) (M.jm n) (M.gQ n) c c1 c2 c3 some:=rfl
def M.Tc(n:Nat):M.lZ (n+1)=λc c1 c2 c3=>M.qw (M.ou n) (M.pq n) (M.lZ n) c c1 c2 c3 some:=rfl
def M.aaG(n:Nat):M.Dj (n+1)=λc c1 c2 c3=>M.sF (M.lZ n) (M.uP n) c c1 c2 c3 some:=rfl
def M.aaH(n:Nat):M.pq (n+1)=λc c1 c2 c3=>M.sG (M.Dj n) c c1 c2 c3 some:=rfl
def M.U8(n:Nat):M.rV (n+1)=λc c1 c2 c3=>M.rQ (M.pq n) (M.lZ n) c c1 c2 c3 some:=rfl
def M.V3(n:Nat):M.uQ (n+1)=λr' nS c c1 c2 c3=>M.uH (M.rV n) (M.jO n) r' nS c c1 c2 c3 some:=rfl
def M.Td(n:Nat):M.jO (n+1)=λr' nS c c1 c2 c3=>M.qx (M.uQ n) (M.jO n) r' nS c c1 c2 c3 some:=rfl
def M.V4(n:Nat):M.qG (n+1)=λr' nS c c1 c2 c3=>M.uI (M.jO n) r' nS c c1 c2 c3 some:=rfl
def M.V5(n:Nat):M.oG (n+1)=λr' nS c c1 c2 c3=>M.uJ (M.qG n) r' nS c c1 c2 c3 some:=rfl
def M.V6(n:Nat):M.qH (n+1)=λr' nS c c1 c2 c3=>M.uK (M.oG n) r' nS c c1 c2 c3 some:=rfl
def M.P5(n:Nat):M.lT (n+1)=λr' nS c c1 c2 c3=>M.oq (M.qH n) r' nS c c1 c2 c3 some:=rfl
def M.Tf(n:Nat):M.jP (n+1)=λr' nS c c1 c2 c3=>M.qy (M.lT n) r' nS c c1 c2 c3 some:=rfl
def M.XB(n:Nat):M.sJ (n+1)=λr' nS c c1 c2 c3=>M.wF (M.jm n) (M.jP n) r' nS c c1 c2 c3 some:=rfl
def M.V7(n:Nat):M.qI (n+1)=λr' nS c c1 c2 c3=>M.uO (M.sJ n) r' nS c c1 c2 c3 some:=rfl
def M.XC(n:Nat):M.wI (n+1)=λr' nS c c1 c2 c3=>M.wH (M.qI n) r' nS c c1 c2 c3 some:=rfl
def M.U9(n:Nat):M.pz (n+1)=λr' nS c c1 c2 c3=>M.rU (M.wI n) (M.pz n) r' nS c c1 c2 c3 some:=rfl
def M.bD r' nS c c1 c2 c3:=lim λn=>M.gQ n r' nS c c1 c2 c3
def M.iK r' nS c c1 c2 c3:=lim λn=>M.kS n r' nS c c1 c2 c3
def M.iV shut c c1 c2 c3:=lim λn=>M.jm n shut c c1 c2 c3
def M.kN c c1 c2 c3:=lim λn=>M.ou n c c1 c2 c3
def M.ji c c1 c2 c3:=lim λn=>M.lZ n c c1 c2 c3
def M.kG c c1 c2 c3:=lim λn=>M.pq n c c1 c2 c3
def M.nT c c1 c2 c3:=lim λn=>M.rV n c c1 c2 c3
def M.pG r' nS c c1 c2 c3:=lim λn=>M.uQ n r' nS c c1 c2 c3
def M.jC r' nS c c1 c2 c3:=lim λn=>M.jO n r' nS c c1 c2 c3
def M.nO r' nS c c1 c2 c3:=lim λn=>M.qG n r' nS c c1 c2 c3
def M.jG r' nS c c1 c2 c3:=lim λn=>M.oG n r' nS c c1 c2 c3
def M.pJ r' nS c c1 c2 c3:=lim λn=>M.qH n r' nS c c1 c2 c3
def M.kP r' nS c c1 c2 c3:=lim λn=>M.lT n r' nS c c1 c2 c3
def M.lq r' nS c c1 c2 c3:=lim λn=>M.jP n r' nS c c1 c2 c3
def M.oW r' nS c c1 c2 c3:=lim λn=>M.sJ n r' nS c c1 c2 c3
def M.nP r' nS c c1 c2 c3:=lim λn=>M.qI n r' nS c c1 c2 c3
def M.qQ r' nS c c1 c2 c3:=lim λn=>M.wI n r' nS c c1 c2 c3
def M.mJ r' nS c c1 c2 c3:=lim λn=>M.pz n r' nS c c1 c2 c3
def C.aJ:∀n,(S.bD.ok X0 λx=>zbB (M.gQ n x.1.2.1.1 x.1.2.1.2.1) x.2.1)/\(S.iK.ok X0 λx=>zbB (M.kS n x.1.2.1.1 x.1.2.1.2.1) x.2.1)/\(S.iV.ok X0 λx=>zbB (M.jm n x.1.2.1) x.2.1)/\(S.Cc.ok X0 λx=>zbB (M.uP n) x.2.1)/\(S.kN.ok X0 λx=>zbB (M.ou n) x.2.1)/\(S.ji.ok X0 λx=>zbB (M.lZ n) x.2.1)/\(S.MO.ok X0 λx=>zbB (M.Dj n) x.2.1)/\(S.kG.ok X0 λx=>zbB (M.pq n) x.2.1)/\(S.nT.ok X0 λx=>zbB (M.rV n) x.2.1)/\(S.pG.ok X0 λx=>zbB (M.uQ n x.1.2.1.1 x.1.2.1.2.1) x.2.1)/\(S.jC.ok X0 λx=>zbB (M.jO n x.1.2.1.1 x.1.2.1.2.1) x.2.1)/\(S.nO.ok X0 λx=>zbB (M.qG n x.1.2.1.1 x.1.2.1.2.1) x.2.1)/\(S.jG.ok X0 λx=>zbB (M.oG n x.1.2.1.1 x.1.2.1.2.1) x.2.1)/\(S.pJ.ok X0 λx=>zbB (M.qH n x.1.2.1.1 x.1.2.1.2.1) x.2.1)/\(S.kP.ok X0 λx=>zbB (M.lT n x.1.2.1.1 x.1.2.1.2.1) x.2.1)/\(S.lq.ok X0 λx=>zbB (M.jP n x.1.2.1.1 x.1.2.1.2.1) x.2.1)/\(S.oW.ok X0 λx=>zbB (M.sJ n x.1.2.1.1 x.1.2.1.2.1) x.2.1)/\(S.nP.ok X0 λx=>zbB (M.qI n x.1.2.1.1 x.1.2.1.2.1) x.2.1)/\(S.qQ.ok X0 λx=>zbB (M.wI n x.1.2.1.1 x.1.2.1.2.1) x.2.1)/\(S.mJ.ok X0 λx=>zbB (M.pz n x.1.2.1.1 x.1.2.1.2.1) x.2.1)
 |0=>⟨fD.zero,fD.zero,fD.zero,fD.zero,fD.zero,fD.zero,fD.zero,fD.zero,fD.zero,fD.zero,fD.zero,fD.zero,fD.zero,fD.zero,fD.zero,fD.zero,fD.zero,fD.zero,fD.zero,fD.zero⟩
 |n+1=>have h:=C.aJ n;⟨C.Zm h.2.2.2.2.2.2.2.2.2.2.2.2.2.2.2.2.2.2.2 h.1,C.ZY h.1,C.abR h.2.1,C.Xu h.2.2.1,C.Yn h.2.2.2.1 h.2.2.1 h.1,C.aag h.2.2.2.2.1 h.2.2.2.2.2.2.2.1 h.2.2.2.2.2.1,C.Zj h.2.2.2.2.2.1 h.2.2.2.1,C.Zk h.2.2.2.2.2.2.1,C.abT h.2.2.2.2.2.2.2.1 h.2.2.2.2.2.1,C.aeg h.2.2.2.2.2.2.2.2.1 h.2.2.2.2.2.2.2.2.2.2.1,C.aaq h.2.2.2.2.2.2.2.2.2.1 h.2.2.2.2.2.2.2.2.2.2.1,C.aei h.2.2.2.2.2.2.2.2.2.2.1,C.aej h.2.2.2.2.2.2.2.2.2.2.2.1,C.aek h.2.2.2.2.2.2.2.2.2.2.2.2.1,C.Yo h.2.2.2.2.2.2.2.2.2.2.2.2.2.1,C.aaw h.2.2.2.2.2.2.2.2.2.2.2.2.2.2.1,C.aft h.2.2.1 h.2.2.2.2.2.2.2.2.2.2.2.2.2.2.2.1,C.ael h.2.2.2.2.2.2.2.2.2.2.2.2.2.2.2.2.1,C.afu h.2.2.2.2.2.2.2.2.2.2.2.2.2.2.2.2.2.1,C.abU h.2.2.2.2.2.2.2.2.2.2.2.2.2.2.2.2.2.2.1 h.2.2.2.2.2.2.2.2.2.2.2.2.2.2.2.2.2.2.2⟩
def C.bD:S.bD.ok X0 λx=>zbB (M.bD x.1.2.1.1 x.1.2.1.2.1) x.2.1:=fD.lim λn=>(C.aJ n).1
def M.P6{n:Nat}{r' nS:Bool}{c:ay}{c1:Int}{c2:Bool}{c3:ay}{r:Int×Int×aC×aC×Bool×ay×Bool×ay×Int×Bool×ay}(h:M.gQ n r' nS c c1 c2 c3=some r):M.bD r' nS c c1 c2 c3=some r:=fD.FV (λn=>(C.aJ n).1) (by intro a b h;simp[S.bD,sg] at h;first|exact h|simp[Prod.ext_iff,h]) (x:=(((),(r',nS,()),()),((c,c1,c2,c3,()),()))) h
def C.iK:S.iK.ok X0 λx=>zbB (M.iK x.1.2.1.1 x.1.2.1.2.1) x.2.1:=fD.lim λn=>(C.aJ n).2.1
def M.aaI{n:Nat}{r' nS:Bool}{c:ay}{c1:Int}{c2:Bool}{c3:ay}{r:Bool×ay×ay×Int×Bool×ay}(h:M.kS n r' nS c c1 c2 c3=some r):M.iK r' nS c c1 c2 c3=some r:=fD.FV (λn=>(C.aJ n).2.1) (by intro a b h;simp[S.iK,sg] at h;first|exact h|simp[Prod.ext_iff,h]) (x:=(((),(r',nS,()),()),((c,c1,c2,c3,()),()))) h
def C.iV:S.iV.ok X0 λx=>zbB (M.iV x.1.2.1) x.2.1:=fD.lim λn=>(C.aJ n).2.2.1
def M.abW{n:Nat}{shut:Int}{c:ay}{c1:Int}{c2:Bool}{c3:ay}{r:Bool×ay×ay×Int×Bool×ay}(h:M.jm n shut c c1 c2 c3=some r):M.iV shut c c1 c2 c3=some r:=fD.FV (λn=>(C.aJ n).2.2.1) (by intro a b h;simp[S.iV,sg] at h;first|exact h|simp[Prod.ext_iff,h]) (x:=(((),shut,()),((c,c1,c2,c3,()),()))) h
def C.kN:S.kN.ok X0 λx=>zbB M.kN x.2.1:=fD.lim λn=>(C.aJ n).2.2.2.2.1
def C.ji:S.ji.ok X0 λx=>zbB M.ji x.2.1:=fD.lim λn=>(C.aJ n).2.2.2.2.2.1
def C.kG:S.kG.ok X0 λx=>zbB M.kG x.2.1:=fD.lim λn=>(C.aJ n).2.2.2.2.2.2.2.1
def C.nT:S.nT.ok X0 λx=>zbB M.nT x.2.1:=fD.lim λn=>(C.aJ n).2.2.2.2.2.2.2.2.1
def C.pG:S.pG.ok X0 λx=>zbB (M.pG x.1.2.1.1 x.1.2.1.2.1) x.2.1:=fD.lim λn=>(C.aJ n).2.2.2.2.2.2.2.2.2.1
def C.jC:S.jC.ok X0 λx=>zbB (M.jC x.1.2.1.1 x.1.2.1.2.1) x.2.1:=fD.lim λn=>(C.aJ n).2.2.2.2.2.2.2.2.2.2.1
def C.nO:S.nO.ok X0 λx=>zbB (M.nO x.1.2.1.1 x.1.2.1.2.1) x.2.1:=fD.lim λn=>(C.aJ n).2.2.2.2.2.2.2.2.2.2.2.1
def C.jG:S.jG.ok X0 λx=>zbB (M.jG x.1.2.1.1 x.1.2.1.2.1) x.2.1:=fD.lim λn=>(C.aJ n).2.2.2.2.2.2.2.2.2.2.2.2.1
def M.aem{n:Nat}{r' nS:Bool}{c:ay}{c1:Int}{c2:Bool}{c3:ay}{r:Int×Int×aC×aC×Bool×ay×Bool×ay×Int×Bool×ay}(h:M.oG n r' nS c c1 c2 c3=some r):M.jG r' nS c c1 c2 c3=some r:=fD.FV (λn=>(C.aJ n).2.2.2.2.2.2.2.2.2.2.2.2.1) (by intro a b h;simp[S.jG,sg] at h;first|exact h|simp[Prod.ext_iff,h]) (x:=(((),(r',nS,()),()),((c,c1,c2,c3,()),()))) h
def C.pJ:S.pJ.ok X0 λx=>zbB (M.pJ x.1.2.1.1 x.1.2.1.2.1) x.2.1:=fD.lim λn=>(C.aJ n).2.2.2.2.2.2.2.2.2.2.2.2.2.1
def C.kP:S.kP.ok X0 λx=>zbB (M.kP x.1.2.1.1 x.1.2.1.2.1) x.2.1:=fD.lim λn=>(C.aJ n).2.2.2.2.2.2.2.2.2.2.2.2.2.2.1
def C.lq:S.lq.ok X0 λx=>zbB (M.lq x.1.2.1.1 x.1.2.1.2.1) x.2.1:=fD.lim λn=>(C.aJ n).2.2.2.2.2.2.2.2.2.2.2.2.2.2.2.1
def C.oW:S.oW.ok X0 λx=>zbB (M.oW x.1.2.1.1 x.1.2.1.2.1) x.2.1:=fD.lim λn=>(C.aJ n).2.2.2.2.2.2.2.2.2.2.2.2.2.2.2.2.1
def C.nP:S.nP.ok X0 λx=>zbB (M.nP x.1.2.1.1 x.1.2.1.2.1) x.2.1:=fD.lim λn=>(C.aJ n).2.2.2.2.2.2.2.2.2.2.2.2.2.2.2.2.2.1
def C.qQ:S.qQ.ok X0 λx=>zbB (M.qQ x.1.2.1.1 x.1.2.1.2.1) x.2.1:=fD.lim λn=>(C.aJ n).2.2.2.2.2.2.2.2.2.2.2.2.2.2.2.2.2.2.1
def C.mJ:S.mJ.ok X0 λx=>zbB (M.mJ x.1.2.1.1 x.1.2.1.2.1) x.2.1:=fD.lim λn=>(C.aJ n).2.2.2.2.2.2.2.2.2.2.2.2.2.2.2.2.2.2.2
abbrev M.sK(c:ay)(c1:Int)(c2:Bool)(c3:ay)(k:Int×Int×aC×aC×Bool×ay×ay×Int×Bool×ay->Option R):=cond (aj c3) ((M.aI 32 c c1 c2 c3).bind λb=>cond (aj b.2.2.2.2) ((M.bD false false b.2.1 b.2.2.1 b.2.2.2.1 b.2.2.2.2).bind λa=>cond (aj a.2.2.2.2.2.2.2.2.2.2) ((M.aI 33 a.2.2.2.2.2.2.2.1 a.2.2.2.2.2.2.2.2.1 a.2.2.2.2.2.2.2.2.2.1 a.2.2.2.2.2.2.2.2.2.2).bind λd=>cond (aj d.2.2.2.2) (k (a.1,a.2.1,a.2.2.1,a.2.2.2.1,false,aB a.2.2.2.2.2.1,d.2)) none) none) none) none
def M.gU c c1 c2 c3:=M.sK c c1 c2 c3 some
def C.gU:=fTa S.gU (λx=>zbB M.sK x.2.1) [fe C.aI,fe C.bD]
def M.rW(je:zac)(bH:zac)(c:ay)(c1:Int)(c2:Bool)(c3:ay)(k:Int×Int×aC×aC×Bool×ay×ay×Int×Bool×ay->Option R):=cond (aj c3) ((M.aK c c1 c2 c3).bind λb=>cond b.2.2.1 (cond (aj b.2.2.2) (k (0,0,[],[],true,[],b)) none) (cond (aj b.2.2.2) ((M.aA b.1 b.2.1 b.2.2.1 b.2.2.2).bind λa=>cond (a.1==30) (cond (aj a.2.2.2.2) ((je a.2.1 a.2.2.1 a.2.2.2.1 a.2.2.2.2).bind λe=>cond (aj e.2.2.2.2.2.2.2.2.2) (k (e.1,e.2.1,e.2.2.1,e.2.2.2.1,false,aB e.2.2.2.2.2.1,e.2.2.2.2.2.2)) none) none) (cond (aj a.2.2.2.2) ((M.dL a.2.1 a.2.2.1 a.2.2.2.1 a.2.2.2.2).bind λg=>(aja 5 [D.sl g.1 5 g.2.1] 0).bind λh=>cond (aj g.2.2.2.2.2) ((M.aA g.2.2.1 g.2.2.2.1 g.2.2.2.2.1 g.2.2.2.2.2).bind λd=>cond (d.1==37) (cond (aj d.2.2.2.2) (k (33,0,[],[],true,h,d.2.1,i64.wrap (d.2.2.1+1),d.2.2.2)) none) (cond (aj d.2.2.2.2) ((bH d.2.1 d.2.2.1 d.2.2.2.1 d.2.2.2.2).bind λf=>nI h [[D.int .i64 f.1,D.int .i64 f.2.1,D.str f.2.2.1,D.str f.2.2.2.1,D.sl false 5 (aB f.2.2.2.2.2.1)]] 72 λi=>cond (aj f.2.2.2.2.2.2.2.2.2) (k (33,0,[],[],true,i,f.2.2.2.2.2.2)) none) none)) none) none)) none)) none
def C.abX{je:zac}{bH:zac}(KG:S.bQ.ok X0 λx=>je x.2.1.1 x.2.1.2.1 x.2.1.2.2.1 x.2.1.va.1)(sN:S.vJ.ok X0 λx=>bH x.2.1.1 x.2.1.2.1 x.2.1.2.2.1 x.2.1.va.1):S.ED.ok X0 λx=>M.rW je bH x.2.1.1 x.2.1.2.1 x.2.1.2.2.1 x.2.1.va.1 some:=fnS (λx=>zbB (M.rW je bH) x.2.1) [fe C.aK,fe C.aA,fe KG,fe C.dL,fe sN] [] (by intros;simp only[zbB,M.rW,nI];exact zbC)
def M.sO(aZ:zac)(c:ay)(c1:Int)(c2:Bool)(c3:ay)(k:Int×Int×aC×aC×Bool×ay×ay×Int×Bool×ay->Option R):=cond (aj c3) ((M.gU c c1 c2 c3).bind λb=>cond (aj b.2.2.2.2.2.2.2.2.2) ((aZ b.2.2.2.2.2.2.1 b.2.2.2.2.2.2.2.1 b.2.2.2.2.2.2.2.2.1 b.2.2.2.2.2.2.2.2.2).bind λa=>cond (aj a.2.2.2.2.2.2.2.2.2) ((M.bG a.2.2.2.2.2.2.1 a.2.2.2.2.2.2.2.1 a.2.2.2.2.2.2.2.2.1 a.2.2.2.2.2.2.2.2.2).bind λf=>cond f.2.2.1 (cond (!f.2.2.1) (cond (decide (0<=(↑a.2.2.2.2.2.2.2.2.2.length:Int)) && decide ((↑a.2.2.2.2.2.2.2.2.2.length:Int)<=(↑f.2.2.2.length:Int))) (cond (aj (List.take (↑a.2.2.2.2.2.2.2.2.2.length:Int).toNat f.2.2.2)) (k (28,0,[],[],true,[[D.int .i64 b.1,D.int .i64 b.2.1,D.str b.2.2.1,D.str b.2.2.2.1,D.sl false 5 (aB b.2.2.2.2.2.1)],[D.int .i64 a.1,D.int .i64 a.2.1,D.str a.2.2.1,D.str a.2.2.2.1,D.sl false 5 (aB a.2.2.2.2.2.1)]],f.1,a.2.2.2.2.2.2.2.1,f.2.2.1,List.take (↑a.2.2.2.2.2.2.2.2.2.length:Int).toNat f.2.2.2)) none) none) (cond (aj f.2.2.2) (k (28,0,[],[],true,[[D.int .i64 b.1,D.int .i64 b.2.1,D.str b.2.2.1,D.str b.2.2.2.1,D.sl false 5 (aB b.2.2.2.2.2.1)],[D.int .i64 a.1,D.int .i64 a.2.1,D.str a.2.2.1,D.str a.2.2.2.1,D.sl false 5 (aB a.2.2.2.2.2.1)]],f)) none)) (cond (aj f.2.2.2) ((M.aA f.1 f.2.1 f.2.2.1 f.2.2.2).bind λe=>cond (e.1 !=14) (cond (!e.2.2.2.1) (cond (decide (0<=(↑a.2.2.2.2.2.2.2.2.2.length:Int)) && decide ((↑a.2.2.2.2.2.2.2.2.2.length:Int)<=(↑e.2.2.2.2.length:Int))) (cond (aj (List.take (↑a.2.2.2.2.2.2.2.2.2.length:Int).toNat e.2.2.2.2)) (k (28,0,[],[],true,[[D.int .i64 b.1,D.int .i64 b.2.1,D.str b.2.2.1,D.str b.2.2.2.1,D.sl false 5 (aB b.2.2.2.2.2.1)],[D.int .i64 a.1,D.int .i64 a.2.1,D.str a.2.2.1,D.str a.2.2.2.1,D.sl false 5 (aB a.2.2.2.2.2.1)]],e.2.1,a.2.2.2.2.2.2.2.1,e.2.2.2.1,List.take (↑a.2.2.2.2.2.2.2.2.2.length:Int).toNat e.2.2.2.2)) none) none) (cond (aj e.2.2.2.2) (k (28,0,[],[],true,[[D.int .i64 b.1,D.int .i64 b.2.1,D.str b.2.2.1,D.str b.2.2.2.1,D.sl false 5 (aB b.2.2.2.2.2.1)],[D.int .i64 a.1,D.int .i64 a.2.1,D.str a.2.2.1,D.str a.2.2.2.1,D.sl false 5 (aB a.2.2.2.2.2.1)]],e.2)) none)) (cond (aj e.2.2.2.2) ((aZ e.2.1 (i64.wrap (e.2.2.1+1)) e.2.2.2.1 e.2.2.2.2).bind λd=>cond (aj d.2.2.2.2.2.2.2.2.2) (k (28,0,[],[],true,[[D.int .i64 b.1,D.int .i64 b.2.1,D.str b.2.2.1,D.str b.2.2.2.1,D.sl false 5 (aB b.2.2.2.2.2.1)],[D.int .i64 a.1,D.int .i64 a.2.1,D.str a.2.2.1,D.str a.2.2.2.1,D.sl false 5 (aB a.2.2.2.2.2.1)]]++[[D.int .i64 d.1,D.int .i64 d.2.1,D.str d.2.2.1,D.str d.2.2.2.1,D.sl false 5 (aB d.2.2.2.2.2.1)]],d.2.2.2.2.2.2)) none) none)) none)) none) none) none
def C.Zn{aZ:zac}(AO:S.ED.ok X0 λx=>aZ x.2.1.1 x.2.1.2.1 x.2.1.2.2.1 x.2.1.va.1):S.MP.ok X0 λx=>M.sO aZ x.2.1.1 x.2.1.2.1 x.2.1.2.2.1 x.2.1.va.1 some:=fnS (λx=>zbB (M.sO aZ) x.2.1) [fe C.gU,fe AO,fe C.bG,fe C.aA] [] (by intros;unfold M.sO;exact zbC)
abbrev M.MG(kind:Int)(k:Bool->Option R):=cond (kind==0) (k true) (cond (kind==1) (k true) (cond (kind==2) (k true) (cond (kind==37) (k true) (k (kind==31)))))
def M.kQ kind:=M.MG kind some
def C.kQ:=fTa S.kQ (λx=>M.MG x.1.1)
abbrev M.Gp(c:ay)(c1:Int)(c2:Bool)(c3:ay)(k:ay×Int×Bool×ay->Option R):=cond (aj c3) ((M.aA c c1 c2 c3).bind λa=>(M.kQ a.1).bind λb=>cond (!b) (cond (aj a.2.2.2.2) (k (a.2.1,a.2.2.1,true,a.2.2.2.2)) none) (cond (aj a.2.2.2.2) (k (a.2)) none)) none
def M.iW c c1 c2 c3:=M.Gp c c1 c2 c3 some
def C.iW:=fTa S.iW (λx=>zbB M.Gp x.2.1) [fe C.aA,fe C.kQ]
abbrev M.zi(end':Int)(r' nS:Bool)(c:ay)(c1:Int)(c2:Bool)(c3:ay)(k:Int×Int×aC×aC×Bool×ay×ay×Int×Bool×ay->Option R):=cond (aj c3) ((M.aA c c1 c2 c3).bind λa=>cond (a.1==end') (cond (aj a.2.2.2.2) (k (16,0,[],[],true,[],a.2)) none) (cond (aj a.2.2.2.2) ((M.bD r' nS a.2.1 a.2.2.1 a.2.2.2.1 a.2.2.2.2).bind λb=>cond (aj b.2.2.2.2.2.2.2.2.2.2) (k (b.1,b.2.1,b.2.2.1,b.2.2.2.1,false,aB b.2.2.2.2.2.1,b.2.2.2.2.2.2.2)) none) none)) none
def M.eu end' r' nS c c1 c2 c3:=M.zi end' r' nS c c1 c2 c3 some
def C.eu:=fTa S.eu (λx=>zbB (M.zi x.1.2.1 x.1.2.2.1.1 x.1.2.2.1.2.1) x.2.1) [fe C.aA,fe C.bD]
abbrev M.uT(Y2:Int×Int×aC×aC×Bool×ay×ay×Int×Bool×ay)(aZ:zac)(k:Int×Int×aC×aC×Bool×ay×ay×Int×Bool×ay->Option R):=cond (aj Y2.2.2.2.2.2.2.2.2.2) ((M.aI 37 Y2.2.2.2.2.2.2.1 Y2.2.2.2.2.2.2.2.1 Y2.2.2.2.2.2.2.2.2.1 Y2.2.2.2.2.2.2.2.2.2).bind λd=>cond (aj d.2.2.2.2) ((M.aK d.2.1 d.2.2.1 d.2.2.2.1 d.2.2.2.2).bind λf=>cond (aj f.2.2.2) ((M.eu 37 false false f.1 f.2.1 f.2.2.1 f.2.2.2).bind λa=>cond (aj a.2.2.2.2.2.2.2.2.2) ((M.aI 37 a.2.2.2.2.2.2.1 a.2.2.2.2.2.2.2.1 a.2.2.2.2.2.2.2.2.1 a.2.2.2.2.2.2.2.2.2).bind λh=>cond (aj h.2.2.2.2) ((M.aK h.2.1 h.2.2.1 h.2.2.2.1 h.2.2.2.2).bind λg=>cond (aj g.2.2.2) ((M.eu 33 false false g.1 g.2.1 g.2.2.1 g.2.2.2).bind λb=>cond (aj b.2.2.2.2.2.2.2.2.2) ((M.aI 33 b.2.2.2.2.2.2.1 b.2.2.2.2.2.2.2.1 b.2.2.2.2.2.2.2.2.1 b.2.2.2.2.2.2.2.2.2).bind λe=>cond (aj e.2.2.2.2) ((aZ e.2.1 e.2.2.1 e.2.2.2.1 e.2.2.2.2).bind λc=>cond (aj c.2.2.2.2.2.2.2.2.2) (k (31,0,[],[],true,[[D.int .i64 Y2.1,D.int .i64 Y2.2.1,D.str Y2.2.2.1,D.str Y2.2.2.2.1,D.sl false 5 (aB Y2.2.2.2.2.2.1)],[D.int .i64 a.1,D.int .i64 a.2.1,D.str a.2.2.1,D.str a.2.2.2.1,D.sl false 5 (aB a.2.2.2.2.2.1)],[D.int .i64 b.1,D.int .i64 b.2.1,D.str b.2.2.1,D.str b.2.2.2.1,D.sl false 5 (aB b.2.2.2.2.2.1)],[D.int .i64 c.1,D.int .i64 c.2.1,D.str c.2.2.1,D.str c.2.2.2.1,D.sl false 5 (aB c.2.2.2.2.2.1)]],c.2.2.2.2.2.2)) none) none) none) none) none) none) none) none) none
def M.wJ(aZ:zac)(c:ay)(c1:Int)(c2:Bool)(c3:ay)(k:Int×Int×aC×aC×Bool×ay×ay×Int×Bool×ay->Option R):=cond (aj c3) ((M.aI 32 c c1 c2 c3).bind λb=>cond (!b.2.2.2.1) (cond (aj b.2.2.2.2) ((M.aA b.2.1 b.2.2.1 b.2.2.2.1 b.2.2.2.2).bind λa=>cond (a.1==6) (cond (decide (i64.wrap (a.2.2.1+1)<(↑a.2.1.length:Int))) ((idx a.2.1 (i64.wrap (a.2.2.1+1))).bind λj=>(jR .i64 j 0).bind λl=>cond (l==24) (cond (aj a.2.2.2.2) ((M.aY a.2.1 a.2.2.1 a.2.2.2.1 a.2.2.2.2).bind λe=>cond (aj e.2.2.2.2) ((M.aI 24 e.2.1 e.2.2.1 e.2.2.2.1 e.2.2.2.2).bind λg=>cond (aj g.2.2.2.2) ((M.aY g.2.1 g.2.2.1 g.2.2.2.1 g.2.2.2.2).bind λf=>cond (aj f.2.2.2.2) ((M.aI 33 f.2.1 f.2.2.1 f.2.2.2.1 f.2.2.2.2).bind λh=>cond (aj h.2.2.2.2) ((aZ h.2.1 h.2.2.1 h.2.2.2.1 h.2.2.2.2).bind λd=>cond (aj d.2.2.2.2.2.2.2.2.2) (k (32,0,e.1,f.1,true,[[D.int .i64 d.1,D.int .i64 d.2.1,D.str d.2.2.1,D.str d.2.2.2.1,D.sl false 5 (aB d.2.2.2.2.2.1)]],d.2.2.2.2.2.2)) none) none) none) none) none) none) (cond (aj a.2.2.2.2) ((M.eu 37 true false a.2.1 a.2.2.1 a.2.2.2.1 a.2.2.2.2).bind λo=>M.uT o aZ k) none)) (cond (aj a.2.2.2.2) ((M.eu 37 true false a.2.1 a.2.2.1 a.2.2.2.1 a.2.2.2.2).bind λn=>M.uT n aZ k) none)) (cond (aj a.2.2.2.2) ((M.eu 37 true false a.2.1 a.2.2.1 a.2.2.2.1 a.2.2.2.2).bind λi=>M.uT i aZ k) none)) none) (cond (aj b.2.2.2.2) ((M.eu 37 true false b.2.1 b.2.2.1 b.2.2.2.1 b.2.2.2.2).bind λm=>M.uT m aZ k) none)) none
def C.abY{aZ:zac}(AO:S.ED.ok X0 λx=>aZ x.2.1.1 x.2.1.2.1 x.2.1.2.2.1 x.2.1.va.1):S.Qo.ok X0 λx=>M.wJ aZ x.2.1.1 x.2.1.2.1 x.2.1.2.2.1 x.2.1.va.1 some:=fnS (λx=>zbB (M.wJ aZ) x.2.1) [fe C.aI,fe C.aA,fe C.aY,fe AO,fe C.eu,fe C.aK] [] (by intros;unfold M.wJ M.uT;exact zbC)
abbrev M.Ug(kind:Int)(k:Bool->Option R):=cond (kind==62) (k true) (cond (kind==53) (k true) (k (kind==64)))
def M.DK kind:=M.Ug kind some
def C.DK:=fTa S.DK (λx=>M.Ug x.1.1)
abbrev M.aO(XD:Int×Int×aC×aC×Bool×ay×Bool×ay×Int×Bool×ay)(k:Int×Int×aC×aC×Bool×ay×Bool×ay×Int×Bool×ay->Option R):=cond (aj XD.2.2.2.2.2.2.2.2.2.2) (k (XD.1,XD.2.1,XD.2.2.1,XD.2.2.2.1,false,aB XD.2.2.2.2.2.1,XD.2.2.2.2.2.2)) none
def M.Em(pos:Int)(pos1 pos2 Si aJm:Bool)(c:ay)(c1:Int)(c2:Bool)(c3:ay)(k:Int×Int×aC×aC×Bool×ay×Bool×ay×Int×Bool×ay->Option R):=cond aJm (cond (aj c3) ((M.aA c c1 c2 c3).bind λa=>(M.lF a.1).bind λJ=>cond (!J) (cond (aj a.2.2.2.2) ((M.jl a.2.1 a.2.2.1 a.2.2.2.1 a.2.2.2.2).bind λT=>M.aO T k) none) (cond (pos==1) (cond (aj a.2.2.2.2) ((M.bD pos2 Si a.2.1 a.2.2.1 a.2.2.2.1 a.2.2.2.2).bind λt=>M.aO t k) none) (cond (pos==2) (cond (aj a.2.2.2.2) ((M.mJ pos2 Si a.2.1 a.2.2.1 a.2.2.2.1 a.2.2.2.2).bind λv=>M.aO v k) none) (cond (pos==3) (cond (aj a.2.2.2.2) ((M.qQ pos2 Si a.2.1 a.2.2.1 a.2.2.2.1 a.2.2.2.2).bind λB=>M.aO B k) none) (cond (pos==4) (cond (aj a.2.2.2.2) ((M.nP pos2 Si a.2.1 a.2.2.1 a.2.2.2.1 a.2.2.2.2).bind λe=>M.aO e k) none) (cond (pos==5) (cond (aj a.2.2.2.2) ((M.oW pos2 Si a.2.1 a.2.2.1 a.2.2.2.1 a.2.2.2.2).bind λC=>M.aO C k) none) (cond (pos==6) (cond (aj a.2.2.2.2) ((M.lq pos2 Si a.2.1 a.2.2.1 a.2.2.2.1 a.2.2.2.2).bind λu=>M.aO u k) none) (cond (pos==7) (cond (aj a.2.2.2.2) ((M.kP pos2 Si a.2.1 a.2.2.1 a.2.2.2.1 a.2.2.2.2).bind λD=>M.aO D k) none) (cond (pos==8) (cond (aj a.2.2.2.2) ((M.pJ pos2 Si a.2.1 a.2.2.1 a.2.2.2.1 a.2.2.2.2).bind λH=>M.aO H k) none) (cond (pos==9) (cond (aj a.2.2.2.2) ((M.jG pos2 Si a.2.1 a.2.2.1 a.2.2.2.1 a.2.2.2.2).bind λn=>M.aO n k) none) (cond (pos==10) (cond (aj a.2.2.2.2) ((M.nO pos2 Si a.2.1 a.2.2.1 a.2.2.2.1 a.2.2.2.2).bind λL=>M.aO L k) none) (cond (pos==11) (cond (aj a.2.2.2.2) ((M.jC pos2 Si a.2.1 a.2.2.1 a.2.2.2.1 a.2.2.2.2).bind λw=>M.aO w k) none) (cond (pos==12) (cond (aj a.2.2.2.2) ((M.pG pos2 Si a.2.1 a.2.2.1 a.2.2.2.1 a.2.2.2.2).bind λz=>M.aO z k) none) (cond (pos==13) (cond (aj a.2.2.2.2) ((M.nT a.2.1 a.2.2.1 a.2.2.2.1 a.2.2.2.2).bind λQ=>M.aO Q k) none) (cond (pos==14) (cond pos1 (cond (aj a.2.2.2.2) ((M.aA a.2.1 a.2.2.1 a.2.2.2.1 a.2.2.2.2).bind λd=>(M.qE d.1).bind λy=>cond y (cond (aj d.2.2.2.2) ((M.kG d.2.1 d.2.2.1 d.2.2.2.1 d.2.2.2.2).bind λx=>M.aO x k) none) (cond (aj d.2.2.2.2) ((M.ji d.2.1 d.2.2.1 d.2.2.2.1 d.2.2.2.2).bind λg=>M.aO g k) none)) none) (cond (aj a.2.2.2.2) ((M.ji a.2.1 a.2.2.1 a.2.2.2.1 a.2.2.2.2).bind λr=>M.aO r k) none)) (cond (aj a.2.2.2.2) ((M.kN a.2.1 a.2.2.1 a.2.2.2.1 a.2.2.2.2).bind λG=>M.aO G k) none)))))))))))))))) none) (cond (pos==1) (cond (aj c3) ((M.bD pos2 Si c c1 c2 c3).bind λE=>M.aO E k) none) (cond (pos==2) (cond (aj c3) ((M.mJ pos2 Si c c1 c2 c3).bind λf=>M.aO f k) none) (cond (pos==3) (cond (aj c3) ((M.qQ pos2 Si c c1 c2 c3).bind λN=>M.aO N k) none) (cond (pos==4) (cond (aj c3) ((M.nP pos2 Si c c1 c2 c3).bind λO=>M.aO O k) none) (cond (pos==5) (cond (aj c3) ((M.oW pos2 Si c c1 c2 c3).bind λj=>M.aO j k) none) (cond (pos==6) (cond (aj c3) ((M.lq pos2 Si c c1 c2 c3).bind λP=>M.aO P k) none) (cond (pos==7) (cond (aj c3) ((M.kP pos2 Si c c1 c2 c3).bind λp=>M.aO p k) none) (cond (pos==8) (cond (aj c3) ((M.pJ pos2 Si c c1 c2 c3).bind λl=>M.aO l k) none) (cond (pos==9) (cond (aj c3) ((M.jG pos2 Si c c1 c2 c3).bind λI=>M.aO I k) none) (cond (pos==10) (cond (aj c3) ((M.nO pos2 Si c c1 c2 c3).bind λK=>M.aO K k) none) (cond (pos==11) (cond (aj c3) ((M.jC pos2 Si c c1 c2 c3).bind λm=>M.aO m k) none) (cond (pos==12) (cond (aj c3) ((M.pG pos2 Si c c1 c2 c3).bind λo=>M.aO o k) none) (cond (pos==13) (cond (aj c3) ((M.nT c c1 c2 c3).bind λh=>M.aO h k) none) (cond (pos==14) (cond pos1 (cond (aj c3) ((M.aA c c1 c2 c3).bind λb=>(M.qE b.1).bind λF=>cond F (cond (aj b.2.2.2.2) ((M.kG b.2.1 b.2.2.1 b.2.2.2.1 b.2.2.2.2).bind λi=>M.aO i k) none) (cond (aj b.2.2.2.2) ((M.ji b.2.1 b.2.2.1 b.2.2.2.1 b.2.2.2.2).bind λq=>M.aO q k) none)) none) (cond (aj c3) ((M.ji c c1 c2 c3).bind λs=>M.aO s k) none)) (cond (aj c3) ((M.kN c c1 c2 c3).bind λA=>M.aO A k) none)))))))))))))))
def M.jZ pos pos1 pos2 Si aJm c c1 c2 c3:=M.Em pos pos1 pos2 Si aJm c c1 c2 c3 some
def C.jZ:S.jZ.ok X0 λx=>oJ M.jZ x.1.2.1 x.2.1.1 x.2.1.2.1 x.2.1.2.2.1 x.2.1.va.1:=fnS (λx=>zbB (M.Em x.1.2.1.1 x.1.2.1.2.1 x.1.2.1.2.2.1 x.1.2.1.va.1 x.1.2.1.va.2.1) x.2.1) [fe C.aA,fe C.lF,fe C.jl,fe C.bD,fe C.mJ,fe C.qQ,fe C.nP,fe C.oW,fe C.lq,fe C.kP,fe C.pJ,fe C.jG,fe C.nO,fe C.jC,fe C.pG,fe C.nT,fe C.qE,fe C.kG,fe C.ji,fe C.kN] [] (by intros;unfold M.Em M.aO;exact zbC)
abbrev M.xW(Pj:Int×ay×Int×Bool×ay)(k:Int×Int×aC×aC×Bool×ay×ay×Int×Bool×ay->Option R)(kind:Int):=cond (!Pj.2.2.2.1) (cond (aj Pj.2.2.2.2) ((M.aA Pj.2.1 Pj.2.2.1 Pj.2.2.2.1 Pj.2.2.2.2).bind λa=>(M.DK a.1).bind λd=>cond d (cond (aj a.2.2.2.2) ((M.eU a.2.1 a.2.2.1 a.2.2.2.1 a.2.2.2.2).bind λc=>cond (aj c.2.2.2.2) ((M.jZ 9 false false false false c.2.1 c.2.2.1 c.2.2.2.1 c.2.2.2.2).bind λb=>cond (aj b.2.2.2.2.2.2.2.2.2.2) (k (21,i64.wrap (kind - 25),[],c.1,true,[[D.int .i64 b.1,D.int .i64 b.2.1,D.str b.2.2.1,D.str b.2.2.2.1,D.sl false 5 (aB b.2.2.2.2.2.1)]],b.2.2.2.2.2.2.2)) none) none) none) (cond (aj a.2.2.2.2) (k (21,i64.wrap (kind - 25),[],[],true,[],a.2)) none)) none) (cond (aj Pj.2.2.2.2) (k (21,i64.wrap (kind - 25),[],[],true,[],Pj.2)) none)
abbrev M.xX(Va:Bool×ay×ay×Int×Bool×ay)(k:Int×Int×aC×aC×Bool×ay×ay×Int×Bool×ay->Option R)(kind:Int):=(aja 5 [D.sl Va.1 5 Va.2.1] 0).bind λd=>cond (!Va.2.2.2.2.1) (cond (aj Va.2.2.2.2.2) ((M.aA Va.2.2.1 Va.2.2.2.1 Va.2.2.2.2.1 Va.2.2.2.2.2).bind λa=>(M.DK a.1).bind λe=>cond e (cond (aj a.2.2.2.2) ((M.eU a.2.1 a.2.2.1 a.2.2.2.1 a.2.2.2.2).bind λc=>cond (aj c.2.2.2.2) ((M.jZ 9 false false false false c.2.1 c.2.2.1 c.2.2.2.1 c.2.2.2.2).bind λb=>cond (((d.length+[[D.int .i64 b.1,D.int .i64 b.2.1,D.str b.2.2.1,D.str b.2.2.2.1,D.sl false 5 (aB b.2.2.2.2.2.1)]].length) * 72).ble 140737488355328) (cond ((d.length+[[D.int .i64 b.1,D.int .i64 b.2.1,D.str b.2.2.1,D.str b.2.2.2.1,D.sl false 5 (aB b.2.2.2.2.2.1)]].length).ble 140737488355328) (cond (aj b.2.2.2.2.2.2.2.2.2.2) (k (21,i64.wrap (kind - 25),[],c.1,true,d++[[D.int .i64 b.1,D.int .i64 b.2.1,D.str b.2.2.1,D.str b.2.2.2.1,D.sl false 5 (aB b.2.2.2.2.2.1)]],b.2.2.2.2.2.2.2)) none) none) none) none) none) (cond (aj a.2.2.2.2) (k (21,i64.wrap (kind - 25),[],[],true,d,a.2)) none)) none) (cond (aj Va.2.2.2.2.2) (k (21,i64.wrap (kind - 25),[],[],true,d,Va.2.2)) none)
def M.zk(kind:Int)(c:ay)(c1:Int)(c2:Bool)(c3:ay)(k:Int×Int×aC×aC×Bool×ay×ay×Int×Bool×ay->Option R):=cond (i64.wrap (kind - 25)==1) (cond (aj c3) ((M.iK false true c c1 c2 c3).bind λg=>M.xX g k kind) none) (cond (aj c3) ((M.aA c c1 c2 c3).bind λa=>(M.kQ a.1).bind λe=>cond (!e) (cond (aj a.2.2.2.2) ((M.aA a.2.1 a.2.2.1 a.2.2.2.1 a.2.2.2.2).bind λb=>(M.DK b.1).bind λf=>cond (!f) (cond (aj b.2.2.2.2) ((M.iK false true b.2.1 b.2.2.1 b.2.2.2.1 b.2.2.2.2).bind λd=>M.xX d k kind) none) (M.xW b k kind)) none) (M.xW a k kind)) none)
def M.mZ kind c c1 c2 c3:=M.zk kind c c1 c2 c3 some
def C.mZ:S.mZ.ok X0 λx=>zbB (M.mZ x.1.2.1) x.2.1:=fnS (λx=>zbB (M.zk x.1.2.1) x.2.1) [fe C.iK,fe C.aA,fe C.DK,fe C.eU,fe C.jZ,fe C.kQ] [] (by intros;unfold M.zk M.xX M.xW;exact zbC)
abbrev M.vK(fB:Int×ay×Int×Bool×ay)(k:Int×Int×aC×aC×Bool×ay×ay×Int×Bool×ay->Option R):=cond (aj fB.2.2.2.2) ((M.mZ fB.1 fB.2.1 (i64.wrap (fB.2.2.1+1)) fB.2.2.2.1 fB.2.2.2.2).bind λa=>cond (aj a.2.2.2.2.2.2.2.2.2) (k (a.1,a.2.1,a.2.2.1,a.2.2.2.1,false,aB a.2.2.2.2.2.1,a.2.2.2.2.2.2)) none) none
abbrev M.vM(fB:Int×ay×Int×Bool×ay)(k:Int×Int×aC×aC×Bool×ay×ay×Int×Bool×ay->Option R):=cond (aj fB.2.2.2.2) ((M.aA fB.2.1 (i64.wrap (fB.2.2.1+1)) fB.2.2.2.1 fB.2.2.2.2).bind λa=>(M.kQ a.1).bind λc=>cond (!c) (cond (aj a.2.2.2.2) ((M.bD false false a.2.1 a.2.2.1 a.2.2.2.1 a.2.2.2.2).bind λb=>cond (aj b.2.2.2.2.2.2.2.2.2.2) (k (24,0,[],[],true,[[D.int .i64 b.1,D.int .i64 b.2.1,D.str b.2.2.1,D.str b.2.2.2.1,D.sl false 5 (aB b.2.2.2.2.2.1)]],b.2.2.2.2.2.2.2)) none) none) (cond (aj a.2.2.2.2) (k (24,0,[],[],true,[],a.2)) none)) none
abbrev M.vN(fB:Int×ay×Int×Bool×ay)(k:Int×Int×aC×aC×Bool×ay×ay×Int×Bool×ay->Option R):=cond (aj fB.2.2.2.2) ((M.aA fB.2.1 (i64.wrap (fB.2.2.1+1)) fB.2.2.2.1 fB.2.2.2.2).bind λa=>(M.kQ a.1).bind λc=>cond (!c) (cond (aj a.2.2.2.2) ((M.bD false false a.2.1 a.2.2.1 a.2.2.2.1 a.2.2.2.2).bind λb=>cond (aj b.2.2.2.2.2.2.2.2.2.2) (k (23,0,[],[],true,[[D.int .i64 b.1,D.int .i64 b.2.1,D.str b.2.2.1,D.str b.2.2.2.1,D.sl false 5 (aB b.2.2.2.2.2.1)]],b.2.2.2.2.2.2.2)) none) none) (cond (aj a.2.2.2.2) (k (23,0,[],[],true,[],a.2)) none)) none
abbrev M.vO(fB:Int×ay×Int×Bool×ay)(k:Int×Int×aC×aC×Bool×ay×ay×Int×Bool×ay->Option R):=cond (aj fB.2.2.2.2) ((M.aA fB.2.1 (i64.wrap (fB.2.2.1+1)) fB.2.2.2.1 fB.2.2.2.2).bind λa=>(M.kQ a.1).bind λc=>cond (!c) (cond (aj a.2.2.2.2) ((M.bD false false a.2.1 a.2.2.1 a.2.2.2.1 a.2.2.2.2).bind λb=>cond (aj b.2.2.2.2.2.2.2.2.2.2) (k (26,0,[],[],true,[[D.int .i64 b.1,D.int .i64 b.2.1,D.str b.2.2.1,D.str b.2.2.2.1,D.sl false 5 (aB b.2.2.2.2.2.1)]],b.2.2.2.2.2.2.2)) none) none) (cond (aj a.2.2.2.2) (k (26,0,[],[],true,[],a.2)) none)) none
abbrev M.vP(fB:Int×ay×Int×Bool×ay)(k:Int×Int×aC×aC×Bool×ay×ay×Int×Bool×ay->Option R):=cond (aj fB.2.2.2.2) ((M.aA fB.2.1 (i64.wrap (fB.2.2.1+1)) fB.2.2.2.1 fB.2.2.2.2).bind λa=>(M.kQ a.1).bind λc=>cond (!c) (cond (aj a.2.2.2.2) ((M.bD false false a.2.1 a.2.2.1 a.2.2.2.1 a.2.2.2.2).bind λb=>cond (aj b.2.2.2.2.2.2.2.2.2.2) (k (25,0,[],[],true,[[D.int .i64 b.1,D.int .i64 b.2.1,D.str b.2.2.1,D.str b.2.2.2.1,D.sl false 5 (aB b.2.2.2.2.2.1)]],b.2.2.2.2.2.2.2)) none) none) (cond (aj a.2.2.2.2) (k (25,0,[],[],true,[],a.2)) none)) none
abbrev M.vS(fB:Int×ay×Int×Bool×ay)(k:Int×Int×aC×aC×Bool×ay×ay×Int×Bool×ay->Option R):=cond (aj fB.2.2.2.2) ((M.aA fB.2.1 (i64.wrap (fB.2.2.1+1)) fB.2.2.2.1 fB.2.2.2.2).bind λa=>(M.kQ a.1).bind λc=>cond (!c) (cond (aj a.2.2.2.2) ((M.bD false false a.2.1 a.2.2.1 a.2.2.2.1 a.2.2.2.2).bind λb=>cond (aj b.2.2.2.2.2.2.2.2.2.2) (k (22,0,[],[],true,[[D.int .i64 b.1,D.int .i64 b.2.1,D.str b.2.2.1,D.str b.2.2.2.1,D.sl false 5 (aB b.2.2.2.2.2.1)]],b.2.2.2.2.2.2.2)) none) none) (cond (aj a.2.2.2.2) (k (22,0,[],[],true,[],a.2)) none)) none
def M.xY(c:ay)(c1:Int)(c2:Bool)(c3:ay)(k:Int×Int×aC×aC×Bool×ay×ay×Int×Bool×ay->Option R):=cond (aj c3) ((M.aA c c1 c2 c3).bind λa=>cond (a.1==25) (M.vK a k) (cond (a.1==26) (M.vK a k) (cond (a.1==20) (cond (a.1==21) (M.vS a k) (cond (a.1==22) (M.vS a k) (cond (aj a.2.2.2.2) (k (22,0,[],[],true,[],a.2.1,i64.wrap (a.2.2.1+1),a.2.2.2)) none))) (cond (a.1==18) (cond (a.1==21) (M.vP a k) (cond (a.1==22) (M.vP a k) (cond (aj a.2.2.2.2) (k (25,0,[],[],true,[],a.2.1,i64.wrap (a.2.2.1+1),a.2.2.2)) none))) (cond (a.1==19) (cond (a.1==21) (M.vO a k) (cond (a.1==22) (M.vO a k) (cond (aj a.2.2.2.2) (k (26,0,[],[],true,[],a.2.1,i64.wrap (a.2.2.1+1),a.2.2.2)) none))) (cond (a.1==21) (cond (a.1==21) (M.vN a k) (cond (a.1==22) (M.vN a k) (cond (aj a.2.2.2.2) (k (23,0,[],[],true,[],a.2.1,i64.wrap (a.2.2.1+1),a.2.2.2)) none))) (cond (a.1==22) (cond (a.1==21) (M.vM a k) (cond (a.1==22) (M.vM a k) (cond (aj a.2.2.2.2) (k (24,0,[],[],true,[],a.2.1,i64.wrap (a.2.2.1+1),a.2.2.2)) none))) (cond (a.1==23) (cond (aj a.2.2.2.2) ((M.aY a.2.1 (i64.wrap (a.2.2.1+1)) a.2.2.2.1 a.2.2.2.2).bind λe=>cond (!e.2.2.2.1) (cond (aj e.2.2.2.2) ((M.aA e.2.1 e.2.2.1 e.2.2.2.1 e.2.2.2.2).bind λb=>cond (b.1==34) (cond (aj b.2.2.2.2) ((M.iV 35 b.2.1 (i64.wrap (b.2.2.1+1)) b.2.2.2.1 b.2.2.2.2).bind λf=>cond (aj f.2.2.2.2.2) (k (27,0,e.1,[],false,aB f.2.1,f.2.2)) none) none) (cond (aj b.2.2.2.2) (k (27,0,e.1,[],true,[],b.2)) none)) none) (cond (aj e.2.2.2.2) (k (27,0,e.1,[],true,[],e.2)) none)) none) (cond (aj a.2.2.2.2) ((M.bD false false a.2.1 a.2.2.1 a.2.2.2.1 a.2.2.2.2).bind λd=>cond (aj d.2.2.2.2.2.2.2.2.2.2) (k (20,0,[],[],true,[[D.int .i64 d.1,D.int .i64 d.2.1,D.str d.2.2.1,D.str d.2.2.2.1,D.sl false 5 (aB d.2.2.2.2.2.1)]],d.2.2.2.2.2.2.2)) none) none))))))))) none
def M.lG c c1 c2 c3:=M.xY c c1 c2 c3 some
def C.lG:S.lG.ok X0 λx=>zbB M.lG x.2.1:=fnS (λx=>zbB M.xY x.2.1) [fe C.aA,fe C.mZ,fe C.kQ,fe C.bD,fe C.aY,fe C.iV] [] (by intros;unfold M.xY M.vS M.vP M.vO M.vN M.vM M.vK;exact zbC)
abbrev M.lH(qV:Int×ay×Int×Bool×ay)(jo:zac)(k:Int×Int×aC×aC×Bool×ay×ay×Int×Bool×ay->Option R)(aZ:zac)(jV:zac):=cond (qV.1==13) (cond (aj qV.2.2.2.2) ((jo qV.2.1 (i64.wrap (qV.2.2.1+1)) qV.2.2.2.1 qV.2.2.2.2).bind λd=>cond (aj d.2.2.2.2.2.2.2.2.2) (k (d.1,d.2.1,d.2.2.1,d.2.2.2.1,false,aB d.2.2.2.2.2.1,d.2.2.2.2.2.2)) none) none) (cond (qV.1==15) (cond (aj qV.2.2.2.2) ((M.gU qV.2.1 (i64.wrap (qV.2.2.1+1)) qV.2.2.2.1 qV.2.2.2.2).bind λe=>cond (aj e.2.2.2.2.2.2.2.2.2) ((aZ e.2.2.2.2.2.2.1 e.2.2.2.2.2.2.2.1 e.2.2.2.2.2.2.2.2.1 e.2.2.2.2.2.2.2.2.2).bind λc=>cond (aj c.2.2.2.2.2.2.2.2.2) (k (29,0,[],[],true,[[D.int .i64 e.1,D.int .i64 e.2.1,D.str e.2.2.1,D.str e.2.2.2.1,D.sl false 5 (aB e.2.2.2.2.2.1)],[D.int .i64 c.1,D.int .i64 c.2.1,D.str c.2.2.1,D.str c.2.2.2.1,D.sl false 5 (aB c.2.2.2.2.2.1)]],c.2.2.2.2.2.2)) none) none) none) (cond (qV.1==17) (cond (aj qV.2.2.2.2) ((aZ qV.2.1 (i64.wrap (qV.2.2.1+1)) qV.2.2.2.1 qV.2.2.2.2).bind λf=>cond (aj f.2.2.2.2.2.2.2.2.2) ((M.bG f.2.2.2.2.2.2.1 f.2.2.2.2.2.2.2.1 f.2.2.2.2.2.2.2.2.1 f.2.2.2.2.2.2.2.2.2).bind λh=>cond (aj h.2.2.2) ((M.aI 15 h.1 h.2.1 h.2.2.1 h.2.2.2).bind λi=>cond (aj i.2.2.2.2) ((M.gU i.2.1 i.2.2.1 i.2.2.2.1 i.2.2.2.2).bind λb=>cond (!b.2.2.2.2.2.2.2.2.1) (cond (aj b.2.2.2.2.2.2.2.2.2) ((M.iW b.2.2.2.2.2.2.1 b.2.2.2.2.2.2.2.1 b.2.2.2.2.2.2.2.2.1 b.2.2.2.2.2.2.2.2.2).bind λg=>cond (aj g.2.2.2) (k (30,0,[],[],true,[[D.int .i64 f.1,D.int .i64 f.2.1,D.str f.2.2.1,D.str f.2.2.2.1,D.sl false 5 (aB f.2.2.2.2.2.1)],[D.int .i64 b.1,D.int .i64 b.2.1,D.str b.2.2.1,D.str b.2.2.2.1,D.sl false 5 (aB b.2.2.2.2.2.1)]],g)) none) none) (cond (aj b.2.2.2.2.2.2.2.2.2) (k (30,0,[],[],true,[[D.int .i64 f.1,D.int .i64 f.2.1,D.str f.2.2.1,D.str f.2.2.2.1,D.sl false 5 (aB f.2.2.2.2.2.1)],[D.int .i64 b.1,D.int .i64 b.2.1,D.str b.2.2.1,D.str b.2.2.2.1,D.sl false 5 (aB b.2.2.2.2.2.1)]],b.2.2.2.2.2.2)) none)) none) none) none) none) (cond (aj qV.2.2.2.2) ((jV qV.2.1 (i64.wrap (qV.2.2.1+1)) qV.2.2.2.1 qV.2.2.2.2).bind λa=>cond (aj a.2.2.2.2.2.2.2.2.2) (k (a.1,a.2.1,a.2.2.1,a.2.2.2.1,false,aB a.2.2.2.2.2.1,a.2.2.2.2.2.2)) none) none)))
def M.mQ(je:zac)(jo:zac)(aZ:zac)(jV:zac)(c:ay)(c1:Int)(c2:Bool)(c3:ay)(k:Int×Int×aC×aC×Bool×ay×ay×Int×Bool×ay->Option R):=cond (aj c3) ((M.aA c c1 c2 c3).bind λd=>cond (d.1==30) (cond (aj d.2.2.2.2) ((je d.2.1 d.2.2.1 d.2.2.2.1 d.2.2.2.2).bind λa=>cond (aj a.2.2.2.2.2.2.2.2.2) (k (a.1,a.2.1,a.2.2.1,a.2.2.2.1,false,aB a.2.2.2.2.2.1,a.2.2.2.2.2.2)) none) none) (cond (d.1==13) (M.lH d jo k aZ jV) (cond (d.1==15) (M.lH d jo k aZ jV) (cond (d.1==17) (M.lH d jo k aZ jV) (cond (d.1==16) (M.lH d jo k aZ jV) (cond (aj d.2.2.2.2) ((M.lG d.2.1 d.2.2.1 d.2.2.2.1 d.2.2.2.2).bind λb=>cond (!b.2.2.2.2.2.2.2.2.1) (cond (aj b.2.2.2.2.2.2.2.2.2) ((M.iW b.2.2.2.2.2.2.1 b.2.2.2.2.2.2.2.1 b.2.2.2.2.2.2.2.2.1 b.2.2.2.2.2.2.2.2.2).bind λe=>cond (aj e.2.2.2) (k (b.1,b.2.1,b.2.2.1,b.2.2.2.1,false,aB b.2.2.2.2.2.1,e)) none) none) (cond (aj b.2.2.2.2.2.2.2.2.2) (k (b.1,b.2.1,b.2.2.1,b.2.2.2.1,false,aB b.2.2.2.2.2.1,b.2.2.2.2.2.2)) none)) none)))))) none
def C.WL{je:zac}{jo:zac}{aZ:zac}{jV:zac}(KG:S.bQ.ok X0 λx=>je x.2.1.1 x.2.1.2.1 x.2.1.2.2.1 x.2.1.va.1)(aaZ:S.MP.ok X0 λx=>jo x.2.1.1 x.2.1.2.1 x.2.1.2.2.1 x.2.1.va.1)(AO:S.ED.ok X0 λx=>aZ x.2.1.1 x.2.1.2.1 x.2.1.2.2.1 x.2.1.va.1)(aen:S.Qo.ok X0 λx=>jV x.2.1.1 x.2.1.2.1 x.2.1.2.2.1 x.2.1.va.1):S.vJ.ok X0 λx=>M.mQ je jo aZ jV x.2.1.1 x.2.1.2.1 x.2.1.2.2.1 x.2.1.va.1 some:=fnS (λx=>zbB (M.mQ je jo aZ jV) x.2.1) [fe C.aA,fe KG,fe aaZ,fe C.gU,fe AO,fe C.bG,fe C.aI,fe C.iW,fe aen,fe C.lG] [] (by intros;unfold M.mQ M.lH;exact zbC)
end
end Go.Proofs.YtephpnbbbimjbaaGreatDoor
