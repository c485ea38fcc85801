import Derived.Test.YtflhkdjglihbmaaGreatDoorXLex
import Derived.Shelf.Small.Strs
import Derived.Shelf.Strings.Search1
import Derived.Shelf.Strings.Search2
import Derived.Shelf.Strings.Search3
import Derived.Shelf.LaysM
import Derived.Shelf.Strings.Shaped
import Derived.Test.YtflhkdjglihbmaaGreatDoorProg
import Derived.Test.YtflhkdjglihbmaaGreatDoorRows
set_option linter.defProp false
set_option linter.unusedVariables false
set_option linter.unusedSimpArgs false
set_option linter.unusedSectionVars false
open Go.IntKind (i64)
namespace Go.Proofs.YtflhkdjglihbmaaGreatDoor
open Go Go.Vm
open Int (reduceLE reduceLT reduceSub reduceAdd)
def aml(s:aC)(i:Nat)(k e:Int):Option zaw:=bif decide (e<0) then none else some (k,sub s i e.toNat)
def asG(s:aC)(i:Nat):Option zaw:=bif Jc (sub s i (OI s i)) then some (aik s (sub s i (OI s i)) (OI s i),sub s i (OI s i)) else none
def opT(s:aC)(i:Nat):Option zaw:=bif opK s i==0 then none else some (opK s i,sub s i (i+opN s i))
def ad1(s:aC)(i:Nat):Option zaw:=bif isL (qh s i) then asG s i else opT s i
def FD(s:aC)(i:Nat)(bf:Int):Option zaw:=
 bif qh s i==10 then some (1,[10]) else bif qh s i==35 then some (2,sub s i (abM s i)) else bif isD (qh s i) then aml s i 3 (Wj s i) else bif qh s i==46 then aml s i 3 (Wj s i) else
 bif qh s i==34 then aml s i 4 (quoted s i 34) else bif qh s i==47 then(bif !(XH bf) then aml s i 5 (XA s i) else ad1 s i) else ad1 s i
def auH(i j:Int):Option zaw->Int×aC×Int
 |none=>(0,[],j)
 |some p=>(p.1,p.2,i)
def asH(c:UInt8):∀l:aC,(Lib.indexByte l c<0/\(l.takeWhile λx=> !(x==c)).length=l.length)\/Lib.indexByte l c=((l.takeWhile λx=> !(x==c)).length:Int)
 |[]=> .inl ⟨by rw[Lib.indexByte];omega,rfl⟩
 |b::l=>by
  have ih:=asH c l;rw[Lib.indexByte,List.takeWhile_cons];cases hb:b==c with
  |true=>right;simp
  |false=>
   simp only[Bool.not_false,if_true,Bool.false_eq_true,if_false,GX];have hge:=Lib.indexByte_ge l c;rcases ih with⟨h1,h2⟩|h
   ·left;have:Lib.indexByte l c= -1:=ak;rw[this,h2];exact⟨by decide,rfl⟩
   ·right;rw[h];have:((((l.takeWhile λx=> !(x==c)).length:Nat):Int)== -1)=false:=Rf.2 ak;rw[this];simp
section
variable {s:aC} (hs:s.length<=1048576) {i:Nat} (hi:i<s.length) (bf:Int)
include hs hi
omit hs hi in
theorem ab6{k e:Int}{j:Int}(h:e<0\/((i:Int)<e/\e<=s.length)):(bif decide (e<0) then some ((0:Int),([]:aC),j) else(cut s (i:Int) e).bind λw=>some (k,w,(i:Int)))=some (auH i j (aml s i k e)):=by
 unfold aml;rcases h with h|⟨h1,h2⟩
 ·rw[zdt h,aH,aH];rfl
 ·rw[xK ak,bC,bC];obtain⟨n,rfl⟩:=Int.eq_ofNat_of_zero_le (show 0<=e by omega);rw[JO ak ak,ah,ztn];rfl
theorem axU:((M.mQ (qh s i)).bind λr=>bif r then(M.Au s (i:Int)).bind λe=>(cut s (i:Int) e).bind λw=>(M.qx w).bind λq=>bif q then(M.vW s (i:Int) e).bind λt=>some (t.fst,t.snd.fst,t.snd.snd) else some (0,[],0)
  else(M.Ld s (i:Int)).bind λr=>bif r.fst==0 then some (0,[],0) else bif decide (i64.wrap ((i:Int)+r.snd)<0) then some (0,[],0) else(cut s (i:Int) (i64.wrap ((i:Int)+r.snd))).bind λw=>some (r.fst,w,(i:Int)))=some (auH i 0 (ad1 s i)):=by
 unfold ad1;rw[(O6 _).2,ah];cases hL:isL (qh s i) with
 |true=>
  have hw:=apt (Nat.le_of_lt hi);have hle:i<=OI s i:=by unfold OI;omega
  have hne:=(alo hs (Nat.le_of_lt hi) hL).2;have hwd:=(awd hs hle hw).2;have hns:=(Y8 (sub s i (OI s i)) (by rw[Vq hle hw];omega)).2;simp only[aH,hne,ah,JO hle hw,hns,hwd,asG];cases Jc (sub s i (OI s i))<;>rfl
 |false=>
  have hop:=apw s i hi ak;have hln:=auG (Nat.le_of_lt hi);have hw:i64.wrap ((i:Int)+(opN s i:Int))=((i+opN s i:Nat):Int):=by rw[aJ ak ak];omega
  simp only[bC,hop,ah,hw,opT];rw[xK ak,JO ak hln];cases opK s i==0<;>rfl
theorem axV:((M.mP (qh s i)).bind λr=>bif r then(M.Az s (i:Int)).bind λe=>(M.Eb s (i:Int) e).bind λt=>(M.qp t.snd.fst).bind λq=>bif !q then some (0,[],(i:Int)) else some (t.fst,t.snd.fst,t.snd.snd)
  else(M.zn s (i:Int)).bind λr=>bif r.snd==0 then some (0,[],(i:Int)) else bif decide (i64.wrap ((i:Int)+r.snd)<0) then some (0,[],(i:Int)) else(cut s (i:Int) (i64.wrap ((i:Int)+r.snd))).bind λw=>some (r.fst,w,(i:Int)))=some (auH i i (ad1 s i)):=by
 unfold ad1;rw[(O6 _).1,ah];cases hL:isL (qh s i) with
 |true=>
  have hw:=apt (Nat.le_of_lt hi);have hle:i<=OI s i:=by unfold OI;omega
  have hne:=(alo hs (Nat.le_of_lt hi) hL).1;have hwd:=(awd hs hle hw).1;have hns:=(Y8 (sub s i (OI s i)) (by rw[Vq hle hw];omega)).1;simp only[aH,hne,ah,hns,hwd,asG];cases Jc (sub s i (OI s i))<;>rfl
 |false=>
  have hop:=apx s i hi ak;have hln:=auG (Nat.le_of_lt hi);have hz:=awc s i;have hw:i64.wrap ((i:Int)+(opN s i:Int))=((i+opN s i:Nat):Int):=by rw[aJ ak ak];omega
  simp only[bC,hop,ah,hw,opT];rw[xK ak,JO ak hln];rcases hz with⟨h1,h2⟩|⟨h1,h2⟩
  ·rw[h1,h2];rfl
  ·have e1:(opK s i==0)=false:=Rf.2 ak;have e2:((opN s i:Int)==0)=false:=Rf.2 ak;rw[e1,e2];rfl
theorem auI:M.Aw s (i:Int) bf=some (auH i 0 (FD s i bf)):=by
 obtain⟨c,hc⟩:∃c,s[i]? =some c:=⟨s[i],by simp[hi]⟩
 have hb:qh s (i:Int)=(c.toNat:Int):=by rw[Ip,hc]
 have hR:=axU hs hi;have hw1:i64.wrap ((i:Int)+1)=((i+1:Nat):Int):=by rw[aJ ak ak];omega
 have hnum:=abA hs (i:Int) ak;have hstr:=(ahb hs (i:Int) ak ak).2;have here:=(ahc hs (i:Int) ak ak).2;have c3:=ab6 (s:=s) (i:=i) (j:=0) (k:=3) (Vr hs hi);have c4:=ab6 (s:=s) (i:=i) (j:=0) (k:=4) (Vs (q:=34) hi);have c5:=ab6 (s:=s) (i:=i) (j:=0) (k:=5) (ahn hi);simp only[M.Aw,M.Qr,M.Oi,cO,hc,ah,af8,<-hb,akL,hnum,hstr,here,(abN bf).2,c3,c4,c5];unfold FD;cases h10:qh s i==10 with
 |true=>
  have a08:c=10:=by rw[hb,beq_iff_eq] at h10;have h9:c.toNat=10:=ak;exact UInt8.toNat_inj.1 (by rw[h9];rfl)
  rw[aH,aH,hw1,xK ak,bC,JO ak ak,ah,sub,show i+1 - i=1 by omega,List.drop_eq_getElem_cons hi,(QV.1 hc).2,a08];rfl
 |false=>
 rw[bC,bC];cases h35:qh s i==35 with
 |true=>
  have hcl:=apu (Nat.le_of_lt hi);have hix:M.strings_IndexByte (s.drop i) 10=some (Lib.indexByte (s.drop i) 10):=rfl;rw[aH,aH,JO (Nat.le_of_lt hi) (zaV _),ah,aps,hix,ah];rcases asH 10 (s.drop i) with⟨h1,h2⟩|h1
  ·rw[xK ak,bC,ah];have:abM s i=s.length:=by unfold abM;rw[h2,List.length_drop];omega
   rw[this,aps];rfl
  ·have hce:((i:Int)+Lib.indexByte (s.drop i) 10)=((abM s i:Nat):Int):=by rw[h1];unfold abM;omega
   rw[hce,h1,zdt ak,aH,aJ ak ak,xK ak,bC,JO (by unfold abM;omega) hcl,ah];rfl
 |false=>
 rw[bC,bC];cases isD (qh s i) with
 |true=>rfl
 |false=>
 rw[bC,bC];cases qh s i==46 with
 |true=>rfl
 |false=>
 rw[bC,bC];cases qh s i==34 with
 |true=>rfl
 |false=>
 rw[bC,bC];cases qh s i==47 with
 |true=>
  rw[aH,aH];cases XH bf with
  |false=>rfl
  |true=>exact hR
 |false=>exact hR
omit hi in
theorem aA6(x y:Int)(a b:aC)(u v w:Int):∀(n j:Nat),s.length - j<=n->j<=s.length->M.xq s x y a u v b w (j:Int)=some ((abM s j:Nat):Int):=by
 intro n;induction n with
 |zero=>
  intro j hn hj;have e:j=s.length:=ak;subst e;rw[M.xq];refine aV ?_;simp only[M.EN,M.zB];rw[xK ak,bC];have:abM s s.length=s.length:=by unfold abM;simp
  rw[this]
 |succ n ih=>
  intro j hn hj
  by_cases hlt:j<s.length
  ·obtain⟨c,hc⟩:∃c,s[j]? =some c:=⟨s[j],by simp[hlt]⟩
   have hst:=an0 hc;have hcc:((c.toNat:Int) !=10)= !(c==10):=by have:=aFQ c 10 ak;simp only[bne];exact congrArg (!·) this
   cases h10:c==10 with
   |true=>rw[h10,aH] at hst;rw[M.xq];refine aV ?_;simp only[M.EN,M.zB,cO,hc,ah,hcc,h10,zaU];rw[zdt ak,aH,bC,hst]
   |false=>
    rw[h10,bC] at hst;have hb:M.EN s x y a u v b w (j:Int)=some (.inl ((j+1:Nat):Int)):=by simp only[M.EN,M.zB,cO,hc,ah,hcc,h10,Bool.not_false];rw[zdt ak,aH,aH,aJ ak ak];rfl
    have:=ih (j+1) ak ak;rw[M.xq] at this;rw[M.xq,bY hb,this,hst]
  ·exact ih j ak hj
theorem axW:M.Ec s (i:Int) (!(XH bf))=some (auH i i (FD s i bf)):=by
 obtain⟨c,hc⟩:∃c,s[i]? =some c:=⟨s[i],by simp[hi]⟩
 have hb:qh s (i:Int)=(c.toNat:Int):=by rw[Ip,hc]
 have hR:=axV hs hi;have hnum:=abB hs (i:Int) ak;have hstr:=(ahb hs (i:Int) ak ak).1;have here:=(ahc hs (i:Int) ak ak).1;have c3:=ab6 (s:=s) (i:=i) (j:=(i:Int)) (k:=3) (Vr hs hi);have c4:=ab6 (s:=s) (i:=i) (j:=(i:Int)) (k:=4) (Vs (q:=34) hi);have c5:=ab6 (s:=s) (i:=i) (j:=(i:Int)) (k:=5) (ahn hi);have hcl:=apu (Nat.le_of_lt hi);have hcm:=aA6 hs (i:Int) 0 [] [] 0 0 (i:Int) _ i (zaV _) (Nat.le_of_lt hi);simp only[M.Ec,M.TK,M.QH,cO,hc,ah,af8,<-hb,akK,hnum,hstr,here,c3,c4,c5,hcm];unfold FD;cases h10:qh s i==10 with
 |true=>rfl
 |false=>
 rw[bC,bC];cases h35:qh s i==35 with
 |true=>rw[aH,aH,xK ak,bC,JO (by unfold abM;omega) hcl,ah];rfl
 |false=>
 rw[bC,bC];cases isD (qh s i) with
 |true=>rfl
 |false=>
 rw[bC,bC];cases qh s i==46 with
 |true=>rfl
 |false=>
 rw[bC,bC];cases qh s i==34 with
 |true=>rfl
 |false=>
 rw[bC,bC];cases qh s i==47 with
 |true=>
  rw[aH,aH];cases XH bf with
  |false=>rfl
  |true=>exact hR
 |false=>exact hR
theorem OJ{k:Int}{w:aC}(h:FD s i bf=some (k,w)):k≠0/\1<=w.length/\i+w.length<=s.length:=by
 obtain⟨c,hc⟩:∃c,s[i]? =some c:=⟨s[i],by simp[hi]⟩
 have hb:qh s (i:Int)=(c.toNat:Int):=by rw[Ip,hc]
 have hE:∀{k' e:Int},k'≠0->(e<0\/((i:Int)<e/\e<=s.length))->aml s i k' e=some (k,w)->k≠0/\1<=w.length/\i+w.length<=s.length:=by
  intro k' e hk he hx;unfold aml at hx;rcases he with he|⟨h1,h2⟩
  ·rw[zdt he] at hx;cases hx
  ·rw[xK ak,bC] at hx;cases hx;rw[Vq ak ak];exact⟨hk,ak,ak⟩
 have hR:ad1 s i=some (k,w)->k≠0/\1<=w.length/\i+w.length<=s.length:=by
  intro hx;unfold ad1 at hx;cases hL:isL (qh s i) with
  |true=>
   rw[hL,aH] at hx;unfold asG at hx;cases hn:Jc (sub s i (OI s i)) with
   |false=>rw[hn] at hx;cases hx
   |true=>
    rw[hn,aH] at hx;cases hx;have hw:=apt (Nat.le_of_lt hi);have hle:i<=OI s i:=by unfold OI;omega
    have hst:=ahm hc;rw[<-hb,show isW (qh s i)=true by unfold isW;rw[hL];rfl,aH] at hst;have:i+1<=OI s i:=by rw[hst];unfold OI;omega
    rw[Vq hle hw];exact⟨aA5 _ _ _,ak,ak⟩
  |false=>
   rw[hL,bC] at hx;unfold opT at hx;cases hz:opK s i==0 with
   |true=>rw[hz] at hx;cases hx
   |false=>rw[hz,bC] at hx;cases hx;rw[Rf] at hz;have h0:=awc s i;have hln:=auG (Nat.le_of_lt hi);rw[Vq ak hln];exact⟨hz,ak,ak⟩
 unfold FD at h;cases h10:qh s i==10 with
 |true=>rw[h10,aH] at h;cases h;exact⟨by decide,by simp,by simp;omega⟩
 |false=>
 rw[h10,bC] at h;cases h35:qh s i==35 with
 |true=>
  rw[h35,aH] at h;cases h;have hcl:=apu (Nat.le_of_lt hi);have hst:=an0 hc;have hn:(c==10)=false:=n10' (by rw[<-hb];rw[Rf] at h10;exact h10);rw[hn,bC] at hst;have:i+1<=abM s i:=by rw[hst];unfold abM;omega
  rw[Vq ak hcl];exact⟨by decide,ak,ak⟩
 |false=>
 rw[h35,bC] at h;cases hD:isD (qh s i) with
 |true=>rw[hD,aH] at h;exact hE (by decide) (Vr hs hi) h
 |false=>
 rw[hD,bC] at h;cases h46:qh s i==46 with
 |true=>rw[h46,aH] at h;exact hE (by decide) (Vr hs hi) h
 |false=>
 rw[h46,bC] at h;cases h34:qh s i==34 with
 |true=>rw[h34,aH] at h;exact hE (by decide) (Vs hi) h
 |false=>
 rw[h34,bC] at h;cases h47:qh s i==47 with
 |true=>
  rw[h47,aH] at h;cases he:XH bf with
  |false=>rw[he,Bool.not_false,aH] at h;exact hE (by decide) (ahn hi) h
  |true=>rw[he,zaU,bC] at h;exact hR h
 |false=>rw[h47,bC] at h;exact hR h
end
def asI(l:List Tk):aj (aF l)=true:=by simp[aj,aF,afy,D.flat]
def WB(s:aC):Nat->Nat->Int->List Tk->List Tk⊕Nat
 |0,_,_,acc=> .inl acc
 |f+1,i,bf,acc=>bif Nat.ble s.length i then .inl acc else bif af9 (qh s i) then WB s f (i+1) bf acc else
  bif qh s i==92 && qh s ((i+1:Nat):Int)==10 then WB s f (i+2) bf acc else
  match FD s i bf with
  |none=> .inr i
  |some p=>WB s f (i+p.2.length) p.1 (acc++[⟨p.1,p.2,(i:Int)⟩])
def auJ(n:Nat)(l:List Tk):Prop:=∀t,t∈l->t.text.length<=n
def auJ.snoc{n:Nat}{l:List Tk}{t:Tk}(h:auJ n l)(ht:t.text.length<=n):auJ n (l++[t]):=by
 intro u hu;rcases List.mem_append.1 hu with hu|hu
 ·exact h u hu
 ·rw[List.mem_singleton] at hu;rw[hu];exact ht
def aja{s:aC}(hs:s.length<=1048576):∀(f i:Nat) (bf:Int) (acc l:List Tk),i<=s.length->acc.length<=i->auJ s.length acc->WB s f i bf acc=.inl l->l.length<=s.length/\auJ s.length l
 |0,i,bf,acc,l,hi,hl,ht,h=>by cases h;exact⟨ak,ht⟩
 |f+1,i,bf,acc,l,hi,hl,ht,h=>by
  rw[WB] at h;cases hb:Nat.ble s.length i with
  |true=>rw[hb,aH] at h;cases h;exact⟨ak,ht⟩
  |false=>
   have hlt:i<s.length:=by
    have:¬(Nat.ble s.length i=true):=by rw[hb];simp
    rw[Nat.ble_eq] at this;omega
   rw[hb,bC] at h;cases h1:af9 (qh s i) with
   |true=>rw[h1,aH] at h;exact aja hs f (i+1) bf acc l ak ak ht h
   |false=>
    rw[h1,bC] at h;cases h2:(qh s i==92 && qh s ((i+1:Nat):Int)==10) with
    |true=>
     rw[h2,aH] at h;have:i+1<s.length:=by
      by_cases hc:i+1<s.length
      ·exact hc
      ·rw[Xm (a:=((i+1:Nat):Int)) ak] at h2;rw[BK] at h2;cases h2.2
     exact aja hs f (i+2) bf acc l ak ak ht h
    |false=>
     rw[h2,bC] at h;cases hk:FD s i bf with
     |none=>rw[hk] at h;cases h
     |some p=>obtain⟨k,w⟩:=p;rw[hk] at h;have hp:=OJ hs hlt bf hk;exact aja hs f _ _ _ l hp.2.2 (by rw[Ai,Jj];have:=hp.2.1;omega) (ht.snoc (by show w.length<=_;omega)) h
section
variable {s:aC} (hs:s.length<=3000)
include hs
theorem awe(x y:Int):∀(f i:Nat) (bf:Int) (acc:List Tk),s.length<i+f->i<=s.length->acc.length<=i->
  match WB s f i bf acc with
  | .inl l=>∃b',M.qQ s x y ((i:Int),bf,aF acc)=some (.inr ((s.length:Int),b',aF l))
  | .inr a=>M.qQ s x y ((i:Int),bf,aF acc)=some (.inl (a:Int))
 |0,i,bf,acc,hf,hi,hl=>absurd hf ak
 |f+1,i,bf,acc,hf,hi,hl=>by
  rw[WB]
  by_cases hlt:i<s.length
  ·have hb:Nat.ble s.length i=false:=by
    cases hb:Nat.ble s.length i with
    |false=>rfl
    |true=>rw[Nat.ble_eq] at hb;omega
   obtain⟨c,hc⟩:∃c,s[i]? =some c:=⟨s[i],by simp[hlt]⟩
   have hbc:qh s (i:Int)=(c.toNat:Int):=by rw[Ip,hc]
   have hw1:i64.wrap ((i:Int)+1)=((i+1:Nat):Int):=by rw[aJ ak ak];omega
   have hw2:i64.wrap ((i:Int)+2)=((i+2:Nat):Int):=by rw[aJ ak ak];omega
   have hby:=λa=>C9 (s:=s) (by omega:s.length<=1048576) a
   have htk:=auI (s:=s) ak hlt bf;have hbody:M.JE s x y ((i:Int),bf,aF acc)=some (bif af9 (qh s i) then .inl (((i+1:Nat):Int),bf,aF acc) else
     bif qh s i==92 && qh s ((i+1:Nat):Int)==10 then .inl (((i+2:Nat):Int),bf,aF acc) else
     match FD s i bf with
     |none=> .inr (.inl (i:Int))
     |some p=> .inl (((i+p.2.length:Nat):Int),p.1,aF (acc++[⟨p.1,p.2,(i:Int)⟩]))):=by
    have tail:((M.Aw s (i:Int) bf).bind λr=>bif r.fst==0 then some (Sum.inr (Sum.inl (i:Int))) else
      bif(((aF acc).length+[[D.int IntKind.i64 r.fst,D.str r.snd.fst,D.int IntKind.i64 r.snd.snd]].length) * 32).ble 140737488355328 then
      bif((aF acc).length+[[D.int IntKind.i64 r.fst,D.str r.snd.fst,D.int IntKind.i64 r.snd.snd]].length).ble 140737488355328 then
       some (Sum.inl (i64.wrap ((i:Int)+(r.snd.fst.length:Int)),r.fst,aF acc++[[D.int IntKind.i64 r.fst,D.str r.snd.fst,D.int IntKind.i64 r.snd.snd]])) else none else none)=
      some (match FD s i bf with
       |none=>(Sum.inr (Sum.inl (i:Int)):(Int×Int×au)⊕(Int⊕(Int×Int×au)))
       |some p=> .inl (((i+p.2.length:Nat):Int),p.1,aF (acc++[⟨p.1,p.2,(i:Int)⟩]))):=by
     rw[htk,ah];cases hk:FD s i bf with
     |none=>rfl
     |some p=>obtain⟨k,w⟩:=p;have hp:=OJ ak hlt bf hk;simp only[auH,eH,GX,OT];rw[Rf.2 hp.1,bC,bI ak,aH,bI ak,aH,aJ ak ak];simp only[aF,List.map_append];rfl
    simp only[M.JE,M.EC,M.CG,cO,hc,ah,af8,<-hbc,(alm _).2,hw1,hw2,hby];rw[zdt ak,aH];cases af9 (qh s i) with
    |true=>rfl
    |false=>
     rw[bC,bC];cases qh s i==92 with
     |true=>
      rw[aH,Bool.true_and];cases qh s ((i+1:Nat):Int)==10 with
      |true=>rfl
      |false=>exact tail
     |false=>exact tail
   rw[hb,bC];cases h1:af9 (qh s i) with
   |true=>rw[h1,aH] at hbody;have:=awe x y f (i+1) bf acc ak ak ak;rw[aH];rw[M.qQ] at this|-;rw[bY hbody];exact this
   |false=>
    rw[h1,bC] at hbody;rw[bC];cases h2:(qh s i==92 && qh s ((i+1:Nat):Int)==10) with
    |true=>
     rw[h2,aH] at hbody;have hlt2:i+1<s.length:=by
      by_cases hcc:i+1<s.length
      ·exact hcc
      ·rw[Xm (a:=((i+1:Nat):Int)) ak] at h2;rw[BK] at h2;cases h2.2
     have:=awe x y f (i+2) bf acc ak ak ak;rw[aH];rw[M.qQ] at this|-;rw[bY hbody];exact this
    |false=>
     rw[h2,bC] at hbody;rw[bC];cases hk:FD s i bf with
     |none=>rw[hk] at hbody;rw[M.qQ];exact aV hbody
     |some p=>obtain⟨k,w⟩:=p;rw[hk] at hbody;have hp:=OJ ak hlt bf hk;have:=awe x y f (i+w.length) k (acc++[⟨k,w,(i:Int)⟩]) ak ak (by rw[Ai,Jj];omega);rw[M.qQ] at this|-;simp only[] at hbody|-;rw[bY hbody];exact this
  ·have hb:Nat.ble s.length i=true:=by rw[Nat.ble_eq];omega
   rw[hb,aH];refine⟨bf, ?_⟩;rw[M.qQ];refine aV ?_;simp only[M.JE,M.EC,M.CG];rw[xK ak,bC,show(i:Int)=(s.length:Int) by omega]
theorem awf(x y:Int):∀(f i:Nat) (bf:Int) (acc:List Tk),s.length<i+f->i<=s.length->acc.length<=i->
  match WB s f i bf acc with
  | .inl l=>∃b',M.BD s x y (bf,(i:Int),aF acc)=some (.inr (b',(s.length:Int),aF l))
  | .inr a=>M.BD s x y (bf,(i:Int),aF acc)=some (.inl (2,(a:Int)))
 |0,i,bf,acc,hf,hi,hl=>absurd hf ak
 |f+1,i,bf,acc,hf,hi,hl=>by
  rw[WB]
  by_cases hlt:i<s.length
  ·have hb:Nat.ble s.length i=false:=by
    cases hb:Nat.ble s.length i with
    |false=>rfl
    |true=>rw[Nat.ble_eq] at hb;omega
   obtain⟨c,hc⟩:∃c,s[i]? =some c:=⟨s[i],by simp[hlt]⟩
   have hbc:qh s (i:Int)=(c.toNat:Int):=by rw[Ip,hc]
   have hw1:i64.wrap ((i:Int)+1)=((i+1:Nat):Int):=by rw[aJ ak ak];omega
   have hw2:i64.wrap ((i:Int)+2)=((i+2:Nat):Int):=by rw[aJ ak ak];omega
   have hby:=λa=>CZ (s:=s) (by omega:s.length<=1048576) a
   have htk:=axW (s:=s) ak hlt bf;have hbody:M.TM s x y (bf,(i:Int),aF acc)=some (bif af9 (qh s i) then .inl (bf,((i+1:Nat):Int),aF acc) else
     bif qh s i==92 && qh s ((i+1:Nat):Int)==10 then .inl (bf,((i+2:Nat):Int),aF acc) else
     match FD s i bf with
     |none=> .inr (.inl (2,(i:Int)))
     |some p=> .inl (p.1,((i+p.2.length:Nat):Int),aF (acc++[⟨p.1,p.2,(i:Int)⟩]))):=by
    have tail:((M.Ec s (i:Int) !(XH bf)).bind λr=>bif r.fst==0 then some (Sum.inr (Sum.inl (2,(i:Int)))) else
      bif((aF acc).length:Int)==3000 then some (Sum.inr (Sum.inl (1,0))) else
      bif(((aF acc).length+[[D.int IntKind.i64 r.fst,D.str r.snd.fst,D.int IntKind.i64 r.snd.snd]].length) * 32).ble 140737488355328 then
      bif((aF acc).length+[[D.int IntKind.i64 r.fst,D.str r.snd.fst,D.int IntKind.i64 r.snd.snd]].length).ble 140737488355328 then
       some (Sum.inl (r.fst,i64.wrap ((i:Int)+(r.snd.fst.length:Int)),aF acc++[[D.int IntKind.i64 r.fst,D.str r.snd.fst,D.int IntKind.i64 r.snd.snd]])) else none else none)=
      some (match FD s i bf with
       |none=>(Sum.inr (Sum.inl (2,(i:Int))):(Int×Int×au)⊕((Int×Int)⊕(Int×Int×au)))
       |some p=> .inl (p.1,((i+p.2.length:Nat):Int),aF (acc++[⟨p.1,p.2,(i:Int)⟩]))):=by
     rw[htk,ah];cases hk:FD s i bf with
     |none=>rfl
     |some p=>obtain⟨k,w⟩:=p;have hp:=OJ ak hlt bf hk;simp only[auH,eH,GX,OT];rw[Rf.2 hp.1,bC,show((acc.length:Int)==3000)=false from Rf.2 ak,bC,bI ak,aH,bI ak,aH,aJ ak ak];simp only[aF,List.map_append];rfl
    simp only[M.TM,M.Nz,M.KE,cO,hc,ah,af8,<-hbc,(alm _).1,hw1,hw2,hby,(abN bf).1];rw[zdt ak,aH];cases af9 (qh s i) with
    |true=>rfl
    |false=>
     rw[bC,bC];cases qh s i==92 with
     |true=>
      rw[aH,Bool.true_and];cases qh s ((i+1:Nat):Int)==10 with
      |true=>rfl
      |false=>exact tail
     |false=>exact tail
   rw[hb,bC];cases h1:af9 (qh s i) with
   |true=>rw[h1,aH] at hbody;have:=awf x y f (i+1) bf acc ak ak ak;rw[aH];rw[M.BD] at this|-;rw[bY hbody];exact this
   |false=>
    rw[h1,bC] at hbody;rw[bC];cases h2:(qh s i==92 && qh s ((i+1:Nat):Int)==10) with
    |true=>
     rw[h2,aH] at hbody;have hlt2:i+1<s.length:=by
      by_cases hcc:i+1<s.length
      ·exact hcc
      ·rw[Xm (a:=((i+1:Nat):Int)) ak] at h2;rw[BK] at h2;cases h2.2
     have:=awf x y f (i+2) bf acc ak ak ak;rw[aH];rw[M.BD] at this|-;rw[bY hbody];exact this
    |false=>
     rw[h2,bC] at hbody;rw[bC];cases hk:FD s i bf with
     |none=>rw[hk] at hbody;rw[M.BD];exact aV hbody
     |some p=>obtain⟨k,w⟩:=p;rw[hk] at hbody;have hp:=OJ ak hlt bf hk;have:=awf x y f (i+w.length) k (acc++[⟨k,w,(i:Int)⟩]) ak ak (by rw[Ai,Jj];omega);rw[M.BD] at this|-;simp only[] at hbody|-;rw[bY hbody];exact this
  ·have hb:Nat.ble s.length i=true:=by rw[Nat.ble_eq];omega
   rw[hb,aH];refine⟨bf, ?_⟩;rw[M.BD];refine aV ?_;simp only[M.TM,M.Nz,M.KE];rw[xK ak,bC,show(i:Int)=(s.length:Int) by omega]
end
def GY(s:aC):List Tk×Int×Int:=if s.length>3000 then([],1,0) else match WB s (s.length+1) 0 0 [] with
 | .inl l=>(l,0,0)
 | .inr a=>([],2,(a:Int))
def aEo(s:aC):(GY s).1.length<=3000/\auJ 3000 (GY s).1:=by
 have h0:auJ 3000 []:=λt h=>by cases h
 unfold GY;split
 ·exact⟨Nat.zero_le _,h0⟩
 ·next hn=>
  cases hx:WB s (s.length+1) 0 0 [] with
  |inr a=>exact⟨Nat.zero_le _,h0⟩
  |inl l=>have:=aja (s:=s) ak _ 0 0 [] l (Nat.zero_le _) (Nat.zero_le _) (λt h=>by cases h) hx;exact⟨by show l.length<=3000;omega,λt ht=>by have:=this.2 t ht;omega⟩
def aA7(s:aC):M.Uf s=some (aF (GY s).1,(GY s).2.1,(GY s).2.2)/\M.Ue s=some (aF (GY s).1,(GY s).2.1,(GY s).2.2):=by
 simp only[M.Uf,M.Y5,M.Ue,M.Y1,M.Hu,M.Qs,GY]
 by_cases h:s.length>3000
 ·rw[if_pos h,zdt ak,aH,aH];exact⟨rfl,rfl⟩
 ·rw[if_neg h,xK ak,bC,bC];have h1:=awe (s:=s) ak 0 0 (s.length+1) 0 0 [] ak ak (by simp);have h2:=awf (s:=s) ak 0 0 (s.length+1) 0 0 [] ak ak (by simp);have e0:aF []=[]:=rfl;rw[e0,ND] at h1 h2;cases hx:WB s (s.length+1) 0 0 [] with
  |inl l=>rw[hx] at h1 h2;obtain⟨b1,h1⟩:=h1;obtain⟨b2,h2⟩:=h2;rw[h1,h2];simp only[ah,kD,letE,asI,aH];refine⟨?_, ?_⟩<;>first|rfl|trivial
  |inr a=>rw[hx] at h1 h2;rw[h1,h2];simp only[ah,kD,letE];refine⟨?_, ?_⟩<;>first|rfl|trivial
def Kd(k:Int):Prop:=0<=k/\k<=100
def aA8:Y6.length=17:=by decide+kernel
def aA9:UD.length=39:=by decide+kernel
def aEp(s:aC):Kd (aiJ s):=by have h:=abC s Y6 0 (by decide);rw[aA8] at h;unfold aiJ Kd;split<;>omega
def aBa(s w:aC)(e:Nat):Kd (aik s w e):=by
 have h:=aEp w;unfold aik;cases aiJ w !=0 with
 |true=>exact h
 |false=>
  cases Xh w with
  |true=>exact show Kd 8 from⟨by decide,by decide⟩
  |false=>
   cases qh s e==40 with
   |true=>exact show Kd 7 from⟨by decide,by decide⟩
   |false=>exact show Kd 6 from⟨by decide,by decide⟩
def auK(s:aC):∀(l:List (aC)) (i:Nat) (k:Int) (m:Nat),0<=k/\k<=30+i+l.length->0<=(opF s l i k m).1/\(opF s l i k m).1<=30+i+l.length
 |[],i,k,m,h=>h
 |g::l,i,k,m,h=>by
  rw[GX] at h|-;rw[opF];cases(Nat.blt m g.length && g.isPrefixOf s) with
  |true=>have:=auK s l (i+1) (30+(i:Int)) g.length ak;rw[aH];omega
  |false=>have:=auK s l (i+1) k m ak;rw[bC];omega
def aIx(s:aC)(i:Nat):Kd (opK s i):=by have:=auK (s.drop i) UD 0 0 0 ak;rw[aA9] at this;unfold opK Kd;omega
def ajb{s:aC}{i:Nat}{k e:Int}{p:Int×aC}(hk:Kd k)(h:aml s i k e=some p):Kd p.1:=by
 unfold aml at h;cases hd:decide (e<0) with
 |true=>rw[hd] at h;cases h
 |false=>rw[hd] at h;cases h;exact hk
def asJ{s:aC}{i:Nat}{p:Int×aC}(h:ad1 s i=some p):Kd p.1:=by
 unfold ad1 asG opT at h;cases hz:isL (qh s i) with
 |true=>
  rw[hz,aH] at h;cases hn:Jc (sub s i (OI s i)) with
  |true=>rw[hn] at h;cases h;exact aBa _ _ _
  |false=>rw[hn] at h;cases h
 |false=>
  rw[hz,bC] at h;cases hn:opK s i==0 with
  |true=>rw[hn] at h;cases h
  |false=>rw[hn] at h;cases h;exact aIx _ _
def axX{s:aC}{i:Nat}{bf:Int}{p:Int×aC}(h:FD s i bf=some p):Kd p.1:=by
 have k3:Kd 3:=⟨by decide,by decide⟩
 have k4:Kd 4:=⟨by decide,by decide⟩
 have k5:Kd 5:=⟨by decide,by decide⟩
 unfold FD at h;cases q1:qh s i==10 with
 |true=>rw[q1] at h;cases h;exact show Kd 1 from⟨by decide,by decide⟩
 |false=>
 rw[q1,bC] at h;cases q2:qh s i==35 with
 |true=>rw[q2] at h;cases h;exact show Kd 2 from⟨by decide,by decide⟩
 |false=>
 rw[q2,bC] at h;cases q3:isD (qh s i) with
 |true=>rw[q3] at h;exact ajb k3 h
 |false=>
 rw[q3,bC] at h;cases q4:qh s i==46 with
 |true=>rw[q4] at h;exact ajb k3 h
 |false=>
 rw[q4,bC] at h;cases q5:qh s i==34 with
 |true=>rw[q5] at h;exact ajb k4 h
 |false=>
 rw[q5,bC] at h;cases q6:qh s i==47 with
 |true=>
  rw[q6,aH] at h;cases hb: !(XH bf) with
  |true=>rw[hb] at h;exact ajb k5 h
  |false=>rw[hb] at h;exact asJ h
 |false=>rw[q6] at h;exact asJ h
def ajc{s:aC}:∀(f i:Nat) (bf:Int) (acc l:List Tk),(∀t,t∈acc->Kd t.kind)->WB s f i bf acc=.inl l->∀t,t∈l->Kd t.kind
 |0,i,bf,acc,l,ha,h=>by rw[WB] at h;cases h;exact ha
 |f+1,i,bf,acc,l,ha,h=>by
  rw[WB] at h;cases hb:Nat.ble s.length i with
  |true=>rw[hb] at h;cases h;exact ha
  |false=>
  rw[hb,bC] at h;cases hc:af9 (qh s i) with
  |true=>rw[hc] at h;exact ajc f _ _ _ _ ha h
  |false=>
  rw[hc,bC] at h;cases hd:(qh s i==92 && qh s ((i+1:Nat):Int)==10) with
  |true=>rw[hd] at h;exact ajc f _ _ _ _ ha h
  |false=>
  rw[hd,bC] at h;cases ht:FD s i bf with
  |none=>rw[ht] at h;cases h
  |some p=>
   rw[ht] at h;refine ajc f _ _ _ _ (λt hm=> ?_) h;rcases List.mem_append.1 hm with hm|hm
   ·exact ha t hm
   ·rw[List.mem_singleton] at hm;rw[hm];exact axX ht
def aEq(s:aC):(∀t,t∈(GY s).1->Kd t.kind)/\((GY s).2.1=0->(GY s).2.2=0):=by
 unfold GY;split
 ·exact⟨λt h=>(by cases h),λh=>(by cases h)⟩
 ·split
  ·next l h=>exact⟨ajc _ _ _ _ _ (λt h=>(by cases h)) h,λ_=>rfl⟩
  ·exact⟨λt h=>(by cases h),λh=>(by cases h)⟩
inductive Fld:Int->Int->aC->aC->Nat->Prop where
 |name {x:aC}:yx x=true->Fld 1 0 x [] 0
 |tok {k:Int} {x:aC}:k=2\/k=3\/k=4->tX (k+1) x=true->Fld k 0 x [] 0
 |index {k:Int} {x:aC} {n:Nat}:k=5\/k=13->yx x=true->1<=n->n<=6->Fld k 0 x [] n
 |call {k:Int} {x:aC} {n:Nat}:k=7\/k=27->yx x=true->n<=6->Fld k 0 x [] n
 |blt {x:aC} {n:Nat}:Xh x=true->n<=6->Fld 8 0 x [] n
 |one {k:Int}:k=6\/k=20\/k=40\/k=41->Fld k 0 [] [] 1
 |step {k op:Int}:k=9\/k=10->op=51\/op=52->Fld k op [] [] 1
 |una {op:Int}:op=55\/op=56\/op=61->Fld 11 op [] [] 1
 |bin {op:Int}:ZC op=true->Fld 12 op [] [] 2
 |cond:Fld 14 0 [] [] 3
 |asg {op:Int}:ZE op=true->Fld 15 op [] [] 2
 |none {k:Int}:k=16\/k=22\/k=25\/k=26->Fld k 0 [] [] 0
 |prn {op:Int} {n:Nat}:op=0\/op=1->op<=n->n<=6->Fld 21 op [] [] n
 |prt {op:Int} {y:aC} {n:Nat}:op=0\/op=1->y=[62]\/y=[62,62]\/y=[124]->op+1<=n->n<=7->Fld 21 op [] y n
 |word {k:Int} {n:Nat}:k=23\/k=24->n<=1->Fld k 0 [] [] n
 |if_ {n:Nat}:n=2\/n=3->Fld 28 0 [] [] n
 |two {k:Int}:k=29\/k=30->Fld k 0 [] [] 2
 |for_:Fld 31 0 [] [] 4
 |aBb {x y:aC}:yx x=true->yx y=true->Fld 32 0 x y 1
 |many {k:Int} {n:Nat}:k=33\/k=45->Fld k 0 [] [] n
 |com {x:aC}:tX 2 x=true->Fld 34 0 x [] 0
 |rule {op:Int} {n:Nat}:((op=1\/op=2)/\n=1)\/(op=3/\n=2)->Fld 42 op [] [] n
 |range {op:Int} {n:Nat}:(op=1/\n=2)\/(op=3/\n=3)->Fld 43 op [] [] n
 |func {x:aC} {n:Nat}:yx x=true->1<=n->n<=7->Fld 44 0 x [] n
mutual
def Zg:Tn->Prop
 | .mk k op x y ks=>Fld k op x y ks.length/\rts k op ks.length ks 0
def rts(k op:Int)(n:Nat):List Tn->Nat->Prop
 |[],_=>True
 |t::ts,j=>Ah (cls k op n j) t.kind/\(Zg t)/\rts k op n ts (j+1)
end
def agb{k op:Int}{n:Nat}:∀{ks:List Tn} {j:Nat},(∀i t,ks[i]? =some t->Ah (cls k op n (j+i)) t.kind/\Zg t)->rts k op n ks j
 |[],_,_=>by rw[rts];trivial
 |t::ts,j,h=>by
  rw[rts];have h0:=h 0 t rfl;refine⟨h0.1,h0.2,agb λi u hu=> ?_⟩;have:=h (i+1) u (by rw[List.getElem?_cons_succ];exact hu)
  rwa [show j+(i+1)=j+1+i by omega] at this
def apy{k op:Int}{n:Nat}:∀{ks:List Tn} {j i:Nat} {t:Tn},rts k op n ks j->ks[i]? =some t->Ah (cls k op n (j+i)) t.kind/\(Zg t)
 |[],_,i,_,_,h=>by simp at h
 |u::ts,j,0,t,h,e=>by rw[rts] at h;cases e;exact⟨h.1,h.2.1⟩
 |u::ts,j,i+1,t,h,e=>by rw[rts] at h;rw[List.getElem?_cons_succ] at e;have:=apy h.2.2 e;rw[show j+1+i=j+(i+1) by omega] at this;exact this
def rxT(t:Tn):Prop:=Zg t/\isE t
def aFZ{k op:Int}{n:Nat}{ks:List Tn}(h:∀t,t∈ks->rxT t)(hc:∀j,cls k op n j=0):rts k op n ks 0:=agb λi t ht=>by have:=h t (UK ht);rw[hc];exact⟨this.2,this.1⟩
def aBd{k:Int}(hk:(1<=k/\k<=8)\/(11<=k/\k<=14)\/(20<=k/\k<=27))(op:Int)(n j:Nat):cls k op n j=0:=by unfold cls;repeat(rw[if_neg ak])
def aiO{k op:Int}{x y:aC}{ks:List Tn}(hk:(1<=k/\k<=8)\/(11<=k/\k<=14))(hf:Fld k op x y ks.length)(h:∀t,t∈ks->rxT t):rxT (.mk k op x y ks):=by refine⟨?_,⟨by show 1<=k;omega,by show k<=15;omega⟩⟩;rw[Zg];exact⟨hf,aFZ h λj=>aBd ak op _ j⟩
def ae5:∀t:Tn,t∈([]:List Tn)->rxT t:=λt h=>by simp at h
def all1{a:Tn}(h:rxT a):∀t:Tn,t∈[a]->rxT t:=λt ht=>by rw[List.mem_singleton] at ht;rw[ht];exact h
def all2{a b:Tn}(h:rxT a)(k:rxT b):∀t:Tn,t∈[a,b]->rxT t:=λt ht=>by simp only[List.mem_cons,List.not_mem_nil,or_false] at ht;rcases ht with rfl|rfl<;>assumption
def a09{a b c:Tn}(h:rxT a)(k:rxT b)(m:rxT c):∀t:Tn,t∈[a,b,c]->rxT t:=λt ht=>by simp only[List.mem_cons,List.not_mem_nil,or_false] at ht;rcases ht with rfl|rfl|rfl<;>assumption
def asK{L:List Tn}{a:Tn}(h:∀t,t∈L->rxT t)(k:rxT a):∀t:Tn,t∈L++[a]->rxT t:=λt ht=>by
 rcases List.mem_append.1 ht with ht|ht
 ·exact h t ht
 ·rw[List.mem_singleton] at ht;rw[ht];exact k
def apz{op:Int}{a b:Tn}(hop:ZC op=true)(ha:rxT a)(hb:rxT b):rxT (.mk 12 op [] [] [a,b]):=aiO ak (.bin hop) (all2 ha hb)
def asL{k:Int}(h:Pj k=true):Ah 6 k:=by unfold Pj at h;simp only[Bool.or_eq_true,beq_iff_eq] at h;exact h
def aIy{op:Int}{a b:Tn}(hop:ZE op=true)(hl:Pj a.kind=true)(ha:rxT a)(hb:rxT b):rxT (.mk 15 op [] [] [a,b]):=by refine⟨?_,⟨by show(1:Int)<=15;omega,by show(15:Int)<=15;omega⟩⟩;rw[Zg];refine⟨.asg hop, ?_⟩;rw[rts,rts,rts];have c0:cls 15 op [a,b].length 0=6:=rfl;have c1:cls 15 op [a,b].length (0+1)=0:=rfl;rw[c0,c1];exact⟨asL hl,ha.1,hb.2,hb.1,trivial⟩
def awg{k op:Int}{a:Tn}(hk:k=9\/k=10)(hop:op=51\/op=52)(hl:Pj a.kind=true)(ha:rxT a):rxT (.mk k op [] [] [a]):=by
 refine⟨?_,⟨by show(1:Int)<=k;omega,by show k<=15;omega⟩⟩;rw[Zg];refine⟨.step hk hop, ?_⟩;rw[rts,rts];have c0:cls k op [a].length 0=6:=by unfold cls;rw[if_pos ak]
 rw[c0];exact⟨asL hl,ha.1,trivial⟩
def asM{op:Int}(h:tZ op≠0):ZC op=true:=by
 by_cases hc:ZC op=true
 ·exact hc
 ·exfalso;apply h;rw[Bool.not_eq_true] at hc;unfold ZC at hc;simp only[Bool.or_eq_false_iff] at hc;obtain⟨⟨⟨⟨⟨⟨⟨⟨⟨⟨⟨⟨⟨⟨⟨⟨h1,h2⟩,h3⟩,h4⟩,h5⟩,h6⟩,h7⟩,h8⟩,h9⟩,h10⟩,h11⟩,h12⟩,h13⟩,h14⟩,h15⟩,h16⟩,h17⟩:=hc;simp only[tZ,h1,h2,h3,h4,h5,h6,h7,h8,h9,h10,h11,h12,h13,h14,h15,h16,h17,Bool.or_self,bC]
def acz(l:List Tk):Prop:=∀t,t∈l->tX t.kind t.text=true
def awh{l:List Tk}(h:acz l){i:Nat}{k:Int}(hk:dX l i=k)(h0:k≠0):tX k (MS l i)=true:=by
 unfold dX at hk;unfold MS;cases ht:l[i]? with
 |none=>rw[ht] at hk;exact absurd hk.symm h0
 |some t=>rw[ht] at hk;simp only at hk|-;rw[<-hk];exact h t (UK ht)
def an2{l:List Tk}(h:acz l){i:Nat}{k:Int}(hk:dX l i=k)(h6:k=6\/k=7):yx (MS l i)=true:=by
 have:=awh h hk ak;unfold tX at this;cases hx:MS l i==[] with
 |true=>rw[hx] at this;cases this
 |false=>rw[hx] at this;rcases h6 with rfl|rfl<;>exact this
def aF0{l:List Tk}(h:acz l){i:Nat}(hk:dX l i=8):Xh (MS l i)=true:=by
 have:=awh h hk ak;unfold tX at this;cases hx:MS l i==[] with
 |true=>rw[hx] at this;cases this
 |false=>rw[hx] at this;exact this
def BJ{op:Int}(h:ZC op=true):tZ op≠0/\op≠61:=by
 have hc:op=60\/op=57\/op=58\/op=59\/op=55\/op=56\/op=99\/op=63\/op=48\/op=47\/op=50\/op=62\/op=49\/op=67\/op=46\/op=45\/op=44:=by simp only[ZC,Bool.or_eq_true,beq_iff_eq] at h;omega
 rcases hc with rfl|rfl|rfl|rfl|rfl|rfl|rfl|rfl|rfl|rfl|rfl|rfl|rfl|rfl|rfl|rfl|rfl<;>decide
def GU{op:Int}(h:ZE op=true):op=54\/(38<=op/\op<=43):=by simp only[ZE,Bool.or_eq_true,BK,beq_iff_eq,decide_eq_true_eq] at h;omega
def bnd{α:Type}{x:Option Bool}{f:Bool->Option α}{r:α}(h:x.bind f=some r):∃b,x=some b/\f b=some r:=by
 cases x with
 |none=>cases h
 |some b=>exact⟨b,rfl,h⟩
def aho(k:Int)(op:Int)(t o:aC)(kids:au)(h:M.aG k op t o kids=some true)(hk:k=1\/k=5\/k=7\/k=13\/k=27\/k=44):Cnt k op o kids.length:=by
 rcases hk with rfl|rfl|rfl|rfl|rfl|rfl
 all_goals
  simp only[M.aG,M.aK,M.bg,M.aT,M.bW,M.bG,M.bn,M.aU,dL,eP,Dc,pq,Int.reduceBEq,reduceLE,reduceLT,reduceSub,reduceAdd,gJ,ah] at h;revert h;cases hn0:M.kL t with
  |none=>cases op==0<;>simp
  |some b0=>_
  all_goals try simp only[Int.reduceBEq,reduceLE,reduceLT,reduceSub,reduceAdd,gJ,ah]
  all_goals(cases ho0:(op==0)<;>cases ht:(t==[])<;>cases hy:(o==[])<;>cases b0<;>simp_all<;>intros<;>constructor<;>intros<;>first|omega|exact BJ ‹_›|exact GU ‹_›|(rw[aJ (n:=op+1) ak ak] at *;omega)|(simp_all<;>omega))
def aS4(op:Int)(t o:aC)(kids:au)(h:M.aG 2 op t o kids=some true):Cnt 2 op o kids.length:=by
 simp only[M.aG,M.aK,M.bg,M.aT,M.bW,M.bG,M.bn,M.aU,dL,eP,Dc,pq,Int.reduceBEq,reduceLE,reduceLT,reduceSub,reduceAdd,gJ,ah] at h;revert h;cases hn0:M.nM 3 t 0 with
 |none=>cases op==0<;>simp
 |some b0=>_
 all_goals try simp only[Int.reduceBEq,reduceLE,reduceLT,reduceSub,reduceAdd,gJ,ah]
 all_goals(cases ho0:(op==0)<;>cases ht:(t==[])<;>cases hy:(o==[])<;>cases b0<;>simp_all<;>intros<;>constructor<;>intros<;>first|omega|exact BJ ‹_›|exact GU ‹_›|(rw[aJ (n:=op+1) ak ak] at *;omega)|(simp_all<;>omega))
def aS5(op:Int)(t o:aC)(kids:au)(h:M.aG 3 op t o kids=some true):Cnt 3 op o kids.length:=by
 simp only[M.aG,M.aK,M.bg,M.aT,M.bW,M.bG,M.bn,M.aU,dL,eP,Dc,pq,Int.reduceBEq,reduceLE,reduceLT,reduceSub,reduceAdd,gJ,ah] at h;revert h;cases hn0:M.nM 4 t 0 with
 |none=>cases op==0<;>simp
 |some b0=>_
 all_goals try simp only[Int.reduceBEq,reduceLE,reduceLT,reduceSub,reduceAdd,gJ,ah]
 all_goals(cases ho0:(op==0)<;>cases ht:(t==[])<;>cases hy:(o==[])<;>cases b0<;>simp_all<;>intros<;>constructor<;>intros<;>first|omega|exact BJ ‹_›|exact GU ‹_›|(rw[aJ (n:=op+1) ak ak] at *;omega)|(simp_all<;>omega))
def aS6(op:Int)(t o:aC)(kids:au)(h:M.aG 4 op t o kids=some true):Cnt 4 op o kids.length:=by
 simp only[M.aG,M.aK,M.bg,M.aT,M.bW,M.bG,M.bn,M.aU,dL,eP,Dc,pq,Int.reduceBEq,reduceLE,reduceLT,reduceSub,reduceAdd,gJ,ah] at h;revert h;cases hn0:M.nM 5 t 0 with
 |none=>cases op==0<;>simp
 |some b0=>_
 all_goals try simp only[Int.reduceBEq,reduceLE,reduceLT,reduceSub,reduceAdd,gJ,ah]
 all_goals(cases ho0:(op==0)<;>cases ht:(t==[])<;>cases hy:(o==[])<;>cases b0<;>simp_all<;>intros<;>constructor<;>intros<;>first|omega|exact BJ ‹_›|exact GU ‹_›|(rw[aJ (n:=op+1) ak ak] at *;omega)|(simp_all<;>omega))
def KP(k:Int)(op:Int)(t o:aC)(kids:au)(h:M.aG k op t o kids=some true)(hk:k=6\/k=14\/k=16\/k=20\/k=22\/k=23\/k=24\/k=25\/k=26\/k=28\/k=29\/k=30\/k=31\/k=33\/k=40\/k=41\/k=45):Cnt k op o kids.length:=by
 rcases hk with rfl|rfl|rfl|rfl|rfl|rfl|rfl|rfl|rfl|rfl|rfl|rfl|rfl|rfl|rfl|rfl|rfl
 all_goals
  simp only[M.aG,M.aK,M.bg,M.aT,M.bW,M.bG,M.bn,M.aU,dL,eP,Dc,pq,Int.reduceBEq,reduceLE,reduceLT,reduceSub,reduceAdd,gJ,ah] at h;revert h
  all_goals try simp only[Int.reduceBEq,reduceLE,reduceLT,reduceSub,reduceAdd,gJ,ah]
  all_goals(cases ho0:(op==0)<;>cases ht:(t==[])<;>cases hy:(o==[])<;>simp_all<;>intros<;>constructor<;>intros<;>first|omega|exact BJ ‹_›|exact GU ‹_›|(rw[aJ (n:=op+1) ak ak] at *;omega)|(simp_all<;>omega))
def aS7(op:Int)(t o:aC)(kids:au)(h:M.aG 8 op t o kids=some true):Cnt 8 op o kids.length:=by
 simp only[M.aG,M.aK,M.bg,M.aT,M.bW,M.bG,M.bn,M.aU,dL,eP,Dc,pq,Int.reduceBEq,reduceLE,reduceLT,reduceSub,reduceAdd,gJ,ah] at h;revert h;cases hn0:M.kY t with
 |none=>cases op==0<;>simp
 |some b0=>_
 all_goals try simp only[Int.reduceBEq,reduceLE,reduceLT,reduceSub,reduceAdd,gJ,ah]
 all_goals(cases ho0:(op==0)<;>cases ht:(t==[])<;>cases hy:(o==[])<;>cases b0<;>simp_all<;>intros<;>constructor<;>intros<;>first|omega|exact BJ ‹_›|exact GU ‹_›|(rw[aJ (n:=op+1) ak ak] at *;omega)|(simp_all<;>omega))
def aBe(k:Int)(op:Int)(t o:aC)(kids:au)(h:M.aG k op t o kids=some true)(hk:k=9\/k=10):Cnt k op o kids.length:=by
 rcases hk with rfl|rfl
 all_goals
  simp only[M.aG,M.aK,M.bg,M.aT,M.bW,M.bG,M.bn,M.aU,dL,eP,Dc,pq,Int.reduceBEq,reduceLE,reduceLT,reduceSub,reduceAdd,gJ,ah] at h;revert h
  all_goals try simp only[Int.reduceBEq,reduceLE,reduceLT,reduceSub,reduceAdd,gJ,ah]
  all_goals(cases ho0:(op==51)<;>cases ho1:(op==52)<;>cases ht:(t==[])<;>cases hy:(o==[])<;>simp_all<;>intros<;>constructor<;>intros<;>first|omega|exact BJ ‹_›|exact GU ‹_›|(rw[aJ (n:=op+1) ak ak] at *;omega)|(simp_all<;>omega))
def aIz(op:Int)(t o:aC)(kids:au)(h:M.aG 11 op t o kids=some true):Cnt 11 op o kids.length:=by
 simp only[M.aG,M.aK,M.bg,M.aT,M.bW,M.bG,M.bn,M.aU,dL,eP,Dc,pq,Int.reduceBEq,reduceLE,reduceLT,reduceSub,reduceAdd,gJ,ah] at h;revert h
 all_goals try simp only[Int.reduceBEq,reduceLE,reduceLT,reduceSub,reduceAdd,gJ,ah]
 all_goals(cases ho0:(op==55)<;>cases ho1:(op==56)<;>cases ho2:(op==61)<;>cases ht:(t==[])<;>cases hy:(o==[])<;>simp_all<;>intros<;>constructor<;>intros<;>first|omega|exact BJ ‹_›|exact GU ‹_›|(rw[aJ (n:=op+1) ak ak] at *;omega)|(simp_all<;>omega))
def aIA(op:Int)(t o:aC)(kids:au)(h:M.aG 12 op t o kids=some true):Cnt 12 op o kids.length:=by
 simp only[M.aG,M.aK,M.bg,M.aT,M.bW,M.bG,M.bn,M.aU,dL,eP,Dc,pq,Int.reduceBEq,reduceLE,reduceLT,reduceSub,reduceAdd,gJ,ah] at h;revert h
 all_goals try simp only[Int.reduceBEq,reduceLE,reduceLT,reduceSub,reduceAdd,gJ,ah]
 all_goals(cases ho0:(ZC op)<;>cases ht:(t==[])<;>cases hy:(o==[])<;>simp_all<;>intros<;>constructor<;>intros<;>first|omega|exact BJ ‹_›|exact GU ‹_›|(rw[aJ (n:=op+1) ak ak] at *;omega)|(simp_all<;>omega))
def aIB(op:Int)(t o:aC)(kids:au)(h:M.aG 15 op t o kids=some true):Cnt 15 op o kids.length:=by
 simp only[M.aG,M.aK,M.bg,M.aT,M.bW,M.bG,M.bn,M.aU,dL,eP,Dc,pq,Int.reduceBEq,reduceLE,reduceLT,reduceSub,reduceAdd,gJ,ah] at h;revert h
 all_goals try simp only[Int.reduceBEq,reduceLE,reduceLT,reduceSub,reduceAdd,gJ,ah]
 all_goals(cases ho0:(ZE op)<;>cases ht:(t==[])<;>cases hy:(o==[])<;>simp_all<;>intros<;>constructor<;>intros<;>first|omega|exact BJ ‹_›|exact GU ‹_›|(rw[aJ (n:=op+1) ak ak] at *;omega)|(simp_all<;>omega))
def aIC(op:Int)(t o:aC)(kids:au)(h:M.aG 21 op t o kids=some true):Cnt 21 op o kids.length:=by
 simp only[M.aG,M.aK,M.bg,M.aT,M.bW,M.bG,M.bn,M.aU,dL,eP,Dc,pq,Int.reduceBEq,reduceLE,reduceLT,reduceSub,reduceAdd,gJ,ah] at h;revert h
 all_goals try simp only[Int.reduceBEq,reduceLE,reduceLT,reduceSub,reduceAdd,gJ,ah]
 all_goals(cases ho0:(decide (0<=op))<;>cases ho1:(decide (op<=1))<;>cases ht:(t==[])<;>cases hy:(o==[])<;>cases h1:(o==[62])<;>cases h2:(o==[62,62])<;>cases h3:(o==[124])<;>simp_all<;>intros<;>constructor<;>intros<;>first|omega|exact BJ ‹_›|exact GU ‹_›|(rw[aJ (n:=op+1) ak ak] at *;omega)|(simp_all<;>omega))
def aID(op:Int)(t o:aC)(kids:au)(h:M.aG 32 op t o kids=some true):Cnt 32 op o kids.length:=by
 simp only[M.aG,M.aK,M.bg,M.aT,M.bW,M.bG,M.bn,M.aU,dL,eP,Dc,pq,Int.reduceBEq,reduceLE,reduceLT,reduceSub,reduceAdd,gJ,ah] at h;revert h;cases hn0:M.kL t with
 |none=>cases op==0<;>simp
 |some b0=>_
 cases hn1:M.kL o with
 |none=>cases b0<;>cases op==0<;>simp
 |some b1=>_
 all_goals try simp only[Int.reduceBEq,reduceLE,reduceLT,reduceSub,reduceAdd,gJ,ah]
 all_goals(cases ho0:(op==0)<;>cases ht:(t==[])<;>cases hy:(o==[])<;>cases b0<;>cases b1<;>simp_all<;>intros<;>constructor<;>intros<;>first|omega|exact BJ ‹_›|exact GU ‹_›|(rw[aJ (n:=op+1) ak ak] at *;omega)|(simp_all<;>omega))
def aIE(op:Int)(t o:aC)(kids:au)(h:M.aG 34 op t o kids=some true):Cnt 34 op o kids.length:=by
 simp only[M.aG,M.aK,M.bg,M.aT,M.bW,M.bG,M.bn,M.aU,dL,eP,Dc,pq,Int.reduceBEq,reduceLE,reduceLT,reduceSub,reduceAdd,gJ,ah] at h;revert h;cases hn0:M.nM 2 t 0 with
 |none=>cases op==0<;>simp
 |some b0=>_
 all_goals try simp only[Int.reduceBEq,reduceLE,reduceLT,reduceSub,reduceAdd,gJ,ah]
 all_goals(cases ho0:(op==0)<;>cases ht:(t==[])<;>cases hy:(o==[])<;>cases b0<;>simp_all<;>intros<;>constructor<;>intros<;>first|omega|exact BJ ‹_›|exact GU ‹_›|(rw[aJ (n:=op+1) ak ak] at *;omega)|(simp_all<;>omega))
def aIF(op:Int)(t o:aC)(kids:au)(h:M.aG 42 op t o kids=some true):Cnt 42 op o kids.length:=by have hc:=ao8 h;have hr:=hc.rule rfl;constructor<;>intros<;>omega
def aIG(op:Int)(t o:aC)(kids:au)(h:M.aG 43 op t o kids=some true):Cnt 43 op o kids.length:=by have hc:=ao8 h;have hr:=hc.range rfl;constructor<;>intros<;>omega
def Zh(k:Int)(op:Int)(t o:aC)(kids:au)(j:Nat)(d:Int)(hj:j<kids.length)(hl:kids.length<=400)(hc:Cnt k op o kids.length)(h:M.aW k op t o kids (j:Int) d=some true)(hk:k=1\/k=2\/k=3\/k=4\/k=16\/k=22\/k=25\/k=26\/k=34):Ah (cls k op kids.length j) d:=by
 rcases hk with rfl|rfl|rfl|rfl|rfl|rfl|rfl|rfl|rfl
 all_goals
  have hw:i64.wrap ((kids.length:Int) - 1)=(kids.length:Int) - 1:=aJ ak ak;simp only[M.aW,M.aY,M.aQ,eU,iM,iO,eF,dL,eP,Int.reduceBEq,reduceLE,reduceLT,reduceSub,reduceAdd,gJ,ah] at h
  try rw[hw] at h
  have:=hc.non ak;omega
def Ji(k:Int)(op:Int)(t o:aC)(kids:au)(j:Nat)(d:Int)(hj:j<kids.length)(hl:kids.length<=400)(hc:Cnt k op o kids.length)(h:M.aW k op t o kids (j:Int) d=some true)(hk:k=5\/k=6\/k=7\/k=8\/k=11\/k=12\/k=13\/k=14\/k=20\/k=21\/k=23\/k=24\/k=27\/k=32\/k=33\/k=40\/k=41\/k=45):Ah (cls k op kids.length j) d:=by
 rcases hk with rfl|rfl|rfl|rfl|rfl|rfl|rfl|rfl|rfl|rfl|rfl|rfl|rfl|rfl|rfl|rfl|rfl|rfl
 all_goals
  have hw:i64.wrap ((kids.length:Int) - 1)=(kids.length:Int) - 1:=aJ ak ak;simp only[M.aW,M.aY,M.aQ,eU,iM,iO,eF,dL,eP,Int.reduceBEq,reduceLE,reduceLT,reduceSub,reduceAdd,gJ,ah] at h
  try rw[hw] at h
  simp[cls,Ah,Iq,Pj,acy,isIt,Bool.cond_eq_ite] at h|-
  all_goals first|omega|((repeat' split at h)<;>simp_all<;>omega)
def aBf(k:Int)(op:Int)(t o:aC)(kids:au)(j:Nat)(d:Int)(hj:j<kids.length)(hl:kids.length<=400)(hc:Cnt k op o kids.length)(h:M.aW k op t o kids (j:Int) d=some true)(hk:k=9\/k=10):Ah (cls k op kids.length j) d:=by
 rcases hk with rfl|rfl
 all_goals
  have hw:i64.wrap ((kids.length:Int) - 1)=(kids.length:Int) - 1:=aJ ak ak;simp only[M.aW,M.aY,M.aQ,eU,iM,iO,eF,dL,eP,Int.reduceBEq,reduceLE,reduceLT,reduceSub,reduceAdd,gJ,ah] at h
  try rw[hw] at h
  have hn:=hc.one ak;obtain rfl:j=0:=ak
  all_goals(simp[cls,Ah,Iq,Pj,acy,isIt,Bool.cond_eq_ite] at h|-<;>first|omega|(repeat' split at h)<;>simp_all<;>omega)
def auL(k:Int)(op:Int)(t o:aC)(kids:au)(j:Nat)(d:Int)(hj:j<kids.length)(hl:kids.length<=400)(hc:Cnt k op o kids.length)(h:M.aW k op t o kids (j:Int) d=some true)(hk:k=15\/k=29\/k=30):Ah (cls k op kids.length j) d:=by
 rcases hk with rfl|rfl|rfl
 all_goals
  have hw:i64.wrap ((kids.length:Int) - 1)=(kids.length:Int) - 1:=aJ ak ak;simp only[M.aW,M.aY,M.aQ,eU,iM,iO,eF,dL,eP,Int.reduceBEq,reduceLE,reduceLT,reduceSub,reduceAdd,gJ,ah] at h
  try rw[hw] at h
  have hn:=hc.two ak;obtain rfl|rfl:j=0\/j=1:=ak
  all_goals(simp[cls,Ah,Iq,Pj,acy,isIt,Bool.cond_eq_ite] at h|-<;>first|omega|(repeat' split at h)<;>simp_all<;>omega)
def aIH(op:Int)(t o:aC)(kids:au)(j:Nat)(d:Int)(hj:j<kids.length)(hl:kids.length<=400)(hc:Cnt 28 op o kids.length)(h:M.aW 28 op t o kids (j:Int) d=some true):Ah (cls 28 op kids.length j) d:=by
 have hw:i64.wrap ((kids.length:Int) - 1)=(kids.length:Int) - 1:=aJ ak ak;simp only[M.aW,M.aY,M.aQ,eU,iM,iO,eF,dL,eP,Int.reduceBEq,reduceLE,reduceLT,reduceSub,reduceAdd,gJ,ah] at h
 try rw[hw] at h
 have hn:=hc.cnd ak;obtain rfl|rfl|rfl:j=0\/j=1\/j=2:=ak
 all_goals(simp[cls,Ah,Iq,Pj,acy,isIt,Bool.cond_eq_ite] at h|-<;>first|omega|(repeat' split at h)<;>simp_all<;>omega)
def aII(op:Int)(t o:aC)(kids:au)(j:Nat)(d:Int)(hj:j<kids.length)(hl:kids.length<=400)(hc:Cnt 31 op o kids.length)(h:M.aW 31 op t o kids (j:Int) d=some true):Ah (cls 31 op kids.length j) d:=by
 have hw:i64.wrap ((kids.length:Int) - 1)=(kids.length:Int) - 1:=aJ ak ak;simp only[M.aW,M.aY,M.aQ,eU,iM,iO,eF,dL,eP,Int.reduceBEq,reduceLE,reduceLT,reduceSub,reduceAdd,gJ,ah] at h
 try rw[hw] at h
 have hn:=hc.four ak;obtain rfl|rfl|rfl|rfl:j=0\/j=1\/j=2\/j=3:=ak
 all_goals(simp[cls,Ah,Iq,Pj,acy,isIt,Bool.cond_eq_ite] at h|-<;>first|omega|(repeat' split at h)<;>simp_all<;>omega)
def aIJ(op:Int)(t o:aC)(kids:au)(j:Nat)(d:Int)(hj:j<kids.length)(hl:kids.length<=400)(hc:Cnt 42 op o kids.length)(h:M.aW 42 op t o kids (j:Int) d=some true):Ah (cls 42 op kids.length j) d:=by
 have hw:i64.wrap ((kids.length:Int) - 1)=(kids.length:Int) - 1:=aJ ak ak;simp only[M.aW,M.aY,M.aQ,eU,iM,iO,eF,dL,eP,Int.reduceBEq,reduceLE,reduceLT,reduceSub,reduceAdd,gJ,ah] at h
 try rw[hw] at h
 rcases hc.rule rfl with⟨rfl,h1⟩|⟨rfl,h1⟩|⟨rfl,h1⟩
 ·obtain rfl:j=0:=ak
  all_goals(simp[cls,Ah,Iq,Pj,acy,isIt,Bool.cond_eq_ite,h1] at h|-<;>first|omega|(repeat' split at h)<;>simp_all<;>omega)
 ·obtain rfl:j=0:=ak
  all_goals(simp[cls,Ah,Iq,Pj,acy,isIt,Bool.cond_eq_ite,h1] at h|-<;>first|omega|(repeat' split at h)<;>simp_all<;>omega)
 ·obtain rfl|rfl:j=0\/j=1:=ak
  all_goals(simp[cls,Ah,Iq,Pj,acy,isIt,Bool.cond_eq_ite,h1] at h|-<;>first|omega|(repeat' split at h)<;>simp_all<;>omega)
def aIK(op:Int)(t o:aC)(kids:au)(j:Nat)(d:Int)(hj:j<kids.length)(hl:kids.length<=400)(hc:Cnt 43 op o kids.length)(h:M.aW 43 op t o kids (j:Int) d=some true):Ah (cls 43 op kids.length j) d:=by
 have hw:i64.wrap ((kids.length:Int) - 1)=(kids.length:Int) - 1:=aJ ak ak;simp only[M.aW,M.aY,M.aQ,eU,iM,iO,eF,dL,eP,Int.reduceBEq,reduceLE,reduceLT,reduceSub,reduceAdd,gJ,ah] at h
 try rw[hw] at h
 rcases hc.range rfl with⟨rfl,h1⟩|⟨rfl,h1⟩
 ·obtain rfl|rfl:j=0\/j=1:=ak
  all_goals(simp[cls,Ah,Iq,Pj,acy,isIt,Bool.cond_eq_ite,h1] at h|-<;>first|omega|(repeat' split at h)<;>simp_all<;>omega)
 ·obtain rfl|rfl|rfl:j=0\/j=1\/j=2:=ak
  all_goals(simp[cls,Ah,Iq,Pj,acy,isIt,Bool.cond_eq_ite,h1] at h|-<;>first|omega|(repeat' split at h)<;>simp_all<;>omega)
def aIL(op:Int)(t o:aC)(kids:au)(j:Nat)(d:Int)(hj:j<kids.length)(hl:kids.length<=400)(hc:Cnt 44 op o kids.length)(h:M.aW 44 op t o kids (j:Int) d=some true):Ah (cls 44 op kids.length j) d:=by
 have hw:i64.wrap ((kids.length:Int) - 1)=(kids.length:Int) - 1:=aJ ak ak;simp only[M.aW,M.aY,M.aQ,eU,iM,iO,eF,dL,eP,Int.reduceBEq,reduceLE,reduceLT,reduceSub,reduceAdd,gJ,ah] at h
 try rw[hw] at h
 by_cases h1:j+1=kids.length
 ·have e:((j:Int)==(kids.length:Int) - 1)=true:=by rw[beq_iff_eq];omega
  rw[e] at h;simp[cls,Ah,h1,Bool.cond_eq_ite] at h|-
  first|omega|skip
 ·have e:((j:Int)==(kids.length:Int) - 1)=false:=by rw[Rf];omega
  rw[e] at h;simp[cls,Ah,h1,Bool.cond_eq_ite] at h|-
  first|omega|skip
def asN{k op:Int}{t o:aC}{kids:au}(h:M.aG k op t o kids=some true):ahh k:=by
 by_cases hk:ahh k
 ·exact hk
 ·exfalso;have e1:(decide (k>=1) && decide (k<=16))=false:=by
   cases hq:(decide (k>=1) && decide (k<=16)) with
   |false=>rfl
   |true=>rw[BK,decide_eq_true_eq,decide_eq_true_eq] at hq;exact absurd (Or.inl hq) hk
  have e2:(decide (k>=20) && decide (k<=34))=false:=by
   cases hq:(decide (k>=20) && decide (k<=34)) with
   |false=>rfl
   |true=>rw[BK,decide_eq_true_eq,decide_eq_true_eq] at hq;exact absurd (Or.inr (Or.inl hq)) hk
  have e3:(decide (k>=40) && decide (k<=45))=false:=by
   cases hq:(decide (k>=40) && decide (k<=45)) with
   |false=>rfl
   |true=>rw[BK,decide_eq_true_eq,decide_eq_true_eq] at hq;exact absurd (Or.inr (Or.inr hq)) hk
  simp only[M.aG,M.aK,dL,e1,e2,e3,ah,bC] at h;cases hm:M.bg k op t o kids with
  |none=>rw[hm] at h;cases h
  |some r=>rw[hm,ah] at h;cases h
def aIM{k op:Int}{t o:aC}{kids:au}(h:M.aG k op t o kids=some true):Cnt k op o kids.length:=by
 have hk:k=1\/k=2\/k=3\/k=4\/k=5\/k=6\/k=7\/k=8\/k=9\/k=10\/k=11\/k=12\/k=13\/k=14\/k=15\/k=16\/k=20\/k=21\/k=22\/k=23\/k=24\/k=25\/k=26\/k=27\/k=28\/k=29\/k=30\/k=31\/k=32\/k=33\/k=34\/k=40\/k=41\/k=42\/k=43\/k=44\/k=45:=by have:=asN h;unfold ahh at this;omega
 rcases hk with rfl|rfl|rfl|rfl|rfl|rfl|rfl|rfl|rfl|rfl|rfl|rfl|rfl|rfl|rfl|rfl|rfl|rfl|rfl|rfl|rfl|rfl|rfl|rfl|rfl|rfl|rfl|rfl|rfl|rfl|rfl|rfl|rfl|rfl|rfl|rfl|rfl
 ·exact aho _ _ _ _ _ h ak
 ·exact aS4 _ _ _ _ h
 ·exact aS5 _ _ _ _ h
 ·exact aS6 _ _ _ _ h
 ·exact aho _ _ _ _ _ h ak
 ·exact KP _ _ _ _ _ h ak
 ·exact aho _ _ _ _ _ h ak
 ·exact aS7 _ _ _ _ h
 ·exact aBe _ _ _ _ _ h ak
 ·exact aBe _ _ _ _ _ h ak
 ·exact aIz _ _ _ _ h
 ·exact aIA _ _ _ _ h
 ·exact aho _ _ _ _ _ h ak
 ·exact KP _ _ _ _ _ h ak
 ·exact aIB _ _ _ _ h
 ·exact KP _ _ _ _ _ h ak
 ·exact KP _ _ _ _ _ h ak
 ·exact aIC _ _ _ _ h
 ·exact KP _ _ _ _ _ h ak
 ·exact KP _ _ _ _ _ h ak
 ·exact KP _ _ _ _ _ h ak
 ·exact KP _ _ _ _ _ h ak
 ·exact KP _ _ _ _ _ h ak
 ·exact aho _ _ _ _ _ h ak
 ·exact KP _ _ _ _ _ h ak
 ·exact KP _ _ _ _ _ h ak
 ·exact KP _ _ _ _ _ h ak
 ·exact KP _ _ _ _ _ h ak
 ·exact aID _ _ _ _ h
 ·exact KP _ _ _ _ _ h ak
 ·exact aIE _ _ _ _ h
 ·exact KP _ _ _ _ _ h ak
 ·exact KP _ _ _ _ _ h ak
 ·exact aIF _ _ _ _ h
 ·exact aIG _ _ _ _ h
 ·exact aho _ _ _ _ _ h ak
 ·exact KP _ _ _ _ _ h ak
def aIN{k op:Int}{t o:aC}{kids:au}{j:Nat}{d:Int}(hk:ahh k)(hj:j<kids.length)(hl:kids.length<=400)(hc:Cnt k op o kids.length)(h:M.aW k op t o kids (j:Int) d=some true):Ah (cls k op kids.length j) d:=by
 have hk:k=1\/k=2\/k=3\/k=4\/k=5\/k=6\/k=7\/k=8\/k=9\/k=10\/k=11\/k=12\/k=13\/k=14\/k=15\/k=16\/k=20\/k=21\/k=22\/k=23\/k=24\/k=25\/k=26\/k=27\/k=28\/k=29\/k=30\/k=31\/k=32\/k=33\/k=34\/k=40\/k=41\/k=42\/k=43\/k=44\/k=45:=by unfold ahh at hk;omega
 rcases hk with rfl|rfl|rfl|rfl|rfl|rfl|rfl|rfl|rfl|rfl|rfl|rfl|rfl|rfl|rfl|rfl|rfl|rfl|rfl|rfl|rfl|rfl|rfl|rfl|rfl|rfl|rfl|rfl|rfl|rfl|rfl|rfl|rfl|rfl|rfl|rfl|rfl
 ·exact Zh _ _ _ _ _ _ _ hj hl hc h ak
 ·exact Zh _ _ _ _ _ _ _ hj hl hc h ak
 ·exact Zh _ _ _ _ _ _ _ hj hl hc h ak
 ·exact Zh _ _ _ _ _ _ _ hj hl hc h ak
 ·exact Ji _ _ _ _ _ _ _ hj hl hc h ak
 ·exact Ji _ _ _ _ _ _ _ hj hl hc h ak
 ·exact Ji _ _ _ _ _ _ _ hj hl hc h ak
 ·exact Ji _ _ _ _ _ _ _ hj hl hc h ak
 ·exact aBf _ _ _ _ _ _ _ hj hl hc h ak
 ·exact aBf _ _ _ _ _ _ _ hj hl hc h ak
 ·exact Ji _ _ _ _ _ _ _ hj hl hc h ak
 ·exact Ji _ _ _ _ _ _ _ hj hl hc h ak
 ·exact Ji _ _ _ _ _ _ _ hj hl hc h ak
 ·exact Ji _ _ _ _ _ _ _ hj hl hc h ak
 ·exact auL _ _ _ _ _ _ _ hj hl hc h ak
 ·exact Zh _ _ _ _ _ _ _ hj hl hc h ak
 ·exact Ji _ _ _ _ _ _ _ hj hl hc h ak
 ·exact Ji _ _ _ _ _ _ _ hj hl hc h ak
 ·exact Zh _ _ _ _ _ _ _ hj hl hc h ak
 ·exact Ji _ _ _ _ _ _ _ hj hl hc h ak
 ·exact Ji _ _ _ _ _ _ _ hj hl hc h ak
 ·exact Zh _ _ _ _ _ _ _ hj hl hc h ak
 ·exact Zh _ _ _ _ _ _ _ hj hl hc h ak
 ·exact Ji _ _ _ _ _ _ _ hj hl hc h ak
 ·exact aIH _ _ _ _ _ _ hj hl hc h
 ·exact auL _ _ _ _ _ _ _ hj hl hc h ak
 ·exact auL _ _ _ _ _ _ _ hj hl hc h ak
 ·exact aII _ _ _ _ _ _ hj hl hc h
 ·exact Ji _ _ _ _ _ _ _ hj hl hc h ak
 ·exact Ji _ _ _ _ _ _ _ hj hl hc h ak
 ·exact Zh _ _ _ _ _ _ _ hj hl hc h ak
 ·exact Ji _ _ _ _ _ _ _ hj hl hc h ak
 ·exact Ji _ _ _ _ _ _ _ hj hl hc h ak
 ·exact aIJ _ _ _ _ _ _ hj hl hc h
 ·exact aIK _ _ _ _ _ _ hj hl hc h
 ·exact aIL _ _ _ _ _ _ hj hl hc h
 ·exact Ji _ _ _ _ _ _ _ hj hl hc h ak
def alp{α:Type}{p:Nat->α->Bool}:∀{l:List α} {i j:Nat} {x:α},Wn p l i=true->l[j]? =some x->p (i+j) x=true
 |[],_,j,_,_,h=>by simp at h
 |y::l,i,0,x,h,e=>by rw[Wn,BK] at h;cases e;exact h.1
 |y::l,i,j+1,x,h,e=>by
  rw[Wn,BK] at h;rw[List.getElem?_cons_succ] at e;have:=alp h.2 e
  rwa [show i+1+j=i+(j+1) by omega] at this
def aBg{k op:Int}{n:Nat}:∀{ks:List Tn} {j:Nat},(∀i t,ks[i]? =some t->Ah (cls k op n (j+i)) t.kind/\Uw t)->oks k op n ks j
 |[],_,_=>by rw[oks];trivial
 |t::ts,j,h=>by
  rw[oks];have h0:=h 0 t rfl;refine⟨h0.1,h0.2,aBg λi u hu=> ?_⟩;have:=h (i+1) u (by rw[List.getElem?_cons_succ];exact hu)
  rwa [show j+(i+1)=j+1+i by omega] at this
def aEr{l:List Nd}(hall:Wn (np l) l 0=true)(hsm:∀n,n∈l->Small n)(hkl:∀n,n∈l->n.kids.length<=400)(t:Tn):∀b,Lies l b t->Uw t:=by
 refine Tn.ind (P:=λt=>∀b,Lies l b t->Uw t) ?_ t;intro k op x y ks ih b h;have hr:=h.root;have hm:=UK hr;have hn:=alp hall hr;unfold np at hn;rw[BK] at hn;have hf:=(apa (hsm _ hm) (hkl _ hm)).1;rw[hn.1] at hf;have hc:=aIM hf;rw[dV,jE] at hc;have hkn:=asN hf;rw[Uw];refine⟨hkn,hc,aBg λi u hu=>⟨?_,ih u (UK hu) _ (Lies.ahe h hu)⟩⟩;have he:=ai5 (b:=b) hu;have hlt:=(QV.1 hu).1;have hk:=alp hn.2 he;have hroot:=Lies.root' (Lies.ahe h hu);unfold kp at hk;rw[ztn] at hk;have hnd:(ZW l (b+sizes (ks.take i)+sizes u.kids)).kind=u.kind:=by rw[ZW,hroot]
 rw[hnd] at hk;have hko:=(auk (hsm _ hm) (hkl _ hm) hn.1 (0+i) (by rw[jE];omega) u.kind).1;rw[hk] at hko;have:=aIN (j:=0+i) hkn (by rw[dV,jE];omega) (by rw[dV];exact hkl _ hm) (by rw[dV,jE];exact hc) hko;rw[dV,jE] at this;exact this
def auM{t:Tn}(h:KL (t.flat 0)=true)(hsm:∀n,n∈t.flat 0->Small n):Uw t:=by unfold KL at h;rw[BK,BK] at h;obtain⟨r,hv⟩:=ao9 h.1;exact aEr h.2.2 hsm hv.akS t 0 (Lies.whole t)
def auN{k op:Int}{x y:aC}{a b:au}(h:a.length=b.length):M.aG k op x y a=M.aG k op x y b:=by simp only[M.aG,M.aK,M.bg,M.aT,M.bW,M.bG,M.bn,M.aU,h]
def aEs{k op:Int}{x y:aC}{a b:au}{j d:Int}(h:a.length=b.length):M.aW k op x y a j d=M.aW k op x y b j d:=by simp only[M.aW,M.aY,M.aQ,h]
def aEt{k op:Int}{x y:aC}{a b:List Int}(h:a.length=b.length):fOk ⟨k,op,x,y,a⟩=fOk ⟨k,op,x,y,b⟩:=by unfold fOk;rw[auN (a:=encI a) (b:=encI b) (by rw[dV,dV,h])]
def aEu{k op:Int}{x y:aC}{a b:List Int}{j d:Int}(h:a.length=b.length):kOk ⟨k,op,x,y,a⟩ j d=kOk ⟨k,op,x,y,b⟩ j d:=by unfold kOk;rw[aEs (a:=encI a) (b:=encI b) (by rw[dV,dV,h])]
mutual
def PI:Tn->Prop
 | .mk k op x y ks=>fOk ⟨k,op,x,y,ends ks 0⟩=true/\(∀(j:Nat) (u:Tn),ks[j]? =some u->kOk ⟨k,op,x,y,ends ks 0⟩ j u.kind=true)/\alq ks
def alq:List Tn->Prop
 |[]=>True
 |t::ts=>PI t/\alq ts
end
def ae6:∀{ks:List Tn},alq ks↔∀t,t∈ks->PI t
 |[]=>by rw[alq];simp
 |t::ts=>by rw[alq,ae6];simp
def asO(ks:List Tn)(b c:Nat):(ends ks b).length=(ends ks c).length:=by rw[jE,jE]
def axY{l:List Nd}{b:Nat}{t:Tn}(h:Lies l b t):(ZW l (b+sizes t.kids)).kind=t.kind:=by rw[ZW,Lies.root' h]
def alr{α:Type}{p:Nat->α->Bool}:∀{l:List α} {i:Nat},(∀j x,l[j]? =some x->p (i+j) x=true)->Wn p l i=true
 |[],i,h=>rfl
 |y::l,i,h=>by rw[Wn,BK];exact⟨h 0 y rfl,alr λj x hx=>by have:=h (j+1) x (by simpa using hx);rwa [show i+1+j=i+(j+1) by omega]⟩
def als:∀(ks:List Tn) (m:Nat),m<sizes ks->∃a t c,ks=a++t::c/\sizes a<=m/\m<sizes a+t.size
 |[],m,h=>by simp[sizes] at h
 |t::ts,m,h=>by
  rw[sizes] at h
  by_cases hm:m<t.size
  ·exact⟨[],t,ts,rfl,by simp[sizes],by simp only[sizes];omega⟩
  ·obtain⟨a,u,c,h1,h2,h3⟩:=als ts (m - t.size) ak;refine⟨t::a,u,c,by rw[h1];rfl, ?_, ?_⟩<;>rw[sizes]<;>omega
def aEv{l:List Nd}:∀(t:Tn) (b:Nat),Lies l b t->PI t->∀i,b<=i->i<b+t.size->∃u c,Lies l c u/\PI u/\c+sizes u.kids=i:=by
 intro t;induction t using Tn.ind with
 |h k o x y ks ih=>
  intro b h hg i h1 h2;rw[Tn.size] at h2
  by_cases he:i=b+sizes ks
  ·exact⟨_,b,h,hg,he.symm⟩
  ·obtain⟨a,t,c,e,h3,h4⟩:=als ks (i - b) ak;subst e;rw[PI] at hg;exact ih t (by simp) (b+sizes a) h.kid (ae6.1 hg.2.2 t (by simp)) i ak ak
def a1a{T:Tn}(hg:PI T):Wn (np (T.flat 0)) (T.flat 0) 0=true:=by
 refine alr λi n hn=> ?_
 have hi:=(QV.1 hn).1;rw[T.flat_length] at hi;obtain⟨u,c,h1,h2,h3⟩:=aEv T 0 (Lies.whole T) hg i (Nat.zero_le _) ak;have hr:=Lies.root' h1;rw[h3,hn] at hr;obtain⟨k,op,x,y,ks⟩:=u;simp only[Tn.kind,Tn.op,Tn.text,Tn.other,Tn.kids,kX] at hr;subst hr;rw[PI] at h2;unfold np;rw[BK];refine⟨by rw[aEt (asO ks c 0)];exact h2.1,alr λj e he=> ?_⟩;have hjl:=(QV.1 he).1;rw[jE] at hjl;obtain⟨u,hu⟩:∃u,ks[j]? =some u:=⟨ks[j],by simp[hjl]⟩
 have h4:=ai5 (b:=c) hu;rw[he] at h4;simp only[kX] at h4;subst h4;unfold kp;rw[ztn,axY (Lies.ahe h1 hu),Nat.zero_add,aEu (asO ks c 0)];exact h2.2.1 j u hu
mutual
def RV:Tn->Prop
 | .mk _ _ x y ks=>(x.length<=1048576/\y.length<=1048576)/\KQ ks
def KQ:List Tn->Prop
 |[]=>True
 |t::ts=>RV t/\KQ ts
end
mutual
def apA:∀(t:Tn) (b:Nat),RV t↔∀n,n∈t.flat b->Small n
 | .mk k o x y ks,b=>by
  rw[RV,asP ks b,Tn.flat];constructor
  ·rintro⟨⟨h1,h2⟩,h3⟩ n hn;rcases List.mem_append.1 hn with hn|hn
   ·exact h3 n hn
   ·simp only[List.mem_singleton] at hn;subst hn;exact⟨h1,h2⟩
  ·intro h;have h1:=h ⟨k,o,x,y,ends ks b⟩ (by simp);exact⟨⟨h1.text,h1.other⟩,λn hn=>h n (List.mem_append_left _ hn)⟩
def asP:∀(ks:List Tn) (b:Nat),KQ ks↔∀n,n∈lG ks b->Small n
 |[],b=>by simp[KQ,lG]
 |t::ts,b=>by
  rw[KQ,apA t b,asP ts (b+t.size),lG];constructor
  ·rintro⟨h1,h2⟩ n hn;rcases List.mem_append.1 hn with hn|hn
   ·exact h1 n hn
   ·exact h2 n hn
  ·intro h;exact⟨λn hn=>h n (List.mem_append_left _ hn),λn hn=>h n (List.mem_append_right _ hn)⟩
end
def UH(nt:fM):Prop:=∀s,s∈nt->s.length<=1048576
def KR:∀a b:List Tn,KQ a->KQ b->KQ (a++b)
 |[],b,_,h=>h
 |t::a,b,h1,h2=>⟨h1.1,KR a b h1.2 h2⟩
def good{α:Type}(S:α->Prop):PR α->Prop:=λp=>p.sat λx _ m=>S x/\UH m
section
variable {l:List Tk} {α β:Type} {S:α->Prop} {S':β->Prop}
def oI{p:PR α}{f:α->Nat->fM->PR β}(h:good S p)(hf:∀x j m,S x->UH m->good S' (f x j m)):good S' (p.bind f):=by
 cases p with
 |ok x j m=>exact hf x j m h.1 h.2
 |bad j=>trivial
 |out=>trivial
def tC{c:Bool}{p q:PR α}(h1:good S p)(h2:good S q):good S (bif c then p else q):=by cases c with|true=>exact h1|false=>exact h2
def YC{k:Int}{i:Nat}{nt:fM}(h:UH nt):good (λ_:Unit=>True) (qL l k i nt):=by
 unfold qL;cases dX l i==k with
 |true=>exact⟨trivial,h⟩
 |false=>trivial
def an3(hx:∀i,(MS l i).length<=1048576){i:Nat}{nt:fM}(h:UH nt):good (λs:aC=>s.length<=1048576) (nameP l i nt):=by
 unfold nameP;cases dX l i==6 with
 |true=>exact⟨hx i,h⟩
 |false=>trivial
end
def SX(x:Xp):Prop:=RV x.1
def ajd:∀(r:List Tk) (i:Nat) (nt:fM),(∀t,t∈r->t.text.length<=1048576)->UH nt->UH (nlR r i nt).2
 |[],i,nt,_,h=>by rw[nlR];exact h
 |t::r,i,nt,hr,h=>by
  have hr':∀u,u∈r->u.text.length<=1048576:=λu hu=>hr u (zmm _ hu)
  have h2:UH (nt++[t.text]):=λs hs=>by
   rcases List.mem_append.1 hs with hs|hs
   ·exact h s hs
   ·rw[List.mem_singleton] at hs;rw[hs];exact hr t zmf
  rw[nlR];cases t.kind==1<;>cases t.kind==2<;>simp only[aH,bC]
  ·exact h
  ·exact ajd r (i+1) _ hr' h2
  ·exact ajd r (i+1) nt hr' h
  ·exact ajd r (i+1) nt hr' h
def agc:∀(r:List Tk) (i:Nat) (nt:fM),(∀t,t∈r->t.text.length<=1048576)->UH nt->UH (WA r i nt).2
 |[],i,nt,_,h=>by rw[WA];exact h
 |t::r,i,nt,hr,h=>by
  have hr':∀u,u∈r->u.text.length<=1048576:=λu hu=>hr u (zmm _ hu)
  have h2:UH (nt++[t.text]):=λs hs=>by
   rcases List.mem_append.1 hs with hs|hs
   ·exact h s hs
   ·rw[List.mem_singleton] at hs;rw[hs];exact hr t zmf
  rw[WA];cases(t.kind==1||t.kind==37)<;>cases t.kind==2<;>simp only[aH,bC]
  ·exact h
  ·exact agc r (i+1) _ hr' h2
  ·exact agc r (i+1) nt hr' h
  ·exact agc r (i+1) nt hr' h
def ail(x a b:Int)(h:a<=x/\x<=b):(decide (x>=a) && decide (x<=b))=true:=by rw[BK,decide_eq_true_eq,decide_eq_true_eq];exact h
def aIO{k op:Int}{x y:aC}{kids:au}(h:Fld k op x y kids.length)(hx:x.length<=1048576)(hy:y.length<=1048576)(hl:kids.length<=400):M.aG k op x y kids=some true:=by
 have hN:=(Yt x hx).1;have hM:=(Yt y hy).1;have hB:=(MB x).1;have hT:∀q:Int,2<=q->q<=5->M.nM q x 0=some (tX q x):=λq h1 h2=>(aeV q x 0 hx ⟨ak,ak⟩).1
 generalize hn:kids.length=n at h;cases h with
 |name hx=>simp only[M.aG,M.aK,M.bg,M.aT,M.bW,M.bG,M.bn,M.aU,dL,hN,hx,hn,ah];rfl
 |tok hk hx=>
  have h3:=hT 3 ak ak;have h4:=hT 4 ak ak;have h5:=hT 5 ak ak;rcases hk with rfl|rfl|rfl
  ·have hx:tX 3 x=true:=hx;simp only[M.aG,M.aK,M.bg,M.aT,M.bW,M.bG,M.bn,M.aU,dL,h3,hx,hn,ah];rfl
  ·have hx:tX 4 x=true:=hx;simp only[M.aG,M.aK,M.bg,M.aT,M.bW,M.bG,M.bn,M.aU,dL,h4,hx,hn,ah];rfl
  ·have hx:tX 5 x=true:=hx;simp only[M.aG,M.aK,M.bg,M.aT,M.bW,M.bG,M.bn,M.aU,dL,h5,hx,hn,ah];rfl
 |index hk hx h1 h6=>have e:=ail (n:Int) 1 6 ak;rcases hk with rfl|rfl<;>simp only[M.aG,M.aK,M.bg,M.aT,M.bW,M.bG,M.bn,M.aU,dL,hN,hx,hn,ah,Int.reduceBEq,aH,bC,e]<;>rfl
 |call hk hx h6=>have e:=ail (n:Int) 0 6 ak;rcases hk with rfl|rfl<;>simp only[M.aG,M.aK,M.bg,M.aT,M.bW,M.bG,M.bn,M.aU,dL,hN,hx,hn,ah,Int.reduceBEq,aH,bC,e]<;>rfl
 |blt hx h6=>have e:=ail (n:Int) 0 6 ak;simp only[M.aG,M.aK,M.bg,M.aT,M.bW,M.bG,M.bn,M.aU,dL,hB,hx,hn,ah,Int.reduceBEq,aH,bC,e];rfl
 |one hk=>rcases hk with rfl|rfl|rfl|rfl<;>simp only[M.aG,M.aK,M.bg,M.aT,M.bW,M.bG,M.bn,M.aU,dL,hn,ah]<;>rfl
 |step hk hop=>rcases hk with rfl|rfl<;>rcases hop with rfl|rfl<;>simp only[M.aG,M.aK,M.bg,M.aT,M.bW,M.bG,M.bn,M.aU,dL,hn,ah]<;>rfl
 |una hop=>rcases hop with rfl|rfl|rfl<;>simp only[M.aG,M.aK,M.bg,M.aT,M.bW,M.bG,M.bn,M.aU,dL,hn,ah]<;>rfl
 |bin hop=>have hb:=(Dc op).1;rw[hop] at hb;simp only[M.aG,M.aK,M.bg,M.aT,M.bW,M.bG,M.bn,M.aU,dL,hb,hn,ah];rfl
 |cond=>simp only[M.aG,M.aK,M.bg,M.aT,M.bW,M.bG,M.bn,M.aU,dL,hn,ah];rfl
 |asg hop=>have hb:=(pq op).1;rw[hop] at hb;simp only[M.aG,M.aK,M.bg,M.aT,M.bW,M.bG,M.bn,M.aU,dL,hb,hn,ah];rfl
 |none hk=>rcases hk with rfl|rfl|rfl|rfl<;>simp only[M.aG,M.aK,M.bg,M.aT,M.bW,M.bG,M.bn,M.aU,dL,hn,ah]<;>rfl
 |prn hop h1 h6=>have e:=ail (n:Int) op 6 ak;rcases hop with rfl|rfl<;>simp only[M.aG,M.aK,M.bg,M.aT,M.bW,M.bG,M.bn,M.aU,dL,hn,ah]<;>exact congrArg some e
 |prt hop hy h1 h7=>have e:=ail (n:Int) (op+1) 7 ak;rcases hop with rfl|rfl<;>rcases hy with rfl|rfl|rfl<;>simp only[M.aG,M.aK,M.bg,M.aT,M.bW,M.bG,M.bn,M.aU,dL,hn,ah]<;>exact congrArg some e
 |word hk h1=>have e:=ail (n:Int) 0 1 ak;rcases hk with rfl|rfl<;>simp only[M.aG,M.aK,M.bg,M.aT,M.bW,M.bG,M.bn,M.aU,dL,hn,ah,Int.reduceBEq,aH,bC,e]<;>rfl
 |if_ h=>rcases h with rfl|rfl<;>simp only[M.aG,M.aK,M.bg,M.aT,M.bW,M.bG,M.bn,M.aU,dL,hn,ah]<;>rfl
 |two hk=>rcases hk with rfl|rfl<;>simp only[M.aG,M.aK,M.bg,M.aT,M.bW,M.bG,M.bn,M.aU,dL,hn,ah]<;>rfl
 |for_=>simp only[M.aG,M.aK,M.bg,M.aT,M.bW,M.bG,M.bn,M.aU,dL,hn,ah];rfl
 |aBb h1 h2=>simp only[M.aG,M.aK,M.bg,M.aT,M.bW,M.bG,M.bn,M.aU,dL,hN,h1,hM,h2,hn,ah];rfl
 |many hk=>have e:=ail (n:Int) 0 (n:Int) ak;rcases hk with rfl|rfl<;>simp only[M.aG,M.aK,M.bg,M.aT,M.bW,M.bG,M.bn,M.aU,dL,hn,ah,Int.reduceBEq,aH,bC,e]<;>rfl
 |com hx=>have h2:=hT 2 ak ak;simp only[M.aG,M.aK,M.bg,M.aT,M.bW,M.bG,M.bn,M.aU,dL,h2,hx,hn,ah];rfl
 |rule h=>rcases h with⟨rfl|rfl,rfl⟩|⟨rfl,rfl⟩<;>simp only[M.aG,M.aK,M.bg,M.aT,M.bW,M.bG,M.bn,M.aU,dL,hn,ah]<;>rfl
 |range h=>rcases h with⟨rfl,rfl⟩|⟨rfl,rfl⟩<;>simp only[M.aG,M.aK,M.bg,M.aT,M.bW,M.bG,M.bn,M.aU,dL,hn,ah]<;>rfl
 |func hx h1 h7=>have e:=ail (n:Int) 1 7 ak;simp only[M.aG,M.aK,M.bg,M.aT,M.bW,M.bG,M.bn,M.aU,dL,hN,hx,hn,ah,Int.reduceBEq,aH,bC,e];rfl
def aEw{k op:Int}{x y:aC}{kids:au}{j:Nat}{d:Int}(h:Fld k op x y kids.length)(hj:j<kids.length)(hl:kids.length<=400)(hc:Ah (cls k op kids.length j) d):M.aW k op x y kids (j:Int) d=some true:=by
 have hw:i64.wrap ((kids.length:Int) - 1)=(kids.length:Int) - 1:=aJ ak ak;have hE:Ah 0 d->Iq d=true:=λh=>by unfold Iq;rw[BK,decide_eq_true_eq,decide_eq_true_eq];exact h
 have e0:cls k op kids.length j=0->Iq d=true:=λe=>hE (by rw[<-e];exact hc)
 have e1:cls k op kids.length j=1->d=33:=λe=>by rw[e] at hc;exact hc
 have e6:cls k op kids.length j=6->Pj d=true:=λe=>by rw[e] at hc;have hc:d=1\/d=5\/d=6:=hc;rcases hc with h|h|h<;>subst h<;>rfl
 have Ws:(k=5\/k=6\/k=7\/k=8\/k=11\/k=12\/k=13\/k=14\/k=20\/k=21\/k=23\/k=24\/k=27)->M.aW k op x y kids (j:Int) d=some true:=λhk=>by have hc0:cls k op kids.length j=0:=aBd ak _ _ _;have hx:=e0 hc0;rcases hk with h|h|h|h|h|h|h|h|h|h|h|h|h<;>subst h<;>simp only[M.aW,M.aY,M.aQ,eU,hx,ah,Int.reduceBEq,bC]
 generalize hn:kids.length=n at h hj hl hc hw e0 e1 e6;cases h with
 |name=>omega
 |tok=>omega
 |index hk _ _ _=>exact Ws ak
 |call hk _ _=>exact Ws ak
 |blt _ _=>exact Ws ak
 |one hk=>
  rcases hk with rfl|rfl|rfl|rfl
  ·exact Ws ak
  ·exact Ws ak
  ·have:=e1 rfl;subst this;simp only[M.aW,M.aY,M.aQ,ah];rfl
  ·have:=e1 rfl;subst this;simp only[M.aW,M.aY,M.aQ,ah];rfl
 |step hk _=>have hx:=e6 (by unfold cls;rw[if_pos ak]);rcases hk with rfl|rfl<;>simp only[M.aW,M.aY,M.aQ,eF,hx,ah,Int.reduceBEq,aH,bC]
 |una _=>exact Ws ak
 |bin _=>exact Ws ak
 |cond=>exact Ws ak
 |asg _=>
  have hj2:j=0\/j=1:=ak;rcases hj2 with rfl|rfl
  ·have hx:=e6 rfl;have hy:Iq d=true:=by have hc:d=1\/d=5\/d=6:=hc;rcases hc with h|h|h<;>subst h<;>rfl
   simp only[M.aW,M.aY,M.aQ,eF,eU,hx,hy,ah,Int.reduceBEq,aH,bC];rfl
  ·have hx:=e0 rfl;simp only[M.aW,M.aY,M.aQ,eF,eU,hx,ah,Int.reduceBEq,aH,bC];rfl
 |none=>omega
 |prn _ _ _=>exact Ws ak
 |prt _ _ _ _=>exact Ws ak
 |word hk _=>exact Ws ak
 |if_ hn2=>
  by_cases h0:j=0
  ·subst h0;have hx:=e0 (by unfold cls;rw[if_neg ak,if_pos ak,if_pos rfl]);simp only[M.aW,M.aY,M.aQ,eU,hx,ah,Int.reduceBEq,aH,bC];rfl
  ·have:=e1 (by unfold cls;rw[if_neg ak,if_pos ak,if_neg h0]);subst this;simp only[M.aW,M.aY,M.aQ,ah,Int.reduceBEq,aH,bC];rw[Rf.2 (show((j:Nat):Int)≠0 by omega),zdt (show((j:Nat):Int)>0 by omega)];rfl
 |two hk=>
  have hj2:j=0\/j=1:=ak;rcases hk with rfl|rfl<;>rcases hj2 with rfl|rfl
  ·have hx:=e0 rfl;simp only[M.aW,M.aY,M.aQ,eU,hx,ah,Int.reduceBEq,aH,bC];rfl
  ·have:=e1 rfl;subst this;simp only[M.aW,M.aY,M.aQ,ah];rfl
  ·have:=e1 rfl;subst this;simp only[M.aW,M.aY,M.aQ,ah];rfl
  ·have hx:=e0 rfl;simp only[M.aW,M.aY,M.aQ,eU,hx,ah,Int.reduceBEq,aH,bC];rfl
 |for_=>
  by_cases h3:j<3
  ·have hq:d=16\/(1<=d/\d<=15):=by
    have e:cls 31 0 4 j=3:=by unfold cls;repeat(first|rw[if_pos ak]|rw[if_neg ak])
    rw[e] at hc;exact hc
   simp only[M.aW,M.aY,M.aQ,eU,ah,Int.reduceBEq,aH,bC];rw[zdt (show((j:Nat):Int)<3 by omega),aH];rcases hq with h|h
   ·subst h;rfl
   ·rw[hE h];rfl
  ·have:=e1 (by unfold cls;repeat(first|rw[if_pos ak]|rw[if_neg ak]));subst this;simp only[M.aW,M.aY,M.aQ,ah,Int.reduceBEq,aH,bC];rw[xK (show¬((j:Nat):Int)<3 by omega),show(((j:Nat):Int)==3)=true by rw[beq_iff_eq];omega];rfl
 |aBb _ _=>have:=e1 rfl;subst this;simp only[M.aW,M.aY,M.aQ,ah];rfl
 |many hk=>
  rcases hk with rfl|rfl
  ·have hx:acy d=true:=by unfold acy;rw[BK,decide_eq_true_eq,decide_eq_true_eq];exact hc
   simp only[M.aW,M.aY,M.aQ,iM,hx,ah,Int.reduceBEq,aH,bC]
  ·have hx:(40<=d/\d<=44)\/d=34:=hc;simp only[M.aW,M.aY,M.aQ,iO,ah,Int.reduceBEq,aH,bC];rcases hx with h|h
   ·have:isIt d=true:=by unfold isIt;rw[BK,decide_eq_true_eq,decide_eq_true_eq];exact h
    rw[this];rfl
   ·subst h;rfl
 |com=>omega
 |rule hr=>
  rcases hr with⟨rfl|rfl,rfl⟩|⟨rfl,rfl⟩
  ·have hx:=e0 (by have e:j=0:=ak;subst e;rfl)
   simp only[M.aW,M.aY,M.aQ,eU,hx,ah,Int.reduceBEq,aH,bC]
  ·have:=e1 (by have e:j=0:=ak;subst e;rfl)
   subst this;simp only[M.aW,M.aY,M.aQ,ah];rfl
  ·have hj2:j=0\/j=1:=ak;rcases hj2 with rfl|rfl
   ·have hx:=e0 rfl;have h33:(d==33)=false:=by rw[Rf];intro e;rw[e] at hx;cases hx
    simp only[M.aW,M.aY,M.aQ,M.aQ,eU,hx,hn,hw,h33,ah,Int.reduceBEq,aH,bC];rfl
   ·have:=e1 rfl;subst this;simp only[M.aW,M.aY,M.aQ,M.aQ,hn,hw,ah];rfl
 |range hr=>
  rcases hr with⟨rfl,rfl⟩|⟨rfl,rfl⟩
  ·have hj2:j=0\/j=1:=ak;rcases hj2 with rfl|rfl
   ·have hx:=e0 rfl;simp only[M.aW,M.aY,M.aQ,eU,hx,ah,Int.reduceBEq,aH,bC];rfl
   ·have hx:=e0 rfl;simp only[M.aW,M.aY,M.aQ,eU,hx,ah,Int.reduceBEq,aH,bC];rfl
  ·have hj2:j=0\/j=1\/j=2:=ak;rcases hj2 with rfl|rfl|rfl
   ·have hx:=e0 rfl;simp only[M.aW,M.aY,M.aQ,eU,hx,ah,Int.reduceBEq,aH,bC];rfl
   ·have hx:=e0 rfl;simp only[M.aW,M.aY,M.aQ,eU,hx,ah,Int.reduceBEq,aH,bC];rfl
   ·have:=e1 rfl;subst this;simp only[M.aW,M.aY,M.aQ,ah];rfl
 |func _ _ _=>
  by_cases hlast:j+1=n
  ·have:=e1 (by unfold cls;repeat(first|rw[if_pos ak]|rw[if_neg ak]));subst this;simp only[M.aW,M.aY,M.aQ,hn,hw,ah,Int.reduceBEq,aH,bC];rw[show(((j:Nat):Int)==(n:Int) - 1)=true by rw[beq_iff_eq];omega];rfl
  ·have hq:d=1:=by
    have e:cls 44 0 n j=4:=by unfold cls;repeat(first|rw[if_pos ak]|rw[if_neg ak])
    rw[e] at hc;exact hc
   subst hq;simp only[M.aW,M.aY,M.aQ,hn,hw,ah,Int.reduceBEq,aH,bC];rw[show(((j:Nat):Int)==(n:Int) - 1)=false by rw[Rf];omega];rfl
def asQ:∀{ks:List Tn} {u:Tn},KQ ks->u∈ks->RV u
 |t::ts,u,h,hu=>by
  rcases List.mem_cons.1 hu with rfl|hu
  ·exact h.1
  ·exact asQ h.2 hu
def aEx(t:Tn):Zg t->RV t->t.size<=400->PI t:=by
 refine Tn.ind (P:=λt=>Zg t->RV t->t.size<=400->PI t) ?_ t;intro k op x y ks ih hr hs hz;rw[Zg] at hr;rw[Tn.size] at hz;obtain⟨hf,hk⟩:=hr;obtain⟨⟨hx,hy⟩,hsk⟩:=hs;have hlen:=DK ks;have hl:(encI (ends ks 0)).length=ks.length:=by rw[dV,jE]
 have hf':Fld k op x y (encI (ends ks 0)).length:=by rw[hl];exact hf
 rw[PI];refine⟨?_,λj u hu=> ?_,ae6.2 λu hu=>ih u hu ?_ ?_ ?_⟩
 ·unfold fOk;rw[aIO hf' hx hy ak];rfl
 ·have hj:=(QV.1 hu).1;have h1:=(apy hk hu).1;rw[Nat.zero_add] at h1;unfold kOk;rw[aEw hf' (j:=j) ak ak (by rw[hl];exact h1)];rfl
 ·obtain⟨j,hj,hxj⟩:=List.mem_iff_getElem.1 hu;exact(apy hk (QV.2 ⟨hj,hxj⟩)).2
 ·exact asQ hsk hu
 ·have:=I9 hu;omega
def auO{t:Tn}(h:Zg t)(hs:RV t)(hz:t.size<=400)(hd:depth (t.flat 0)<=40):KL (t.flat 0)=true:=by unfold KL;rw[atS hz,zdt hd,a1a (aEx t h hs hz)];rfl
end Go.Proofs.YtflhkdjglihbmaaGreatDoor
namespace Go.Proofs.YtflhkdjglihbmaaGreatDoor
open Go Go.Vm
open Int (reduceLE reduceLT reduceSub reduceAdd)
def Us(nt:fM):Prop:=∀s,s∈nt->tX 2 s=true
def gr{α:Type}(S:α->Prop):PR α->Prop:=λp=>p.sat λx _ m=>S x/\Us m
section
variable {l:List Tk} {α β:Type} {S:α->Prop} {S':β->Prop}
def dw{p:PR α}{f:α->Nat->fM->PR β}(h:gr S p)(hf:∀x j m,S x->Us m->gr S' (f x j m)):gr S' (p.bind f):=by
 cases p with
 |ok x j m=>exact hf x j m h.1 h.2
 |bad j=>trivial
 |out=>trivial
def iQ{c:Bool}{p q:PR α}(h1:c=true->gr S p)(h2:c=false->gr S q):gr S (bif c then p else q):=by cases c with|true=>exact h1 rfl|false=>exact h2 rfl
def AX{k:Int}{i:Nat}{nt:fM}(h:Us nt):gr (λ_:Unit=>True) (qL l k i nt):=by
 unfold qL;cases dX l i==k with
 |true=>exact⟨trivial,h⟩
 |false=>trivial
def agd(hx:acz l){i:Nat}{nt:fM}(h:Us nt):gr (λs:aC=>yx s=true) (nameP l i nt):=by
 unfold nameP;cases hk:dX l i==6 with
 |true=>rw[beq_iff_eq] at hk;exact⟨an2 hx hk (.inl rfl),h⟩
 |false=>trivial
def lu{x:α}{j:Nat}{nt:fM}(hx:S x)(hn:Us nt):gr S (.ok x j nt):=⟨hx,hn⟩
end
def SR(x:Xp):Prop:=rxT x.1
def SL(a b:Nat)(L:List Tn):Prop:=(∀t,t∈L->rxT t)/\a<=L.length/\L.length<=b
def apB:∀(r:List Tk) (i:Nat) (nt:fM),acz r->Us nt->Us (nlR r i nt).2
 |[],i,nt,_,h=>by rw[nlR];exact h
 |t::r,i,nt,hr,h=>by
  have hr':acz r:=λu hu=>hr u (zmm _ hu)
  rw[nlR];cases h1:t.kind==1 with
  |true=>exact apB r (i+1) nt hr' h
  |false=>
   cases h2:t.kind==2 with
   |false=>exact h
   |true=>
    refine apB r (i+1) _ hr' λs hs=> ?_
    rcases List.mem_append.1 hs with hs|hs
    ·exact h s hs
    ·rw[List.mem_singleton] at hs;have:=hr t zmf;rw[beq_iff_eq] at h2;rw[h2] at this;rw[hs];exact this
def alu:∀(r:List Tk) (i:Nat) (nt:fM),acz r->Us nt->Us (WA r i nt).2
 |[],i,nt,_,h=>by rw[WA];exact h
 |t::r,i,nt,hr,h=>by
  have hr':acz r:=λu hu=>hr u (zmm _ hu)
  rw[WA];cases h1:(t.kind==1||t.kind==37) with
  |true=>exact alu r (i+1) nt hr' h
  |false=>
   cases h2:t.kind==2 with
   |false=>exact h
   |true=>
    refine alu r (i+1) _ hr' λs hs=> ?_
    rcases List.mem_append.1 hs with hs|hs
    ·exact h s hs
    ·rw[List.mem_singleton] at hs;have:=hr t zmf;rw[beq_iff_eq] at h2;rw[h2] at this;rw[hs];exact this
section
variable {l:List Tk} (hT:acz l)
include hT
theorem abO{i:Nat}{nt:fM}(hn:Us nt):Us (nl l i nt).2:=apB _ _ _ (λt ht=>hT t (List.mem_of_mem_drop ht)) hn
theorem aje{i:Nat}{nt:fM}(hn:Us nt):Us (sep l i nt).2:=alu _ _ _ (λt ht=>hT t (List.mem_of_mem_drop ht)) hn
end
structure Gr(l:List Tk)(n:Nat):Prop where
 ex:∀lv a b i nt,Us nt->gr SR (ex l n lv a b i nt)
 lv:∀a b i nt,dX l i=6\/dX l i=68->Us nt->gr (λx:Xp=>Pj x.1.kind=true) (Go.Proofs.YtflhkdjglihbmaaGreatDoor.ex l n 14 a b i nt)
 lv':∀a b i nt,dX l i=6->Us nt->gr (λx:Xp=>Pj x.1.kind=true) (Go.Proofs.YtflhkdjglihbmaaGreatDoor.ex l n 15 a b i nt)
 ch:∀lv a b x i nt,1<=lv->SR x->Us nt->gr SR (chP l n lv a b x i nt)
 inp:∀a x i nt,SR x->Us nt->gr SR (inP l n a x i nt)
 pre:∀i nt,isStep (dX l i)=true->Us nt->gr SR (XB l n i nt)
 lst:∀e i nt,Us nt->gr (SL (if dX l i=e then 0 else 1) 6) (UG l n e i nt)
 it:∀a b L i nt,SL 0 5 L->Us nt->gr (SL 1 6) (U1 l n a b L i nt)
def aIP{α:Type}{S S':α->Prop}{p:PR α}(h:gr S p)(k:gr S' p):gr (λx=>S x/\S' x) p:=by
 cases p with
 |ok x j m=>exact⟨⟨h.1,k.1⟩,h.2⟩
 |bad j=>trivial
 |out=>trivial
def awi{α:Type}{S S':α->Prop}{p:PR α}(h:gr S p)(k:∀x,S x->S' x):gr S' p:=by
 cases p with
 |ok x j m=>exact⟨k x h.1,h.2⟩
 |bad j=>trivial
 |out=>trivial
def an4{k:Int}(h:isStep k=true):k=51\/k=52:=by unfold isStep at h;rw[Bool.or_eq_true,beq_iff_eq,beq_iff_eq] at h;exact h
def aBh{l:List Tk}{i:Nat}(hk:dX l i=32)(ha:ahead (l.drop i) 0=true):dX l (i+1)≠33:=by
 intro h33;unfold dX at hk h33;cases h1:l[i]? with
 |none=>rw[h1] at hk;simp at hk
 |some t=>
  cases h2:l[i+1]? with
  |none=>rw[h2] at h33;simp at h33
  |some u=>
   rw[h1] at hk;rw[h2] at h33;simp only at hk h33;have l1:=(QV.1 h1)
   have l2:=(QV.1 h2)
   rw[List.drop_eq_getElem_cons l1.1,l1.2,List.drop_eq_getElem_cons l2.1,l2.2,ahead,hk,ahead,h33] at ha;simp[ak1,ak2] at ha
section
variable {l:List Tk} {n:Nat} (hT:acz l) (h:Gr l n)
include hT h
theorem apC{k:Int}{i:Nat}{nt:fM}(hk:dX l i=k+1)(hk2:k=2\/k=3\/k=4)(hn:Us nt):gr SR (adY k l i nt):=by refine lu (S:=SR) ?_ hn;exact aiO ak (.tok hk2 (awh hT hk ak)) ae5
theorem aS8(lv:Nat)(a b:Bool)(i:Nat)(nt:fM)(hn:Us nt):gr SR (ex l (n+1) lv a b i nt):=by
 unfold ex;split
 ·
  refine dw (h.ex _ _ _ _ _ hn) λx i nt hx hn=>iQ (λhc=> ?_) λ_=>lu hx hn
  rw[BK] at hc;refine dw (h.ex _ _ _ _ _ hn) λy j m hy hm=>lu (S:=SR) ?_ hm
  have h1:=hc.1;unfold tgt at h1;rw[BK] at h1;exact aIy hc.2 h1.2 hx hy
 ·
  refine dw (h.ex _ _ _ _ _ hn) λx i nt hx hn=>iQ (λhc=> ?_) λ_=>lu hx hn
  refine dw (h.ex _ _ _ _ _ hn) λy i nt hy hn=> ?_
  refine dw (AX hn) λ_ i nt _ hn=> ?_
  refine dw (h.ex _ _ _ _ _ hn) λz i nt hz hn=>lu (S:=SR) ?_ hn
  exact aiO ak .cond (a09 hx hy hz)
 ·exact dw (h.ex _ _ _ _ _ hn) λx i nt hx hn=>h.ch _ _ _ _ _ _ ak hx hn
 ·exact dw (h.ex _ _ _ _ _ hn) λx i nt hx hn=>h.ch _ _ _ _ _ _ ak hx hn
 ·
  refine iQ (λhc=> ?_) λ_=>dw (h.ex _ _ _ _ _ hn) λx i nt hx hn=>h.inp _ _ _ _ hx hn
  rw[BK,BK,beq_iff_eq] at hc;have h33:=aBh hc.1.1 hc.2;have hl:=h.lst 33 (i+1) nt hn;rw[if_neg h33] at hl;refine dw hl λL i nt hL hn=> ?_
  refine dw (AX hn) λ_ i nt _ hn=> ?_
  refine dw (agd hT hn) λs i nt hs hn=> ?_
  exact h.inp _ _ _ _ (aiO ak (.index ak hs hL.2.1 hL.2.2) hL.1) hn
 ·
  refine dw (h.ex _ _ _ _ _ hn) λx i nt hx hn=>iQ (λhc=> ?_) λ_=>lu hx hn
  refine dw (h.ex _ _ _ _ _ hn) λy j m hy hm=>lu (S:=SR) ?_ hm
  refine apz ?_ hx hy;rw[Bool.or_eq_true,beq_iff_eq,beq_iff_eq] at hc;rcases hc with hc|hc<;>rw[hc]<;>rfl
 ·
  refine dw (h.ex _ _ _ _ _ hn) λx i nt hx hn=>iQ (λhc=> ?_) λ_=>lu hx hn
  refine dw (h.ex _ _ _ _ _ hn) λy j m hy hm=>lu (S:=SR) ?_ hm
  refine apz (asM ?_) hx hy;unfold UF at hc;rw[show Nat.beq 7 8=false from rfl,bC,BK,beq_iff_eq] at hc;rw[hc.1];decide
 ·exact dw (h.ex _ _ _ _ _ hn) λx i nt hx hn=>h.ch _ _ _ _ _ _ ak hx hn
 ·exact dw (h.ex _ _ _ _ _ hn) λx i nt hx hn=>h.ch _ _ _ _ _ _ ak hx hn
 ·exact dw (h.ex _ _ _ _ _ hn) λx i nt hx hn=>h.ch _ _ _ _ _ _ ak hx hn
 ·
  refine iQ (λhc=> ?_) λ_=>h.ex _ _ _ _ _ hn
  refine dw (h.ex _ _ _ _ _ hn) λy j m hy hm=>lu (S:=SR) ?_ hm
  rw[Bool.or_eq_true,Bool.or_eq_true,beq_iff_eq,beq_iff_eq,beq_iff_eq] at hc;exact aiO ak (.una hc) (all1 hy)
 ·
  refine dw (h.ex _ _ _ _ _ hn) λx i nt hx hn=>iQ (λhc=> ?_) λ_=>lu hx hn
  exact dw (h.ex _ _ _ _ _ hn) λy j m hy hm=>lu (S:=SR) (apz rfl hx hy) hm
 ·
  refine iQ (λhc=>h.pre _ _ hc hn) λ_=> ?_
  refine dw (h.ex _ _ _ _ _ hn) λx i nt hx hn=>iQ (λhc=> ?_) λ_=>lu hx hn
  rw[BK] at hc;have h1:=hc.1;unfold tgt at h1;rw[BK] at h1;exact lu (S:=SR) (awg (.inr rfl) (an4 hc.2) h1.2 hx) hn
 ·
  refine iQ (λhc=> ?_) λ_=>h.ex _ _ _ _ _ hn
  refine dw (S:=SR) (iQ (λhs=>h.pre _ _ hs hn) λ_=>h.ex _ _ _ _ _ hn) λx i nt hx hn=> ?_
  exact lu (S:=SR) (aiO ak (.one ak) (all1 hx)) hn
 ·
  refine iQ (λhc=>apC hT h (by rwa [beq_iff_eq] at hc) ak hn) λ_=> ?_
  refine iQ (λhc=>apC hT h (by rwa [beq_iff_eq] at hc) ak hn) λ_=> ?_
  refine iQ (λhc=>apC hT h (by rwa [beq_iff_eq] at hc) ak hn) λ_=> ?_
  refine iQ (λhc=> ?_) λ_=> ?_
  ·rw[beq_iff_eq] at hc;have hx:=an2 hT hc (.inl rfl);refine iQ (λ_=> ?_) λ_=>lu (S:=SR) (aiO ak (.name hx) ae5) hn
   refine dw (h.it _ _ _ _ _ ⟨ae5,by simp,by simp⟩ hn) λL j nt hL hn=> ?_
   exact dw (AX hn) λ_ j nt _ hn=>lu (S:=SR) (aiO ak (.index ak hx hL.2.1 hL.2.2) hL.1) hn
  refine iQ (λhc=> ?_) λ_=> ?_
  ·rw[Bool.or_eq_true,beq_iff_eq,beq_iff_eq] at hc;refine iQ (λhb=> ?_) λ_=> ?_
   ·rw[BK,beq_iff_eq] at hb;exact lu (S:=SR) (aiO ak (.blt (aF0 hT hb.1) (Nat.zero_le _)) ae5) hn
   ·refine dw (AX hn) λ_ j nt _ hn=> ?_
    refine dw (h.lst _ _ _ hn) λL j nt hL hn=>lu (S:=SR) ?_ hn
    rcases hc with hc|hc
    ·simp only[hc];exact aiO ak (.call ak (an2 hT hc (.inr rfl)) hL.2.2) hL.1
    ·simp only[hc];exact aiO ak (.blt (aF0 hT hc) hL.2.2) hL.1
  refine iQ (λ_=> ?_) λ_=>trivial
  refine dw (h.ex _ _ _ _ _ hn) λx i nt hx hn=> ?_
  exact dw (AX hn) λ_ i nt _ hn=>lu (S:=SR) hx hn
omit h in
theorem aIQ(a b:Bool)(i:Nat)(nt:fM)(hk:dX l i=6)(hn:Us nt)(h:Gr l n):gr (λx:Xp=>Pj x.1.kind=true) (ex l (n+1) 15 a b i nt):=by
 unfold ex;simp only[hk,Int.reduceBEq,bC,aH];refine iQ (λ_=> ?_) λ_=>lu rfl hn
 refine dw (h.it _ _ _ _ _ ⟨ae5,by simp,by simp⟩ hn) λL j nt hL hn=> ?_
 exact dw (AX hn) λ_ j nt _ hn=>lu rfl hn
theorem aS9(a b:Bool)(i:Nat)(nt:fM)(hk:dX l i=6\/dX l i=68)(hn:Us nt):gr (λx:Xp=>Pj x.1.kind=true) (ex l (n+1) 14 a b i nt):=by
 unfold ex;rcases hk with hk|hk
 ·simp only[hk,Int.reduceBEq,bC];exact h.lv' _ _ _ _ hk hn
 ·simp only[hk,Int.reduceBEq,aH];refine dw (S:=SR) (iQ (λhs=>h.pre _ _ hs hn) λ_=>h.ex _ _ _ _ _ hn) λx i nt hx hn=>lu rfl hn
theorem aIR(a:Bool)(x:Xp)(i:Nat)(nt:fM)(hx:SR x)(hn:Us nt):gr SR (inP l (n+1) a x i nt):=by
 unfold inP;refine iQ (λ_=> ?_) λ_=>lu hx hn
 exact dw (agd hT hn) λs i nt hs hn=>h.inp _ _ _ _ (aiO ak (.index ak hs (by simp) (by simp)) (all1 hx)) hn
theorem aIS(i:Nat)(nt:fM)(hs:isStep (dX l i)=true)(hn:Us nt):gr SR (XB l (n+1) i nt):=by
 unfold XB;refine iQ (λhc=> ?_) λ_=>trivial
 rw[Bool.or_eq_true,beq_iff_eq,beq_iff_eq] at hc;exact dw (aIP (h.ex _ _ _ _ _ hn) (h.lv _ _ _ _ ak hn)) λx j m hx hm=>lu (S:=SR) (awg (.inl rfl) (an4 hs) hx.2 hx.1) hm
theorem aIT(e:Int)(i:Nat)(nt:fM)(hn:Us nt):gr (SL (if dX l i=e then 0 else 1) 6) (UG l (n+1) e i nt):=by
 unfold UG;refine iQ (λhc=> ?_) λhc=> ?_
 ·rw[beq_iff_eq] at hc;rw[if_pos hc];exact lu ⟨ae5,by simp,by simp⟩ hn
 ·rw[Rf] at hc;rw[if_neg hc];refine dw (h.it _ _ _ _ _ ⟨ae5,by simp,by simp⟩ hn) λL j nt hL hn=> ?_
  exact dw (AX hn) λ_ j nt _ hn=>lu hL hn
theorem aTa(a b:Bool)(L:List Tn)(i:Nat)(nt:fM)(hL:SL 0 5 L)(hn:Us nt):gr (SL 1 6) (U1 l (n+1) a b L i nt):=by
 rw[U1];refine dw (h.ex _ _ _ _ _ hn) λx i nt hx hn=> ?_
 have h1:=hL.2.2;have h2:=asK hL.1 hx;refine iQ (λ_=>iQ (λ_=>trivial) λh6=> ?_) λ_=>lu ⟨h2,by simp,by simp;omega⟩ hn
 have h6':L.length+1≠6:=λe=>by rw[e] at h6;cases h6
 exact h.it _ _ _ _ _ ⟨h2,Nat.zero_le _,by simp;omega⟩ (abO hT hn)
theorem aTb(lv:Nat)(a b:Bool)(x:Xp)(i:Nat)(nt:fM)(h1:1<=lv)(hx:SR x)(hn:Us nt):gr SR (chP l (n+1) lv a b x i nt):=by
 rw[chP];refine iQ (λhc=> ?_) λ_=>lu hx hn
 have hq:Us (bif Nat.beq lv 8 then(i,nt) else bif Nat.ble lv 4 then nl l (i+1) nt else(i+1,nt)).2:=by
  cases Nat.beq lv 8<;>cases Nat.ble lv 4
  ·exact hn
  ·exact abO hT hn
  ·exact hn
  ·exact hn
 refine dw (h.ex _ _ _ _ _ hq) λy j m hy hm=> ?_
 refine h.ch _ _ _ _ _ _ h1 (apz ?_ hx hy) hm;cases h8:Nat.beq lv 8 with
 |true=>rfl
 |false=>rw[bC];unfold UF at hc;rw[h8,bC,BK,beq_iff_eq] at hc;refine asM ?_;rw[hc.1];omega
end
def grx{l:List Tk}(hT:acz l):∀n,Gr l n
 |0=>⟨λ_ _ _ _ _ _=>by rw[ex];trivial,λ_ _ _ _ _ _=>by rw[ex];trivial,λ_ _ _ _ _ _=>by rw[ex];trivial,λ_ _ _ _ _ _ _ _ _=>by rw[chP];trivial,λ_ _ _ _ _ _=>by rw[inP];trivial,λ_ _ _ _=>by rw[XB];trivial,λ_ _ _ _=>by rw[UG];trivial,λ_ _ _ _ _ _ _=>by rw[U1];trivial⟩
 |n+1=>⟨aS8 hT (grx hT n),aS9 hT (grx hT n),λa b i nt hk hn=>aIQ hT a b i nt hk hn (grx hT n),aTb hT (grx hT n),aIR hT (grx hT n),aIS hT (grx hT n),aIT hT (grx hT n),aTa hT (grx hT n)⟩
def rsT(t:Tn):Prop:=Zg t/\20<=t.kind/\t.kind<=34
def rb(t:Tn):Prop:=Zg t/\t.kind=33
def roT(t:Tn):Prop:=Zg t/\(t.kind=16\/isE t)
def riT(t:Tn):Prop:=Zg t/\((40<=t.kind/\t.kind<=44)\/t.kind=34)
def Zi(S:Tn->Prop)(L:List Tn):Prop:=∀t,t∈L->S t
def agf{S:Tn->Prop}:Zi S []:=λt h=>by simp at h
def YD{S:Tn->Prop}{a b:List Tn}(h:Zi S a)(k:Zi S b):Zi S (a++b):=λt ht=>by
 rcases List.mem_append.1 ht with ht|ht
 ·exact h t ht
 ·exact k t ht
def agh{S:Tn->Prop}{a:Tn}(h:S a):Zi S [a]:=λt ht=>by rw[List.mem_singleton] at ht;rw[ht];exact h
def aBi{s:aC}(h:tX 2 s=true):Zg (.mk 34 0 s [] []):=by rw[Zg,rts];exact⟨.com h,trivial⟩
def aBj{nt:fM}(h:Us nt):Zi rsT (Yv nt):=λt ht=>by unfold Yv at ht;obtain⟨s,hs,rfl⟩:=List.mem_map.1 ht;exact⟨aBi (h s hs),by show(20:Int)<=34;omega,by show(34:Int)<=34;omega⟩
def aTc{nt:fM}(h:Us nt):Zi riT (Yv nt):=λt ht=>by unfold Yv at ht;obtain⟨s,hs,rfl⟩:=List.mem_map.1 ht;exact⟨aBi (h s hs),.inr rfl⟩
def Zj:Us []:=λs h=>by simp at h
def auP{L:List Tn}(h:Zi rsT L):rb (.mk 33 0 [] [] L):=by refine⟨?_,rfl⟩;rw[Zg];exact⟨.many (.inl rfl),agb λi t ht=>by have:=h t (UK ht);exact⟨this.2,this.1⟩⟩
def aTd{t:Tn}(h:rb t):rsT t:=⟨h.1,by rw[h.2];omega,by rw[h.2];omega⟩
def amm{k op:Int}{y:aC}{x:aC}{ks:List Tn}(hk:20<=k/\k<=27)(hf:Fld k op x y ks.length)(h:∀t,t∈ks->rxT t):rsT (.mk k op x y ks):=by refine⟨?_,⟨by show 20<=k;omega,by show k<=34;omega⟩⟩;rw[Zg];exact⟨hf,aFZ h λj=>aBd ak op _ j⟩
def aIU{a b:Tn}(ha:rxT a)(hb:rb b):rsT (.mk 28 0 [] [] [a,b]):=by refine⟨?_,by show(20:Int)<=28;omega,by show(28:Int)<=34;omega⟩;rw[Zg,rts,rts,rts];exact⟨.if_ (.inl rfl),ha.2,ha.1,hb.2,hb.1,trivial⟩
def aIV{a b c:Tn}(ha:rxT a)(hb:rb b)(hc:rb c):rsT (.mk 28 0 [] [] [a,b,c]):=by refine⟨?_,by show(20:Int)<=28;omega,by show(28:Int)<=34;omega⟩;rw[Zg,rts,rts,rts,rts];exact⟨.if_ (.inr rfl),ha.2,ha.1,hb.2,hb.1,hc.2,hc.1,trivial⟩
def aBk{a b:Tn}(ha:rxT a)(hb:rb b):rsT (.mk 29 0 [] [] [a,b]):=by refine⟨?_,by show(20:Int)<=29;omega,by show(29:Int)<=34;omega⟩;rw[Zg,rts,rts,rts];exact⟨.two (.inl rfl),ha.2,ha.1,hb.2,hb.1,trivial⟩
def aTe{a b:Tn}(ha:rb a)(hb:rxT b):rsT (.mk 30 0 [] [] [a,b]):=by refine⟨?_,by show(20:Int)<=30;omega,by show(30:Int)<=34;omega⟩;rw[Zg,rts,rts,rts];exact⟨.two (.inr rfl),ha.2,ha.1,hb.2,hb.1,trivial⟩
def aIW{a b c d:Tn}(ha:roT a)(hb:roT b)(hc:roT c)(hd:rb d):rsT (.mk 31 0 [] [] [a,b,c,d]):=by refine⟨?_,by show(20:Int)<=31;omega,by show(31:Int)<=34;omega⟩;rw[Zg,rts,rts,rts,rts,rts];exact⟨.for_,ha.2,ha.1,hb.2,hb.1,hc.2,hc.1,hd.2,hd.1,trivial⟩
def aBl{x y:aC}{a:Tn}(hx:yx x=true)(hy:yx y=true)(ha:rb a):rsT (.mk 32 0 x y [a]):=by refine⟨?_,by show(20:Int)<=32;omega,by show(32:Int)<=34;omega⟩;rw[Zg,rts,rts];exact⟨.aBb hx hy,ha.2,ha.1,trivial⟩
section
variable {l:List Tk} (hT:acz l)
include hT
theorem apD{α:Type}{S:α->Prop}{x:α}{i:Nat}{nt:fM}(hx:S x)(hn:Us nt):gr S (endP l x i nt):=by
 unfold endP;cases U2 (dX l i) with
 |true=>exact⟨hx,hn⟩
 |false=>trivial
theorem apE(n i:Nat){nt:fM}(hn:Us nt):gr rxT (Xi l n i nt):=by
 unfold Xi;refine dw (AX hn) λ_ i nt _ hn=> ?_
 refine dw ((grx hT n).ex _ _ _ _ _ hn) λx i nt hx hn=> ?_
 exact dw (AX hn) λ_ i nt _ hn=>lu hx hn
theorem alv(n:Nat)(e:Int)(a:Bool)(i:Nat){nt:fM}(hn:Us nt):gr roT (MV l n e a i nt):=by
 unfold MV;refine iQ (λ_=>lu ⟨?_,.inl rfl⟩ hn) λ_=>dw ((grx hT n).ex _ _ _ _ _ hn) λx i nt hx hn=>lu ⟨hx.1,.inr hx.2⟩ hn
 rw[Zg,rts];exact⟨.none ak,trivial⟩
theorem auQ{j:Nat}(h:Jh (dX l j)=true):MS l j=[62]\/MS l j=[62,62]\/MS l j=[124]:=by
 unfold Jh at h;rw[Bool.or_eq_true,Bool.or_eq_true,beq_iff_eq,beq_iff_eq,beq_iff_eq] at h;have key:∀k:Int,dX l j=k->(k=62\/k=53\/k=64)->MS l j=spell k:=λk hk h3=>by
  have:=awh hT hk ak;unfold tX at this;cases hx:MS l j==[] with
  |true=>rw[hx] at this;cases this
  |false=>rw[hx] at this;rcases h3 with rfl|rfl|rfl<;>exact beq_iff_eq.1 this
 rcases h with h|h|h
 ·left;rw[key 62 h ak];rfl
 ·right;left;rw[key 53 h ak];rfl
 ·right;right;rw[key 64 h ak];rfl
theorem aIX(n i:Nat){nt:fM}(hk:dX l i=25\/dX l i=26)(hn:Us nt):gr rsT (ahi l n i nt):=by
 unfold ahi;have h1:gr (SL (if dX l i=26 then 1 else 0) 6) (bif dX l i==26|| !(U2 (dX l (i+1))||Jh (dX l (i+1))) then U1 l n false true [] (i+1) nt else .ok [] (i+1) nt):=by
  refine iQ (λ_=>awi ((grx hT n).it _ _ _ _ _ ⟨ae5,by simp,by simp⟩ hn) λL hL=>⟨hL.1,(by have:=hL.2.1;split<;>omega),hL.2.2⟩) λhc=>lu ⟨ae5, ?_,by simp⟩ hn
  rw[Bool.or_eq_false_iff,Rf] at hc;rw[if_neg hc.1];simp
 refine dw h1 λL j nt hL hn=> ?_
 have hop:dX l i - 25=0\/dX l i - 25=1:=ak;have hlen:dX l i - 25<=L.length:=by have:=hL.2.1;split at this<;>omega
 refine iQ (λhs=> ?_) λ_=>lu (amm ak (.prn hop hlen hL.2.2) hL.1) hn
 refine dw ((grx hT n).ex _ _ _ _ _ hn) λx k nt hx hn=>lu ?_ hn
 have:=hL.2.2;exact amm ak (.prt hop (auQ hT hs) (by simp;omega) (by simp;omega)) (asK hL.1 hx)
theorem awj(n:Nat)(k:Int)(i:Nat){nt:fM}(hk:k=23\/k=24)(hn:Us nt):gr rsT (ZH l n k i nt):=by
 unfold ZH;refine iQ (λ_=>lu (amm ak (.word hk (by simp)) ae5) hn) λ_=> ?_
 exact dw ((grx hT n).ex _ _ _ _ _ hn) λx i nt hx hn=>lu (amm ak (.word hk (by simp)) (all1 hx)) hn
theorem aIY(n i:Nat){nt:fM}(hn:Us nt):gr rsT (ak3 l n i nt):=by
 unfold ak3;refine dw (agd hT hn) λs i nt hs hn=> ?_
 refine iQ (λ_=> ?_) λ_=>lu (amm ak (.call ak hs (by simp)) ae5) hn
 refine dw ((grx hT n).it _ _ _ _ _ ⟨ae5,by simp,by simp⟩ hn) λL i nt hL hn=> ?_
 exact dw (AX hn) λ_ i nt _ hn=>lu (amm ak (.call ak hs hL.2.2) hL.1) hn
theorem aIZ(n i:Nat){nt:fM}(hn:Us nt):gr rsT (ak4 l n i nt):=by
 unfold ak4;refine iQ (λhc=>aIX hT n i (by rwa [Bool.or_eq_true,beq_iff_eq,beq_iff_eq] at hc) hn) λ_=> ?_
 refine iQ (λ_=>lu (amm ak (.none ak) ae5) hn) λ_=> ?_
 refine iQ (λ_=>lu (amm ak (.none ak) ae5) hn) λ_=> ?_
 refine iQ (λ_=>lu (amm ak (.none ak) ae5) hn) λ_=> ?_
 refine iQ (λ_=>awj hT n 23 i (.inl rfl) hn) λ_=> ?_
 refine iQ (λ_=>awj hT n 24 i (.inr rfl) hn) λ_=> ?_
 refine iQ (λ_=>aIY hT n i hn) λ_=> ?_
 exact dw ((grx hT n).ex _ _ _ _ _ hn) λx i nt hx hn=>lu (amm ak (.one ak) (all1 hx)) hn
end
structure GrS(l:List Tk)(n:Nat):Prop where
 st:∀i nt,Us nt->gr rsT (stP l n i nt)
 blk:∀i nt,Us nt->gr rb (MW l n i nt)
 aTf:∀L i nt,Zi rsT L->Us nt->gr (Zi rsT) (XC l n L i nt)
 body:∀i nt,Us nt->gr rb (ER l n i nt)
section
variable {l:List Tk} {n:Nat} (hT:acz l) (h:GrS l n)
include hT h
theorem aTg(i:Nat)(nt:fM)(hn:Us nt):gr rsT (stP l (n+1) i nt):=by
 unfold stP;refine iQ (λ_=>awi (h.blk _ _ hn) λ_=>aTd) λ_=> ?_
 refine iQ (λ_=> ?_) λ_=> ?_
 ·refine dw (apE hT n _ hn) λx i nt hx hn=> ?_
  refine dw (h.body _ _ hn) λy i nt hy hn=> ?_
  refine iQ (λ_=> ?_) λ_=>lu (aIU hx hy) hn
  exact dw (h.body _ _ (aje hT hn)) λz i nt hz hn=>lu (aIV hx hy hz) hn
 refine iQ (λ_=> ?_) λ_=> ?_
 ·refine dw (apE hT n _ hn) λx i nt hx hn=> ?_
  exact dw (h.body _ _ hn) λy i nt hy hn=>lu (aBk hx hy) hn
 refine iQ (λ_=> ?_) λ_=> ?_
 ·refine dw (h.body _ _ hn) λx i nt hx hn=> ?_
  refine dw (AX (aje hT hn)) λ_ i nt _ hn=> ?_
  exact dw (apE hT n _ hn) λy i nt hy hn=>apD hT (aTe hx hy) hn
 refine iQ (λ_=> ?_) λ_=> ?_
 ·refine dw (AX hn) λ_ i nt _ hn=> ?_
  refine iQ (λhc=> ?_) λ_=> ?_
  ·rw[BK,beq_iff_eq] at hc;refine dw (agd hT hn) λs j nt hs hn=> ?_
   refine dw (AX hn) λ_ j nt _ hn=> ?_
   exact dw (h.body _ _ hn) λy j nt hy hn=>lu (aBl (an2 hT hc.1 (.inl rfl)) hs hy) hn
  ·refine dw (alv hT n _ _ _ hn) λx i nt hx hn=> ?_
   refine dw (AX hn) λ_ i nt _ hn=> ?_
   refine dw (alv hT n _ _ _ (abO hT hn)) λy i nt hy hn=> ?_
   refine dw (AX hn) λ_ i nt _ hn=> ?_
   refine dw (alv hT n _ _ _ (abO hT hn)) λz i nt hz hn=> ?_
   refine dw (AX hn) λ_ i nt _ hn=> ?_
   exact dw (h.body _ _ hn) λw i nt hw hn=>lu (aIW hx hy hz hw) hn
 exact dw (aIZ hT n _ hn) λx i nt hx hn=>apD hT hx hn
theorem aI0(i:Nat)(nt:fM)(hn:Us nt):gr rb (MW l (n+1) i nt):=by
 unfold MW;refine dw (AX hn) λ_ i nt _ hn=> ?_
 exact dw (h.aTf _ _ _ agf hn) λL i nt hL hn=>lu (auP hL) hn
theorem aEy(L:List Tn)(i:Nat)(nt:fM)(hL:Zi rsT L)(hn:Us nt):gr (Zi rsT) (XC l (n+1) L i nt):=by
 rw[XC];have hs:=YD hL (aBj (aje hT (i:=i) hn));refine iQ (λ_=>lu hs Zj) λ_=>iQ (λ_=>trivial) λ_=> ?_
 exact dw (h.st _ _ Zj) λs i nt hx hn=>h.aTf _ _ _ (YD hs (agh hx)) hn
theorem aEz(i:Nat)(nt:fM)(hn:Us nt):gr rb (ER l (n+1) i nt):=by
 unfold ER;have hq:=abO hT (i:=i) hn;refine iQ (λ_=>h.blk _ _ hq) λ_=>iQ (λ_=>lu (auP (aBj hq)) Zj) λ_=> ?_
 exact dw (h.st _ _ Zj) λs i nt hx hn=>lu (auP (YD (aBj hq) (agh hx))) hn
end
def grs{l:List Tk}(hT:acz l):∀n,GrS l n
 |0=>⟨λ_ _ _=>by rw[stP];trivial,λ_ _ _=>by rw[MW];trivial,λ_ _ _ _ _=>by rw[XC];trivial,λ_ _ _=>by rw[ER];trivial⟩
 |n+1=>⟨aTg hT (grs hT n),aI0 hT (grs hT n),aEy hT (grs hT n),aEz hT (grs hT n)⟩
def rn(t:Tn):Prop:=Zg t/\t.kind=1
def aEA{s:aC}(h:yx s=true):rn (.mk 1 0 s [] []):=by refine⟨?_,rfl⟩;rw[Zg,rts];exact⟨.name h,trivial⟩
section
variable {l:List Tk} (hT:acz l)
include hT
theorem awk:∀(n:Nat) (L:List Tn) (i:Nat) (nt:fM),Zi rn L->L.length<=5->Us nt->gr (λL=>Zi rn L/\L.length<=6) (Ho l n L i nt)
 |0,L,i,nt,_,_,_=>by rw[Ho];trivial
 |n+1,L,i,nt,hL,h5,hn=>by
  rw[Ho];refine dw (agd hT hn) λs i nt hs hn=> ?_
  have h2:=YD hL (agh (aEA hs));refine iQ (λ_=>iQ (λ_=>trivial) λh6=> ?_) λ_=>lu ⟨h2,by simp;omega⟩ hn
  have h6':L.length+1≠6:=λe=>by rw[e] at h6;cases h6
  exact awk n _ _ _ h2 (by simp;omega) (abO hT hn)
theorem aI1{x:aC}{L:List Tn}{b:Tn}(hx:yx x=true)(hL:Zi rn L)(h6:L.length<=6)(hb:rb b):riT (.mk 44 0 x [] (L++[b])):=by
 refine⟨?_,.inl ⟨by show(40:Int)<=44;omega,by show(44:Int)<=44;omega⟩⟩;rw[Zg];refine⟨.func hx (by simp) (by simp;omega),agb λi t ht=> ?_⟩;have hl:(L++[b]).length=L.length+1:=by simp
 rw[hl,Nat.zero_add]
 by_cases hi:i<L.length
 ·rw[List.getElem?_append_left hi] at ht;have h:=hL t (UK ht);have hc:cls 44 0 (L.length+1) i=4:=by unfold cls;repeat(first|rw[if_pos ak]|rw[if_neg ak])
  rw[hc];exact⟨h.2,h.1⟩
 ·rw[List.getElem?_append_right ak] at ht;have hi0:i - L.length=0:=by have:=(QV.1 ht).1;simp at this;omega
  rw[hi0] at ht;cases ht;have hc:cls 44 0 (L.length+1) i=1:=by unfold cls;repeat(first|rw[if_pos ak]|rw[if_neg ak])
  rw[hc];exact⟨hb.2,hb.1⟩
theorem aI2(n i:Nat){nt:fM}(hn:Us nt):gr riT (ak5 l n i nt):=by
 unfold ak5;refine iQ (λhk=> ?_) λ_=>trivial
 rw[Bool.or_eq_true,beq_iff_eq,beq_iff_eq] at hk;have hx:yx (MS l i)=true:=by
  rcases hk with hk|hk
  ·exact an2 hT hk (.inl rfl)
  ·exact an2 hT hk (.inr rfl)
 refine dw (AX hn) λ_ j nt _ hn=> ?_
 refine dw (S:=λL=>Zi rn L/\L.length<=6) (iQ (λ_=>lu ⟨agf,by simp⟩ hn) λ_=>awk hT n _ _ _ agf (by simp) hn) λL j nt hL hn=> ?_
 refine dw (AX hn) λ_ j nt _ hn=> ?_
 exact dw ((grs hT n).blk _ _ (abO hT hn)) λb j nt hb hn=>lu (aI1 hT hx hL.1 hL.2 hb) hn
theorem aBm{k:Int}{b:Tn}(hk:k=40\/k=41)(hb:rb b):riT (.mk k 0 [] [] [b]):=by
 refine⟨?_,.inl ⟨by show 40<=k;omega,by show k<=44;omega⟩⟩;rw[Zg,rts,rts];have hc:cls k 0 [b].length 0=1:=by rcases hk with rfl|rfl<;>rfl
 rw[hc];exact⟨.one ak,hb.2,hb.1,trivial⟩
theorem aEB(n i:Nat){nt:fM}(hn:Us nt):gr riT (Xj l n i nt):=by
 unfold Xj;refine iQ (λ_=>dw ((grs hT n).blk _ _ hn) λb i nt hb hn=>lu (aBm hT (.inl rfl) hb) hn) λ_=> ?_
 refine iQ (λ_=>dw ((grs hT n).blk _ _ hn) λb i nt hb hn=>lu (aBm hT (.inr rfl) hb) hn) λ_=> ?_
 refine iQ (λ_=>aI2 hT n _ hn) λ_=> ?_
 refine iQ (λ_=>dw ((grs hT n).blk _ _ hn) λb i nt hb hn=>lu ?_ hn) λ_=> ?_
 ·refine⟨?_,.inl ⟨by show(40:Int)<=42;omega,by show(42:Int)<=44;omega⟩⟩;rw[Zg,rts,rts];exact⟨.rule (.inl ⟨.inr rfl,rfl⟩),hb.2,hb.1,trivial⟩
 refine dw ((grx hT n).ex _ _ _ _ _ hn) λx i nt hx hn=> ?_
 refine dw (S:=λq:Int×List Tn=>(q.1=42/\∃a,rxT a/\q.2=[a])\/(q.1=43/\∃a b,rxT a/\rxT b/\q.2=[a,b])) ?_ λq i nt hq hn=> ?_
 ·refine iQ (λ_=> ?_) λ_=>lu (.inl ⟨rfl,x.1,hx,rfl⟩) hn
  exact dw ((grx hT n).ex _ _ _ _ _ (abO hT hn)) λy i nt hy hn=>lu (.inr ⟨rfl,x.1,y.1,hx,hy,rfl⟩) hn
 ·obtain⟨q1,q2⟩:=q;rcases hq with⟨h1,a,ha,h2⟩|⟨h1,a,c,ha,hc,h2⟩
  ·simp only at h1 h2;subst h1 h2;refine iQ (λ_=>dw ((grs hT n).blk _ _ hn) λb i nt hb hn=>lu ⟨?_,.inl ⟨by show(40:Int)<=42;omega,by show(42:Int)<=44;omega⟩⟩ hn) λ_=>apD hT ⟨?_,.inl ⟨by show(40:Int)<=42;omega,by show(42:Int)<=44;omega⟩⟩ hn
   ·show Zg (.mk 42 3 [] [] [a,b]);rw[Zg,rts,rts,rts];exact⟨.rule (.inr ⟨rfl,rfl⟩),ha.2,ha.1,hb.2,hb.1,trivial⟩
   ·rw[Zg,rts,rts];exact⟨.rule (.inl ⟨.inl rfl,rfl⟩),ha.2,ha.1,trivial⟩
  ·simp only at h1 h2;subst h1 h2;refine iQ (λ_=>dw ((grs hT n).blk _ _ hn) λb i nt hb hn=>lu ⟨?_,.inl ⟨by show(40:Int)<=43;omega,by show(43:Int)<=44;omega⟩⟩ hn) λ_=>apD hT ⟨?_,.inl ⟨by show(40:Int)<=43;omega,by show(43:Int)<=44;omega⟩⟩ hn
   ·show Zg (.mk 43 3 [] [] [a,c,b]);rw[Zg,rts,rts,rts,rts];exact⟨.range (.inr ⟨rfl,rfl⟩),ha.2,ha.1,hc.2,hc.1,hb.2,hb.1,trivial⟩
   ·rw[Zg,rts,rts,rts];exact⟨.range (.inl ⟨rfl,rfl⟩),ha.2,ha.1,hc.2,hc.1,trivial⟩
theorem awl:∀(n:Nat) (L:List Tn) (i:Nat) (nt:fM),Zi riT L->Us nt->gr (Zi riT) (O8 l n L i nt)
 |0,L,i,nt,_,_=>by rw[O8];trivial
 |n+1,L,i,nt,hL,hn=>by
  rw[O8];have hs:=YD hL (aTc (aje hT (i:=i) hn));refine iQ (λ_=>lu hs Zj) λ_=>iQ (λ_=>trivial) λ_=> ?_
  exact dw (aEB hT n _ Zj) λs i nt hx hn=>awl n _ _ _ (YD hs (agh hx)) hn
end
def aEC{L:List Tn}(h:Zi riT L):Zg (.mk 45 0 [] [] L):=by rw[Zg];exact⟨.many (.inr rfl),agb λi t ht=>by have:=h t (UK ht);exact⟨this.2,this.1⟩⟩
end Go.Proofs.YtflhkdjglihbmaaGreatDoor
namespace Go.Proofs.YtflhkdjglihbmaaGreatDoor
open Go Go.Vm
def PlT(N:Nat)(l:List Tk):Prop:=∀t,t∈l->0<=t.at_/\t.at_+(t.text.length:Int)<=N
inductive PgT(l:List Tk)(N:Nat):Bool->List Nd->Int->Int->Prop where
 |bad {k p:Int}:1<=k->k<=4->0<=p->p<=N->PgT l N true [] k p
 |ok {L:List Tn} {j:Nat} {nt:fM}:Wq l=true->O8 l (60 * (l.length - 0)+52) [] 0 []=.ok L j nt->(Tn.mk 45 0 [] [] L).size<=400->depth ((Tn.mk 45 0 [] [] L).flat 0)<=40->RV (.mk 45 0 [] [] L)->PgT l N false ((Tn.mk 45 0 [] [] L).flat 0) 0 0
def aBn{l:List Tk}(h:Wq l=true):acz l:=λt ht=>by rw[Wq,BK] at h;exact alj l 0 h.2 t ht
def PgT.right{l:List Tk}{N:Nat}{L:List Tn}{j:Nat}{nt:fM}(ht:Wq l=true)(hp:O8 l (60 * (l.length - 0)+52) [] 0 []=.ok L j nt)(hz:(Tn.mk 45 0 [] [] L).size<=400)(hd:depth ((Tn.mk 45 0 [] [] L).flat 0)<=40)(hs:RV (.mk 45 0 [] [] L)):
  KL ((Tn.mk 45 0 [] [] L).flat 0)=true:=by
 have h:=awl (aBn ht) (60 * (l.length - 0)+52) [] 0 [] agf Zj;rw[hp] at h;exact auO (aEC h.1) hs hz hd
def ajf{s:aC}(hs:s.length<=1048576):∀(f i:Nat) (bf:Int) (acc l:List Tk),i<=s.length->PlT s.length acc->WB s f i bf acc=.inl l->PlT s.length l
 |0,i,bf,acc,l,hi,ha,h=>by rw[WB] at h;cases h;exact ha
 |f+1,i,bf,acc,l,hi,ha,h=>by
  rw[WB] at h;cases hb:Nat.ble s.length i with
  |true=>rw[hb] at h;cases h;exact ha
  |false=>
  have hlt:i<s.length:=by
   have:¬(Nat.ble s.length i=true):=by rw[hb];simp
   rw[Nat.ble_eq] at this;omega
  rw[hb,bC] at h;cases hc:af9 (qh s i) with
  |true=>rw[hc] at h;exact ajf hs f _ _ _ _ ak ha h
  |false=>
  rw[hc,bC] at h;cases hd:(qh s i==92 && qh s ((i+1:Nat):Int)==10) with
  |true=>
   rw[hd] at h;have:i+1<s.length:=by
    by_cases hcc:i+1<s.length
    ·exact hcc
    ·rw[Xm (a:=((i+1:Nat):Int)) ak] at hd;rw[BK] at hd;cases hd.2
   exact ajf hs f _ _ _ _ ak ha h
  |false=>
  rw[hd,bC] at h;cases ht:FD s i bf with
  |none=>rw[ht] at h;cases h
  |some p=>
   rw[ht] at h;have hp:=OJ hs hlt bf ht;refine ajf hs f _ _ _ _ hp.2.2 (λt hm=> ?_) h;rcases List.mem_append.1 hm with hm|hm
   ·exact ha t hm
   ·rw[List.mem_singleton] at hm;rw[hm];have:=hp.2.2;exact⟨by simp only;omega,by simp only;omega⟩
def ajg{s:aC}(hs:s.length<=1048576):∀(f i:Nat) (bf:Int) (acc:List Tk) (a:Nat),i<=s.length->WB s f i bf acc=.inr a->a<=s.length
 |0,i,bf,acc,a,hi,h=>by rw[WB] at h;cases h
 |f+1,i,bf,acc,a,hi,h=>by
  rw[WB] at h;cases hb:Nat.ble s.length i with
  |true=>rw[hb] at h;cases h
  |false=>
  have hlt:i<s.length:=by
   have:¬(Nat.ble s.length i=true):=by rw[hb];simp
   rw[Nat.ble_eq] at this;omega
  rw[hb,bC] at h;cases hc:af9 (qh s i) with
  |true=>rw[hc] at h;exact ajg hs f _ _ _ _ ak h
  |false=>
  rw[hc,bC] at h;cases hd:(qh s i==92 && qh s ((i+1:Nat):Int)==10) with
  |true=>
   rw[hd] at h;have:i+1<s.length:=by
    by_cases hcc:i+1<s.length
    ·exact hcc
    ·rw[Xm (a:=((i+1:Nat):Int)) ak] at hd;rw[BK] at hd;cases hd.2
   exact ajg hs f _ _ _ _ ak h
  |false=>
  rw[hd,bC] at h;cases ht:FD s i bf with
  |none=>rw[ht] at h;cases h;exact hi
  |some p=>rw[ht] at h;have hp:=OJ hs hlt bf ht;exact ajg hs f _ _ _ _ hp.2.2 h
def aED(s:aC)(hs:s.length<=1048576):PlT s.length (GY s).1/\(((GY s).2.1=0/\(GY s).2.2=0)\/((GY s).1=[]/\1<=(GY s).2.1/\(GY s).2.1<=4/\0<=(GY s).2.2/\(GY s).2.2<=s.length)):=by
 unfold GY;split
 ·exact⟨λt h=>(by cases h),.inr ⟨rfl,by simp,by simp,by simp,by simp⟩⟩
 ·cases h:WB s (s.length+1) 0 0 [] with
  |inl l=>exact⟨ajf hs _ 0 0 [] l (Nat.zero_le _) (λt h=>(by cases h)) h,.inl ⟨rfl,rfl⟩⟩
  |inr a=>have:=ajg hs _ 0 0 [] a (Nat.zero_le _) h;exact⟨λt h=>(by cases h),.inr ⟨rfl,by simp,by simp,by simp,by simp only;omega⟩⟩
structure Sm(l:List Tk)(n:Nat):Prop where
 ex:∀lv a b i nt,UH nt->good SX (ex l n lv a b i nt)
 ch:∀lv a b x i nt,SX x->UH nt->good SX (chP l n lv a b x i nt)
 inp:∀a x i nt,SX x->UH nt->good SX (inP l n a x i nt)
 pre:∀i nt,UH nt->good SX (XB l n i nt)
 lst:∀e i nt,UH nt->good KQ (UG l n e i nt)
 it:∀a b L i nt,KQ L->UH nt->good KQ (U1 l n a b L i nt)
section
variable {l:List Tk} {n:Nat} (hT:∀t,t∈l->t.text.length<=1048576) (h:Sm l n)
def auR(hT:∀t,t∈l->t.text.length<=1048576)(i:Nat):(MS l i).length<=1048576:=by
 unfold MS;split
 ·next t ht=>exact hT t (UK ht)
 ·exact Nat.zero_le _
def ain(hT:∀t,t∈l->t.text.length<=1048576){i:Nat}{nt:fM}(hn:UH nt):UH (nl l i nt).2:=ajd _ _ _ (λt ht=>hT t (List.mem_of_mem_drop ht)) hn
def apF(hT:∀t,t∈l->t.text.length<=1048576){i:Nat}{nt:fM}(hn:UH nt):UH (sep l i nt).2:=agc _ _ _ (λt ht=>hT t (List.mem_of_mem_drop ht)) hn
def aEE(hT:∀t,t∈l->t.text.length<=1048576){k:Int}{i:Nat}{nt:fM}(hn:UH nt):good SX (adY k l i nt):=⟨⟨⟨auR hT i,Nat.zero_le _⟩,trivial⟩,hn⟩
def ab7{x:Xp}{j:Nat}{nt:fM}(hx:SX x)(hn:UH nt):good SX (.ok x j nt):=⟨hx,hn⟩
def mk1{k o:Int}{x:Tn}{b:Bool}(h:RV x):SX (.mk k o [] [] [x],b):=⟨⟨Nat.zero_le _,Nat.zero_le _⟩,h,trivial⟩
def mk2{k o:Int}{x y:Tn}{b:Bool}(h:RV x)(h2:RV y):SX (.mk k o [] [] [x,y],b):=⟨⟨Nat.zero_le _,Nat.zero_le _⟩,h,h2,trivial⟩
def mk3{k o:Int}{x y z:Tn}{b:Bool}(h:RV x)(h2:RV y)(h3:RV z):SX (.mk k o [] [] [x,y,z],b):=⟨⟨Nat.zero_le _,Nat.zero_le _⟩,h,h2,h3,trivial⟩
def mkL{k o:Int}{s:aC}{L:List Tn}{b:Bool}(hs:s.length<=1048576)(h:KQ L):SX (.mk k o s [] L,b):=⟨⟨hs,Nat.zero_le _⟩,h⟩
def smP{P:Prop} (h:P:=by
 repeat' first
  |exact YC (by assumption)
  |exact an3 (auR (by assumption)) (by assumption)
  |exact aEF (by assumption) _ _ _ (by assumption)
  |exact asR (by assumption) _ _ _ _ _ (by assumption)
  |exact asR (by assumption) _ _ _ _ _ (ain (by assumption) (by assumption))
  |exact YC (apF (by assumption) (by assumption))
  |apply tC
  |exact Sm.ex (by assumption) _ _ _ _ _ (by assumption)
  |exact Sm.ch (by assumption) _ _ _ _ _ _ (by assumption) (by assumption)
  |exact Sm.inp (by assumption) _ _ _ _ (by assumption) (by assumption)
  |exact Sm.pre (by assumption) _ _ (by assumption)
  |exact Sm.lst (by assumption) _ _ _ (by assumption)
  |exact Sm.it (by assumption) _ _ _ _ _ trivial (by assumption)
  |exact(sm (by assumption) _).ex _ _ _ _ _ (by assumption)
  |exact(sm (by assumption) _).it _ _ _ _ _ trivial (by assumption)
  |exact aEE (by assumption) (by assumption)
  |exact Sm.inp (by assumption) _ _ _ _ (mkL (by assumption) (by assumption)) (by assumption)
  |exact ab7 (by assumption) (by assumption)
  |exact ab7 (mk1 (by assumption)) (by assumption)
  |exact ab7 (mk2 (by assumption) (by assumption)) (by assumption)
  |exact ab7 (mk3 (by assumption) (by assumption) (by assumption)) (by assumption)
  |exact ab7 (mkL (auR (by assumption) _) (by assumption)) (by assumption)
  |refine oI (S:=SX) ?_ (λx j m hx hm=> ?_)
  |refine oI (S:=KQ) ?_ (λx j m hx hm=> ?_)
  |refine oI (S:=λ_:Unit=>True) ?_ (λx j m hx hm=> ?_)
  |refine oI (S:=λs:aC=>s.length<=1048576) ?_ (λx j m hx hm=> ?_)
  |exact Sm.inp (by assumption) _ _ _ _ (⟨⟨by assumption,Nat.zero_le _⟩,by assumption,trivial⟩:SX (.mk 13 0 _ [] [_],false)) (by assumption)
  |exact⟨by assumption,by assumption⟩
  |exact⟨trivial,by assumption⟩
  |exact⟨⟨⟨Nat.zero_le _,Nat.zero_le _⟩,trivial⟩,by assumption⟩
  |exact⟨⟨⟨by assumption,Nat.zero_le _⟩,trivial⟩,by assumption⟩
  |exact⟨⟨⟨by assumption,Nat.zero_le _⟩,by assumption⟩,by assumption⟩
  |exact⟨⟨⟨Nat.zero_le _,Nat.zero_le _⟩,by assumption⟩,by assumption⟩
  |exact⟨⟨⟨Nat.zero_le _,Nat.zero_le _⟩,by assumption,trivial⟩,by assumption⟩
  |exact⟨⟨⟨Nat.zero_le _,auR (by assumption) _⟩,KR _ _ (by assumption) ⟨by assumption,trivial⟩⟩,by assumption⟩
  |exact aI3 (by assumption) _ _ _ (by assumption)
  |exact aEG (by assumption) _ _ _ _ (by assumption)
  |exact aI4 (by assumption) _ _ _ (by assumption)
  |exact aI5 (by assumption) _ _ _ (by assumption)
  |exact auS (by assumption) (by assumption)
  |exact SmS.st (by assumption) _ _ (by assumption)
  |exact SmS.blk (by assumption) _ _ (by assumption)
  |exact SmS.body (by assumption) _ _ (by assumption)
  |exact SmS.body (by assumption) _ _ (apF (by assumption) (by assumption))
  |exact auS ⟨⟨Nat.zero_le _,Nat.zero_le _⟩,by assumption,by assumption,trivial⟩ (by assumption)
  |exact⟨⟨⟨Nat.zero_le _,Nat.zero_le _⟩,by assumption,by assumption,trivial⟩,by assumption⟩
  |exact⟨⟨⟨Nat.zero_le _,Nat.zero_le _⟩,by assumption,by assumption,by assumption,trivial⟩,by assumption⟩
  |exact⟨⟨⟨Nat.zero_le _,Nat.zero_le _⟩,by assumption,by assumption,by assumption,by assumption,trivial⟩,by assumption⟩
  |exact⟨⟨⟨auR (by assumption) _,by assumption⟩,by assumption,trivial⟩,by assumption⟩
  |refine oI (S:=RV) ?_ (λx j m hx hm=> ?_)
  |trivial
 ):P:=h
include hT h
theorem aTh(lv:Nat)(a b:Bool)(i:Nat)(nt:fM)(hn:UH nt):good SX (ex l (n+1) lv a b i nt):=by unfold ex;split<;>exact smP
theorem aI6(a:Bool)(x:Xp)(i:Nat)(nt:fM)(hx0:SX x)(hn:UH nt):good SX (inP l (n+1) a x i nt):=by unfold inP;exact smP
theorem aI7(i:Nat)(nt:fM)(hn:UH nt):good SX (XB l (n+1) i nt):=by have:=hT;unfold XB;exact smP
theorem aI8(e:Int)(i:Nat)(nt:fM)(hn:UH nt):good KQ (UG l (n+1) e i nt):=by have:=hT;unfold UG;exact smP
theorem aTi(a b:Bool)(L:List Tn)(i:Nat)(nt:fM)(hL:KQ L)(hn:UH nt):good KQ (U1 l (n+1) a b L i nt):=by rw[U1];refine oI (S:=SX) (h.ex _ _ _ _ _ hn) (λx j m hx hm=> ?_);have h2:KQ (L++[x.1]):=KR L [x.1] hL ⟨hx,trivial⟩;exact tC (tC trivial (h.it _ _ _ _ _ h2 (ain hT hm))) ⟨h2,hm⟩
theorem aTj(lv:Nat)(a b:Bool)(x:Xp)(i:Nat)(nt:fM)(hx0:SX x)(hn:UH nt):good SX (chP l (n+1) lv a b x i nt):=by
 rw[chP];refine tC ?_ (ab7 hx0 hn);have hq:UH (bif Nat.beq lv 8 then(i,nt) else bif Nat.ble lv 4 then nl l (i+1) nt else(i+1,nt)).2:=by
  cases Nat.beq lv 8<;>cases Nat.ble lv 4
  ·exact hn
  ·exact ain hT hn
  ·exact hn
  ·exact hn
 refine oI (S:=SX) (h.ex _ _ _ _ _ hq) (λy j m hy hm=> ?_);exact h.ch _ _ _ _ _ _ (mk2 hx0 hy) hm
end
def sm{l:List Tk}(hT:∀t,t∈l->t.text.length<=1048576):∀n,Sm l n
 |0=>⟨λ_ _ _ _ _ _=>by rw[ex];trivial,λ_ _ _ _ _ _ _ _=>by rw[chP];trivial,λ_ _ _ _ _ _=>by rw[inP];trivial,λ_ _ _=>by rw[XB];trivial,λ_ _ _ _=>by rw[UG];trivial,λ_ _ _ _ _ _ _=>by rw[U1];trivial⟩
 |n+1=>⟨aTh hT (sm hT n),aTj hT (sm hT n),aI6 hT (sm hT n),aI7 hT (sm hT n),aI8 hT (sm hT n),aTi hT (sm hT n)⟩
section
variable {l:List Tk} (hT:∀t,t∈l->t.text.length<=1048576)
include hT
theorem aEF(n i:Nat)(nt:fM)(hn:UH nt):good RV (Xi l n i nt):=by unfold Xi;exact smP
theorem asR(n:Nat)(e:Int)(a:Bool)(i:Nat)(nt:fM)(hn:UH nt):good RV (MV l n e a i nt):=by unfold MV;exact smP
theorem aI3(n i:Nat)(nt:fM)(hn:UH nt):good RV (ahi l n i nt):=by unfold ahi;exact smP
theorem aEG(n:Nat)(k:Int)(i:Nat)(nt:fM)(hn:UH nt):good RV (ZH l n k i nt):=by unfold ZH;exact smP
theorem aI4(n i:Nat)(nt:fM)(hn:UH nt):good RV (ak3 l n i nt):=by unfold ak3;exact smP
end
def auS{l:List Tk}{x:Tn}{j:Nat}{m:fM}(hx:RV x)(hm:UH m):good RV (endP l x j m):=by unfold endP;exact tC ⟨hx,hm⟩ trivial
def awm:∀nt:fM,UH nt->KQ (Yv nt)
 |[],_=>trivial
 |s::nt,h=>⟨⟨⟨h s zmf,Nat.zero_le _⟩,trivial⟩,awm nt λu hu=>h u (zmm _ hu)⟩
def ae7:UH []:=λs h=>by cases h
section
variable {l:List Tk} (hT:∀t,t∈l->t.text.length<=1048576)
include hT
theorem aI5(n i:Nat)(nt:fM)(hn:UH nt):good RV (ak4 l n i nt):=by unfold ak4;exact smP
end
structure SmS(l:List Tk)(n:Nat):Prop where
 st:∀i nt,UH nt->good RV (stP l n i nt)
 blk:∀i nt,UH nt->good RV (MW l n i nt)
 lines:∀L i nt,KQ L->UH nt->good KQ (XC l n L i nt)
 body:∀i nt,UH nt->good RV (ER l n i nt)
section
variable {l:List Tk} {n:Nat} (hT:∀t,t∈l->t.text.length<=1048576) (h:SmS l n)
include hT h
theorem aTk(i:Nat)(nt:fM)(hn:UH nt):good RV (stP l (n+1) i nt):=by unfold stP;exact smP
theorem aI9(i:Nat)(nt:fM)(hn:UH nt):good RV (MW l (n+1) i nt):=by have:=hT;rw[MW];refine oI (S:=λ_:Unit=>True) (YC hn) (λx j m hx hm=> ?_);refine oI (S:=KQ) (h.lines [] j m trivial hm) (λL j m hL hm=> ?_);exact⟨⟨⟨Nat.zero_le _,Nat.zero_le _⟩,hL⟩,hm⟩
theorem aBo(L:List Tn)(i:Nat)(nt:fM)(hL:KQ L)(hn:UH nt):good KQ (XC l (n+1) L i nt):=by rw[XC];have h2:KQ (L++Yv (sep l i nt).2):=KR _ _ hL (awm _ (apF hT hn));refine tC ⟨h2,ae7⟩ (tC trivial ?_);refine oI (S:=RV) (h.st _ _ ae7) (λx j m hx hm=> ?_);exact h.lines _ _ _ (KR _ _ h2 ⟨hx,trivial⟩) hm
theorem aEH(i:Nat)(nt:fM)(hn:UH nt):good RV (ER l (n+1) i nt):=by rw[ER];have h2:=awm _ (ain hT (i:=i) hn);refine tC (h.blk _ _ (ain hT hn)) (tC ⟨⟨⟨Nat.zero_le _,Nat.zero_le _⟩,h2⟩,ae7⟩ ?_);refine oI (S:=RV) (h.st _ _ ae7) (λx j m hx hm=> ?_);exact⟨⟨⟨Nat.zero_le _,Nat.zero_le _⟩,KR _ _ h2 ⟨hx,trivial⟩⟩,hm⟩
end
def smS{l:List Tk}(hT:∀t,t∈l->t.text.length<=1048576):∀n,SmS l n
 |0=>⟨λ_ _ _=>by rw[stP];trivial,λ_ _ _=>by rw[MW];trivial,λ_ _ _ _ _=>by rw[XC];trivial,λ_ _ _=>by rw[ER];trivial⟩
 |n+1=>⟨aTk hT (smS hT n),aI9 hT (smS hT n),aBo hT (smS hT n),aEH hT (smS hT n)⟩
section
variable {l:List Tk} (hT:∀t,t∈l->t.text.length<=1048576)
include hT
theorem awn:∀(n:Nat) (L:List Tn) (i:Nat) (nt:fM),KQ L->UH nt->good KQ (Ho l n L i nt)
 |0,L,i,nt,hL,hn=>by rw[Ho];trivial
 |n+1,L,i,nt,hL,hn=>by rw[Ho];refine oI (S:=λs:aC=>s.length<=1048576) (an3 (auR hT) hn) (λs j m hs hm=> ?_);have h2:KQ (L++[.mk 1 0 s [] []]):=KR _ _ hL ⟨⟨⟨hs,Nat.zero_le _⟩,trivial⟩,trivial⟩;exact tC (tC trivial (awn n _ _ _ h2 (ain hT hm))) ⟨h2,hm⟩
theorem aJa(n i:Nat)(nt:fM)(hn:UH nt):good RV (ak5 l n i nt):=by unfold ak5;refine tC ?_ trivial;refine oI (S:=λ_:Unit=>True) (YC hn) (λx j m hx hm=> ?_);refine oI (S:=KQ) (tC ⟨trivial,hm⟩ (awn hT n [] j m trivial hm)) (λL j m hL hm=> ?_);refine oI (S:=λ_:Unit=>True) (YC hm) (λx j m hx hm=> ?_);refine oI (S:=RV) ((smS hT n).blk _ _ (ain hT hm)) (λb j m hb hm=> ?_);exact⟨⟨⟨auR hT _,Nat.zero_le _⟩,KR _ _ hL ⟨hb,trivial⟩⟩,hm⟩
theorem aEI(n i:Nat)(nt:fM)(hn:UH nt):good RV (Xj l n i nt):=by
 have hb:∀(k o:Int) (j:Nat) (m:fM),UH m->good RV ((MW l n j m).bind λb i nt=> .ok (.mk k o [] [] [b]) i nt):=λk o j m hm=>oI (S:=RV) ((smS hT n).blk _ _ hm) λb j m hb hm=>⟨⟨⟨Nat.zero_le _,Nat.zero_le _⟩,hb,trivial⟩,hm⟩
 unfold Xj;refine tC (hb _ _ _ _ hn) (tC (hb _ _ _ _ hn) (tC (aJa hT n _ nt hn) (tC (hb _ _ _ _ hn) ?_)));refine oI (S:=SX) ((sm hT n).ex _ _ _ _ _ hn) (λx j m hx hm=> ?_);refine oI (S:=λq:Int×List Tn=>KQ q.2) (tC ?_ ⟨⟨hx,trivial⟩,hm⟩) (λq j m hq hm=> ?_)
 ·exact oI (S:=SX) ((sm hT n).ex _ _ _ _ _ (ain hT hm)) λy j m hy hm=>⟨⟨hx,hy,trivial⟩,hm⟩
 ·refine tC (oI (S:=RV) ((smS hT n).blk _ _ hm) λb j m hb hm=> ?_) (auS ⟨⟨Nat.zero_le _,Nat.zero_le _⟩,hq⟩ hm);exact⟨⟨⟨Nat.zero_le _,Nat.zero_le _⟩,KR _ _ hq ⟨hb,trivial⟩⟩,hm⟩
theorem awo:∀(n:Nat) (L:List Tn) (i:Nat) (nt:fM),KQ L->UH nt->good KQ (O8 l n L i nt)
 |0,L,i,nt,hL,hn=>by rw[O8];trivial
 |n+1,L,i,nt,hL,hn=>by rw[O8];have h2:KQ (L++Yv (sep l i nt).2):=KR _ _ hL (awm _ (apF hT hn));refine tC ⟨h2,ae7⟩ (tC trivial ?_);refine oI (S:=RV) (aEI hT n _ _ ae7) (λx j m hx hm=> ?_);exact awo n _ _ _ (KR _ _ h2 ⟨hx,trivial⟩) hm
end
def auT(l:List Tk)(hl:l.length<=1048576)(hf:∀t,t∈l->I64 t.kind/\t.text.length<=1048576):M.Bz (aF l)=some (Wq l):=by
 simp only[M.Bz,M.Oj,eH,Wq]
 by_cases h3:l.length<=3000
 ·rw[xK ak,bC,zdt h3,Bool.true_and];obtain⟨b2,h2⟩:=anX (l:=l) (z:=true) (B:=M.CO (aF l) (aF l) (l.length:Int)) (λi t b ht=>axS h3 hf ht b) (λb=>by simp only[M.CO,M.CJ,M.kE];rw[xK ak,bC]) l.length 0 0 ak (Nat.zero_le _);rw[ND,List.drop_zero] at h2;rw[aA3] at h2;rw[M.LY,h2];cases af7 false 0 l<;>rfl
 ·rw[zdt ak,aH,xK h3];rfl
def aTl(k:Int):M.zJ k=some (asC k):=by simp only[M.zJ,M.Qw,asC];cases k==32<;>first|rfl|(cases k==34<;>rfl)
def aTm(k:Int):M.zK k=some (auF k):=by simp only[M.zK,M.Qx,auF];cases k==33<;>first|rfl|(cases k==35<;>rfl)
def aJb{l:List Tk}(hl:l.length<=3000){i:Nat}{t:Tk}(ht:l[i]? =some t){d:Int}(h0:0<=d)(h1:d<=40):M.Gz (aF l) (l.length:Int) (d,(i:Int))=some (bif decide (nst d t.kind>40) then .inr (.inl (i:Int)) else .inl (nst d t.kind,((i+1:Nat):Int))):=by
 have hi:=(QV.1 ht).1;have hw:i64.wrap ((i:Int)+1)=((i+1:Nat):Int):=by rw[aJ ak ak];omega
 have wa:i64.wrap (d+1)=d+1:=aJ ak ak;have wb:i64.wrap (d - 1)=d - 1:=aJ ak ak;simp only[M.Gz,M.Gy,hw,wa,wb];rw[zdt ak,aH];simp only[cO,pX,ht,MI,ah,cT0,cT1,cT2,aTl,aTm];cases ho:asC t.kind with
 |true=>rw[aS0 ho];simp only[aH];cases decide (d+1>40)<;>rfl
 |false=>
  cases hc:auF t.kind with
  |true=>rw[aS1 ho hc];simp only[aH,bC];cases decide ((bif decide (d - 1<0) then 0 else d - 1)>40)<;>rfl
  |false=>rw[aS2 ho hc];simp only[aH,bC];cases decide (d>40)<;>rfl
def aBp(l:List Tk)(hl:l.length<=3000):M.He (aF l)=some (alk l):=by obtain⟨b2,h2⟩:=anZ (l:=l) (B:=M.Gz (aF l) (l.length:Int)) (λi t d ht h0 h1=>aJb hl ht h0 h1) (λb=>by simp only[M.Gz,M.Gy];rw[xK ak,bC]) l.length 0 0 ak (Nat.zero_le _) (by decide) (by decide);rw[ND,List.drop_zero] at h2;simp only[M.He,M.TI,eH];rw[M.Qy,h2,alk];cases anY 0 0 l<;>rfl
def awp(l:List Tk)(hl:l.length<=3000){N:Nat}(hN:N<=1048576)(hp:PlT N l)(j:Nat):∃p,M.pJ (aF l) (j:Int)=some p/\0<=p/\p<=N:=by
 simp only[M.pJ,M.Qz,eH]
 by_cases h:j<l.length
 ·obtain⟨t,ht⟩:∃t,l[j]? =some t:=⟨l[j],by simp[h]⟩
  have:=hp t (UK ht);rw[zdt ak];simp only[aH,cO,pX,ht,MI,ah,cT2];exact⟨_,rfl,ak,ak⟩
 ·rw[xK ak];simp only[bC];cases l with
  |nil=>exact⟨0,rfl,ak,ak⟩
  |cons t0 l0=>
   have e:(((t0::l0).length:Int)==0)=false:=by rw[Rf,GX];omega
   have hw:i64.wrap (((t0::l0).length:Int) - 1)=(l0.length:Int):=by rw[aJ ak ak,GX];omega
   obtain⟨t,ht⟩:∃t,(t0::l0)[l0.length]? =some t:=⟨(t0::l0)[l0.length],by simp⟩
   have:=hp t (UK ht);have hw2:i64.wrap (t.at_+(t.text.length:Int))=t.at_+(t.text.length:Int):=aJ ak ak;rw[e,hw];simp only[bC,cO,pX,ht,MI,ah,cT0,cT1,cT2,hw2];exact⟨_,rfl,ak,ak⟩
def axZ{t:Tn}(hs:t.size<=1048576)(w:Bool):∃k,M.vY t.kind t.op t.text t.other (dO w t.kids)=some (k,0)/\(k=0\/k=1\/k=4)/\(k=0↔t.size<=400/\depth (t.flat 0)<=40):=by
 have a1:=M.afO (av9 w t.size t t.kind t.op t.text t.other (zaV _) hs);have a2:=M.Wi (asA w t.size t t.kind t.op t.text t.other (zaV _) hs);simp only[M.vY,M.QD,a1,ah]
 by_cases h4:t.size<=400
 ·have hk:=t.agP;have e:=asB t.size t 0 (Lies.whole t);rw[show 0+sizes t.kids=t.size - 1 by omega] at e;have hd:depth (t.flat 0)=dF t.size t:=by rw[depth,aA2 t h4,if_pos rfl,t.flat_length,e]
  rw[xK ak,bC,hd,a2,ah]
  by_cases hc:dF t.size t>40
  ·rw[zdt hc];exact⟨4,rfl,ak,ak⟩
  ·rw[xK hc];exact⟨0,rfl,ak,ak⟩
 ·rw[zdt ak];exact⟨1,rfl,ak,ak⟩
def amn(l:List Tk)(hl:l.length<=1048576)(hf:∀t,t∈l->I64 t.kind/\t.text.length<=1048576){N:Nat}(hN:N<=1048576)(hpl:PlT N l):
  ∃fl q k p,M.iW (aF l)=some (dQ true q,k,p)/\PgT l N fl q k p:=by
 have hT:=auT l hl hf;have e0:∀o,dQ o []=[]:=λ_=>rfl
 cases ht:Wq l with
 |false=>rw[ht] at hT;refine⟨true,[],2,0, ?_,.bad ak ak ak ak⟩;simp only[M.iW,M.yu,M.vX,M.GH,hT,ah];rfl
 |true=>
  rw[ht] at hT;have h3:l.length<=3000:=by have:=ht;rw[Wq,BK,decide_eq_true_eq] at this;exact this.1
  have hNs:=aBp l h3
  by_cases hn:alk l<0
  ·have hc:M.vX (aF l)=some (0,0):=by simp only[M.vX,M.GH,hT,hNs,ah,zaU,bC];rw[xK ak,bC]
   have hi:=aEm ak (auE ht) hc (60 * (l.length - 0)+52);have hto:=asj (l:=l) (60 * (l.length - 0)+52) [] 0 [] (zaV _);have hsm:=awo (l:=l) (λt ht=>(hf t ht).2) (60 * (l.length - 0)+52) [] 0 [] trivial ae7;have hsz:=av2 (l:=l) (60 * (l.length - 0)+52) [] 0 [] (Nat.zero_le _);generalize hp:O8 l (60 * (l.length - 0)+52) [] 0 []=p at hi hto hsm hsz;cases p with
   |out=>exact hto.elim
   |bad j=>
    have hi:M.iW (aF l)=(M.pJ (aF l) (j:Int)).bind λr=>some ([],3,r):=hi
    obtain⟨p,p1,p3,p4⟩:=awp l h3 hN hpl j;refine⟨true,[],3,p, ?_,.bad ak ak p3 p4⟩;rw[hi,p1,ah];rfl
   |ok L j nt=>
    have hi:M.iW (aF l)=aEl (dO false L):=hi;have hts:(Tn.mk 45 0 [] [] L).size=sizes L+1:=rfl;obtain⟨hfn, -,hz⟩:=hsz;rw[sizes0,OT] at hz;have hzz:sizes L<=18000:=ak;obtain⟨k,b2,b3,b4⟩:=axZ (t:=.mk 45 0 [] [] L) ak false;have b2':M.vY 45 0 [] [] (dO false L)=some (k,0):=b2;rw[hi,aEl,b2',ah];cases hk:k==0 with
    |false=>have hk':=Rf.1 hk;refine⟨true,[],k,0, ?_,.bad ak ak ak ak⟩;simp only[hk,bC,Bool.not_false,aH];rfl
    |true=>
     have hli:M.qB 45 0 [] [] (dO false L)=some (dQ true ((Tn.mk 45 0 [] [] L).flat 0)):=aDP (t:=.mk 45 0 [] [] L) ak;have ek:k=0:=by rwa [beq_iff_eq] at hk
     subst ek;have hb:=b4.1 rfl;refine⟨false,(Tn.mk 45 0 [] [] L).flat 0,0,0, ?_,.ok ht hp hb.1 hb.2 ⟨⟨Nat.zero_le _,Nat.zero_le _⟩,hsm.1⟩⟩;simp only[hk,aH,zaU,bC,hli,ah,anN]
  ·obtain⟨j,hj⟩:∃j:Nat,alk l=j:=⟨(alk l).toNat,ak⟩
   obtain⟨p,p1,p3,p4⟩:=awp l h3 hN hpl j;refine⟨true,[],4,p, ?_,.bad ak ak p3 p4⟩;simp only[M.iW,M.yu,M.vX,M.GH,hT,hNs,ah,zaU,bC];rw[zdt ak,aH,hj,p1,ah,ah];rfl
section
variable (l:List Nd) (o:Bool) (hl:l.length<=1048576) (hk:∀n,n∈l->n.kids.length<=1048576) (hsm:∀n,n∈l->Small n)
include hl hk hsm
noncomputable def Vx(l:List Nd):Bool:=KL l &&(match l.getLast? with|some n=>n.kind==45|none=>false)
theorem agi:M.yQ (dQ o l)=some (Vx l):=by
 simp only[M.yQ,M.Md,abH l o hl hk hsm,ah,Vx,jd];cases ht:KL l with
 |false=>rfl
 |true=>obtain⟨n,h1,h2⟩:=aia l o hl hk hsm ht;rw[aH,h2,ah,h1,Bool.true_and];rfl
theorem agj:M.yR (dQ o l)=some (Vx l):=by
 simp only[M.yR,M.Me,akU l o hl hk hsm,ah,Vx,jd];cases ht:KL l with
 |false=>rfl
 |true=>obtain⟨n,h1,h2⟩:=aia l o hl hk hsm ht;rw[aH,h2,ah,h1,Bool.true_and];rfl
end
def alx(l:List Nd)(k p:Int):[[D.sl true 5 (dQ true l)],[D.int .i64 k,D.int .i64 p]].all gI=true:=by simp[gI,D.pure,aeY]
def auU{s:aC}(h:(GY s).2.1=0):s.length<=1048576:=by
 unfold GY at h;split at h
 ·exact absurd h (by decide)
 ·next hc=>omega
inductive RdX(s:aC):List Nd->Int->Int->Prop where
 |lex:(GY s).2.1≠0->RdX s [] (GY s).2.1 (GY s).2.2
 |bad {k p:Int}:(GY s).2.1=0->M.iW (aF (GY s).1)=some ([],k,p)->1<=k->k<=4->0<=p->p<=s.length->RdX s [] k p
 |ok {L:List Tn} {j:Nat} {nt:fM}:(GY s).2.1=0->Wq (GY s).1=true->M.iW (aF (GY s).1)=some (dQ true ((Tn.mk 45 0 [] [] L).flat 0),0,0)->O8 (GY s).1 (60 * ((GY s).1.length - 0)+52) [] 0 []=.ok L j nt->
   (Tn.mk 45 0 [] [] L).size<=400->KL ((Tn.mk 45 0 [] [] L).flat 0)=true->RV (.mk 45 0 [] [] L)->RdX s ((Tn.mk 45 0 [] [] L).flat 0) 0 0
def aEJ(s:aC):∃q k p,M.J7 s=some (dQ true q,k,p)/\RdX s q k p:=by
 have hL:=aA7 s;have hx:=aEo s;have hd:=aEq s;simp only[M.J7,M.Vo,hL.2,ah];cases hk:(GY s).2.1==0 with
 |false=>simp only[bne,hk,Bool.not_false,aH,bC];exact⟨[],_,_,rfl,.lex (Rf.1 hk)⟩
 |true=>
  have e1:(GY s).2.1=0:=by rwa [beq_iff_eq] at hk
  have e0:(GY s).2.2=0:=hd.2 e1;have hs:=auU e1;obtain⟨fl,q,k,p,h2,h3⟩:=amn (GY s).1 ak (λt ht=>⟨⟨by have:=(hd.1 t ht).1;omega,by have:=(hd.1 t ht).2;omega⟩,by have:=hx.2 t ht;omega⟩) hs (aED s hs).1;simp only[bne,hk,e0,zaU,aH,bC,h2,ah,afz,alx,show((0:Int)==0)=true from rfl];refine⟨q,k,p,rfl, ?_⟩;cases h3 with
  |bad a1 a2 a3 a4=>exact .bad e1 h2 a1 a2 a3 a4
  |ok a1 a2 a3 a4 a5=>exact .ok e1 a1 h2 a2 a3 (PgT.right (N:=0) a1 a2 a3 a4 a5) a5
def ax0(L:List Tn):∃n,((Tn.mk 45 0 [] [] L).flat 0).getLast? =some n/\n.kind=45:=by rw[Tn.flat];exact⟨_,List.getLast?_concat,rfl⟩
def aEK{L:List Tn}(h:KL ((Tn.mk 45 0 [] [] L).flat 0)=true):Vx ((Tn.mk 45 0 [] [] L).flat 0)=true:=by obtain⟨n,h1,h2⟩:=ax0 L;unfold Vx;rw[h,h1,Bool.true_and];simp only[h2,beq_self_eq_true]
def aBq(l:List Nd)(o:Bool)(d:Int)(hl:l.length<=1048576)(hk:∀n,n∈l->n.kids.length<=1048576/\∀e,e∈n.kids-> -4000000000<=e+d/\e+d<=4000000000):
  M.Ak (dQ o l) d=some (dQ true (l.map (Nd.up d))):=by
 simp only[M.Ak,M.PK];have hloop:=uJ (b:=M.Jp (dQ o l) d) (t:=((l.length:Int),dQ true (l.map (Nd.up d)))) (λi=>((i:Int),dQ true ((l.take i).map (Nd.up d)))) l.length
  (by
   intro i hi;obtain⟨n,hn⟩:∃n,l[i]? =some n:=⟨l[i],by simp[hi]⟩
   obtain⟨hkl,hke⟩:=hk n (UK hn);have hin:=uJ (b:=M.Jo (dQ o l) d (i:Int) (dQ true ((l.take i).map (Nd.up d))) n.kind n.op n.text n.other) (t:=((n.kids.length:Int),encI (n.kids.map (· +d)))) (λj=>((j:Int),encI ((n.kids.take j).map (· +d)))) n.kids.length
    (by
     intro j hj;obtain⟨e,he⟩:∃e,n.kids[j]? =some e:=⟨n.kids[j],by simp[hj]⟩
     have:=hke e (UK he);simp only[yJ,M.Jo,M.Ee,cO,qW,hn,MI,ah,VN,dV,zO,he,YV,zaW,zlt,Jj];rw[zdt ak,aH,bI ak,aH,bI ak,aH,aJ ak ak,aJ ak ak,tu he];simp[encI])
    (by simp only[yJ,M.Jo,M.Ee,cO,qW,hn,MI,ah,VN,dV];rw[xK ak,bC,List.take_length]) 0 (Nat.zero_le _)
   simp only[ND,List.take_zero,List.map_nil] at hin;have hin':M.NJ (dQ o l) d (i:Int) (dQ true ((l.take i).map (Nd.up d))) n.kind n.op n.text n.other (0,[])=some ((n.kids.length:Int),encI (n.kids.map (· +d))):=hin;simp only[yJ,M.Jp,M.Ef,jd,cO,qW,hn,MI,ah,XK,YF,YG,YH,VN,hin',Rw,aH,zaW,zlt,Jj];rw[zdt ak,aH,bI ak,aH,bI ak,aH,aJ ak ak,tu hn,List.map_append,QL];rfl)
  (by simp only[yJ,M.Jp,M.Ef,jd];rw[xK ak,bC,List.take_length]) 0 (Nat.zero_le _)
 simp only[ND,List.take_zero,List.map_nil] at hloop;have KJ:M.NK (dQ o l) d (0,[])=some ((l.length:Int),dQ true (l.map (Nd.up d))):=hloop;rw[KJ,ah]
def parts(ts:List Tn):au:=ts.map λt=>[.sl false 5 (dQ false (t.flat 0))]
def aEL(k op:Int)(x y:aC)(kr:au)(ts:List Tn)(hs:sizes ts<=900000):M.kK k op x y kr (parts ts)=some (dQ true ((Tn.mk k op x y ts).flat 0)):=by
 have htl:=DK ts;simp only[yJ,M.kK,M.SI];have hpl:(parts ts).length=ts.length:=by simp[parts]
 have hloop:=uJ (b:=M.Le (parts ts) k op x y) (t:=((ts.length:Int),dQ true (lG ts 0),encI (ends ts 0))) (λj=>((j:Int),dQ true (lG (ts.take j) 0),encI (ends (ts.take j) 0))) ts.length
  (by
   intro j hj;obtain⟨t,ht⟩:∃t,ts[j]? =some t:=⟨ts[j],by simp[hj]⟩
   have hst:=OH ht;have hp:=t.size_pos;have hr:(parts ts)[j]? =some [.sl false 5 (dQ false (t.flat 0))]:=by simp[parts,ht]
   have c0:cSl 5 [D.sl false 5 (dQ false (t.flat 0))] 0=some (dQ false (t.flat 0)):=rfl;have hfl:(dQ true (lG (ts.take j) 0)).length=sizes (ts.take j):=by rw[jd,tH]
   have hsh:M.Ak (dQ false (t.flat 0)) ((sizes (ts.take j):Nat):Int)=some (dQ true (t.flat (sizes (ts.take j)))):=by
    rw[aBq (t.flat 0) false _ (by rw[t.flat_length];omega) (λn hn=> ?_)]
    ·rw[t.aoS 0 (sizes (ts.take j))];congr 4<;>omega
    ·obtain⟨h1,h2⟩:=Vw t 0 n hn;refine⟨ak,λe he=> ?_⟩;have:=h2 e he;omega
   have hrl:(dQ true (t.flat (sizes (ts.take j)))).length=t.size:=by rw[jd,t.flat_length]
   have hel:(encI (ends (ts.take j) 0)).length=j:=by rw[dV,jE,zlt];omega
   simp only[yJ,M.Le,M.F9,hpl,cO,hr,ah,c0,hfl,hsh,hrl,hel,Ai,Jj];rw[zdt ak,aH,bI ak,aH,bI ak,aH,bI ak,aH,bI ak,aH,aJ ak ak,aJ ak ak,aeX ht,ahf ht,QL,Nat.zero_add];simp[encI])
  (by simp only[yJ,M.Le,M.F9,hpl];rw[xK ak,bC,List.take_length]) 0 (Nat.zero_le _)
 have e0:dQ true (lG (ts.take 0) 0)=[]:=rfl;have e1:encI (ends (ts.take 0) 0)=[]:=rfl;rw[ND,e0,e1] at hloop;have KJ:M.PL (parts ts) k op x y (0,[],[])=some ((ts.length:Int),dQ true (lG ts 0),encI (ends ts 0)):=hloop;rw[KJ,ah];simp only[Rw,aH,jd,tH,Jj];rw[bI ak,aH,bI ak,aH,Tn.flat,QL];rfl
def aBr(o w:Bool)(ts:List Tn):aB (ts.map λt=>[D.sl w 5 (dQ o (t.flat 0))])=parts ts:=by rw[Zb,List.map_map];unfold parts;congr 1;funext t;simp[AY,D.fz,afz]
def cR(s:Cu):au:=s.code.map byteRow
structure ahp(s:Cu):Prop where
 i:s.i<=s.code.length
 l:s.code.length<=1048576
def ahp.st{s:Cu}(h:ahp s)(p:Nat):ahp (s.st p):=⟨by rw[Cu.aJS s h.i,Cu.ai3];omega,by rw[Cu.ai3];exact h.l⟩
def ax1(x:Int):i64.wrap (↑(BitVec.ofInt 64 x &&& BitVec.ofInt 64 255).toNat:Int)=(al4 x:Int):=by have:=avw x;show i64.wrap (al4 x:Int)=_;exact aJ ak ak
def aEM{s:Cu}(h:ahp s):M.nC (cR s) s.i s.h=some ((s.byte:Int),cR s.nx,(s.nx.i:Int),s.nx.h):=by
 have hi:=h.i;have hl:=h.l;simp only[M.nC,M.SC,ax1];have e1:(cR s).length=s.code.length:=by simp[cR]
 have e2:cR s.nx=cR s:=rfl;have e3:s.nx.h=i64.wrap (i64.wrap (s.h * 6364136223846793005)+1442695040888963407):=rfl;rw[e1,e2,e3]
 by_cases hlt:s.i<s.code.length
 ·obtain⟨b,hb⟩:∃b,s.code[s.i]? =some b:=⟨s.code[s.i],by simp[hlt]⟩
  have hr:idx (cR s) (s.i:Int)=some (byteRow b):=by rw[cO,cR,List.getElem?_map,hb];rfl
  have hc:jD .u8 (byteRow b) 0=some (b.toNat:Int):=rfl;have hn:(s.nx.i:Int)=(s.i:Int)+1:=by show((if s.i<s.code.length then s.i+1 else s.i:Nat):Int)=_;rw[if_pos hlt];omega
  have hby:s.byte=al4 (i64.wrap ((al4 (aCi (nxH s.h)):Int)+b.toNat)):=by rw[Cu.byte,hb]
  have hb8:(b.toNat:Int)<=255:=by have:=b.toNat_lt;omega
  rw[zdt ak,aH,hr,ah,hc,ah,aJ (n:=(b.toNat:Int)) ak ak,aJ (n:=(s.i:Int)+1) ak ak,hn,hby];rfl
 ·have hb:s.code[s.i]? =none:=List.getElem?_eq_none ak;have hn:(s.nx.i:Int)=(s.i:Int):=by show((if s.i<s.code.length then s.i+1 else s.i:Nat):Int)=_;rw[if_neg hlt]
  have hby:s.byte=al4 (aCi (nxH s.h)):=by rw[Cu.byte,hb]
  rw[xK ak,bC,hn,hby];rfl
def cS(s:Cu)(p:Nat):au×Int×Int:=(cR (s.st p),((s.st p).i:Int),(s.st p).h)
section
variable {s:Cu} (h:ahp s)
include h
theorem byte_at(p:Nat):M.nC (cS s p).1 (cS s p).2.1 (cS s p).2.2=some ((s.g p:Int),cS s (p+1)):=by show M.nC (cR (s.st p)) ((s.st p).i:Int) (s.st p).h=_;rw[aEM (h.st p)];show _=some (((s.st p).byte:Int),(cR (s.st (p+1)),((s.st (p+1)).i:Int),(s.st (p+1)).h));rw[Cu.st_succ]
theorem uV(p n:Nat)(h1:1<=n)(h2:n<=256):M.bM (n:Int) (cS s p).1 (cS s p).2.1 (cS s p).2.2=some (((s.g p % n:Nat):Int),cS s (p+1)):=by simp only[M.bM,M.F8,byte_at h,ah];rw[xK ak,bC,zdt ak,aH,xK ak];simp only[Bool.not_false,aH];rw[Int.tmod_eq_emod_of_nonneg ak,Int.natCast_emod]
theorem ax2(p:Nat)(n:Int)(hn:n<=9000000000000000000):∃(k:Int) (q:Nat),M.bM n (cS s p).1 (cS s p).2.1 (cS s p).2.2=some (k,cS s q)/\p<=q/\q<=p+4/\0<=k/\(k<n\/(n<=0/\k=0)):=by
 by_cases h0:n<=0
 ·refine⟨0,p, ?_,zaV _,ak,ak,.inr ⟨h0,rfl⟩⟩;simp only[M.bM,M.F8];rw[zdt h0,aH]
 ·by_cases h1:n<=256
  ·obtain⟨m,rfl⟩:=Int.eq_ofNat_of_zero_le (a:=n) ak;have h1':m<=256:=ak;have h0':1<=m:=ak;refine⟨_,_,uV h p m h0' h1',ak,ak,ak,.inl ?_⟩;have:=Nat.mod_lt (s.g p) (show 0<m by omega);exact Int.ofNat_lt.2 this
  ·refine⟨((((s.g p:Int) * 16777216+(s.g (p+1):Int) * 65536)+(s.g (p+2):Int) * 256)+(s.g (p+3):Int)) % n,p+4, ?_,ak,ak,Int.emod_nonneg _ ak,.inl (Int.emod_lt_of_pos _ ak)⟩;have hb:∀q,(s.g q:Int)<256:=λq=>by have:=(s.st q).aCj;exact Int.ofNat_lt.2 this
   have b0:=hb p;have b1:=hb (p+1);have b2:=hb (p+2);have b3:=hb (p+3);simp only[M.bM,M.F8,byte_at h,ah];rw[xK h0,bC,xK h1,bC,xK ak];simp only[Bool.not_false,aH];rw[show p+1+1=p+2 from rfl,show p+2+1=p+3 from rfl,show p+3+1=p+4 from rfl];rw[aJ (n:=(s.g p:Int) * 16777216) ak ak,aJ (n:=(s.g (p+1):Int) * 65536) ak ak,aJ (n:=(s.g (p+2):Int) * 256) ak ak,
    aJ (n:=(s.g p:Int) * 16777216+(s.g (p+1):Int) * 65536) ak ak,aJ (n:=(s.g p:Int) * 16777216+(s.g (p+1):Int) * 65536+(s.g (p+2):Int) * 256) ak ak,
    aJ (n:=(s.g p:Int) * 16777216+(s.g (p+1):Int) * 65536+(s.g (p+2):Int) * 256+(s.g (p+3):Int)) ak ak,Int.tmod_eq_emod_of_nonneg ak]
theorem agk(p n:Nat)(h1:1<=n)(h2:n<=256):M.rX (n:Int) (cS s p).1 (cS s p).2.1 (cS s p).2.2=some (s.g p % n==0,cS s (p+1)):=by
 simp only[M.rX,M.SE,uV h p n h1 h2,ah];congr 2;cases hc:s.g p % n==0 with
 |true=>simp only[beq_iff_eq] at hc;rw[hc];rfl
 |false=>simp only[Rf,ne_eq] at hc;exact Rf.2 ak
end
def rW(t:aC):Prop:=t.length<=100
def pkS(rows:au)(k:Nat):aC:=match rows[k % rows.length]? with
 |some [.str t]=>t
 |_=>[]
def pkI(rows:au)(k:Nat):Int:=match rows[k % rows.length]? with
 |some [.int .i64 n]=>n
 |_=>0
def aly(f:Row->Bool)(rows:au):Bool:=rows.all f &&(Nat.ble 1 rows.length && Nat.ble rows.length 256)
def sB:Row->Bool
 |[.str t]=>Nat.ble t.length 100
 |_=>false
def iB:Row->Bool
 |[.int .i64 n]=>decide (-1000<=n) && decide (n<=1000)
 |_=>false
def agl{f:Row->Bool}{rows:au}(hr:aly f rows=true)(k:Nat):∃r,rows[k % rows.length]? =some r/\f r=true/\1<=rows.length/\rows.length<=256:=by simp only[aly,BK] at hr;have h1:=Nat.le_of_ble_eq_true hr.2.1;have h2:=Nat.le_of_ble_eq_true hr.2.2;have hm:=Nat.mod_lt k (show 0<rows.length by omega);exact⟨rows[k % rows.length],by simp[hm],List.all_eq_true.1 hr.1 _ (List.getElem_mem hm),h1,h2⟩
def rG{rows:au}(hr:aly sB rows=true)(k:Nat):rW (pkS rows k):=by
 obtain⟨r,h1,h2,_⟩:=agl hr k;unfold pkS;rw[h1];unfold sB at h2;split at h2
 ·exact Nat.le_of_ble_eq_true h2
 ·cases h2
def YE{rows:au}(hr:aly iB rows=true)(k:Nat): -1000<=pkI rows k/\pkI rows k<=1000:=by
 obtain⟨r,h1,h2,_⟩:=agl hr k;unfold pkI;rw[h1];unfold iB at h2;split at h2
 ·simpa using h2
 ·cases h2
section
variable {s:Cu} (h:ahp s)
include h
theorem Ov(p:Nat)(rows:au)(hr:aly sB rows=true):M.dn rows (cS s p).1 (cS s p).2.1 (cS s p).2.2=some (pkS rows (s.g p),cS s (p+1)):=by
 obtain⟨r,h1,h2,h3,h4⟩:=agl hr (s.g p);simp only[M.dn,M.Np];rw[uV h p rows.length h3 h4,ah];simp only[cO,h1,ah,pkS];unfold sB at h2;split at h2
 ·rfl
 ·cases h2
theorem agm(p:Nat)(rows:au)(hr:aly iB rows=true):M.qo rows (cS s p).1 (cS s p).2.1 (cS s p).2.2=some (pkI rows (s.g p),cS s (p+1)):=by
 obtain⟨r,h1,h2,h3,h4⟩:=agl hr (s.g p);simp only[M.qo,M.Lj];rw[uV h p rows.length h3 h4,ah];simp only[cO,h1,ah,pkI];unfold iB at h2;split at h2
 ·rfl
 ·cases h2
theorem ab8(p:Nat):∃t,rW t/\M.nD (cS s p).1 (cS s p).2.1 (cS s p).2.2=some (t,cS s (p+1)):=by refine⟨_, ?_,by simp only[M.nD,M.SG];rw[Ov h p _ rfl];rfl⟩;exact rG rfl _
theorem aBs(p:Nat):∃t,rW t/\M.EW (cS s p).1 (cS s p).2.1 (cS s p).2.2=some (t,cS s (p+1)):=by refine⟨_, ?_,by simp only[M.EW,M.Vd];rw[Ov h p _ rfl];rfl⟩;exact rG rfl _
theorem aBt(p:Nat):∃t,rW t/\M.EY (cS s p).1 (cS s p).2.1 (cS s p).2.2=some (t,cS s (p+1)):=by refine⟨_, ?_,by simp only[M.EY,M.Ve];rw[Ov h p _ rfl];rfl⟩;exact rG rfl _
theorem aBu(p:Nat):∃t,rW t/\M.EZ (cS s p).1 (cS s p).2.1 (cS s p).2.2=some (t,cS s (p+1)):=by refine⟨_, ?_,by simp only[M.EZ,M.Vf];rw[Ov h p _ rfl];rfl⟩;exact rG rfl _
theorem aBv(p:Nat):∃t:Int, -1000<=t/\t<=1000/\M.DT (cS s p).1 (cS s p).2.1 (cS s p).2.2=some (t,cS s (p+1)):=by
 refine⟨_, ?_, ?_,by simp only[M.DT,M.PO];rw[agm h p _ rfl];rfl⟩
 ·exact(YE rfl _).1
 ·exact(YE rfl _).2
end
def aF1(n:Nd):Prop:=(-1000<=n.kind/\n.kind<=1000)/\(-1000<=n.op/\n.op<=1000)/\rW n.text/\rW n.other
def ad2(t:Tn):Prop:=∀b n,n∈t.flat b->aF1 n
def an5:∀{ts:List Tn} {b:Nat} {n:Nd},n∈lG ts b->∃t,t∈ts/\∃b',n∈t.flat b'
 |[],b,n,h=>by simp[lG] at h
 |t::ts,b,n,h=>by
  rw[lG,List.mem_append] at h;rcases h with h|h
  ·exact⟨t,by simp,b,h⟩
  ·obtain⟨u,h1,h2⟩:=an5 h;exact⟨u,by simp[h1],h2⟩
def awq{k op:Int}{x y:aC}{ts:List Tn}(hk: -1000<=k/\k<=1000)(ho: -1000<=op/\op<=1000)(hx:rW x)(hy:rW y)(h:∀t,t∈ts->ad2 t):ad2 (.mk k op x y ts):=by
 intro b n hn;rw[Tn.flat,List.mem_append] at hn;rcases hn with hn|hn
 ·obtain⟨t,h1,b',h2⟩:=an5 hn;exact h t h1 b' n h2
 ·rw[List.mem_singleton.1 hn];exact⟨hk,ho,hx,hy⟩
def nZ:rW []:=by simp[rW]
abbrev DF:=Nat->Nat×Nat
def up(r:Nat×Nat):Nat×Nat:=(r.1+1,r.2)
def aJc(a b:DF):DF:=λp=>((a p).1+(b (a p).2).1,(b (a p).2).2)
def itS(e:DF):Nat->DF
 |0,p=>(0,p)
 |n+1,p=>((e p).1+(itS e n (e p).2).1,(itS e n (e p).2).2)
def asT(g:Nat->Nat)(p:Nat):Nat:=bif Nat.beq (g p % 7) 2 then p+3 else p+2
def aio(g:Nat->Nat):DF:=λp=>(1,asT g p)
def lvS(g:Nat->Nat)(e1 e2:DF):DF:=λp=>match g p % 4 with
 |0=>up (e1 (p+2))
 |1=>up (e2 (p+1))
 |_=>(1,p+2)
def aip(g:Nat->Nat)(e:DF)(least w:Nat):DF:=λp=>itS e (least+g p % w) (p+1)
def Ut(g:Nat->Nat)(e0 e1 e2:DF):DF:=λp=>match g (p+1) % 16 with
 |0=>aio g (p+2)
 |1=>lvS g e0 e1 (p+2)
 |2=>up (e0 (p+2))
 |3=>up (aip g e0 0 4 (p+3))
 |4=>up (aip g e1 0 4 (p+3))
 |5=>up (lvS g e1 e2 (p+2))
 |6=>up (lvS g e1 e2 (p+2))
 |7=>up (e0 (p+3))
 |8=>up (e0 (p+3))
 |9=>up (aip g e0 1 2 (p+3))
 |10=>up (itS e0 3 (p+2))
 |11=>up (aJc (lvS g e1 e2) e0 (p+3))
 |_=>up (itS e0 2 (p+3))
def apG{g:Nat->Nat}{e0 e1 e2:DF}{p:Nat}(h:12<=g (p+1) % 16):Ut g e0 e1 e2 p=up (itS e0 2 (p+3)):=by unfold Ut;split<;>first|omega|rfl
def XI(g:Nat->Nat):Nat->DF×DF×DF
 |0=>(aio g,aio g,aio g)
 |d+1=>(Ut g (XI g d).1 (XI g d).2.1 (XI g d).2.2,(XI g d).1,(XI g d).2.1)
def Pg(g:Nat->Nat)(d:Nat):DF:=(XI g d).1
def aBw(g:Nat->Nat):∀d,XI g d=(Pg g d,Pg g (d - 1),Pg g (d - 2))
 |0=>rfl
 |1=>rfl
 |d+2=>rfl
def alz(g:Nat->Nat)(d:Nat):Pg g (d+1)=Ut g (Pg g d) (Pg g (d - 1)) (Pg g (d - 2)):=by show Ut g (XI g d).1 (XI g d).2.1 (XI g d).2.2=_;rw[aBw]
def auV(g:Nat->Nat):Pg g 0=aio g:=rfl
def Bd(b:Nat)(e:DF):Prop:=∀p,1<=(e p).1/\p+(e p).1<=(e p).2/\(e p).2<=p+b
def Bd.mono{b b':Nat}{e:DF}(h:Bd b e)(hb:b<=b'):Bd b' e:=λp=>by have:=h p;omega
def apH{b:Nat}{e:DF}(h:Bd b e):∀n p,n<=(itS e n p).1/\p+(itS e n p).1<=(itS e n p).2/\(itS e n p).2<=p+n * b
 |0,p=>by simp[itS]
 |n+1,p=>by have h1:=h p;have h2:=apH h n (e p).2;rw[itS,Nat.add_mul];simp only;omega
def awr(g:Nat->Nat):Bd 3 (aio g):=λp=>by show 1<=1/\p+1<=asT g p/\asT g p<=p+3;unfold asT;cases Nat.beq (g p % 7) 2<;>simp
def aBx{g:Nat->Nat}{b:Nat}{e1 e2:DF}(h1:Bd b e1)(h2:Bd b e2):Bd (b+2) (lvS g e1 e2):=λp=>by unfold lvS up;have a:=h1 (p+2);have c:=h2 (p+1);split<;>first|omega|(simp only;omega)
def apI{g:Nat->Nat}{b:Nat}{e:DF}(h:Bd b e)(least w:Nat)(hw:1<=w)(p:Nat):p+1+(aip g e least w p).1<=(aip g e least w p).2/\(aip g e least w p).2<=p+1+(least+w - 1) * b:=by unfold aip;have:=apH h (least+g p % w) (p+1);have hm:=Nat.mod_lt (g p) (show 0<w by omega);have h2:(least+g p % w) * b<=(least+w - 1) * b:=Nat.mul_le_mul_right b ak;omega
def aEN{g:Nat->Nat}{b:Nat}{e0 e1 e2:DF}(hb:3<=b)(h0:Bd b e0)(h1:Bd b e1)(h2:Bd b e2):Bd (3 * b+4) (Ut g e0 e1 e2):=λp=>by unfold Ut up aJc;have a2:=h0 (p+2);have a3:=h0 (p+3);have l0:=awr g (p+2);have v0:=aBx (g:=g) h0 h1 (p+2);have v2:=aBx (g:=g) h1 h2 (p+2);have v3:=aBx (g:=g) h1 h2 (p+3);have b3:=h0 (lvS g e1 e2 (p+3)).2;have i3:=apH h0 3 (p+2);have i2:=apH h0 2 (p+3);have s0:=apI (g:=g) h0 0 4 ak (p+3);have s1:=apI (g:=g) h1 0 4 ak (p+3);have s9:=apI (g:=g) h0 1 2 ak (p+3);split<;>first|omega|(simp only;omega)
def bE:Nat->Nat
 |0=>3
 |d+1=>3 * bE d+4
def aF2:∀d,3<=bE d
 |0=>zaV _
 |d+1=>by have:=aF2 d;rw[bE];omega
def aEO:∀d,bE (d - 1)<=bE d/\bE (d - 2)<=bE d
 |0=>⟨zaV _,zaV _⟩
 |1=>by decide
 |d+2=>by have h1:d+2 - 1=d+1:=rfl;have h2:d+2 - 2=d:=rfl;rw[h1,h2,show bE (d+2)=3 * bE (d+1)+4 from rfl,show bE (d+1)=3 * bE d+4 from rfl];omega
def Zk(g:Nat->Nat)(d:Nat):Bd (bE d) (Pg g d):=by
 induction d using Nat.strongRecOn with
 |_ d ih=>
  cases d with
  |zero=>exact awr g
  |succ d=>rw[alz];have hm:=aEO d;exact aEN (aF2 d) (ih d ak) ((ih (d - 1) ak).mono hm.1) ((ih (d - 2) ak).mono hm.2)
abbrev DR:=Option zaM
def DTr(m:DR)(s:Cu)(r:Nat×Nat):Prop:=∃t:Tn,m=some (dQ true (t.flat 0),cS s r.2)/\t.size=r.1/\ad2 t
def rowT(t:Tn):Row:=[D.sl true 5 (dQ true (t.flat 0))]
def DL(m:DR)(s:Cu)(r:Nat×Nat):Prop:=∃ts:List Tn,m=some (ts.map rowT,cS s r.2)/\sizes ts=r.1/\ts.length<=10/\∀t,t∈ts->ad2 t
def aEP(ts:List Tn):aB (ts.map rowT)=parts ts:=aBr true true ts
def bd{α:Type}{m:Option α}{x:α}{k:α->DR}{s:Cu}{r:Nat×Nat}(e:m=some x)(hk:DTr (k x) s r):DTr (m.bind k) s r:=by rw[e];exact hk
def made{s:Cu}{q:Nat}(k op:Int)(x y:aC)(ts:List Tn){z:Nat}(hz:sizes ts+1=z)(hs:z<=900000)(hk: -1000<=k/\k<=1000)(ho: -1000<=op/\op<=1000)(hx:rW x)(hy:rW y)(h:∀t,t∈ts->ad2 t):
  DTr ((M.kK k op x y [] (aB (ts.map rowT))).bind λr=>bif[[D.sl true 5 r]].all gI then some (r,(cS s q).1,(cS s q).2.1,(cS s q).2.2) else none) s (z,q):=by
 refine⟨.mk k op x y ts, ?_, ?_,awq hk ho hx hy h⟩
 ·rw[aEP,aEL k op x y [] ts ak,ah,anN,aH]
 ·rw[Tn.size];exact hz
def Wu{t:Tn}(h:ad2 t):∀u,u∈[t]->ad2 u:=λu hu=>by rw[List.mem_singleton.1 hu];exact h
def alA{s:Cu}{q:Nat}(k:Int)(x:aC)(hk: -1000<=k/\k<=1000)(hx:rW x):DTr (some ([[D.int IntKind.i64 k,D.int IntKind.i64 0,D.str x,D.str [],D.sl true 1 []]],(cS s q).1,(cS s q).2.1,(cS s q).2.2)) s (1,q):=
 ⟨.mk k 0 x [] [],rfl,rfl,awq hk ak hx nZ (by simp)⟩
def alB{s:Cu}{e:DF}{b:Int×au×Int×Int×au->Option ((Int×au×Int×Int×au)⊕zaJ)}
  (hz:∀p x,b (0,(cS s p).1,(cS s p).2.1,(cS s p).2.2,x)=some (.inr (0,(cS s p).1,(cS s p).2.1,(cS s p).2.2,x)))
  (hs:∀(n p:Nat) (ts:List Tn),n<=10->ts.length<=20->∃t,b (((n+1:Nat):Int),(cS s p).1,(cS s p).2.1,(cS s p).2.2,ts.map rowT)=some (.inl ((n:Int),(cS s (e p).2).1,(cS s (e p).2).2.1,(cS s (e p).2).2.2,(ts++[t]).map rowT))/\t.size=(e p).1/\ad2 t):
  ∀(n p:Nat) (ts:List Tn),n+ts.length<=10->∃us:List Tn,fV b ((n:Int),(cS s p).1,(cS s p).2.1,(cS s p).2.2,ts.map rowT)=some (0,(cS s (itS e n p).2).1,(cS s (itS e n p).2).2.1,(cS s (itS e n p).2).2.2,(ts++us).map rowT)/\sizes us=(itS e n p).1/\us.length=n/\∀t,t∈us->ad2 t
 |0,p,ts,_=>⟨[],by rw[ND,aV (hz p _),List.append_nil];rfl,rfl,rfl,by simp⟩
 |n+1,p,ts,hn=>by
  obtain⟨t,h1,h2,h3⟩:=hs n p ts ak ak;obtain⟨us,k1,k2,k3,k4⟩:=alB hz hs n (e p).2 (ts++[t]) (by simp;omega);refine⟨t::us, ?_, ?_,by simp[k3], ?_⟩
  ·rw[bY h1,k1,itS,WC];rfl
  ·rw[sizes,h2,k2,itS]
  ·intro u hu;rcases List.mem_cons.1 hu with rfl|hu
   ·exact h3
   ·exact k4 u hu
def ax3(ts:List Tn)(t:Tn):(ts++[t]).map rowT=ts.map rowT++[[D.sl true 5 (dQ true (t.flat 0))]]:=by rw[List.map_append];rfl
section
variable {s:Cu} (h:ahp s)
include h
theorem asU(p:Nat):DTr (M.DN (cS s p).1 (cS s p).2.1 (cS s p).2.2) s (aio s.g p):=by
 have hm:=Nat.mod_lt (s.g p) (show 0<7 by omega);simp only[M.DN,M.SH,aio,asT];rw[show((7:Int))=((7:Nat):Int) from rfl,uV h p 7 ak ak,ah];obtain⟨t1,a1,e1⟩:=aBs h (p+1);obtain⟨t2,a2,e2⟩:=aBt h (p+1);obtain⟨t3,a3,e3⟩:=aBu h (p+1+1);obtain⟨t4,a4,e4⟩:=ab8 h (p+1+1);obtain⟨t5,a5,e5⟩:=ab8 h (p+1);have hc:s.g p % 7=0\/s.g p % 7=1\/s.g p % 7=2\/3<=s.g p % 7:=ak;have e6:=agk h (p+1) 2 ak ak;rw[show((2:Nat):Int)=2 from rfl] at e6;rcases hc with hc|hc|hc|hc
 ·rw[hc];simp only[e1,ah];exact alA 2 t1 ak a1
 ·rw[hc];simp only[e2,ah];exact alA 3 t2 ak a2
 ·rw[hc];simp only[e6,ah];cases hq:s.g (p+1) % 2==0 with
  |true=>simp only[hq,aH,e3,ah];exact alA 4 t3 ak a3
  |false=>simp only[hq,bC,e4,ah];exact alA 1 t4 ak a4
 ·have n0:(((s.g p % 7:Nat):Int)==0)=false:=Rf.2 ak;have n1:(((s.g p % 7:Nat):Int)==1)=false:=Rf.2 ak;have n2:(((s.g p % 7:Nat):Int)==2)=false:=Rf.2 ak;have n3:Nat.beq (s.g p % 7) 2=false:=zH ak;simp only[n0,n1,n2,n3,bC,e5,ah];exact alA 1 t5 ak a5
end
def EX(s:Cu)(k d:Nat):Prop:=∀deep:Int, -8<=deep->deep<=5->deep.toNat=d->∀p,DTr (M.sW k deep (cS s p).1 (cS s p).2.1 (cS s p).2.2) s (Pg s.g d p)
def alC{d:Nat}(h:d<=5):bE d<=1300:=by have:d=0\/d=1\/d=2\/d=3\/d=4\/d=5:=ak;rcases this with rfl|rfl|rfl|rfl|rfl|rfl<;>decide
section
variable {s:Cu} (h:ahp s)
include h
theorem aF3{k d:Nat}(hd:d<=5)(h1:EX s k (d - 1))(h2:EX s k (d - 2)){deep:Int}(l1: -6<=deep)(l2:deep<=5)(l3:deep.toNat=d)(p:Nat):
  DTr (M.IG (k+1) deep (cS s p).1 (cS s p).2.1 (cS s p).2.2) s (lvS s.g (Pg s.g (d - 1)) (Pg s.g (d - 2)) p):=by
 have hm:=Nat.mod_lt (s.g p) (show 0<4 by omega);have b1:=Zk s.g (d - 1) (p+2);have b2:=Zk s.g (d - 2) (p+1);have c1:=alC (show d - 1<=5 by omega);have c2:=alC (show d - 2<=5 by omega);rw[M.aiu];simp only[M.Dx,lvS];rw[show((4:Int))=((4:Nat):Int) from rfl,uV h p 4 ak ak,ah,aJ (n:=deep - 1) ak ak,aJ (n:=deep - 2) ak ak];obtain⟨t1,a1,e1⟩:=ab8 h (p+1);obtain⟨u1,f1,z1,i1⟩:=h1 (deep - 1) ak ak ak (p+2);obtain⟨u2,f2,z2,i2⟩:=h2 (deep - 2) ak ak ak (p+1);have hc:s.g p % 4=0\/s.g p % 4=1\/s.g p % 4=2\/s.g p % 4=3:=ak;rcases hc with hc|hc|hc|hc
 ·rw[hc];simp only[e1,f1,ah];exact made 5 0 t1 [] [u1] (by rw[sizes,sizes,z1]) ak ak ak a1 nZ (Wu i1)
 ·rw[hc];simp only[f2,ah];exact made 6 0 [] [] [u2] (by rw[sizes,sizes,z2]) ak ak ak nZ nZ (Wu i2)
 ·rw[hc];simp only[e1,ah];exact alA 1 t1 ak a1
 ·rw[hc];simp only[e1,ah];exact alA 1 t1 ak a1
theorem apJ{k:Nat}{deep:Int}{e:DF}{b:Nat}(hb:Bd b e)(hb2:b<=2000)(he:∀p,DTr (M.sW k deep (cS s p).1 (cS s p).2.1 (cS s p).2.2) s (e p))(least most:Nat)(hl:least<=most)(hm:most<=5)(p:Nat):
  DL (M.Nq (k+1) least most deep (cS s p).1 (cS s p).2.1 (cS s p).2.2) s (aip s.g e least (most - least+1) p):=by
 rw[M.al7];simp only[M.Jb];have hmod:=Nat.mod_lt (s.g p) (show 0<most - least+1 by omega);have e1:i64.wrap (i64.wrap ((most:Int) - least)+1)=((most - least+1:Nat):Int):=by rw[aJ (n:=(most:Int) - least) ak ak,aJ ak ak];omega
 rw[e1,uV h p (most - least+1) ak ak,ah];have e2:i64.wrap ((least:Int)+((s.g p %(most - least+1):Nat):Int))=((least+s.g p %(most - least+1):Nat):Int):=by rw[aJ ak ak];omega
 simp only[e2];obtain⟨us,k1,k2,k3,k4⟩:=alB (s:=s) (e:=e) (b:=M.Ry (M.sW k) deep) (λp x=>rfl) (λn p ts hn ht=>by obtain⟨t,f1,z1,i1⟩:=he p;refine⟨t, ?_,z1,i1⟩;simp only[yJ,M.Ry,M.Lh,f1,ah,zaW,Jj];rw[zdt ak,aH,bI ak,aH,bI ak,aH,aJ ak ak,ax3];simp) (least+s.g p %(most - least+1)) (p+1) [] (by simp;omega);refine⟨us, ?_,k2,ak,k4⟩;have k1':M.PN (M.sW k) deep (((least+s.g p %(most - least+1):Nat):Int),(cS s (p+1)).1,(cS s (p+1)).2.1,(cS s (p+1)).2.2,[])=_:=k1;rw[k1',ah];rfl
theorem ax4{d j:Nat}(hd:d+1<=5)(H:∀i,j<=i->EX s i d/\EX s i (d - 1)/\EX s i (d - 2)):EX s (j+2) (d+1):=by
 intro deep l1 l2 l3 p;obtain⟨h0,hq1,hq2⟩:=H j (zaV _);obtain⟨h0',_,_⟩:=H (j+1) ak;have hm:=Nat.mod_lt (s.g (p+1)) (show 0<16 by omega);have hm2:=Nat.mod_lt (s.g p) (show 0<2 by omega);have c0:=alC (show d<=5 by omega);have c1:=alC (show d - 1<=5 by omega);have hB:=Zk s.g (d+1) p;have hB2:=alC hd;have hB3:(Pg s.g (d+1) p).1<=900000:=ak;rw[alz] at hB3|-;rw[M.acK];simp only[M.Fj,M.J9];have w1:i64.wrap (deep - 1)=deep - 1:=aJ ak ak;have w2:i64.wrap (deep - 2)=deep - 2:=aJ ak ak;have e2:=uV h p 2 ak ak;have e16:=uV h (p+1) 16 ak ak;rw[show((2:Nat):Int)=2 from rfl] at e2;rw[show((16:Nat):Int)=16 from rfl] at e16;rw[xK ak,bC,e2,ah,e16,ah];simp only[w1,w2];have hdd:d+1 - 1=d:=rfl;have hd2:d+1 - 2=d - 1:=ak;have L0:=λq=>apJ h (Zk s.g d) ak (h0 (deep - 1) ak ak ak) 0 3 ak ak q
 have L1:=λq=>apJ h (Zk s.g (d - 1)) ak (hq1 (deep - 2) ak ak ak) 0 3 ak ak q
 have L2:=λq=>apJ h (Zk s.g d) ak (h0 (deep - 1) ak ak ak) 1 2 ak ak q
 have X0:=h0' (deep - 1) ak ak ak;have V0:=aF3 h (show d+1<=5 by omega) (k:=j) (by rw[hdd];exact h0) (by rw[hd2];exact hq1) (deep:=deep) ak ak l3;have V1:=aF3 h (show d<=5 by omega) (k:=j) hq1 hq2 (deep:=deep - 1) ak ak ak;rw[hdd,hd2] at V0;rcases Nat.lt_or_ge (s.g (p+1) % 16) 12 with hlt|hbig
 ·unfold Ut at hB3|-;have hc:s.g (p+1) % 16=0\/s.g (p+1) % 16=1\/s.g (p+1) % 16=2\/s.g (p+1) % 16=3\/s.g (p+1) % 16=4\/s.g (p+1) % 16=5\/s.g (p+1) % 16=6\/s.g (p+1) % 16=7\/s.g (p+1) % 16=8\/s.g (p+1) % 16=9\/s.g (p+1) % 16=10\/s.g (p+1) % 16=11:=ak;rcases hc with hc|hc|hc|hc|hc|hc|hc|hc|hc|hc|hc|hc<;>rw[hc] at hB3|-
  ·obtain⟨t,f,z,i⟩:=asU h (p+2);exact bd f ⟨t,rfl,z,i⟩
  ·obtain⟨t,f,z,i⟩:=V0 (p+2);exact bd f ⟨t,rfl,z,i⟩
  ·obtain⟨t,f,z,i⟩:=X0 (p+2);exact bd f (made 6 0 [] [] [t] (by rw[sizes,sizes,z]) hB3 ak ak nZ nZ (Wu i))
  ·obtain⟨x,a,e⟩:=ab8 h (p+2);obtain⟨ts,f,z,_,i⟩:=L0 (p+3);exact bd e (bd f (made 7 0 x [] ts (by rw[z]) hB3 ak ak a nZ i))
  ·obtain⟨ts,f,z,_,i⟩:=L1 (p+3);exact bd (Ov h _ _ rfl) (bd f (made 8 0 _ [] ts (by rw[z]) hB3 ak ak (rG rfl _) nZ i))
  ·obtain⟨t,f,z,i⟩:=V1 (p+2);exact bd f (made 9 _ [] [] [t] (by rw[sizes,sizes,z]) hB3 ak (by rw[aJ ak ak];omega) nZ nZ (Wu i))
  ·obtain⟨t,f,z,i⟩:=V1 (p+2);exact bd f (made 10 _ [] [] [t] (by rw[sizes,sizes,z]) hB3 ak (by rw[aJ ak ak];omega) nZ nZ (Wu i))
  ·obtain⟨t,f,z,i⟩:=X0 (p+3);exact bd (agm h _ _ rfl) (bd f (made 11 _ [] [] [t] (by rw[sizes,sizes,z]) hB3 ak (YE rfl _) nZ nZ (Wu i)))
  ·obtain⟨t,f,z,i⟩:=X0 (p+3);exact bd (agm h _ _ rfl) (bd f (made 11 _ [] [] [t] (by rw[sizes,sizes,z]) hB3 ak (YE rfl _) nZ nZ (Wu i)))
  ·obtain⟨x,a,e⟩:=ab8 h (p+2);obtain⟨ts,f,z,_,i⟩:=L2 (p+3);exact bd e (bd f (made 13 0 x [] ts (by rw[z]) hB3 ak ak a nZ i))
  ·obtain⟨t1,f1,z1,i1⟩:=X0 (p+2);obtain⟨t2,f2,z2,i2⟩:=X0 (Pg s.g d (p+2)).2;obtain⟨t3,f3,z3,i3⟩:=X0 (Pg s.g d (Pg s.g d (p+2)).2).2;exact bd f1 (bd f2 (bd f3 (made 14 0 [] [] [t1,t2,t3] (by simp only[sizes,z1,z2,z3,itS]) hB3 ak ak nZ nZ (by simp[i1,i2,i3]))))
  ·obtain⟨t1,f1,z1,i1⟩:=V1 (p+3);obtain⟨t2,f2,z2,i2⟩:=X0 (lvS s.g (Pg s.g (d - 1)) (Pg s.g (d - 2)) (p+3)).2;exact bd (agm h _ _ rfl) (bd f1 (bd f2 (made 15 _ [] [] [t1,t2] (by simp only[sizes,z1,z2,aJc];omega) hB3 ak (YE rfl _) nZ nZ (by simp[i1,i2]))))
 ·rw[apG hbig] at hB3|-;have nn:∀n:Int,n<12->(((s.g (p+1) % 16:Nat):Int)==n)=false:=λn hn=>Rf.2 ak
  simp only[nn 0 ak,nn 1 ak,nn 2 ak,nn 3 ak,nn 4 ak,nn 5 ak,nn 6 ak,nn 7 ak,nn 8 ak,nn 9 ak,nn 10 ak,nn 11 ak,bC];obtain⟨o,o1,o2,e⟩:=aBv h (p+2);obtain⟨t1,f1,z1,i1⟩:=X0 (p+3);obtain⟨t2,f2,z2,i2⟩:=X0 (Pg s.g d (p+3)).2;exact bd e (bd f1 (bd f2 (made 12 o [] [] [t1,t2] (by simp only[sizes,z1,z2,itS]) hB3 ak ⟨o1,o2⟩ nZ nZ (by simp[i1,i2]))))
theorem aBy:∀(d k:Nat),d<=5->2 * d+1<=k->EX s k d:=by
 intro d;induction d using Nat.strongRecOn with
 |_ d ih=>
  intro k hd hk;cases d with
  |zero=>
   obtain⟨k,rfl⟩:∃j,k=j+1:=⟨k - 1,ak⟩
   intro deep l1 l2 l3 p;rw[M.acK,auV];simp only[M.Fj,M.J9];rw[zdt ak,aH];obtain⟨t,f,z,i⟩:=asU h p;simp only[f,ah];exact⟨t,rfl,z,i⟩
  |succ d=>
   obtain⟨j,rfl⟩:∃j,k=j+2:=⟨k - 2,ak⟩
   exact ax4 h hd λi hi=>⟨ih d ak i ak ak,ih (d - 1) ak i ak ak,ih (d - 2) ak i ak ak⟩
theorem aEQ{deep:Int}(l1: -8<=deep)(l2:deep<=5)(p:Nat):DTr (M.nG deep (cS s p).1 (cS s p).2.1 (cS s p).2.2) s (Pg s.g deep.toNat p):=by obtain⟨t,f,z,i⟩:=aBy h deep.toNat (2 * deep.toNat+1) ak (zaV _) deep l1 l2 rfl p;exact⟨t,M.akk f,z,i⟩
end
def auW(k n:Int)(x:aC)(c:Nat):Bool:=
 bif(!(k==4) && !(n==0))||(!(k==1) && !(x==[])) then false else
 bif k==1 then !(hasB 10 x) && Nat.beq c 0 else bif k==2||k==3 then Nat.beq c 0 else bif k==4 then(decide (0<=n) && decide (n<=40)) && Nat.beq c 1 else
 bif k==5 then Nat.beq c 1 else k==6
mutual
def dOk:Tn->Bool
 | .mk k n x _ ks=>ax5 ks && auW k n x ks.length
def ax5:List Tn->Bool
 |[]=>true
 |t::ts=>(dOk t) && ax5 ts
end
mutual
def agn:Tn->Option (aC)
 | .mk k _ x _ ks=>bif k==1 then some x else bif k==2 then some [32] else bif k==3 then none else abP ks
def abP:List Tn->Option (aC)
 |[]=>some []
 |t::ts=>match(agn t) with
  |none=>none
  |some a=>match abP ts with
   |none=>none
   |some b=>some (a++b)
end
mutual
def bh:Tn->Nat×Bool
 | .mk k _ x _ ks=>bif k==2||k==3 then(0,true) else((bif k==1 then x.length else 0)+(bhs ks).1,(bhs ks).2)
def bhs:List Tn->Nat×Bool
 |[]=>(0,false)
 |t::ts=>bif(bh t).2 then(bh t) else((bh t).1+(bhs ts).1,(bhs ts).2)
end
abbrev Pc:=Tn×Int×Bool
def a1b(w col:Int)(t:Tn)(st:List Pc):Bool:=match(agn t) with
 |some s=>decide ((s.length:Int)+(bhs (st.map (·.1))).1<=w - col)
 |none=>false
def brk(out:aC)(i:Int):aC:=out++(10::List.replicate i.toNat 32)
def lay(w:Int):Nat->List Pc->aC->Int->aC
 |0,_,out,_=>out
 |_+1,[],out,_=>out
 |n+1,(.mk k m x y ks,i,f)::st,out,col=>
  bif k==1 then lay w n st (out++x) (col+x.length) else
  bif k==2 && f then lay w n st (out++[32]) (col+1) else
  bif k==2||k==3 then lay w n st (brk out i) i else
  bif k==4 then lay w n (ks.map (λt=>(t,i+m,f))++st) out col else
  bif k==5 then lay w n (ks.map (λt=>(t,i,f||a1b w col (.mk k m x y ks) st))++st) out col else
  lay w n (ks.map (λt=>(t,i,f))++st) out col
structure Ok(l:List Nd):Prop where
 len:l.length<=1048576
 kids:∀n,n∈l->n.kids.length<=1048576/\∀e,e∈n.kids->I64 e
 sm:∀n,n∈l->Small n
 w:wK l<=10000000
def Ok.k{l:List Nd}(h:Ok l):∀n,n∈l->n.kids.length<=1048576:=λn hn=>by have:=(h.kids n hn).1;omega
def aiP(o:Bool)(n:Nd):Row:=[.int .i64 n.kind,.int .i64 n.op,.str n.text,.sl o 1 (encI n.kids)]
def mO(o:Bool)(l:List Nd):au:=l.map (aiP o)
section
variable (o:Bool) (n:Nd) (l:List Nd) (i:Int)
@[simp] theorem oL:(mO o l).length=l.length:=by simp[mO]
@[simp] theorem aJr:idx (mO o l) i=(idx l i).map (aiP o):=ai2 _ _ _
@[simp] theorem Je(j:Nat):(mO o l)[j]? =(l[j]?).map (aiP o):=by simp[mO]
@[simp] theorem cD0:jD .i64 (aiP o n) 0=some n.kind:=rfl
@[simp] theorem cD1:jD .i64 (aiP o n) 1=some n.op:=rfl
@[simp] theorem cD2:cStr (aiP o n) 2=some n.text:=rfl
@[simp] theorem cD3:cSl 1 (aiP o n) 3=some (encI n.kids):=rfl
@[simp] theorem aBz:aB (mO o l)=mO false l:=by
 induction l with
 |nil=>rfl
 |cons x l ih=>simp only[mO,zmc,aB] at ih|-;rw[ih];simp[aiP,AY,D.fz,avu]
end
def Zl(o:Bool)(a b:List Nd):mO o (a++b)=mO o a++mO o b:=by simp[mO]
def alD:∀l:List Nd,Nh (mO true l)=true
 |[]=>rfl
 |n::l=>by have:mO true (n::l)=aiP true n::mO true l:=rfl;rw[this,Nh,alD l];simp[aiP,gI,D.pure]
def ax6(l:List Nd):[[D.sl true 4 (mO true l)]].all gI=true:=by simp[gI,D.pure,alD]
def len_eq(n c:Nat):((n:Int)==(c:Int))=Nat.beq n c:=by rw[Bool.eq_iff_iff,beq_iff_eq,Nat.beq_eq];omega
def aTn(n:Nat):((n:Int)==0)=Nat.beq n 0:=len_eq n 0
def aTo(n:Nat):((n:Int)==1)=Nat.beq n 1:=len_eq n 1
def asV{P:Int->Prop}(h1:P 1)(h2:P 2)(h3:P 3)(h4:P 4)(h5:P 5)(h6:P 6)(h:∀k,k≠1->k≠2->k≠3->k≠4->k≠5->k≠6->P k)(k:Int):P k:=by
 by_cases e1:k=1
 ·rwa [e1]
 by_cases e2:k=2
 ·rwa [e2]
 by_cases e3:k=3
 ·rwa [e3]
 by_cases e4:k=4
 ·rwa [e4]
 by_cases e5:k=5
 ·rwa [e5]
 by_cases e6:k=6
 ·rwa [e6]
 exact h k e1 e2 e3 e4 e5 e6
def aiQ(k n:Int)(x:aC)(rows:au)(hx:x.length<=1000000000):M.D5 k n x rows=some (auW k n x rows.length):=by
 simp only[M.D5,M.Qg,M.DC,ar4 x hx,ah,Za,auW,aTn,aTo];generalize hasB 10 x=hb;generalize (x==[])=xe;generalize Nat.beq rows.length 0=c0;generalize Nat.beq rows.length 1=c1;generalize (decide (0<=n) && decide (n<=40))=r
 by_cases hn:n=0
 ·subst hn;revert k;refine asV ?_ ?_ ?_ ?_ ?_ ?_ (λk e1 e2 e3 e4 e5 e6=> ?_)
  case refine_7=>rw[<-bne_iff_ne] at e1 e4;simp only[Rf.2 e2,Rf.2 e3,Rf.2 e5,Rf.2 e6,e1,e4,Rf.2 (bne_iff_ne.1 e1),Rf.2 (bne_iff_ne.1 e4)];cases xe<;>rfl
  all_goals cases xe<;>cases hb<;>cases r<;>rfl
 ·have hn':(n==0)=false:=Rf.2 hn;have hn2:(n !=0)=true:=bne_iff_ne.2 hn;revert k;refine asV ?_ ?_ ?_ ?_ ?_ ?_ (λk e1 e2 e3 e4 e5 e6=> ?_)
  case refine_7=>rw[<-bne_iff_ne] at e1 e4;simp only[hn',hn2,Rf.2 e2,Rf.2 e3,Rf.2 e5,Rf.2 e6,e1,e4,Rf.2 (bne_iff_ne.1 e1),Rf.2 (bne_iff_ne.1 e4)];cases xe<;>rfl
  all_goals simp only[hn',hn2];cases xe<;>cases hb<;>cases r<;>rfl
def abQ(l:List Nd)(o:Bool){i:Nat}{n:Nd}{st:List Int}(hi:l[i]? =some n)(hl:l.length<=90000000)(hst:ace st)(hs:st.length=i):
  ∀(j:Nat) (a:Int),j<=n.kids.length->n.kids.length<=90000000->0<=a->a<=i->M.wz (mO o l) (i:Int) (encI st) (a,(j:Int) - 1)=some (match gQ st (n.kids.take j).reverse (a - 1) with
   |none=> .inl ()
   |some r=> .inr (r+1, -1))
 |0,a,hj,hk,h0,h1=>by rw[M.wz];apply aV;simp only[M.FP,M.zS];rw[xK ak,bC,List.take_zero,List.reverse_nil,gQ];simp
 |j+1,a,hj,hkl,h0,h1=>by
  have hlt:i<l.length:=(QV.1 hi).1;obtain⟨k,hk⟩:∃k,n.kids[j]? =some k:=⟨n.kids[j]'ak,by simp⟩
  have ht:(n.kids.take (j+1)).reverse=k::(n.kids.take j).reverse:=by rw[List.take_add_one,hk,Option.toList_some,List.reverse_append];rfl
  rw[ht,gQ];have e1:(((j+1:Nat):Int) - 1)=(j:Int):=ak;rw[e1];have hstep:M.FP (mO o l) (i:Int) (encI st) (a,(j:Int))=if a - 1<0\/k≠a - 1 then some (.inr (.inl ())) else some (.inl (st[k.toNat]?.getD 0,(j:Int) - 1)):=by
   simp only[M.FP,M.zS,cO,Je,hi,MI,ah,cD3,zO,hk,YV];rw[zdt ak,aH,aJ (n:=a - 1) ak ak]
   by_cases h2:k=a - 1
   ·have:(k !=a - 1)=false:=by simp[h2]
    rw[this,bC]
    by_cases h3:a=0
    ·have:(a==0)=true:=by simp[h3]
     rw[this,aH,if_pos (.inl ak)]
    ·have:(a==0)=false:=by simp[h3]
     rw[this,bC,if_neg ak];obtain⟨d,hd⟩:∃d:Nat,a - 1=(d:Int):=⟨(a - 1).toNat,ak⟩
     have hdl:d<st.length:=ak;rw[h2,hd];simp only[akc,cO,zO,ztn];rw[List.getElem?_eq_getElem hdl];simp only[MI,ah,YV,Option.getD_some];rw[aJ ak ak]
   ·have:(k !=a - 1)=true:=by simp[h2]
    rw[this,aH,if_pos (.inr h2)]
  by_cases hc:a - 1<0\/k≠a - 1
  ·rw[if_pos hc];rw[if_pos hc] at hstep;exact aV hstep
  ·rw[if_neg hc];rw[if_neg hc] at hstep;rw[M.wz,bY hstep];have hz:=VO hst k.toNat;have:=abQ l o hi hl hst hs j (st[k.toNat]?.getD 0) ak hkl hz.1 ak;rw[M.wz] at this;exact this
def ZK(l:List Nd)(o:Bool)(hl:l.length<=90000000)(hk:∀n,n∈l->n.kids.length<=90000000):∀(rest:List Nd) (i:Nat) (st:List Int),l.drop i=rest->st.length=i->i<=l.length->ace st->
  M.wB (mO o l) ((i:Int),encI st)=some (match iL st (ks rest) with
   |none=> .inl ()
   |some r=> .inr ((l.length:Int),encI r))
 |[],i,st,hd,hs,hi,hst=>by have:l.length<=i:=List.drop_eq_nil_iff.1 hd;rw[M.wB];apply aV;simp only[yJ,M.FQ,M.zT,oL];rw[xK ak,bC];have:i=l.length:=ak;subst this;rfl
 |n::rest,i,st,hd,hs,hi,hst=>by
  have hn:l[i]? =some n:=by
   have:(l.drop i)[0]? =some n:=by rw[hd];rfl
   simpa using this
  have hlt:i<l.length:=(QV.1 hn).1;have hd':l.drop (i+1)=rest:=by rw[<-List.drop_drop,hd];rfl
  have hkn:=hk n (UK hn);have hin:=abQ l o hn hl hst hs n.kids.length (i:Int) (zaV _) hkn ak ak;rw[List.take_length] at hin;have hks:ks (n::rest)=n.kids::ks rest:=rfl;rw[hks,iL,hs];have hstep:M.FQ (mO o l) ((i:Int),encI st)=some (match gQ st n.kids.reverse ((i:Int) - 1) with
    |none=> .inr (.inl ())
    |some a=> .inl (((i+1:Nat):Int),encI (st++[a+1]))):=by
   simp only[yJ,M.FQ,M.zT,oL,cO,Je,hn,MI,ah,cD3,dV];rw[zdt ak,aH,aJ (n:=(n.kids.length:Int) - 1) ak ak,hin];cases hw:gQ st n.kids.reverse ((i:Int) - 1) with
   |none=>rfl
   |some a=>simp only[ah,kD,letE,Jj];rw[bI ak,aH,bI ak,aH,aJ ak ak];simp[encI]
  cases hw:gQ st n.kids.reverse ((i:Int) - 1) with
  |none=>rw[hw] at hstep;exact aV hstep
  |some a=>rw[hw] at hstep;rw[M.wB,bY hstep];have hr:=JX hst _ _ _ ak ak hw;have:=ZK l o hl hk rest (i+1) (st++[a+1]) hd' (by simp[hs]) hlt (X8 hst hr.1 hr.2);rw[M.wB] at this;exact this
mutual
def txs:Tn->Nat
 | .mk _ _ x _ ks=>x.length+auX ks
def auX:List Tn->Nat
 |[]=>0
 |t::ts=>txs t+auX ts
end
mutual
def aBA(X:Nat):∀(t:Tn) (b:Nat),(∀n,n∈t.flat b->n.text.length<=X)->txs t<=X * t.size
 | .mk k o x y ks,b,h=>by
  rw[Tn.flat] at h;have h1:=awt X ks b λn hn=>h n (List.mem_append_left _ hn)
  have h2:x.length<=X:=h ⟨k,o,x,y,ends ks b⟩ (by simp);rw[txs,Tn.size,Nat.mul_add,Nat.mul_one];omega
def awt(X:Nat):∀(ks:List Tn) (b:Nat),(∀n,n∈lG ks b->n.text.length<=X)->auX ks<=X * sizes ks
 |[],b,_=>by simp[auX]
 |t::ts,b,h=>by
  rw[lG] at h;have h1:=aBA X t b λn hn=>h n (List.mem_append_left _ hn)
  have h2:=awt X ts _ λn hn=>h n (List.mem_append_right _ hn)
  rw[auX,sizes,Nat.mul_add];omega
end
def aER(n:Nd):Bool:=auW n.kind n.op n.text n.kids.length
mutual
def asW:∀(t:Tn) (b:Nat),(t.flat b).all aER=(dOk t)
 | .mk k o x y ks,b=>by rw[Tn.flat,List.all_append,an6 ks b,dOk];simp[aER,jE]
def an6:∀(ks:List Tn) (b:Nat),(lG ks b).all aER=ax5 ks
 |[],_=>rfl
 |t::ts,b=>by rw[lG,List.all_append,asW t b,an6 ts _,ax5]
end
def asX{α:Type}(f:α->Bool):∀(l:List α) (i:Nat),Wn (λ_ x=>f x) l i=l.all f
 |[],_=>rfl
 |x::l,i=>by rw[Wn,asX f l,List.all_cons]
section
variable {t:Tn} {o:Bool} (h:t.size<=90000000)
include h
theorem auY:(t.flat 0).length<=90000000/\∀n,n∈t.flat 0->n.kids.length<=90000000:=
 ⟨by rw[t.flat_length];exact h,λn hn=>by have:=(Vw t 0 n hn).1;omega⟩
theorem aBB:∃q:Nat,(t.size:Int) - 1=(q:Int)/\(t.sts 0)[q]? =some 0:=by obtain⟨u,hu,hul⟩:=t.aas 0;have hp:=t.size_pos;refine⟨u.length,ak, ?_⟩;rw[hu,List.getElem?_append_right (zaV _),Nat.sub_self];rfl
theorem agp:M.yN (mO o (t.flat 0))=some (encI (t.sts 0),true):=by obtain⟨h1,h2⟩:=auY h;have hout:=ZK (t.flat 0) o h1 h2 (t.flat 0) 0 [] rfl rfl (Nat.zero_le _) X9;rw[ND,WT] at hout;have e0:encI []=[]:=rfl;rw[e0] at hout;simp only[M.yN,M.LH,hout,ah,kD,letE,Rw,aH]
theorem ad3(hx:∀n,n∈t.flat 0->n.text.length<=1000000000):M.J6 (mO o (t.flat 0))=some ((dOk t) && decide (t.size<=4000)):=by
 have hp:=t.size_pos;simp only[M.J6,M.Vh,Za,ah,oL,t.flat_length]
 by_cases hs:t.size<=4000
 ·have hl:=abG (t.flat 0) (λ_ n=>aER n) (b:=M.N8 (mO o (t.flat 0)))
   (λi n hi=>by have hil:=(QV.1 hi).1;have hxn:=hx n (UK hi);rw[t.flat_length] at hil;simp only[M.N8,M.IU,oL,t.flat_length,cO,Je,hi,MI,ah,cD0,cD1,cD2,cD3,aiQ _ _ n.text _ ak,dV];rw[zdt ak,aH,aJ ak ak];change _=some (bif auW n.kind n.op n.text n.kids.length then _ else _);cases auW n.kind n.op n.text n.kids.length<;>rfl)
   (by simp only[M.N8,M.IU,oL];rw[xK ak,bC])
  rw[asX,asW] at hl;rw[zdt (show(1:Int)<=t.size by omega),zdt (show(t.size:Int)<=4000 by omega),Bool.true_and,zaU,bC,M.Tt,hl,ah,zdt hs,Bool.and_true];cases hd:(dOk t) with
  |false=>rfl
  |true=>obtain⟨q,hq1,hq2⟩:=aBB h;simp only[aH,kD,letE,agp (o:=o) h,ah];rw[aJ ak ak,hq1];simp only[cO,zO,hq2,MI,ah,YV,ztn];rfl
 ·rw[xK (show¬(t.size:Int)<=4000 by omega),Bool.and_false,Bool.not_false,aH,xK hs,Bool.and_false]
end
def bytesOf_map:∀s:aC,bytesOf (s.map byteRow)=some s
 |[]=>rfl
 |c::s=>by
  have h:asByte (byteRow c)=some c:=by simp only[byteRow,asByte];simp
  rw[zmc,bytesOf,h,bytesOf_map s]
mutual
def asY:∀(t:Tn) (s:aC),agn t=some s->s.length<=txs t+t.size
 | .mk k n x y ks,s,h=>by
  rw[agn] at h;rw[txs,Tn.size];cases h1:k==1 with
  |true=>rw[h1,aH] at h;cases h;omega
  |false=>
   rw[h1,bC] at h;cases h2:k==2 with
   |true=>rw[h2,aH] at h;cases h;simp only[Jj];omega
   |false=>
    rw[h2,bC] at h;cases h3:k==3 with
    |true=>rw[h3,aH] at h;cases h
    |false=>rw[h3,bC] at h;have:=an7 ks s h;omega
def an7:∀(ts:List Tn) (s:aC),abP ts=some s->s.length<=auX ts+sizes ts
 |[],s,h=>by cases h;simp
 |t::ts,s,h=>by
  rw[abP] at h;rw[auX,sizes];cases ha:agn t with
  |none=>rw[ha] at h;cases h
  |some a=>
   rw[ha] at h;cases hb:abP ts with
   |none=>rw[hb] at h;cases h
   |some b=>rw[hb] at h;cases h;have h1:=asY t a ha;have h2:=an7 ts b hb;rw[Ai];omega
end
def flR(o:Option (aC)):aC×Bool:=match o with
 |some s=>(s,true)
 |none=>([],false)
def Dj(s:aC):(QO s).size=1:=by simp[QO,Tn.size,sizes]
def abR:ZG.size=1:=by simp[ZG,Tn.size,sizes]
def agq(d:Tn):(afV d).size=d.size+1:=by simp[afV,Tn.size,sizes]
def awu(d:Tn):(aum d).size=d.size+1:=by simp[aum,Tn.size,sizes]
def Zm(l:List Tn):(QS l).size=sizes l+1:=by simp[QS,Tn.size]
def ahq:∀(L:List Tn) (b:Bool),sizes (Wy b L)<=sizes L+2 * L.length
 |[],b=>by rw[Wy];simp[sizes]
 |x::l,b=>by have:=ahq l false;cases b<;>simp only[Wy,aH,bC,vP,sizes,Dj,abR,GX]<;>omega
def alE(L:List Tn):(afW L).size<=sizes L+2 * L.length+3:=by have:=ahq L true;rw[afW,awu,agq,Zm];omega
def an8:∀(L:List Tn) (j:Nat),(QT L j).size<=sizes L+1
 |[],j=>by simp[QT,sizes,Dj]
 |x::l,0=>by simp only[QT,List.getElem?_cons_zero,Option.getD_some,sizes];omega
 |x::l,j+1=>by have:=an8 l j;simp only[QT,List.getElem?_cons_succ,sizes] at this|-;omega
def auZ:∀(L:List Tn),(QT L 0).size+((QT L 1).size+(QT L 2).size)<=sizes L+3
 |[]=>by simp[QT,sizes,Dj]
 |[x]=>by simp[QT,sizes,Dj]
 |[x,y]=>by simp[QT,sizes,Dj];omega
 |x::y::z::l=>by simp[QT,sizes];omega
def I4{a b:Tn}{N:Nat}(c:Bool)(ha:a.size<=N)(hb:b.size<=N):(bif c then a else b).size<=N:=by cases c<;>assumption
def ax7(k op:Int)(n:Nat)(x:aC)(g:Bool)(L:List Tn):(ahg k op n x g L).size<=sizes L+2 * L.length+9:=by
 have h1:=alE L;have h2:=an8 L 0;have h3:=auZ L;unfold ahg;refine I4 _ ?_ (I4 _ ?_ (I4 _ ?_ (I4 _ ?_ (I4 _ ?_ (I4 _ ?_ (I4 _ ?_ (I4 _ ?_ (I4 _ (I4 _ ?_ ?_) (I4 _ ?_ (I4 _ ?_ ?_))))))))))
 all_goals(simp only[Dj,Zm,awu,agq,abR,sizes]<;>omega)
def agr(k op:Int)(n:Nat)(p:Ps):∀(ts:List Tn) (j:Nat),(wU k op n p ts j).length=ts.length
 |[],j=>by simp[wU]
 |t::ts,j=>by rw[wU,GX,agr k op n p ts (j+1),GX]
def Vt(k op:Int)(n:Nat)(p:Ps)(j:Nat)(u:Tn):Tn:=bif zC k j||fits u.kind u.op (fD k op n j p) then FK u (fD k op n j p) else QS [QO [40],FK u .top,QO [41]]
def alF(a:Tn):(QS [QO [40],a,QO [41]]).size=a.size+3:=by simp only[Zm,Dj,sizes];omega
def an9{k op:Int}{n:Nat}{p:Ps}{j:Nat}{u:Tn}(h:∀q,(FK u q).size+6<=16 * u.size):(Vt k op n p j u).size+3<=16 * u.size:=by
 unfold Vt;cases(zC k j||fits u.kind u.op (fD k op n j p)) with
 |true=>have:=h (fD k op n j p);rw[aH];omega
 |false=>have:=h .top;rw[bC,alF];omega
def alG{k op:Int}{n:Nat}{p:Ps}:∀{ts:List Tn} {j:Nat},(∀u,u∈ts->∀q,(FK u q).size+6<=16 * u.size)->sizes (wU k op n p ts j)+3 * ts.length<=16 * sizes ts
 |[],j,_=>by rw[wU];simp[sizes]
 |t::ts,j,h=>by
  have h1:=an9 (k:=k) (op:=op) (n:=n) (p:=p) (j:=j) (h t zmf);have h2:=alG (k:=k) (op:=op) (n:=n) (p:=p) (ts:=ts) (j:=j+1) λu hu=>h u (zmm _ hu)
  unfold Vt at h1;rw[wU,sizes,sizes,GX];omega
def OL(t:Tn):∀q,(FK t q).size+6<=16 * t.size:=by refine Tn.ind (P:=λt=>∀q,(FK t q).size+6<=16 * t.size) ?_ t;intro k op x y ks ih q;have h1:=ax7 k op ks.length x (asf op (rJ k op ks.length q ks 0)) (wU k op ks.length q ks 0);have h2:=alG (k:=k) (op:=op) (n:=ks.length) (p:=q) (ts:=ks) (j:=0) ih;rw[agr] at h1;rw[FK,Tn.size];omega
def ae8(t:Tn)(q:Ps):(Yu t q).size+3<=16 * t.size:=by
 have h1:=OL t q;have h2:=OL t .top;unfold Yu;cases fits t.kind t.op q with
 |true=>rw[aH];omega
 |false=>rw[bC,alF];omega
def alH(p:Ps)(L:List Tn):(akX p L).size<=16 * sizes L+3:=by
 have h:∀L:List Tn,sizes (L.map λt=>Yu t p)+3 * L.length<=16 * sizes L:=by
  intro L;induction L with
  |nil=>simp[sizes]
  |cons t l ih=>have:=ae8 t p;simp only[zmc,sizes,GX];omega
 have h1:=alE (L.map λt=>Yu t p);have h2:=h L;rw[zaW] at h1;unfold akX;omega
def XJ{α:Type}:List (List α)->Nat
 |[]=>0
 |x::l=>x.length+XJ l
def awv{α:Type}:∀(L:List (List α)) (j:Nat),(MC L j).length<=XJ L
 |[],j=>by simp[MC,XJ]
 |x::l,0=>by simp[MC,XJ]
 |x::l,j+1=>by have:=awv l j;simp only[MC,List.getElem?_cons_succ,XJ] at this|-;omega
def alI:∀(L:List (List Tk)) (b:Bool),(UE b L).length<=XJ L+L.length
 |[],b=>by simp[UE,XJ]
 |x::l,b=>by have:=alI l false;cases b<;>simp only[UE,XJ,aH,bC,Ai,GX]<;>omega
def aES{α:Type}:∀(L:List (List α)),(MC L 0).length+((MC L 1).length+(MC L 2).length)<=XJ L
 |[]=>by simp[MC,XJ]
 |[x]=>by simp[MC,XJ]
 |[x,y]=>by simp[MC,XJ]
 |x::y::z::l=>by simp[MC,XJ]
def JQ{α:Type}{a b:List α}{N:Nat}(c:Bool)(ha:a.length<=N)(hb:b.length<=N):(bif c then a else b).length<=N:=by cases c<;>assumption
def aBC(k op:Int)(n:Nat)(x:aC)(L:List (List Tk)):(Zc k op n x L).length<=XJ L+L.length+4:=by
 have h1:=alI L true;have h2:=awv L 0;have h3:=aES L;have h4:(bif Nat.blt 1 n then tok 32::(UE true L++[tok 33]) else MC L 0:List Tk).length<=XJ L+L.length+2:=JQ _ (by simp only[GX,Ai,OT];omega) ak;have h5:(bif op==99 then[] else[tok op]:List Tk).length<=1:=JQ _ (by simp) (by simp);unfold Zc;refine JQ _ ?_ (JQ _ ?_ (JQ _ ?_ (JQ _ ?_ (JQ _ ?_ (JQ _ ?_ (JQ _ ?_ (JQ _ ?_ (JQ _ ?_ (JQ _ ?_ (JQ _ ?_ (JQ _ ?_ ?_)))))))))))
 all_goals(simp only[GX,Ai,OT];omega)
def ags(k op:Int)(n:Nat)(p:Ps):∀(ts:List Tn) (j:Nat),(rJ k op n p ts j).length=ts.length
 |[],j=>by rw[rJ];rfl
 |t::ts,j=>by rw[rJ,GX,ags k op n p ts (j+1),GX]
def OM(k op:Int)(n:Nat)(p:Ps)(j:Nat)(u:Tn):List Tk:=bif zC k j||fits u.kind u.op (fD k op n j p) then Df u (fD k op n j p) else tok 32::(Df u .top++[tok 33])
def asZ{k op:Int}{n:Nat}{p:Ps}{j:Nat}{u:Tn}(h:∀q,(Df u q).length+4<=8 * u.size):(OM k op n p j u).length+2<=8 * u.size:=by
 unfold OM;cases(zC k j||fits u.kind u.op (fD k op n j p)) with
 |true=>have:=h (fD k op n j p);rw[aH];omega
 |false=>have:=h .top;simp only[bC,GX,Ai,OT];omega
def aoa{k op:Int}{n:Nat}{p:Ps}:∀{ts:List Tn} {j:Nat},(∀u,u∈ts->∀q,(Df u q).length+4<=8 * u.size)->XJ (rJ k op n p ts j)+2 * ts.length<=8 * sizes ts
 |[],j,_=>by rw[rJ,XJ,sizes];simp
 |t::ts,j,h=>by
  have h1:=asZ (k:=k) (op:=op) (n:=n) (p:=p) (j:=j) (h t zmf);have h2:=aoa (k:=k) (op:=op) (n:=n) (p:=p) (ts:=ts) (j:=j+1) λu hu=>h u (zmm _ hu)
  unfold OM at h1;rw[rJ,XJ,sizes,GX];omega
def RX(t:Tn):∀q,(Df t q).length+4<=8 * t.size:=by refine Tn.ind (P:=λt=>∀q,(Df t q).length+4<=8 * t.size) ?_ t;intro k op x y ks ih q;have h1:=aBC k op ks.length x (rJ k op ks.length q ks 0);have h2:=aoa (k:=k) (op:=op) (n:=ks.length) (p:=q) (ts:=ks) (j:=0) ih;rw[ags] at h1;rw[Df,Tn.size];omega
def aob(t:Tn)(q:Ps):(akW t q).length+2<=8 * t.size:=by
 have h1:=RX t q;have h2:=RX t .top;unfold akW;cases fits t.kind t.op q with
 |true=>rw[aH];omega
 |false=>simp only[bC,GX,Ai,OT];omega
@[simp] theorem og(l:List Tk):aj (aF l)=true:=by simp only[aj,aF,List.all_map,List.all_eq_true];intro x _;rfl
def pV(a b:List Tk):aF (a++b)=aF a++aF b:=by simp[aF]
def UJ(k:Int):([[D.int .i64 k,D.str (spell k),D.int .i64 0]]:au)=aF [tok k]:=rfl
section
end
def ahr(k op:Int)(n:Nat)(p:Ps)(u:Tn):rJ k op n p [u] 0=[OM k op n p 0 u]:=by rw[rJ,rJ];rfl
def apK(k op:Int)(n:Nat)(p:Ps)(u v:Tn):rJ k op n p [u,v] 0=[OM k op n p 0 u,OM k op n p 1 v]:=by rw[rJ,rJ,rJ];rfl
def aJd(k op:Int)(n:Nat)(p:Ps)(u v z:Tn):rJ k op n p [u,v,z] 0=[OM k op n p 0 u,OM k op n p 1 v,OM k op n p 2 z]:=by rw[rJ,rJ,rJ,rJ];rfl
def sz1(u:Tn):sizes [u]=u.size:=by simp[sizes]
def sz2(u v:Tn):sizes [u,v]=u.size+v.size:=by simp[sizes]
def sz3(u v z:Tn):sizes [u,v,z]=u.size+(v.size+z.size):=by simp[sizes]
def alJ{α:Type}{l:List α}(h:l.length=2):∃a b,l=[a,b]:=by
 match l,h with
 |[a,b],_=>exact⟨a,b,rfl⟩
def as1{α:Type}{l:List α}(h:l.length=3):∃a b c,l=[a,b,c]:=by
 match l,h with
 |[a,b,c],_=>exact⟨a,b,c,rfl⟩
def aww{op:Int}(h:tZ op≠0):I64 op:=by
 by_cases hr:0<=op/\op<=99
 ·constructor<;>omega
 ·exfalso;apply h;have e:∀z:Int,0<=z->z<=99->(op==z)=false:=λz h1 h2=>by rw[Rf];omega
  simp only[tZ,e 44 (by decide) (by decide),e 45 (by decide) (by decide),e 67 (by decide) (by decide),e 46 (by decide) (by decide),e 63 (by decide) (by decide),e 48 (by decide) (by decide),e 47 (by decide) (by decide),e 50 (by decide) (by decide),e 62 (by decide) (by decide),e 49 (by decide) (by decide),e 99 (by decide) (by decide),e 55 (by decide) (by decide),e 56 (by decide) (by decide),e 57 (by decide) (by decide),e 58 (by decide) (by decide),e 59 (by decide) (by decide),e 60 (by decide) (by decide),Bool.or_false,bC]
def ax8:((1:Nat):Int)=1:=rfl
def aTp:((2:Nat):Int)=2:=rfl
section
end
def ajh:∀{ks:List Tn} {u:Tn},KQ ks->u∈ks->RV u
 |[],_,_,h=>by cases h
 |t::ts,u,h,hu=>by
  rw[KQ] at h;rcases List.mem_cons.1 hu with rfl|hu
  ·exact h.1
  ·exact ajh h.2 hu
def aF4(l:List (aC))(h:∀g,g∈l->g.length<=9)(i:Nat):(l[i]?.getD []).length<=9:=by
 cases hx:l[i]? with
 |none=>simp
 |some g=>exact h g (UK hx)
def aTq:∀g,g∈Y6->g.length<=9:=by decide+kernel
def aTr:∀g,g∈UD->g.length<=9:=by decide+kernel
def RY(k:Int):(spell k).length<=9:=by
 unfold spell;split
 ·simp
 ·split
  ·exact aF4 _ aTq _
  ·split
   ·exact aF4 _ aTr _
   ·simp
def SmK(l:List Tk):Prop:=∀t,t∈l->t.text.length<=1048576
def abS:SmK []:=λt h=>by cases h
def zD{t:Tk}{l:List Tk}(h:t.text.length<=1048576)(hl:SmK l):SmK (t::l):=by
 intro u hu;rcases List.mem_cons.1 hu with rfl|hu
 ·exact h
 ·exact hl u hu
def RZ{a b:List Tk}(ha:SmK a)(hb:SmK b):SmK (a++b):=by
 intro u hu;rcases List.mem_append.1 hu with hu|hu
 ·exact ha u hu
 ·exact hb u hu
def OO(k:Int):(tok k).text.length<=1048576:=by have:=RY k;show(spell k).length<=1048576;omega
def KT{a b:List Tk}(c:Bool)(ha:SmK a)(hb:SmK b):SmK (bif c then a else b):=by cases c<;>assumption
def aBD:∀{L:List (List Tk)} (b:Bool),(∀l,l∈L->SmK l)->SmK (UE b L)
 |[],b,_=>by rw[UE];exact abS
 |x::l,b,h=>by have h1:=h x zmf;rw[UE];exact RZ (KT _ h1 (zD (OO _) h1)) (aBD false λl hl=>h l (zmm _ hl))
def aJe{L:List (List Tk)}(h:∀l,l∈L->SmK l)(j:Nat):SmK (MC L j):=by
 unfold MC;cases hx:L[j]? with
 |none=>exact abS
 |some l=>exact h l (UK hx)
def aJf{k op:Int}{n:Nat}{x:aC}{L:List (List Tk)}(hx:x.length<=1048576)(h:∀l,l∈L->SmK l):SmK (Zc k op n x L):=by
 have t1:∀z:Int,SmK [⟨z,x,0⟩]:=λz=>zD hx abS
 have t2:∀z:Int,SmK [tok z]:=λz=>zD (OO z) abS
 have n1:=aJe h;have c1:=aBD true h;unfold Zc;refine KT _ (t1 _) (KT _ (t1 _) (KT _ (t1 _) (KT _ (t1 _) (KT _ ?_ (KT _ ?_ (KT _ ?_ (KT _ ?_ (KT _ ?_ (KT _ ?_ (KT _ ?_ (KT _ ?_ ?_)))))))))))
 ·exact zD hx (zD (OO _) (RZ c1 (t2 _)))
 ·exact zD hx (zD (OO _) (RZ c1 (t2 _)))
 ·exact zD hx (zD (OO _) (RZ c1 (t2 _)))
 ·exact zD (OO _) (n1 _)
 ·exact zD (OO _) (n1 _)
 ·exact RZ (n1 _) (t2 _)
 ·exact RZ (KT _ (zD (OO _) (RZ c1 (t2 _))) (n1 _)) (zD (OO _) (zD hx abS))
 ·exact RZ (n1 _) (zD (OO _) (RZ (n1 _) (zD (OO _) (n1 _))))
 ·exact RZ (n1 _) (RZ (KT _ abS (t2 _)) (n1 _))
def awx{k op:Int}{n:Nat}{p:Ps}:∀{ts:List Tn} {j:Nat},(∀u,u∈ts->∀q,SmK (Df u q))->∀l,l∈rJ k op n p ts j->SmK l
 |[],j,_,l,hl=>by rw[rJ] at hl;cases hl
 |t::ts,j,h,l,hl=>by
  rw[rJ] at hl;rcases List.mem_cons.1 hl with rfl|hl
  ·exact KT _ (h t zmf _) (zD (OO _) (RZ (h t zmf _) (zD (OO _) abS)))
  ·exact awx (λu hu=>h u (zmm _ hu)) l hl
def awy(t:Tn):RV t->∀p,SmK (Df t p):=by refine Tn.ind (P:=λt=>RV t->∀p,SmK (Df t p)) ?_ t;intro k op x y ks ih h p;rw[RV] at h;rw[Df];exact aJf h.1.1 (awx λu hu q=>ih u hu (ajh h.2 hu) q)
def aJg{k op:Int}{n:Nat}{p:Ps}{j:Nat}{u:Tn}(h:RV u):SmK (OM k op n p j u):=
 KT _ (awy u h _) (zD (OO _) (RZ (awy u h _) (zD (OO _) abS)))
def aBE(t:Tn):Uw t->isE t->∀p,Df t p≠[]:=by
 refine Tn.ind (P:=λt=>Uw t->isE t->∀p,Df t p≠[]) ?_ t;intro k op x y ks ih hok he p;have hc:=ae0 hok;have he':=he;simp only[isE,Tn.kind] at he';have ih':∀i u,ks[i]? =some u->∀q,Df u q≠[]:=λi u e q=>by obtain⟨h1,h2⟩:=akZ hok he' e;exact ih u (UK e) h2 h1 q
 have kne:∀i u,ks[i]? =some u->OM k op ks.length p i u≠[]:=by
  intro i u e;unfold OM;cases(zC k i||fits u.kind u.op (fD k op ks.length i p)) with
  |true=>exact ih' i u e _
  |false=>simp
 rw[Df];have hk:k=1\/k=2\/k=3\/k=4\/k=5\/k=7\/k=8\/k=6\/k=9\/k=10\/k=11\/k=13\/k=14\/(k=12\/k=15):=ak;rcases hk with rfl|rfl|rfl|rfl|rfl|rfl|rfl|rfl|rfl|rfl|rfl|rfl|rfl|hk
 iterate 13 simp[Zc]
 obtain⟨u,v,rfl⟩:=alJ (hc.two ak);have h0:OM k op 2 p 0 u≠[]:=kne 0 u rfl;rcases hk with rfl|rfl
 ·rw[apK];simp[Zc,MC,h0]
 ·rw[apK];simp[Zc,MC,h0]
def aET{k op:Int}{n:Nat}{p:Ps}{j:Nat}{u:Tn}(h1:Uw u)(h2:isE u):OM k op n p j u≠[]:=by
 unfold OM;cases(zC k j||fits u.kind u.op (fD k op n j p)) with
 |true=>exact aBE u h1 h2 _
 |false=>simp
mutual
def tsm:Tn->Prop
 | .mk _ _ x _ ks=>x.length<=1000000000/\Si ks
def Si:List Tn->Prop
 |[]=>True
 |t::ts=>tsm t/\Si ts
end
mutual
def alK:∀(t:Tn) (b:Nat),tsm t->∀n,n∈t.flat b->n.text.length<=1000000000
 | .mk k o x y ks,b,h,n,hn=>by
  rw[tsm] at h;rw[Tn.flat] at hn;rcases List.mem_append.1 hn with hn|hn
  ·exact aoc ks b h.2 n hn
  ·simp only[List.mem_singleton] at hn;subst hn;exact h.1
def aoc:∀(ks:List Tn) (b:Nat),Si ks->∀n,n∈lG ks b->n.text.length<=1000000000
 |[],b,_,n,hn=>by simp[lG] at hn
 |t::ts,b,h,n,hn=>by
  rw[Si] at h;rw[lG] at hn;rcases List.mem_append.1 hn with hn|hn
  ·exact alK t b h.1 n hn
  ·exact aoc ts _ h.2 n hn
end
def alL(s:aC):tsm (QO s)↔s.length<=1000000000:=by simp[QO,tsm,Si]
def as2:tsm ZG:=by simp[ZG,tsm,Si]
def as3(d:Tn):tsm (afV d)↔tsm d:=by simp[afV,tsm,Si]
def awz(d:Tn):tsm (aum d)↔tsm d:=by simp[aum,tsm,Si]
def apL(l:List Tn):tsm (QS l)↔Si l:=by simp[QS,tsm]
def as4:∀l:List Tn,Si l↔∀t,t∈l->tsm t
 |[]=>by simp[Si]
 |t::ts=>by simp[Si,as4 ts]
def as5(a b:List Tn):Si (a++b)↔Si a/\Si b:=by simp only[as4,List.mem_append];exact⟨λh=>⟨λt ht=>h t (.inl ht),λt ht=>h t (.inr ht)⟩,λh t ht=>ht.elim (h.1 t) (h.2 t)⟩
def JR{a b:Tn}(c:Bool)(ha:tsm a)(hb:tsm b):tsm (bif c then a else b):=by cases c<;>assumption
def aBF{a b:List Tn}(c:Bool)(ha:Si a)(hb:Si b):Si (bif c then a else b):=by cases c<;>assumption
def as6:∀(L:List Tn) (b:Bool),Si L->Si (Wy b L)
 |[],b,_=>by simp[Wy,Si]
 |x::l,b,h=>by rw[Si] at h;rw[Wy,as5];exact⟨aBF _ ⟨h.1,trivial⟩ ⟨by simp[alL],as2,h.1,trivial⟩,as6 l false h.2⟩
def ax9{L:List Tn}(h:Si L):tsm (afW L):=by rw[afW,awz,as3,apL];exact as6 L true h
def agt:∀{L:List Tn} (j:Nat),Si L->tsm (QT L j)
 |[],j,_=>by simp[QT,alL]
 |x::l,0,h=>h.1
 |x::l,j+1,h=>agt (L:=l) j h.2
def aBG(k op:Int)(n:Nat){x:aC}(g:Bool){L:List Tn}(hx:x.length<=1048576)(h:Si L):tsm (ahg k op n x g L):=by
 have hs:=RY op;have h0:=agt 0 h;have h1:=agt 1 h;have h2:=agt 2 h;have hl:=ax9 h;unfold ahg;refine JR _ ?_ (JR _ ?_ (JR _ ?_ (JR _ ?_ (JR _ ?_ (JR _ ?_ (JR _ ?_ (JR _ ?_ (JR _ (JR _ ?_ ?_) (JR _ ?_ (JR _ ?_ ?_))))))))))
 all_goals simp only[apL,awz,as3,Si,alL,h0,h1,h2,hl,as2,true_and,and_true,Ai,GX,OT]
 all_goals first
  |omega
  |(cases g<;>simp only[aH,bC,Ai,GX,OT]<;>omega)
def aod{a:Tn}(h:tsm a):tsm (QS [QO [40],a,QO [41]]):=by rw[apL];exact⟨by simp[alL],h,by simp[alL],trivial⟩
def aoe(k op:Int)(n:Nat)(p:Ps):∀(ts:List Tn) (j:Nat),(∀u,u∈ts->∀q,tsm (FK u q))->Si (wU k op n p ts j)
 |[],j,_=>by rw[wU];trivial
 |t::ts,j,h=>by rw[wU];exact⟨JR _ (h t zmf _) (aod (h t zmf _)),aoe k op n p ts (j+1) λu hu=>h u (zmm _ hu)⟩
def aof(t:Tn):RV t->∀q,tsm (FK t q):=by refine Tn.ind (P:=λt=>RV t->∀q,tsm (FK t q)) ?_ t;intro k op x y ks ih hs q;rw[RV] at hs;rw[FK];exact aBG _ _ _ _ hs.1.1 (aoe _ _ _ _ _ _ λu hu=>ih u hu (ajh hs.2 hu))
def aya{t:Tn}(h:RV t)(q:Ps):tsm (Yu t q):=JR _ (aof t h q) (aod (aof t h _))
def flL:List Nd->Option (aC)
 |[]=>some []
 |n::l=>bif n.kind==1 then(flL l).map (n.text++ ·) else bif n.kind==2 then(flL l).map ([32]++ ·) else bif n.kind==3 then none else flL l
def two(a b:Option (aC)):Option (aC):=match a with
 |none=>none
 |some x=>match b with
  |none=>none
  |some y=>some (x++y)
def aEU(a:Option (aC)):two a (some [])=a:=by cases a<;>simp[two]
def apM:∀a b:List Nd,flL (a++b)=two (flL a) (flL b)
 |[],b=>by rw[List.nil_append,flL];cases flL b<;>rfl
 |n::a,b=>by
  rw[zca,flL,flL,apM a b];cases n.kind==1 with
  |true=>cases flL a<;>cases flL b<;>simp[two]
  |false=>
  cases n.kind==2 with
  |true=>cases flL a<;>cases flL b<;>simp[two]
  |false=>
  cases n.kind==3 with
  |true=>rfl
  |false=>rfl
mutual
def as7:∀(t:Tn) (b:Nat),dOk t=true->flL (t.flat b)=agn t
 | .mk k n x y ks,b,h=>by
  rw[dOk,BK] at h;have hk:=aog ks b h.1;rw[Tn.flat,apM,hk,agn];simp only[flL];have hd:=h.2;unfold auW at hd;have key:∀(e:ks.length=0),abP ks=some []:=λe=>by rw[List.eq_nil_of_length_eq_zero e];rfl
  cases h0:(!(k==4) && !(n==0))||(!(k==1) && !(x==[])) with
  |true=>rw[h0,aH] at hd;cases hd
  |false=>
  rw[h0,bC] at hd;cases h1:k==1 with
  |true=>rw[h1,aH,BK] at hd;rw[key (I5 hd.2)];simp[two]
  |false=>
  rw[h1,bC] at hd;cases h2:k==2 with
  |true=>rw[h2,Bool.true_or,aH] at hd;rw[key (I5 hd)];simp[two]
  |false=>
  rw[h2,Bool.false_or] at hd;cases h3:k==3 with
  |true=>rw[h3,aH] at hd;rw[key (I5 hd)];rfl
  |false=>simp only[bC];rw[aEU]
def aog:∀(ks:List Tn) (b:Nat),ax5 ks=true->flL (lG ks b)=abP ks
 |[],b,_=>rfl
 |t::ts,b,h=>by rw[ax5,BK] at h;rw[lG,apM,as7 t b h.1,aog ts _ h.2,abP];rfl
end
def tL:List Nd->Nat
 |[]=>0
 |n::l=>n.text.length+1+tL l
def aF5:∀l:List Nd,(∀n,n∈l->n.text.length<=1000000000)->tL l<=1000000001 * l.length
 |[],_=>by simp[tL]
 |n::l,h=>by
  have h1:=h n zmf;have h2:=aF5 l λm hm=>h m (zmm _ hm)
  rw[tL,GX,Nat.mul_add];omega
def aoh{L:List Nd}{o:Bool}(hL:L.length<=1000000):∀(l:List Nd) (i:Nat) (acc:aC),L.drop i=l->i+l.length=L.length->acc.length+tL l<=20000000000000->
  M.nX (mO o L) ((i:Int),acc.map byteRow)=(match flL l with
   |none=>some (.inl ())
   |some s=>some (.inr ((L.length:Int),(acc++s).map byteRow)))
 |[],i,acc,hd,hi,_=>by rw[M.nX];refine aV ?_;simp only[M.uq,M.qC,oL];rw[OT] at hi;rw[xK ak,bC,List.append_nil,show i=L.length by omega]
 |n::l,i,acc,hd,hi,hb=>by
  rw[GX] at hi;rw[tL] at hb;have hn:L[i]? =some n:=by have:=congrArg (λx=>x[0]?) hd;simpa using this
  have hd':L.drop (i+1)=l:=by have:=congrArg (λx=>x.drop 1) hd;simpa using this
  have hw:i64.wrap ((i:Int)+1)=((i+1:Nat):Int):=by rw[aJ ak ak];omega
  have hin:((i:Int)<(L.length:Int)):=ak;have step:∀(s:aC),s.length<=n.text.length+1->M.uq (mO o L) ((i:Int),acc.map byteRow)=some (.inl (((i+1:Nat):Int),(acc++s).map byteRow))->
    M.nX (mO o L) ((i:Int),acc.map byteRow)=(match(flL l).map (s++ ·) with
     |none=>some (.inl ())
     |some s=>some (.inr ((L.length:Int),(acc++s).map byteRow))):=by
   intro s hs hb';have:=aoh (o:=o) hL l (i+1) (acc++s) hd' ak (by rw[Ai];omega);rw[M.nX] at this;rw[M.nX,bY hb',this];cases flL l with
   |none=>rfl
   |some x=>simp only[MI,WC]
  rw[flL];cases h1:n.kind==1 with
  |true=>rw[aH];refine step n.text ak ?_;simp only[M.uq,M.qC,oL,cO,Je,hn,MI,ah,cD0,cD2,h1,aH,zaW,hw];rw[zdt hin,aH,bI ak,aH,bI ak,aH,List.map_append]
  |false=>
  rw[bC];cases h2:n.kind==2 with
  |true=>rw[aH];refine step [32] (by simp) ?_;simp only[M.uq,M.qC,oL,cO,Je,hn,MI,ah,cD0,cD2,h1,h2,aH,bC,zaW,hw];rw[zdt hin,aH,bI ak,aH,bI ak,aH,List.map_append];rfl
  |false=>
  rw[bC];cases h3:n.kind==3 with
  |true=>rw[aH,M.nX];refine aV ?_;simp only[M.uq,M.qC,oL,cO,Je,hn,MI,ah,cD0,h1,h2,h3,aH,bC];rw[zdt hin,aH]
  |false=>rw[bC];have h:=step [] (by simp) (by simp only[M.uq,M.qC,oL,cO,Je,hn,MI,ah,cD0,h1,h2,h3,bC,hw,List.append_nil];rw[zdt hin,aH]);rw[h];cases flL l<;>rfl
def as8{t:Tn}{o:Bool}(hd:dOk t=true)(hz:t.size<=4000)(hx:tsm t):M.sO (mO o (t.flat 0))=some (flR (agn t)):=by
 have hxx:=alK t 0 hx;have hf:=as7 t 0 hd;have ht:=aF5 _ hxx;rw[t.flat_length] at ht;have h:=aoh (o:=o) (L:=t.flat 0) (by rw[t.flat_length];omega) (t.flat 0) 0 [] rfl ak (by simp only[OT];omega);rw[hf] at h;have h0:M.nX (mO o (t.flat 0)) (0,[])=M.nX (mO o (t.flat 0)) (((0:Nat):Int),([]:aC).map byteRow):=rfl;simp only[M.sO,M.IV,ad3 (t:=t) ak hxx,ah,hd,Bool.true_and];rw[zdt hz,h0,h];cases agn t with
 |none=>rfl
 |some s=>simp only[zaU,bC,ah,kD,letE,List.nil_append,bytesOf_map];rfl
def aEV{o:Option (aC)}{N:Nat}(h:∀s,o=some s->s.length<=N):(flR o).1.length<=N:=by
 cases o with
 |none=>simp[flR]
 |some s=>exact h s rfl
def aEW(l:List Nd)(o:Bool)(d:Int)(hl:l.length<=90000000)(hk:∀n,n∈l->n.kids.length<=90000000/\∀e,e∈n.kids-> -4000000000<=e+d/\e+d<=4000000000):
  M.vH (mO o l) d=some (mO true (l.map (Nd.up d))):=by
 simp only[M.vH,M.NV];have hloop:=uJ (b:=M.H6 (mO o l) d) (t:=((l.length:Int),mO true (l.map (Nd.up d)))) (λi=>((i:Int),mO true ((l.take i).map (Nd.up d)))) l.length
  (by
   intro i hi;obtain⟨n,hn⟩:∃n,l[i]? =some n:=⟨l[i],by simp[hi]⟩
   obtain⟨hkl,hke⟩:=hk n (UK hn);have hin:=uJ (b:=M.HY (mO o l) d (i:Int) (mO true ((l.take i).map (Nd.up d))) n.kind n.op n.text) (t:=((n.kids.length:Int),encI (n.kids.map (· +d)))) (λj=>((j:Int),encI ((n.kids.take j).map (· +d)))) n.kids.length
    (by
     intro j hj;obtain⟨e,he⟩:∃e,n.kids[j]? =some e:=⟨n.kids[j],by simp[hj]⟩
     have:=hke e (UK he);simp only[yJ,M.HY,M.BU,cO,Je,hn,MI,ah,cD3,dV,zO,he,YV,zaW,zlt,Jj];rw[zdt ak,aH,bI ak,aH,bI ak,aH,aJ ak ak,aJ ak ak,tu he];simp[encI])
    (by simp only[yJ,M.HY,M.BU,cO,Je,hn,MI,ah,cD3,dV];rw[xK ak,bC,List.take_length]) 0 (Nat.zero_le _)
   simp only[ND,List.take_zero,List.map_nil] at hin;have hin':M.Lu (mO o l) d (i:Int) (mO true ((l.take i).map (Nd.up d))) n.kind n.op n.text (0,[])=some ((n.kids.length:Int),encI (n.kids.map (· +d))):=hin;simp only[yJ,M.H6,M.BX,oL,cO,Je,hn,MI,ah,cD0,cD1,cD2,cD3,hin',Rw,aH,zaW,zlt,Jj];rw[zdt ak,aH,bI ak,aH,bI ak,aH,aJ ak ak,tu hn,List.map_append,Zl];rfl)
  (by simp only[yJ,M.H6,M.BX,oL];rw[xK ak,bC,List.take_length]) 0 (Nat.zero_le _)
 simp only[ND,List.take_zero,List.map_nil] at hloop;have KJ:M.LC (mO o l) d (0,[])=some ((l.length:Int),mO true (l.map (Nd.up d))):=hloop;rw[KJ,ah]
def GV(ts:List Tn):au:=ts.map λt=>[.sl false 4 (mO false (t.flat 0))]
def apN(t:Tn)(n:Nd)(hn:n∈t.flat 0):n.kids.length<=t.size/\∀e,e∈n.kids->0<=e/\e<t.size:=by obtain⟨h1,h2⟩:=Vw t 0 n hn;refine⟨ak,λe he=> ?_⟩;have:=h2 e he;omega
def au0(k op:Int)(ts:List Tn)(hs:sizes ts<=90000000):M.fH k op (GV ts)=some (mO true ((Tn.mk k op [] [] ts).flat 0)):=by
 have htl:=DK ts;simp only[yJ,M.fH,M.Qb];have hpl:(GV ts).length=ts.length:=by simp[GV]
 have hloop:=uJ (b:=M.Ep)
  (t:=if ts=[] then .inl (GV ts,0,[],k,op,[]) else .inr (GV ts,(ts.length:Int),mO true (lG ts 0),k,op,[],encI (ends ts 0)))
  (λj=>if j=0 then .inl (GV ts,0,[],k,op,[]) else .inr (GV ts,(j:Int),mO true (lG (ts.take j) 0),k,op,[],encI (ends (ts.take j) 0))) ts.length
  (by
   intro j hj;obtain⟨t,ht⟩:∃t,ts[j]? =some t:=⟨ts[j],by simp[hj]⟩
   have hst:=OH ht;have hp:=t.size_pos;have hr:(GV ts)[j]? =some [.sl false 4 (mO false (t.flat 0))]:=by simp[GV,ht]
   have c0:cSl 4 [D.sl false 4 (mO false (t.flat 0))] 0=some (mO false (t.flat 0)):=rfl;have hfl:(mO true (lG (ts.take j) 0)).length=sizes (ts.take j):=by rw[oL,tH]
   have hsh:M.vH (mO false (t.flat 0)) ((sizes (ts.take j):Nat):Int)=some (mO true (t.flat (sizes (ts.take j)))):=by
    rw[aEW (t.flat 0) false _ (by rw[t.flat_length];omega) (λn hn=> ?_)]
    ·rw[t.aoS 0 (sizes (ts.take j))];congr 4<;>omega
    ·obtain⟨h1,h2⟩:=apN t n hn;refine⟨ak,λe he=> ?_⟩;have:=h2 e he;omega
   have hrl:(mO true (t.flat (sizes (ts.take j)))).length=t.size:=by rw[oL,t.flat_length]
   have hel:(encI (ends (ts.take j) 0)).length=j:=by rw[dV,jE,zlt];omega
   rw[if_neg (show¬j+1=0 by omega),ahf ht,aeX ht]
   by_cases h0:j=0
   ·subst h0;have hi:idx (GV ts) 0=some [.sl false 4 (mO false (t.flat 0))]:=by have:=cO (GV ts) 0;rw[ND] at this;rw[this,hr]
    rw[if_pos rfl];have z:sizes (ts.take 0)=0:=rfl;rw[z] at hsh hrl;have z2:(([]:au).length:Int)=((0:Nat):Int):=rfl;simp only[yJ,M.Ep,M.zo,hpl,hi,ah,c0,z2,hsh,hrl,List.nil_append,OT,Nat.zero_add];rw[zdt ak,aH,bI ak,aH,bI ak,aH,aJ ak ak,aJ ak ak];simp[encI,mO,lG,ends,sizes]
   ·rw[if_neg h0];simp only[yJ,M.Ep,M.zo,hpl,cO,hr,ah,c0,hfl,hsh,hrl,hel,Ai,Jj];rw[zdt ak,aH,bI ak,aH,bI ak,aH,bI ak,aH,bI ak,aH,aJ ak ak,aJ ak ak,Zl,Nat.zero_add];simp[encI])
  (by
   by_cases h0:ts=[]
   ·rw[if_pos (by rw[h0];rfl),if_pos h0];subst h0;rfl
   ·have h1:¬ts.length=0:=λe=>h0 (List.length_eq_zero_iff.1 e)
    rw[if_neg h1,if_neg h0,List.take_length];simp only[yJ,M.Ep,M.zo,hpl];rw[xK ak,bC]) 0 (Nat.zero_le _)
 rw[if_pos rfl] at hloop;rw[M.NW,hloop,ah]
 by_cases h0:ts=[]
 ·rw[if_pos h0];subst h0;rfl
 ·rw[if_neg h0];simp only[kD,letE,Rw,aH,oL,tH,Jj];rw[bI ak,aH,bI ak,aH,Tn.flat,Zl];rfl
section
variable (t:Tn) (s:aC) (L:List Tn) (a b c d e f g h:Tn)
end
def aoi:∀(L:List Tn) (b:Bool) (x:Tn),Wy b (L++[x])=Wy b L++(bif L.isEmpty && b then[x] else[QO [44],ZG,x])
 |[],b,x=>by cases b<;>simp[Wy]
 |y::L,b,x=>by rw[zca,Wy,Wy,aoi L false x];simp
def as9:∀(L:List Tn) (b:Bool),(Wy b L).length<=3 * L.length
 |[],b=>by simp[Wy]
 |y::L,b=>by have:=as9 L false;cases b<;>simp only[Wy,aH,bC,Ai,GX,OT]<;>omega
def psD(p:Ps)(ks:List Tn):List Tn:=ks.map λu=>Yu u p
def apO(p:Ps)(ks:List Tn):(psD p ks).length=ks.length:=by simp[psD]
def aBH(p:Ps)(ks:List Tn):akX p ks=afW (psD p ks):=rfl
section
end
def aiq{n:Nat}(h:n<=8000000):n.ble 9223372036854775807=true:=bI ak
def alM(k op:Int)(n:Nat)(p:Ps)(u:Tn):wU k op n p [u] 0=[Vt k op n p 0 u]:=by rw[wU,wU];rfl
def aBI(k op:Int)(n:Nat)(p:Ps)(u v:Tn):wU k op n p [u,v] 0=[Vt k op n p 0 u,Vt k op n p 1 v]:=by rw[wU,wU,wU];rfl
def aJh(k op:Int)(n:Nat)(p:Ps)(u v z:Tn):wU k op n p [u,v,z] 0=[Vt k op n p 0 u,Vt k op n p 1 v,Vt k op n p 2 z]:=by rw[wU,wU,wU,wU];rfl
def alN{k op:Int}{n:Nat}{p:Ps}(ht:∀j,zC k j=false)(hq:∀j,j<n->fD k op n j p=.top):∀(ts:List Tn) (j:Nat),j+ts.length=n->wU k op n p ts j=psD .top ts
 |[],j,_=>by rw[wU];rfl
 |t::ts,j,hj=>by rw[GX] at hj;rw[wU,hq j ak,ht j,alN ht hq ts (j+1) ak,Bool.false_or];rfl
def agu{k op:Int}{ks:List Tn}{p:Ps}(hp:xJ p=true)(h:(lvl k op=15)\/(k=13/\Nat.blt 1 ks.length=true/\lvl k op≠0))(ht:∀j,zC k j=false):wU k op ks.length p ks 0=psD .top ks:=by
 refine alN ht (λj hj=> ?_) ks 0 ak;rcases h with h|⟨h1,h2,h3⟩
 ·exact KN hp hj h
 ·have hb:Nat.blt j ks.length=true:=by rw[Nat.blt_eq];exact hj
  have h4:(lvl k op==0)=false:=by simpa using h3
  subst h1;unfold fD;rw[hp,hb,h4,h2];simp
structure Ex'(u:Tn):Prop where
 ok:Uw u
 e:isE u
 sm:RV u
 sz:u.size<=1048576
def room{n:Nat}(h:n<=1000000000):n.ble 140737488355328=true:=bI ak
def QU{n:Nat}(h:n<=1000000000):(n * 32).ble 140737488355328=true:=bI ak
def abT{k op:Int}{x y:aC}{r:au}{j:Nat}{p:Ps}(he:1<=k/\k<=15)(hc:Cnt k op y r.length)(hj:j<r.length)(hr:r.length<=1048576):
  M.gV k op x y r (j:Int) p.level p.Fz p.QM p.QN p.FC=some (fD k op r.length j p).MF:=by
 have hb:Nat.blt j r.length=true:=by rw[Nat.blt_eq];exact hj
 have hl:=afX he hc;have hz:(lvl k op==0)=false:=by rw[Rf];omega
 have ho:=ak0 op;have h15:(tZ op==15)=false:=by rw[Rf];omega
 have h2:k=12->j=0\/j=1:=λe=>by have:=hc.two ak;omega
 have hk:k=1\/k=2\/k=3\/k=4\/k=5\/k=6\/k=7\/k=8\/k=9\/k=10\/k=11\/k=13\/k=14\/k=15\/k=12:=ak;simp only[M.gV,M.Ti,av4 p,dL,aD3 j r.length hr,hb,anR k op x y r,hz,auu,aii,ah,many,nb0,gt0,fD,zaU,Bool.false_or,bC];cases xJ p with
 |false=>rfl
 |true=>
  rcases hk with rfl|rfl|rfl|rfl|rfl|rfl|rfl|rfl|rfl|rfl|rfl|rfl|rfl|rfl|rfl
  case inr.inr.inr.inr.inr.inr.inr.inr.inr.inr.inr.inr.inr.inr=>have hl12:lvl 12 op=tZ op:=rfl;rw[hl12,h15];rcases h2 rfl with rfl|rfl<;>cases p.FC<;>simp[Ps.MF,aeZ,show Nat.beq 1 0=false from rfl]
  all_goals(cases p.FC<;>cases hq:Nat.beq j 0<;>cases hm:Nat.blt 1 r.length<;>simp[lvl,Ps.MF,Ps.top,aeZ,hq,hm])
def PS(t:Tn):Prop:=∀(o:Bool) (f:Nat) (p:Ps) (l:List Nd) (b:Nat),l.length<=1048576->Lies l b t->5 * t.size<=f->xJ p=true->
 M.Gp f (dQ o l) false ((b+sizes t.kids:Nat):Int) p.level p.Fz p.QM p.QN p.FC=some (aF (Df t p))
def aTs{u:Tn}(hS:PS u){o:Bool}{f:Nat}{p:Ps}{l:List Nd}{b:Nat}(hl:l.length<=1048576)(h:Lies l b u)(hf:5 * u.size+1<=f)(hp:xJ p=true):
  M.yH f (dQ o l) false ((b+sizes u.kids:Nat):Int) p.level p.Fz p.QM p.QN p.FC=some (aF (akW u p)):=by
 obtain⟨g,rfl⟩:∃g,f=g+1:=⟨f - 1,ak⟩
 have hlt:=h.lt;have h1:=hS o g p l b hl h ak hp;have h2:=hS o g .top l b hl h ak rfl;have hb:=RX u .top;have hr:idx (dQ o l) ((b+sizes u.kids:Nat):Int)=some (YU o ⟨u.kind,u.op,u.text,u.other,ends u.kids b⟩):=by rw[cO,qW,Lies.root' h];rfl
 have e1:=(KO 32 (by constructor<;>decide))
 have e2:=(KO 33 (by constructor<;>decide))
 simp only[Ps.top] at h2 hb;rw[M.aoX];simp only[yJ,M.LD,M.Ns,M.Tq,hr,ah,XK,YF,YG,YH,VN,aAz u.kind u.op u.text u.other _ p,Bool.not_false,aH,bC,akW];cases fits u.kind u.op p with
 |true=>simp only[aH,h1,ah,og]
 |false=>simp(disch:=omega) only[bC,e1,e2,aii,ah,h2,UJ,<-pV,eH,Ai,Jj,GX,OT,room,QU,og,aH,Ps.top];rfl
def aoj:∀(L:List (List Tk)) (b:Bool) (x:List Tk),UE b (L++[x])=UE b L++(bif L.isEmpty && b then x else tok 36::x)
 |[],b,x=>by cases b<;>simp[UE]
 |y::L,b,x=>by rw[zca,UE,UE,aoj L false x];simp
def KU(ks:List Tn):List (List Tk):=ks.map λu=>akW u .top
def aok:∀ks:List Tn,XJ (KU ks)+2 * ks.length<=8 * sizes ks
 |[]=>by simp[KU,XJ,sizes]
 |t::ts=>by have h1:=aob t .top;have h2:=aok ts;simp only[KU,zmc,XJ,sizes,GX] at h2|-;omega
def ae9(ks:List Tn)(b:Bool):(UE b (KU ks)).length<=9 * sizes ks:=by
 have h1:=alI (KU ks) b;have h2:=aok ks;have h3:(KU ks).length=ks.length:=by simp[KU]
 omega
def alO{k op:Int}{n:Nat}{p:Ps}(ht:∀j,zC k j=false)(hq:∀j,j<n->fD k op n j p=.top):∀(ts:List Tn) (j:Nat),j+ts.length=n->rJ k op n p ts j=KU ts
 |[],j,_=>by rw[rJ];rfl
 |t::ts,j,hj=>by rw[GX] at hj;rw[rJ,hq j ak,ht j,alO ht hq ts (j+1) ak,Bool.false_or];rfl
def At(l:List Nd)(b:Nat)(ks:List Tn):Prop:=∀j u,ks[j]? =some u->Lies l (b+sizes (ks.take j)) u
def TU{ks:List Tn}{b j:Nat}{u:Tn}(hj:ks[j]? =some u):idx (encI (ends ks b)) (j:Int)=some [D.int .i64 ((b+sizes (ks.take j)+sizes u.kids:Nat):Int)]:=by rw[cO,zO,ai5 hj];rfl
def aBJ{ks:List Tn}(ih:∀u,u∈ks->PS u){o:Bool}{f:Nat}{l:List Nd}{b:Nat}(hl:l.length<=1048576)(hat:At l b ks)(hf:5 * sizes ks+2<=f)(hu:sizes ks<=1048575):
  M.Gm f (dQ o l) false (encI (ends ks b))=some (aF (UE true (KU ks))):=by
 obtain⟨g,rfl⟩:∃g,f=g+1:=⟨f - 1,ak⟩
 have hkl:=DK ks;have e1:=(KO 36 (by constructor<;>decide))
 have hloop:=uJ (b:=M.Jy (M.yH g) (encI (ends ks b)) (dQ o l) false) (t:=((ks.length:Int),aF (UE true (KU ks)))) (λj=>((j:Int),aF (UE true (KU (ks.take j))))) ks.length
  (by
   intro j hj;obtain⟨u,hu'⟩:∃u,ks[j]? =some u:=⟨ks[j],by simp[hj]⟩
   have hus:=I9 (UK hu');have hst:=OH hu';have ha:=aTs (ih u (UK hu')) (o:=o) (f:=g) (p:=.top) hl (hat j u hu') ak rfl;have hi:=TU (b:=b) hu';have hel:=aob u .top;have hcl:=ae9 (ks.take j) true;have hsn:UE true (KU (ks.take (j+1)))=UE true (KU (ks.take j))++(bif(KU (ks.take j)).isEmpty && true then akW u .top else tok 36::akW u .top):=by rw[tu hu',KU,List.map_append];exact aoj _ _ _
   have hw:i64.wrap ((j:Int)+1)=((j+1:Nat):Int):=by rw[aJ ak ak];omega
   simp only[Ps.top] at ha hel;rw[hsn];simp only[yJ,M.Jy,M.Et,dV,jE];rw[zdt ak,aH]
   by_cases h0:j=0
   ·subst h0;rw[xK ak,bC];have z:(KU (ks.take 0)).isEmpty=true:=rfl;simp(disch:=omega) only[hi,ah,YV,aii,ha,<-pV,eH,Ai,room,QU,aH,hw,z,Bool.and_true,Ps.top]
   ·rw[zdt ak,aH];have z:(KU (ks.take j)).isEmpty=false:=by
     have hl2:(KU (ks.take j)).length=j:=by rw[KU,zaW,zlt];omega
     cases hq:KU (ks.take j) with
     |nil=>rw[hq,OT] at hl2;omega
     |cons _ _=>rfl
    simp(disch:=omega) only[hi,ah,YV,aii,ha,e1,UJ,<-pV,eH,Ai,Jj,GX,OT,room,QU,aH,bC,hw,z,Bool.false_and,Ps.top];simp)
  (by simp only[yJ,M.Jy,M.Et,dV,jE];rw[xK ak,bC,List.take_length]) 0 (Nat.zero_le _)
 have e0:aF (UE true (KU (ks.take 0)))=[]:=rfl;rw[ND,e0] at hloop;rw[M.akn];simp only[M.Gl,M.NZ,hloop,ah,og,aH]
def ad4{ks:List Tn}(ih:∀u,u∈ks->PS u){o:Bool}{f:Nat}{l:List Nd}{b:Nat}{k op:Int}{x y:aC}{p:Ps}{j:Nat}{u:Tn}(he:1<=k/\k<=15)(hc:Cnt k op y ks.length)(hp:xJ p=true)(hl:l.length<=1048576)(hat:At l b ks)(hf:5 * sizes ks+1<=f)(hu:sizes ks<=1048575)(hj:ks[j]? =some u)(ht:zC k j=false):
  (idx (encI (ends ks b)) (j:Int)=some [D.int .i64 ((b+sizes (ks.take j)+sizes u.kids:Nat):Int)]/\
   M.gV k op x y (encI (ends ks b)) (j:Int) p.level p.Fz p.QM p.QN p.FC=some (fD k op ks.length j p).MF/\
   M.yH f (dQ o l) false ((b+sizes (ks.take j)+sizes u.kids:Nat):Int) (fD k op ks.length j p).MF.1 (fD k op ks.length j p).MF.2.1 (fD k op ks.length j p).MF.2.2.1 (fD k op ks.length j p).MF.2.2.2.1 (fD k op ks.length j p).MF.2.2.2.2=some (aF (OM k op ks.length p j u)))/\(OM k op ks.length p j u).length+2<=8 * u.size:=by
 have hkl:=DK ks;have hus:=I9 (UK hj);have hjl:j<ks.length:=(QV.1 hj).1;have hen:(encI (ends ks b)).length=ks.length:=by rw[dV,jE]
 have hlv:lvl k op≠0:=by have:=afX he hc;omega
 refine⟨⟨TU hj, ?_, ?_⟩,asZ (RX u)⟩
 ·have h:=abT (x:=x) (r:=encI (ends ks b)) (j:=j) (p:=p) he (by rw[hen];exact hc) ak ak;rw[hen] at h;exact h
 ·have h:=aTs (ih u (UK hj)) (o:=o) (f:=f) (p:=fD k op ks.length j p) hl (hat j u hj) ak (DI hp hjl hlv);rw[OM,ht,Bool.false_or];exact h
def apP{ks:List Tn}(ih:∀u,u∈ks->PS u){o:Bool}{f:Nat}{l:List Nd}{b:Nat}(hl:l.length<=1048576)(hat:At l b ks)(hf:5 * sizes ks+3<=f)(hu:sizes ks<=1048575)(t':Int)(x:aC)(c:Int)(hop:c=32\/c=34):
  M.IJ f (dQ o l) false t' x 0 (encI (ends ks b)) c=some (aF (⟨t',x,0⟩::tok c::(UE true (KU ks)++[tok (c+1)]))):=by
 obtain⟨g,rfl⟩:∃g,f=g+1:=⟨f - 1,ak⟩
 have h1:=aBJ ih (o:=o) (f:=g) (b:=b) hl hat ak hu;have h2:=ae9 ks true;have e1:=(KO c (by rcases hop with rfl|rfl<;>constructor<;>decide))
 have e2:=(KO (c+1) (by rcases hop with rfl|rfl<;>constructor<;>decide))
 have e3:i64.wrap (c+1)=c+1:=by rcases hop with rfl|rfl<;>rfl
 have hr:([[D.int .i64 t',D.str x,D.int .i64 0],[D.int .i64 c,D.str (spell c),D.int .i64 0]]:au)=aF [⟨t',x,0⟩,tok c]:=rfl;rw[M.aiB];simp(disch:=omega) only[yJ,M.Dz,e1,e2,e3,h1,ah,hr,UJ (c+1),<-pV,eH,Ai,Jj,GX,OT,room,QU,og,aH];simp
def alP{u:Tn}(hS:PS u)(hok:Uw u)(he:isE u)(hh:13<=lvl u.kind u.op){o:Bool}{f:Nat}{l:List Nd}{b:Nat}(hl:l.length<=1048576)(h:Lies l b u)(hf:5 * u.size+1<=f)(p:Ps)(hp:xJ p=true):
  M.Gn f (dQ o l) false ((b+sizes u.kids:Nat):Int)=some (aF (Df u p)):=by
 obtain⟨g,rfl⟩:∃g,f=g+1:=⟨f - 1,ak⟩
 have h1:=hS o g ⟨14,false,false,false,false⟩ l b hl h ak rfl;rw[aus u hok hh he _ p rfl hp] at h1;rw[M.ag3];simp only[M.BG,h1,ah,og,aH]
def abU(k:Int)(h:k=12\/k=14\/k=6\/k=11\/k=13)(j:Nat):zC k j=false:=by rcases h with rfl|rfl|rfl|rfl|rfl<;>simp[zC]
def awC{ks:List Tn}(ih:∀u,u∈ks->PS u){o:Bool}{f:Nat}{l:List Nd}{b:Nat}{k op:Int}{x y:aC}{p:Ps}(hk:k=12\/k=14)(hc:Cnt k op y ks.length)(hp:xJ p=true)(hl:l.length<=1048576)(hat:At l b ks)(hf:5 * sizes ks+2<=f)(hu:sizes ks<=1048575):
  M.IK f (dQ o l) false k op x y (encI (ends ks b)) p.level p.Fz p.QM p.QN p.FC=some (aF (Zc k op ks.length x (rJ k op ks.length p ks 0))):=by
 obtain⟨g,rfl⟩:∃g,f=g+1:=⟨f - 1,ak⟩
 rw[M.aiC];rcases hk with rfl|rfl
 ·obtain⟨u,v,rfl⟩:=alJ (hc.two ak);have hsz:=sz2 u v;obtain⟨⟨a1,a2,a3⟩,a4⟩:=ad4 ih (o:=o) (f:=g) (b:=b) (k:=12) (op:=op) (x:=x) (y:=y) (p:=p) (j:=0) (u:=u) ak hc hp hl hat ak hu rfl (abU 12 ak 0);obtain⟨⟨b1,b2,b3⟩,b4⟩:=ad4 ih (o:=o) (f:=g) (b:=b) (k:=12) (op:=op) (x:=x) (y:=y) (p:=p) (j:=1) (u:=v) ak hc hp hl hat ak hu rfl (abU 12 ak 1);rw[ND] at a1 a2;rw[ax8] at b1 b2;generalize (fD 12 op [u,v].length 0 p).MF=q0 at a2 a3;generalize hk0:OM 12 op [u,v].length p 0 u=K0 at a3 a4;generalize (fD 12 op [u,v].length 1 p).MF=q1 at b2 b3;generalize hk1:OM 12 op [u,v].length p 1 v=K1 at b3 b4;rw[apK,hk0,hk1]
  by_cases h99:op=99
  ·have e99:(op !=99)=false:=by simp[h99]
   simp(disch:=omega) only[yJ,M.xg,a1,a2,a3,b1,b2,b3,YV,ah,Int.reduceBEq,e99,bC,<-pV,eH,Ai,Jj,GX,OT,room,QU,og,aH];simp[Zc,MC,h99]
  ·have e99:(op !=99)=true:=by simpa using h99
   have e98:(op==99)=false:=by simpa using h99
   have e1:=(KO op (aww (hc.bin rfl).1))
   simp(disch:=omega) only[yJ,M.xg,a1,a2,a3,b1,b2,b3,e1,YV,ah,Int.reduceBEq,e99,bC,UJ,<-pV,eH,Ai,Jj,GX,OT,room,QU,og,aH];simp[Zc,MC,e98]
 ·obtain⟨u,v,z,rfl⟩:=as1 (hc.three rfl);have hsz:=sz3 u v z;obtain⟨⟨a1,a2,a3⟩,a4⟩:=ad4 ih (o:=o) (f:=g) (b:=b) (k:=14) (op:=op) (x:=x) (y:=y) (p:=p) (j:=0) (u:=u) ak hc hp hl hat ak hu rfl (abU 14 ak 0);obtain⟨⟨b1,b2,b3⟩,b4⟩:=ad4 ih (o:=o) (f:=g) (b:=b) (k:=14) (op:=op) (x:=x) (y:=y) (p:=p) (j:=1) (u:=v) ak hc hp hl hat ak hu rfl (abU 14 ak 1);obtain⟨⟨c1,c2,c3⟩,c4⟩:=ad4 ih (o:=o) (f:=g) (b:=b) (k:=14) (op:=op) (x:=x) (y:=y) (p:=p) (j:=2) (u:=z) ak hc hp hl hat ak hu rfl (abU 14 ak 2);rw[ND] at a1 a2;rw[ax8] at b1 b2;rw[aTp] at c1 c2;generalize (fD 14 op [u,v,z].length 0 p).MF=q0 at a2 a3;generalize hk0:OM 14 op [u,v,z].length p 0 u=K0 at a3 a4;generalize (fD 14 op [u,v,z].length 1 p).MF=q1 at b2 b3;generalize hk1:OM 14 op [u,v,z].length p 1 v=K1 at b3 b4;generalize (fD 14 op [u,v,z].length 2 p).MF=q2 at c2 c3;generalize hk2:OM 14 op [u,v,z].length p 2 z=K2 at c3 c4;rw[aJd,hk0,hk1,hk2];have e1:=(KO 65 (by constructor<;>decide))
  have e2:=(KO 66 (by constructor<;>decide))
  simp(disch:=omega) only[yJ,M.xg,a1,a2,a3,b1,b2,b3,c1,c2,c3,e1,e2,YV,ah,Int.reduceBEq,bC,UJ,<-pV,eH,Ai,Jj,GX,OT,room,QU,og,aH];simp[Zc,MC]
def aji{k op:Int}{ks:List Tn}{p:Ps}(hp:xJ p=true)(h:(lvl k op=15)\/(k=13/\Nat.blt 1 ks.length=true/\lvl k op≠0))(ht:∀j,zC k j=false):rJ k op ks.length p ks 0=KU ks:=by
 refine alO ht (λj hj=> ?_) ks 0 ak;rcases h with h|⟨h1,h2,h3⟩
 ·exact KN hp hj h
 ·have hb:Nat.blt j ks.length=true:=by rw[Nat.blt_eq];exact hj
  have h4:(lvl k op==0)=false:=by simpa using h3
  subst h1;unfold fD;rw[hp,hb,h4,h2];simp
def ajj(k:Int)(x:aC):([[D.int .i64 k,D.str x,D.int .i64 0]]:au)=aF [⟨k,x,0⟩]:=rfl
def ata(x:aC):([[D.int .i64 24,D.str (spell 24),D.int .i64 0],[D.int .i64 6,D.str x,D.int .i64 0]]:au)=aF [tok 24,⟨6,x,0⟩]:=rfl
set_option maxHeartbeats 2000000 in
def ayb(t:Tn):Uw t->isE t->t.size<=1048576->PS t:=by
 refine Tn.ind (P:=λt=>Uw t->isE t->t.size<=1048576->PS t) ?_ t;intro k op x y ks ih hok he hsz;intro o f p l b hl h hf hp;have a1c:=h;simp only[isE,Tn.kind] at he;have hc:=ae0 hok;have hsz':sizes ks+1=(Tn.mk k op x y ks).size:=by rw[Tn.size]
 have ih':∀u,u∈ks->PS u:=by intro u hu;obtain⟨i,hi⟩:=List.mem_iff_getElem?.1 hu;obtain⟨h1,h2⟩:=akZ hok he hi;have:=I9 hu;exact ih u hu h2 h1 ak
 have hat:At l b ks:=λj u hj=>Lies.ahe h hj
 obtain⟨g,rfl⟩:∃g,f=g+1:=⟨f - 1,ak⟩
 have hr:idx (dQ o l) ((b+sizes ks:Nat):Int)=some (YU o ⟨k,op,x,y,ends ks b⟩):=by have hr0:l[b+sizes ks]? =some ⟨k,op,x,y,ends ks b⟩:=Lies.root' h;rw[cO,qW,hr0];rfl
 have hkl:=DK ks;have tgt:∀{u:Tn},ks[0]? =some u->cls k op ks.length 0=6->Uw u/\isE u/\13<=lvl u.kind u.op:=by intro u hu hcls;obtain⟨h1,h2⟩:=akZ hok he hu;obtain⟨h3,_⟩:=akY hok hu;rw[hcls] at h3;exact⟨h2,h1,(aph h3).1⟩
 rw[M.ako,Tn.kids];have hk:k=1\/k=2\/k=3\/k=4\/k=5\/k=7\/k=8\/k=6\/k=9\/k=10\/k=11\/k=13\/k=15\/k=12\/k=14:=ak;rw[Df];rcases hk with rfl|rfl|rfl|rfl|rfl|rfl|rfl|rfl|rfl|rfl|rfl|rfl|rfl|rfl|rfl
 ·simp only[yJ,M.iF,M.gX,hr,ah,XK,YF,YG,YH,VN,M.dI,M.dA,Int.reduceBEq,Int.reduceBNe,aH,bC,ajj];rfl
 ·simp only[yJ,M.iF,M.gX,hr,ah,XK,YF,YG,YH,VN,M.dI,M.dA,Int.reduceBEq,Int.reduceBNe,aH,bC,ajj];rfl
 ·simp only[yJ,M.iF,M.gX,hr,ah,XK,YF,YG,YH,VN,M.dI,M.dA,Int.reduceBEq,Int.reduceBNe,aH,bC,ajj];rfl
 ·simp only[yJ,M.iF,M.gX,hr,ah,XK,YF,YG,YH,VN,M.dI,M.dA,Int.reduceBEq,Int.reduceBNe,aH,bC,ajj];rfl
 ·have a1:=apP ih' (o:=o) (f:=g) (b:=b) hl hat ak ak 6 x 34 (.inr rfl);rw[aji hp (.inl rfl) (λj=>by simp[zC])];simp only[yJ,M.iF,M.gX,hr,ah,XK,YF,YG,YH,VN,M.dI,M.dA,Int.reduceBEq,Int.reduceBNe,aH,bC,a1,og];rfl
 ·have a1:=apP ih' (o:=o) (f:=g) (b:=b) hl hat ak ak 7 x 32 (.inl rfl);rw[aji hp (.inl rfl) (λj=>by simp[zC])];simp only[yJ,M.iF,M.gX,hr,ah,XK,YF,YG,YH,VN,M.dI,M.dA,Int.reduceBEq,Int.reduceBNe,aH,bC,a1,og];rfl
 ·have a1:=apP ih' (o:=o) (f:=g) (b:=b) hl hat ak ak 8 x 32 (.inl rfl);rw[aji hp (.inl rfl) (λj=>by simp[zC])];simp only[yJ,M.iF,M.gX,hr,ah,XK,YF,YG,YH,VN,M.dI,M.dA,Int.reduceBEq,Int.reduceBNe,aH,bC,a1,og];rfl
 ·obtain⟨u,rfl⟩:=zlo.1 (hc.one ak);have hs1:=sz1 u;have e1:=(KO 68 (by constructor<;>decide))
  obtain⟨⟨a1,a2,a3⟩,a4⟩:=ad4 ih' (o:=o) (f:=g) (b:=b) (k:=6) (op:=op) (x:=x) (y:=y) (p:=p) (j:=0) (u:=u) ak hc hp hl hat ak ak rfl (abU 6 ak 0);rw[ND] at a1 a2;rw[ahr];generalize (fD 6 op [u].length 0 p).MF=q0 at a2 a3;generalize OM 6 op [u].length p 0 u=K0 at a3 a4|-;simp(disch:=omega) only[yJ,M.iF,M.gX,hr,ah,XK,YF,YG,YH,VN,M.dI,M.dA,Int.reduceBEq,Int.reduceBNe,aH,bC,a1,a2,a3,e1,YV,UJ,<-pV,eH,Ai,Jj,GX,OT,room,QU,og];simp[Zc,MC]
 ·obtain⟨u,rfl⟩:=zlo.1 (hc.one ak);have hs1:=sz1 u;have e1:=(KO op (by rcases hc.stp ak with rfl|rfl<;>constructor<;>decide))
  have a1:=TU (ks:=[u]) (b:=b) (j:=0) (u:=u) rfl;obtain⟨t1,t2,t3⟩:=tgt (u:=u) rfl (by simp[cls]);have a3:=alP (ih' u (by simp)) t1 t2 t3 (o:=o) (f:=g) (p:=fD 9 op [u].length 0 p) hl (hat 0 u rfl) (by rw[sz1] at hsz';omega) (DI hp (by simp) (by simp[lvl]));have a4:=RX u (fD 9 op [u].length 0 p);rw[sz1] at hsz';rw[ND] at a1;rw[ahr,OM,show zC 9 0=true from rfl,Bool.true_or,aH];generalize Df u (fD 9 op [u].length 0 p)=K0 at a3 a4|-;simp(disch:=omega) only[yJ,M.iF,M.gX,hr,ah,XK,YF,YG,YH,VN,M.dI,M.dA,Int.reduceBEq,Int.reduceBNe,aH,bC,a1,a3,e1,YV,UJ,<-pV,eH,Ai,Jj,GX,OT,room,QU,og];simp[Zc,MC]
 ·obtain⟨u,rfl⟩:=zlo.1 (hc.one ak);have hs1:=sz1 u;have e1:=(KO op (by rcases hc.stp ak with rfl|rfl<;>constructor<;>decide))
  have a1:=TU (ks:=[u]) (b:=b) (j:=0) (u:=u) rfl;obtain⟨t1,t2,t3⟩:=tgt (u:=u) rfl (by simp[cls]);have a3:=alP (ih' u (by simp)) t1 t2 t3 (o:=o) (f:=g) (p:=fD 10 op [u].length 0 p) hl (hat 0 u rfl) (by rw[sz1] at hsz';omega) (DI hp (by simp) (by simp[lvl]));have a4:=RX u (fD 10 op [u].length 0 p);rw[sz1] at hsz';rw[ND] at a1;rw[ahr,OM,show zC 10 0=true from rfl,Bool.true_or,aH];generalize Df u (fD 10 op [u].length 0 p)=K0 at a3 a4|-;simp(disch:=omega) only[yJ,M.iF,M.gX,hr,ah,XK,YF,YG,YH,VN,M.dI,M.dA,Int.reduceBEq,Int.reduceBNe,aH,bC,a1,a3,e1,YV,UJ,<-pV,eH,Ai,Jj,GX,OT,room,QU,og];simp[Zc,MC]
 ·obtain⟨u,rfl⟩:=zlo.1 (hc.one ak);have hs1:=sz1 u;have e1:=(KO op (by rcases hc.una ak with rfl|rfl|rfl<;>constructor<;>decide))
  obtain⟨⟨a1,a2,a3⟩,a4⟩:=ad4 ih' (o:=o) (f:=g) (b:=b) (k:=11) (op:=op) (x:=x) (y:=y) (p:=p) (j:=0) (u:=u) ak hc hp hl hat ak ak rfl (abU 11 ak 0);rw[ND] at a1 a2;rw[ahr];generalize (fD 11 op [u].length 0 p).MF=q0 at a2 a3;generalize OM 11 op [u].length p 0 u=K0 at a3 a4|-;simp(disch:=omega) only[yJ,M.iF,M.gX,hr,ah,XK,YF,YG,YH,VN,M.dI,M.dA,Int.reduceBEq,Int.reduceBNe,aH,bC,a1,a2,a3,e1,YV,UJ,<-pV,eH,Ai,Jj,GX,OT,room,QU,og];simp[Zc,MC]
 ·have e1:=(KO 24 (by constructor<;>decide))
  have e2:=(KO 32 (by constructor<;>decide))
  have e3:=(KO 33 (by constructor<;>decide))
  obtain⟨u,hu⟩:∃u,ks[0]? =some u:=by have:=hc.some_ ak;exact⟨ks[0],by simp⟩
  obtain⟨⟨a1,a2,a3⟩,a4⟩:=ad4 ih' (o:=o) (f:=g) (b:=b) (k:=13) (op:=op) (x:=x) (y:=y) (p:=p) (j:=0) (u:=u) ak hc hp hl hat ak ak hu (abU 13 ak 0);have hus:=I9 (UK hu);rw[ND] at a1 a2;have hel:(encI (ends ks b)).length=ks.length:=by rw[dV,jE]
  cases hm:Nat.blt 1 ks.length with
  |true=>have b1:=aBJ ih' (o:=o) (f:=g) (b:=b) hl hat ak ak;have b2:=ae9 ks true;rw[aji hp (.inr ⟨rfl,hm,by simp[lvl]⟩) (λj=>by simp[zC])];simp(disch:=omega) only[yJ,M.iF,M.gX,hr,ah,XK,YF,YG,YH,VN,M.dI,M.dA,Int.reduceBEq,Int.reduceBNe,aH,bC,a1,a2,a3,b1,e1,e2,e3,YV,hel,many,hm,ata,UJ 32,UJ 33,<-pV,eH,Ai,Jj,GX,OT,room,QU,og];simp[Zc,hm]
  |false=>
   have h1:ks.length=1:=by
    have h2:=hc.some_ ak;have h3:¬1<ks.length:=by rw[<-Nat.blt_eq,hm];simp
    omega
   obtain⟨u',rfl⟩:=zlo.1 h1;obtain rfl:u'=u:=by simpa using hu
   rw[ahr];generalize (fD 13 op [u'].length 0 p).MF=q0 at a2 a3;generalize OM 13 op [u'].length p 0 u'=K0 at a3 a4|-;simp(disch:=omega) only[yJ,M.iF,M.gX,hr,ah,XK,YF,YG,YH,VN,M.dI,M.dA,Int.reduceBEq,Int.reduceBNe,aH,bC,a1,a2,a3,e1,e2,e3,YV,hel,many,hm,ata,<-pV,eH,Ai,Jj,GX,OT,room,QU,og];simp[Zc,MC,show Nat.blt 1 1=false from rfl]
 ·obtain⟨u,v,rfl⟩:=alJ (hc.two ak);have hsv:=sz2 u v;have e1:=(KO op (by rcases hc.asg rfl with rfl|h<;>constructor<;>omega))
  have a1:=TU (ks:=[u,v]) (b:=b) (j:=0) (u:=u) rfl;obtain⟨t1,t2,t3⟩:=tgt (u:=u) rfl (by simp[cls]);have a3:=alP (ih' u (by simp)) t1 t2 t3 (o:=o) (f:=g) (p:=fD 15 op [u,v].length 0 p) hl (hat 0 u rfl) ak (DI hp (by simp) (by simp[lvl]));have a4:=RX u (fD 15 op [u,v].length 0 p);obtain⟨⟨b1,b2,b3⟩,b4⟩:=ad4 ih' (o:=o) (f:=g) (b:=b) (k:=15) (op:=op) (x:=x) (y:=y) (p:=p) (j:=1) (u:=v) ak hc hp hl hat ak ak rfl rfl;rw[ND] at a1;rw[ax8] at b1 b2;have e98:(op==99)=false:=by rw[Rf];have:=hc.asg rfl;omega
  rw[apK]
  conv=>rhs;rw[OM,show zC 15 0=true from rfl,Bool.true_or,aH]
  generalize Df u (fD 15 op [u,v].length 0 p)=K0 at a3 a4|-;generalize (fD 15 op [u,v].length 1 p).MF=q1 at b2 b3;generalize OM 15 op [u,v].length p 1 v=K1 at b3 b4|-;simp(disch:=omega) only[yJ,M.iF,M.gX,hr,ah,XK,YF,YG,YH,VN,M.dI,M.dA,Int.reduceBEq,Int.reduceBNe,aH,bC,a1,a3,b1,b2,b3,e1,YV,UJ,<-pV,eH,Ai,Jj,GX,OT,room,QU,og];simp[Zc,MC,e98]
 ·have a1:=awC ih' (o:=o) (f:=g) (b:=b) (k:=12) (op:=op) (x:=x) (y:=y) (p:=p) (.inl rfl) hc hp hl hat ak ak;simp only[yJ,M.iF,M.gX,hr,ah,XK,YF,YG,YH,VN,M.dI,M.dA,Int.reduceBEq,Int.reduceBNe,aH,bC,a1,og]
 ·have a1:=awC ih' (o:=o) (f:=g) (b:=b) (k:=14) (op:=op) (x:=x) (y:=y) (p:=p) (.inr rfl) hc hp hl hat ak ak;simp only[yJ,M.iF,M.gX,hr,ah,XK,YF,YG,YH,VN,M.dI,M.dA,Int.reduceBEq,Int.reduceBNe,aH,bC,a1,og]
def dE(t:Tn):au:=mO true (t.flat 0)
def ayc(t:Tn):Row:=[D.sl true 4 (dE t)]
def Iu(s:aC):M.fG s=some (dE (QO s)):=by simp[M.fG,M.P9,dE,QO,Tn.flat,lG,ends,mO,aiP,encI]
def au1:M.yD=some (dE ZG):=by simp[M.yD,M.Qa,dE,ZG,Tn.flat,lG,ends,mO,aiP,encI]
def OQ(t:Tn):[[D.sl true 4 (dE t)]].all gI=true:=ax6 _
def ab9(L:List Tn):aB (L.map ayc)=GV L:=by
 induction L with
 |nil=>rfl
 |cons t L ih=>
  have h1:AY (ayc t)=[D.sl false 4 (mO false (t.flat 0))]:=by simp[ayc,AY,D.fz,dE]
  rw[zmc,aB,ih,h1];rfl
section
variable (a b c d e f g h:Tn)
def aJi:aB [[D.sl true 4 (dE a)]]=GV [a]:=ab9 [a]
def aBK:aB [[D.sl true 4 (dE a)],[D.sl true 4 (dE b)]]=GV [a,b]:=ab9 [a,b]
def ayd:aB [[D.sl true 4 (dE a)],[D.sl true 4 (dE b)],[D.sl true 4 (dE c)]]=GV [a,b,c]:=ab9 [a,b,c]
def aTt:aB [[D.sl true 4 (dE a)],[D.sl true 4 (dE b)],[D.sl true 4 (dE c)],[D.sl true 4 (dE d)]]=GV [a,b,c,d]:=ab9 [a,b,c,d]
def a1d:aB [[D.sl true 4 (dE a)],[D.sl true 4 (dE b)],[D.sl true 4 (dE c)],[D.sl true 4 (dE d)],[D.sl true 4 (dE e)]]=GV [a,b,c,d,e]:=ab9 [a,b,c,d,e]
end
def U3(ts:List Tn)(h:sizes ts<=90000000):M.fH 6 0 (GV ts)=some (dE (QS ts)):=au0 6 0 ts h
def au2(t:Tn)(h:sizes [t]<=90000000):M.fH 4 4 (GV [t])=some (dE (afV t)):=au0 4 4 [t] h
def aBL(t:Tn)(h:sizes [t]<=90000000):M.fH 5 0 (GV [t])=some (dE (aum t)):=au0 5 0 [t] h
def atb(p:Ps):∀ks:List Tn,sizes (psD p ks)+3 * ks.length<=16 * sizes ks
 |[]=>by simp[psD,sizes]
 |t::ts=>by have h1:=ae8 t p;have h2:=atb p ts;simp only[psD,zmc,sizes,GX] at h2|-;omega
def DS(t:Tn):Prop:=∀(o:Bool) (f:Nat) (p:Ps) (l:List Nd) (b:Nat),l.length<=1048576->Lies l b t->5 * t.size<=f->xJ p=true->
 M.Gt f (dQ o l) false ((b+sizes t.kids:Nat):Int) p.level p.Fz p.QM p.QN p.FC=some (dE (FK t p))
def aBM{u:Tn}{o:Bool}{l:List Nd}{b:Nat}(h:Lies l b u):idx (dQ o l) ((b+sizes u.kids:Nat):Int)=some (YU o ⟨u.kind,u.op,u.text,u.other,ends u.kids b⟩):=by rw[cO,qW,Lies.root' h];rfl
def aJj{u:Tn}(hS:DS u){o:Bool}{f:Nat}{p:Ps}{l:List Nd}{b:Nat}(hl:l.length<=1048576)(h:Lies l b u)(hf:5 * u.size+1<=f)(hp:xJ p=true):
  M.wu f (dQ o l) false ((b+sizes u.kids:Nat):Int) p.level p.Fz p.QM p.QN p.FC=some (dE (Yu u p)):=by
 obtain⟨g,rfl⟩:∃g,f=g+1:=⟨f - 1,ak⟩
 have hlt:=h.lt;have h1:=hS o g p l b hl h ak hp;have h2:=hS o g .top l b hl h ak rfl;have hb:=OL u .top;simp only[Ps.top] at h2 hb;rw[M.aoY];simp only[yJ,M.LG,aBM h,ah,XK,YF,YG,YH,VN,aAz u.kind u.op u.text u.other _ p,Yu];cases fits u.kind u.op p with
 |true=>simp only[aH,h1,ah]
 |false=>
  have hs:sizes [QO [40],FK u ⟨1,false,false,false,false⟩,QO [41]]<=90000000:=by simp only[sizes,Dj];omega
  simp only[bC,Iu,aii,ah,h2,ayd,U3 _ hs,OQ,aH,Ps.top]
def aBN{ks:List Tn}(ih:∀u,u∈ks->DS u){o:Bool}{f:Nat}{p:Ps}(hp:xJ p=true){l:List Nd}{b:Nat}(hl:l.length<=1048576)(hat:At l b ks)(hf:5 * sizes ks+2<=f)(hu:sizes ks<=1048575):
  M.Gq f (dQ o l) false (encI (ends ks b)) p.level p.Fz p.QM p.QN p.FC=some (dE (akX p ks)):=by
 obtain⟨g,rfl⟩:∃g,f=g+1:=⟨f - 1,ak⟩
 have hkl:=DK ks;have hpz:=atb p ks;have hcz:=ahq (psD p ks) true;rw[apO] at hcz;have hloop:=uJ (b:=M.Jw (M.wu g) (encI (ends ks b)) (dQ o l) false p.level p.Fz p.QM p.QN p.FC) (t:=((ks.length:Int),(Wy true (psD p ks)).map ayc)) (λj=>((j:Int),(Wy true (psD p (ks.take j))).map ayc)) ks.length
  (by
   intro j hj;obtain⟨u,hu'⟩:∃u,ks[j]? =some u:=⟨ks[j],by simp[hj]⟩
   have hus:=I9 (UK hu');have ha:=aJj (ih u (UK hu')) (o:=o) (f:=g) (p:=p) hl (hat j u hu') ak hp;have hi:=TU (b:=b) hu';have hcl:=as9 (psD p (ks.take j)) true;rw[apO,zlt] at hcl;have hw:i64.wrap ((j:Int)+1)=((j+1:Nat):Int):=by rw[aJ ak ak];omega
   have e:psD p (ks.take (j+1))=psD p (ks.take j)++[Yu u p]:=by rw[tu hu'];simp[psD]
   rw[e,aoi];simp only[yJ,M.Jw,M.Es,dV,jE,Iu,au1,hi,YV,ha,ah,Ai,zaW,GX,OT,hw];rw[zdt ak,aH]
   by_cases h0:j=0
   ·subst h0;rw[xK ak,bC,bI ak,aH,bI ak,aH];rfl
   ·have z:(psD p (ks.take j)).isEmpty=false:=by
     cases hq:psD p (ks.take j) with
     |nil=>have:=apO p (ks.take j);rw[hq,OT,zlt] at this;omega
     |cons _ _=>rfl
    rw[zdt ak,aH,bI ak,aH,bI ak,aH,bI ak,aH,bI ak,aH,z,Bool.false_and,bC,List.map_append,WC];rfl)
  (by simp only[yJ,M.Jw,M.Es,dV,jE];rw[xK ak,bC,List.take_length]) 0 (Nat.zero_le _)
 have KJ:M.NY (M.wu g) (encI (ends ks b)) (dQ o l) false p.level p.Fz p.QM p.QN p.FC (0,[])=some ((ks.length:Int),(Wy true (psD p ks)).map ayc):=hloop;have z1:sizes [QS (Wy true (psD p ks))]<=90000000:=by simp only[sizes,Zm];omega
 have z2:sizes [afV (QS (Wy true (psD p ks)))]<=90000000:=by simp only[sizes,Zm,agq];omega
 rw[M.akq];simp only[M.Gj,KJ,ah,ab9,U3 _ (show sizes (Wy true (psD p ks))<=90000000 by omega),OQ,aH,aJi,au2 _ z1,aBL _ z2];rfl
def agv{ks:List Tn}(ih:∀u,u∈ks->DS u){o:Bool}{f:Nat}{l:List Nd}{b:Nat}{k op:Int}{x y:aC}{p:Ps}{j:Nat}{u:Tn}(he:1<=k/\k<=15)(hc:Cnt k op y ks.length)(hp:xJ p=true)(hl:l.length<=1048576)(hat:At l b ks)(hf:5 * sizes ks+1<=f)(hu:sizes ks<=1048575)(hj:ks[j]? =some u)(ht:zC k j=false):
  (idx (encI (ends ks b)) (j:Int)=some [D.int .i64 ((b+sizes (ks.take j)+sizes u.kids:Nat):Int)]/\
   M.gV k op x y (encI (ends ks b)) (j:Int) p.level p.Fz p.QM p.QN p.FC=some (fD k op ks.length j p).MF/\
   M.wu f (dQ o l) false ((b+sizes (ks.take j)+sizes u.kids:Nat):Int) (fD k op ks.length j p).MF.1 (fD k op ks.length j p).MF.2.1 (fD k op ks.length j p).MF.2.2.1 (fD k op ks.length j p).MF.2.2.2.1 (fD k op ks.length j p).MF.2.2.2.2=some (dE (Vt k op ks.length p j u)))/\(Vt k op ks.length p j u).size+3<=16 * u.size:=by
 have hkl:=DK ks;have hus:=I9 (UK hj);have hjl:j<ks.length:=(QV.1 hj).1;have hen:(encI (ends ks b)).length=ks.length:=by rw[dV,jE]
 have hlv:lvl k op≠0:=by have:=afX he hc;omega
 refine⟨⟨TU hj, ?_, ?_⟩,an9 (OL u)⟩
 ·have h:=abT (x:=x) (r:=encI (ends ks b)) (j:=j) (p:=p) he (by rw[hen];exact hc) ak ak;rw[hen] at h;exact h
 ·have h:=aJj (ih u (UK hj)) (o:=o) (f:=f) (p:=fD k op ks.length j p) hl (hat j u hj) ak (DI hp hjl hlv);rw[Vt,ht,Bool.false_or];exact h
def apQ{ks:List Tn}(ih:∀u,u∈ks->DS u){o:Bool}{f:Nat}{l:List Nd}{b:Nat}(hl:l.length<=1048576)(hat:At l b ks)(hf:5 * sizes ks+3<=f)(hu:sizes ks<=1048575)(k op:Int)(x y:aC)(hx:x.length<=1048576)(c d:UInt8):
  M.IQ f (dQ o l) false k op x y (encI (ends ks b)) [c] [d]=some (dE (QS [QO (x++[c]),akX .top ks,QO [d]])):=by
 obtain⟨g,rfl⟩:∃g,f=g+1:=⟨f - 1,ak⟩
 have h1:=aBN ih (o:=o) (f:=g) (p:=.top) rfl (b:=b) hl hat ak hu;have h2:=alH .top ks;simp only[Ps.top] at h1 h2;have hs:sizes [QO (x++[c]),akX ⟨1,false,false,false,false⟩ ks,QO [d]]<=90000000:=by simp only[sizes,Dj];omega
 rw[M.aiF];simp(disch:=omega) only[M.Dy,GX,OT,aiq,aH,Iu,aii,h1,ah,ayd,U3 _ hs,OQ,Ps.top]
def alQ{u:Tn}(hS:DS u)(hok:Uw u)(he:isE u)(hh:13<=lvl u.kind u.op){o:Bool}{f:Nat}{l:List Nd}{b:Nat}(hl:l.length<=1048576)(h:Lies l b u)(hf:5 * u.size+1<=f)(p:Ps)(hp:xJ p=true):
  M.Gs f (dQ o l) false ((b+sizes u.kids:Nat):Int)=some (dE (FK u p)):=by
 obtain⟨g,rfl⟩:∃g,f=g+1:=⟨f - 1,ak⟩
 have h1:=hS o g ⟨14,false,false,false,false⟩ l b hl h ak rfl;rw[aut u hok hh he _ p rfl hp] at h1;rw[M.ag5];simp only[M.BF,h1,ah]
def aTu{ks:List Tn}(ih:∀u,u∈ks->DS u){o:Bool}{f:Nat}{l:List Nd}{b:Nat}{op:Int}{x y:aC}{p:Ps}(hc:Cnt 12 op y ks.length)(hp:xJ p=true)(hl:l.length<=1048576)(hat:At l b ks)(hf:5 * sizes ks+2<=f)(hu:sizes ks<=1048575)(gp:Bool):
  M.Nu f (dQ o l) false 12 op x y (encI (ends ks b)) p.level p.Fz p.QM p.QN p.FC=some (dE (ahg 12 op ks.length x gp (wU 12 op ks.length p ks 0))):=by
 obtain⟨g,rfl⟩:∃g,f=g+1:=⟨f - 1,ak⟩
 rw[M.ame];obtain⟨u,v,rfl⟩:=alJ (hc.two ak);have hsz:=sz2 u v;have hI:=aww (hc.bin rfl).1;have hsl:=RY op;obtain⟨⟨a1,a2,a3⟩,a4⟩:=agv ih (o:=o) (f:=g) (b:=b) (k:=12) (op:=op) (x:=x) (y:=y) (p:=p) (j:=0) (u:=u) ak hc hp hl hat ak hu rfl (abU 12 ak 0);obtain⟨⟨b1,b2,b3⟩,b4⟩:=agv ih (o:=o) (f:=g) (b:=b) (k:=12) (op:=op) (x:=x) (y:=y) (p:=p) (j:=1) (u:=v) ak hc hp hl hat ak hu rfl (abU 12 ak 1);rw[ND] at a1 a2;rw[ax8] at b1 b2;rw[aBI];generalize (fD 12 op [u,v].length 0 p).MF=q0 at a2 a3;generalize Vt 12 op [u,v].length p 0 u=K0 at a3 a4|-;generalize (fD 12 op [u,v].length 1 p).MF=q1 at b2 b3;generalize Vt 12 op [u,v].length p 1 v=K1 at b3 b4|-
 by_cases h99:op=99
 ·subst h99;have hs:sizes [K0,QO [32],K1]<=90000000:=by simp only[sizes,Dj];omega
  simp only[M.yI,M.Cb,a1,a2,a3,b1,b2,b3,YV,ah,Int.reduceBEq,aH,bC,Iu,ayd,U3 _ hs,OQ];rfl
 ·have e1:(op==99)=false:=by simpa using h99
  have hs:sizes [K0,QO ([32]++spell op),ZG,K1]<=90000000:=by simp only[sizes,Dj,abR];omega
  have z1:sizes [QS [K0,QO ([32]++spell op),ZG,K1]]<=90000000:=by simp only[sizes,Dj,abR,Zm];omega
  have z2:sizes [afV (QS [K0,QO ([32]++spell op),ZG,K1])]<=90000000:=by simp only[sizes,Dj,abR,Zm,agq];omega
  by_cases h45:op=45
  ·subst h45;simp(disch:=omega) only[M.yI,M.Cb,a1,a2,a3,b1,b2,b3,YV,ah,Int.reduceBEq,aH,bC,(zN 45 hI).1,Iu,au1,aTt,aJi,U3 _ hs,au2 _ z1,aBL _ z2,OQ,aiq];rfl
  ·have e2:(op==45)=false:=by simpa using h45
   by_cases h44:op=44
   ·subst h44;simp(disch:=omega) only[M.yI,M.Cb,a1,a2,a3,b1,b2,b3,YV,ah,Int.reduceBEq,aH,bC,(zN 44 hI).1,Iu,au1,aTt,aJi,U3 _ hs,au2 _ z1,aBL _ z2,OQ,aiq];rfl
   ·have e3:(op==44)=false:=by simpa using h44
    have hs3:sizes [K0,QO ([32]++spell op++[32]),K1]<=90000000:=by simp only[sizes,Dj];omega
    simp(disch:=omega) only[M.yI,M.Cb,a1,a2,a3,b1,b2,b3,YV,ah,e1,e2,e3,aH,bC,(zN op hI).1,Ai,GX,OT,Iu,ayd,U3 _ hs3,OQ,aiq];simp[ahg,e1,e2,e3,QT]
set_option maxHeartbeats 4000000 in
def au3(t:Tn):Uw t->isE t->RV t->t.size<=1048576->DS t:=by
 refine Tn.ind (P:=λt=>Uw t->isE t->RV t->t.size<=1048576->DS t) ?_ t;intro k op x y ks ih hok he hsm hsz;intro o f p l b hl h hf hp;have a1c:=h;simp only[isE,Tn.kind] at he;have hc:=ae0 hok;rw[RV] at hsm;obtain⟨⟨hx,hy⟩,hss⟩:=hsm;rw[Tn.size] at hsz hf;have hkE:∀u,u∈ks->Uw u/\isE u/\RV u:=by intro u hu;obtain⟨i,hi⟩:=List.mem_iff_getElem?.1 hu;obtain⟨h1,h2⟩:=akZ hok he hi;exact⟨h2,h1,ajh hss hu⟩
 have ih':∀u,u∈ks->DS u:=by intro u hu;obtain⟨h1,h2,h3⟩:=hkE u hu;have:=I9 hu;exact ih u hu h1 h2 h3 ak
 have hat:At l b ks:=λj u hj=>Lies.ahe h hj
 obtain⟨g,rfl⟩:∃g,f=g+1:=⟨f - 1,ak⟩
 have hr:idx (dQ o l) ((b+sizes ks:Nat):Int)=some (YU o ⟨k,op,x,y,ends ks b⟩):=by have hr0:l[b+sizes ks]? =some ⟨k,op,x,y,ends ks b⟩:=Lies.root' h;rw[cO,qW,hr0];rfl
 have hkl:=DK ks;have tgt:∀{u:Tn},ks[0]? =some u->cls k op ks.length 0=6->Uw u/\isE u/\13<=lvl u.kind u.op:=by intro u hu hcls;obtain⟨h1,h2⟩:=akZ hok he hu;obtain⟨h3,_⟩:=akY hok hu;rw[hcls] at h3;exact⟨h2,h1,(aph h3).1⟩
 rw[M.akr,Tn.kids];have hk:k=1\/k=2\/k=3\/k=4\/k=5\/k=7\/k=8\/k=6\/k=9\/k=10\/k=11\/k=13\/k=15\/k=12\/k=14:=ak;rw[FK];rcases hk with rfl|rfl|rfl|rfl|rfl|rfl|rfl|rfl|rfl|rfl|rfl|rfl|rfl|rfl|rfl
 ·simp only[yJ,M.iG,M.gY,hr,ah,XK,YF,YG,YH,VN,M.dI,M.dA,Int.reduceBEq,Int.reduceBNe,aH,bC,Iu];rfl
 ·simp only[yJ,M.iG,M.gY,hr,ah,XK,YF,YG,YH,VN,M.dI,M.dA,Int.reduceBEq,Int.reduceBNe,aH,bC,Iu];rfl
 ·simp only[yJ,M.iG,M.gY,hr,ah,XK,YF,YG,YH,VN,M.dI,M.dA,Int.reduceBEq,Int.reduceBNe,aH,bC,Iu];rfl
 ·simp only[yJ,M.iG,M.gY,hr,ah,XK,YF,YG,YH,VN,M.dI,M.dA,Int.reduceBEq,Int.reduceBNe,aH,bC,Iu];rfl
 ·have a1:=apQ ih' (o:=o) (f:=g) (b:=b) hl hat ak ak 5 op x y hx 91 93;rw[agu hp (.inl rfl) (λj=>by simp[zC])];simp only[yJ,M.iG,M.gY,hr,ah,XK,YF,YG,YH,VN,M.dI,M.dA,Int.reduceBEq,Int.reduceBNe,aH,bC,a1];rfl
 ·have a1:=apQ ih' (o:=o) (f:=g) (b:=b) hl hat ak ak 7 op x y hx 40 41;rw[agu hp (.inl rfl) (λj=>by simp[zC])];simp only[yJ,M.iG,M.gY,hr,ah,XK,YF,YG,YH,VN,M.dI,M.dA,Int.reduceBEq,Int.reduceBNe,aH,bC,a1];rfl
 ·have a1:=apQ ih' (o:=o) (f:=g) (b:=b) hl hat ak ak 8 op x y hx 40 41;rw[agu hp (.inl rfl) (λj=>by simp[zC])];simp only[yJ,M.iG,M.gY,hr,ah,XK,YF,YG,YH,VN,M.dI,M.dA,Int.reduceBEq,Int.reduceBNe,aH,bC,a1];rfl
 ·obtain⟨u,rfl⟩:=zlo.1 (hc.one ak);have hs1:=sz1 u;obtain⟨⟨a1,a2,a3⟩,a4⟩:=agv ih' (o:=o) (f:=g) (b:=b) (k:=6) (op:=op) (x:=x) (y:=y) (p:=p) (j:=0) (u:=u) ak hc hp hl hat ak ak rfl (abU 6 ak 0);rw[ND] at a1 a2;rw[alM];generalize (fD 6 op [u].length 0 p).MF=q0 at a2 a3;generalize Vt 6 op [u].length p 0 u=K0 at a3 a4|-;have hs:sizes [QO [36],K0]<=90000000:=by simp only[sizes,Dj];omega
  simp only[yJ,M.iG,M.gY,hr,ah,XK,YF,YG,YH,VN,M.dI,M.dA,Int.reduceBEq,Int.reduceBNe,aH,bC,a1,a2,a3,YV,Iu,aBK,U3 _ hs,OQ];rfl
 ·obtain⟨u,rfl⟩:=zlo.1 (hc.one ak);have hs1:=sz1 u;have hI:I64 op:=by rcases hc.stp ak with rfl|rfl<;>constructor<;>decide
  have a1:=TU (ks:=[u]) (b:=b) (j:=0) (u:=u) rfl;obtain⟨t1,t2,t3⟩:=tgt (u:=u) rfl (by simp[cls]);have a3:=alQ (ih' u (by simp)) t1 t2 t3 (o:=o) (f:=g) (p:=fD 9 op [u].length 0 p) hl (hat 0 u rfl) ak (DI hp (by simp) (by simp[lvl]));have a4:=OL u (fD 9 op [u].length 0 p);rw[ND] at a1;rw[alM,Vt,show zC 9 0=true from rfl,Bool.true_or,aH];generalize FK u (fD 9 op [u].length 0 p)=K0 at a3 a4|-;have hs:sizes [QO (spell op),K0]<=90000000:=by simp only[sizes,Dj];omega
  simp only[yJ,M.iG,M.gY,hr,ah,XK,YF,YG,YH,VN,M.dI,M.dA,Int.reduceBEq,Int.reduceBNe,aH,bC,a1,a3,(zN op hI).1,YV,Iu,aBK,U3 _ hs,OQ];rfl
 ·obtain⟨u,rfl⟩:=zlo.1 (hc.one ak);have hs1:=sz1 u;have hI:I64 op:=by rcases hc.stp ak with rfl|rfl<;>constructor<;>decide
  have a1:=TU (ks:=[u]) (b:=b) (j:=0) (u:=u) rfl;obtain⟨t1,t2,t3⟩:=tgt (u:=u) rfl (by simp[cls]);have a3:=alQ (ih' u (by simp)) t1 t2 t3 (o:=o) (f:=g) (p:=fD 10 op [u].length 0 p) hl (hat 0 u rfl) ak (DI hp (by simp) (by simp[lvl]));have a4:=OL u (fD 10 op [u].length 0 p);rw[ND] at a1;rw[alM,Vt,show zC 10 0=true from rfl,Bool.true_or,aH];generalize FK u (fD 10 op [u].length 0 p)=K0 at a3 a4|-;have hs:sizes [K0,QO (spell op)]<=90000000:=by simp only[sizes,Dj];omega
  simp only[yJ,M.iG,M.gY,hr,ah,XK,YF,YG,YH,VN,M.dI,M.dA,Int.reduceBEq,Int.reduceBNe,aH,bC,a1,a3,(zN op hI).1,YV,Iu,aBK,U3 _ hs,OQ];rfl
 ·obtain⟨u,rfl⟩:=zlo.1 (hc.one ak);have hs1:=sz1 u;obtain⟨u1,u2,u3⟩:=hkE u (by simp);have hI:I64 op:=by rcases hc.una ak with rfl|rfl|rfl<;>constructor<;>decide
  have ihS:∀v,v∈[u]->PS v:=by intro v hv;rw[List.mem_singleton.1 hv];exact ayb u u1 u2 ak
  obtain⟨⟨a1,a2,a3⟩,a4⟩:=agv ih' (o:=o) (f:=g) (b:=b) (k:=11) (op:=op) (x:=x) (y:=y) (p:=p) (j:=0) (u:=u) ak hc hp hl hat ak ak rfl (abU 11 ak 0);obtain⟨⟨c1,c2,c3⟩,c4⟩:=ad4 ihS (o:=o) (f:=5 * sizes [u]+1) (b:=b) (k:=11) (op:=op) (x:=x) (y:=y) (p:=p) (j:=0) (u:=u) ak hc hp hl hat ak ak rfl (abU 11 ak 0);have c3':=M.amb c3;rw[ND] at a1 a2;rw[alM,ahr];have hne:=aET (k:=11) (op:=op) (n:=[u].length) (p:=p) (j:=0) u1 u2;have aTv:=aJg (k:=11) (op:=op) (n:=[u].length) (p:=p) (j:=0) u3;clear c3 c2;generalize (fD 11 op [u].length 0 p).MF=q0 at a2 a3 c3';generalize Vt 11 op [u].length p 0 u=K0 at a3 a4|-;generalize OM 11 op [u].length p 0 u=K at hne aTv c3'|-;cases K with
  |nil=>exact absurd rfl hne
  |cons t0 K=>
   have hsl:=RY op;have hg:M.sN op (spell op) 0 t0.kind t0.text t0.at_=some (Ur (tok op) t0):=YB (tok op) t0 (by show(spell op).length<=_;omega) (by have:=aTv t0 zmf;omega);have i0:idx (aF (t0::K)) 0=some (afy t0):=rfl;have i1:(aF (t0::K))[0]? =some (afy t0):=rfl;have hs:sizes [QO (spell op),K0]<=90000000:=by simp only[sizes,Dj];omega
   have hs2:sizes [QO (spell op++[32]),K0]<=90000000:=by simp only[sizes,Dj];omega
   have ha:ahg 11 op [u].length x (asf op [t0::K]) [K0]=QS [QO (bif Ur (tok op) t0 then spell op++[32] else spell op),K0]:=rfl;rw[ha];simp(disch:=omega) only[yJ,M.iG,M.gY,hr,ah,XK,YF,YG,YH,VN,M.dI,M.dA,Int.reduceBEq,Int.reduceBNe,aH,bC,a1,a2,a3,c3',i0,i1,cT0,cT1,cT2,hg,(zN op hI).1,KO op hI,YV,Iu,aBK,U3 _ hs,U3 _ hs2,OQ,aiq];cases Ur (tok op) t0<;>rfl
 ·obtain⟨u,hu⟩:∃u,ks[0]? =some u:=by have:=hc.some_ ak;exact⟨ks[0],by simp⟩
  obtain⟨⟨a1,a2,a3⟩,a4⟩:=agv ih' (o:=o) (f:=g) (b:=b) (k:=13) (op:=op) (x:=x) (y:=y) (p:=p) (j:=0) (u:=u) ak hc hp hl hat ak ak hu (abU 13 ak 0);have hus:=I9 (UK hu);rw[ND] at a1 a2;have hel:(encI (ends ks b)).length=ks.length:=by rw[dV,jE]
  cases hm:Nat.blt 1 ks.length with
  |true=>
   have b1:=aBN ih' (o:=o) (f:=g) (p:=.top) rfl (b:=b) hl hat ak ak;have b2:=alH .top ks;simp only[Ps.top] at b1 b2;have e1:((ks.length:Int)==1)=false:=by rw[Nat.blt_eq] at hm;rw[Rf];omega
   have hs:sizes [QO [40],akX ⟨1,false,false,false,false⟩ ks,QO ([41,32,105,110,32]++x)]<=90000000:=by simp only[sizes,Dj];omega
   rw[agu hp (.inr ⟨rfl,hm,by simp[lvl]⟩) (λj=>by simp[zC])];simp(disch:=omega) only[yJ,M.iG,M.gY,hr,ah,XK,YF,YG,YH,VN,M.dI,M.dA,Int.reduceBEq,Int.reduceBNe,aH,bC,hel,e1,Iu,aii,b1,ayd,U3 _ hs,OQ,aiq];simp[ahg,hm,aBH,Ps.top]
  |false=>
   have h1:ks.length=1:=by
    have h2:=hc.some_ ak;have h3:¬1<ks.length:=by rw[<-Nat.blt_eq,hm];simp
    omega
   obtain⟨u',rfl⟩:=zlo.1 h1;obtain rfl:u'=u:=by simpa using hu
   rw[alM];have e1:(([u'].length:Int)==1)=true:=rfl;generalize (fD 13 op [u'].length 0 p).MF=q0 at a2 a3;generalize Vt 13 op [u'].length p 0 u'=K0 at a3 a4|-;have hs:sizes [K0,QO ([32,105,110,32]++x)]<=90000000:=by simp only[sizes,Dj];omega
   simp(disch:=omega) only[yJ,M.iG,M.gY,hr,ah,XK,YF,YG,YH,VN,M.dI,M.dA,Int.reduceBEq,Int.reduceBNe,aH,bC,hel,e1,a1,a2,a3,YV,Iu,aBK,U3 _ hs,OQ,aiq];rfl
 ·obtain⟨u,v,rfl⟩:=alJ (hc.two ak);have hsv:=sz2 u v;have hI:I64 op:=by rcases hc.asg rfl with rfl|h<;>constructor<;>omega
  have hsl:=RY op;have a1:=TU (ks:=[u,v]) (b:=b) (j:=0) (u:=u) rfl;obtain⟨t1,t2,t3⟩:=tgt (u:=u) rfl (by simp[cls]);have a3:=alQ (ih' u (by simp)) t1 t2 t3 (o:=o) (f:=g) (p:=fD 15 op [u,v].length 0 p) hl (hat 0 u rfl) ak (DI hp (by simp) (by simp[lvl]));have a4:=OL u (fD 15 op [u,v].length 0 p);obtain⟨⟨b1,b2,b3⟩,b4⟩:=agv ih' (o:=o) (f:=g) (b:=b) (k:=15) (op:=op) (x:=x) (y:=y) (p:=p) (j:=1) (u:=v) ak hc hp hl hat ak ak rfl rfl;rw[ND] at a1;rw[ax8] at b1 b2;rw[aBI]
  conv=>rhs;rw[Vt,show zC 15 0=true from rfl,Bool.true_or,aH]
  generalize FK u (fD 15 op [u,v].length 0 p)=K0 at a3 a4|-;generalize (fD 15 op [u,v].length 1 p).MF=q1 at b2 b3;generalize Vt 15 op [u,v].length p 1 v=K1 at b3 b4|-;have hs3:sizes [K0,QO ([32]++spell op++[32]),K1]<=90000000:=by simp only[sizes,Dj];omega
  simp(disch:=omega) only[yJ,M.iG,M.gY,hr,ah,XK,YF,YG,YH,VN,M.dI,M.dA,Int.reduceBEq,Int.reduceBNe,aH,bC,a1,a3,b1,b2,b3,(zN op hI).1,YV,Ai,GX,OT,Iu,ayd,U3 _ hs3,OQ,aiq];simp[ahg,QT]
 ·have a1:=aTu ih' (o:=o) (f:=g) (b:=b) (op:=op) (x:=x) (y:=y) (p:=p) hc hp hl hat ak ak (asf op (rJ 12 op ks.length p ks 0));simp only[yJ,M.iG,M.gY,hr,ah,XK,YF,YG,YH,VN,M.dI,M.dA,Int.reduceBEq,Int.reduceBNe,aH,bC,a1]
 ·obtain⟨u,v,z,rfl⟩:=as1 (hc.three rfl);have hsz3:=sz3 u v z;obtain⟨⟨a1,a2,a3⟩,a4⟩:=agv ih' (o:=o) (f:=g) (b:=b) (k:=14) (op:=op) (x:=x) (y:=y) (p:=p) (j:=0) (u:=u) ak hc hp hl hat ak ak rfl (abU 14 ak 0);obtain⟨⟨b1,b2,b3⟩,b4⟩:=agv ih' (o:=o) (f:=g) (b:=b) (k:=14) (op:=op) (x:=x) (y:=y) (p:=p) (j:=1) (u:=v) ak hc hp hl hat ak ak rfl (abU 14 ak 1);obtain⟨⟨c1,c2,c3⟩,c4⟩:=agv ih' (o:=o) (f:=g) (b:=b) (k:=14) (op:=op) (x:=x) (y:=y) (p:=p) (j:=2) (u:=z) ak hc hp hl hat ak ak rfl (abU 14 ak 2);rw[ND] at a1 a2;rw[ax8] at b1 b2;rw[aTp] at c1 c2;rw[aJh];generalize (fD 14 op [u,v,z].length 0 p).MF=q0 at a2 a3;generalize Vt 14 op [u,v,z].length p 0 u=K0 at a3 a4|-;generalize (fD 14 op [u,v,z].length 1 p).MF=q1 at b2 b3;generalize Vt 14 op [u,v,z].length p 1 v=K1 at b3 b4|-;generalize (fD 14 op [u,v,z].length 2 p).MF=q2 at c2 c3;generalize Vt 14 op [u,v,z].length p 2 z=K2 at c3 c4|-;have hs:sizes [K0,QO [32,63,32],K1,QO [32,58,32],K2]<=90000000:=by simp only[sizes,Dj];omega
  simp only[yJ,M.iG,M.gY,hr,ah,XK,YF,YG,YH,VN,M.dI,M.dA,Int.reduceBEq,Int.reduceBNe,aH,bC,a1,a2,a3,b1,b2,b3,c1,c2,c3,YV,Iu,a1d,U3 _ hs,OQ];rfl
section
variable {o:Bool} {l:List Nd} {b:Nat} (hl:l.length<=1048576)
include hl
theorem a1e{u:Tn}(h:Ex' u)(hh:Lies l b u){p:Ps}(hp:xJ p=true):M.rM (dQ o l) false ((b+sizes u.kids:Nat):Int) p.level p.Fz p.QM p.QN p.FC=some (dE (Yu u p)):=
 M.amf (aJj (au3 u h.ok h.e h.sm h.sz) (f:=5 * u.size+1) hl hh (zaV _) hp)
end
def au4{n:Nd}(h:aF1 n):Small n:=by obtain⟨⟨_,_⟩,⟨_,_⟩,h3,h4⟩:=h;unfold rW at h3 h4;constructor<;>omega
def aBO{t:Tn}{o:Bool}(hz:t.size<=1000000)(hx:tsm t):∃x b,M.sO (mO o (t.flat 0))=some (x,b)/\x.length<=5000000000000:=by
 have hxx:=alK t 0 hx;cases hd:dOk t && decide (t.size<=4000) with
 |true=>rw[BK,decide_eq_true_eq] at hd;refine⟨_,_,as8 hd.1 hd.2 hx,aEV λs hs=> ?_⟩;have h1:=asY _ _ hs;have h2:=aBA 1000000000 t 0 hxx;omega
 |false=>refine⟨[],false, ?_,by simp⟩;simp only[M.sO,M.IV,ad3 (t:=t) ak hxx,ah,hd];rfl
def aEX{T:Tn}(hT:T.size<=1048576):i64.wrap (((T.flat 0).length:Int) - 1)=((0+sizes T.kids:Nat):Int):=by have:=T.agP;rw[T.flat_length,aJ ak ak];omega
def aJk{t:Tn}(hz:t.size<=400)(hf:ad2 t):∃x,M.sQ (aB (dQ true (t.flat 0))) 1 false false false false=some x/\x.length<=5000000000000:=by
 have hS:∀n,n∈t.flat 0->Small n:=λn hn=>au4 (hf 0 n hn)
 have hl:(t.flat 0).length<=1048576:=by rw[t.flat_length];omega
 have hk:∀n,n∈t.flat 0->n.kids.length<=1048576:=λn hn=>by have:=(Vw t 0 n hn).1;omega
 have a1:=abH (t.flat 0) false hl hk hS;have p1:M.xM 1 false false false false=some true:=rfl;have f0:M.sO []=some ([],false):=rfl;simp only[afz,M.sQ,M.N9,M.Ht,M.Qe,M.J4,M.Tf,a1,ah];cases pa:KL (t.flat 0) with
 |false=>exact⟨[],by simp only[bC,Bool.not_false,aH,ah,aB,List.map_nil,f0],by simp⟩
 |true=>
  have hok:=auM pa hS;have hsm:=(apA t 0).2 hS;have hT:t.size<=1048576:=ak;have hr:=aBM (o:=false) (Lies.whole t);have hen:((dQ false (t.flat 0)).length:Int)=((t.flat 0).length:Int):=by rw[jd]
  simp only[aH,hen,aEX hT,hr,ah,XK,eU];cases hs:Iq t.kind with
  |false=>exact⟨[],by simp only[Bool.not_false,aH,ah,aB,List.map_nil,f0],by simp⟩
  |true=>
   have hE:isE t:=by unfold Iq at hs;rw[BK,decide_eq_true_eq,decide_eq_true_eq] at hs;exact hs
   have hX:Ex' t:=⟨hok,hE,hsm,hT⟩
   have h1:M.rM (dQ false (t.flat 0)) false ((0+sizes t.kids:Nat):Int) 1 false false false false=some (dE (Yu t .top)):=a1e (o:=false) hl hX (Lies.whole t) (p:=.top) rfl;have hz2:=ae8 t .top;obtain⟨x,b,h2,h3⟩:=aBO (t:=Yu t .top) (o:=false) ak (aya hsm _);refine⟨x, ?_,h3⟩;simp only[zaU,bC,p1,h1,ah,dE,aBz,h2]
abbrev StR:=aC×au×Int×Int
def l9(m:Option StR)(s:Cu)(B:Nat):Prop:=∃(x:aC) (q:Nat),m=some (x,cS s q)/\x.length<=B
def l9.mono{m:Option StR}{s:Cu}{B B':Nat}(h:l9 m s B)(hb:B<=B'):l9 m s B':=by obtain⟨x,q,h1,h2⟩:=h;exact⟨x,q,h1,ak⟩
section
variable {s:Cu} (h:ahp s) {B:Nat}
def l9.done{x:aC}{q:Nat}(hx:x.length<=B:=by(try simp only[Ai,GX,OT]);omega):l9 (some (x,(cS s q).1,(cS s q).2.1,(cS s q).2.2)) s B:=⟨x,q,rfl,hx⟩
def l9.len{n:Nat}{a:Option StR}(h:l9 a s B)(hn:n<=1000000000000000000:=by(try simp only[Ai,GX,OT]);omega):l9 (bif n.ble 9223372036854775807 then a else none) s B:=by rw[Nat.ble_eq_true_of_le ak,aH];exact h
def l9.ite{c:Bool}{a b:Option StR}(ha:c=true->l9 a s B)(hb:c=false->l9 b s B):l9 (bif c then a else b) s B:=by cases c with|true=>exact ha rfl|false=>exact hb rfl
def l9.bnd{m:Option StR}{k:StR->Option StR}{B':Nat}(hm:l9 m s B')(hk:∀x q,x.length<=B'->l9 (k (x,cS s q)) s B):l9 (m.bind k) s B:=by obtain⟨x,q,h1,h2⟩:=hm;rw[h1,ah];exact hk x q h2
include h
theorem l9.pick{rows:au}{p:Nat}{k:StR->Option StR}(hr:aly sB rows=true)(hk:∀x q,x.length<=100->l9 (k (x,cS s q)) s B):l9 ((M.dn rows (cS s p).1 (cS s p).2.1 (cS s p).2.2).bind k) s B:=by rw[Ov h p rows hr,ah];exact hk _ _ (rG hr _)
theorem l9.aTw{a b:aC}{p:Nat}{k:StR->Option StR}(hk:∀x q,x.length<=a.length+b.length->l9 (k (x,cS s q)) s B):l9 ((M.dn [[D.str a],[D.str b]] (cS s p).1 (cS s p).2.1 (cS s p).2.2).bind k) s B:=by
 have hb:=uV h p 2 ak ak;have e2:(([[D.str a],[D.str b]]:au).length:Int)=((2:Nat):Int):=rfl;have hm:=Nat.mod_lt (s.g p) (show 0<2 by omega);have:s.g p % 2=0\/s.g p % 2=1:=ak;simp only[M.dn,M.Np,e2,hb,ah,cO];rcases this with e|e<;>rw[e]
 ·exact hk a (p+1) ak
 ·exact hk b (p+1) ak
theorem l9.below{n p:Nat}{k:Int×au×Int×Int->Option StR}(h1:1<=n)(h2:n<=256)(hk:∀(j:Nat) q,j<n->l9 (k ((j:Int),cS s q)) s B):l9 ((M.bM (n:Int) (cS s p).1 (cS s p).2.1 (cS s p).2.2).bind k) s B:=by rw[uV h p n h1 h2,ah];exact hk _ _ (Nat.mod_lt _ ak)
theorem l9.expr{d:Int}(l1: -8<=d)(l2:d<=2){p:Nat}{K:au×au×Int×Int->aC->Option StR}(hk:∀(r:au) x q,x.length<=5000000000000->l9 (K (r,cS s q) x) s B):
  l9 ((M.nG d (cS s p).1 (cS s p).2.1 (cS s p).2.2).bind λr=>M.oz.bind λt=>(M.sQ (aB r.fst) t.fst t.snd.fst t.snd.snd.fst t.snd.snd.snd.fst t.snd.snd.snd.snd).bind λx=>K r x) s B:=by
 obtain⟨t,e,hz,hf⟩:=aEQ h l1 ak p;have hb:=Zk s.g d.toNat p;have h2:bE d.toNat<=43:=by have:d.toNat=0\/d.toNat=1\/d.toNat=2:=ak;rcases this with e|e|e<;>rw[e]<;>decide
 obtain⟨x,e2,hx⟩:=aJk (t:=t) ak hf;rw[e,ah,aii,ah];simp only[e2,ah];exact hk _ _ _ hx
end
def sL:Nat->Nat
 |0=>5000000010000
 |d+1=>5000000010000+3 * sL d
def bL(d:Nat):Nat:=2 * (sL d+200)
abbrev Rc:=Int->au->Int->Int->Option StR
def RcD(r:Rc)(s:Cu)(d:Int)(B:Nat):Prop:=∀p,l9 (r d (cS s p).1 (cS s p).2.1 (cS s p).2.2) s B
section
variable {s:Cu} (h:ahp s) {B:Nat}
include h
theorem alR{r:Rc}{d:Int}(hr:RcD r s d B)(hB:B<=1000000000000000):∀(n:Nat) (x:aC) (p:Nat),n<=3->x.length+n * (B+200)<=100000000000000000->
  ∃y q,M.zM r d (x,(n:Int),cS s p)=some (y,0,cS s q)/\y.length<=x.length+n * (B+200)
 |0,x,p,_,hx=>by refine⟨x,p, ?_,ak⟩;rw[M.zM];exact aV rfl
 |n+1,x,p,hn,hx=>by
  have e:(n+1) * (B+200)=n * (B+200)+(B+200):=Nat.succ_mul _ _;obtain⟨z,q,hz,hzl⟩:=hr (p+1);have hw:i64.wrap (((n+1:Nat):Int) - 1)=(n:Int):=by rw[aJ ak ak];omega
  have a1:=Ov h p [[D.str []],[D.str [10]],[D.str [32]],[D.str [35,32,99,10]],[D.str [59,32]]] rfl;have a2:=Ov h q [[D.str [59]],[D.str [10]],[D.str [10]],[D.str [32,35,32,116,10]],[D.str [59,10]]] rfl;have b1:=rG (rows:=[[D.str []],[D.str [10]],[D.str [32]],[D.str [35,32,99,10]],[D.str [59,32]]]) rfl (s.g p);have b2:=rG (rows:=[[D.str [59]],[D.str [10]],[D.str [10]],[D.str [32,35,32,116,10]],[D.str [59,10]]]) rfl (s.g q);generalize pkS [[D.str []],[D.str [10]],[D.str [32]],[D.str [35,32,99,10]],[D.str [59,32]]] (s.g p)=u at a1 b1;generalize pkS [[D.str [59]],[D.str [10]],[D.str [10]],[D.str [32,35,32,116,10]],[D.str [59,10]]] (s.g q)=v at a2 b2;unfold rW at b1 b2;have hb:M.Qh r d (x,((n+1:Nat):Int),cS s p)=some (.inl (x++u++z++v,(n:Int),cS s (q+1))):=by simp only[M.Qh,M.Jz,a1,ah,hz,a2,hw];rw[zdt ak,Nat.ble_eq_true_of_le ak,Nat.ble_eq_true_of_le (by simp only[Ai];omega),Nat.ble_eq_true_of_le (by simp only[Ai];omega)];rfl
  obtain⟨y,q',hy,hyl⟩:=alR hr hB n (x++u++z++v) (q+1) ak (by simp only[Ai];omega);refine⟨y,q', ?_, ?_⟩
  ·rw[M.zM] at hy|-;rw[bY hb,hy]
  ·simp only[Ai] at hyl;omega
theorem aEY{r:Rc}{d:Int}{B':Nat}(hr:RcD r s d B)(hB:B<=1000000000000000)(hB':2 * (B+200)<=B')(p:Nat):l9 (M.Ce r d (cS s p).1 (cS s p).2.1 (cS s p).2.2 some) s B':=by unfold M.Ce;rw[show(3:Int)=((3:Nat):Int) from rfl,uV h p 3 ak ak,ah];have hm:=Nat.mod_lt (s.g p) (show 0<3 by omega);have h2:s.g p % 3 * (B+200)<=2 * (B+200):=Nat.mul_le_mul_right _ ak;obtain⟨y,q,hy,hyl⟩:=alR h hr hB (s.g p % 3) [] (p+1) ak (by rw[OT];omega);have hy':M.zM r d (([],((s.g p % 3:Nat):Int),(cS s (p+1)).1,(cS s (p+1)).2.1,(cS s (p+1)).2.2))=_:=hy;simp only[hy',ah];rw[OT] at hyl;exact⟨y,q,rfl,ak⟩
theorem atc{x:aC}(hx:x.length<=5000000000000)(hB:5000000001000<=B)(j:Int)(p:Nat):l9 (M.Ia (j,cS s p) x some) s B:=by
 unfold M.Ia;refine l9.pick h rfl λa q ha=> ?_
 refine l9.pick h rfl λb q hb=> ?_
 refine l9.len (l9.len ?_);refine l9.pick h rfl λc q hc=> ?_
 exact l9.len (l9.done)
theorem awD{r rb:Rc}{x:aC}(hx:x.length<=5000000000000)(hB:5000000001000<=B){d:Int}{Bs Bb:Nat}(j p:Nat)(hj:j<6->RcD r s (i64.wrap (d - 1)) Bs/\RcD rb s (i64.wrap (d - 1)) Bb/\5000000001000+Bs+Bb<=B/\B<=100000000000000000):
  l9 (M.IW ((j:Int),cS s p) x r d some rb) s B:=by
 have hjj:∀{k:Nat},k<6->((j:Int)==(k:Int))=true->RcD r s (i64.wrap (d - 1)) Bs/\RcD rb s (i64.wrap (d - 1)) Bb/\5000000001000+Bs+Bb<=B/\B<=100000000000000000:=λhk hc=>hj (by rw[beq_iff_eq] at hc;omega)
 unfold M.IW;refine l9.ite (λhc=> ?_) λ_=> ?_
 ·obtain⟨h1,h2,h3,h4⟩:=hjj (k:=0) ak hc;refine l9.len (l9.len (l9.bnd (h1 p) λy q hy=> ?_));exact l9.len (l9.done)
 refine l9.ite (λhc=> ?_) λ_=> ?_
 ·obtain⟨h1,h2,h3,h4⟩:=hjj (k:=1) ak hc;refine l9.len (l9.len (l9.bnd (h2 p) λy q hy=> ?_));refine l9.len (l9.len (l9.bnd (h1 q) λz q hz=> ?_));exact l9.len (l9.done)
 refine l9.ite (λhc=> ?_) λ_=> ?_
 ·obtain⟨h1,h2,h3,h4⟩:=hjj (k:=2) ak hc;refine l9.len (l9.len (l9.pick h rfl λa q ha=> ?_));refine l9.len (l9.bnd (h1 q) λz q hz=> ?_);exact l9.len (l9.done)
 refine l9.ite (λhc=> ?_) λ_=> ?_
 ·obtain⟨h1,h2,h3,h4⟩:=hjj (k:=3) ak hc;refine l9.bnd (h1 p) λz q hz=>l9.len (l9.pick h rfl λa q ha=> ?_)
  exact l9.len (l9.len (l9.len (l9.len (l9.done))))
 refine l9.ite (λhc=> ?_) λ_=> ?_
 ·obtain⟨h1,h2,h3,h4⟩:=hjj (k:=4) ak hc;refine l9.pick h rfl λa q ha=>l9.len (l9.len (l9.bnd (h1 q) λz q hz=> ?_))
  exact l9.len (l9.done)
 refine l9.ite (λhc=> ?_) λ_=> ?_
 ·obtain⟨h1,h2,h3,h4⟩:=hjj (k:=5) ak hc;refine l9.bnd (h2 p) λz q hz=>l9.len (l9.len (l9.done))
 refine l9.ite (λ_=>atc h hx hB _ p) λ_=>l9.ite (λ_=>atc h hx hB _ p) λ_=> ?_
 refine l9.ite (λ_=>l9.pick h rfl λa q ha=>l9.done) λ_=> ?_
 exact l9.ite (λ_=>l9.len (l9.len (l9.done))) λ_=>l9.done
theorem awE{r rb:Rc}{d:Int}(hd: -8<=d)(hB:5000000001000<=B){Bs Bb:Nat}(hj:0<d->RcD r s (i64.wrap (d - 1)) Bs/\RcD rb s (i64.wrap (d - 1)) Bb/\5000000001000+Bs+Bb<=B/\B<=100000000000000000)(p:Nat):
  l9 (M.Cc r rb d (cS s p).1 (cS s p).2.1 (cS s p).2.2 some) s B:=by
 unfold M.Cc;refine l9.below h (n:=2) ak ak λj q hj2=> ?_
 have hw:i64.wrap (1+(j:Int))=1+(j:Int):=aJ ak ak;simp only[hw];refine l9.expr h ak ak (K:=λazO Kt=>_) λr x q hx=> ?_
 refine l9.below h (n:=14) ak ak λj q hj2=> ?_
 refine l9.ite (λhc=>l9.ite (λ_=> ?_) λhc2=> ?_) λhc=> ?_
 ·refine l9.pick h rfl λa q ha=> ?_
  refine l9.pick h rfl λb q hb=> ?_
  refine l9.len (l9.len ?_);refine l9.pick h rfl λc q hc=> ?_
  exact l9.len (l9.done)
 ·have hc3:¬(j<6):=by have:=decide_eq_false_iff_not.1 hc2;simp only at this;omega
  exact awD (Bs:=0) (Bb:=0) h hx hB j q λhlt=>absurd hlt hc3
 ·have hc3:0<d:=by have:=decide_eq_false_iff_not.1 hc;omega
  exact awD h hx hB j q λ_=>hj hc3
theorem apR:∀(d f:Nat),d<=2->2 * d+1<=f->RcD (M.Cj f) s (d:Int) (sL d)/\RcD (M.Gu (f+1)) s (d:Int) (bL d)
 |d,0,_,hf=>by omega
 |d,f+1,hd,hf=>by
  have hsz:sL d<=1000000000000000/\5000000001000<=sL d:=by have:d=0\/d=1\/d=2:=ak;rcases this with rfl|rfl|rfl<;>decide
  have h1:RcD (M.Cj (f+1)) s (d:Int) (sL d):=λp=>by
   rw[M.aku];cases d with
   |zero=>exact awE (Bs:=0) (Bb:=0) h ak hsz.2 (λhlt=>by omega) p
   |succ e=>
    have hw:i64.wrap (((e+1:Nat):Int) - 1)=(e:Int):=by rw[aJ ak ak];omega
    obtain⟨g,rfl⟩:∃g,f=g+1:=⟨f - 1,ak⟩
    have i1:=(apR e (g+1) ak ak).1;have i2:=(apR e g ak ak).2;refine awE (Bs:=sL e) (Bb:=bL e) h ak hsz.2 (λhlt=> ?_) p;rw[hw];exact⟨i1,i2,by rw[sL,bL];omega,ak⟩
  refine⟨h1,λp=> ?_⟩;rw[M.akt];exact aEY h h1 hsz.1 (by rw[bL];omega) p
theorem au5(p:Nat):l9 (M.tN 2 (cS s p).1 (cS s p).2.1 (cS s p).2.2) s 200000000000000:=by
 obtain⟨x,q,e,hx⟩:=(apR h 2 5 ak ak).2 p;have:bL 2<=200000000000000:=by decide
 exact⟨x,q,M.aiI e,ak⟩
theorem au6(p:Nat):l9 (M.D6 (cS s p).1 (cS s p).2.1 (cS s p).2.2) s 300000000000000:=by
 unfold M.D6 M.Qi;refine l9.bnd (au5 h p) λb q hb=>l9.len (l9.len ?_)
 refine l9.expr h ak ak (K:=λazS akv=>_) λr x q hx=> ?_
 refine l9.below h (n:=6) ak ak λj q hj2=> ?_
 refine l9.ite (λ_=>l9.pick h rfl λa q ha=>l9.len (l9.done)) λ_=> ?_
 refine l9.ite (λ_=> ?_) λ_=> ?_
 ·refine l9.pick h rfl λa q ha=>l9.len (l9.pick h rfl λb q hb=>l9.len (l9.len (l9.pick h rfl λc q hc=> ?_)))
  exact l9.len (l9.len (l9.done))
 refine l9.ite (λ_=>l9.done) λ_=> ?_
 refine l9.ite (λ_=>l9.len (l9.len (l9.aTw h λc q hc=> ?_))) λ_=> ?_
 ·simp only[Ai,GX,OT] at hc;exact l9.len (l9.done)
 exact l9.ite (λ_=>l9.done) λ_=>l9.len (l9.done)
theorem atd:∀(n:Nat) (x:aC) (p:Nat),n<=4->x.length+n * 300000000000200<=100000000000000000->
  ∃y q,M.wC (x,(n:Int),cS s p)=some (y,0,cS s q)/\y.length<=x.length+n * 300000000000200
 |0,x,p,_,hx=>by refine⟨x,p, ?_,ak⟩;rw[M.wC];exact aV rfl
 |n+1,x,p,hn,hx=>by
  obtain⟨z,q,hz,hzl⟩:=au6 h (p+1);have hw:i64.wrap (((n+1:Nat):Int) - 1)=(n:Int):=by rw[aJ ak ak];omega
  have a1:=Ov h p [[D.str []],[D.str [10]],[D.str [35,32,116,111,112,10]],[D.str []]] rfl;have a2:=Ov h q [[D.str [10]],[D.str [10,10]],[D.str [59]],[D.str [32,35,32,101,10]]] rfl;have b1:=rG (rows:=[[D.str []],[D.str [10]],[D.str [35,32,116,111,112,10]],[D.str []]]) rfl (s.g p);have b2:=rG (rows:=[[D.str [10]],[D.str [10,10]],[D.str [59]],[D.str [32,35,32,101,10]]]) rfl (s.g q);generalize pkS [[D.str []],[D.str [10]],[D.str [35,32,116,111,112,10]],[D.str []]] (s.g p)=u at a1 b1;generalize pkS [[D.str [10]],[D.str [10,10]],[D.str [59]],[D.str [32,35,32,101,10]]] (s.g q)=v at a2 b2;unfold rW at b1 b2;have hb:M.MN (x,((n+1:Nat):Int),cS s p)=some (.inl (x++u++z++v,(n:Int),cS s (q+1))):=by simp only[M.MN,M.FT,a1,ah,hz,a2,hw];rw[zdt ak,Nat.ble_eq_true_of_le ak,Nat.ble_eq_true_of_le (by simp only[Ai];omega),Nat.ble_eq_true_of_le (by simp only[Ai];omega)];rfl
  obtain⟨y,q',hy,hyl⟩:=atd n (x++u++z++v) (q+1) ak (by simp only[Ai];omega);refine⟨y,q', ?_, ?_⟩
  ·rw[M.wC] at hy|-;rw[bY hb,hy]
  ·simp only[Ai] at hyl;omega
theorem agw(p:Nat):l9 (M.vU (cS s p).1 (cS s p).2.1 (cS s p).2.2) s 2000000000000000:=by unfold M.vU M.LJ;rw[show(4:Int)=((4:Nat):Int) from rfl,uV h p 4 ak ak,ah];have hm:=Nat.mod_lt (s.g p) (show 0<4 by omega);obtain⟨y,q,hy,hyl⟩:=atd h (s.g p % 4) [] (p+1) ak (by rw[OT];omega);have hy':M.wC (([],((s.g p % 4:Nat):Int),(cS s (p+1)).1,(cS s (p+1)).2.1,(cS s (p+1)).2.2))=_:=hy;simp only[hy',ah];rw[OT] at hyl;exact⟨y,q,rfl,ak⟩
end
def tkF(t:Tk):Prop:=(0<=t.kind/\t.kind<=68)/\rW t.text
abbrev aEZ:=Int×au×Int×Int×au
def Sj{k:Int}{t:aC}{a:Int}(h1:0<=k)(h2:k<=68)(h3:rW t):tkF ⟨k,t,a⟩:=⟨⟨h1,h2⟩,h3⟩
def awF{a b:Tk}(ha:tkF a)(hb:tkF b):∀t,t∈[a,b]->tkF t:=λt ht=>by
 rcases List.mem_cons.1 ht with rfl|ht
 ·exact ha
 ·rw[List.mem_singleton] at ht;rw[ht];exact hb
def TGQ(s:Cu)(n:Nat)(l:List Tk)(m:Option (aEZ⊕aEZ)):Prop:=∃(ts:List Tk) (q:Nat),m=some (.inl ((n:Int),(cS s q).1,(cS s q).2.1,(cS s q).2.2,aF (l++ts)))/\ts.length<=2/\∀t,t∈ts->tkF t
def TGQ.ite{s:Cu}{n:Nat}{l:List Tk}{c:Bool}{a b:Option (aEZ⊕aEZ)}(ha:TGQ s n l a)(hb:TGQ s n l b):TGQ s n l (bif c then a else b):=by cases c<;>assumption
def aol(k:Int):∃b,M.fB k=some b:=by simp only[M.fB,M.xW];cases k==3<;>cases k==4<;>cases k==5<;>cases k==6<;>cases k==8<;>cases k==33<;>cases k==35<;>cases k==51<;>cases k==52<;>exact⟨_,rfl⟩
def aom(l:List Tk):aj (aF l)=true:=by simp[aj,aF,afy,D.flat]
def Zn(l:List Tk)(ts:List Tk):aF (l++ts)=aF l++aF ts:=by simp[aF]
def au7(x:Tk)(k:Int)(t:aC)(a:Int):splice (afy x) 0 [D.int .i64 k,D.str t,D.int .i64 a]=afy ⟨k,t,a⟩:=rfl
def au8(l:List Tk)(i:Nat)(x:Tk):(aF l).set i (afy x)=aF (l.set i x):=by simp[aF,List.map_set]
section
variable {s:Cu} (h:ahp s)
include h
theorem aon(p:Nat):∃(k:Int) (t:aC) (q:Nat),M.vV (cS s p).1 (cS s p).2.1 (cS s p).2.2=some (k,t,0,cS s q)/\tkF ⟨k,t,0⟩:=by
 have e:=uV h p 10 ak ak;rw[show((10:Nat):Int)=10 from rfl] at e;obtain⟨a1,c1,b1⟩:=aBs h (p+1);obtain⟨a2,c2,b2⟩:=aBt h (p+1);obtain⟨a3,c3,b3⟩:=aBu h (p+1);obtain⟨a4,c4,b4⟩:=ab8 h (p+1);have e1:=uV h (p+1) 17 ak ak;rw[show((17:Nat):Int)=17 from rfl] at e1;have e2:=uV h (p+1) 39 ak ak;rw[show((39:Nat):Int)=39 from rfl] at e2;have m1:=Nat.mod_lt (s.g (p+1)) (show 0<17 by omega);have m2:=Nat.mod_lt (s.g (p+1)) (show 0<39 by omega);have w1:i64.wrap (10+((s.g (p+1) % 17:Nat):Int))=10+((s.g (p+1) % 17:Nat):Int):=aJ ak ak;have w2:i64.wrap (30+((s.g (p+1) % 39:Nat):Int))=30+((s.g (p+1) % 39:Nat):Int):=aJ ak ak;have s1:=(zN (10+((s.g (p+1) % 17:Nat):Int)) (by unfold I64;omega)).1;have s2:=(zN (30+((s.g (p+1) % 39:Nat):Int)) (by unfold I64;omega)).1;have l1:=RY (10+((s.g (p+1) % 17:Nat):Int));have l2:=RY (30+((s.g (p+1) % 39:Nat):Int));simp only[M.vV,M.Qk,M.qM,M.Jv];rw[e,ah];simp only[b1,b2,b3,b4,e1,e2,w1,w2,s1,s2,ah];cases((s.g p % 10:Nat):Int)==0 with
 |true=>exact⟨_,_,_,rfl,Sj ak ak (by first|assumption|exact rG rfl _|(unfold rW;omega))⟩
 |false=>cases((s.g p % 10:Nat):Int)==1 with
  |true=>exact⟨_,_,_,rfl,Sj ak ak (by first|assumption|exact rG rfl _|(unfold rW;omega))⟩
  |false=>cases((s.g p % 10:Nat):Int)==2 with
   |true=>exact⟨_,_,_,rfl,Sj ak ak (by first|assumption|exact rG rfl _|(unfold rW;omega))⟩
   |false=>cases((s.g p % 10:Nat):Int)==3 with
    |true=>exact⟨_,_,_,rfl,Sj ak ak (by first|assumption|exact rG rfl _|(unfold rW;omega))⟩
    |false=>cases((s.g p % 10:Nat):Int)==4 with
     |true=>exact⟨_,_,_,rfl,Sj ak ak (by first|assumption|exact rG rfl _|(unfold rW;omega))⟩
     |false=>cases((s.g p % 10:Nat):Int)==5 with
      |true=>rw[bC,bC,bC,bC,bC,aH,Ov h (p+1) _ rfl,ah];exact⟨_,_,_,rfl,Sj ak ak (by first|assumption|exact rG rfl _|(unfold rW;omega))⟩
      |false=>cases((s.g p % 10:Nat):Int)==6 with
       |true=>exact⟨_,_,_,rfl,Sj ak ak (by first|assumption|exact rG rfl _|(unfold rW;omega))⟩
       |false=>exact⟨_,_,_,rfl,Sj ak ak (by first|assumption|exact rG rfl _|(unfold rW;omega))⟩
variable {n:Nat} {l:List Tk} (hl:l.length<=100) (hn:n<=100)
include hl hn
theorem aBP(k:Int)(t:aC)(q:Nat):TGQ s n l (M.jq (aF l) (λx=>some (Sum.inl x)) ((n+1:Nat):Int) (k,t,0,cS s q)):=by
 have hw:i64.wrap (((n+1:Nat):Int) - 1)=(n:Int):=by rw[aJ ak ak];omega
 simp only[M.jq,eH,hw];rw[bI ak,aH,bI ak,aH];exact⟨[⟨1,[10],0⟩],q,by rw[Zn];rfl,by simp,λu hu=>by rw[List.mem_singleton] at hu;rw[hu];exact Sj (by decide) (by decide) (by simp[rW])⟩
theorem awG(b:Bool)(q q0:Nat){k:Int}(t:aC)(hk:tkF ⟨k,t,0⟩):TGQ s n l (M.wE (b,cS s q) (aF l) (λx=>some (Sum.inl x)) ((n+1:Nat):Int) (k,t,0,cS s q0)):=by
 have hw:i64.wrap (((n+1:Nat):Int) - 1)=(n:Int):=by rw[aJ ak ak];omega
 have hp:=Ov h q [[D.str [35]],[D.str [35,32,97]],[D.str [35,34,120]]] rfl;simp only[M.wE,eH,hw,hp,ah,Ai,GX,OT];cases b with
 |true=>rw[aH,bI ak,aH,bI ak,aH,bI ak,aH,bI ak,aH];exact⟨[⟨2,_,0⟩,⟨1,[10],0⟩],q+1,by rw[Zn,WC];rfl,by simp,awF (Sj (by decide) (by decide) (rG rfl _)) (Sj (by decide) (by decide) (by simp[rW]))⟩
 |false=>rw[bC,bI ak,aH,bI ak,aH];exact⟨[⟨k,t,0⟩],q,by rw[Zn];rfl,by simp,λu hu=>by rw[List.mem_singleton] at hu;rw[hu];exact hk⟩
theorem aBQ(q:Nat){k:Int}(t:aC)(hk:tkF ⟨k,t,0⟩):TGQ s n l (M.gZ (k,t,0,cS s q) (aF l) (λx=>some (Sum.inl x)) ((n+1:Nat):Int)):=by
 have hw:i64.wrap (((n+1:Nat):Int) - 1)=(n:Int):=by rw[aJ ak ak];omega
 have e4:=agk h q 4 ak ak;rw[show((4:Nat):Int)=4 from rfl] at e4;have e20:=agk h q 20 ak ak;rw[show((20:Nat):Int)=20 from rfl] at e20;have e21:=agk h (q+1) 20 ak ak;rw[show((20:Nat):Int)=20 from rfl] at e21;simp only[M.gZ,eH,hw,e4,e20,e21,ah,Ai,GX,OT];refine TGQ.ite ?_ (awG h hl hn _ _ _ t hk);cases(s.g q % 4==0) with
 |true=>rw[aH,bI ak,aH,bI ak,aH,bI ak,aH,bI ak,aH];exact⟨[⟨7,t,0⟩,⟨32,[40],0⟩],q+1,by rw[Zn,WC];rfl,by simp,awF (Sj (by decide) (by decide) hk.2) (Sj (by decide) (by decide) (by simp[rW]))⟩
 |false=>exact awG h hl hn _ _ _ t hk
theorem aye(p:Nat):TGQ s n l (M.Ib (((n+1:Nat):Int),(cS s p).1,(cS s p).2.1,(cS s p).2.2,aF l)):=by
 obtain⟨k,t,q,ht,hk⟩:=aon h p;simp only[M.Ib,M.Cm];rw[zdt ak,aH];rw[eH]
 by_cases hz:l.length=0
 ·obtain⟨b,hb⟩:=aol 0;rw[xK ak,bC,ht,ah];simp only[hb,ah]
  repeat' first|exact aBP h hl hn _ _ _|exact aBQ h hl hn _ _ hk|apply TGQ.ite
 ·have hlt:l.length - 1<l.length:=ak;obtain⟨x,hx⟩:∃x,l[l.length - 1]? =some x:=⟨l[l.length - 1],by simp[hlt]⟩
  have hw:i64.wrap ((l.length:Int) - 1)=((l.length - 1:Nat):Int):=by rw[aJ ak ak];omega
  obtain⟨b,hb⟩:=aol x.kind;rw[zdt ak,aH,hw];simp only[cO,ztn,pX,hx,MI,ah,cT0,ht,hb]
  repeat' first|exact aBP h hl hn _ _ _|exact aBQ h hl hn _ _ hk|apply TGQ.ite
omit hl hn
theorem agx:∀(n:Nat) (l:List Tk) (p:Nat),l.length+2 * n<=60->(∀t,t∈l->tkF t)->∃(l':List Tk) (q:Nat),M.xX ((n:Int),(cS s p).1,(cS s p).2.1,(cS s p).2.2,aF l)=some (0,(cS s q).1,(cS s q).2.1,(cS s q).2.2,aF l')/\l'.length<=60/\∀t,t∈l'->tkF t
 |0,l,p,hl,hk=>by refine⟨l,p, ?_,ak,hk⟩;rw[M.xX];apply aV;simp only[M.Ib,M.Cm];rw[xK ak,bC];rfl
 |n+1,l,p,hl,hk=>by
  obtain⟨ts,q,e,h2,h3⟩:=aye h (n:=n) (l:=l) ak ak p;obtain⟨l',q',e',r1,r2⟩:=agx n (l++ts) q (by rw[Ai];omega) (λt ht=>by
   rcases List.mem_append.1 ht with ht|ht
   ·exact hk t ht
   ·exact h3 t ht)
  refine⟨l',q', ?_,r1,r2⟩;rw[M.xX] at e'|-;rw[bY e];exact e'
theorem au9(p:Nat):∃(l:List Tk) (q:Nat),M.Bl 14 (cS s p).1 (cS s p).2.1 (cS s p).2.2=some (aF l,cS s q)/\l.length<=60/\∀t,t∈l->tkF t:=by
 have e:=uV h p 15 ak ak;rw[show((15:Nat):Int)=15 from rfl] at e;have hm:=Nat.mod_lt (s.g p) (show 0<15 by omega);obtain⟨l,q,e1,hl,hk⟩:=agx h (s.g p % 15) [] (p+1) (by rw[OT];omega) (by simp);simp only[M.Bl,M.Oa];rw[show i64.wrap (14+1)=15 from rfl,e,ah];rw[show M.xX (((s.g p % 15:Nat):Int),(cS s (p+1)).1,(cS s (p+1)).2.1,(cS s (p+1)).2.2,[])=_ from e1,ah];have e10:=agk h q 10 ak ak;rw[show((10:Nat):Int)=10 from rfl] at e10;simp only[eH,e10,ah,aom,aH]
 by_cases hz:l.length=0
 ·rw[xK ak,bC];exact⟨l,q,rfl,hl,hk⟩
 ·rw[zdt ak,aH];cases(s.g q % 10==0) with
  |false=>exact⟨l,q+1,rfl,hl,hk⟩
  |true=>
   have eb:=uV h (q+1) l.length ak ak;have hi:=Nat.mod_lt (s.g (q+1)) (show 0<l.length by omega);obtain⟨k,t,q2,ht,hkk⟩:=aon h (q+1+1);obtain⟨x,hx⟩:∃x,l[s.g (q+1) % l.length]? =some x:=⟨l[s.g (q+1) % l.length],by simp[hi]⟩
   rw[aH,eb,ah];simp only[ht,ah,cO,ztn,pX,hx,MI,au7,au8,aom,aH];refine⟨_,q2,rfl,by rw[List.length_set];exact hl,λy hy=> ?_⟩;rcases List.mem_or_eq_of_mem_set hy with hy|rfl
   ·exact hk y hy
   ·exact hkk
end
def aJl(c:aC)(hc:c.length<=1048576):∃h,M.JZ (c.map byteRow)=some (c.map byteRow,0,h):=by
 have key:∀(n i:Nat) (h:Int),c.length - i=n->∃t,fV (M.IE (c.map byteRow)) (h,(i:Int))=some t:=by
  intro n;induction n with
  |zero=>intro i h hi;refine⟨(h,(i:Int)),aV ?_⟩;simp only[M.IE,M.Dw,zaW];rw[xK ak,bC]
  |succ n ih=>
   intro i h hi
   by_cases h4:i<4000
   ·obtain⟨b,hb⟩:∃b,c[i]? =some b:=⟨c[i],by simp⟩
    have hr:idx (c.map byteRow) (i:Int)=some (byteRow b):=by rw[cO,List.getElem?_map,hb];rfl
    have hcI:jD .u8 (byteRow b) 0=some (b.toNat:Int):=rfl;obtain⟨t,ht⟩:=ih (i+1) _ ak;refine⟨t, ?_⟩;rw[<-ht];apply bY;simp only[M.IE,M.Dw,zaW];rw[zdt ak,aH,zdt ak,aH,hr,ah,hcI,ah,aJ (n:=(i:Int)+1) ak ak];rfl
   ·refine⟨(h,(i:Int)),aV ?_⟩;simp only[M.IE,M.Dw,zaW];rw[zdt ak,aH,xK ak,bC]
 obtain⟨t,ht⟩:=key c.length 0 (i64.wrap (10101+(((c.map byteRow).length:Nat):Int))) ak;refine⟨t.fst, ?_⟩;simp only[M.JZ,M.Vb];rw[show M.SB (c.map byteRow) (i64.wrap (10101+(((c.map byteRow).length:Nat):Int)),0)=some t from ht,ah]
def ayf(v:Int):[D.int IntKind.u8 (IntKind.u8.wrap v)]=byteRow (UInt8.ofNat (IntKind.u8.wrap v).toNat):=by
 have h:IntKind.u8.wrap v=v % 256:=by simp[IntKind.wrap,IntKind.bits,IntKind.signed]
 have h2:(UInt8.ofNat (v % 256).toNat).toNat=(v % 256).toNat:=by rw[UInt8.toNat_ofNat'];omega
 rw[byteRow,h,h2];congr 2;omega
def nxt(n:Nat)(hn:n<=1000000):i64.wrap (((n+1:Nat):Int) - 1)=(n:Int):=by rw[aJ ak ak];omega
section
variable {s:Cu} (h:ahp s)
include h
theorem apS(st:Int)(n:Nat)(hn:n<=100)(x:aC)(hx:x.length<=1000)(p:Nat):∃b,M.RF st (((n+1:Nat):Int),(cS s p).1,(cS s p).2.1,(cS s p).2.2,x.map byteRow)=some (.inl ((n:Int),(cS s (p+1)).1,(cS s (p+1)).2.1,(cS s (p+1)).2.2,(x++[b]).map byteRow)):=by
 have key:∀v:Int,x.map byteRow++[[D.int IntKind.u8 (IntKind.u8.wrap v)]]=(x++[UInt8.ofNat (IntKind.u8.wrap v).toNat]).map byteRow:=λv=>by rw[ayf,List.map_append];rfl
 simp only[yJ,M.RF,M.LK,byte_at h,ah,nxt n ak,zaW,GX,OT,key];rw[zdt ak,aH,Nat.ble_eq_true_of_le ak,Nat.ble_eq_true_of_le ak];cases st==1<;>cases st==2<;>exact⟨_,rfl⟩
theorem air(st:Int):∀(n:Nat) (x:aC) (p:Nat),x.length+n<=100->∃y q,M.Gv st ((n:Int),(cS s p).1,(cS s p).2.1,(cS s p).2.2,x.map byteRow)=some (0,(cS s q).1,(cS s q).2.1,(cS s q).2.2,List.map byteRow y)/\y.length<=100
 |0,x,p,hx=>by refine⟨x,p, ?_,ak⟩;rw[M.Gv];exact aV rfl
 |n+1,x,p,hx=>by obtain⟨b,hb⟩:=apS h st n ak x ak p;obtain⟨y,q,hy,hyl⟩:=air st n (x++[b]) (p+1) (by rw[Ai,Jj];omega);refine⟨y,q, ?_,hyl⟩;rw[M.Gv] at hy|-;rw[bY hb,hy]
theorem ayg(p:Nat):l9 (M.G9 3 (cS s p).1 (cS s p).2.1 (cS s p).2.2) s 100:=by have e4:=uV h p 4 ak ak;rw[show((4:Nat):Int)=4 from rfl] at e4;have e5:=uV h (p+1) 4 ak ak;rw[show((4:Nat):Int)=4 from rfl] at e5;have hm:=Nat.mod_lt (s.g (p+1)) (show 0<4 by omega);obtain⟨y,q,hy,hyl⟩:=air h ((s.g p % 4:Nat):Int) (s.g (p+1) % 4) [] (p+1+1) (by rw[OT];omega);rw[List.map_nil] at hy;simp only[M.G9,M.Tv,e4,ah,show i64.wrap (3+1)=4 from rfl,e5,hy,bytesOf_map];exact⟨y,q,rfl,hyl⟩
theorem alS{x:aC}(hx:x.length<=10000000000000000)(p:Nat):l9 (M.yE x (cS s p).1 (cS s p).2.1 (cS s p).2.2) s 20000000000000000:=by
 unfold M.yE M.Qj;refine l9.ite (λ_=>l9.bnd (ayg h p) λy q hy=>l9.done) λhz=> ?_
 have h0:x.length≠0:=by have:=Rf.1 hz;omega
 obtain⟨k,q,e,_,_,h1,h2⟩:=ax2 h p (x.length:Int) ak;have h3:k<x.length:=ak;obtain⟨j,rfl⟩:∃j:Nat,k=j:=⟨k.toNat,ak⟩
 have hj:j<x.length:=ak;rw[e,ah];have hw:i64.wrap ((j:Int)+1)=((j+1:Nat):Int):=by rw[aJ ak ak];omega
 have c1:cut x 0 (j:Int)=some (sub x 0 j):=JO (i:=0) ak ak;have c2:cut x ((j+1:Nat):Int) (x.length:Int)=some (sub x (j+1) x.length):=JO ak ak;have c3:cut x (j:Int) (x.length:Int)=some (sub x j x.length):=JO ak ak;have l1:=Vq (s:=x) (i:=0) (e:=j) ak ak;have l2:=Vq (s:=x) (i:=j+1) (e:=x.length) ak ak;have l3:=Vq (s:=x) (i:=j) (e:=x.length) ak ak;have e4:idx x (j:Int)=some x[j]:=by rw[cO,List.getElem?_eq_getElem hj]
 simp only[hw,c1,c2,c3,ah,e4];refine l9.below h (n:=4) ak ak λm q _=> ?_
 refine l9.ite (λ_=>l9.len (l9.done)) λ_=> ?_
 refine l9.ite (λ_=> ?_) λ_=> ?_
 ·rw[byte_at h,ah];exact l9.len (l9.len (l9.done))
 refine l9.ite (λ_=>l9.done) λ_=> ?_
 refine l9.below h (n:=255) ak ak λm q _=> ?_
 exact l9.len (l9.len (l9.done))
omit h
theorem alT(l:List Tk)(hl:l.length<=60)(hs:∀t,t∈l->rW t.text):∀(n i:Nat) (x:aC),i+n=l.length->x.length+101 * n<=1000000->∃y,M.Fp (aF l) (x,(i:Int))=some (y,(l.length:Int))/\y.length<=x.length+101 * n
 |0,i,x,hi,hx=>by refine⟨x, ?_,ak⟩;rw[M.Fp];refine aV ?_;simp only[M.Ob,M.IX,eH];rw[xK ak,bC,show i=l.length by omega]
 |n+1,i,x,hi,hx=>by
  have hlt:i<l.length:=ak;obtain⟨t,ht⟩:∃t,l[i]? =some t:=⟨l[i],by simp[hlt]⟩
  have htl:=hs t (UK ht);unfold rW at htl;have hw:i64.wrap ((i:Int)+1)=((i+1:Nat):Int):=by rw[aJ ak ak];omega
  have step:∃z,M.Ob (aF l) (x,(i:Int))=some (.inl (z,((i+1:Nat):Int)))/\z.length<=x.length+101:=by
   simp only[M.Ob,M.IX,eH,cO,pX,ht,MI,ah,cT1,hw];rw[zdt ak,aH]
   by_cases h0:i=0
   ·rw[xK ak,bC,Nat.ble_eq_true_of_le ak,aH];exact⟨_,rfl,by simp only[Ai];omega⟩
   ·have hp:i - 1<l.length:=ak;obtain⟨u,hu⟩:∃u,l[i - 1]? =some u:=⟨l[i - 1],by simp[hp]⟩
    have hul:=hs u (UK hu);unfold rW at hul;have hw2:i64.wrap ((i:Int) - 1)=((i - 1:Nat):Int):=by rw[aJ ak ak];omega
    rw[zdt ak,aH,hw2];simp only[cO,pX,hu,MI,ah,cT0,cT1,cT2,ht,YB u t ak ak];cases Ur u t with
    |true=>rw[aH,Nat.ble_eq_true_of_le ak,aH,Nat.ble_eq_true_of_le (by simp only[Ai,GX,OT];omega),aH];exact⟨_,rfl,by simp only[Ai,GX,OT];omega⟩
    |false=>rw[bC,Nat.ble_eq_true_of_le ak,aH];exact⟨_,rfl,by simp only[Ai];omega⟩
  obtain⟨z,hz,hzl⟩:=step;obtain⟨y,hy,hyl⟩:=alT l hl hs n (i+1) z ak ak;refine⟨y, ?_,ak⟩;rw[M.Fp] at hy|-;rw[bY hz,hy]
include h
theorem ate(p:Nat):l9 (M.Bo (cS s p).1 (cS s p).2.1 (cS s p).2.2) s 20000000000000000:=by
 obtain⟨l,q,e,hl,hk⟩:=au9 h p;obtain⟨y,hy,hyl⟩:=alT l hl (λt ht=>(hk t ht).2) l.length 0 [] ak (by rw[OT];omega);have hy':M.Fp (aF l) ([],0)=_:=hy;rw[OT] at hyl;unfold M.Bo M.Oc;simp only[e,ah,M.OC,M.Vj,hy'];refine l9.below h (n:=6) ak ak λm q _=> ?_
 refine l9.ite (λ_=>l9.bnd (alS h ak q) λz q hz=>l9.done hz) λ_=> ?_
 refine l9.ite (λ_=> ?_) λ_=>l9.done
 refine l9.pick h rfl λa q ha=>l9.len (l9.pick h rfl λb q hb=> ?_)
 exact l9.len (l9.done)
theorem ayh(p:Nat):l9 (M.D7 (cS s p).1 (cS s p).2.1 (cS s p).2.2) s 20000000000000000:=by
 unfold M.D7 M.Tz;refine l9.below h (n:=8) ak ak λm q _=> ?_
 refine l9.ite (λ_=>l9.bnd (agw h q) λx q hx=>l9.bnd (alS h (x:=x) ak q) λy q hy=>l9.done hy) λ_=> ?_
 refine l9.ite (λ_=>l9.bnd (ate h q) λx q hx=>l9.done hx) λ_=> ?_
 exact l9.bnd (agw h q) λx q hx=>l9.done
end
def apT(code:aC)(hl:code.length<=1048576):∃x,M.yO (code.map byteRow)=some x:=by
 obtain⟨g,hg⟩:=aJl code hl;have hs:ahp ⟨code,0,g⟩:=⟨Nat.zero_le _,hl⟩
 obtain⟨x,q,e,hx⟩:=ayh hs 0;have e1:M.D7 (code.map byteRow) 0 g=some (x,cS ⟨code,0,g⟩ q):=e;simp only[M.yO,M.LM,hg,ah,e1];exact⟨x,rfl⟩
def aoo{b:Int->Option (Int⊕(Unit⊕Int))}(n:Nat)(hn:n<=1048576)(hs:∀i,i<n->b (i:Int)=some (.inl (i64.wrap ((i:Int)+1))))(he:b (n:Int)=some (.inr (.inr (n:Int)))):fV b 0=some (.inr (n:Int)):=
 uJ (b:=b) (t:=(Sum.inr (n:Int):Unit⊕Int)) (λi=>(i:Int)) n (λi hi=>by rw[hs i hi,aJ ak ak];rfl) he 0 (Nat.zero_le _)
def ayi(a:List Int)(ha:a.length<=1048576):M.Hf (encI a) (encI a)=some true:=by
 have h:=aoo (b:=M.L9 (encI a) (encI a)) a.length ha (λi hi=>by
  obtain⟨x,hx⟩:∃x,a[i]? =some x:=⟨a[i],by simp[hi]⟩
  simp only[M.L9,M.GK,dV,cO,zO,hx,MI,ah,YV,bne_self_eq_false,beq_self_eq_true,zaU,bC];rw[zdt ak];rfl) (by
  simp only[M.L9,M.GK,dV];rw[xK ak];rfl)
 simp only[M.Hf,M.TN,bne_self_eq_false,bC,M.QI,h,ah];rfl
def aop(a:List Nd)(ha:a.length<=1048576)(hk:∀n,n∈a->n.kids.length<=1048576):M.yF (dQ false a) (dQ false a)=some true:=by
 have h:=aoo (b:=M.Io (dQ false a) (dQ false a)) a.length ha (λi hi=>by
  obtain⟨x,hx⟩:∃x,a[i]? =some x:=⟨a[i],by simp[hi]⟩
  simp only[M.Io,M.CY,jd,cO,qW,hx,MI,ah,XK,YF,YG,YH,VN,ayi x.kids (hk x (UK hx)),bne_self_eq_false,beq_self_eq_true,zaU,bC,aH,ah];rw[zdt ak];rfl) (by
  simp only[M.Io,M.CY,jd];rw[xK ak];rfl)
 simp only[M.yF,M.Oq,bne_self_eq_false,bC,M.Mc,h,ah];rfl
def atf{k:Int}(h1:1<=k)(h2:k<=4):∃w,M.BO k=some w/\(w==[])=false:=by have:k=1\/k=2\/k=3\/k=4:=ak;rcases this with rfl|rfl|rfl|rfl<;>exact⟨_,rfl,rfl⟩
def ava(c:aC):M.Fg (c.map byteRow)=some true:=by
 simp only[M.Fg,M.Ou,M.VQ,M.Y0,ah,zaW]
 by_cases hc:c.length<=1048576
 ·rw[xK ak,bC];obtain⟨s,hs⟩:=apT c hc;obtain⟨q,k,p,hp,hr⟩:=aEJ s;have hL:=aA7 s;have e0:dQ true []=[]:=rfl;simp only[hs,hp,hL.1,ah];cases hr with
  |lex h=>have h':((GY s).2.1==0)=false:=Rf.2 h;simp only[bne,h',Bool.not_false,beq_self_eq_true,aH,e0,OT];rfl
  |bad h h2 a1 a2 a3 a4=>have hk:(k==0)=false:=Rf.2 ak;obtain⟨w,w1,w2⟩:=atf a1 a2;have pu:[[D.sl true 5 []],[D.int .i64 k,D.int .i64 p]].all gI=true:=alx [] k p;have x1':M.yF (aB []) (aB [])=some true:=aop [] (by simp) (by simp);simp only[bne,h,h2,e0,ah,pu,x1',hk,beq_self_eq_true,zaU,Bool.not_false,aH,bC,OT,w1,w2,zdt (show p>=0 from a3),zdt a4];rfl
  |ok h htk h2 hpg hz ht hsm=>
   rename_i L j nt;have hS:=(apA (.mk 45 0 [] [] L) 0).1 hsm;have hl:((Tn.mk 45 0 [] [] L).flat 0).length<=1048576:=by rw[Tn.flat_length];omega
   have hkk:∀n,n∈(Tn.mk 45 0 [] [] L).flat 0->n.kids.length<=1048576:=λn hn=>by have:=(Vw _ 0 n hn).1;omega
   have x1:=aop ((Tn.mk 45 0 [] [] L).flat 0) hl hkk;have p1:=agi _ false hl hkk hS;have p2:=agj _ false hl hkk hS;rw[aEK ht] at p1 p2;simp only[bne,h,h2,ah,alx,afz,x1,p1,p2,beq_self_eq_true,zaU,Bool.not_false,aH,bC]
 ·rw[zdt ak,aH]
end Go.Proofs.YtflhkdjglihbmaaGreatDoor
namespace Go.Proofs
open Go.Shelf
def Tryz.lays137_ren:Go.Shelf.Ren:=⟨fun|137=>114|217=>159|266=>181|n=>n,fun|9=>9|5=>5|3=>3|n=>n,fun|n=>n⟩
def Tryz.lays137:Go.Proofs.Lays.n137 Tryz.prog Tryz.lays137_ren:={
 mixed:=by kernel_rfl
 f137:=Tryz.func114.trans (congrArg some (by kernel_rfl))
 f217:=Tryz.func159.trans (congrArg some (by kernel_rfl))
 f266:=Tryz.func181.trans (congrArg some (by kernel_rfl))
 t3:=Tryz.underlying3
 a3:=Tryz.isAgg3
 z3:=Tryz.sizeOf3
 v3:=Tryz.zeroValue3
 t5:=Tryz.underlying5
 a5:=Tryz.isAgg5
 z5:=Tryz.sizeOf5
 v5:=Tryz.zeroValue5
 t9:=Tryz.underlying9
 a9:=Tryz.isAgg9
 z9:=Tryz.sizeOf9
 v9:=Tryz.zeroValue9}
def Tryz.lays144_ren:Go.Shelf.Ren:=⟨fun|144=>127|143=>165|219=>183|217=>159|225=>194|224=>195|267=>196|266=>181|314=>221|n=>n,fun|9=>9|4=>4|3=>3|5=>5|46=>103|146=>168|51=>167|n=>n,fun|1=>3|n=>n⟩
def Tryz.lays144:Go.Proofs.Lays.n144 Tryz.prog Tryz.lays144_ren:={
 mixed:=by kernel_rfl
 f143:=Tryz.func165.trans (congrArg some (by kernel_rfl))
 f144:=Tryz.func127.trans (congrArg some (by kernel_rfl))
 f217:=Tryz.func159.trans (congrArg some (by kernel_rfl))
 f219:=Tryz.func183.trans (congrArg some (by kernel_rfl))
 f224:=Tryz.func195.trans (congrArg some (by kernel_rfl))
 f225:=Tryz.func194.trans (congrArg some (by kernel_rfl))
 f266:=Tryz.func181.trans (congrArg some (by kernel_rfl))
 f267:=Tryz.func196.trans (congrArg some (by kernel_rfl))
 f314:=Tryz.func221.trans (congrArg some (by kernel_rfl))
 t3:=Tryz.underlying3
 a3:=Tryz.isAgg3
 z3:=Tryz.sizeOf3
 v3:=Tryz.zeroValue3
 t4:=Tryz.underlying4
 a4:=Tryz.isAgg4
 z4:=Tryz.sizeOf4
 v4:=Tryz.zeroValue4
 t5:=Tryz.underlying5
 a5:=Tryz.isAgg5
 z5:=Tryz.sizeOf5
 v5:=Tryz.zeroValue5
 t9:=Tryz.underlying9
 a9:=Tryz.isAgg9
 z9:=Tryz.sizeOf9
 v9:=Tryz.zeroValue9
 t46:=Tryz.underlying103
 a46:=Tryz.isAgg103
 z46:=Tryz.sizeOf103
 v46:=Tryz.zeroValue103
 t51:=Tryz.underlying167
 a51:=Tryz.isAgg167
 z51:=Tryz.sizeOf167
 v51:=Tryz.zeroValue167
 t146:=Tryz.underlying168
 a146:=Tryz.isAgg168
 z146:=Tryz.sizeOf168
 v146:=Tryz.zeroValue168
 g1:=by kernel_rfl}
open Go.RowKit in
def Tryz.strings_IndexByte(s:ByteArray)(c:Int)(w:World):
  Calls Tryz.prog 114 #[.string s,.int .u8 c] w λe w'=>e=.returned (.int .i64 (Lib.indexByte s.data.toList c.toNat.toUInt8))/\w'=w:=Any.strings_IndexByte Tryz.lays137 s c w
open Go.RowKit Go.Lib in
def Tryz.strings_Contains_one(s:ByteArray)(c:UInt8)(w:World):
  Calls Tryz.prog 127 #[.string s,.string ⟨#[c]⟩] w λe w'=>e=.returned (.bool (decide (0<=Lib.indexByte s.data.toList c)))/\w'=w:=Any.strings_Contains_one Tryz.lays144 s c w
end Go.Proofs
namespace Go.Proofs.YtflhkdjglihbmaaGreatDoor
open Go Go.Vm
def aiR{X:Ctx}(hP:X.P=Tryz.prog)(hm:∀i,i<2->Ox X.U4 127 i=0)(fn:Func)(args:List V)(cells:List Cell)(rows:au)(outs:List Cell)(hf:X.P.funcs[127]? =some fn)(h:Prim.strings_Contains args cells=some (rows,outs))
  (base:Nat) (U:Nat->Prop) (w:World) (gargs lX:List Value) (N1 N2:List Nat) (hG:Given X base U w 127 args cells gargs lX N1 N2):
  Calls X.P 127 gargs.toArray w λe w'=>∃gs M1 M2,e=.returned (agH gs)/\Did X.P U w w' (N1++N2) fn.resultTypes.toList cells outs lX rows gs M1 M2:=by
 unfold Prim.strings_Contains at h;split at h
 ·rename_i s t;unfold M.strings_Contains at h;split at h
  ·rename_i c;cases h;obtain⟨rfl,rfl,rfl,hs⟩:=aqm hG hm;rw[atQ hs];rw[hP] at hf|-;have hfn:fn.resultTypes.toList=[4]:=by rw[Tryz.func127] at hf;cases hf;rfl
   refine(Tryz.strings_Contains_one ⟨⟨s⟩⟩ c w).mono ?_;rintro e w' ⟨rfl,rfl⟩;rw[hfn];exact⟨[_],[],[],rfl,akd (by kernel_rfl) (by kernel_rfl) (λ_ _=>⟨rfl,rfl⟩) (Keep.refl _ _)⟩
  ·cases h
 ·cases h
def ahs{X:Ctx}(hP:X.P=Tryz.prog)(hm:∀i,i<2->Ox X.U4 114 i=0)(fn:Func)(args:List V)(cells:List Cell)(rows:au)(outs:List Cell)(hf:X.P.funcs[114]? =some fn)(h:Prim.strings_IndexByte args cells=some (rows,outs))
  (base:Nat) (U:Nat->Prop) (w:World) (gargs lX:List Value) (N1 N2:List Nat) (hG:Given X base U w 114 args cells gargs lX N1 N2):
  Calls X.P 114 gargs.toArray w λe w'=>∃gs M1 M2,e=.returned (agH gs)/\Did X.P U w w' (N1++N2) fn.resultTypes.toList cells outs lX rows gs M1 M2:=by
 unfold Prim.strings_IndexByte at h;split at h
 ·rename_i s b;unfold M.strings_IndexByte at h;cases h;obtain⟨rfl,rfl,rfl,hs⟩:=aqm hG hm;have hg:gargs=[.string ⟨⟨s⟩⟩,.int .u8 b]:=by simp only[dH,aZ,ro] at hs;obtain⟨g,gs,rfl,rfl,g',gs',rfl,rfl,rfl⟩:=hs;rfl
  rw[hg];rw[hP] at hf|-;have hfn:fn.resultTypes.toList=[3]:=by rw[Tryz.func114] at hf;cases hf;rfl
  refine(Tryz.strings_IndexByte ⟨⟨s⟩⟩ b w).mono ?_;rintro e w' ⟨rfl,rfl⟩;rw[hfn];exact⟨[_],[],[],rfl,akd (by kernel_rfl) (by kernel_rfl) (λ_ _=>⟨rfl,rfl⟩) (Keep.refl _ _)⟩
 ·cases h
open Go Go.Vm Go.RowKit
set_option maxRecDepth 100000 in
def avb{n:Nat}{row:Row}(h:tyD Tryz.prog (n+2) 22 row):∃c:aC,row=[.sl false 1 (c.map byteRow)]/\c.length<=maxLen:=by
 obtain⟨rows,rfl,hl,hr⟩:=aGs Tryz.underlying22 h;obtain⟨c,rfl,_⟩:=aqp (f:=byteRow) (p:=λ_=>True) (λr hr'=>by
  obtain⟨x,rfl,hx⟩:=aCm Tryz.underlying5 (hr r hr');have h':0<=x/\x<=255:=by simp[Lit.wf,IntKind.min,IntKind.max,IntKind.signed,IntKind.bits] at hx;omega
  refine⟨UInt8.ofNat x.toNat, ?_,trivial⟩;rw[byteRow,UInt8.toNat_ofNat'];congr 2;omega)
 exact⟨c,rfl,by simpa using hl⟩
def aJm:aoF X0:=by
 intro f p fn args cells rows outs hx hf hb h base U w gargs lX N1 N2 hG;have hx':(bif Nat.beq f 98 then some Prim.lK else bif Nat.beq f 114 then some Prim.strings_IndexByte else bif Nat.beq f 127 then some Prim.strings_Contains else none)=some p:=hx;cases hq:Nat.beq f 98 with
 |true=>rw[hq] at hx';cases hx';have e:=I5 hq;subst e;exact al5 rfl (by decide) fn args cells rows outs hf h base U w gargs lX N1 N2 hG
 |false=>
 rw[hq,bC] at hx';cases hq:Nat.beq f 114 with
 |true=>rw[hq] at hx';cases hx';have e:=I5 hq;subst e;exact ahs rfl (by decide) fn args cells rows outs hf h base U w gargs lX N1 N2 hG
 |false=>
 rw[hq,bC] at hx';cases hq:Nat.beq f 127 with
 |true=>rw[hq] at hx';cases hx';have e:=I5 hq;subst e;exact aiR rfl (by decide) fn args cells rows outs hf h base U w gargs lX N1 N2 hG
 |false=>rw[hq] at hx';cases hx'
def own:ownKnob Tryz.prog.godebug=none:=by kernel_rfl
def laidOut:laidOutB Tryz.prog=true:=by kernel_rfl
def gK : Tryz.prog.globalNamed "loop.example/g01543/impl.keywords" = some 2 := by kernel_rfl
def gS : Tryz.prog.globalNamed "loop.example/g01543/impl.signs" = some 0 := by kernel_rfl
def gB : Tryz.prog.globalNamed "loop.example/g01543/impl.builtins" = some 1 := by kernel_rfl
def tK:(Tryz.prog.globals[2]?).map (·.type)=some 133:=by kernel_rfl
def tS:(Tryz.prog.globals[0]?).map (·.type)=some 130:=by kernel_rfl
def tB:(Tryz.prog.globals[1]?).map (·.type)=some 132:=by kernel_rfl
def c9:Tryz.prog.cellsOf 9=1:=by kernel_rfl
def dK:(Rows.laid_loop_example_g01543_impl_keywords:DataW Unit)=.agg (Y6.map λs=> .lit (.string s)):=by kernel_rfl
def dS:(Rows.laid_loop_example_g01543_impl_signs:DataW Unit)=.agg (UD.map λs=> .lit (.string s)):=by kernel_rfl
def dB:(Rows.laid_loop_example_g01543_impl_builtins:DataW Unit)=.agg (ar0.map λs=> .lit (.string s)):=by kernel_rfl
def rK:G7=Y6.map D.str:=by kernel_rfl
def rS:VP=UD.map D.str:=by kernel_rfl
def rB:OX=ar0.map D.str:=by kernel_rfl
def ayj{W:World}(hL:laidMetH Tryz.prog Rows.fnParsedRow.laid W)(hS:W.ShapedOpen Tryz.prog):ajt X0 (full W):=by
 rw[MakeChecks.laidMetH_plain _ _ _ (by kernel_rfl)] at hL;obtain⟨ps,⟨g0,t0,cs0,f0,p0,q0,hg0,ht0,hv0,hd0,⟨g1,t1,cs1,f1,p1,q1,hg1,ht1,hv1,hd1,⟨g2,t2,cs2,f2,p2,q2,hg2,ht2,hv2,hd2,_,_⟩,_⟩,_⟩,_,_⟩:=hL;obtain rfl:=Option.some.inj (gK.symm.trans hg0);obtain rfl:=Option.some.inj (gS.symm.trans hg1);obtain rfl:=Option.some.inj (gB.symm.trans hg2);obtain rfl:=Option.some.inj (tK.symm.trans ht0);obtain rfl:=Option.some.inj (tS.symm.trans ht1);obtain rfl:=Option.some.inj (tB.symm.trans ht2);rw[dK] at hd0;rw[dS] at hd1;rw[dB] at hd2;refine⟨λg row h=> ?_,λg h=> ?_⟩
 ·have h':(bif Nat.beq g 1 then some OX else bif Nat.beq g 2 then some G7 else bif Nat.beq g 0 then some VP else none)=some row:=h;cases hq:Nat.beq g 1 with
  |true=>rw[hq] at h';cases h';have e:=I5 hq;subst e;rw[rB];exact agR Tryz.underlying132 Tryz.underlying9 c9 hg2 hv2 hd2
  |false=>
  rw[hq,bC] at h';cases hq:Nat.beq g 2 with
  |true=>rw[hq] at h';cases h';have e:=I5 hq;subst e;rw[rK];exact agR Tryz.underlying133 Tryz.underlying9 c9 hg0 hv0 hd0
  |false=>
  rw[hq,bC] at h';cases hq:Nat.beq g 0 with
  |true=>rw[hq] at h';cases h';have e:=I5 hq;subst e;rw[rS];exact agR Tryz.underlying130 Tryz.underlying9 c9 hg1 hv1 hd1
  |false=>rw[hq] at h';cases h'
 ·have h':(bif Nat.beq g 3 then true else false)=true:=h;cases hq:Nat.beq g 3 with
  |false=>rw[hq] at h';cases h'
  |true=>have e:=I5 hq;subst e;exact Go.Proofs.cell_of_shapedOpen_int (zero:=#[.int .i64 0]) hS (of_decide_eq_true (by kernel_rfl)) (by kernel_rfl) rfl (by kernel_rfl) (by kernel_rfl) Tryz.underlying3
end Go.Proofs.YtflhkdjglihbmaaGreatDoor
