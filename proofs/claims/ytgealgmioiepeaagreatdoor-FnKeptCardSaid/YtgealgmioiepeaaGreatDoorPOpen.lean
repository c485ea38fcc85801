import Derived.Test.YtgealgmioiepeaaGreatDoorXLex
import Derived.Shelf.Small.Strs
import Derived.Shelf.Strings.Search1
import Derived.Shelf.Strings.Search2
import Derived.Shelf.Strings.Search3
import Derived.Shelf.LaysM
import Derived.Shelf.Strings.Shaped
import Derived.Test.YtgealgmioiepeaaGreatDoorProg
import Derived.Test.YtgealgmioiepeaaGreatDoorRows
set_option linter.defProp false
set_option linter.unusedVariables false
set_option linter.unusedSimpArgs false
set_option linter.unusedSectionVars false
open Go.IntKind (i64)
namespace Go.Proofs.YtgealgmioiepeaaGreatDoor
open Go Go.Vm
open Int (reduceLE reduceLT reduceSub reduceAdd)
def alI(s:aC)(i:Nat)(k e:Int):Option zaz:=bif decide (e<0) then none else some (k,sub s i e.toNat)
def arX(s:aC)(i:Nat):Option zaz:=bif Ju (sub s i (OT s i)) then some (ahT s (sub s i (OT s i)) (OT s i),sub s i (OT s i)) else none
def opT(s:aC)(i:Nat):Option zaz:=bif opK s i==0 then none else some (opK s i,sub s i (i+opN s i))
def adW(s:aC)(i:Nat):Option zaz:=bif isL (qx s i) then arX s i else opT s i
def FX(s:aC)(i:Nat)(bf:Int):Option zaz:=
 bif qx s i==10 then some (1,[10]) else bif qx s i==35 then some (2,sub s i (abK s i)) else bif isD (qx s i) then alI s i 3 (Wi s i) else bif qx s i==46 then alI s i 3 (Wi s i) else
 bif qx s i==34 then alI s i 4 (quoted s i 34) else bif qx s i==47 then(bif !(XI bf) then alI s i 5 (XC s i) else adW s i) else adW s i
def at6(i j:Int):Option zaz->Int×aC×Int
 |none=>(0,[],j)
 |some p=>(p.1,p.2,i)
def arY(c:UInt8):∀l:aC,(Lib.indexByte l c<0/\(l.takeWhile λx=> !(x==c)).length=l.length)\/Lib.indexByte l c=((l.takeWhile λx=> !(x==c)).length:Int)
 |[]=> .inl ⟨by rw[Lib.indexByte];omega,rfl⟩
 |b::l=>by
  have ih:=arY c l;rw[Lib.indexByte,List.takeWhile_cons];cases hb:b==c with
  |true=>right;simp
  |false=>
   simp only[Bool.not_false,if_true,Bool.false_eq_true,if_false,Pq];have hge:=Lib.indexByte_ge l c;rcases ih with⟨h1,h2⟩|h
   ·left;have:Lib.indexByte l c= -1:=au;rw[this,h2];exact⟨by decide,rfl⟩
   ·right;rw[h];have:((((l.takeWhile λx=> !(x==c)).length:Nat):Int)== -1)=false:=QV.2 au;rw[this];simp
section
variable {s:aC} (hs:s.length<=1048576) {i:Nat} (hi:i<s.length) (bf:Int)
include hs hi
omit hs hi in
theorem ab1{k e:Int}{j:Int}(h:e<0\/((i:Int)<e/\e<=s.length)):(bif decide (e<0) then some ((0:Int),([]:aC),j) else(cut s (i:Int) e).bind λw=>some (k,w,(i:Int)))=some (at6 i j (alI s i k e)):=by
 unfold alI;rcases h with h|⟨h1,h2⟩
 ·rw[zdt h,aH,aH];rfl
 ·rw[xE au,bG,bG];obtain⟨n,rfl⟩:=Int.eq_ofNat_of_zero_le (show 0<=e by omega);rw[Kq au au,ah,ztn];rfl
theorem axj:((M.mO (qx s i)).bind λr=>bif r then(M.AU s (i:Int)).bind λe=>(cut s (i:Int) e).bind λw=>(M.qG w).bind λq=>bif q then(M.wo s (i:Int) e).bind λt=>some (t.fst,t.snd.fst,t.snd.snd) else some (0,[],0)
  else(M.LD s (i:Int)).bind λr=>bif r.fst==0 then some (0,[],0) else bif decide (i64.wrap ((i:Int)+r.snd)<0) then some (0,[],0) else(cut s (i:Int) (i64.wrap ((i:Int)+r.snd))).bind λw=>some (r.fst,w,(i:Int)))=some (at6 i 0 (adW s i)):=by
 unfold adW;rw[(O9 _).2,ah];cases hL:isL (qx s i) with
 |true=>
  have hw:=aoE (Nat.le_of_lt hi);have hle:i<=OT s i:=by unfold OT;omega
  have hne:=(akV hs (Nat.le_of_lt hi) hL).2;have hwd:=(avA hs hle hw).2;have hns:=(Y4 (sub s i (OT s i)) (by rw[Vu hle hw];omega)).2;simp only[aH,hne,ah,Kq hle hw,hns,hwd,arX];cases Ju (sub s i (OT s i))<;>rfl
 |false=>
  have hop:=aoH s i hi au;have hln:=at1 (Nat.le_of_lt hi);have hw:i64.wrap ((i:Int)+(opN s i:Int))=((i+opN s i:Nat):Int):=by rw[aJ au au];omega
  simp only[bG,hop,ah,hw,opT];rw[xE au,Kq au hln];cases opK s i==0<;>rfl
theorem axk:((M.mM (qx s i)).bind λr=>bif r then(M.AX s (i:Int)).bind λe=>(M.Ei s (i:Int) e).bind λt=>(M.qE t.snd.fst).bind λq=>bif !q then some (0,[],(i:Int)) else some (t.fst,t.snd.fst,t.snd.snd)
  else(M.zy s (i:Int)).bind λr=>bif r.snd==0 then some (0,[],(i:Int)) else bif decide (i64.wrap ((i:Int)+r.snd)<0) then some (0,[],(i:Int)) else(cut s (i:Int) (i64.wrap ((i:Int)+r.snd))).bind λw=>some (r.fst,w,(i:Int)))=some (at6 i i (adW s i)):=by
 unfold adW;rw[(O9 _).1,ah];cases hL:isL (qx s i) with
 |true=>
  have hw:=aoE (Nat.le_of_lt hi);have hle:i<=OT s i:=by unfold OT;omega
  have hne:=(akV hs (Nat.le_of_lt hi) hL).1;have hwd:=(avA hs hle hw).1;have hns:=(Y4 (sub s i (OT s i)) (by rw[Vu hle hw];omega)).1;simp only[aH,hne,ah,hns,hwd,arX];cases Ju (sub s i (OT s i))<;>rfl
 |false=>
  have hop:=aoI s i hi au;have hln:=at1 (Nat.le_of_lt hi);have hz:=avz s i;have hw:i64.wrap ((i:Int)+(opN s i:Int))=((i+opN s i:Nat):Int):=by rw[aJ au au];omega
  simp only[bG,hop,ah,hw,opT];rw[xE au,Kq au hln];rcases hz with⟨h1,h2⟩|⟨h1,h2⟩
  ·rw[h1,h2];rfl
  ·have e1:(opK s i==0)=false:=QV.2 au;have e2:((opN s i:Int)==0)=false:=QV.2 au;rw[e1,e2];rfl
theorem at7:M.AV s (i:Int) bf=some (at6 i 0 (FX s i bf)):=by
 obtain⟨c,hc⟩:∃c,s[i]? =some c:=⟨s[i],by simp[hi]⟩
 have hb:qx s (i:Int)=(c.toNat:Int):=by rw[IW,hc]
 have hR:=axj hs hi;have hw1:i64.wrap ((i:Int)+1)=((i+1:Nat):Int):=by rw[aJ au au];omega
 have hnum:=abx hs (i:Int) au;have hstr:=(agR hs (i:Int) au au).2;have here:=(agS hs (i:Int) au au).2;have c3:=ab1 (s:=s) (i:=i) (j:=0) (k:=3) (Vw hs hi);have c4:=ab1 (s:=s) (i:=i) (j:=0) (k:=4) (Vx (q:=34) hi);have c5:=ab1 (s:=s) (i:=i) (j:=0) (k:=5) (ag4 hi);simp only[M.AV,M.Qv,M.Ou,bZ,hc,ah,afS,<-hb,ako,hnum,hstr,here,(abL bf).2,c3,c4,c5];unfold FX;cases h10:qx s i==10 with
 |true=>
  have a0Z:c=10:=by rw[hb,beq_iff_eq] at h10;have h9:c.toNat=10:=au;exact UInt8.toNat_inj.1 (by rw[h9];rfl)
  rw[aH,aH,hw1,xE au,bG,Kq au au,ah,sub,show i+1 - i=1 by omega,List.drop_eq_getElem_cons hi,(Po.1 hc).2,a0Z];rfl
 |false=>
 rw[bG,bG];cases h35:qx s i==35 with
 |true=>
  have hcl:=aoF (Nat.le_of_lt hi);have hix:M.strings_IndexByte (s.drop i) 10=some (Lib.indexByte (s.drop i) 10):=rfl;rw[aH,aH,Kq (Nat.le_of_lt hi) (zaX _),ah,aoD,hix,ah];rcases arY 10 (s.drop i) with⟨h1,h2⟩|h1
  ·rw[xE au,bG,ah];have:abK s i=s.length:=by unfold abK;rw[h2,List.length_drop];omega
   rw[this,aoD];rfl
  ·have hce:((i:Int)+Lib.indexByte (s.drop i) 10)=((abK s i:Nat):Int):=by rw[h1];unfold abK;omega
   rw[hce,h1,zdt au,aH,aJ au au,xE au,bG,Kq (by unfold abK;omega) hcl,ah];rfl
 |false=>
 rw[bG,bG];cases isD (qx s i) with
 |true=>rfl
 |false=>
 rw[bG,bG];cases qx s i==46 with
 |true=>rfl
 |false=>
 rw[bG,bG];cases qx s i==34 with
 |true=>rfl
 |false=>
 rw[bG,bG];cases qx s i==47 with
 |true=>
  rw[aH,aH];cases XI bf with
  |false=>rfl
  |true=>exact hR
 |false=>exact hR
omit hi in
theorem aAt(x y:Int)(a b:aC)(u v w:Int):∀(n j:Nat),s.length - j<=n->j<=s.length->M.xB s x y a u v b w (j:Int)=some ((abK s j:Nat):Int):=by
 intro n;induction n with
 |zero=>
  intro j hn hj;have e:j=s.length:=au;subst e;rw[M.xB];refine aV ?_;simp only[M.EY,M.zH];rw[xE au,bG];have:abK s s.length=s.length:=by unfold abK;simp
  rw[this]
 |succ n ih=>
  intro j hn hj
  by_cases hlt:j<s.length
  ·obtain⟨c,hc⟩:∃c,s[j]? =some c:=⟨s[j],by simp[hlt]⟩
   have hst:=ank hc;have hcc:((c.toNat:Int) !=10)= !(c==10):=by have:=aFo c 10 au;simp only[bne];exact congrArg (!·) this
   cases h10:c==10 with
   |true=>rw[h10,aH] at hst;rw[M.xB];refine aV ?_;simp only[M.EY,M.zH,bZ,hc,ah,hcc,h10,zaW];rw[zdt au,aH,bG,hst]
   |false=>
    rw[h10,bG] at hst;have hb:M.EY s x y a u v b w (j:Int)=some (.inl ((j+1:Nat):Int)):=by simp only[M.EY,M.zH,bZ,hc,ah,hcc,h10,Bool.not_false];rw[zdt au,aH,aH,aJ au au];rfl
    have:=ih (j+1) au au;rw[M.xB] at this;rw[M.xB,bQ hb,this,hst]
  ·exact ih j au hj
theorem axl:M.Ej s (i:Int) (!(XI bf))=some (at6 i i (FX s i bf)):=by
 obtain⟨c,hc⟩:∃c,s[i]? =some c:=⟨s[i],by simp[hi]⟩
 have hb:qx s (i:Int)=(c.toNat:Int):=by rw[IW,hc]
 have hR:=axk hs hi;have hnum:=aby hs (i:Int) au;have hstr:=(agR hs (i:Int) au au).1;have here:=(agS hs (i:Int) au au).1;have c3:=ab1 (s:=s) (i:=i) (j:=(i:Int)) (k:=3) (Vw hs hi);have c4:=ab1 (s:=s) (i:=i) (j:=(i:Int)) (k:=4) (Vx (q:=34) hi);have c5:=ab1 (s:=s) (i:=i) (j:=(i:Int)) (k:=5) (ag4 hi);have hcl:=aoF (Nat.le_of_lt hi);have hcm:=aAt hs (i:Int) 0 [] [] 0 0 (i:Int) _ i (zaX _) (Nat.le_of_lt hi);simp only[M.Ej,M.TS,M.QK,bZ,hc,ah,afS,<-hb,akn,hnum,hstr,here,c3,c4,c5,hcm];unfold FX;cases h10:qx s i==10 with
 |true=>rfl
 |false=>
 rw[bG,bG];cases h35:qx s i==35 with
 |true=>rw[aH,aH,xE au,bG,Kq (by unfold abK;omega) hcl,ah];rfl
 |false=>
 rw[bG,bG];cases isD (qx s i) with
 |true=>rfl
 |false=>
 rw[bG,bG];cases qx s i==46 with
 |true=>rfl
 |false=>
 rw[bG,bG];cases qx s i==34 with
 |true=>rfl
 |false=>
 rw[bG,bG];cases qx s i==47 with
 |true=>
  rw[aH,aH];cases XI bf with
  |false=>rfl
  |true=>exact hR
 |false=>exact hR
theorem OU{k:Int}{w:aC}(h:FX s i bf=some (k,w)):k≠0/\1<=w.length/\i+w.length<=s.length:=by
 obtain⟨c,hc⟩:∃c,s[i]? =some c:=⟨s[i],by simp[hi]⟩
 have hb:qx s (i:Int)=(c.toNat:Int):=by rw[IW,hc]
 have hE:∀{k' e:Int},k'≠0->(e<0\/((i:Int)<e/\e<=s.length))->alI s i k' e=some (k,w)->k≠0/\1<=w.length/\i+w.length<=s.length:=by
  intro k' e hk he hx;unfold alI at hx;rcases he with he|⟨h1,h2⟩
  ·rw[zdt he] at hx;cases hx
  ·rw[xE au,bG] at hx;cases hx;rw[Vu au au];exact⟨hk,au,au⟩
 have hR:adW s i=some (k,w)->k≠0/\1<=w.length/\i+w.length<=s.length:=by
  intro hx;unfold adW at hx;cases hL:isL (qx s i) with
  |true=>
   rw[hL,aH] at hx;unfold arX at hx;cases hn:Ju (sub s i (OT s i)) with
   |false=>rw[hn] at hx;cases hx
   |true=>
    rw[hn,aH] at hx;cases hx;have hw:=aoE (Nat.le_of_lt hi);have hle:i<=OT s i:=by unfold OT;omega
    have hst:=ag3 hc;rw[<-hb,show isW (qx s i)=true by unfold isW;rw[hL];rfl,aH] at hst;have:i+1<=OT s i:=by rw[hst];unfold OT;omega
    rw[Vu hle hw];exact⟨aAs _ _ _,au,au⟩
  |false=>
   rw[hL,bG] at hx;unfold opT at hx;cases hz:opK s i==0 with
   |true=>rw[hz] at hx;cases hx
   |false=>rw[hz,bG] at hx;cases hx;rw[QV] at hz;have h0:=avz s i;have hln:=at1 (Nat.le_of_lt hi);rw[Vu au hln];exact⟨hz,au,au⟩
 unfold FX at h;cases h10:qx s i==10 with
 |true=>rw[h10,aH] at h;cases h;exact⟨by decide,by simp,by simp;omega⟩
 |false=>
 rw[h10,bG] at h;cases h35:qx s i==35 with
 |true=>
  rw[h35,aH] at h;cases h;have hcl:=aoF (Nat.le_of_lt hi);have hst:=ank hc;have hn:(c==10)=false:=n10' (by rw[<-hb];rw[QV] at h10;exact h10);rw[hn,bG] at hst;have:i+1<=abK s i:=by rw[hst];unfold abK;omega
  rw[Vu au hcl];exact⟨by decide,au,au⟩
 |false=>
 rw[h35,bG] at h;cases hD:isD (qx s i) with
 |true=>rw[hD,aH] at h;exact hE (by decide) (Vw hs hi) h
 |false=>
 rw[hD,bG] at h;cases h46:qx s i==46 with
 |true=>rw[h46,aH] at h;exact hE (by decide) (Vw hs hi) h
 |false=>
 rw[h46,bG] at h;cases h34:qx s i==34 with
 |true=>rw[h34,aH] at h;exact hE (by decide) (Vx hi) h
 |false=>
 rw[h34,bG] at h;cases h47:qx s i==47 with
 |true=>
  rw[h47,aH] at h;cases he:XI bf with
  |false=>rw[he,Bool.not_false,aH] at h;exact hE (by decide) (ag4 hi) h
  |true=>rw[he,zaW,bG] at h;exact hR h
 |false=>rw[h47,bG] at h;exact hR h
end
def arZ(l:List Tk):aj (aF l)=true:=by simp[aj,aF,ah3,D.flat]
def WB(s:aC):Nat->Nat->Int->List Tk->List Tk⊕Nat
 |0,_,_,acc=> .inl acc
 |f+1,i,bf,acc=>bif Nat.ble s.length i then .inl acc else bif afT (qx s i) then WB s f (i+1) bf acc else
  bif qx s i==92 && qx s ((i+1:Nat):Int)==10 then WB s f (i+2) bf acc else
  match FX s i bf with
  |none=> .inr i
  |some p=>WB s f (i+p.2.length) p.1 (acc++[⟨p.1,p.2,(i:Int)⟩])
def aua(n:Nat)(l:List Tk):Prop:=∀t,t∈l->t.text.length<=n
def aua.snoc{n:Nat}{l:List Tk}{t:Tk}(h:aua n l)(ht:t.text.length<=n):aua n (l++[t]):=by
 intro u hu;rcases List.mem_append.1 hu with hu|hu
 ·exact h u hu
 ·rw[List.mem_singleton] at hu;rw[hu];exact ht
def aiP{s:aC}(hs:s.length<=1048576):∀(f i:Nat) (bf:Int) (acc l:List Tk),i<=s.length->acc.length<=i->aua s.length acc->WB s f i bf acc=.inl l->l.length<=s.length/\aua s.length l
 |0,i,bf,acc,l,hi,hl,ht,h=>by cases h;exact⟨au,ht⟩
 |f+1,i,bf,acc,l,hi,hl,ht,h=>by
  rw[WB] at h;cases hb:Nat.ble s.length i with
  |true=>rw[hb,aH] at h;cases h;exact⟨au,ht⟩
  |false=>
   have hlt:i<s.length:=by
    have:¬(Nat.ble s.length i=true):=by rw[hb];simp
    rw[Nat.ble_eq] at this;omega
   rw[hb,bG] at h;cases h1:afT (qx s i) with
   |true=>rw[h1,aH] at h;exact aiP hs f (i+1) bf acc l au au ht h
   |false=>
    rw[h1,bG] at h;cases h2:(qx s i==92 && qx s ((i+1:Nat):Int)==10) with
    |true=>
     rw[h2,aH] at h;have:i+1<s.length:=by
      by_cases hc:i+1<s.length
      ·exact hc
      ·rw[Xl (a:=((i+1:Nat):Int)) au] at h2;rw[zq] at h2;cases h2.2
     exact aiP hs f (i+2) bf acc l au au ht h
    |false=>
     rw[h2,bG] at h;cases hk:FX s i bf with
     |none=>rw[hk] at h;cases h
     |some p=>obtain⟨k,w⟩:=p;rw[hk] at h;have hp:=OU hs hlt bf hk;exact aiP hs f _ _ _ l hp.2.2 (by rw[Gt,OW];have:=hp.2.1;omega) (ht.snoc (by show w.length<=_;omega)) h
section
variable {s:aC} (hs:s.length<=3000)
include hs
theorem avC(x y:Int):∀(f i:Nat) (bf:Int) (acc:List Tk),s.length<i+f->i<=s.length->acc.length<=i->
  match WB s f i bf acc with
  | .inl l=>∃b',M.qX s x y ((i:Int),bf,aF acc)=some (.inr ((s.length:Int),b',aF l))
  | .inr a=>M.qX s x y ((i:Int),bf,aF acc)=some (.inl (a:Int))
 |0,i,bf,acc,hf,hi,hl=>absurd hf au
 |f+1,i,bf,acc,hf,hi,hl=>by
  rw[WB]
  by_cases hlt:i<s.length
  ·have hb:Nat.ble s.length i=false:=by
    cases hb:Nat.ble s.length i with
    |false=>rfl
    |true=>rw[Nat.ble_eq] at hb;omega
   obtain⟨c,hc⟩:∃c,s[i]? =some c:=⟨s[i],by simp[hlt]⟩
   have hbc:qx s (i:Int)=(c.toNat:Int):=by rw[IW,hc]
   have hw1:i64.wrap ((i:Int)+1)=((i+1:Nat):Int):=by rw[aJ au au];omega
   have hw2:i64.wrap ((i:Int)+2)=((i+2:Nat):Int):=by rw[aJ au au];omega
   have hby:=λa=>Dh (s:=s) (by omega:s.length<=1048576) a
   have htk:=at7 (s:=s) au hlt bf;have hbody:M.JX s x y ((i:Int),bf,aF acc)=some (bif afT (qx s i) then .inl (((i+1:Nat):Int),bf,aF acc) else
     bif qx s i==92 && qx s ((i+1:Nat):Int)==10 then .inl (((i+2:Nat):Int),bf,aF acc) else
     match FX s i bf with
     |none=> .inr (.inl (i:Int))
     |some p=> .inl (((i+p.2.length:Nat):Int),p.1,aF (acc++[⟨p.1,p.2,(i:Int)⟩]))):=by
    have tail:((M.AV s (i:Int) bf).bind λr=>bif r.fst==0 then some (Sum.inr (Sum.inl (i:Int))) else
      bif(((aF acc).length+[[D.int IntKind.i64 r.fst,D.str r.snd.fst,D.int IntKind.i64 r.snd.snd]].length) * 32).ble 140737488355328 then
      bif((aF acc).length+[[D.int IntKind.i64 r.fst,D.str r.snd.fst,D.int IntKind.i64 r.snd.snd]].length).ble 140737488355328 then
       some (Sum.inl (i64.wrap ((i:Int)+(r.snd.fst.length:Int)),r.fst,aF acc++[[D.int IntKind.i64 r.fst,D.str r.snd.fst,D.int IntKind.i64 r.snd.snd]])) else none else none)=
      some (match FX s i bf with
       |none=>(Sum.inr (Sum.inl (i:Int)):(Int×Int×ak)⊕(Int⊕(Int×Int×ak)))
       |some p=> .inl (((i+p.2.length:Nat):Int),p.1,aF (acc++[⟨p.1,p.2,(i:Int)⟩]))):=by
     rw[htk,ah];cases hk:FX s i bf with
     |none=>rfl
     |some p=>obtain⟨k,w⟩:=p;have hp:=OU au hlt bf hk;simp only[at6,jI,Pq,UR];rw[QV.2 hp.1,bG,bI au,aH,bI au,aH,aJ au au];simp only[aF,List.map_append];rfl
    simp only[M.JX,M.EM,M.CP,bZ,hc,ah,afS,<-hbc,(akT _).2,hw1,hw2,hby];rw[zdt au,aH];cases afT (qx s i) with
    |true=>rfl
    |false=>
     rw[bG,bG];cases qx s i==92 with
     |true=>
      rw[aH,Bool.true_and];cases qx s ((i+1:Nat):Int)==10 with
      |true=>rfl
      |false=>exact tail
     |false=>exact tail
   rw[hb,bG];cases h1:afT (qx s i) with
   |true=>rw[h1,aH] at hbody;have:=avC x y f (i+1) bf acc au au au;rw[aH];rw[M.qX] at this|-;rw[bQ hbody];exact this
   |false=>
    rw[h1,bG] at hbody;rw[bG];cases h2:(qx s i==92 && qx s ((i+1:Nat):Int)==10) with
    |true=>
     rw[h2,aH] at hbody;have hlt2:i+1<s.length:=by
      by_cases hcc:i+1<s.length
      ·exact hcc
      ·rw[Xl (a:=((i+1:Nat):Int)) au] at h2;rw[zq] at h2;cases h2.2
     have:=avC x y f (i+2) bf acc au au au;rw[aH];rw[M.qX] at this|-;rw[bQ hbody];exact this
    |false=>
     rw[h2,bG] at hbody;rw[bG];cases hk:FX s i bf with
     |none=>rw[hk] at hbody;rw[M.qX];exact aV hbody
     |some p=>obtain⟨k,w⟩:=p;rw[hk] at hbody;have hp:=OU au hlt bf hk;have:=avC x y f (i+w.length) k (acc++[⟨k,w,(i:Int)⟩]) au au (by rw[Gt,OW];omega);rw[M.qX] at this|-;simp only[] at hbody|-;rw[bQ hbody];exact this
  ·have hb:Nat.ble s.length i=true:=by rw[Nat.ble_eq];omega
   rw[hb,aH];refine⟨bf, ?_⟩;rw[M.qX];refine aV ?_;simp only[M.JX,M.EM,M.CP];rw[xE au,bG,show(i:Int)=(s.length:Int) by omega]
theorem avD(x y:Int):∀(f i:Nat) (bf:Int) (acc:List Tk),s.length<i+f->i<=s.length->acc.length<=i->
  match WB s f i bf acc with
  | .inl l=>∃b',M.BK s x y (bf,(i:Int),aF acc)=some (.inr (b',(s.length:Int),aF l))
  | .inr a=>M.BK s x y (bf,(i:Int),aF acc)=some (.inl (2,(a:Int)))
 |0,i,bf,acc,hf,hi,hl=>absurd hf au
 |f+1,i,bf,acc,hf,hi,hl=>by
  rw[WB]
  by_cases hlt:i<s.length
  ·have hb:Nat.ble s.length i=false:=by
    cases hb:Nat.ble s.length i with
    |false=>rfl
    |true=>rw[Nat.ble_eq] at hb;omega
   obtain⟨c,hc⟩:∃c,s[i]? =some c:=⟨s[i],by simp[hlt]⟩
   have hbc:qx s (i:Int)=(c.toNat:Int):=by rw[IW,hc]
   have hw1:i64.wrap ((i:Int)+1)=((i+1:Nat):Int):=by rw[aJ au au];omega
   have hw2:i64.wrap ((i:Int)+2)=((i+2:Nat):Int):=by rw[aJ au au];omega
   have hby:=λa=>Df (s:=s) (by omega:s.length<=1048576) a
   have htk:=axl (s:=s) au hlt bf;have hbody:M.TU s x y (bf,(i:Int),aF acc)=some (bif afT (qx s i) then .inl (bf,((i+1:Nat):Int),aF acc) else
     bif qx s i==92 && qx s ((i+1:Nat):Int)==10 then .inl (bf,((i+2:Nat):Int),aF acc) else
     match FX s i bf with
     |none=> .inr (.inl (2,(i:Int)))
     |some p=> .inl (p.1,((i+p.2.length:Nat):Int),aF (acc++[⟨p.1,p.2,(i:Int)⟩]))):=by
    have tail:((M.Ej s (i:Int) !(XI bf)).bind λr=>bif r.fst==0 then some (Sum.inr (Sum.inl (2,(i:Int)))) else
      bif((aF acc).length:Int)==3000 then some (Sum.inr (Sum.inl (1,0))) else
      bif(((aF acc).length+[[D.int IntKind.i64 r.fst,D.str r.snd.fst,D.int IntKind.i64 r.snd.snd]].length) * 32).ble 140737488355328 then
      bif((aF acc).length+[[D.int IntKind.i64 r.fst,D.str r.snd.fst,D.int IntKind.i64 r.snd.snd]].length).ble 140737488355328 then
       some (Sum.inl (r.fst,i64.wrap ((i:Int)+(r.snd.fst.length:Int)),aF acc++[[D.int IntKind.i64 r.fst,D.str r.snd.fst,D.int IntKind.i64 r.snd.snd]])) else none else none)=
      some (match FX s i bf with
       |none=>(Sum.inr (Sum.inl (2,(i:Int))):(Int×Int×ak)⊕((Int×Int)⊕(Int×Int×ak)))
       |some p=> .inl (p.1,((i+p.2.length:Nat):Int),aF (acc++[⟨p.1,p.2,(i:Int)⟩]))):=by
     rw[htk,ah];cases hk:FX s i bf with
     |none=>rfl
     |some p=>obtain⟨k,w⟩:=p;have hp:=OU au hlt bf hk;simp only[at6,jI,Pq,UR];rw[QV.2 hp.1,bG,show((acc.length:Int)==3000)=false from QV.2 au,bG,bI au,aH,bI au,aH,aJ au au];simp only[aF,List.map_append];rfl
    simp only[M.TU,M.NK,M.KX,bZ,hc,ah,afS,<-hbc,(akT _).1,hw1,hw2,hby,(abL bf).1];rw[zdt au,aH];cases afT (qx s i) with
    |true=>rfl
    |false=>
     rw[bG,bG];cases qx s i==92 with
     |true=>
      rw[aH,Bool.true_and];cases qx s ((i+1:Nat):Int)==10 with
      |true=>rfl
      |false=>exact tail
     |false=>exact tail
   rw[hb,bG];cases h1:afT (qx s i) with
   |true=>rw[h1,aH] at hbody;have:=avD x y f (i+1) bf acc au au au;rw[aH];rw[M.BK] at this|-;rw[bQ hbody];exact this
   |false=>
    rw[h1,bG] at hbody;rw[bG];cases h2:(qx s i==92 && qx s ((i+1:Nat):Int)==10) with
    |true=>
     rw[h2,aH] at hbody;have hlt2:i+1<s.length:=by
      by_cases hcc:i+1<s.length
      ·exact hcc
      ·rw[Xl (a:=((i+1:Nat):Int)) au] at h2;rw[zq] at h2;cases h2.2
     have:=avD x y f (i+2) bf acc au au au;rw[aH];rw[M.BK] at this|-;rw[bQ hbody];exact this
    |false=>
     rw[h2,bG] at hbody;rw[bG];cases hk:FX s i bf with
     |none=>rw[hk] at hbody;rw[M.BK];exact aV hbody
     |some p=>obtain⟨k,w⟩:=p;rw[hk] at hbody;have hp:=OU au hlt bf hk;have:=avD x y f (i+w.length) k (acc++[⟨k,w,(i:Int)⟩]) au au (by rw[Gt,OW];omega);rw[M.BK] at this|-;simp only[] at hbody|-;rw[bQ hbody];exact this
  ·have hb:Nat.ble s.length i=true:=by rw[Nat.ble_eq];omega
   rw[hb,aH];refine⟨bf, ?_⟩;rw[M.BK];refine aV ?_;simp only[M.TU,M.NK,M.KX];rw[xE au,bG,show(i:Int)=(s.length:Int) by omega]
end
def zU(s:aC):List Tk×Int×Int:=if s.length>3000 then([],1,0) else match WB s (s.length+1) 0 0 [] with
 | .inl l=>(l,0,0)
 | .inr a=>([],2,(a:Int))
def avE(s:aC):(zU s).1.length<=3000/\aua 3000 (zU s).1:=by
 have h0:aua 3000 []:=λt h=>by cases h
 unfold zU;split
 ·exact⟨Nat.zero_le _,h0⟩
 ·next hn=>
  cases hx:WB s (s.length+1) 0 0 [] with
  |inr a=>exact⟨Nat.zero_le _,h0⟩
  |inl l=>have:=aiP (s:=s) au _ 0 0 [] l (Nat.zero_le _) (Nat.zero_le _) (λt h=>by cases h) hx;exact⟨by show l.length<=3000;omega,λt ht=>by have:=this.2 t ht;omega⟩
def aAu(s:aC):M.Uk s=some (aF (zU s).1,(zU s).2.1,(zU s).2.2)/\M.Uj s=some (aF (zU s).1,(zU s).2.1,(zU s).2.2):=by
 simp only[M.Uk,M.Y1,M.Uj,M.YW,M.Io,M.Qw,zU]
 by_cases h:s.length>3000
 ·rw[if_pos h,zdt au,aH,aH];exact⟨rfl,rfl⟩
 ·rw[if_neg h,xE au,bG,bG];have h1:=avC (s:=s) au 0 0 (s.length+1) 0 0 [] au au (by simp);have h2:=avD (s:=s) au 0 0 (s.length+1) 0 0 [] au au (by simp);have e0:aF []=[]:=rfl;rw[e0,Wy] at h1 h2;cases hx:WB s (s.length+1) 0 0 [] with
  |inl l=>rw[hx] at h1 h2;obtain⟨b1,h1⟩:=h1;obtain⟨b2,h2⟩:=h2;rw[h1,h2];simp only[ah,jX,letE,arZ,aH];refine⟨?_, ?_⟩<;>first|rfl|trivial
  |inr a=>rw[hx] at h1 h2;rw[h1,h2];simp only[ah,jX,letE];refine⟨?_, ?_⟩<;>first|rfl|trivial
def Kd(k:Int):Prop:=0<=k/\k<=100
def aAv:Y2.length=17:=by decide+kernel
def aAw:UL.length=39:=by decide+kernel
def aDO(s:aC):Kd (aio s):=by have h:=abz s Y2 0 (by decide);rw[aAv] at h;unfold aio Kd;split<;>omega
def aAx(s w:aC)(e:Nat):Kd (ahT s w e):=by
 have h:=aDO w;unfold ahT;cases aio w !=0 with
 |true=>exact h
 |false=>
  cases Xg w with
  |true=>exact show Kd 8 from⟨by decide,by decide⟩
  |false=>
   cases qx s e==40 with
   |true=>exact show Kd 7 from⟨by decide,by decide⟩
   |false=>exact show Kd 6 from⟨by decide,by decide⟩
def aub(s:aC):∀(l:List (aC)) (i:Nat) (k:Int) (m:Nat),0<=k/\k<=30+i+l.length->0<=(opF s l i k m).1/\(opF s l i k m).1<=30+i+l.length
 |[],i,k,m,h=>h
 |g::l,i,k,m,h=>by
  rw[Pq] at h|-;rw[opF];cases(Nat.blt m g.length && g.isPrefixOf s) with
  |true=>have:=aub s l (i+1) (30+(i:Int)) g.length au;rw[aH];omega
  |false=>have:=aub s l (i+1) k m au;rw[bG];omega
def aIb(s:aC)(i:Nat):Kd (opK s i):=by have:=aub (s.drop i) UL 0 0 0 au;rw[aAw] at this;unfold opK Kd;omega
def aiQ{s:aC}{i:Nat}{k e:Int}{p:Int×aC}(hk:Kd k)(h:alI s i k e=some p):Kd p.1:=by
 unfold alI at h;cases hd:decide (e<0) with
 |true=>rw[hd] at h;cases h
 |false=>rw[hd] at h;cases h;exact hk
def ar0{s:aC}{i:Nat}{p:Int×aC}(h:adW s i=some p):Kd p.1:=by
 unfold adW arX opT at h;cases hz:isL (qx s i) with
 |true=>
  rw[hz,aH] at h;cases hn:Ju (sub s i (OT s i)) with
  |true=>rw[hn] at h;cases h;exact aAx _ _ _
  |false=>rw[hn] at h;cases h
 |false=>
  rw[hz,bG] at h;cases hn:opK s i==0 with
  |true=>rw[hn] at h;cases h
  |false=>rw[hn] at h;cases h;exact aIb _ _
def axn{s:aC}{i:Nat}{bf:Int}{p:Int×aC}(h:FX s i bf=some p):Kd p.1:=by
 have k3:Kd 3:=⟨by decide,by decide⟩
 have k4:Kd 4:=⟨by decide,by decide⟩
 have k5:Kd 5:=⟨by decide,by decide⟩
 unfold FX at h;cases q1:qx s i==10 with
 |true=>rw[q1] at h;cases h;exact show Kd 1 from⟨by decide,by decide⟩
 |false=>
 rw[q1,bG] at h;cases q2:qx s i==35 with
 |true=>rw[q2] at h;cases h;exact show Kd 2 from⟨by decide,by decide⟩
 |false=>
 rw[q2,bG] at h;cases q3:isD (qx s i) with
 |true=>rw[q3] at h;exact aiQ k3 h
 |false=>
 rw[q3,bG] at h;cases q4:qx s i==46 with
 |true=>rw[q4] at h;exact aiQ k3 h
 |false=>
 rw[q4,bG] at h;cases q5:qx s i==34 with
 |true=>rw[q5] at h;exact aiQ k4 h
 |false=>
 rw[q5,bG] at h;cases q6:qx s i==47 with
 |true=>
  rw[q6,aH] at h;cases hb: !(XI bf) with
  |true=>rw[hb] at h;exact aiQ k5 h
  |false=>rw[hb] at h;exact ar0 h
 |false=>rw[q6] at h;exact ar0 h
def aiR{s:aC}:∀(f i:Nat) (bf:Int) (acc l:List Tk),(∀t,t∈acc->Kd t.kind)->WB s f i bf acc=.inl l->∀t,t∈l->Kd t.kind
 |0,i,bf,acc,l,ha,h=>by rw[WB] at h;cases h;exact ha
 |f+1,i,bf,acc,l,ha,h=>by
  rw[WB] at h;cases hb:Nat.ble s.length i with
  |true=>rw[hb] at h;cases h;exact ha
  |false=>
  rw[hb,bG] at h;cases hc:afT (qx s i) with
  |true=>rw[hc] at h;exact aiR f _ _ _ _ ha h
  |false=>
  rw[hc,bG] at h;cases hd:(qx s i==92 && qx s ((i+1:Nat):Int)==10) with
  |true=>rw[hd] at h;exact aiR f _ _ _ _ ha h
  |false=>
  rw[hd,bG] at h;cases ht:FX s i bf with
  |none=>rw[ht] at h;cases h
  |some p=>
   rw[ht] at h;refine aiR f _ _ _ _ (λt hm=> ?_) h;rcases List.mem_append.1 hm with hm|hm
   ·exact ha t hm
   ·rw[List.mem_singleton] at hm;rw[hm];exact axn ht
def aDP(s:aC):(∀t,t∈(zU s).1->Kd t.kind)/\((zU s).2.1=0->(zU s).2.2=0):=by
 unfold zU;split
 ·exact⟨λt h=>(by cases h),λh=>(by cases h)⟩
 ·split
  ·next l h=>exact⟨aiR _ _ _ _ _ (λt h=>(by cases h)) h,λ_=>rfl⟩
  ·exact⟨λt h=>(by cases h),λh=>(by cases h)⟩
inductive Fld:Int->Int->aC->aC->Nat->Prop where
 |name {x:aC}:yD x=true->Fld 1 0 x [] 0
 |tok {k:Int} {x:aC}:k=2\/k=3\/k=4->tX (k+1) x=true->Fld k 0 x [] 0
 |index {k:Int} {x:aC} {n:Nat}:k=5\/k=13->yD x=true->1<=n->n<=6->Fld k 0 x [] n
 |call {k:Int} {x:aC} {n:Nat}:k=7\/k=27->yD x=true->n<=6->Fld k 0 x [] n
 |blt {x:aC} {n:Nat}:Xg x=true->n<=6->Fld 8 0 x [] n
 |one {k:Int}:k=6\/k=20\/k=40\/k=41->Fld k 0 [] [] 1
 |step {k op:Int}:k=9\/k=10->op=51\/op=52->Fld k op [] [] 1
 |una {op:Int}:op=55\/op=56\/op=61->Fld 11 op [] [] 1
 |bin {op:Int}:ZA op=true->Fld 12 op [] [] 2
 |cond:Fld 14 0 [] [] 3
 |asg {op:Int}:Xh op=true->Fld 15 op [] [] 2
 |none {k:Int}:k=16\/k=22\/k=25\/k=26->Fld k 0 [] [] 0
 |prn {op:Int} {n:Nat}:op=0\/op=1->op<=n->n<=6->Fld 21 op [] [] n
 |prt {op:Int} {y:aC} {n:Nat}:op=0\/op=1->y=[62]\/y=[62,62]\/y=[124]->op+1<=n->n<=7->Fld 21 op [] y n
 |word {k:Int} {n:Nat}:k=23\/k=24->n<=1->Fld k 0 [] [] n
 |if_ {n:Nat}:n=2\/n=3->Fld 28 0 [] [] n
 |two {k:Int}:k=29\/k=30->Fld k 0 [] [] 2
 |for_:Fld 31 0 [] [] 4
 |aAy {x y:aC}:yD x=true->yD y=true->Fld 32 0 x y 1
 |many {k:Int} {n:Nat}:k=33\/k=45->Fld k 0 [] [] n
 |com {x:aC}:tX 2 x=true->Fld 34 0 x [] 0
 |rule {op:Int} {n:Nat}:((op=1\/op=2)/\n=1)\/(op=3/\n=2)->Fld 42 op [] [] n
 |range {op:Int} {n:Nat}:(op=1/\n=2)\/(op=3/\n=3)->Fld 43 op [] [] n
 |func {x:aC} {n:Nat}:yD x=true->1<=n->n<=7->Fld 44 0 x [] n
mutual
def Zd:Tn->Prop
 | .mk k op x y ks=>Fld k op x y ks.length/\rts k op ks.length ks 0
def rts(k op:Int)(n:Nat):List Tn->Nat->Prop
 |[],_=>True
 |t::ts,j=>zJ (cls k op n j) t.kind/\(Zd t)/\rts k op n ts (j+1)
end
def afV{k op:Int}{n:Nat}:∀{ks:List Tn} {j:Nat},(∀i t,ks[i]? =some t->zJ (cls k op n (j+i)) t.kind/\Zd t)->rts k op n ks j
 |[],_,_=>by rw[rts];trivial
 |t::ts,j,h=>by
  rw[rts];have h0:=h 0 t rfl;refine⟨h0.1,h0.2,afV λi u hu=> ?_⟩;have:=h (i+1) u (by rw[List.getElem?_cons_succ];exact hu)
  rwa [show j+(i+1)=j+1+i by omega] at this
def aoJ{k op:Int}{n:Nat}:∀{ks:List Tn} {j i:Nat} {t:Tn},rts k op n ks j->ks[i]? =some t->zJ (cls k op n (j+i)) t.kind/\(Zd t)
 |[],_,i,_,_,h=>by simp at h
 |u::ts,j,0,t,h,e=>by rw[rts] at h;cases e;exact⟨h.1,h.2.1⟩
 |u::ts,j,i+1,t,h,e=>by rw[rts] at h;rw[List.getElem?_cons_succ] at e;have:=aoJ h.2.2 e;rw[show j+1+i=j+(i+1) by omega] at this;exact this
def rxT(t:Tn):Prop:=Zd t/\isE t
def aFy{k op:Int}{n:Nat}{ks:List Tn}(h:∀t,t∈ks->rxT t)(hc:∀j,cls k op n j=0):rts k op n ks 0:=afV λi t ht=>by have:=h t (Ro ht);rw[hc];exact⟨this.2,this.1⟩
def aAz{k:Int}(hk:(1<=k/\k<=8)\/(11<=k/\k<=14)\/(20<=k/\k<=27))(op:Int)(n j:Nat):cls k op n j=0:=by unfold cls;repeat(rw[if_neg au])
def ait{k op:Int}{x y:aC}{ks:List Tn}(hk:(1<=k/\k<=8)\/(11<=k/\k<=14))(hf:Fld k op x y ks.length)(h:∀t,t∈ks->rxT t):rxT (.mk k op x y ks):=by refine⟨?_,⟨by show 1<=k;omega,by show k<=15;omega⟩⟩;rw[Zd];exact⟨hf,aFy h λj=>aAz au op _ j⟩
def aeY:∀t:Tn,t∈([]:List Tn)->rxT t:=λt h=>by simp at h
def all1{a:Tn}(h:rxT a):∀t:Tn,t∈[a]->rxT t:=λt ht=>by rw[List.mem_singleton] at ht;rw[ht];exact h
def all2{a b:Tn}(h:rxT a)(k:rxT b):∀t:Tn,t∈[a,b]->rxT t:=λt ht=>by simp only[List.mem_cons,List.not_mem_nil,or_false] at ht;rcases ht with rfl|rfl<;>assumption
def a00{a b c:Tn}(h:rxT a)(k:rxT b)(m:rxT c):∀t:Tn,t∈[a,b,c]->rxT t:=λt ht=>by simp only[List.mem_cons,List.not_mem_nil,or_false] at ht;rcases ht with rfl|rfl|rfl<;>assumption
def ar1{L:List Tn}{a:Tn}(h:∀t,t∈L->rxT t)(k:rxT a):∀t:Tn,t∈L++[a]->rxT t:=λt ht=>by
 rcases List.mem_append.1 ht with ht|ht
 ·exact h t ht
 ·rw[List.mem_singleton] at ht;rw[ht];exact k
def aoK{op:Int}{a b:Tn}(hop:ZA op=true)(ha:rxT a)(hb:rxT b):rxT (.mk 12 op [] [] [a,b]):=ait au (.bin hop) (all2 ha hb)
def ar2{k:Int}(h:Pn k=true):zJ 6 k:=by unfold Pn at h;simp only[Bool.or_eq_true,beq_iff_eq] at h;exact h
def aIc{op:Int}{a b:Tn}(hop:Xh op=true)(hl:Pn a.kind=true)(ha:rxT a)(hb:rxT b):rxT (.mk 15 op [] [] [a,b]):=by refine⟨?_,⟨by show(1:Int)<=15;omega,by show(15:Int)<=15;omega⟩⟩;rw[Zd];refine⟨.asg hop, ?_⟩;rw[rts,rts,rts];have c0:cls 15 op [a,b].length 0=6:=rfl;have c1:cls 15 op [a,b].length (0+1)=0:=rfl;rw[c0,c1];exact⟨ar2 hl,ha.1,hb.2,hb.1,trivial⟩
def avF{k op:Int}{a:Tn}(hk:k=9\/k=10)(hop:op=51\/op=52)(hl:Pn a.kind=true)(ha:rxT a):rxT (.mk k op [] [] [a]):=by
 refine⟨?_,⟨by show(1:Int)<=k;omega,by show k<=15;omega⟩⟩;rw[Zd];refine⟨.step hk hop, ?_⟩;rw[rts,rts];have c0:cls k op [a].length 0=6:=by unfold cls;rw[if_pos au]
 rw[c0];exact⟨ar2 hl,ha.1,trivial⟩
def ar4{op:Int}(h:ug op≠0):ZA op=true:=by
 by_cases hc:ZA op=true
 ·exact hc
 ·exfalso;apply h;rw[Bool.not_eq_true] at hc;unfold ZA at hc;simp only[Bool.or_eq_false_iff] at hc;obtain⟨⟨⟨⟨⟨⟨⟨⟨⟨⟨⟨⟨⟨⟨⟨⟨h1,h2⟩,h3⟩,h4⟩,h5⟩,h6⟩,h7⟩,h8⟩,h9⟩,h10⟩,h11⟩,h12⟩,h13⟩,h14⟩,h15⟩,h16⟩,h17⟩:=hc;simp only[ug,h1,h2,h3,h4,h5,h6,h7,h8,h9,h10,h11,h12,h13,h14,h15,h16,h17,Bool.or_self,bG]
def acs(l:List Tk):Prop:=∀t,t∈l->tX t.kind t.text=true
def avG{l:List Tk}(h:acs l){i:Nat}{k:Int}(hk:dP l i=k)(h0:k≠0):tX k (Np l i)=true:=by
 unfold dP at hk;unfold Np;cases ht:l[i]? with
 |none=>rw[ht] at hk;exact absurd hk.symm h0
 |some t=>rw[ht] at hk;simp only at hk|-;rw[<-hk];exact h t (Ro ht)
def anm{l:List Tk}(h:acs l){i:Nat}{k:Int}(hk:dP l i=k)(h6:k=6\/k=7):yD (Np l i)=true:=by
 have:=avG h hk au;unfold tX at this;cases hx:Np l i==[] with
 |true=>rw[hx] at this;cases this
 |false=>rw[hx] at this;rcases h6 with rfl|rfl<;>exact this
def aFz{l:List Tk}(h:acs l){i:Nat}(hk:dP l i=8):Xg (Np l i)=true:=by
 have:=avG h hk au;unfold tX at this;cases hx:Np l i==[] with
 |true=>rw[hx] at this;cases this
 |false=>rw[hx] at this;exact this
def BN{op:Int}(h:ZA op=true):ug op≠0/\op≠61:=by
 have hc:op=60\/op=57\/op=58\/op=59\/op=55\/op=56\/op=99\/op=63\/op=48\/op=47\/op=50\/op=62\/op=49\/op=67\/op=46\/op=45\/op=44:=by simp only[ZA,Bool.or_eq_true,beq_iff_eq] at h;omega
 rcases hc with rfl|rfl|rfl|rfl|rfl|rfl|rfl|rfl|rfl|rfl|rfl|rfl|rfl|rfl|rfl|rfl|rfl<;>decide
def Hz{op:Int}(h:Xh op=true):op=54\/(38<=op/\op<=43):=by simp only[Xh,Bool.or_eq_true,zq,beq_iff_eq,decide_eq_true_eq] at h;omega
def bnd{α:Type}{x:Option Bool}{f:Bool->Option α}{r:α}(h:x.bind f=some r):∃b,x=some b/\f b=some r:=by
 cases x with
 |none=>cases h
 |some b=>exact⟨b,rfl,h⟩
def ag5(k:Int)(op:Int)(t o:aC)(kids:ak)(h:M.aG k op t o kids=some true)(hk:k=1\/k=5\/k=7\/k=13\/k=27\/k=44):Cnt k op o kids.length:=by
 rcases hk with rfl|rfl|rfl|rfl|rfl|rfl
 all_goals
  simp only[M.aG,M.aK,M.aZ,M.aS,M.bV,M.bD,M.bg,M.aU,dL,eF,Di,pJ,Int.reduceBEq,reduceLE,reduceLT,reduceSub,reduceAdd,gu,ah] at h;revert h;cases hn0:M.kG t with
  |none=>cases op==0<;>simp
  |some b0=>_
  all_goals try simp only[Int.reduceBEq,reduceLE,reduceLT,reduceSub,reduceAdd,gu,ah]
  all_goals(cases ho0:(op==0)<;>cases ht:(t==[])<;>cases hy:(o==[])<;>cases b0<;>simp_all<;>intros<;>constructor<;>intros<;>first|omega|exact BN ‹_›|exact Hz ‹_›|(rw[aJ (n:=op+1) au au] at *;omega)|(simp_all<;>omega))
def aSQ(op:Int)(t o:aC)(kids:ak)(h:M.aG 2 op t o kids=some true):Cnt 2 op o kids.length:=by
 simp only[M.aG,M.aK,M.aZ,M.aS,M.bV,M.bD,M.bg,M.aU,dL,eF,Di,pJ,Int.reduceBEq,reduceLE,reduceLT,reduceSub,reduceAdd,gu,ah] at h;revert h;cases hn0:M.nJ 3 t 0 with
 |none=>cases op==0<;>simp
 |some b0=>_
 all_goals try simp only[Int.reduceBEq,reduceLE,reduceLT,reduceSub,reduceAdd,gu,ah]
 all_goals(cases ho0:(op==0)<;>cases ht:(t==[])<;>cases hy:(o==[])<;>cases b0<;>simp_all<;>intros<;>constructor<;>intros<;>first|omega|exact BN ‹_›|exact Hz ‹_›|(rw[aJ (n:=op+1) au au] at *;omega)|(simp_all<;>omega))
def aSR(op:Int)(t o:aC)(kids:ak)(h:M.aG 3 op t o kids=some true):Cnt 3 op o kids.length:=by
 simp only[M.aG,M.aK,M.aZ,M.aS,M.bV,M.bD,M.bg,M.aU,dL,eF,Di,pJ,Int.reduceBEq,reduceLE,reduceLT,reduceSub,reduceAdd,gu,ah] at h;revert h;cases hn0:M.nJ 4 t 0 with
 |none=>cases op==0<;>simp
 |some b0=>_
 all_goals try simp only[Int.reduceBEq,reduceLE,reduceLT,reduceSub,reduceAdd,gu,ah]
 all_goals(cases ho0:(op==0)<;>cases ht:(t==[])<;>cases hy:(o==[])<;>cases b0<;>simp_all<;>intros<;>constructor<;>intros<;>first|omega|exact BN ‹_›|exact Hz ‹_›|(rw[aJ (n:=op+1) au au] at *;omega)|(simp_all<;>omega))
def aSS(op:Int)(t o:aC)(kids:ak)(h:M.aG 4 op t o kids=some true):Cnt 4 op o kids.length:=by
 simp only[M.aG,M.aK,M.aZ,M.aS,M.bV,M.bD,M.bg,M.aU,dL,eF,Di,pJ,Int.reduceBEq,reduceLE,reduceLT,reduceSub,reduceAdd,gu,ah] at h;revert h;cases hn0:M.nJ 5 t 0 with
 |none=>cases op==0<;>simp
 |some b0=>_
 all_goals try simp only[Int.reduceBEq,reduceLE,reduceLT,reduceSub,reduceAdd,gu,ah]
 all_goals(cases ho0:(op==0)<;>cases ht:(t==[])<;>cases hy:(o==[])<;>cases b0<;>simp_all<;>intros<;>constructor<;>intros<;>first|omega|exact BN ‹_›|exact Hz ‹_›|(rw[aJ (n:=op+1) au au] at *;omega)|(simp_all<;>omega))
def Lj(k:Int)(op:Int)(t o:aC)(kids:ak)(h:M.aG k op t o kids=some true)(hk:k=6\/k=14\/k=16\/k=20\/k=22\/k=23\/k=24\/k=25\/k=26\/k=28\/k=29\/k=30\/k=31\/k=33\/k=40\/k=41\/k=45):Cnt k op o kids.length:=by
 rcases hk with rfl|rfl|rfl|rfl|rfl|rfl|rfl|rfl|rfl|rfl|rfl|rfl|rfl|rfl|rfl|rfl|rfl
 all_goals
  simp only[M.aG,M.aK,M.aZ,M.aS,M.bV,M.bD,M.bg,M.aU,dL,eF,Di,pJ,Int.reduceBEq,reduceLE,reduceLT,reduceSub,reduceAdd,gu,ah] at h;revert h
  all_goals try simp only[Int.reduceBEq,reduceLE,reduceLT,reduceSub,reduceAdd,gu,ah]
  all_goals(cases ho0:(op==0)<;>cases ht:(t==[])<;>cases hy:(o==[])<;>simp_all<;>intros<;>constructor<;>intros<;>first|omega|exact BN ‹_›|exact Hz ‹_›|(rw[aJ (n:=op+1) au au] at *;omega)|(simp_all<;>omega))
def aST(op:Int)(t o:aC)(kids:ak)(h:M.aG 8 op t o kids=some true):Cnt 8 op o kids.length:=by
 simp only[M.aG,M.aK,M.aZ,M.aS,M.bV,M.bD,M.bg,M.aU,dL,eF,Di,pJ,Int.reduceBEq,reduceLE,reduceLT,reduceSub,reduceAdd,gu,ah] at h;revert h;cases hn0:M.kV t with
 |none=>cases op==0<;>simp
 |some b0=>_
 all_goals try simp only[Int.reduceBEq,reduceLE,reduceLT,reduceSub,reduceAdd,gu,ah]
 all_goals(cases ho0:(op==0)<;>cases ht:(t==[])<;>cases hy:(o==[])<;>cases b0<;>simp_all<;>intros<;>constructor<;>intros<;>first|omega|exact BN ‹_›|exact Hz ‹_›|(rw[aJ (n:=op+1) au au] at *;omega)|(simp_all<;>omega))
def aAA(k:Int)(op:Int)(t o:aC)(kids:ak)(h:M.aG k op t o kids=some true)(hk:k=9\/k=10):Cnt k op o kids.length:=by
 rcases hk with rfl|rfl
 all_goals
  simp only[M.aG,M.aK,M.aZ,M.aS,M.bV,M.bD,M.bg,M.aU,dL,eF,Di,pJ,Int.reduceBEq,reduceLE,reduceLT,reduceSub,reduceAdd,gu,ah] at h;revert h
  all_goals try simp only[Int.reduceBEq,reduceLE,reduceLT,reduceSub,reduceAdd,gu,ah]
  all_goals(cases ho0:(op==51)<;>cases ho1:(op==52)<;>cases ht:(t==[])<;>cases hy:(o==[])<;>simp_all<;>intros<;>constructor<;>intros<;>first|omega|exact BN ‹_›|exact Hz ‹_›|(rw[aJ (n:=op+1) au au] at *;omega)|(simp_all<;>omega))
def aId(op:Int)(t o:aC)(kids:ak)(h:M.aG 11 op t o kids=some true):Cnt 11 op o kids.length:=by
 simp only[M.aG,M.aK,M.aZ,M.aS,M.bV,M.bD,M.bg,M.aU,dL,eF,Di,pJ,Int.reduceBEq,reduceLE,reduceLT,reduceSub,reduceAdd,gu,ah] at h;revert h
 all_goals try simp only[Int.reduceBEq,reduceLE,reduceLT,reduceSub,reduceAdd,gu,ah]
 all_goals(cases ho0:(op==55)<;>cases ho1:(op==56)<;>cases ho2:(op==61)<;>cases ht:(t==[])<;>cases hy:(o==[])<;>simp_all<;>intros<;>constructor<;>intros<;>first|omega|exact BN ‹_›|exact Hz ‹_›|(rw[aJ (n:=op+1) au au] at *;omega)|(simp_all<;>omega))
def aIe(op:Int)(t o:aC)(kids:ak)(h:M.aG 12 op t o kids=some true):Cnt 12 op o kids.length:=by
 simp only[M.aG,M.aK,M.aZ,M.aS,M.bV,M.bD,M.bg,M.aU,dL,eF,Di,pJ,Int.reduceBEq,reduceLE,reduceLT,reduceSub,reduceAdd,gu,ah] at h;revert h
 all_goals try simp only[Int.reduceBEq,reduceLE,reduceLT,reduceSub,reduceAdd,gu,ah]
 all_goals(cases ho0:(ZA op)<;>cases ht:(t==[])<;>cases hy:(o==[])<;>simp_all<;>intros<;>constructor<;>intros<;>first|omega|exact BN ‹_›|exact Hz ‹_›|(rw[aJ (n:=op+1) au au] at *;omega)|(simp_all<;>omega))
def aIf(op:Int)(t o:aC)(kids:ak)(h:M.aG 15 op t o kids=some true):Cnt 15 op o kids.length:=by
 simp only[M.aG,M.aK,M.aZ,M.aS,M.bV,M.bD,M.bg,M.aU,dL,eF,Di,pJ,Int.reduceBEq,reduceLE,reduceLT,reduceSub,reduceAdd,gu,ah] at h;revert h
 all_goals try simp only[Int.reduceBEq,reduceLE,reduceLT,reduceSub,reduceAdd,gu,ah]
 all_goals(cases ho0:(Xh op)<;>cases ht:(t==[])<;>cases hy:(o==[])<;>simp_all<;>intros<;>constructor<;>intros<;>first|omega|exact BN ‹_›|exact Hz ‹_›|(rw[aJ (n:=op+1) au au] at *;omega)|(simp_all<;>omega))
def aIg(op:Int)(t o:aC)(kids:ak)(h:M.aG 21 op t o kids=some true):Cnt 21 op o kids.length:=by
 simp only[M.aG,M.aK,M.aZ,M.aS,M.bV,M.bD,M.bg,M.aU,dL,eF,Di,pJ,Int.reduceBEq,reduceLE,reduceLT,reduceSub,reduceAdd,gu,ah] at h;revert h
 all_goals try simp only[Int.reduceBEq,reduceLE,reduceLT,reduceSub,reduceAdd,gu,ah]
 all_goals(cases ho0:(decide (0<=op))<;>cases ho1:(decide (op<=1))<;>cases ht:(t==[])<;>cases hy:(o==[])<;>cases h1:(o==[62])<;>cases h2:(o==[62,62])<;>cases h3:(o==[124])<;>simp_all<;>intros<;>constructor<;>intros<;>first|omega|exact BN ‹_›|exact Hz ‹_›|(rw[aJ (n:=op+1) au au] at *;omega)|(simp_all<;>omega))
def aIh(op:Int)(t o:aC)(kids:ak)(h:M.aG 32 op t o kids=some true):Cnt 32 op o kids.length:=by
 simp only[M.aG,M.aK,M.aZ,M.aS,M.bV,M.bD,M.bg,M.aU,dL,eF,Di,pJ,Int.reduceBEq,reduceLE,reduceLT,reduceSub,reduceAdd,gu,ah] at h;revert h;cases hn0:M.kG t with
 |none=>cases op==0<;>simp
 |some b0=>_
 cases hn1:M.kG o with
 |none=>cases b0<;>cases op==0<;>simp
 |some b1=>_
 all_goals try simp only[Int.reduceBEq,reduceLE,reduceLT,reduceSub,reduceAdd,gu,ah]
 all_goals(cases ho0:(op==0)<;>cases ht:(t==[])<;>cases hy:(o==[])<;>cases b0<;>cases b1<;>simp_all<;>intros<;>constructor<;>intros<;>first|omega|exact BN ‹_›|exact Hz ‹_›|(rw[aJ (n:=op+1) au au] at *;omega)|(simp_all<;>omega))
def aIi(op:Int)(t o:aC)(kids:ak)(h:M.aG 34 op t o kids=some true):Cnt 34 op o kids.length:=by
 simp only[M.aG,M.aK,M.aZ,M.aS,M.bV,M.bD,M.bg,M.aU,dL,eF,Di,pJ,Int.reduceBEq,reduceLE,reduceLT,reduceSub,reduceAdd,gu,ah] at h;revert h;cases hn0:M.nJ 2 t 0 with
 |none=>cases op==0<;>simp
 |some b0=>_
 all_goals try simp only[Int.reduceBEq,reduceLE,reduceLT,reduceSub,reduceAdd,gu,ah]
 all_goals(cases ho0:(op==0)<;>cases ht:(t==[])<;>cases hy:(o==[])<;>cases b0<;>simp_all<;>intros<;>constructor<;>intros<;>first|omega|exact BN ‹_›|exact Hz ‹_›|(rw[aJ (n:=op+1) au au] at *;omega)|(simp_all<;>omega))
def aIj(op:Int)(t o:aC)(kids:ak)(h:M.aG 42 op t o kids=some true):Cnt 42 op o kids.length:=by have hc:=aol h;have hr:=hc.rule rfl;constructor<;>intros<;>omega
def aIk(op:Int)(t o:aC)(kids:ak)(h:M.aG 43 op t o kids=some true):Cnt 43 op o kids.length:=by have hc:=aol h;have hr:=hc.range rfl;constructor<;>intros<;>omega
def Ze(k:Int)(op:Int)(t o:aC)(kids:ak)(j:Nat)(d:Int)(hj:j<kids.length)(hl:kids.length<=400)(hc:Cnt k op o kids.length)(h:M.aW k op t o kids (j:Int) d=some true)(hk:k=1\/k=2\/k=3\/k=4\/k=16\/k=22\/k=25\/k=26\/k=34):zJ (cls k op kids.length j) d:=by
 rcases hk with rfl|rfl|rfl|rfl|rfl|rfl|rfl|rfl|rfl
 all_goals
  have hw:i64.wrap ((kids.length:Int) - 1)=(kids.length:Int) - 1:=aJ au au;simp only[M.aW,M.aX,M.aP,eH,iF,iG,eu,dL,eF,Int.reduceBEq,reduceLE,reduceLT,reduceSub,reduceAdd,gu,ah] at h
  try rw[hw] at h
  have:=hc.non au;omega
def JA(k:Int)(op:Int)(t o:aC)(kids:ak)(j:Nat)(d:Int)(hj:j<kids.length)(hl:kids.length<=400)(hc:Cnt k op o kids.length)(h:M.aW k op t o kids (j:Int) d=some true)(hk:k=5\/k=6\/k=7\/k=8\/k=11\/k=12\/k=13\/k=14\/k=20\/k=21\/k=23\/k=24\/k=27\/k=32\/k=33\/k=40\/k=41\/k=45):zJ (cls k op kids.length j) d:=by
 rcases hk with rfl|rfl|rfl|rfl|rfl|rfl|rfl|rfl|rfl|rfl|rfl|rfl|rfl|rfl|rfl|rfl|rfl|rfl
 all_goals
  have hw:i64.wrap ((kids.length:Int) - 1)=(kids.length:Int) - 1:=aJ au au;simp only[M.aW,M.aX,M.aP,eH,iF,iG,eu,dL,eF,Int.reduceBEq,reduceLE,reduceLT,reduceSub,reduceAdd,gu,ah] at h
  try rw[hw] at h
  simp[cls,zJ,IX,Pn,acr,isIt,Bool.cond_eq_ite] at h|-
  all_goals first|omega|((repeat' split at h)<;>simp_all<;>omega)
def aAB(k:Int)(op:Int)(t o:aC)(kids:ak)(j:Nat)(d:Int)(hj:j<kids.length)(hl:kids.length<=400)(hc:Cnt k op o kids.length)(h:M.aW k op t o kids (j:Int) d=some true)(hk:k=9\/k=10):zJ (cls k op kids.length j) d:=by
 rcases hk with rfl|rfl
 all_goals
  have hw:i64.wrap ((kids.length:Int) - 1)=(kids.length:Int) - 1:=aJ au au;simp only[M.aW,M.aX,M.aP,eH,iF,iG,eu,dL,eF,Int.reduceBEq,reduceLE,reduceLT,reduceSub,reduceAdd,gu,ah] at h
  try rw[hw] at h
  have hn:=hc.one au;obtain rfl:j=0:=au
  all_goals(simp[cls,zJ,IX,Pn,acr,isIt,Bool.cond_eq_ite] at h|-<;>first|omega|(repeat' split at h)<;>simp_all<;>omega)
def auc(k:Int)(op:Int)(t o:aC)(kids:ak)(j:Nat)(d:Int)(hj:j<kids.length)(hl:kids.length<=400)(hc:Cnt k op o kids.length)(h:M.aW k op t o kids (j:Int) d=some true)(hk:k=15\/k=29\/k=30):zJ (cls k op kids.length j) d:=by
 rcases hk with rfl|rfl|rfl
 all_goals
  have hw:i64.wrap ((kids.length:Int) - 1)=(kids.length:Int) - 1:=aJ au au;simp only[M.aW,M.aX,M.aP,eH,iF,iG,eu,dL,eF,Int.reduceBEq,reduceLE,reduceLT,reduceSub,reduceAdd,gu,ah] at h
  try rw[hw] at h
  have hn:=hc.two au;obtain rfl|rfl:j=0\/j=1:=au
  all_goals(simp[cls,zJ,IX,Pn,acr,isIt,Bool.cond_eq_ite] at h|-<;>first|omega|(repeat' split at h)<;>simp_all<;>omega)
def aIl(op:Int)(t o:aC)(kids:ak)(j:Nat)(d:Int)(hj:j<kids.length)(hl:kids.length<=400)(hc:Cnt 28 op o kids.length)(h:M.aW 28 op t o kids (j:Int) d=some true):zJ (cls 28 op kids.length j) d:=by
 have hw:i64.wrap ((kids.length:Int) - 1)=(kids.length:Int) - 1:=aJ au au;simp only[M.aW,M.aX,M.aP,eH,iF,iG,eu,dL,eF,Int.reduceBEq,reduceLE,reduceLT,reduceSub,reduceAdd,gu,ah] at h
 try rw[hw] at h
 have hn:=hc.cnd au;obtain rfl|rfl|rfl:j=0\/j=1\/j=2:=au
 all_goals(simp[cls,zJ,IX,Pn,acr,isIt,Bool.cond_eq_ite] at h|-<;>first|omega|(repeat' split at h)<;>simp_all<;>omega)
def aIm(op:Int)(t o:aC)(kids:ak)(j:Nat)(d:Int)(hj:j<kids.length)(hl:kids.length<=400)(hc:Cnt 31 op o kids.length)(h:M.aW 31 op t o kids (j:Int) d=some true):zJ (cls 31 op kids.length j) d:=by
 have hw:i64.wrap ((kids.length:Int) - 1)=(kids.length:Int) - 1:=aJ au au;simp only[M.aW,M.aX,M.aP,eH,iF,iG,eu,dL,eF,Int.reduceBEq,reduceLE,reduceLT,reduceSub,reduceAdd,gu,ah] at h
 try rw[hw] at h
 have hn:=hc.four au;obtain rfl|rfl|rfl|rfl:j=0\/j=1\/j=2\/j=3:=au
 all_goals(simp[cls,zJ,IX,Pn,acr,isIt,Bool.cond_eq_ite] at h|-<;>first|omega|(repeat' split at h)<;>simp_all<;>omega)
def aIn(op:Int)(t o:aC)(kids:ak)(j:Nat)(d:Int)(hj:j<kids.length)(hl:kids.length<=400)(hc:Cnt 42 op o kids.length)(h:M.aW 42 op t o kids (j:Int) d=some true):zJ (cls 42 op kids.length j) d:=by
 have hw:i64.wrap ((kids.length:Int) - 1)=(kids.length:Int) - 1:=aJ au au;simp only[M.aW,M.aX,M.aP,eH,iF,iG,eu,dL,eF,Int.reduceBEq,reduceLE,reduceLT,reduceSub,reduceAdd,gu,ah] at h
 try rw[hw] at h
 rcases hc.rule rfl with⟨rfl,h1⟩|⟨rfl,h1⟩|⟨rfl,h1⟩
 ·obtain rfl:j=0:=au
  all_goals(simp[cls,zJ,IX,Pn,acr,isIt,Bool.cond_eq_ite,h1] at h|-<;>first|omega|(repeat' split at h)<;>simp_all<;>omega)
 ·obtain rfl:j=0:=au
  all_goals(simp[cls,zJ,IX,Pn,acr,isIt,Bool.cond_eq_ite,h1] at h|-<;>first|omega|(repeat' split at h)<;>simp_all<;>omega)
 ·obtain rfl|rfl:j=0\/j=1:=au
  all_goals(simp[cls,zJ,IX,Pn,acr,isIt,Bool.cond_eq_ite,h1] at h|-<;>first|omega|(repeat' split at h)<;>simp_all<;>omega)
def aIo(op:Int)(t o:aC)(kids:ak)(j:Nat)(d:Int)(hj:j<kids.length)(hl:kids.length<=400)(hc:Cnt 43 op o kids.length)(h:M.aW 43 op t o kids (j:Int) d=some true):zJ (cls 43 op kids.length j) d:=by
 have hw:i64.wrap ((kids.length:Int) - 1)=(kids.length:Int) - 1:=aJ au au;simp only[M.aW,M.aX,M.aP,eH,iF,iG,eu,dL,eF,Int.reduceBEq,reduceLE,reduceLT,reduceSub,reduceAdd,gu,ah] at h
 try rw[hw] at h
 rcases hc.range rfl with⟨rfl,h1⟩|⟨rfl,h1⟩
 ·obtain rfl|rfl:j=0\/j=1:=au
  all_goals(simp[cls,zJ,IX,Pn,acr,isIt,Bool.cond_eq_ite,h1] at h|-<;>first|omega|(repeat' split at h)<;>simp_all<;>omega)
 ·obtain rfl|rfl|rfl:j=0\/j=1\/j=2:=au
  all_goals(simp[cls,zJ,IX,Pn,acr,isIt,Bool.cond_eq_ite,h1] at h|-<;>first|omega|(repeat' split at h)<;>simp_all<;>omega)
def aIp(op:Int)(t o:aC)(kids:ak)(j:Nat)(d:Int)(hj:j<kids.length)(hl:kids.length<=400)(hc:Cnt 44 op o kids.length)(h:M.aW 44 op t o kids (j:Int) d=some true):zJ (cls 44 op kids.length j) d:=by
 have hw:i64.wrap ((kids.length:Int) - 1)=(kids.length:Int) - 1:=aJ au au;simp only[M.aW,M.aX,M.aP,eH,iF,iG,eu,dL,eF,Int.reduceBEq,reduceLE,reduceLT,reduceSub,reduceAdd,gu,ah] at h
 try rw[hw] at h
 by_cases h1:j+1=kids.length
 ·have e:((j:Int)==(kids.length:Int) - 1)=true:=by rw[beq_iff_eq];omega
  rw[e] at h;simp[cls,zJ,h1,Bool.cond_eq_ite] at h|-
  first|omega|skip
 ·have e:((j:Int)==(kids.length:Int) - 1)=false:=by rw[QV];omega
  rw[e] at h;simp[cls,zJ,h1,Bool.cond_eq_ite] at h|-
  first|omega|skip
def ar5{k op:Int}{t o:aC}{kids:ak}(h:M.aG k op t o kids=some true):agW k:=by
 by_cases hk:agW k
 ·exact hk
 ·exfalso;have e1:(decide (k>=1) && decide (k<=16))=false:=by
   cases hq:(decide (k>=1) && decide (k<=16)) with
   |false=>rfl
   |true=>rw[zq,decide_eq_true_eq,decide_eq_true_eq] at hq;exact absurd (Or.inl hq) hk
  have e2:(decide (k>=20) && decide (k<=34))=false:=by
   cases hq:(decide (k>=20) && decide (k<=34)) with
   |false=>rfl
   |true=>rw[zq,decide_eq_true_eq,decide_eq_true_eq] at hq;exact absurd (Or.inr (Or.inl hq)) hk
  have e3:(decide (k>=40) && decide (k<=45))=false:=by
   cases hq:(decide (k>=40) && decide (k<=45)) with
   |false=>rfl
   |true=>rw[zq,decide_eq_true_eq,decide_eq_true_eq] at hq;exact absurd (Or.inr (Or.inr hq)) hk
  simp only[M.aG,M.aK,dL,e1,e2,e3,ah,bG] at h;cases hm:M.aZ k op t o kids with
  |none=>rw[hm] at h;cases h
  |some r=>rw[hm,ah] at h;cases h
def aIq{k op:Int}{t o:aC}{kids:ak}(h:M.aG k op t o kids=some true):Cnt k op o kids.length:=by
 have hk:k=1\/k=2\/k=3\/k=4\/k=5\/k=6\/k=7\/k=8\/k=9\/k=10\/k=11\/k=12\/k=13\/k=14\/k=15\/k=16\/k=20\/k=21\/k=22\/k=23\/k=24\/k=25\/k=26\/k=27\/k=28\/k=29\/k=30\/k=31\/k=32\/k=33\/k=34\/k=40\/k=41\/k=42\/k=43\/k=44\/k=45:=by have:=ar5 h;unfold agW at this;omega
 rcases hk with rfl|rfl|rfl|rfl|rfl|rfl|rfl|rfl|rfl|rfl|rfl|rfl|rfl|rfl|rfl|rfl|rfl|rfl|rfl|rfl|rfl|rfl|rfl|rfl|rfl|rfl|rfl|rfl|rfl|rfl|rfl|rfl|rfl|rfl|rfl|rfl|rfl
 ·exact ag5 _ _ _ _ _ h au
 ·exact aSQ _ _ _ _ h
 ·exact aSR _ _ _ _ h
 ·exact aSS _ _ _ _ h
 ·exact ag5 _ _ _ _ _ h au
 ·exact Lj _ _ _ _ _ h au
 ·exact ag5 _ _ _ _ _ h au
 ·exact aST _ _ _ _ h
 ·exact aAA _ _ _ _ _ h au
 ·exact aAA _ _ _ _ _ h au
 ·exact aId _ _ _ _ h
 ·exact aIe _ _ _ _ h
 ·exact ag5 _ _ _ _ _ h au
 ·exact Lj _ _ _ _ _ h au
 ·exact aIf _ _ _ _ h
 ·exact Lj _ _ _ _ _ h au
 ·exact Lj _ _ _ _ _ h au
 ·exact aIg _ _ _ _ h
 ·exact Lj _ _ _ _ _ h au
 ·exact Lj _ _ _ _ _ h au
 ·exact Lj _ _ _ _ _ h au
 ·exact Lj _ _ _ _ _ h au
 ·exact Lj _ _ _ _ _ h au
 ·exact ag5 _ _ _ _ _ h au
 ·exact Lj _ _ _ _ _ h au
 ·exact Lj _ _ _ _ _ h au
 ·exact Lj _ _ _ _ _ h au
 ·exact Lj _ _ _ _ _ h au
 ·exact aIh _ _ _ _ h
 ·exact Lj _ _ _ _ _ h au
 ·exact aIi _ _ _ _ h
 ·exact Lj _ _ _ _ _ h au
 ·exact Lj _ _ _ _ _ h au
 ·exact aIj _ _ _ _ h
 ·exact aIk _ _ _ _ h
 ·exact ag5 _ _ _ _ _ h au
 ·exact Lj _ _ _ _ _ h au
def aIr{k op:Int}{t o:aC}{kids:ak}{j:Nat}{d:Int}(hk:agW k)(hj:j<kids.length)(hl:kids.length<=400)(hc:Cnt k op o kids.length)(h:M.aW k op t o kids (j:Int) d=some true):zJ (cls k op kids.length j) d:=by
 have hk:k=1\/k=2\/k=3\/k=4\/k=5\/k=6\/k=7\/k=8\/k=9\/k=10\/k=11\/k=12\/k=13\/k=14\/k=15\/k=16\/k=20\/k=21\/k=22\/k=23\/k=24\/k=25\/k=26\/k=27\/k=28\/k=29\/k=30\/k=31\/k=32\/k=33\/k=34\/k=40\/k=41\/k=42\/k=43\/k=44\/k=45:=by unfold agW at hk;omega
 rcases hk with rfl|rfl|rfl|rfl|rfl|rfl|rfl|rfl|rfl|rfl|rfl|rfl|rfl|rfl|rfl|rfl|rfl|rfl|rfl|rfl|rfl|rfl|rfl|rfl|rfl|rfl|rfl|rfl|rfl|rfl|rfl|rfl|rfl|rfl|rfl|rfl|rfl
 ·exact Ze _ _ _ _ _ _ _ hj hl hc h au
 ·exact Ze _ _ _ _ _ _ _ hj hl hc h au
 ·exact Ze _ _ _ _ _ _ _ hj hl hc h au
 ·exact Ze _ _ _ _ _ _ _ hj hl hc h au
 ·exact JA _ _ _ _ _ _ _ hj hl hc h au
 ·exact JA _ _ _ _ _ _ _ hj hl hc h au
 ·exact JA _ _ _ _ _ _ _ hj hl hc h au
 ·exact JA _ _ _ _ _ _ _ hj hl hc h au
 ·exact aAB _ _ _ _ _ _ _ hj hl hc h au
 ·exact aAB _ _ _ _ _ _ _ hj hl hc h au
 ·exact JA _ _ _ _ _ _ _ hj hl hc h au
 ·exact JA _ _ _ _ _ _ _ hj hl hc h au
 ·exact JA _ _ _ _ _ _ _ hj hl hc h au
 ·exact JA _ _ _ _ _ _ _ hj hl hc h au
 ·exact auc _ _ _ _ _ _ _ hj hl hc h au
 ·exact Ze _ _ _ _ _ _ _ hj hl hc h au
 ·exact JA _ _ _ _ _ _ _ hj hl hc h au
 ·exact JA _ _ _ _ _ _ _ hj hl hc h au
 ·exact Ze _ _ _ _ _ _ _ hj hl hc h au
 ·exact JA _ _ _ _ _ _ _ hj hl hc h au
 ·exact JA _ _ _ _ _ _ _ hj hl hc h au
 ·exact Ze _ _ _ _ _ _ _ hj hl hc h au
 ·exact Ze _ _ _ _ _ _ _ hj hl hc h au
 ·exact JA _ _ _ _ _ _ _ hj hl hc h au
 ·exact aIl _ _ _ _ _ _ hj hl hc h
 ·exact auc _ _ _ _ _ _ _ hj hl hc h au
 ·exact auc _ _ _ _ _ _ _ hj hl hc h au
 ·exact aIm _ _ _ _ _ _ hj hl hc h
 ·exact JA _ _ _ _ _ _ _ hj hl hc h au
 ·exact JA _ _ _ _ _ _ _ hj hl hc h au
 ·exact Ze _ _ _ _ _ _ _ hj hl hc h au
 ·exact JA _ _ _ _ _ _ _ hj hl hc h au
 ·exact JA _ _ _ _ _ _ _ hj hl hc h au
 ·exact aIn _ _ _ _ _ _ hj hl hc h
 ·exact aIo _ _ _ _ _ _ hj hl hc h
 ·exact aIp _ _ _ _ _ _ hj hl hc h
 ·exact JA _ _ _ _ _ _ _ hj hl hc h au
def abM{α:Type}{p:Nat->α->Bool}:∀{l:List α} {i j:Nat} {x:α},Vs p l i=true->l[j]? =some x->p (i+j) x=true
 |[],_,j,_,_,h=>by simp at h
 |y::l,i,0,x,h,e=>by rw[Vs,zq] at h;cases e;exact h.1
 |y::l,i,j+1,x,h,e=>by
  rw[Vs,zq] at h;rw[List.getElem?_cons_succ] at e;have:=abM h.2 e
  rwa [show i+1+j=i+(j+1) by omega] at this
def aAC{k op:Int}{n:Nat}:∀{ks:List Tn} {j:Nat},(∀i t,ks[i]? =some t->zJ (cls k op n (j+i)) t.kind/\UD t)->oks k op n ks j
 |[],_,_=>by rw[oks];trivial
 |t::ts,j,h=>by
  rw[oks];have h0:=h 0 t rfl;refine⟨h0.1,h0.2,aAC λi u hu=> ?_⟩;have:=h (i+1) u (by rw[List.getElem?_cons_succ];exact hu)
  rwa [show j+(i+1)=j+1+i by omega] at this
def aDQ{l:List Nd}(hall:Vs (np l) l 0=true)(hsm:∀n,n∈l->Small n)(hkl:∀n,n∈l->n.kids.length<=400)(t:Tn):∀b,Lies l b t->UD t:=by
 refine Tn.ind (P:=λt=>∀b,Lies l b t->UD t) ?_ t;intro k op x y ks ih b h;have hr:=h.root;have hm:=Ro hr;have hn:=abM hall hr;unfold np at hn;rw[zq] at hn;have hf:=(aon (hsm _ hm) (hkl _ hm)).1;rw[hn.1] at hf;have hc:=aIq hf;rw[dZ,iP] at hc;have hkn:=ar5 hf;rw[UD];refine⟨hkn,hc,aAC λi u hu=>⟨?_,ih u (Ro hu) _ (Lies.XD h hu)⟩⟩;have he:=Y7 (b:=b) hu;have hlt:=(Po.1 hu).1;have hk:=abM hn.2 he;have hroot:=Lies.root' (Lies.XD h hu);unfold kp at hk;rw[ztn] at hk;have hnd:(ZQ l (b+sizes (ks.take i)+sizes u.kids)).kind=u.kind:=by rw[ZQ,hroot]
 rw[hnd] at hk;have hko:=(atF (hsm _ hm) (hkl _ hm) hn.1 (0+i) (by rw[iP];omega) u.kind).1;rw[hk] at hko;have:=aIr (j:=0+i) hkn (by rw[dZ,iP];omega) (by rw[dZ];exact hkl _ hm) (by rw[dZ,iP];exact hc) hko;rw[dZ,iP] at this;exact this
def Zf{t:Tn}(h:Dk (t.flat 0)=true)(hsm:∀n,n∈t.flat 0->Small n):UD t:=by unfold Dk at h;rw[zq,zq] at h;obtain⟨r,hv⟩:=aom h.1;exact aDQ h.2.2 hsm hv.akv t 0 (Lies.whole t)
def aud{k op:Int}{x y:aC}{a b:ak}(h:a.length=b.length):M.aG k op x y a=M.aG k op x y b:=by simp only[M.aG,M.aK,M.aZ,M.aS,M.bV,M.bD,M.bg,M.aU,h]
def aDR{k op:Int}{x y:aC}{a b:ak}{j d:Int}(h:a.length=b.length):M.aW k op x y a j d=M.aW k op x y b j d:=by simp only[M.aW,M.aX,M.aP,h]
def ar6{k op:Int}{x y:aC}{a b:ak}(hk:k=33\/k=45):M.aG k op x y a=M.aG k op x y b:=by
 have ha:∀a:ak,(decide ((0:Int)<=(a.length:Int)) && decide ((a.length:Int)<=(a.length:Int)))=true:=λa=>by simp
 rcases hk with rfl|rfl
 ·simp only[M.aG,M.aK,M.aZ,M.aS,M.bV,M.bD,M.bg,M.aU,QN,Int.reduceBEq,aH,bG,ah,ha]
 ·simp only[M.aG,M.aK,M.aZ,M.aS,M.bV,M.bD,M.bg,M.aU,QN,Int.reduceBEq,aH,bG,ah,ha]
def aAD{k op:Int}{x y:aC}{a b:ak}{i j d:Int}(hk:k=33\/k=45):M.aW k op x y a i d=M.aW k op x y b j d:=by rcases hk with rfl|rfl<;>simp only[M.aW,M.aX,M.aP,Int.reduceBEq,aH,bG]
def aoL{k op:Int}{x y:aC}{a b:List Int}(h:a.length=b.length):fOk ⟨k,op,x,y,a⟩=fOk ⟨k,op,x,y,b⟩:=by unfold fOk;rw[aud (a:=encI a) (b:=encI b) (by rw[dZ,dZ,h])]
def aoM{k op:Int}{x y:aC}{a b:List Int}{j d:Int}(h:a.length=b.length):kOk ⟨k,op,x,y,a⟩ j d=kOk ⟨k,op,x,y,b⟩ j d:=by unfold kOk;rw[aDR (a:=encI a) (b:=encI b) (by rw[dZ,dZ,h])]
def aAE{k op:Int}{x y:aC}{a b:List Int}(hk:k=33\/k=45):fOk ⟨k,op,x,y,a⟩=fOk ⟨k,op,x,y,b⟩:=by unfold fOk;rw[ar6 (a:=encI a) (b:=encI b) hk]
def aAF{k op:Int}{x y:aC}{a b:List Int}{i j d:Int}(hk:k=33\/k=45):kOk ⟨k,op,x,y,a⟩ i d=kOk ⟨k,op,x,y,b⟩ j d:=by unfold kOk;rw[aAD (a:=encI a) (b:=encI b) (i:=i) (j:=j) hk]
mutual
def H6:Tn->Prop
 | .mk k op x y ks=>fOk ⟨k,op,x,y,ends ks 0⟩=true/\(∀(j:Nat) (u:Tn),ks[j]? =some u->kOk ⟨k,op,x,y,ends ks 0⟩ j u.kind=true)/\ag6 ks
def ag6:List Tn->Prop
 |[]=>True
 |t::ts=>H6 t/\ag6 ts
end
def Sv:∀{ks:List Tn},ag6 ks↔∀t,t∈ks->H6 t
 |[]=>by rw[ag6];simp
 |t::ts=>by rw[ag6,Sv];simp
def afW(ks:List Tn)(b c:Nat):(ends ks b).length=(ends ks c).length:=by rw[iP,iP]
def ano{l:List Nd}{b:Nat}{t:Tn}(h:Lies l b t):(ZQ l (b+sizes t.kids)).kind=t.kind:=by rw[ZQ,Lies.root' h]
def aIs{l:List Nd}(hall:Vs (np l) l 0=true)(t:Tn):∀b,Lies l b t->H6 t:=by
 refine Tn.ind (P:=λt=>∀b,Lies l b t->H6 t) ?_ t;intro k op x y ks ih b h;have hr:=h.root;have hn:=abM hall hr;unfold np at hn;rw[zq] at hn;rw[H6];refine⟨by rw[aoL (afW ks 0 b)];exact hn.1,λj u hj=> ?_,Sv.2 λu hu=> ?_⟩
 ·have:=abM hn.2 (Y7 (b:=b) hj);unfold kp at this;rw[ztn,ano (Lies.XD h hj),Nat.zero_add] at this;rw[aoM (afW ks 0 b)];exact this
 ·obtain⟨i,hi,hx⟩:=List.mem_iff_getElem.1 hu;exact ih u hu _ (Lies.XD h (Po.2 ⟨hi,hx⟩))
def akW{α:Type}{p:Nat->α->Bool}:∀{l:List α} {i:Nat},(∀j x,l[j]? =some x->p (i+j) x=true)->Vs p l i=true
 |[],i,h=>rfl
 |y::l,i,h=>by rw[Vs,zq];exact⟨h 0 y rfl,akW λj x hx=>by have:=h (j+1) x (by simpa using hx);rwa [show i+1+j=i+(j+1) by omega]⟩
def akX:∀(ks:List Tn) (m:Nat),m<sizes ks->∃a t c,ks=a++t::c/\sizes a<=m/\m<sizes a+t.size
 |[],m,h=>by simp[sizes] at h
 |t::ts,m,h=>by
  rw[sizes] at h
  by_cases hm:m<t.size
  ·exact⟨[],t,ts,rfl,by simp[sizes],by simp only[sizes];omega⟩
  ·obtain⟨a,u,c,h1,h2,h3⟩:=akX ts (m - t.size) au;refine⟨t::a,u,c,by rw[h1];rfl, ?_, ?_⟩<;>rw[sizes]<;>omega
def aDS{l:List Nd}:∀(t:Tn) (b:Nat),Lies l b t->H6 t->∀i,b<=i->i<b+t.size->∃u c,Lies l c u/\H6 u/\c+sizes u.kids=i:=by
 intro t;induction t using Tn.ind with
 |h k o x y ks ih=>
  intro b h hg i h1 h2;rw[Tn.size] at h2
  by_cases he:i=b+sizes ks
  ·exact⟨_,b,h,hg,he.symm⟩
  ·obtain⟨a,t,c,e,h3,h4⟩:=akX ks (i - b) au;subst e;rw[H6] at hg;exact ih t (by simp) (b+sizes a) h.kid (Sv.1 hg.2.2 t (by simp)) i au au
def aSU{T:Tn}(hg:H6 T):Vs (np (T.flat 0)) (T.flat 0) 0=true:=by
 refine akW λi n hn=> ?_
 have hi:=(Po.1 hn).1;rw[T.flat_length] at hi;obtain⟨u,c,h1,h2,h3⟩:=aDS T 0 (Lies.whole T) hg i (Nat.zero_le _) au;have hr:=Lies.root' h1;rw[h3,hn] at hr;obtain⟨k,op,x,y,ks⟩:=u;simp only[Tn.kind,Tn.op,Tn.text,Tn.other,Tn.kids,kU] at hr;subst hr;rw[H6] at h2;unfold np;rw[zq];refine⟨by rw[aoL (afW ks c 0)];exact h2.1,akW λj e he=> ?_⟩;have hjl:=(Po.1 he).1;rw[iP] at hjl;obtain⟨u,hu⟩:∃u,ks[j]? =some u:=⟨ks[j],by simp[hjl]⟩
 have h4:=Y7 (b:=c) hu;rw[he] at h4;simp only[kU] at h4;subst h4;unfold kp;rw[ztn,ano (Lies.XD h1 hu),Nat.zero_add,aoM (afW ks c 0)];exact h2.2.1 j u hu
def aFA:∀(l:List Int) (a:Int),a<=mx a l/\∀x,x∈l->x<=mx a l
 |[],a=>⟨Int.le_refl _,by simp⟩
 |y::l,a=>by
  rw[mx];obtain⟨h1,h2⟩:=aFA l (bif decide (a<y) then y else a);have:a<=(bif decide (a<y) then y else a)/\y<=(bif decide (a<y) then y else a):=by
   by_cases c:a<y
   ·rw[zdt c,aH];omega
   ·rw[xE c,bG];omega
  refine⟨au,λx hx=> ?_⟩;rcases List.mem_cons.1 hx with rfl|hx
  ·omega
  ·exact h2 x hx
def ab2:∀(ks:List Tn) (a:Int),depths a ks=mx a (ks.map Tn.depth)
 |[],a=>by rw[depths];rfl
 |t::ts,a=>by rw[depths,ab2 ts];rfl
def axo{l:List Nd}:∀(t:Tn) (b:Nat),Lies l b t->∀f,t.size<=f->dep l f (b+sizes t.kids)=t.depth:=by
 intro t;induction t using Tn.ind with
 |h k op x y ks ih=>
  intro b h f hf;rw[Tn.size] at hf;obtain⟨f,rfl⟩:∃g,f=g+1:=⟨f - 1,au⟩
  have e:(ends ks b).map (λk=>dep l f k.toNat)=ks.map Tn.depth:=by
   apply List.ext_getElem?;intro j;rw[List.getElem?_map,List.getElem?_map];cases hu:ks[j]? with
   |none=>
    have:(ends ks b)[j]? =none:=by rw[List.getElem?_eq_none_iff] at hu|-;rw[iP];exact hu
    rw[this];rfl
   |some u=>rw[Y7 (b:=b) hu];have hm:=Ro hu;have hs:=BL hm;simp only[MS,ztn];rw[ih u hm _ (Lies.XD h hu) f au]
  rw[Tn.kids,dep,MP h.root,Tn.depth,ab2,<-e]
mutual
def Q7:Tn->Prop
 | .mk _ _ x y ks=>(x.length<=1048576/\y.length<=1048576)/\JB ks
def JB:List Tn->Prop
 |[]=>True
 |t::ts=>Q7 t/\JB ts
end
mutual
def aiS:∀(t:Tn) (b:Nat),Q7 t↔∀n,n∈t.flat b->Small n
 | .mk k o x y ks,b=>by
  rw[Q7,ar7 ks b,Tn.flat];constructor
  ·rintro⟨⟨h1,h2⟩,h3⟩ n hn;rcases List.mem_append.1 hn with hn|hn
   ·exact h3 n hn
   ·simp only[List.mem_singleton] at hn;subst hn;exact⟨h1,h2⟩
  ·intro h;have h1:=h ⟨k,o,x,y,ends ks b⟩ (by simp);exact⟨⟨h1.text,h1.other⟩,λn hn=>h n (List.mem_append_left _ hn)⟩
def ar7:∀(ks:List Tn) (b:Nat),JB ks↔∀n,n∈lX ks b->Small n
 |[],b=>by simp[JB,lX]
 |t::ts,b=>by
  rw[JB,aiS t b,ar7 ts (b+t.size),lX];constructor
  ·rintro⟨h1,h2⟩ n hn;rcases List.mem_append.1 hn with hn|hn
   ·exact h1 n hn
   ·exact h2 n hn
  ·intro h;exact⟨λn hn=>h n (List.mem_append_left _ hn),λn hn=>h n (List.mem_append_right _ hn)⟩
end
def UO(nt:dO):Prop:=∀s,s∈nt->s.length<=1048576
def Ll:∀a b:List Tn,JB a->JB b->JB (a++b)
 |[],b,_,h=>h
 |t::a,b,h1,h2=>⟨h1.1,Ll a b h1.2 h2⟩
def good{α:Type}(S:α->Prop):PR α->Prop:=λp=>p.sat λx _ m=>S x/\UO m
section
variable {l:List Tk} {α β:Type} {S:α->Prop} {S':β->Prop}
def oK{p:PR α}{f:α->Nat->dO->PR β}(h:good S p)(hf:∀x j m,S x->UO m->good S' (f x j m)):good S' (p.bind f):=by
 cases p with
 |ok x j m=>exact hf x j m h.1 h.2
 |bad j=>trivial
 |out=>trivial
def tu{c:Bool}{p q:PR α}(h1:good S p)(h2:good S q):good S (bif c then p else q):=by cases c with|true=>exact h1|false=>exact h2
def Yy{k:Int}{i:Nat}{nt:dO}(h:UO nt):good (λ_:Unit=>True) (o7 l k i nt):=by
 unfold o7;cases dP l i==k with
 |true=>exact⟨trivial,h⟩
 |false=>trivial
def anp(hx:∀i,(Np l i).length<=1048576){i:Nat}{nt:dO}(h:UO nt):good (λs:aC=>s.length<=1048576) (nameP l i nt):=by
 unfold nameP;cases dP l i==6 with
 |true=>exact⟨hx i,h⟩
 |false=>trivial
end
def SX(x:Xp):Prop:=Q7 x.1
def aiT:∀(r:List Tk) (i:Nat) (nt:dO),(∀t,t∈r->t.text.length<=1048576)->UO nt->UO (nlR r i nt).2
 |[],i,nt,_,h=>by rw[nlR];exact h
 |t::r,i,nt,hr,h=>by
  have hr':∀u,u∈r->u.text.length<=1048576:=λu hu=>hr u (zmm _ hu)
  have h2:UO (nt++[t.text]):=λs hs=>by
   rcases List.mem_append.1 hs with hs|hs
   ·exact h s hs
   ·rw[List.mem_singleton] at hs;rw[hs];exact hr t zmf
  rw[nlR];cases t.kind==1<;>cases t.kind==2<;>simp only[aH,bG]
  ·exact h
  ·exact aiT r (i+1) _ hr' h2
  ·exact aiT r (i+1) nt hr' h
  ·exact aiT r (i+1) nt hr' h
def afX:∀(r:List Tk) (i:Nat) (nt:dO),(∀t,t∈r->t.text.length<=1048576)->UO nt->UO (Ux r i nt).2
 |[],i,nt,_,h=>by rw[Ux];exact h
 |t::r,i,nt,hr,h=>by
  have hr':∀u,u∈r->u.text.length<=1048576:=λu hu=>hr u (zmm _ hu)
  have h2:UO (nt++[t.text]):=λs hs=>by
   rcases List.mem_append.1 hs with hs|hs
   ·exact h s hs
   ·rw[List.mem_singleton] at hs;rw[hs];exact hr t zmf
  rw[Ux];cases(t.kind==1||t.kind==37)<;>cases t.kind==2<;>simp only[aH,bG]
  ·exact h
  ·exact afX r (i+1) _ hr' h2
  ·exact afX r (i+1) nt hr' h
  ·exact afX r (i+1) nt hr' h
def ahU(x a b:Int)(h:a<=x/\x<=b):(decide (x>=a) && decide (x<=b))=true:=by rw[zq,decide_eq_true_eq,decide_eq_true_eq];exact h
def aIt{k op:Int}{x y:aC}{kids:ak}(h:Fld k op x y kids.length)(hx:x.length<=1048576)(hy:y.length<=1048576)(hl:kids.length<=400):M.aG k op x y kids=some true:=by
 have hN:=(Yq x hx).1;have hM:=(Yq y hy).1;have hB:=(MO x).1;have hT:∀q:Int,2<=q->q<=5->M.nJ q x 0=some (tX q x):=λq h1 h2=>(aeR q x 0 hx ⟨au,au⟩).1
 generalize hn:kids.length=n at h;cases h with
 |name hx=>simp only[M.aG,M.aK,M.aZ,M.aS,M.bV,M.bD,M.bg,M.aU,dL,hN,hx,hn,ah];rfl
 |tok hk hx=>
  have h3:=hT 3 au au;have h4:=hT 4 au au;have h5:=hT 5 au au;rcases hk with rfl|rfl|rfl
  ·have hx:tX 3 x=true:=hx;simp only[M.aG,M.aK,M.aZ,M.aS,M.bV,M.bD,M.bg,M.aU,dL,h3,hx,hn,ah];rfl
  ·have hx:tX 4 x=true:=hx;simp only[M.aG,M.aK,M.aZ,M.aS,M.bV,M.bD,M.bg,M.aU,dL,h4,hx,hn,ah];rfl
  ·have hx:tX 5 x=true:=hx;simp only[M.aG,M.aK,M.aZ,M.aS,M.bV,M.bD,M.bg,M.aU,dL,h5,hx,hn,ah];rfl
 |index hk hx h1 h6=>have e:=ahU (n:Int) 1 6 au;rcases hk with rfl|rfl<;>simp only[M.aG,M.aK,M.aZ,M.aS,M.bV,M.bD,M.bg,M.aU,dL,hN,hx,hn,ah,Int.reduceBEq,aH,bG,e]<;>rfl
 |call hk hx h6=>have e:=ahU (n:Int) 0 6 au;rcases hk with rfl|rfl<;>simp only[M.aG,M.aK,M.aZ,M.aS,M.bV,M.bD,M.bg,M.aU,dL,hN,hx,hn,ah,Int.reduceBEq,aH,bG,e]<;>rfl
 |blt hx h6=>have e:=ahU (n:Int) 0 6 au;simp only[M.aG,M.aK,M.aZ,M.aS,M.bV,M.bD,M.bg,M.aU,dL,hB,hx,hn,ah,Int.reduceBEq,aH,bG,e];rfl
 |one hk=>rcases hk with rfl|rfl|rfl|rfl<;>simp only[M.aG,M.aK,M.aZ,M.aS,M.bV,M.bD,M.bg,M.aU,dL,hn,ah]<;>rfl
 |step hk hop=>rcases hk with rfl|rfl<;>rcases hop with rfl|rfl<;>simp only[M.aG,M.aK,M.aZ,M.aS,M.bV,M.bD,M.bg,M.aU,dL,hn,ah]<;>rfl
 |una hop=>rcases hop with rfl|rfl|rfl<;>simp only[M.aG,M.aK,M.aZ,M.aS,M.bV,M.bD,M.bg,M.aU,dL,hn,ah]<;>rfl
 |bin hop=>have hb:=(Di op).1;rw[hop] at hb;simp only[M.aG,M.aK,M.aZ,M.aS,M.bV,M.bD,M.bg,M.aU,dL,hb,hn,ah];rfl
 |cond=>simp only[M.aG,M.aK,M.aZ,M.aS,M.bV,M.bD,M.bg,M.aU,dL,hn,ah];rfl
 |asg hop=>have hb:=(pJ op).1;rw[hop] at hb;simp only[M.aG,M.aK,M.aZ,M.aS,M.bV,M.bD,M.bg,M.aU,dL,hb,hn,ah];rfl
 |none hk=>rcases hk with rfl|rfl|rfl|rfl<;>simp only[M.aG,M.aK,M.aZ,M.aS,M.bV,M.bD,M.bg,M.aU,dL,hn,ah]<;>rfl
 |prn hop h1 h6=>have e:=ahU (n:Int) op 6 au;rcases hop with rfl|rfl<;>simp only[M.aG,M.aK,M.aZ,M.aS,M.bV,M.bD,M.bg,M.aU,dL,hn,ah]<;>exact congrArg some e
 |prt hop hy h1 h7=>have e:=ahU (n:Int) (op+1) 7 au;rcases hop with rfl|rfl<;>rcases hy with rfl|rfl|rfl<;>simp only[M.aG,M.aK,M.aZ,M.aS,M.bV,M.bD,M.bg,M.aU,dL,hn,ah]<;>exact congrArg some e
 |word hk h1=>have e:=ahU (n:Int) 0 1 au;rcases hk with rfl|rfl<;>simp only[M.aG,M.aK,M.aZ,M.aS,M.bV,M.bD,M.bg,M.aU,dL,hn,ah,Int.reduceBEq,aH,bG,e]<;>rfl
 |if_ h=>rcases h with rfl|rfl<;>simp only[M.aG,M.aK,M.aZ,M.aS,M.bV,M.bD,M.bg,M.aU,dL,hn,ah]<;>rfl
 |two hk=>rcases hk with rfl|rfl<;>simp only[M.aG,M.aK,M.aZ,M.aS,M.bV,M.bD,M.bg,M.aU,dL,hn,ah]<;>rfl
 |for_=>simp only[M.aG,M.aK,M.aZ,M.aS,M.bV,M.bD,M.bg,M.aU,dL,hn,ah];rfl
 |aAy h1 h2=>simp only[M.aG,M.aK,M.aZ,M.aS,M.bV,M.bD,M.bg,M.aU,dL,hN,h1,hM,h2,hn,ah];rfl
 |many hk=>have e:=ahU (n:Int) 0 (n:Int) au;rcases hk with rfl|rfl<;>simp only[M.aG,M.aK,M.aZ,M.aS,M.bV,M.bD,M.bg,M.aU,dL,hn,ah,Int.reduceBEq,aH,bG,e]<;>rfl
 |com hx=>have h2:=hT 2 au au;simp only[M.aG,M.aK,M.aZ,M.aS,M.bV,M.bD,M.bg,M.aU,dL,h2,hx,hn,ah];rfl
 |rule h=>rcases h with⟨rfl|rfl,rfl⟩|⟨rfl,rfl⟩<;>simp only[M.aG,M.aK,M.aZ,M.aS,M.bV,M.bD,M.bg,M.aU,dL,hn,ah]<;>rfl
 |range h=>rcases h with⟨rfl,rfl⟩|⟨rfl,rfl⟩<;>simp only[M.aG,M.aK,M.aZ,M.aS,M.bV,M.bD,M.bg,M.aU,dL,hn,ah]<;>rfl
 |func hx h1 h7=>have e:=ahU (n:Int) 1 7 au;simp only[M.aG,M.aK,M.aZ,M.aS,M.bV,M.bD,M.bg,M.aU,dL,hN,hx,hn,ah,Int.reduceBEq,aH,bG,e];rfl
def aDT{k op:Int}{x y:aC}{kids:ak}{j:Nat}{d:Int}(h:Fld k op x y kids.length)(hj:j<kids.length)(hl:kids.length<=400)(hc:zJ (cls k op kids.length j) d):M.aW k op x y kids (j:Int) d=some true:=by
 have hw:i64.wrap ((kids.length:Int) - 1)=(kids.length:Int) - 1:=aJ au au;have hE:zJ 0 d->IX d=true:=λh=>by unfold IX;rw[zq,decide_eq_true_eq,decide_eq_true_eq];exact h
 have e0:cls k op kids.length j=0->IX d=true:=λe=>hE (by rw[<-e];exact hc)
 have e1:cls k op kids.length j=1->d=33:=λe=>by rw[e] at hc;exact hc
 have e6:cls k op kids.length j=6->Pn d=true:=λe=>by rw[e] at hc;have hc:d=1\/d=5\/d=6:=hc;rcases hc with h|h|h<;>subst h<;>rfl
 have Wp:(k=5\/k=6\/k=7\/k=8\/k=11\/k=12\/k=13\/k=14\/k=20\/k=21\/k=23\/k=24\/k=27)->M.aW k op x y kids (j:Int) d=some true:=λhk=>by have hc0:cls k op kids.length j=0:=aAz au _ _ _;have hx:=e0 hc0;rcases hk with h|h|h|h|h|h|h|h|h|h|h|h|h<;>subst h<;>simp only[M.aW,M.aX,M.aP,eH,hx,ah,Int.reduceBEq,bG]
 generalize hn:kids.length=n at h hj hl hc hw e0 e1 e6;cases h with
 |name=>omega
 |tok=>omega
 |index hk _ _ _=>exact Wp au
 |call hk _ _=>exact Wp au
 |blt _ _=>exact Wp au
 |one hk=>
  rcases hk with rfl|rfl|rfl|rfl
  ·exact Wp au
  ·exact Wp au
  ·have:=e1 rfl;subst this;simp only[M.aW,M.aX,M.aP,ah];rfl
  ·have:=e1 rfl;subst this;simp only[M.aW,M.aX,M.aP,ah];rfl
 |step hk _=>have hx:=e6 (by unfold cls;rw[if_pos au]);rcases hk with rfl|rfl<;>simp only[M.aW,M.aX,M.aP,eu,hx,ah,Int.reduceBEq,aH,bG]
 |una _=>exact Wp au
 |bin _=>exact Wp au
 |cond=>exact Wp au
 |asg _=>
  have hj2:j=0\/j=1:=au;rcases hj2 with rfl|rfl
  ·have hx:=e6 rfl;have hy:IX d=true:=by have hc:d=1\/d=5\/d=6:=hc;rcases hc with h|h|h<;>subst h<;>rfl
   simp only[M.aW,M.aX,M.aP,eu,eH,hx,hy,ah,Int.reduceBEq,aH,bG];rfl
  ·have hx:=e0 rfl;simp only[M.aW,M.aX,M.aP,eu,eH,hx,ah,Int.reduceBEq,aH,bG];rfl
 |none=>omega
 |prn _ _ _=>exact Wp au
 |prt _ _ _ _=>exact Wp au
 |word hk _=>exact Wp au
 |if_ hn2=>
  by_cases h0:j=0
  ·subst h0;have hx:=e0 (by unfold cls;rw[if_neg au,if_pos au,if_pos rfl]);simp only[M.aW,M.aX,M.aP,eH,hx,ah,Int.reduceBEq,aH,bG];rfl
  ·have:=e1 (by unfold cls;rw[if_neg au,if_pos au,if_neg h0]);subst this;simp only[M.aW,M.aX,M.aP,ah,Int.reduceBEq,aH,bG];rw[QV.2 (show((j:Nat):Int)≠0 by omega),zdt (show((j:Nat):Int)>0 by omega)];rfl
 |two hk=>
  have hj2:j=0\/j=1:=au;rcases hk with rfl|rfl<;>rcases hj2 with rfl|rfl
  ·have hx:=e0 rfl;simp only[M.aW,M.aX,M.aP,eH,hx,ah,Int.reduceBEq,aH,bG];rfl
  ·have:=e1 rfl;subst this;simp only[M.aW,M.aX,M.aP,ah];rfl
  ·have:=e1 rfl;subst this;simp only[M.aW,M.aX,M.aP,ah];rfl
  ·have hx:=e0 rfl;simp only[M.aW,M.aX,M.aP,eH,hx,ah,Int.reduceBEq,aH,bG];rfl
 |for_=>
  by_cases h3:j<3
  ·have hq:d=16\/(1<=d/\d<=15):=by
    have e:cls 31 0 4 j=3:=by unfold cls;repeat(first|rw[if_pos au]|rw[if_neg au])
    rw[e] at hc;exact hc
   simp only[M.aW,M.aX,M.aP,eH,ah,Int.reduceBEq,aH,bG];rw[zdt (show((j:Nat):Int)<3 by omega),aH];rcases hq with h|h
   ·subst h;rfl
   ·rw[hE h];rfl
  ·have:=e1 (by unfold cls;repeat(first|rw[if_pos au]|rw[if_neg au]));subst this;simp only[M.aW,M.aX,M.aP,ah,Int.reduceBEq,aH,bG];rw[xE (show¬((j:Nat):Int)<3 by omega),show(((j:Nat):Int)==3)=true by rw[beq_iff_eq];omega];rfl
 |aAy _ _=>have:=e1 rfl;subst this;simp only[M.aW,M.aX,M.aP,ah];rfl
 |many hk=>
  rcases hk with rfl|rfl
  ·have hx:acr d=true:=by unfold acr;rw[zq,decide_eq_true_eq,decide_eq_true_eq];exact hc
   simp only[M.aW,M.aX,M.aP,iF,hx,ah,Int.reduceBEq,aH,bG]
  ·have hx:(40<=d/\d<=44)\/d=34:=hc;simp only[M.aW,M.aX,M.aP,iG,ah,Int.reduceBEq,aH,bG];rcases hx with h|h
   ·have:isIt d=true:=by unfold isIt;rw[zq,decide_eq_true_eq,decide_eq_true_eq];exact h
    rw[this];rfl
   ·subst h;rfl
 |com=>omega
 |rule hr=>
  rcases hr with⟨rfl|rfl,rfl⟩|⟨rfl,rfl⟩
  ·have hx:=e0 (by have e:j=0:=au;subst e;rfl);simp only[M.aW,M.aX,M.aP,eH,hx,ah,Int.reduceBEq,aH,bG]
  ·have:=e1 (by have e:j=0:=au;subst e;rfl);subst this;simp only[M.aW,M.aX,M.aP,ah];rfl
  ·have hj2:j=0\/j=1:=au;rcases hj2 with rfl|rfl
   ·have hx:=e0 rfl;have h33:(d==33)=false:=by rw[QV];intro e;rw[e] at hx;cases hx
    simp only[M.aW,M.aX,M.aP,M.aP,eH,hx,hn,hw,h33,ah,Int.reduceBEq,aH,bG];rfl
   ·have:=e1 rfl;subst this;simp only[M.aW,M.aX,M.aP,M.aP,hn,hw,ah];rfl
 |range hr=>
  rcases hr with⟨rfl,rfl⟩|⟨rfl,rfl⟩
  ·have hj2:j=0\/j=1:=au;rcases hj2 with rfl|rfl
   ·have hx:=e0 rfl;simp only[M.aW,M.aX,M.aP,eH,hx,ah,Int.reduceBEq,aH,bG];rfl
   ·have hx:=e0 rfl;simp only[M.aW,M.aX,M.aP,eH,hx,ah,Int.reduceBEq,aH,bG];rfl
  ·have hj2:j=0\/j=1\/j=2:=au;rcases hj2 with rfl|rfl|rfl
   ·have hx:=e0 rfl;simp only[M.aW,M.aX,M.aP,eH,hx,ah,Int.reduceBEq,aH,bG];rfl
   ·have hx:=e0 rfl;simp only[M.aW,M.aX,M.aP,eH,hx,ah,Int.reduceBEq,aH,bG];rfl
   ·have:=e1 rfl;subst this;simp only[M.aW,M.aX,M.aP,ah];rfl
 |func _ _ _=>
  by_cases hlast:j+1=n
  ·have:=e1 (by unfold cls;repeat(first|rw[if_pos au]|rw[if_neg au]));subst this;simp only[M.aW,M.aX,M.aP,hn,hw,ah,Int.reduceBEq,aH,bG];rw[show(((j:Nat):Int)==(n:Int) - 1)=true by rw[beq_iff_eq];omega];rfl
  ·have hq:d=1:=by
    have e:cls 44 0 n j=4:=by unfold cls;repeat(first|rw[if_pos au]|rw[if_neg au])
    rw[e] at hc;exact hc
   subst hq;simp only[M.aW,M.aX,M.aP,hn,hw,ah,Int.reduceBEq,aH,bG];rw[show(((j:Nat):Int)==(n:Int) - 1)=false by rw[QV];omega];rfl
def ar8:∀{ks:List Tn} {u:Tn},JB ks->u∈ks->Q7 u
 |t::ts,u,h,hu=>by
  rcases List.mem_cons.1 hu with rfl|hu
  ·exact h.1
  ·exact ar8 h.2 hu
def aDU(t:Tn):Zd t->Q7 t->t.size<=400->H6 t:=by
 refine Tn.ind (P:=λt=>Zd t->Q7 t->t.size<=400->H6 t) ?_ t;intro k op x y ks ih hr hs hz;rw[Zd] at hr;rw[Tn.size] at hz;obtain⟨hf,hk⟩:=hr;obtain⟨⟨hx,hy⟩,hsk⟩:=hs;have hlen:=zV ks;have hl:(encI (ends ks 0)).length=ks.length:=by rw[dZ,iP]
 have hf':Fld k op x y (encI (ends ks 0)).length:=by rw[hl];exact hf
 rw[H6];refine⟨?_,λj u hu=> ?_,Sv.2 λu hu=>ih u hu ?_ ?_ ?_⟩
 ·unfold fOk;rw[aIt hf' hx hy au];rfl
 ·have hj:=(Po.1 hu).1;have h1:=(aoJ hk hu).1;rw[Nat.zero_add] at h1;unfold kOk;rw[aDT hf' (j:=j) au au (by rw[hl];exact h1)];rfl
 ·obtain⟨j,hj,hxj⟩:=List.mem_iff_getElem.1 hu;exact(aoJ hk (Po.2 ⟨hj,hxj⟩)).2
 ·exact ar8 hsk hu
 ·have:=BL hu;omega
def aue{t:Tn}(h:Zd t)(hs:Q7 t)(hz:t.size<=400)(hd:depth (t.flat 0)<=40):Dk (t.flat 0)=true:=by unfold Dk;rw[ajP hz,zdt hd,aSU (aDU t h hs hz)];rfl
end Go.Proofs.YtgealgmioiepeaaGreatDoor
namespace Go.Proofs.YtgealgmioiepeaaGreatDoor
open Go Go.Vm
open Int (reduceLE reduceLT reduceSub reduceAdd)
def Uz(nt:dO):Prop:=∀s,s∈nt->tX 2 s=true
def gr{α:Type}(S:α->Prop):PR α->Prop:=λp=>p.sat λx _ m=>S x/\Uz m
section
variable {l:List Tk} {α β:Type} {S:α->Prop} {S':β->Prop}
def dD{p:PR α}{f:α->Nat->dO->PR β}(h:gr S p)(hf:∀x j m,S x->Uz m->gr S' (f x j m)):gr S' (p.bind f):=by
 cases p with
 |ok x j m=>exact hf x j m h.1 h.2
 |bad j=>trivial
 |out=>trivial
def iI{c:Bool}{p q:PR α}(h1:c=true->gr S p)(h2:c=false->gr S q):gr S (bif c then p else q):=by cases c with|true=>exact h1 rfl|false=>exact h2 rfl
def Bc{k:Int}{i:Nat}{nt:dO}(h:Uz nt):gr (λ_:Unit=>True) (o7 l k i nt):=by
 unfold o7;cases dP l i==k with
 |true=>exact⟨trivial,h⟩
 |false=>trivial
def afY(hx:acs l){i:Nat}{nt:dO}(h:Uz nt):gr (λs:aC=>yD s=true) (nameP l i nt):=by
 unfold nameP;cases hk:dP l i==6 with
 |true=>rw[beq_iff_eq] at hk;exact⟨anm hx hk (.inl rfl),h⟩
 |false=>trivial
def kY{x:α}{j:Nat}{nt:dO}(hx:S x)(hn:Uz nt):gr S (.ok x j nt):=⟨hx,hn⟩
end
def SR(x:Xp):Prop:=rxT x.1
def SL(a b:Nat)(L:List Tn):Prop:=(∀t,t∈L->rxT t)/\a<=L.length/\L.length<=b
def aoN:∀(r:List Tk) (i:Nat) (nt:dO),acs r->Uz nt->Uz (nlR r i nt).2
 |[],i,nt,_,h=>by rw[nlR];exact h
 |t::r,i,nt,hr,h=>by
  have hr':acs r:=λu hu=>hr u (zmm _ hu)
  rw[nlR];cases h1:t.kind==1 with
  |true=>exact aoN r (i+1) nt hr' h
  |false=>
   cases h2:t.kind==2 with
   |false=>exact h
   |true=>
    refine aoN r (i+1) _ hr' λs hs=> ?_
    rcases List.mem_append.1 hs with hs|hs
    ·exact h s hs
    ·rw[List.mem_singleton] at hs;have:=hr t zmf;rw[beq_iff_eq] at h2;rw[h2] at this;rw[hs];exact this
def akY:∀(r:List Tk) (i:Nat) (nt:dO),acs r->Uz nt->Uz (Ux r i nt).2
 |[],i,nt,_,h=>by rw[Ux];exact h
 |t::r,i,nt,hr,h=>by
  have hr':acs r:=λu hu=>hr u (zmm _ hu)
  rw[Ux];cases h1:(t.kind==1||t.kind==37) with
  |true=>exact akY r (i+1) nt hr' h
  |false=>
   cases h2:t.kind==2 with
   |false=>exact h
   |true=>
    refine akY r (i+1) _ hr' λs hs=> ?_
    rcases List.mem_append.1 hs with hs|hs
    ·exact h s hs
    ·rw[List.mem_singleton] at hs;have:=hr t zmf;rw[beq_iff_eq] at h2;rw[h2] at this;rw[hs];exact this
section
variable {l:List Tk} (hT:acs l)
include hT
theorem abN{i:Nat}{nt:dO}(hn:Uz nt):Uz (nl l i nt).2:=aoN _ _ _ (λt ht=>hT t (List.mem_of_mem_drop ht)) hn
theorem aiU{i:Nat}{nt:dO}(hn:Uz nt):Uz (sep l i nt).2:=akY _ _ _ (λt ht=>hT t (List.mem_of_mem_drop ht)) hn
end
structure Gr(l:List Tk)(n:Nat):Prop where
 ex:∀lv a b i nt,Uz nt->gr SR (ex l n lv a b i nt)
 lv:∀a b i nt,dP l i=6\/dP l i=68->Uz nt->gr (λx:Xp=>Pn x.1.kind=true) (Go.Proofs.YtgealgmioiepeaaGreatDoor.ex l n 14 a b i nt)
 lv':∀a b i nt,dP l i=6->Uz nt->gr (λx:Xp=>Pn x.1.kind=true) (Go.Proofs.YtgealgmioiepeaaGreatDoor.ex l n 15 a b i nt)
 ch:∀lv a b x i nt,1<=lv->SR x->Uz nt->gr SR (chP l n lv a b x i nt)
 inp:∀a x i nt,SR x->Uz nt->gr SR (inP l n a x i nt)
 pre:∀i nt,isStep (dP l i)=true->Uz nt->gr SR (UM l n i nt)
 lst:∀e i nt,Uz nt->gr (SL (if dP l i=e then 0 else 1) 6) (QT l n e i nt)
 it:∀a b L i nt,SL 0 5 L->Uz nt->gr (SL 1 6) (Ua l n a b L i nt)
def aIu{α:Type}{S S':α->Prop}{p:PR α}(h:gr S p)(k:gr S' p):gr (λx=>S x/\S' x) p:=by
 cases p with
 |ok x j m=>exact⟨⟨h.1,k.1⟩,h.2⟩
 |bad j=>trivial
 |out=>trivial
def avH{α:Type}{S S':α->Prop}{p:PR α}(h:gr S p)(k:∀x,S x->S' x):gr S' p:=by
 cases p with
 |ok x j m=>exact⟨k x h.1,h.2⟩
 |bad j=>trivial
 |out=>trivial
def anq{k:Int}(h:isStep k=true):k=51\/k=52:=by unfold isStep at h;rw[Bool.or_eq_true,beq_iff_eq,beq_iff_eq] at h;exact h
def aAG{l:List Tk}{i:Nat}(hk:dP l i=32)(ha:ahead (l.drop i) 0=true):dP l (i+1)≠33:=by
 intro h33;unfold dP at hk h33;cases h1:l[i]? with
 |none=>rw[h1] at hk;simp at hk
 |some t=>
  cases h2:l[i+1]? with
  |none=>rw[h2] at h33;simp at h33
  |some u=>
   rw[h1] at hk;rw[h2] at h33;simp only at hk h33;have l1:=(Po.1 h1)
   have l2:=(Po.1 h2)
   rw[List.drop_eq_getElem_cons l1.1,l1.2,List.drop_eq_getElem_cons l2.1,l2.2,ahead,hk,ahead,h33] at ha;simp[akB,akC] at ha
section
variable {l:List Tk} {n:Nat} (hT:acs l) (h:Gr l n)
include hT h
theorem aoO{k:Int}{i:Nat}{nt:dO}(hk:dP l i=k+1)(hk2:k=2\/k=3\/k=4)(hn:Uz nt):gr SR (adU k l i nt):=by refine kY (S:=SR) ?_ hn;exact ait au (.tok hk2 (avG hT hk au)) aeY
theorem aSV(lv:Nat)(a b:Bool)(i:Nat)(nt:dO)(hn:Uz nt):gr SR (ex l (n+1) lv a b i nt):=by
 unfold ex;split
 ·
  refine dD (h.ex _ _ _ _ _ hn) λx i nt hx hn=>iI (λhc=> ?_) λ_=>kY hx hn
  rw[zq] at hc;refine dD (h.ex _ _ _ _ _ hn) λy j m hy hm=>kY (S:=SR) ?_ hm
  have h1:=hc.1;unfold tgt at h1;rw[zq] at h1;exact aIc hc.2 h1.2 hx hy
 ·
  refine dD (h.ex _ _ _ _ _ hn) λx i nt hx hn=>iI (λhc=> ?_) λ_=>kY hx hn
  refine dD (h.ex _ _ _ _ _ hn) λy i nt hy hn=> ?_
  refine dD (Bc hn) λ_ i nt _ hn=> ?_
  refine dD (h.ex _ _ _ _ _ hn) λz i nt hz hn=>kY (S:=SR) ?_ hn
  exact ait au .cond (a00 hx hy hz)
 ·exact dD (h.ex _ _ _ _ _ hn) λx i nt hx hn=>h.ch _ _ _ _ _ _ au hx hn
 ·exact dD (h.ex _ _ _ _ _ hn) λx i nt hx hn=>h.ch _ _ _ _ _ _ au hx hn
 ·
  refine iI (λhc=> ?_) λ_=>dD (h.ex _ _ _ _ _ hn) λx i nt hx hn=>h.inp _ _ _ _ hx hn
  rw[zq,zq,beq_iff_eq] at hc;have h33:=aAG hc.1.1 hc.2;have hl:=h.lst 33 (i+1) nt hn;rw[if_neg h33] at hl;refine dD hl λL i nt hL hn=> ?_
  refine dD (Bc hn) λ_ i nt _ hn=> ?_
  refine dD (afY hT hn) λs i nt hs hn=> ?_
  exact h.inp _ _ _ _ (ait au (.index au hs hL.2.1 hL.2.2) hL.1) hn
 ·
  refine dD (h.ex _ _ _ _ _ hn) λx i nt hx hn=>iI (λhc=> ?_) λ_=>kY hx hn
  refine dD (h.ex _ _ _ _ _ hn) λy j m hy hm=>kY (S:=SR) ?_ hm
  refine aoK ?_ hx hy;rw[Bool.or_eq_true,beq_iff_eq,beq_iff_eq] at hc;rcases hc with hc|hc<;>rw[hc]<;>rfl
 ·
  refine dD (h.ex _ _ _ _ _ hn) λx i nt hx hn=>iI (λhc=> ?_) λ_=>kY hx hn
  refine dD (h.ex _ _ _ _ _ hn) λy j m hy hm=>kY (S:=SR) ?_ hm
  refine aoK (ar4 ?_) hx hy;unfold QS at hc;rw[show Nat.beq 7 8=false from rfl,bG,zq,beq_iff_eq] at hc;rw[hc.1];decide
 ·exact dD (h.ex _ _ _ _ _ hn) λx i nt hx hn=>h.ch _ _ _ _ _ _ au hx hn
 ·exact dD (h.ex _ _ _ _ _ hn) λx i nt hx hn=>h.ch _ _ _ _ _ _ au hx hn
 ·exact dD (h.ex _ _ _ _ _ hn) λx i nt hx hn=>h.ch _ _ _ _ _ _ au hx hn
 ·
  refine iI (λhc=> ?_) λ_=>h.ex _ _ _ _ _ hn
  refine dD (h.ex _ _ _ _ _ hn) λy j m hy hm=>kY (S:=SR) ?_ hm
  rw[Bool.or_eq_true,Bool.or_eq_true,beq_iff_eq,beq_iff_eq,beq_iff_eq] at hc;exact ait au (.una hc) (all1 hy)
 ·
  refine dD (h.ex _ _ _ _ _ hn) λx i nt hx hn=>iI (λhc=> ?_) λ_=>kY hx hn
  exact dD (h.ex _ _ _ _ _ hn) λy j m hy hm=>kY (S:=SR) (aoK rfl hx hy) hm
 ·
  refine iI (λhc=>h.pre _ _ hc hn) λ_=> ?_
  refine dD (h.ex _ _ _ _ _ hn) λx i nt hx hn=>iI (λhc=> ?_) λ_=>kY hx hn
  rw[zq] at hc;have h1:=hc.1;unfold tgt at h1;rw[zq] at h1;exact kY (S:=SR) (avF (.inr rfl) (anq hc.2) h1.2 hx) hn
 ·
  refine iI (λhc=> ?_) λ_=>h.ex _ _ _ _ _ hn
  refine dD (S:=SR) (iI (λhs=>h.pre _ _ hs hn) λ_=>h.ex _ _ _ _ _ hn) λx i nt hx hn=> ?_
  exact kY (S:=SR) (ait au (.one au) (all1 hx)) hn
 ·
  refine iI (λhc=>aoO hT h (by rwa [beq_iff_eq] at hc) au hn) λ_=> ?_
  refine iI (λhc=>aoO hT h (by rwa [beq_iff_eq] at hc) au hn) λ_=> ?_
  refine iI (λhc=>aoO hT h (by rwa [beq_iff_eq] at hc) au hn) λ_=> ?_
  refine iI (λhc=> ?_) λ_=> ?_
  ·rw[beq_iff_eq] at hc;have hx:=anm hT hc (.inl rfl);refine iI (λ_=> ?_) λ_=>kY (S:=SR) (ait au (.name hx) aeY) hn
   refine dD (h.it _ _ _ _ _ ⟨aeY,by simp,by simp⟩ hn) λL j nt hL hn=> ?_
   exact dD (Bc hn) λ_ j nt _ hn=>kY (S:=SR) (ait au (.index au hx hL.2.1 hL.2.2) hL.1) hn
  refine iI (λhc=> ?_) λ_=> ?_
  ·rw[Bool.or_eq_true,beq_iff_eq,beq_iff_eq] at hc;refine iI (λhb=> ?_) λ_=> ?_
   ·rw[zq,beq_iff_eq] at hb;exact kY (S:=SR) (ait au (.blt (aFz hT hb.1) (Nat.zero_le _)) aeY) hn
   ·refine dD (Bc hn) λ_ j nt _ hn=> ?_
    refine dD (h.lst _ _ _ hn) λL j nt hL hn=>kY (S:=SR) ?_ hn
    rcases hc with hc|hc
    ·simp only[hc];exact ait au (.call au (anm hT hc (.inr rfl)) hL.2.2) hL.1
    ·simp only[hc];exact ait au (.blt (aFz hT hc) hL.2.2) hL.1
  refine iI (λ_=> ?_) λ_=>trivial
  refine dD (h.ex _ _ _ _ _ hn) λx i nt hx hn=> ?_
  exact dD (Bc hn) λ_ i nt _ hn=>kY (S:=SR) hx hn
omit h in
theorem aIv(a b:Bool)(i:Nat)(nt:dO)(hk:dP l i=6)(hn:Uz nt)(h:Gr l n):gr (λx:Xp=>Pn x.1.kind=true) (ex l (n+1) 15 a b i nt):=by
 unfold ex;simp only[hk,Int.reduceBEq,bG,aH];refine iI (λ_=> ?_) λ_=>kY rfl hn
 refine dD (h.it _ _ _ _ _ ⟨aeY,by simp,by simp⟩ hn) λL j nt hL hn=> ?_
 exact dD (Bc hn) λ_ j nt _ hn=>kY rfl hn
theorem aSW(a b:Bool)(i:Nat)(nt:dO)(hk:dP l i=6\/dP l i=68)(hn:Uz nt):gr (λx:Xp=>Pn x.1.kind=true) (ex l (n+1) 14 a b i nt):=by
 unfold ex;rcases hk with hk|hk
 ·simp only[hk,Int.reduceBEq,bG];exact h.lv' _ _ _ _ hk hn
 ·simp only[hk,Int.reduceBEq,aH];refine dD (S:=SR) (iI (λhs=>h.pre _ _ hs hn) λ_=>h.ex _ _ _ _ _ hn) λx i nt hx hn=>kY rfl hn
theorem aIw(a:Bool)(x:Xp)(i:Nat)(nt:dO)(hx:SR x)(hn:Uz nt):gr SR (inP l (n+1) a x i nt):=by
 unfold inP;refine iI (λ_=> ?_) λ_=>kY hx hn
 exact dD (afY hT hn) λs i nt hs hn=>h.inp _ _ _ _ (ait au (.index au hs (by simp) (by simp)) (all1 hx)) hn
theorem aIx(i:Nat)(nt:dO)(hs:isStep (dP l i)=true)(hn:Uz nt):gr SR (UM l (n+1) i nt):=by
 unfold UM;refine iI (λhc=> ?_) λ_=>trivial
 rw[Bool.or_eq_true,beq_iff_eq,beq_iff_eq] at hc;exact dD (aIu (h.ex _ _ _ _ _ hn) (h.lv _ _ _ _ au hn)) λx j m hx hm=>kY (S:=SR) (avF (.inl rfl) (anq hs) hx.2 hx.1) hm
theorem aIy(e:Int)(i:Nat)(nt:dO)(hn:Uz nt):gr (SL (if dP l i=e then 0 else 1) 6) (QT l (n+1) e i nt):=by
 unfold QT;refine iI (λhc=> ?_) λhc=> ?_
 ·rw[beq_iff_eq] at hc;rw[if_pos hc];exact kY ⟨aeY,by simp,by simp⟩ hn
 ·rw[QV] at hc;rw[if_neg hc];refine dD (h.it _ _ _ _ _ ⟨aeY,by simp,by simp⟩ hn) λL j nt hL hn=> ?_
  exact dD (Bc hn) λ_ j nt _ hn=>kY hL hn
theorem aSX(a b:Bool)(L:List Tn)(i:Nat)(nt:dO)(hL:SL 0 5 L)(hn:Uz nt):gr (SL 1 6) (Ua l (n+1) a b L i nt):=by
 rw[Ua];refine dD (h.ex _ _ _ _ _ hn) λx i nt hx hn=> ?_
 have h1:=hL.2.2;have h2:=ar1 hL.1 hx;refine iI (λ_=>iI (λ_=>trivial) λh6=> ?_) λ_=>kY ⟨h2,by simp,by simp;omega⟩ hn
 have h6':L.length+1≠6:=λe=>by rw[e] at h6;cases h6
 exact h.it _ _ _ _ _ ⟨h2,Nat.zero_le _,by simp;omega⟩ (abN hT hn)
theorem aSY(lv:Nat)(a b:Bool)(x:Xp)(i:Nat)(nt:dO)(h1:1<=lv)(hx:SR x)(hn:Uz nt):gr SR (chP l (n+1) lv a b x i nt):=by
 rw[chP];refine iI (λhc=> ?_) λ_=>kY hx hn
 have hq:Uz (bif Nat.beq lv 8 then(i,nt) else bif Nat.ble lv 4 then nl l (i+1) nt else(i+1,nt)).2:=by
  cases Nat.beq lv 8<;>cases Nat.ble lv 4
  ·exact hn
  ·exact abN hT hn
  ·exact hn
  ·exact hn
 refine dD (h.ex _ _ _ _ _ hq) λy j m hy hm=> ?_
 refine h.ch _ _ _ _ _ _ h1 (aoK ?_ hx hy) hm;cases h8:Nat.beq lv 8 with
 |true=>rfl
 |false=>rw[bG];unfold QS at hc;rw[h8,bG,zq,beq_iff_eq] at hc;refine ar4 ?_;rw[hc.1];omega
end
def grx{l:List Tk}(hT:acs l):∀n,Gr l n
 |0=>⟨λ_ _ _ _ _ _=>by rw[ex];trivial,λ_ _ _ _ _ _=>by rw[ex];trivial,λ_ _ _ _ _ _=>by rw[ex];trivial,λ_ _ _ _ _ _ _ _ _=>by rw[chP];trivial,λ_ _ _ _ _ _=>by rw[inP];trivial,λ_ _ _ _=>by rw[UM];trivial,λ_ _ _ _=>by rw[QT];trivial,λ_ _ _ _ _ _ _=>by rw[Ua];trivial⟩
 |n+1=>⟨aSV hT (grx hT n),aSW hT (grx hT n),λa b i nt hk hn=>aIv hT a b i nt hk hn (grx hT n),aSY hT (grx hT n),aIw hT (grx hT n),aIx hT (grx hT n),aIy hT (grx hT n),aSX hT (grx hT n)⟩
def rsT(t:Tn):Prop:=Zd t/\20<=t.kind/\t.kind<=34
def rb(t:Tn):Prop:=Zd t/\t.kind=33
def roT(t:Tn):Prop:=Zd t/\(t.kind=16\/isE t)
def riT(t:Tn):Prop:=Zd t/\((40<=t.kind/\t.kind<=44)\/t.kind=34)
def Zg(S:Tn->Prop)(L:List Tn):Prop:=∀t,t∈L->S t
def afZ{S:Tn->Prop}:Zg S []:=λt h=>by simp at h
def Yz{S:Tn->Prop}{a b:List Tn}(h:Zg S a)(k:Zg S b):Zg S (a++b):=λt ht=>by
 rcases List.mem_append.1 ht with ht|ht
 ·exact h t ht
 ·exact k t ht
def af0{S:Tn->Prop}{a:Tn}(h:S a):Zg S [a]:=λt ht=>by rw[List.mem_singleton] at ht;rw[ht];exact h
def aAH{s:aC}(h:tX 2 s=true):Zd (.mk 34 0 s [] []):=by rw[Zd,rts];exact⟨.com h,trivial⟩
def aAI{nt:dO}(h:Uz nt):Zg rsT (WA nt):=λt ht=>by unfold WA at ht;obtain⟨s,hs,rfl⟩:=List.mem_map.1 ht;exact⟨aAH (h s hs),by show(20:Int)<=34;omega,by show(34:Int)<=34;omega⟩
def aSZ{nt:dO}(h:Uz nt):Zg riT (WA nt):=λt ht=>by unfold WA at ht;obtain⟨s,hs,rfl⟩:=List.mem_map.1 ht;exact⟨aAH (h s hs),.inr rfl⟩
def Zh:Uz []:=λs h=>by simp at h
def auf{L:List Tn}(h:Zg rsT L):rb (.mk 33 0 [] [] L):=by refine⟨?_,rfl⟩;rw[Zd];exact⟨.many (.inl rfl),afV λi t ht=>by have:=h t (Ro ht);exact⟨this.2,this.1⟩⟩
def aS0{t:Tn}(h:rb t):rsT t:=⟨h.1,by rw[h.2];omega,by rw[h.2];omega⟩
def alJ{k op:Int}{y:aC}{x:aC}{ks:List Tn}(hk:20<=k/\k<=27)(hf:Fld k op x y ks.length)(h:∀t,t∈ks->rxT t):rsT (.mk k op x y ks):=by refine⟨?_,⟨by show 20<=k;omega,by show k<=34;omega⟩⟩;rw[Zd];exact⟨hf,aFy h λj=>aAz au op _ j⟩
def aIz{a b:Tn}(ha:rxT a)(hb:rb b):rsT (.mk 28 0 [] [] [a,b]):=by refine⟨?_,by show(20:Int)<=28;omega,by show(28:Int)<=34;omega⟩;rw[Zd,rts,rts,rts];exact⟨.if_ (.inl rfl),ha.2,ha.1,hb.2,hb.1,trivial⟩
def aIA{a b c:Tn}(ha:rxT a)(hb:rb b)(hc:rb c):rsT (.mk 28 0 [] [] [a,b,c]):=by refine⟨?_,by show(20:Int)<=28;omega,by show(28:Int)<=34;omega⟩;rw[Zd,rts,rts,rts,rts];exact⟨.if_ (.inr rfl),ha.2,ha.1,hb.2,hb.1,hc.2,hc.1,trivial⟩
def aAJ{a b:Tn}(ha:rxT a)(hb:rb b):rsT (.mk 29 0 [] [] [a,b]):=by refine⟨?_,by show(20:Int)<=29;omega,by show(29:Int)<=34;omega⟩;rw[Zd,rts,rts,rts];exact⟨.two (.inl rfl),ha.2,ha.1,hb.2,hb.1,trivial⟩
def aS1{a b:Tn}(ha:rb a)(hb:rxT b):rsT (.mk 30 0 [] [] [a,b]):=by refine⟨?_,by show(20:Int)<=30;omega,by show(30:Int)<=34;omega⟩;rw[Zd,rts,rts,rts];exact⟨.two (.inr rfl),ha.2,ha.1,hb.2,hb.1,trivial⟩
def aIB{a b c d:Tn}(ha:roT a)(hb:roT b)(hc:roT c)(hd:rb d):rsT (.mk 31 0 [] [] [a,b,c,d]):=by refine⟨?_,by show(20:Int)<=31;omega,by show(31:Int)<=34;omega⟩;rw[Zd,rts,rts,rts,rts,rts];exact⟨.for_,ha.2,ha.1,hb.2,hb.1,hc.2,hc.1,hd.2,hd.1,trivial⟩
def aAK{x y:aC}{a:Tn}(hx:yD x=true)(hy:yD y=true)(ha:rb a):rsT (.mk 32 0 x y [a]):=by refine⟨?_,by show(20:Int)<=32;omega,by show(32:Int)<=34;omega⟩;rw[Zd,rts,rts];exact⟨.aAy hx hy,ha.2,ha.1,trivial⟩
section
variable {l:List Tk} (hT:acs l)
include hT
theorem aoP{α:Type}{S:α->Prop}{x:α}{i:Nat}{nt:dO}(hx:S x)(hn:Uz nt):gr S (endP l x i nt):=by
 unfold endP;cases Uy (dP l i) with
 |true=>exact⟨hx,hn⟩
 |false=>trivial
theorem aoQ(n i:Nat){nt:dO}(hn:Uz nt):gr rxT (Rk l n i nt):=by
 unfold Rk;refine dD (Bc hn) λ_ i nt _ hn=> ?_
 refine dD ((grx hT n).ex _ _ _ _ _ hn) λx i nt hx hn=> ?_
 exact dD (Bc hn) λ_ i nt _ hn=>kY hx hn
theorem akZ(n:Nat)(e:Int)(a:Bool)(i:Nat){nt:dO}(hn:Uz nt):gr roT (Jy l n e a i nt):=by
 unfold Jy;refine iI (λ_=>kY ⟨?_,.inl rfl⟩ hn) λ_=>dD ((grx hT n).ex _ _ _ _ _ hn) λx i nt hx hn=>kY ⟨hx.1,.inr hx.2⟩ hn
 rw[Zd,rts];exact⟨.none au,trivial⟩
theorem aug{j:Nat}(h:IY (dP l j)=true):Np l j=[62]\/Np l j=[62,62]\/Np l j=[124]:=by
 unfold IY at h;rw[Bool.or_eq_true,Bool.or_eq_true,beq_iff_eq,beq_iff_eq,beq_iff_eq] at h;have key:∀k:Int,dP l j=k->(k=62\/k=53\/k=64)->Np l j=spell k:=λk hk h3=>by
  have:=avG hT hk au;unfold tX at this;cases hx:Np l j==[] with
  |true=>rw[hx] at this;cases this
  |false=>rw[hx] at this;rcases h3 with rfl|rfl|rfl<;>exact beq_iff_eq.1 this
 rcases h with h|h|h
 ·left;rw[key 62 h au];rfl
 ·right;left;rw[key 53 h au];rfl
 ·right;right;rw[key 64 h au];rfl
theorem aIC(n i:Nat){nt:dO}(hk:dP l i=25\/dP l i=26)(hn:Uz nt):gr rsT (aeU l n i nt):=by
 unfold aeU;have h1:gr (SL (if dP l i=26 then 1 else 0) 6) (bif dP l i==26|| !(Uy (dP l (i+1))||IY (dP l (i+1))) then Ua l n false true [] (i+1) nt else .ok [] (i+1) nt):=by
  refine iI (λ_=>avH ((grx hT n).it _ _ _ _ _ ⟨aeY,by simp,by simp⟩ hn) λL hL=>⟨hL.1,(by have:=hL.2.1;split<;>omega),hL.2.2⟩) λhc=>kY ⟨aeY, ?_,by simp⟩ hn
  rw[Bool.or_eq_false_iff,QV] at hc;rw[if_neg hc.1];simp
 refine dD h1 λL j nt hL hn=> ?_
 have hop:dP l i - 25=0\/dP l i - 25=1:=au;have hlen:dP l i - 25<=L.length:=by have:=hL.2.1;split at this<;>omega
 refine iI (λhs=> ?_) λ_=>kY (alJ au (.prn hop hlen hL.2.2) hL.1) hn
 refine dD ((grx hT n).ex _ _ _ _ _ hn) λx k nt hx hn=>kY ?_ hn
 have:=hL.2.2;exact alJ au (.prt hop (aug hT hs) (by simp;omega) (by simp;omega)) (ar1 hL.1 hx)
theorem avI(n:Nat)(k:Int)(i:Nat){nt:dO}(hk:k=23\/k=24)(hn:Uz nt):gr rsT (Xi l n k i nt):=by
 unfold Xi;refine iI (λ_=>kY (alJ au (.word hk (by simp)) aeY) hn) λ_=> ?_
 exact dD ((grx hT n).ex _ _ _ _ _ hn) λx i nt hx hn=>kY (alJ au (.word hk (by simp)) (all1 hx)) hn
theorem aID(n i:Nat){nt:dO}(hn:Uz nt):gr rsT (agX l n i nt):=by
 unfold agX;refine dD (afY hT hn) λs i nt hs hn=> ?_
 refine iI (λ_=> ?_) λ_=>kY (alJ au (.call au hs (by simp)) aeY) hn
 refine dD ((grx hT n).it _ _ _ _ _ ⟨aeY,by simp,by simp⟩ hn) λL i nt hL hn=> ?_
 exact dD (Bc hn) λ_ i nt _ hn=>kY (alJ au (.call au hs hL.2.2) hL.1) hn
theorem aIE(n i:Nat){nt:dO}(hn:Uz nt):gr rsT (agY l n i nt):=by
 unfold agY;refine iI (λhc=>aIC hT n i (by rwa [Bool.or_eq_true,beq_iff_eq,beq_iff_eq] at hc) hn) λ_=> ?_
 refine iI (λ_=>kY (alJ au (.none au) aeY) hn) λ_=> ?_
 refine iI (λ_=>kY (alJ au (.none au) aeY) hn) λ_=> ?_
 refine iI (λ_=>kY (alJ au (.none au) aeY) hn) λ_=> ?_
 refine iI (λ_=>avI hT n 23 i (.inl rfl) hn) λ_=> ?_
 refine iI (λ_=>avI hT n 24 i (.inr rfl) hn) λ_=> ?_
 refine iI (λ_=>aID hT n i hn) λ_=> ?_
 exact dD ((grx hT n).ex _ _ _ _ _ hn) λx i nt hx hn=>kY (alJ au (.one au) (all1 hx)) hn
end
structure GrS(l:List Tk)(n:Nat):Prop where
 st:∀i nt,Uz nt->gr rsT (stP l n i nt)
 blk:∀i nt,Uz nt->gr rb (Jz l n i nt)
 aAL:∀L i nt,Zg rsT L->Uz nt->gr (Zg rsT) (UN l n L i nt)
 body:∀i nt,Uz nt->gr rb (Aq l n i nt)
section
variable {l:List Tk} {n:Nat} (hT:acs l) (h:GrS l n)
include hT h
theorem aS2(i:Nat)(nt:dO)(hn:Uz nt):gr rsT (stP l (n+1) i nt):=by
 unfold stP;refine iI (λ_=>avH (h.blk _ _ hn) λ_=>aS0) λ_=> ?_
 refine iI (λ_=> ?_) λ_=> ?_
 ·refine dD (aoQ hT n _ hn) λx i nt hx hn=> ?_
  refine dD (h.body _ _ hn) λy i nt hy hn=> ?_
  refine iI (λ_=> ?_) λ_=>kY (aIz hx hy) hn
  exact dD (h.body _ _ (aiU hT hn)) λz i nt hz hn=>kY (aIA hx hy hz) hn
 refine iI (λ_=> ?_) λ_=> ?_
 ·refine dD (aoQ hT n _ hn) λx i nt hx hn=> ?_
  exact dD (h.body _ _ hn) λy i nt hy hn=>kY (aAJ hx hy) hn
 refine iI (λ_=> ?_) λ_=> ?_
 ·refine dD (h.body _ _ hn) λx i nt hx hn=> ?_
  refine dD (Bc (aiU hT hn)) λ_ i nt _ hn=> ?_
  exact dD (aoQ hT n _ hn) λy i nt hy hn=>aoP hT (aS1 hx hy) hn
 refine iI (λ_=> ?_) λ_=> ?_
 ·refine dD (Bc hn) λ_ i nt _ hn=> ?_
  refine iI (λhc=> ?_) λ_=> ?_
  ·rw[zq,beq_iff_eq] at hc;refine dD (afY hT hn) λs j nt hs hn=> ?_
   refine dD (Bc hn) λ_ j nt _ hn=> ?_
   exact dD (h.body _ _ hn) λy j nt hy hn=>kY (aAK (anm hT hc.1 (.inl rfl)) hs hy) hn
  ·refine dD (akZ hT n _ _ _ hn) λx i nt hx hn=> ?_
   refine dD (Bc hn) λ_ i nt _ hn=> ?_
   refine dD (akZ hT n _ _ _ (abN hT hn)) λy i nt hy hn=> ?_
   refine dD (Bc hn) λ_ i nt _ hn=> ?_
   refine dD (akZ hT n _ _ _ (abN hT hn)) λz i nt hz hn=> ?_
   refine dD (Bc hn) λ_ i nt _ hn=> ?_
   exact dD (h.body _ _ hn) λw i nt hw hn=>kY (aIB hx hy hz hw) hn
 exact dD (aIE hT n _ hn) λx i nt hx hn=>aoP hT hx hn
theorem aIF(i:Nat)(nt:dO)(hn:Uz nt):gr rb (Jz l (n+1) i nt):=by
 unfold Jz;refine dD (Bc hn) λ_ i nt _ hn=> ?_
 exact dD (h.aAL _ _ _ afZ hn) λL i nt hL hn=>kY (auf hL) hn
theorem aDV(L:List Tn)(i:Nat)(nt:dO)(hL:Zg rsT L)(hn:Uz nt):gr (Zg rsT) (UN l (n+1) L i nt):=by
 rw[UN];have hs:=Yz hL (aAI (aiU hT (i:=i) hn));refine iI (λ_=>kY hs Zh) λ_=>iI (λ_=>trivial) λ_=> ?_
 exact dD (h.st _ _ Zh) λs i nt hx hn=>h.aAL _ _ _ (Yz hs (af0 hx)) hn
theorem aDW(i:Nat)(nt:dO)(hn:Uz nt):gr rb (Aq l (n+1) i nt):=by
 unfold Aq;have hq:=abN hT (i:=i) hn;refine iI (λ_=>h.blk _ _ hq) λ_=>iI (λ_=>kY (auf (aAI hq)) Zh) λ_=> ?_
 exact dD (h.st _ _ Zh) λs i nt hx hn=>kY (auf (Yz (aAI hq) (af0 hx))) hn
end
def grs{l:List Tk}(hT:acs l):∀n,GrS l n
 |0=>⟨λ_ _ _=>by rw[stP];trivial,λ_ _ _=>by rw[Jz];trivial,λ_ _ _ _ _=>by rw[UN];trivial,λ_ _ _=>by rw[Aq];trivial⟩
 |n+1=>⟨aS2 hT (grs hT n),aIF hT (grs hT n),aDV hT (grs hT n),aDW hT (grs hT n)⟩
def rn(t:Tn):Prop:=Zd t/\t.kind=1
def aDX{s:aC}(h:yD s=true):rn (.mk 1 0 s [] []):=by refine⟨?_,rfl⟩;rw[Zd,rts];exact⟨.name h,trivial⟩
section
variable {l:List Tk} (hT:acs l)
include hT
theorem avJ:∀(n:Nat) (L:List Tn) (i:Nat) (nt:dO),Zg rn L->L.length<=5->Uz nt->gr (λL=>Zg rn L/\L.length<=6) (Fb l n L i nt)
 |0,L,i,nt,_,_,_=>by rw[Fb];trivial
 |n+1,L,i,nt,hL,h5,hn=>by
  rw[Fb];refine dD (afY hT hn) λs i nt hs hn=> ?_
  have h2:=Yz hL (af0 (aDX hs));refine iI (λ_=>iI (λ_=>trivial) λh6=> ?_) λ_=>kY ⟨h2,by simp;omega⟩ hn
  have h6':L.length+1≠6:=λe=>by rw[e] at h6;cases h6
  exact avJ n _ _ _ h2 (by simp;omega) (abN hT hn)
theorem aIG{x:aC}{L:List Tn}{b:Tn}(hx:yD x=true)(hL:Zg rn L)(h6:L.length<=6)(hb:rb b):riT (.mk 44 0 x [] (L++[b])):=by
 refine⟨?_,.inl ⟨by show(40:Int)<=44;omega,by show(44:Int)<=44;omega⟩⟩;rw[Zd];refine⟨.func hx (by simp) (by simp;omega),afV λi t ht=> ?_⟩;have hl:(L++[b]).length=L.length+1:=by simp
 rw[hl,Nat.zero_add]
 by_cases hi:i<L.length
 ·rw[List.getElem?_append_left hi] at ht;have h:=hL t (Ro ht);have hc:cls 44 0 (L.length+1) i=4:=by unfold cls;repeat(first|rw[if_pos au]|rw[if_neg au])
  rw[hc];exact⟨h.2,h.1⟩
 ·rw[List.getElem?_append_right au] at ht;have hi0:i - L.length=0:=by have:=(Po.1 ht).1;simp at this;omega
  rw[hi0] at ht;cases ht;have hc:cls 44 0 (L.length+1) i=1:=by unfold cls;repeat(first|rw[if_pos au]|rw[if_neg au])
  rw[hc];exact⟨hb.2,hb.1⟩
theorem aIH(n i:Nat){nt:dO}(hn:Uz nt):gr riT (agZ l n i nt):=by
 unfold agZ;refine iI (λhk=> ?_) λ_=>trivial
 rw[Bool.or_eq_true,beq_iff_eq,beq_iff_eq] at hk;have hx:yD (Np l i)=true:=by
  rcases hk with hk|hk
  ·exact anm hT hk (.inl rfl)
  ·exact anm hT hk (.inr rfl)
 refine dD (Bc hn) λ_ j nt _ hn=> ?_
 refine dD (S:=λL=>Zg rn L/\L.length<=6) (iI (λ_=>kY ⟨afZ,by simp⟩ hn) λ_=>avJ hT n _ _ _ afZ (by simp) hn) λL j nt hL hn=> ?_
 refine dD (Bc hn) λ_ j nt _ hn=> ?_
 exact dD ((grs hT n).blk _ _ (abN hT hn)) λb j nt hb hn=>kY (aIG hT hx hL.1 hL.2 hb) hn
theorem aAM{k:Int}{b:Tn}(hk:k=40\/k=41)(hb:rb b):riT (.mk k 0 [] [] [b]):=by
 refine⟨?_,.inl ⟨by show 40<=k;omega,by show k<=44;omega⟩⟩;rw[Zd,rts,rts];have hc:cls k 0 [b].length 0=1:=by rcases hk with rfl|rfl<;>rfl
 rw[hc];exact⟨.one au,hb.2,hb.1,trivial⟩
theorem aDY(n i:Nat){nt:dO}(hn:Uz nt):gr riT (Rl l n i nt):=by
 unfold Rl;refine iI (λ_=>dD ((grs hT n).blk _ _ hn) λb i nt hb hn=>kY (aAM hT (.inl rfl) hb) hn) λ_=> ?_
 refine iI (λ_=>dD ((grs hT n).blk _ _ hn) λb i nt hb hn=>kY (aAM hT (.inr rfl) hb) hn) λ_=> ?_
 refine iI (λ_=>aIH hT n _ hn) λ_=> ?_
 refine iI (λ_=>dD ((grs hT n).blk _ _ hn) λb i nt hb hn=>kY ?_ hn) λ_=> ?_
 ·refine⟨?_,.inl ⟨by show(40:Int)<=42;omega,by show(42:Int)<=44;omega⟩⟩;rw[Zd,rts,rts];exact⟨.rule (.inl ⟨.inr rfl,rfl⟩),hb.2,hb.1,trivial⟩
 refine dD ((grx hT n).ex _ _ _ _ _ hn) λx i nt hx hn=> ?_
 refine dD (S:=λq:Int×List Tn=>(q.1=42/\∃a,rxT a/\q.2=[a])\/(q.1=43/\∃a b,rxT a/\rxT b/\q.2=[a,b])) ?_ λq i nt hq hn=> ?_
 ·refine iI (λ_=> ?_) λ_=>kY (.inl ⟨rfl,x.1,hx,rfl⟩) hn
  exact dD ((grx hT n).ex _ _ _ _ _ (abN hT hn)) λy i nt hy hn=>kY (.inr ⟨rfl,x.1,y.1,hx,hy,rfl⟩) hn
 ·obtain⟨q1,q2⟩:=q;rcases hq with⟨h1,a,ha,h2⟩|⟨h1,a,c,ha,hc,h2⟩
  ·simp only at h1 h2;subst h1 h2;refine iI (λ_=>dD ((grs hT n).blk _ _ hn) λb i nt hb hn=>kY ⟨?_,.inl ⟨by show(40:Int)<=42;omega,by show(42:Int)<=44;omega⟩⟩ hn) λ_=>aoP hT ⟨?_,.inl ⟨by show(40:Int)<=42;omega,by show(42:Int)<=44;omega⟩⟩ hn
   ·show Zd (.mk 42 3 [] [] [a,b]);rw[Zd,rts,rts,rts];exact⟨.rule (.inr ⟨rfl,rfl⟩),ha.2,ha.1,hb.2,hb.1,trivial⟩
   ·rw[Zd,rts,rts];exact⟨.rule (.inl ⟨.inl rfl,rfl⟩),ha.2,ha.1,trivial⟩
  ·simp only at h1 h2;subst h1 h2;refine iI (λ_=>dD ((grs hT n).blk _ _ hn) λb i nt hb hn=>kY ⟨?_,.inl ⟨by show(40:Int)<=43;omega,by show(43:Int)<=44;omega⟩⟩ hn) λ_=>aoP hT ⟨?_,.inl ⟨by show(40:Int)<=43;omega,by show(43:Int)<=44;omega⟩⟩ hn
   ·show Zd (.mk 43 3 [] [] [a,c,b]);rw[Zd,rts,rts,rts,rts];exact⟨.range (.inr ⟨rfl,rfl⟩),ha.2,ha.1,hc.2,hc.1,hb.2,hb.1,trivial⟩
   ·rw[Zd,rts,rts,rts];exact⟨.range (.inl ⟨rfl,rfl⟩),ha.2,ha.1,hc.2,hc.1,trivial⟩
theorem avK:∀(n:Nat) (L:List Tn) (i:Nat) (nt:dO),Zg riT L->Uz nt->gr (Zg riT) (Ig l n L i nt)
 |0,L,i,nt,_,_=>by rw[Ig];trivial
 |n+1,L,i,nt,hL,hn=>by
  rw[Ig];have hs:=Yz hL (aSZ (aiU hT (i:=i) hn));refine iI (λ_=>kY hs Zh) λ_=>iI (λ_=>trivial) λ_=> ?_
  exact dD (aDY hT n _ Zh) λs i nt hx hn=>avK n _ _ _ (Yz hs (af0 hx)) hn
end
def aDZ{L:List Tn}(h:Zg riT L):Zd (.mk 45 0 [] [] L):=by rw[Zd];exact⟨.many (.inr rfl),afV λi t ht=>by have:=h t (Ro ht);exact⟨this.2,this.1⟩⟩
end Go.Proofs.YtgealgmioiepeaaGreatDoor
namespace Go.Proofs.YtgealgmioiepeaaGreatDoor
open Go Go.Vm
def PlT(N:Nat)(l:List Tk):Prop:=∀t,t∈l->0<=t.at_/\t.at_+(t.text.length:Int)<=N
inductive PgT(l:List Tk)(N:Nat):Bool->List Nd->Int->Int->Prop where
 |bad {k p:Int}:1<=k->k<=4->0<=p->p<=N->PgT l N true [] k p
 |ok {L:List Tn} {j:Nat} {nt:dO}:Wn l=true->Ig l (60 * (l.length - 0)+52) [] 0 []=.ok L j nt->(Tn.mk 45 0 [] [] L).size<=400->depth ((Tn.mk 45 0 [] [] L).flat 0)<=40->Q7 (.mk 45 0 [] [] L)->PgT l N false ((Tn.mk 45 0 [] [] L).flat 0) 0 0
def aAN{l:List Tk}(h:Wn l=true):acs l:=λt ht=>by rw[Wn,zq] at h;exact akQ l 0 h.2 t ht
def PgT.right{l:List Tk}{N:Nat}{L:List Tn}{j:Nat}{nt:dO}(ht:Wn l=true)(hp:Ig l (60 * (l.length - 0)+52) [] 0 []=.ok L j nt)(hz:(Tn.mk 45 0 [] [] L).size<=400)(hd:depth ((Tn.mk 45 0 [] [] L).flat 0)<=40)(hs:Q7 (.mk 45 0 [] [] L)):
  Dk ((Tn.mk 45 0 [] [] L).flat 0)=true:=by
 have h:=avK (aAN ht) (60 * (l.length - 0)+52) [] 0 [] afZ Zh;rw[hp] at h;exact aue (aDZ h.1) hs hz hd
def aiV{s:aC}(hs:s.length<=1048576):∀(f i:Nat) (bf:Int) (acc l:List Tk),i<=s.length->PlT s.length acc->WB s f i bf acc=.inl l->PlT s.length l
 |0,i,bf,acc,l,hi,ha,h=>by rw[WB] at h;cases h;exact ha
 |f+1,i,bf,acc,l,hi,ha,h=>by
  rw[WB] at h;cases hb:Nat.ble s.length i with
  |true=>rw[hb] at h;cases h;exact ha
  |false=>
  have hlt:i<s.length:=by
   have:¬(Nat.ble s.length i=true):=by rw[hb];simp
   rw[Nat.ble_eq] at this;omega
  rw[hb,bG] at h;cases hc:afT (qx s i) with
  |true=>rw[hc] at h;exact aiV hs f _ _ _ _ au ha h
  |false=>
  rw[hc,bG] at h;cases hd:(qx s i==92 && qx s ((i+1:Nat):Int)==10) with
  |true=>
   rw[hd] at h;have:i+1<s.length:=by
    by_cases hcc:i+1<s.length
    ·exact hcc
    ·rw[Xl (a:=((i+1:Nat):Int)) au] at hd;rw[zq] at hd;cases hd.2
   exact aiV hs f _ _ _ _ au ha h
  |false=>
  rw[hd,bG] at h;cases ht:FX s i bf with
  |none=>rw[ht] at h;cases h
  |some p=>
   rw[ht] at h;have hp:=OU hs hlt bf ht;refine aiV hs f _ _ _ _ hp.2.2 (λt hm=> ?_) h;rcases List.mem_append.1 hm with hm|hm
   ·exact ha t hm
   ·rw[List.mem_singleton] at hm;rw[hm];have:=hp.2.2;exact⟨by simp only;omega,by simp only;omega⟩
def aiW{s:aC}(hs:s.length<=1048576):∀(f i:Nat) (bf:Int) (acc:List Tk) (a:Nat),i<=s.length->WB s f i bf acc=.inr a->a<=s.length
 |0,i,bf,acc,a,hi,h=>by rw[WB] at h;cases h
 |f+1,i,bf,acc,a,hi,h=>by
  rw[WB] at h;cases hb:Nat.ble s.length i with
  |true=>rw[hb] at h;cases h
  |false=>
  have hlt:i<s.length:=by
   have:¬(Nat.ble s.length i=true):=by rw[hb];simp
   rw[Nat.ble_eq] at this;omega
  rw[hb,bG] at h;cases hc:afT (qx s i) with
  |true=>rw[hc] at h;exact aiW hs f _ _ _ _ au h
  |false=>
  rw[hc,bG] at h;cases hd:(qx s i==92 && qx s ((i+1:Nat):Int)==10) with
  |true=>
   rw[hd] at h;have:i+1<s.length:=by
    by_cases hcc:i+1<s.length
    ·exact hcc
    ·rw[Xl (a:=((i+1:Nat):Int)) au] at hd;rw[zq] at hd;cases hd.2
   exact aiW hs f _ _ _ _ au h
  |false=>
  rw[hd,bG] at h;cases ht:FX s i bf with
  |none=>rw[ht] at h;cases h;exact hi
  |some p=>rw[ht] at h;have hp:=OU hs hlt bf ht;exact aiW hs f _ _ _ _ hp.2.2 h
def aD0(s:aC)(hs:s.length<=1048576):PlT s.length (zU s).1/\(((zU s).2.1=0/\(zU s).2.2=0)\/((zU s).1=[]/\1<=(zU s).2.1/\(zU s).2.1<=4/\0<=(zU s).2.2/\(zU s).2.2<=s.length)):=by
 unfold zU;split
 ·exact⟨λt h=>(by cases h),.inr ⟨rfl,by simp,by simp,by simp,by simp⟩⟩
 ·cases h:WB s (s.length+1) 0 0 [] with
  |inl l=>exact⟨aiV hs _ 0 0 [] l (Nat.zero_le _) (λt h=>(by cases h)) h,.inl ⟨rfl,rfl⟩⟩
  |inr a=>have:=aiW hs _ 0 0 [] a (Nat.zero_le _) h;exact⟨λt h=>(by cases h),.inr ⟨rfl,by simp,by simp,by simp,by simp only;omega⟩⟩
structure Sm(l:List Tk)(n:Nat):Prop where
 ex:∀lv a b i nt,UO nt->good SX (ex l n lv a b i nt)
 ch:∀lv a b x i nt,SX x->UO nt->good SX (chP l n lv a b x i nt)
 inp:∀a x i nt,SX x->UO nt->good SX (inP l n a x i nt)
 pre:∀i nt,UO nt->good SX (UM l n i nt)
 lst:∀e i nt,UO nt->good JB (QT l n e i nt)
 it:∀a b L i nt,JB L->UO nt->good JB (Ua l n a b L i nt)
section
variable {l:List Tk} {n:Nat} (hT:∀t,t∈l->t.text.length<=1048576) (h:Sm l n)
def auh(hT:∀t,t∈l->t.text.length<=1048576)(i:Nat):(Np l i).length<=1048576:=by
 unfold Np;split
 ·next t ht=>exact hT t (Ro ht)
 ·exact Nat.zero_le _
def ahV(hT:∀t,t∈l->t.text.length<=1048576){i:Nat}{nt:dO}(hn:UO nt):UO (nl l i nt).2:=aiT _ _ _ (λt ht=>hT t (List.mem_of_mem_drop ht)) hn
def aoR(hT:∀t,t∈l->t.text.length<=1048576){i:Nat}{nt:dO}(hn:UO nt):UO (sep l i nt).2:=afX _ _ _ (λt ht=>hT t (List.mem_of_mem_drop ht)) hn
def aD1(hT:∀t,t∈l->t.text.length<=1048576){k:Int}{i:Nat}{nt:dO}(hn:UO nt):good SX (adU k l i nt):=⟨⟨⟨auh hT i,Nat.zero_le _⟩,trivial⟩,hn⟩
def ab3{x:Xp}{j:Nat}{nt:dO}(hx:SX x)(hn:UO nt):good SX (.ok x j nt):=⟨hx,hn⟩
def mk1{k o:Int}{x:Tn}{b:Bool}(h:Q7 x):SX (.mk k o [] [] [x],b):=⟨⟨Nat.zero_le _,Nat.zero_le _⟩,h,trivial⟩
def mk2{k o:Int}{x y:Tn}{b:Bool}(h:Q7 x)(h2:Q7 y):SX (.mk k o [] [] [x,y],b):=⟨⟨Nat.zero_le _,Nat.zero_le _⟩,h,h2,trivial⟩
def mk3{k o:Int}{x y z:Tn}{b:Bool}(h:Q7 x)(h2:Q7 y)(h3:Q7 z):SX (.mk k o [] [] [x,y,z],b):=⟨⟨Nat.zero_le _,Nat.zero_le _⟩,h,h2,h3,trivial⟩
def mkL{k o:Int}{s:aC}{L:List Tn}{b:Bool}(hs:s.length<=1048576)(h:JB L):SX (.mk k o s [] L,b):=⟨⟨hs,Nat.zero_le _⟩,h⟩
def smP{P:Prop} (h:P:=by
 repeat' first
  |exact Yy (by assumption)
  |exact anp (auh (by assumption)) (by assumption)
  |exact aD2 (by assumption) _ _ _ (by assumption)
  |exact ar9 (by assumption) _ _ _ _ _ (by assumption)
  |exact ar9 (by assumption) _ _ _ _ _ (ahV (by assumption) (by assumption))
  |exact Yy (aoR (by assumption) (by assumption))
  |apply tu
  |exact Sm.ex (by assumption) _ _ _ _ _ (by assumption)
  |exact Sm.ch (by assumption) _ _ _ _ _ _ (by assumption) (by assumption)
  |exact Sm.inp (by assumption) _ _ _ _ (by assumption) (by assumption)
  |exact Sm.pre (by assumption) _ _ (by assumption)
  |exact Sm.lst (by assumption) _ _ _ (by assumption)
  |exact Sm.it (by assumption) _ _ _ _ _ trivial (by assumption)
  |exact(sm (by assumption) _).ex _ _ _ _ _ (by assumption)
  |exact(sm (by assumption) _).it _ _ _ _ _ trivial (by assumption)
  |exact aD1 (by assumption) (by assumption)
  |exact Sm.inp (by assumption) _ _ _ _ (mkL (by assumption) (by assumption)) (by assumption)
  |exact ab3 (by assumption) (by assumption)
  |exact ab3 (mk1 (by assumption)) (by assumption)
  |exact ab3 (mk2 (by assumption) (by assumption)) (by assumption)
  |exact ab3 (mk3 (by assumption) (by assumption) (by assumption)) (by assumption)
  |exact ab3 (mkL (auh (by assumption) _) (by assumption)) (by assumption)
  |refine oK (S:=SX) ?_ (λx j m hx hm=> ?_)
  |refine oK (S:=JB) ?_ (λx j m hx hm=> ?_)
  |refine oK (S:=λ_:Unit=>True) ?_ (λx j m hx hm=> ?_)
  |refine oK (S:=λs:aC=>s.length<=1048576) ?_ (λx j m hx hm=> ?_)
  |exact Sm.inp (by assumption) _ _ _ _ (⟨⟨by assumption,Nat.zero_le _⟩,by assumption,trivial⟩:SX (.mk 13 0 _ [] [_],false)) (by assumption)
  |exact⟨by assumption,by assumption⟩
  |exact⟨trivial,by assumption⟩
  |exact⟨⟨⟨Nat.zero_le _,Nat.zero_le _⟩,trivial⟩,by assumption⟩
  |exact⟨⟨⟨by assumption,Nat.zero_le _⟩,trivial⟩,by assumption⟩
  |exact⟨⟨⟨by assumption,Nat.zero_le _⟩,by assumption⟩,by assumption⟩
  |exact⟨⟨⟨Nat.zero_le _,Nat.zero_le _⟩,by assumption⟩,by assumption⟩
  |exact⟨⟨⟨Nat.zero_le _,Nat.zero_le _⟩,by assumption,trivial⟩,by assumption⟩
  |exact⟨⟨⟨Nat.zero_le _,auh (by assumption) _⟩,Ll _ _ (by assumption) ⟨by assumption,trivial⟩⟩,by assumption⟩
  |exact aII (by assumption) _ _ _ (by assumption)
  |exact aD3 (by assumption) _ _ _ _ (by assumption)
  |exact aIJ (by assumption) _ _ _ (by assumption)
  |exact aIK (by assumption) _ _ _ (by assumption)
  |exact aui (by assumption) (by assumption)
  |exact SmS.st (by assumption) _ _ (by assumption)
  |exact SmS.blk (by assumption) _ _ (by assumption)
  |exact SmS.body (by assumption) _ _ (by assumption)
  |exact SmS.body (by assumption) _ _ (aoR (by assumption) (by assumption))
  |exact aui ⟨⟨Nat.zero_le _,Nat.zero_le _⟩,by assumption,by assumption,trivial⟩ (by assumption)
  |exact⟨⟨⟨Nat.zero_le _,Nat.zero_le _⟩,by assumption,by assumption,trivial⟩,by assumption⟩
  |exact⟨⟨⟨Nat.zero_le _,Nat.zero_le _⟩,by assumption,by assumption,by assumption,trivial⟩,by assumption⟩
  |exact⟨⟨⟨Nat.zero_le _,Nat.zero_le _⟩,by assumption,by assumption,by assumption,by assumption,trivial⟩,by assumption⟩
  |exact⟨⟨⟨auh (by assumption) _,by assumption⟩,by assumption,trivial⟩,by assumption⟩
  |refine oK (S:=Q7) ?_ (λx j m hx hm=> ?_)
  |trivial
 ):P:=h
include hT h
theorem aS3(lv:Nat)(a b:Bool)(i:Nat)(nt:dO)(hn:UO nt):good SX (ex l (n+1) lv a b i nt):=by unfold ex;split<;>exact smP
theorem aIL(a:Bool)(x:Xp)(i:Nat)(nt:dO)(hx0:SX x)(hn:UO nt):good SX (inP l (n+1) a x i nt):=by unfold inP;exact smP
theorem aIM(i:Nat)(nt:dO)(hn:UO nt):good SX (UM l (n+1) i nt):=by have:=hT;unfold UM;exact smP
theorem aIN(e:Int)(i:Nat)(nt:dO)(hn:UO nt):good JB (QT l (n+1) e i nt):=by have:=hT;unfold QT;exact smP
theorem aS4(a b:Bool)(L:List Tn)(i:Nat)(nt:dO)(hL:JB L)(hn:UO nt):good JB (Ua l (n+1) a b L i nt):=by rw[Ua];refine oK (S:=SX) (h.ex _ _ _ _ _ hn) (λx j m hx hm=> ?_);have h2:JB (L++[x.1]):=Ll L [x.1] hL ⟨hx,trivial⟩;exact tu (tu trivial (h.it _ _ _ _ _ h2 (ahV hT hm))) ⟨h2,hm⟩
theorem aS5(lv:Nat)(a b:Bool)(x:Xp)(i:Nat)(nt:dO)(hx0:SX x)(hn:UO nt):good SX (chP l (n+1) lv a b x i nt):=by
 rw[chP];refine tu ?_ (ab3 hx0 hn);have hq:UO (bif Nat.beq lv 8 then(i,nt) else bif Nat.ble lv 4 then nl l (i+1) nt else(i+1,nt)).2:=by
  cases Nat.beq lv 8<;>cases Nat.ble lv 4
  ·exact hn
  ·exact ahV hT hn
  ·exact hn
  ·exact hn
 refine oK (S:=SX) (h.ex _ _ _ _ _ hq) (λy j m hy hm=> ?_);exact h.ch _ _ _ _ _ _ (mk2 hx0 hy) hm
end
def sm{l:List Tk}(hT:∀t,t∈l->t.text.length<=1048576):∀n,Sm l n
 |0=>⟨λ_ _ _ _ _ _=>by rw[ex];trivial,λ_ _ _ _ _ _ _ _=>by rw[chP];trivial,λ_ _ _ _ _ _=>by rw[inP];trivial,λ_ _ _=>by rw[UM];trivial,λ_ _ _ _=>by rw[QT];trivial,λ_ _ _ _ _ _ _=>by rw[Ua];trivial⟩
 |n+1=>⟨aS3 hT (sm hT n),aS5 hT (sm hT n),aIL hT (sm hT n),aIM hT (sm hT n),aIN hT (sm hT n),aS4 hT (sm hT n)⟩
section
variable {l:List Tk} (hT:∀t,t∈l->t.text.length<=1048576)
include hT
theorem aD2(n i:Nat)(nt:dO)(hn:UO nt):good Q7 (Rk l n i nt):=by unfold Rk;exact smP
theorem ar9(n:Nat)(e:Int)(a:Bool)(i:Nat)(nt:dO)(hn:UO nt):good Q7 (Jy l n e a i nt):=by unfold Jy;exact smP
theorem aII(n i:Nat)(nt:dO)(hn:UO nt):good Q7 (aeU l n i nt):=by unfold aeU;exact smP
theorem aD3(n:Nat)(k:Int)(i:Nat)(nt:dO)(hn:UO nt):good Q7 (Xi l n k i nt):=by unfold Xi;exact smP
theorem aIJ(n i:Nat)(nt:dO)(hn:UO nt):good Q7 (agX l n i nt):=by unfold agX;exact smP
end
def aui{l:List Tk}{x:Tn}{j:Nat}{m:dO}(hx:Q7 x)(hm:UO m):good Q7 (endP l x j m):=by unfold endP;exact tu ⟨hx,hm⟩ trivial
def avL:∀nt:dO,UO nt->JB (WA nt)
 |[],_=>trivial
 |s::nt,h=>⟨⟨⟨h s zmf,Nat.zero_le _⟩,trivial⟩,avL nt λu hu=>h u (zmm _ hu)⟩
def aeZ:UO []:=λs h=>by cases h
section
variable {l:List Tk} (hT:∀t,t∈l->t.text.length<=1048576)
include hT
theorem aIK(n i:Nat)(nt:dO)(hn:UO nt):good Q7 (agY l n i nt):=by unfold agY;exact smP
end
structure SmS(l:List Tk)(n:Nat):Prop where
 st:∀i nt,UO nt->good Q7 (stP l n i nt)
 blk:∀i nt,UO nt->good Q7 (Jz l n i nt)
 lines:∀L i nt,JB L->UO nt->good JB (UN l n L i nt)
 body:∀i nt,UO nt->good Q7 (Aq l n i nt)
section
variable {l:List Tk} {n:Nat} (hT:∀t,t∈l->t.text.length<=1048576) (h:SmS l n)
include hT h
theorem aS6(i:Nat)(nt:dO)(hn:UO nt):good Q7 (stP l (n+1) i nt):=by unfold stP;exact smP
theorem aIO(i:Nat)(nt:dO)(hn:UO nt):good Q7 (Jz l (n+1) i nt):=by have:=hT;rw[Jz];refine oK (S:=λ_:Unit=>True) (Yy hn) (λx j m hx hm=> ?_);refine oK (S:=JB) (h.lines [] j m trivial hm) (λL j m hL hm=> ?_);exact⟨⟨⟨Nat.zero_le _,Nat.zero_le _⟩,hL⟩,hm⟩
theorem aAO(L:List Tn)(i:Nat)(nt:dO)(hL:JB L)(hn:UO nt):good JB (UN l (n+1) L i nt):=by rw[UN];have h2:JB (L++WA (sep l i nt).2):=Ll _ _ hL (avL _ (aoR hT hn));refine tu ⟨h2,aeZ⟩ (tu trivial ?_);refine oK (S:=Q7) (h.st _ _ aeZ) (λx j m hx hm=> ?_);exact h.lines _ _ _ (Ll _ _ h2 ⟨hx,trivial⟩) hm
theorem aD4(i:Nat)(nt:dO)(hn:UO nt):good Q7 (Aq l (n+1) i nt):=by rw[Aq];have h2:=avL _ (ahV hT (i:=i) hn);refine tu (h.blk _ _ (ahV hT hn)) (tu ⟨⟨⟨Nat.zero_le _,Nat.zero_le _⟩,h2⟩,aeZ⟩ ?_);refine oK (S:=Q7) (h.st _ _ aeZ) (λx j m hx hm=> ?_);exact⟨⟨⟨Nat.zero_le _,Nat.zero_le _⟩,Ll _ _ h2 ⟨hx,trivial⟩⟩,hm⟩
end
def smS{l:List Tk}(hT:∀t,t∈l->t.text.length<=1048576):∀n,SmS l n
 |0=>⟨λ_ _ _=>by rw[stP];trivial,λ_ _ _=>by rw[Jz];trivial,λ_ _ _ _ _=>by rw[UN];trivial,λ_ _ _=>by rw[Aq];trivial⟩
 |n+1=>⟨aS6 hT (smS hT n),aIO hT (smS hT n),aAO hT (smS hT n),aD4 hT (smS hT n)⟩
section
variable {l:List Tk} (hT:∀t,t∈l->t.text.length<=1048576)
include hT
theorem avM:∀(n:Nat) (L:List Tn) (i:Nat) (nt:dO),JB L->UO nt->good JB (Fb l n L i nt)
 |0,L,i,nt,hL,hn=>by rw[Fb];trivial
 |n+1,L,i,nt,hL,hn=>by rw[Fb];refine oK (S:=λs:aC=>s.length<=1048576) (anp (auh hT) hn) (λs j m hs hm=> ?_);have h2:JB (L++[.mk 1 0 s [] []]):=Ll _ _ hL ⟨⟨⟨hs,Nat.zero_le _⟩,trivial⟩,trivial⟩;exact tu (tu trivial (avM n _ _ _ h2 (ahV hT hm))) ⟨h2,hm⟩
theorem aIP(n i:Nat)(nt:dO)(hn:UO nt):good Q7 (agZ l n i nt):=by unfold agZ;refine tu ?_ trivial;refine oK (S:=λ_:Unit=>True) (Yy hn) (λx j m hx hm=> ?_);refine oK (S:=JB) (tu ⟨trivial,hm⟩ (avM hT n [] j m trivial hm)) (λL j m hL hm=> ?_);refine oK (S:=λ_:Unit=>True) (Yy hm) (λx j m hx hm=> ?_);refine oK (S:=Q7) ((smS hT n).blk _ _ (ahV hT hm)) (λb j m hb hm=> ?_);exact⟨⟨⟨auh hT _,Nat.zero_le _⟩,Ll _ _ hL ⟨hb,trivial⟩⟩,hm⟩
theorem aD5(n i:Nat)(nt:dO)(hn:UO nt):good Q7 (Rl l n i nt):=by
 have hb:∀(k o:Int) (j:Nat) (m:dO),UO m->good Q7 ((Jz l n j m).bind λb i nt=> .ok (.mk k o [] [] [b]) i nt):=λk o j m hm=>oK (S:=Q7) ((smS hT n).blk _ _ hm) λb j m hb hm=>⟨⟨⟨Nat.zero_le _,Nat.zero_le _⟩,hb,trivial⟩,hm⟩
 unfold Rl;refine tu (hb _ _ _ _ hn) (tu (hb _ _ _ _ hn) (tu (aIP hT n _ nt hn) (tu (hb _ _ _ _ hn) ?_)));refine oK (S:=SX) ((sm hT n).ex _ _ _ _ _ hn) (λx j m hx hm=> ?_);refine oK (S:=λq:Int×List Tn=>JB q.2) (tu ?_ ⟨⟨hx,trivial⟩,hm⟩) (λq j m hq hm=> ?_)
 ·exact oK (S:=SX) ((sm hT n).ex _ _ _ _ _ (ahV hT hm)) λy j m hy hm=>⟨⟨hx,hy,trivial⟩,hm⟩
 ·refine tu (oK (S:=Q7) ((smS hT n).blk _ _ hm) λb j m hb hm=> ?_) (aui ⟨⟨Nat.zero_le _,Nat.zero_le _⟩,hq⟩ hm);exact⟨⟨⟨Nat.zero_le _,Nat.zero_le _⟩,Ll _ _ hq ⟨hb,trivial⟩⟩,hm⟩
theorem avN:∀(n:Nat) (L:List Tn) (i:Nat) (nt:dO),JB L->UO nt->good JB (Ig l n L i nt)
 |0,L,i,nt,hL,hn=>by rw[Ig];trivial
 |n+1,L,i,nt,hL,hn=>by rw[Ig];have h2:JB (L++WA (sep l i nt).2):=Ll _ _ hL (avL _ (aoR hT hn));refine tu ⟨h2,aeZ⟩ (tu trivial ?_);refine oK (S:=Q7) (aD5 hT n _ _ aeZ) (λx j m hx hm=> ?_);exact avN n _ _ _ (Ll _ _ h2 ⟨hx,trivial⟩) hm
end
def auj(l:List Tk)(hl:l.length<=1048576)(hf:∀t,t∈l->I64 t.kind/\t.text.length<=1048576):M.BH (aF l)=some (Wn l):=by
 simp only[M.BH,M.Ov,jI,Wn]
 by_cases h3:l.length<=3000
 ·rw[xE au,bG,zdt h3,Bool.true_and];obtain⟨b2,h2⟩:=anh (l:=l) (z:=true) (B:=M.CS (aF l) (aF l) (l.length:Int)) (λi t b ht=>axh h3 hf ht b) (λb=>by simp only[M.CS,M.CQ,M.jY];rw[xE au,bG]) l.length 0 0 au (Nat.zero_le _);rw[Wy,List.drop_zero] at h2;rw[aAq] at h2;rw[M.MG,h2];cases afR false 0 l<;>rfl
 ·rw[zdt au,aH,xE h3];rfl
def aS7(k:Int):M.zO k=some (arS k):=by simp only[M.zO,M.Qz,arS];cases k==32<;>first|rfl|(cases k==34<;>rfl)
def aS8(k:Int):M.zQ k=some (atZ k):=by simp only[M.zQ,M.QA,atZ];cases k==33<;>first|rfl|(cases k==35<;>rfl)
def aIQ{l:List Tk}(hl:l.length<=3000){i:Nat}{t:Tk}(ht:l[i]? =some t){d:Int}(h0:0<=d)(h1:d<=40):M.Hq (aF l) (l.length:Int) (d,(i:Int))=some (bif decide (nst d t.kind>40) then .inr (.inl (i:Int)) else .inl (nst d t.kind,((i+1:Nat):Int))):=by
 have hi:=(Po.1 ht).1;have hw:i64.wrap ((i:Int)+1)=((i+1:Nat):Int):=by rw[aJ au au];omega
 have wa:i64.wrap (d+1)=d+1:=aJ au au;have wb:i64.wrap (d - 1)=d - 1:=aJ au au;simp only[M.Hq,M.Ho,hw,wa,wb];rw[zdt au,aH];simp only[bZ,o8,ht,MS,ah,cT0,cT1,cT2,aS7,aS8];cases ho:arS t.kind with
 |true=>rw[aSM ho];simp only[aH];cases decide (d+1>40)<;>rfl
 |false=>
  cases hc:atZ t.kind with
  |true=>rw[aSN ho hc];simp only[aH,bG];cases decide ((bif decide (d - 1<0) then 0 else d - 1)>40)<;>rfl
  |false=>rw[aSO ho hc];simp only[aH,bG];cases decide (d>40)<;>rfl
def aAP(l:List Tk)(hl:l.length<=3000):M.Ib (aF l)=some (akS l):=by obtain⟨b2,h2⟩:=anj (l:=l) (B:=M.Hq (aF l) (l.length:Int)) (λi t d ht h0 h1=>aIQ hl ht h0 h1) (λb=>by simp only[M.Hq,M.Ho];rw[xE au,bG]) l.length 0 0 au (Nat.zero_le _) (by decide) (by decide);rw[Wy,List.drop_zero] at h2;simp only[M.Ib,M.TQ,jI];rw[M.QB,h2,akS];cases ani 0 0 l<;>rfl
def avO(l:List Tk)(hl:l.length<=3000){N:Nat}(hN:N<=1048576)(hp:PlT N l)(j:Nat):∃p,M.pY (aF l) (j:Int)=some p/\0<=p/\p<=N:=by
 simp only[M.pY,M.QC,jI]
 by_cases h:j<l.length
 ·obtain⟨t,ht⟩:∃t,l[j]? =some t:=⟨l[j],by simp[h]⟩
  have:=hp t (Ro ht);rw[zdt au];simp only[aH,bZ,o8,ht,MS,ah,cT2];exact⟨_,rfl,au,au⟩
 ·rw[xE au];simp only[bG];cases l with
  |nil=>exact⟨0,rfl,au,au⟩
  |cons t0 l0=>
   have e:(((t0::l0).length:Int)==0)=false:=by rw[QV,Pq];omega
   have hw:i64.wrap (((t0::l0).length:Int) - 1)=(l0.length:Int):=by rw[aJ au au,Pq];omega
   obtain⟨t,ht⟩:∃t,(t0::l0)[l0.length]? =some t:=⟨(t0::l0)[l0.length],by simp⟩
   have:=hp t (Ro ht);have hw2:i64.wrap (t.at_+(t.text.length:Int))=t.at_+(t.text.length:Int):=aJ au au;rw[e,hw];simp only[bG,bZ,o8,ht,MS,ah,cT0,cT1,cT2,hw2];exact⟨_,rfl,au,au⟩
def axp{t:Tn}(hs:t.size<=1048576)(w:Bool):∃k,M.wz t.kind t.op t.text t.other (cZ w t.kids)=some (k,0)/\(k=0\/k=1\/k=4)/\(k=0↔t.size<=400/\depth (t.flat 0)<=40):=by
 have a1:=M.afD (avy w t.size t t.kind t.op t.text t.other (zaX _) hs);have a2:=M.Wh (arQ w t.size t t.kind t.op t.text t.other (zaX _) hs);simp only[M.wz,M.QG,a1,ah]
 by_cases h4:t.size<=400
 ·have hk:=t.X7;have e:=arR t.size t 0 (Lies.whole t);rw[show 0+sizes t.kids=t.size - 1 by omega] at e;have hd:depth (t.flat 0)=dF t.size t:=by rw[depth,aAp t h4,if_pos rfl,t.flat_length,e]
  rw[xE au,bG,hd,a2,ah]
  by_cases hc:dF t.size t>40
  ·rw[zdt hc];exact⟨4,rfl,au,au⟩
  ·rw[xE hc];exact⟨0,rfl,au,au⟩
 ·rw[zdt au];exact⟨1,rfl,au,au⟩
def alK(l:List Tk)(hl:l.length<=1048576)(hf:∀t,t∈l->I64 t.kind/\t.text.length<=1048576){N:Nat}(hN:N<=1048576)(hpl:PlT N l):
  ∃fl q k p,M.jC (aF l)=some (dJ true q,k,p)/\PgT l N fl q k p:=by
 have hT:=auj l hl hf;have e0:∀o,dJ o []=[]:=λ_=>rfl
 cases ht:Wn l with
 |false=>rw[ht] at hT;refine⟨true,[],2,0, ?_,.bad au au au au⟩;simp only[M.jC,M.yC,M.wu,M.Hr,hT,ah];rfl
 |true=>
  rw[ht] at hT;have h3:l.length<=3000:=by have:=ht;rw[Wn,zq,decide_eq_true_eq] at this;exact this.1
  have hNs:=aAP l h3
  by_cases hn:akS l<0
  ·have hc:M.wu (aF l)=some (0,0):=by simp only[M.wu,M.Hr,hT,hNs,ah,zaW,bG];rw[xE au,bG]
   have hi:=aDM au (akR ht) hc (60 * (l.length - 0)+52);have hto:=arF (l:=l) (60 * (l.length - 0)+52) [] 0 [] (zaX _);have hsm:=avN (l:=l) (λt ht=>(hf t ht).2) (60 * (l.length - 0)+52) [] 0 [] trivial aeZ;have hsz:=avq (l:=l) (60 * (l.length - 0)+52) [] 0 [] (Nat.zero_le _);generalize hp:Ig l (60 * (l.length - 0)+52) [] 0 []=p at hi hto hsm hsz;cases p with
   |out=>exact hto.elim
   |bad j=>
    have hi:M.jC (aF l)=(M.pY (aF l) (j:Int)).bind λr=>some ([],3,r):=hi
    obtain⟨p,p1,p3,p4⟩:=avO l h3 hN hpl j;refine⟨true,[],3,p, ?_,.bad au au p3 p4⟩;rw[hi,p1,ah];rfl
   |ok L j nt=>
    have hi:M.jC (aF l)=aDL (cZ false L):=hi;have hts:(Tn.mk 45 0 [] [] L).size=sizes L+1:=rfl;obtain⟨hfn, -,hz⟩:=hsz;rw[sizes0,UR] at hz;have hzz:sizes L<=18000:=au;obtain⟨k,b2,b3,b4⟩:=axp (t:=.mk 45 0 [] [] L) au false;have b2':M.wz 45 0 [] [] (cZ false L)=some (k,0):=b2;rw[hi,aDL,b2',ah];cases hk:k==0 with
    |false=>have hk':=QV.1 hk;refine⟨true,[],k,0, ?_,.bad au au au au⟩;simp only[hk,bG,Bool.not_false,aH];rfl
    |true=>
     have hli:M.nT 45 0 [] [] (cZ false L)=some (dJ true ((Tn.mk 45 0 [] [] L).flat 0)):=avl (t:=.mk 45 0 [] [] L) au;have ek:k=0:=by rwa [beq_iff_eq] at hk
     subst ek;have hb:=b4.1 rfl;refine⟨false,(Tn.mk 45 0 [] [] L).flat 0,0,0, ?_,.ok ht hp hb.1 hb.2 ⟨⟨Nat.zero_le _,Nat.zero_le _⟩,hsm.1⟩⟩;simp only[hk,aH,zaW,bG,hli,ah,am5]
  ·obtain⟨j,hj⟩:∃j:Nat,akS l=j:=⟨(akS l).toNat,au⟩
   obtain⟨p,p1,p3,p4⟩:=avO l h3 hN hpl j;refine⟨true,[],4,p, ?_,.bad au au p3 p4⟩;simp only[M.jC,M.yC,M.wu,M.Hr,hT,hNs,ah,zaW,bG];rw[zdt au,aH,hj,p1,ah,ah];rfl
section
variable (l:List Nd) (o:Bool) (hl:l.length<=1048576) (hk:∀n,n∈l->n.kids.length<=1048576) (hsm:∀n,n∈l->Small n)
include hl hk hsm
noncomputable def YA(l:List Nd):Bool:=Dk l &&(match l.getLast? with|some n=>n.kind==45|none=>false)
theorem Xm:M.wB (dJ o l)=some (YA l):=by
 simp only[M.wB,M.MK,abE l o hl hk hsm,ah,YA,iV];cases ht:Dk l with
 |false=>rfl
 |true=>obtain⟨n,h1,h2⟩:=arA l o hl hk hsm ht;rw[aH,h2,ah,h1,Bool.true_and];rfl
end
def aAQ(l:List Nd)(k p:Int):[[D.sl true 5 (dJ true l)],[D.int .i64 k,D.int .i64 p]].all fB=true:=by simp[fB,D.pure,Y8]
def auk{s:aC}(h:(zU s).2.1=0):s.length<=1048576:=by
 unfold zU at h;split at h
 ·exact absurd h (by decide)
 ·next hc=>omega
inductive RdX(s:aC):List Nd->Int->Int->Prop where
 |lex:(zU s).2.1≠0->RdX s [] (zU s).2.1 (zU s).2.2
 |bad {k p:Int}:(zU s).2.1=0->M.jC (aF (zU s).1)=some ([],k,p)->1<=k->k<=4->0<=p->p<=s.length->RdX s [] k p
 |ok {L:List Tn} {j:Nat} {nt:dO}:(zU s).2.1=0->Wn (zU s).1=true->M.jC (aF (zU s).1)=some (dJ true ((Tn.mk 45 0 [] [] L).flat 0),0,0)->Ig (zU s).1 (60 * ((zU s).1.length - 0)+52) [] 0 []=.ok L j nt->
   (Tn.mk 45 0 [] [] L).size<=400->Dk ((Tn.mk 45 0 [] [] L).flat 0)=true->Q7 (.mk 45 0 [] [] L)->RdX s ((Tn.mk 45 0 [] [] L).flat 0) 0 0
def aD6(s:aC):∃q k p,M.KE s=some (dJ true q,k,p)/\RdX s q k p:=by
 have hL:=aAu s;have hx:=avE s;have hd:=aDP s;simp only[M.KE,M.Vr,hL.2,ah];cases hk:(zU s).2.1==0 with
 |false=>simp only[bne,hk,Bool.not_false,aH,bG];exact⟨[],_,_,rfl,.lex (QV.1 hk)⟩
 |true=>
  have e1:(zU s).2.1=0:=by rwa [beq_iff_eq] at hk
  have e0:(zU s).2.2=0:=hd.2 e1;have hs:=auk e1;obtain⟨fl,q,k,p,h2,h3⟩:=alK (zU s).1 au (λt ht=>⟨⟨by have:=(hd.1 t ht).1;omega,by have:=(hd.1 t ht).2;omega⟩,by have:=hx.2 t ht;omega⟩) hs (aD0 s hs).1;simp only[bne,hk,e0,zaW,aH,bG,h2,ah,afo,aAQ,show((0:Int)==0)=true from rfl];refine⟨q,k,p,rfl, ?_⟩;cases h3 with
  |bad a1 a2 a3 a4=>exact .bad e1 h2 a1 a2 a3 a4
  |ok a1 a2 a3 a4 a5=>exact .ok e1 a1 h2 a2 a3 (PgT.right (N:=0) a1 a2 a3 a4 a5) a5
def axq(L:List Tn):∃n,((Tn.mk 45 0 [] [] L).flat 0).getLast? =some n/\n.kind=45:=by rw[Tn.flat];exact⟨_,List.getLast?_concat,rfl⟩
def avP{L:List Tn}(h:Dk ((Tn.mk 45 0 [] [] L).flat 0)=true):YA ((Tn.mk 45 0 [] [] L).flat 0)=true:=by obtain⟨n,h1,h2⟩:=axq L;unfold YA;rw[h,h1,Bool.true_and];simp only[h2,beq_self_eq_true]
def aAR(l:List Nd)(o:Bool)(d:Int)(hl:l.length<=1048576)(hk:∀n,n∈l->n.kids.length<=1048576/\∀e,e∈n.kids-> -4000000000<=e+d/\e+d<=4000000000):
  M.Au (dJ o l) d=some (dJ true (l.map (Nd.up d))):=by
 simp only[M.Au,M.PN];have hloop:=uM (b:=M.JH (dJ o l) d) (t:=((l.length:Int),dJ true (l.map (Nd.up d)))) (λi=>((i:Int),dJ true ((l.take i).map (Nd.up d)))) l.length
  (by
   intro i hi;obtain⟨n,hn⟩:∃n,l[i]? =some n:=⟨l[i],by simp[hi]⟩
   obtain⟨hkl,hke⟩:=hk n (Ro hn);have hin:=uM (b:=M.JG (dJ o l) d (i:Int) (dJ true ((l.take i).map (Nd.up d))) n.kind n.op n.text n.other) (t:=((n.kids.length:Int),encI (n.kids.map (· +d)))) (λj=>((j:Int),encI ((n.kids.take j).map (· +d)))) n.kids.length
    (by
     intro j hj;obtain⟨e,he⟩:∃e,n.kids[j]? =some e:=⟨n.kids[j],by simp[hj]⟩
     have:=hke e (Ro he);simp only[Fj,M.JG,M.En,bZ,qo,hn,MS,ah,cN4,dZ,yO,he,cI0,zaY,zlt,OW];rw[zdt au,aH,bI au,aH,bI au,aH,aJ au au,aJ au au,pz he];simp[encI])
    (by simp only[Fj,M.JG,M.En,bZ,qo,hn,MS,ah,cN4,dZ];rw[xE au,bG,List.take_length]) 0 (Nat.zero_le _)
   simp only[Wy,List.take_zero,List.map_nil] at hin;have hin':M.NS (dJ o l) d (i:Int) (dJ true ((l.take i).map (Nd.up d))) n.kind n.op n.text n.other (0,[])=some ((n.kids.length:Int),encI (n.kids.map (· +d))):=hin;simp only[Fj,M.JH,M.Eo,iV,bZ,qo,hn,MS,ah,cN0,cN1,cN2,cN3,cN4,hin',RH,aH,zaY,zlt,OW];rw[zdt au,aH,bI au,aH,bI au,aH,aJ au au,pz hn,List.map_append,QO];rfl)
  (by simp only[Fj,M.JH,M.Eo,iV];rw[xE au,bG,List.take_length]) 0 (Nat.zero_le _)
 simp only[Wy,List.take_zero,List.map_nil] at hloop;have OQ:M.NT (dJ o l) d (0,[])=some ((l.length:Int),dJ true (l.map (Nd.up d))):=hloop;rw[OQ,ah]
def parts(ts:List Tn):ak:=ts.map λt=>[.sl false 5 (dJ false (t.flat 0))]
def aD7(k op:Int)(x y:aC)(kr:ak)(ts:List Tn)(hs:sizes ts<=900000):M.kF k op x y kr (parts ts)=some (dJ true ((Tn.mk k op x y ts).flat 0)):=by
 have htl:=zV ts;simp only[Fj,M.kF,M.SV];have hpl:(parts ts).length=ts.length:=by simp[parts]
 have hloop:=uM (b:=M.LG (parts ts) k op x y) (t:=((ts.length:Int),dJ true (lX ts 0),encI (ends ts 0))) (λj=>((j:Int),dJ true (lX (ts.take j) 0),encI (ends (ts.take j) 0))) ts.length
  (by
   intro j hj;obtain⟨t,ht⟩:∃t,ts[j]? =some t:=⟨ts[j],by simp[hj]⟩
   have hst:=Lh ht;have hp:=t.size_pos;have hr:(parts ts)[j]? =some [.sl false 5 (dJ false (t.flat 0))]:=by simp[parts,ht]
   have c0:cSl 5 [D.sl false 5 (dJ false (t.flat 0))] 0=some (dJ false (t.flat 0)):=rfl;have hfl:(dJ true (lX (ts.take j) 0)).length=sizes (ts.take j):=by rw[iV,tC]
   have hsh:M.Au (dJ false (t.flat 0)) ((sizes (ts.take j):Nat):Int)=some (dJ true (t.flat (sizes (ts.take j)))):=by
    rw[aAR (t.flat 0) false _ (by rw[t.flat_length];omega) (λn hn=> ?_)]
    ·rw[t.an4 0 (sizes (ts.take j))];congr 4<;>omega
    ·obtain⟨h1,h2⟩:=Pg t 0 n hn;refine⟨au,λe he=> ?_⟩;have:=h2 e he;omega
   have hrl:(dJ true (t.flat (sizes (ts.take j)))).length=t.size:=by rw[iV,t.flat_length]
   have hel:(encI (ends (ts.take j) 0)).length=j:=by rw[dZ,iP,zlt];omega
   simp only[Fj,M.LG,M.Gy,hpl,bZ,hr,ah,c0,hfl,hsh,hrl,hel,Gt,OW];rw[zdt au,aH,bI au,aH,bI au,aH,bI au,aH,bI au,aH,aJ au au,aJ au au,aeT ht,agV ht,QO,Nat.zero_add];simp[encI])
  (by simp only[Fj,M.LG,M.Gy,hpl];rw[xE au,bG,List.take_length]) 0 (Nat.zero_le _)
 have e0:dJ true (lX (ts.take 0) 0)=[]:=rfl;have e1:encI (ends (ts.take 0) 0)=[]:=rfl;rw[Wy,e0,e1] at hloop;have OQ:M.PO (parts ts) k op x y (0,[],[])=some ((ts.length:Int),dJ true (lX ts 0),encI (ends ts 0)):=hloop;rw[OQ,ah];simp only[RH,aH,iV,tC,OW];rw[bI au,aH,bI au,aH,Tn.flat,QO];rfl
def aAS(o w:Bool)(ts:List Tn):aB (ts.map λt=>[D.sl w 5 (dJ o (t.flat 0))])=parts ts:=by rw[Y6,List.map_map];unfold parts;congr 1;funext t;simp[Bf,D.fz,afo]
def cR(s:Cu):ak:=s.code.map byteRow
structure ag7(s:Cu):Prop where
 i:s.i<=s.code.length
 l:s.code.length<=1048576
def ag7.st{s:Cu}(h:ag7 s)(p:Nat):ag7 (s.st p):=⟨by rw[Cu.aJH s h.i,Cu.aiJ];omega,by rw[Cu.aiJ];exact h.l⟩
def axr(x:Int):i64.wrap (↑(BitVec.ofInt 64 x &&& BitVec.ofInt 64 255).toNat:Int)=(alp x:Int):=by have:=auV x;show i64.wrap (alp x:Int)=_;exact aJ au au
def aD8{s:Cu}(h:ag7 s):M.ng (cR s) s.i s.h=some ((s.byte:Int),cR s.nx,(s.nx.i:Int),s.nx.h):=by
 have hi:=h.i;have hl:=h.l;simp only[M.ng,M.SK,axr];have e1:(cR s).length=s.code.length:=by simp[cR]
 have e2:cR s.nx=cR s:=rfl;have e3:s.nx.h=i64.wrap (i64.wrap (s.h * 6364136223846793005)+1442695040888963407):=rfl;rw[e1,e2,e3]
 by_cases hlt:s.i<s.code.length
 ·obtain⟨b,hb⟩:∃b,s.code[s.i]? =some b:=⟨s.code[s.i],by simp[hlt]⟩
  have hr:idx (cR s) (s.i:Int)=some (byteRow b):=by rw[bZ,cR,List.getElem?_map,hb];rfl
  have hc:jq .u8 (byteRow b) 0=some (b.toNat:Int):=rfl;have hn:(s.nx.i:Int)=(s.i:Int)+1:=by show((if s.i<s.code.length then s.i+1 else s.i:Nat):Int)=_;rw[if_pos hlt];omega
  have hby:s.byte=alp (i64.wrap ((alp (aBR (nxH s.h)):Int)+b.toNat)):=by rw[Cu.byte,hb]
  have hb8:(b.toNat:Int)<=255:=by have:=b.toNat_lt;omega
  rw[zdt au,aH,hr,ah,hc,ah,aJ (n:=(b.toNat:Int)) au au,aJ (n:=(s.i:Int)+1) au au,hn,hby];rfl
 ·have hb:s.code[s.i]? =none:=List.getElem?_eq_none au;have hn:(s.nx.i:Int)=(s.i:Int):=by show((if s.i<s.code.length then s.i+1 else s.i:Nat):Int)=_;rw[if_neg hlt]
  have hby:s.byte=alp (aBR (nxH s.h)):=by rw[Cu.byte,hb]
  rw[xE au,bG,hn,hby];rfl
def cS(s:Cu)(p:Nat):ak×Int×Int:=(cR (s.st p),((s.st p).i:Int),(s.st p).h)
section
variable {s:Cu} (h:ag7 s)
include h
theorem byte_at(p:Nat):M.ng (cS s p).1 (cS s p).2.1 (cS s p).2.2=some ((s.g p:Int),cS s (p+1)):=by show M.ng (cR (s.st p)) ((s.st p).i:Int) (s.st p).h=_;rw[aD8 (h.st p)];show _=some (((s.st p).byte:Int),(cR (s.st (p+1)),((s.st (p+1)).i:Int),(s.st (p+1)).h));rw[Cu.st_succ]
theorem vg(p n:Nat)(h1:1<=n)(h2:n<=256):M.bM (n:Int) (cS s p).1 (cS s p).2.1 (cS s p).2.2=some (((s.g p % n:Nat):Int),cS s (p+1)):=by simp only[M.bM,M.Gx,byte_at h,ah];rw[xE au,bG,zdt au,aH,xE au];simp only[Bool.not_false,aH];rw[Int.tmod_eq_emod_of_nonneg au,Int.natCast_emod]
theorem axt(p:Nat)(n:Int)(hn:n<=9000000000000000000):∃(k:Int) (q:Nat),M.bM n (cS s p).1 (cS s p).2.1 (cS s p).2.2=some (k,cS s q)/\p<=q/\q<=p+4/\0<=k/\(k<n\/(n<=0/\k=0)):=by
 by_cases h0:n<=0
 ·refine⟨0,p, ?_,zaX _,au,au,.inr ⟨h0,rfl⟩⟩;simp only[M.bM,M.Gx];rw[zdt h0,aH]
 ·by_cases h1:n<=256
  ·obtain⟨m,rfl⟩:=Int.eq_ofNat_of_zero_le (a:=n) au;have h1':m<=256:=au;have h0':1<=m:=au;refine⟨_,_,vg h p m h0' h1',au,au,au,.inl ?_⟩;have:=Nat.mod_lt (s.g p) (show 0<m by omega);exact Int.ofNat_lt.2 this
  ·refine⟨((((s.g p:Int) * 16777216+(s.g (p+1):Int) * 65536)+(s.g (p+2):Int) * 256)+(s.g (p+3):Int)) % n,p+4, ?_,au,au,Int.emod_nonneg _ au,.inl (Int.emod_lt_of_pos _ au)⟩;have hb:∀q,(s.g q:Int)<256:=λq=>by have:=(s.st q).aBS;exact Int.ofNat_lt.2 this
   have b0:=hb p;have b1:=hb (p+1);have b2:=hb (p+2);have b3:=hb (p+3);simp only[M.bM,M.Gx,byte_at h,ah];rw[xE h0,bG,xE h1,bG,xE au];simp only[Bool.not_false,aH];rw[show p+1+1=p+2 from rfl,show p+2+1=p+3 from rfl,show p+3+1=p+4 from rfl];rw[aJ (n:=(s.g p:Int) * 16777216) au au,aJ (n:=(s.g (p+1):Int) * 65536) au au,aJ (n:=(s.g (p+2):Int) * 256) au au,
    aJ (n:=(s.g p:Int) * 16777216+(s.g (p+1):Int) * 65536) au au,aJ (n:=(s.g p:Int) * 16777216+(s.g (p+1):Int) * 65536+(s.g (p+2):Int) * 256) au au,
    aJ (n:=(s.g p:Int) * 16777216+(s.g (p+1):Int) * 65536+(s.g (p+2):Int) * 256+(s.g (p+3):Int)) au au,Int.tmod_eq_emod_of_nonneg au]
theorem af2(p n:Nat)(h1:1<=n)(h2:n<=256):M.rZ (n:Int) (cS s p).1 (cS s p).2.1 (cS s p).2.2=some (s.g p % n==0,cS s (p+1)):=by
 simp only[M.rZ,M.SN,vg h p n h1 h2,ah];congr 2;cases hc:s.g p % n==0 with
 |true=>simp only[beq_iff_eq] at hc;rw[hc];rfl
 |false=>simp only[QV,ne_eq] at hc;exact QV.2 au
end
def rY(t:aC):Prop:=t.length<=100
def pkS(rows:ak)(k:Nat):aC:=match rows[k % rows.length]? with
 |some [.str t]=>t
 |_=>[]
def pkI(rows:ak)(k:Nat):Int:=match rows[k % rows.length]? with
 |some [.int .i64 n]=>n
 |_=>0
def ak0(f:Row->Bool)(rows:ak):Bool:=rows.all f &&(Nat.ble 1 rows.length && Nat.ble rows.length 256)
def sB:Row->Bool
 |[.str t]=>Nat.ble t.length 100
 |_=>false
def iB:Row->Bool
 |[.int .i64 n]=>decide (-1000<=n) && decide (n<=1000)
 |_=>false
def af4{f:Row->Bool}{rows:ak}(hr:ak0 f rows=true)(k:Nat):∃r,rows[k % rows.length]? =some r/\f r=true/\1<=rows.length/\rows.length<=256:=by simp only[ak0,zq] at hr;have h1:=Nat.le_of_ble_eq_true hr.2.1;have h2:=Nat.le_of_ble_eq_true hr.2.2;have hm:=Nat.mod_lt k (show 0<rows.length by omega);exact⟨rows[k % rows.length],by simp[hm],List.all_eq_true.1 hr.1 _ (List.getElem_mem hm),h1,h2⟩
def rO{rows:ak}(hr:ak0 sB rows=true)(k:Nat):rY (pkS rows k):=by
 obtain⟨r,h1,h2,_⟩:=af4 hr k;unfold pkS;rw[h1];unfold sB at h2;split at h2
 ·exact Nat.le_of_ble_eq_true h2
 ·cases h2
def YB{rows:ak}(hr:ak0 iB rows=true)(k:Nat): -1000<=pkI rows k/\pkI rows k<=1000:=by
 obtain⟨r,h1,h2,_⟩:=af4 hr k;unfold pkI;rw[h1];unfold iB at h2;split at h2
 ·simpa using h2
 ·cases h2
section
variable {s:Cu} (h:ag7 s)
include h
theorem OB(p:Nat)(rows:ak)(hr:ak0 sB rows=true):M.dw rows (cS s p).1 (cS s p).2.1 (cS s p).2.2=some (pkS rows (s.g p),cS s (p+1)):=by
 obtain⟨r,h1,h2,h3,h4⟩:=af4 hr (s.g p);simp only[M.dw,M.Nw];rw[vg h p rows.length h3 h4,ah];simp only[bZ,h1,ah,pkS];unfold sB at h2;split at h2
 ·rfl
 ·cases h2
theorem af5(p:Nat)(rows:ak)(hr:ak0 iB rows=true):M.qC rows (cS s p).1 (cS s p).2.1 (cS s p).2.2=some (pkI rows (s.g p),cS s (p+1)):=by
 obtain⟨r,h1,h2,h3,h4⟩:=af4 hr (s.g p);simp only[M.qC,M.LJ];rw[vg h p rows.length h3 h4,ah];simp only[bZ,h1,ah,pkI];unfold iB at h2;split at h2
 ·rfl
 ·cases h2
theorem ab4(p:Nat):∃t,rY t/\M.ni (cS s p).1 (cS s p).2.1 (cS s p).2.2=some (t,cS s (p+1)):=by refine⟨_, ?_,by simp only[M.ni,M.SQ];rw[OB h p _ rfl];rfl⟩;exact rO rfl _
theorem aAT(p:Nat):∃t,rY t/\M.Fp (cS s p).1 (cS s p).2.1 (cS s p).2.2=some (t,cS s (p+1)):=by refine⟨_, ?_,by simp only[M.Fp,M.Vg];rw[OB h p _ rfl];rfl⟩;exact rO rfl _
theorem aAU(p:Nat):∃t,rY t/\M.Fq (cS s p).1 (cS s p).2.1 (cS s p).2.2=some (t,cS s (p+1)):=by refine⟨_, ?_,by simp only[M.Fq,M.Vh];rw[OB h p _ rfl];rfl⟩;exact rO rfl _
theorem aAV(p:Nat):∃t,rY t/\M.Fv (cS s p).1 (cS s p).2.1 (cS s p).2.2=some (t,cS s (p+1)):=by refine⟨_, ?_,by simp only[M.Fv,M.Vj];rw[OB h p _ rfl];rfl⟩;exact rO rfl _
theorem aAW(p:Nat):∃t:Int, -1000<=t/\t<=1000/\M.DZ (cS s p).1 (cS s p).2.1 (cS s p).2.2=some (t,cS s (p+1)):=by
 refine⟨_, ?_, ?_,by simp only[M.DZ,M.PU];rw[af5 h p _ rfl];rfl⟩
 ·exact(YB rfl _).1
 ·exact(YB rfl _).2
end
def aFB(n:Nd):Prop:=(-1000<=n.kind/\n.kind<=1000)/\(-1000<=n.op/\n.op<=1000)/\rY n.text/\rY n.other
def adX(t:Tn):Prop:=∀b n,n∈t.flat b->aFB n
def anr:∀{ts:List Tn} {b:Nat} {n:Nd},n∈lX ts b->∃t,t∈ts/\∃b',n∈t.flat b'
 |[],b,n,h=>by simp[lX] at h
 |t::ts,b,n,h=>by
  rw[lX,List.mem_append] at h;rcases h with h|h
  ·exact⟨t,by simp,b,h⟩
  ·obtain⟨u,h1,h2⟩:=anr h;exact⟨u,by simp[h1],h2⟩
def avQ{k op:Int}{x y:aC}{ts:List Tn}(hk: -1000<=k/\k<=1000)(ho: -1000<=op/\op<=1000)(hx:rY x)(hy:rY y)(h:∀t,t∈ts->adX t):adX (.mk k op x y ts):=by
 intro b n hn;rw[Tn.flat,List.mem_append] at hn;rcases hn with hn|hn
 ·obtain⟨t,h1,b',h2⟩:=anr hn;exact h t h1 b' n h2
 ·rw[List.mem_singleton.1 hn];exact⟨hk,ho,hx,hy⟩
def og:rY []:=by simp[rY]
abbrev DF:=Nat->Nat×Nat
def up(r:Nat×Nat):Nat×Nat:=(r.1+1,r.2)
def aIR(a b:DF):DF:=λp=>((a p).1+(b (a p).2).1,(b (a p).2).2)
def itS(e:DF):Nat->DF
 |0,p=>(0,p)
 |n+1,p=>((e p).1+(itS e n (e p).2).1,(itS e n (e p).2).2)
def asa(g:Nat->Nat)(p:Nat):Nat:=bif Nat.beq (g p % 7) 2 then p+3 else p+2
def ahW(g:Nat->Nat):DF:=λp=>(1,asa g p)
def lvS(g:Nat->Nat)(e1 e2:DF):DF:=λp=>match g p % 4 with
 |0=>up (e1 (p+2))
 |1=>up (e2 (p+1))
 |_=>(1,p+2)
def ahX(g:Nat->Nat)(e:DF)(least w:Nat):DF:=λp=>itS e (least+g p % w) (p+1)
def UA(g:Nat->Nat)(e0 e1 e2:DF):DF:=λp=>match g (p+1) % 16 with
 |0=>ahW g (p+2)
 |1=>lvS g e0 e1 (p+2)
 |2=>up (e0 (p+2))
 |3=>up (ahX g e0 0 4 (p+3))
 |4=>up (ahX g e1 0 4 (p+3))
 |5=>up (lvS g e1 e2 (p+2))
 |6=>up (lvS g e1 e2 (p+2))
 |7=>up (e0 (p+3))
 |8=>up (e0 (p+3))
 |9=>up (ahX g e0 1 2 (p+3))
 |10=>up (itS e0 3 (p+2))
 |11=>up (aIR (lvS g e1 e2) e0 (p+3))
 |_=>up (itS e0 2 (p+3))
def aoS{g:Nat->Nat}{e0 e1 e2:DF}{p:Nat}(h:12<=g (p+1) % 16):UA g e0 e1 e2 p=up (itS e0 2 (p+3)):=by unfold UA;split<;>first|omega|rfl
def XJ(g:Nat->Nat):Nat->DF×DF×DF
 |0=>(ahW g,ahW g,ahW g)
 |d+1=>(UA g (XJ g d).1 (XJ g d).2.1 (XJ g d).2.2,(XJ g d).1,(XJ g d).2.1)
def Pj(g:Nat->Nat)(d:Nat):DF:=(XJ g d).1
def aAX(g:Nat->Nat):∀d,XJ g d=(Pj g d,Pj g (d - 1),Pj g (d - 2))
 |0=>rfl
 |1=>rfl
 |d+2=>rfl
def ak1(g:Nat->Nat)(d:Nat):Pj g (d+1)=UA g (Pj g d) (Pj g (d - 1)) (Pj g (d - 2)):=by show UA g (XJ g d).1 (XJ g d).2.1 (XJ g d).2.2=_;rw[aAX]
def aul(g:Nat->Nat):Pj g 0=ahW g:=rfl
def Bd(b:Nat)(e:DF):Prop:=∀p,1<=(e p).1/\p+(e p).1<=(e p).2/\(e p).2<=p+b
def Bd.mono{b b':Nat}{e:DF}(h:Bd b e)(hb:b<=b'):Bd b' e:=λp=>by have:=h p;omega
def aoT{b:Nat}{e:DF}(h:Bd b e):∀n p,n<=(itS e n p).1/\p+(itS e n p).1<=(itS e n p).2/\(itS e n p).2<=p+n * b
 |0,p=>by simp[itS]
 |n+1,p=>by have h1:=h p;have h2:=aoT h n (e p).2;rw[itS,Nat.add_mul];simp only;omega
def avR(g:Nat->Nat):Bd 3 (ahW g):=λp=>by show 1<=1/\p+1<=asa g p/\asa g p<=p+3;unfold asa;cases Nat.beq (g p % 7) 2<;>simp
def aAY{g:Nat->Nat}{b:Nat}{e1 e2:DF}(h1:Bd b e1)(h2:Bd b e2):Bd (b+2) (lvS g e1 e2):=λp=>by unfold lvS up;have a:=h1 (p+2);have c:=h2 (p+1);split<;>first|omega|(simp only;omega)
def aoU{g:Nat->Nat}{b:Nat}{e:DF}(h:Bd b e)(least w:Nat)(hw:1<=w)(p:Nat):p+1+(ahX g e least w p).1<=(ahX g e least w p).2/\(ahX g e least w p).2<=p+1+(least+w - 1) * b:=by unfold ahX;have:=aoT h (least+g p % w) (p+1);have hm:=Nat.mod_lt (g p) (show 0<w by omega);have h2:(least+g p % w) * b<=(least+w - 1) * b:=Nat.mul_le_mul_right b au;omega
def aD9{g:Nat->Nat}{b:Nat}{e0 e1 e2:DF}(hb:3<=b)(h0:Bd b e0)(h1:Bd b e1)(h2:Bd b e2):Bd (3 * b+4) (UA g e0 e1 e2):=λp=>by unfold UA up aIR;have a2:=h0 (p+2);have a3:=h0 (p+3);have l0:=avR g (p+2);have v0:=aAY (g:=g) h0 h1 (p+2);have v2:=aAY (g:=g) h1 h2 (p+2);have v3:=aAY (g:=g) h1 h2 (p+3);have b3:=h0 (lvS g e1 e2 (p+3)).2;have i3:=aoT h0 3 (p+2);have i2:=aoT h0 2 (p+3);have s0:=aoU (g:=g) h0 0 4 au (p+3);have s1:=aoU (g:=g) h1 0 4 au (p+3);have s9:=aoU (g:=g) h0 1 2 au (p+3);split<;>first|omega|(simp only;omega)
def bE:Nat->Nat
 |0=>3
 |d+1=>3 * bE d+4
def aFC:∀d,3<=bE d
 |0=>zaX _
 |d+1=>by have:=aFC d;rw[bE];omega
def aEa:∀d,bE (d - 1)<=bE d/\bE (d - 2)<=bE d
 |0=>⟨zaX _,zaX _⟩
 |1=>by decide
 |d+2=>by have h1:d+2 - 1=d+1:=rfl;have h2:d+2 - 2=d:=rfl;rw[h1,h2,show bE (d+2)=3 * bE (d+1)+4 from rfl,show bE (d+1)=3 * bE d+4 from rfl];omega
def Zi(g:Nat->Nat)(d:Nat):Bd (bE d) (Pj g d):=by
 induction d using Nat.strongRecOn with
 |_ d ih=>
  cases d with
  |zero=>exact avR g
  |succ d=>rw[ak1];have hm:=aEa d;exact aD9 (aFC d) (ih d au) ((ih (d - 1) au).mono hm.1) ((ih (d - 2) au).mono hm.2)
abbrev DR:=Option zaP
def DTr(m:DR)(s:Cu)(r:Nat×Nat):Prop:=∃t:Tn,m=some (dJ true (t.flat 0),cS s r.2)/\t.size=r.1/\adX t
def rowT(t:Tn):Row:=[D.sl true 5 (dJ true (t.flat 0))]
def DL(m:DR)(s:Cu)(r:Nat×Nat):Prop:=∃ts:List Tn,m=some (ts.map rowT,cS s r.2)/\sizes ts=r.1/\ts.length<=10/\∀t,t∈ts->adX t
def aEb(ts:List Tn):aB (ts.map rowT)=parts ts:=aAS true true ts
def bd{α:Type}{m:Option α}{x:α}{k:α->DR}{s:Cu}{r:Nat×Nat}(e:m=some x)(hk:DTr (k x) s r):DTr (m.bind k) s r:=by rw[e];exact hk
def made{s:Cu}{q:Nat}(k op:Int)(x y:aC)(ts:List Tn){z:Nat}(hz:sizes ts+1=z)(hs:z<=900000)(hk: -1000<=k/\k<=1000)(ho: -1000<=op/\op<=1000)(hx:rY x)(hy:rY y)(h:∀t,t∈ts->adX t):
  DTr ((M.kF k op x y [] (aB (ts.map rowT))).bind λr=>bif[[D.sl true 5 r]].all fB then some (r,(cS s q).1,(cS s q).2.1,(cS s q).2.2) else none) s (z,q):=by
 refine⟨.mk k op x y ts, ?_, ?_,avQ hk ho hx hy h⟩
 ·rw[aEb,aD7 k op x y [] ts au,ah,am5,aH]
 ·rw[Tn.size];exact hz
def Wq{t:Tn}(h:adX t):∀u,u∈[t]->adX u:=λu hu=>by rw[List.mem_singleton.1 hu];exact h
def ak2{s:Cu}{q:Nat}(k:Int)(x:aC)(hk: -1000<=k/\k<=1000)(hx:rY x):DTr (some ([[D.int IntKind.i64 k,D.int IntKind.i64 0,D.str x,D.str [],D.sl true 1 []]],(cS s q).1,(cS s q).2.1,(cS s q).2.2)) s (1,q):=
 ⟨.mk k 0 x [] [],rfl,rfl,avQ hk au hx og (by simp)⟩
def ak3{s:Cu}{e:DF}{b:Int×ak×Int×Int×ak->Option ((Int×ak×Int×Int×ak)⊕zaL)}
  (hz:∀p x,b (0,(cS s p).1,(cS s p).2.1,(cS s p).2.2,x)=some (.inr (0,(cS s p).1,(cS s p).2.1,(cS s p).2.2,x)))
  (hs:∀(n p:Nat) (ts:List Tn),n<=10->ts.length<=20->∃t,b (((n+1:Nat):Int),(cS s p).1,(cS s p).2.1,(cS s p).2.2,ts.map rowT)=some (.inl ((n:Int),(cS s (e p).2).1,(cS s (e p).2).2.1,(cS s (e p).2).2.2,(ts++[t]).map rowT))/\t.size=(e p).1/\adX t):
  ∀(n p:Nat) (ts:List Tn),n+ts.length<=10->∃us:List Tn,fH b ((n:Int),(cS s p).1,(cS s p).2.1,(cS s p).2.2,ts.map rowT)=some (0,(cS s (itS e n p).2).1,(cS s (itS e n p).2).2.1,(cS s (itS e n p).2).2.2,(ts++us).map rowT)/\sizes us=(itS e n p).1/\us.length=n/\∀t,t∈us->adX t
 |0,p,ts,_=>⟨[],by rw[Wy,aV (hz p _),List.append_nil];rfl,rfl,rfl,by simp⟩
 |n+1,p,ts,hn=>by
  obtain⟨t,h1,h2,h3⟩:=hs n p ts au au;obtain⟨us,k1,k2,k3,k4⟩:=ak3 hz hs n (e p).2 (ts++[t]) (by simp;omega);refine⟨t::us, ?_, ?_,by simp[k3], ?_⟩
  ·rw[bQ h1,k1,itS,QW];rfl
  ·rw[sizes,h2,k2,itS]
  ·intro u hu;rcases List.mem_cons.1 hu with rfl|hu
   ·exact h3
   ·exact k4 u hu
def axu(ts:List Tn)(t:Tn):(ts++[t]).map rowT=ts.map rowT++[[D.sl true 5 (dJ true (t.flat 0))]]:=by rw[List.map_append];rfl
section
variable {s:Cu} (h:ag7 s)
include h
theorem asb(p:Nat):DTr (M.DY (cS s p).1 (cS s p).2.1 (cS s p).2.2) s (ahW s.g p):=by
 have hm:=Nat.mod_lt (s.g p) (show 0<7 by omega);simp only[M.DY,M.SS,ahW,asa];rw[show((7:Int))=((7:Nat):Int) from rfl,vg h p 7 au au,ah];obtain⟨t1,a1,e1⟩:=aAT h (p+1);obtain⟨t2,a2,e2⟩:=aAU h (p+1);obtain⟨t3,a3,e3⟩:=aAV h (p+1+1);obtain⟨t4,a4,e4⟩:=ab4 h (p+1+1);obtain⟨t5,a5,e5⟩:=ab4 h (p+1);have hc:s.g p % 7=0\/s.g p % 7=1\/s.g p % 7=2\/3<=s.g p % 7:=au;have e6:=af2 h (p+1) 2 au au;rw[show((2:Nat):Int)=2 from rfl] at e6;rcases hc with hc|hc|hc|hc
 ·rw[hc];simp only[e1,ah];exact ak2 2 t1 au a1
 ·rw[hc];simp only[e2,ah];exact ak2 3 t2 au a2
 ·rw[hc];simp only[e6,ah];cases hq:s.g (p+1) % 2==0 with
  |true=>simp only[hq,aH,e3,ah];exact ak2 4 t3 au a3
  |false=>simp only[hq,bG,e4,ah];exact ak2 1 t4 au a4
 ·have n0:(((s.g p % 7:Nat):Int)==0)=false:=QV.2 au;have n1:(((s.g p % 7:Nat):Int)==1)=false:=QV.2 au;have n2:(((s.g p % 7:Nat):Int)==2)=false:=QV.2 au;have n3:Nat.beq (s.g p % 7) 2=false:=zM au;simp only[n0,n1,n2,n3,bG,e5,ah];exact ak2 1 t5 au a5
end
def EX(s:Cu)(k d:Nat):Prop:=∀deep:Int, -8<=deep->deep<=5->deep.toNat=d->∀p,DTr (M.sW k deep (cS s p).1 (cS s p).2.1 (cS s p).2.2) s (Pj s.g d p)
def ak4{d:Nat}(h:d<=5):bE d<=1300:=by have:d=0\/d=1\/d=2\/d=3\/d=4\/d=5:=au;rcases this with rfl|rfl|rfl|rfl|rfl|rfl<;>decide
section
variable {s:Cu} (h:ag7 s)
include h
theorem aFD{k d:Nat}(hd:d<=5)(h1:EX s k (d - 1))(h2:EX s k (d - 2)){deep:Int}(l1: -6<=deep)(l2:deep<=5)(l3:deep.toNat=d)(p:Nat):
  DTr (M.Jb (k+1) deep (cS s p).1 (cS s p).2.1 (cS s p).2.2) s (lvS s.g (Pj s.g (d - 1)) (Pj s.g (d - 2)) p):=by
 have hm:=Nat.mod_lt (s.g p) (show 0<4 by omega);have b1:=Zi s.g (d - 1) (p+2);have b2:=Zi s.g (d - 2) (p+1);have c1:=ak4 (show d - 1<=5 by omega);have c2:=ak4 (show d - 2<=5 by omega);rw[M.ah5];simp only[M.DJ,lvS];rw[show((4:Int))=((4:Nat):Int) from rfl,vg h p 4 au au,ah,aJ (n:=deep - 1) au au,aJ (n:=deep - 2) au au];obtain⟨t1,a1,e1⟩:=ab4 h (p+1);obtain⟨u1,f1,z1,i1⟩:=h1 (deep - 1) au au au (p+2);obtain⟨u2,f2,z2,i2⟩:=h2 (deep - 2) au au au (p+1);have hc:s.g p % 4=0\/s.g p % 4=1\/s.g p % 4=2\/s.g p % 4=3:=au;rcases hc with hc|hc|hc|hc
 ·rw[hc];simp only[e1,f1,ah];exact made 5 0 t1 [] [u1] (by rw[sizes,sizes,z1]) au au au a1 og (Wq i1)
 ·rw[hc];simp only[f2,ah];exact made 6 0 [] [] [u2] (by rw[sizes,sizes,z2]) au au au og og (Wq i2)
 ·rw[hc];simp only[e1,ah];exact ak2 1 t1 au a1
 ·rw[hc];simp only[e1,ah];exact ak2 1 t1 au a1
theorem aoV{k:Nat}{deep:Int}{e:DF}{b:Nat}(hb:Bd b e)(hb2:b<=2000)(he:∀p,DTr (M.sW k deep (cS s p).1 (cS s p).2.1 (cS s p).2.2) s (e p))(least most:Nat)(hl:least<=most)(hm:most<=5)(p:Nat):
  DL (M.Ny (k+1) least most deep (cS s p).1 (cS s p).2.1 (cS s p).2.2) s (ahX s.g e least (most - least+1) p):=by
 rw[M.als];simp only[M.Jr];have hmod:=Nat.mod_lt (s.g p) (show 0<most - least+1 by omega);have e1:i64.wrap (i64.wrap ((most:Int) - least)+1)=((most - least+1:Nat):Int):=by rw[aJ (n:=(most:Int) - least) au au,aJ au au];omega
 rw[e1,vg h p (most - least+1) au au,ah];have e2:i64.wrap ((least:Int)+((s.g p %(most - least+1):Nat):Int))=((least+s.g p %(most - least+1):Nat):Int):=by rw[aJ au au];omega
 simp only[e2];obtain⟨us,k1,k2,k3,k4⟩:=ak3 (s:=s) (e:=e) (b:=M.RP (M.sW k) deep) (λp x=>rfl) (λn p ts hn ht=>by obtain⟨t,f1,z1,i1⟩:=he p;refine⟨t, ?_,z1,i1⟩;simp only[Fj,M.RP,M.LH,f1,ah,zaY,OW];rw[zdt au,aH,bI au,aH,bI au,aH,aJ au au,axu];simp) (least+s.g p %(most - least+1)) (p+1) [] (by simp;omega);refine⟨us, ?_,k2,au,k4⟩;have k1':M.PS (M.sW k) deep (((least+s.g p %(most - least+1):Nat):Int),(cS s (p+1)).1,(cS s (p+1)).2.1,(cS s (p+1)).2.2,[])=_:=k1;rw[k1',ah];rfl
theorem axv{d j:Nat}(hd:d+1<=5)(H:∀i,j<=i->EX s i d/\EX s i (d - 1)/\EX s i (d - 2)):EX s (j+2) (d+1):=by
 intro deep l1 l2 l3 p;obtain⟨h0,hq1,hq2⟩:=H j (zaX _);obtain⟨h0',_,_⟩:=H (j+1) au;have hm:=Nat.mod_lt (s.g (p+1)) (show 0<16 by omega);have hm2:=Nat.mod_lt (s.g p) (show 0<2 by omega);have c0:=ak4 (show d<=5 by omega);have c1:=ak4 (show d - 1<=5 by omega);have hB:=Zi s.g (d+1) p;have hB2:=ak4 hd;have hB3:(Pj s.g (d+1) p).1<=900000:=au;rw[ak1] at hB3|-;rw[M.acG];simp only[M.FP,M.KF];have w1:i64.wrap (deep - 1)=deep - 1:=aJ au au;have w2:i64.wrap (deep - 2)=deep - 2:=aJ au au;have e2:=vg h p 2 au au;have e16:=vg h (p+1) 16 au au;rw[show((2:Nat):Int)=2 from rfl] at e2;rw[show((16:Nat):Int)=16 from rfl] at e16;rw[xE au,bG,e2,ah,e16,ah];simp only[w1,w2];have hdd:d+1 - 1=d:=rfl;have hd2:d+1 - 2=d - 1:=au;have L0:=λq=>aoV h (Zi s.g d) au (h0 (deep - 1) au au au) 0 3 au au q
 have L1:=λq=>aoV h (Zi s.g (d - 1)) au (hq1 (deep - 2) au au au) 0 3 au au q
 have L2:=λq=>aoV h (Zi s.g d) au (h0 (deep - 1) au au au) 1 2 au au q
 have X0:=h0' (deep - 1) au au au;have V0:=aFD h (show d+1<=5 by omega) (k:=j) (by rw[hdd];exact h0) (by rw[hd2];exact hq1) (deep:=deep) au au l3;have V1:=aFD h (show d<=5 by omega) (k:=j) hq1 hq2 (deep:=deep - 1) au au au;rw[hdd,hd2] at V0;rcases Nat.lt_or_ge (s.g (p+1) % 16) 12 with hlt|hbig
 ·unfold UA at hB3|-;have hc:s.g (p+1) % 16=0\/s.g (p+1) % 16=1\/s.g (p+1) % 16=2\/s.g (p+1) % 16=3\/s.g (p+1) % 16=4\/s.g (p+1) % 16=5\/s.g (p+1) % 16=6\/s.g (p+1) % 16=7\/s.g (p+1) % 16=8\/s.g (p+1) % 16=9\/s.g (p+1) % 16=10\/s.g (p+1) % 16=11:=au;rcases hc with hc|hc|hc|hc|hc|hc|hc|hc|hc|hc|hc|hc<;>rw[hc] at hB3|-
  ·obtain⟨t,f,z,i⟩:=asb h (p+2);exact bd f ⟨t,rfl,z,i⟩
  ·obtain⟨t,f,z,i⟩:=V0 (p+2);exact bd f ⟨t,rfl,z,i⟩
  ·obtain⟨t,f,z,i⟩:=X0 (p+2);exact bd f (made 6 0 [] [] [t] (by rw[sizes,sizes,z]) hB3 au au og og (Wq i))
  ·obtain⟨x,a,e⟩:=ab4 h (p+2);obtain⟨ts,f,z,_,i⟩:=L0 (p+3);exact bd e (bd f (made 7 0 x [] ts (by rw[z]) hB3 au au a og i))
  ·obtain⟨ts,f,z,_,i⟩:=L1 (p+3);exact bd (OB h _ _ rfl) (bd f (made 8 0 _ [] ts (by rw[z]) hB3 au au (rO rfl _) og i))
  ·obtain⟨t,f,z,i⟩:=V1 (p+2);exact bd f (made 9 _ [] [] [t] (by rw[sizes,sizes,z]) hB3 au (by rw[aJ au au];omega) og og (Wq i))
  ·obtain⟨t,f,z,i⟩:=V1 (p+2);exact bd f (made 10 _ [] [] [t] (by rw[sizes,sizes,z]) hB3 au (by rw[aJ au au];omega) og og (Wq i))
  ·obtain⟨t,f,z,i⟩:=X0 (p+3);exact bd (af5 h _ _ rfl) (bd f (made 11 _ [] [] [t] (by rw[sizes,sizes,z]) hB3 au (YB rfl _) og og (Wq i)))
  ·obtain⟨t,f,z,i⟩:=X0 (p+3);exact bd (af5 h _ _ rfl) (bd f (made 11 _ [] [] [t] (by rw[sizes,sizes,z]) hB3 au (YB rfl _) og og (Wq i)))
  ·obtain⟨x,a,e⟩:=ab4 h (p+2);obtain⟨ts,f,z,_,i⟩:=L2 (p+3);exact bd e (bd f (made 13 0 x [] ts (by rw[z]) hB3 au au a og i))
  ·obtain⟨t1,f1,z1,i1⟩:=X0 (p+2);obtain⟨t2,f2,z2,i2⟩:=X0 (Pj s.g d (p+2)).2;obtain⟨t3,f3,z3,i3⟩:=X0 (Pj s.g d (Pj s.g d (p+2)).2).2;exact bd f1 (bd f2 (bd f3 (made 14 0 [] [] [t1,t2,t3] (by simp only[sizes,z1,z2,z3,itS]) hB3 au au og og (by simp[i1,i2,i3]))))
  ·obtain⟨t1,f1,z1,i1⟩:=V1 (p+3);obtain⟨t2,f2,z2,i2⟩:=X0 (lvS s.g (Pj s.g (d - 1)) (Pj s.g (d - 2)) (p+3)).2;exact bd (af5 h _ _ rfl) (bd f1 (bd f2 (made 15 _ [] [] [t1,t2] (by simp only[sizes,z1,z2,aIR];omega) hB3 au (YB rfl _) og og (by simp[i1,i2]))))
 ·rw[aoS hbig] at hB3|-;have nn:∀n:Int,n<12->(((s.g (p+1) % 16:Nat):Int)==n)=false:=λn hn=>QV.2 au
  simp only[nn 0 au,nn 1 au,nn 2 au,nn 3 au,nn 4 au,nn 5 au,nn 6 au,nn 7 au,nn 8 au,nn 9 au,nn 10 au,nn 11 au,bG];obtain⟨o,o1,o2,e⟩:=aAW h (p+2);obtain⟨t1,f1,z1,i1⟩:=X0 (p+3);obtain⟨t2,f2,z2,i2⟩:=X0 (Pj s.g d (p+3)).2;exact bd e (bd f1 (bd f2 (made 12 o [] [] [t1,t2] (by simp only[sizes,z1,z2,itS]) hB3 au ⟨o1,o2⟩ og og (by simp[i1,i2]))))
theorem aAZ:∀(d k:Nat),d<=5->2 * d+1<=k->EX s k d:=by
 intro d;induction d using Nat.strongRecOn with
 |_ d ih=>
  intro k hd hk;cases d with
  |zero=>
   obtain⟨k,rfl⟩:∃j,k=j+1:=⟨k - 1,au⟩
   intro deep l1 l2 l3 p;rw[M.acG,aul];simp only[M.FP,M.KF];rw[zdt au,aH];obtain⟨t,f,z,i⟩:=asb h p;simp only[f,ah];exact⟨t,rfl,z,i⟩
  |succ d=>
   obtain⟨j,rfl⟩:∃j,k=j+2:=⟨k - 2,au⟩
   exact axv h hd λi hi=>⟨ih d au i au au,ih (d - 1) au i au au,ih (d - 2) au i au au⟩
theorem aEc{deep:Int}(l1: -8<=deep)(l2:deep<=5)(p:Nat):DTr (M.ny deep (cS s p).1 (cS s p).2.1 (cS s p).2.2) s (Pj s.g deep.toNat p):=by obtain⟨t,f,z,i⟩:=aAZ h deep.toNat (2 * deep.toNat+1) au (zaX _) deep l1 l2 rfl p;exact⟨t,M.ajV f,z,i⟩
end
def axw(k n:Int)(x:aC)(c:Nat):Bool:=
 bif(!(k==4) && !(n==0))||(!(k==1) && !(x==[])) then false else
 bif k==1 then !(hasB 10 x) && Nat.beq c 0 else bif k==2||k==3 then Nat.beq c 0 else bif k==4 then(decide (0<=n) && decide (n<=40)) && Nat.beq c 1 else
 bif k==5 then Nat.beq c 1 else k==6
mutual
def dOk:Tn->Bool
 | .mk k n x _ ks=>aEd ks && axw k n x ks.length
def aEd:List Tn->Bool
 |[]=>true
 |t::ts=>(dOk t) && aEd ts
end
mutual
def aFE:Tn->Option (aC)
 | .mk k _ x _ ks=>bif k==1 then some x else bif k==2 then some [32] else bif k==3 then none else aA0 ks
def aA0:List Tn->Option (aC)
 |[]=>some []
 |t::ts=>match(aFE t) with
  |none=>none
  |some a=>match aA0 ts with
   |none=>none
   |some b=>some (a++b)
end
mutual
def bh:Tn->Nat×Bool
 | .mk k _ x _ ks=>bif k==2||k==3 then(0,true) else((bif k==1 then x.length else 0)+(bhs ks).1,(bhs ks).2)
def bhs:List Tn->Nat×Bool
 |[]=>(0,false)
 |t::ts=>bif(bh t).2 then(bh t) else((bh t).1+(bhs ts).1,(bhs ts).2)
end
abbrev Pc:=Tn×Int×Bool
def a01(w col:Int)(t:Tn)(st:List Pc):Bool:=match(aFE t) with
 |some s=>decide ((s.length:Int)+(bhs (st.map (·.1))).1<=w - col)
 |none=>false
def brk(out:aC)(i:Int):aC:=out++(10::List.replicate i.toNat 32)
def lay(w:Int):Nat->List Pc->aC->Int->aC
 |0,_,out,_=>out
 |_+1,[],out,_=>out
 |n+1,(.mk k m x y ks,i,f)::st,out,col=>
  bif k==1 then lay w n st (out++x) (col+x.length) else
  bif k==2 && f then lay w n st (out++[32]) (col+1) else
  bif k==2||k==3 then lay w n st (brk out i) i else
  bif k==4 then lay w n (ks.map (λt=>(t,i+m,f))++st) out col else
  bif k==5 then lay w n (ks.map (λt=>(t,i,f||a01 w col (.mk k m x y ks) st))++st) out col else
  lay w n (ks.map (λt=>(t,i,f))++st) out col
structure Ok(l:List Nd):Prop where
 len:l.length<=1048576
 kids:∀n,n∈l->n.kids.length<=1048576/\∀e,e∈n.kids->I64 e
 sm:∀n,n∈l->Small n
 w:wK l<=10000000
def Ok.k{l:List Nd}(h:Ok l):∀n,n∈l->n.kids.length<=1048576:=λn hn=>by have:=(h.kids n hn).1;omega
def aoW{l:List Nd}(h:Dk l=true):Fh l=true:=by unfold Dk at h;rw[zq] at h;exact h.1
def aiu(o:Bool)(n:Nd):Row:=[.int .i64 n.kind,.int .i64 n.op,.str n.text,.sl o 1 (encI n.kids)]
def mJ(o:Bool)(l:List Nd):ak:=l.map (aiu o)
section
variable (o:Bool) (n:Nd) (l:List Nd) (i:Int)
@[simp] theorem tY:(mJ o l).length=l.length:=by simp[mJ]
@[simp] theorem aJg:idx (mJ o l) i=(idx l i).map (aiu o):=aiI _ _ _
@[simp] theorem Sz(j:Nat):(mJ o l)[j]? =(l[j]?).map (aiu o):=by simp[mJ]
@[simp] theorem cD0:jq .i64 (aiu o n) 0=some n.kind:=rfl
@[simp] theorem cD1:jq .i64 (aiu o n) 1=some n.op:=rfl
@[simp] theorem cD2:cStr (aiu o n) 2=some n.text:=rfl
@[simp] theorem cD3:cSl 1 (aiu o n) 3=some (encI n.kids):=rfl
@[simp] theorem aA1:aB (mJ o l)=mJ false l:=by
 induction l with
 |nil=>rfl
 |cons x l ih=>simp only[mJ,zmc,aB] at ih|-;rw[ih];simp[aiu,Bf,D.fz,auT]
end
def Zj(o:Bool)(a b:List Nd):mJ o (a++b)=mJ o a++mJ o b:=by simp[mJ]
def ak5:∀l:List Nd,I5 (mJ true l)=true
 |[]=>rfl
 |n::l=>by have:mJ true (n::l)=aiu true n::mJ true l:=rfl;rw[this,I5,ak5 l];simp[aiu,fB,D.pure]
def axx(l:List Nd):[[D.sl true 4 (mJ true l)]].all fB=true:=by simp[fB,D.pure,ak5]
def len_eq(n c:Nat):((n:Int)==(c:Int))=Nat.beq n c:=by rw[Bool.eq_iff_iff,beq_iff_eq,Nat.beq_eq];omega
def aS9(n:Nat):((n:Int)==0)=Nat.beq n 0:=len_eq n 0
def aTa(n:Nat):((n:Int)==1)=Nat.beq n 1:=len_eq n 1
def asc{P:Int->Prop}(h1:P 1)(h2:P 2)(h3:P 3)(h4:P 4)(h5:P 5)(h6:P 6)(h:∀k,k≠1->k≠2->k≠3->k≠4->k≠5->k≠6->P k)(k:Int):P k:=by
 by_cases e1:k=1
 ·rwa [e1]
 by_cases e2:k=2
 ·rwa [e2]
 by_cases e3:k=3
 ·rwa [e3]
 by_cases e4:k=4
 ·rwa [e4]
 by_cases e5:k=5
 ·rwa [e5]
 by_cases e6:k=6
 ·rwa [e6]
 exact h k e1 e2 e3 e4 e5 e6
def aiv(k n:Int)(x:aC)(rows:ak)(hx:x.length<=1000000000):M.Eb k n x rows=some (axw k n x rows.length):=by
 simp only[M.Eb,M.Qj,M.DV,aro x hx,ah,QN,axw,aS9,aTa];generalize hasB 10 x=hb;generalize (x==[])=xe;generalize Nat.beq rows.length 0=c0;generalize Nat.beq rows.length 1=c1;generalize (decide (0<=n) && decide (n<=40))=r
 by_cases hn:n=0
 ·subst hn;revert k;refine asc ?_ ?_ ?_ ?_ ?_ ?_ (λk e1 e2 e3 e4 e5 e6=> ?_)
  case refine_7=>rw[<-bne_iff_ne] at e1 e4;simp only[QV.2 e2,QV.2 e3,QV.2 e5,QV.2 e6,e1,e4,QV.2 (bne_iff_ne.1 e1),QV.2 (bne_iff_ne.1 e4)];cases xe<;>rfl
  all_goals cases xe<;>cases hb<;>cases r<;>rfl
 ·have hn':(n==0)=false:=QV.2 hn;have hn2:(n !=0)=true:=bne_iff_ne.2 hn;revert k;refine asc ?_ ?_ ?_ ?_ ?_ ?_ (λk e1 e2 e3 e4 e5 e6=> ?_)
  case refine_7=>rw[<-bne_iff_ne] at e1 e4;simp only[hn',hn2,QV.2 e2,QV.2 e3,QV.2 e5,QV.2 e6,e1,e4,QV.2 (bne_iff_ne.1 e1),QV.2 (bne_iff_ne.1 e4)];cases xe<;>rfl
  all_goals simp only[hn',hn2];cases xe<;>cases hb<;>cases r<;>rfl
def abO(l:List Nd)(o:Bool){i:Nat}{n:Nd}{st:List Int}(hi:l[i]? =some n)(hl:l.length<=90000000)(hst:ab6 st)(hs:st.length=i):
  ∀(j:Nat) (a:Int),j<=n.kids.length->n.kids.length<=90000000->0<=a->a<=i->M.wG (mJ o l) (i:Int) (encI st) (a,(j:Int) - 1)=some (match gG st (n.kids.take j).reverse (a - 1) with
   |none=> .inl ()
   |some r=> .inr (r+1, -1))
 |0,a,hj,hk,h0,h1=>by rw[M.wG];apply aV;simp only[M.F8,M.zX];rw[xE au,bG,List.take_zero,List.reverse_nil,gG];simp
 |j+1,a,hj,hkl,h0,h1=>by
  have hlt:i<l.length:=(Po.1 hi).1;obtain⟨k,hk⟩:∃k,n.kids[j]? =some k:=⟨n.kids[j]'au,by simp⟩
  have ht:(n.kids.take (j+1)).reverse=k::(n.kids.take j).reverse:=by rw[List.take_add_one,hk,Option.toList_some,List.reverse_append];rfl
  rw[ht,gG];have e1:(((j+1:Nat):Int) - 1)=(j:Int):=au;rw[e1];have hstep:M.F8 (mJ o l) (i:Int) (encI st) (a,(j:Int))=if a - 1<0\/k≠a - 1 then some (.inr (.inl ())) else some (.inl (st[k.toNat]?.getD 0,(j:Int) - 1)):=by
   simp only[M.F8,M.zX,bZ,Sz,hi,MS,ah,cD3,yO,hk,cI0];rw[zdt au,aH,aJ (n:=a - 1) au au]
   by_cases h2:k=a - 1
   ·have:(k !=a - 1)=false:=by simp[h2]
    rw[this,bG]
    by_cases h3:a=0
    ·have:(a==0)=true:=by simp[h3]
     rw[this,aH,if_pos (.inl au)]
    ·have:(a==0)=false:=by simp[h3]
     rw[this,bG,if_neg au];obtain⟨d,hd⟩:∃d:Nat,a - 1=(d:Int):=⟨(a - 1).toNat,au⟩
     have hdl:d<st.length:=au;rw[h2,hd];simp only[ajM,bZ,yO,ztn];rw[List.getElem?_eq_getElem hdl];simp only[MS,ah,cI0,Option.getD_some];rw[aJ au au]
   ·have:(k !=a - 1)=true:=by simp[h2]
    rw[this,aH,if_pos (.inr h2)]
  by_cases hc:a - 1<0\/k≠a - 1
  ·rw[if_pos hc];rw[if_pos hc] at hstep;exact aV hstep
  ·rw[if_neg hc];rw[if_neg hc] at hstep;rw[M.wG,bQ hstep];have hz:=VN hst k.toNat;have:=abO l o hi hl hst hs j (st[k.toNat]?.getD 0) au hkl hz.1 au;rw[M.wG] at this;exact this
def ZF(l:List Nd)(o:Bool)(hl:l.length<=90000000)(hk:∀n,n∈l->n.kids.length<=90000000):∀(rest:List Nd) (i:Nat) (st:List Int),l.drop i=rest->st.length=i->i<=l.length->ab6 st->
  M.wH (mJ o l) ((i:Int),encI st)=some (match iD st (ks rest) with
   |none=> .inl ()
   |some r=> .inr ((l.length:Int),encI r))
 |[],i,st,hd,hs,hi,hst=>by have:l.length<=i:=List.drop_eq_nil_iff.1 hd;rw[M.wH];apply aV;simp only[Fj,M.F9,M.zY,tY];rw[xE au,bG];have:i=l.length:=au;subst this;rfl
 |n::rest,i,st,hd,hs,hi,hst=>by
  have hn:l[i]? =some n:=by
   have:(l.drop i)[0]? =some n:=by rw[hd];rfl
   simpa using this
  have hlt:i<l.length:=(Po.1 hn).1;have hd':l.drop (i+1)=rest:=by rw[<-List.drop_drop,hd];rfl
  have hkn:=hk n (Ro hn);have hin:=abO l o hn hl hst hs n.kids.length (i:Int) (zaX _) hkn au au;rw[List.take_length] at hin;have hks:ks (n::rest)=n.kids::ks rest:=rfl;rw[hks,iD,hs];have hstep:M.F9 (mJ o l) ((i:Int),encI st)=some (match gG st n.kids.reverse ((i:Int) - 1) with
    |none=> .inr (.inl ())
    |some a=> .inl (((i+1:Nat):Int),encI (st++[a+1]))):=by
   simp only[Fj,M.F9,M.zY,tY,bZ,Sz,hn,MS,ah,cD3,dZ];rw[zdt au,aH,aJ (n:=(n.kids.length:Int) - 1) au au,hin];cases hw:gG st n.kids.reverse ((i:Int) - 1) with
   |none=>rfl
   |some a=>simp only[ah,jX,letE,OW];rw[bI au,aH,bI au,aH,aJ au au];simp[encI]
  cases hw:gG st n.kids.reverse ((i:Int) - 1) with
  |none=>rw[hw] at hstep;exact aV hstep
  |some a=>rw[hw] at hstep;rw[M.wH,bQ hstep];have hr:=Kw hst _ _ _ au au hw;have:=ZF l o hl hk rest (i+1) (st++[a+1]) hd' (by simp[hs]) hlt (X8 hst hr.1 hr.2);rw[M.wH] at this;exact this
def aEe(n:Nd):Bool:=axw n.kind n.op n.text n.kids.length
mutual
def ase:∀(t:Tn) (b:Nat),(t.flat b).all aEe=(dOk t)
 | .mk k o x y ks,b=>by rw[Tn.flat,List.all_append,ant ks b,dOk];simp[aEe,iP]
def ant:∀(ks:List Tn) (b:Nat),(lX ks b).all aEe=aEd ks
 |[],_=>rfl
 |t::ts,b=>by rw[lX,List.all_append,ase t b,ant ts _,aEd]
end
def asf{α:Type}(f:α->Bool):∀(l:List α) (i:Nat),Vs (λ_ x=>f x) l i=l.all f
 |[],_=>rfl
 |x::l,i=>by rw[Vs,asf f l,List.all_cons]
section
variable {t:Tn} {o:Bool} (h:t.size<=90000000)
include h
theorem aum:(t.flat 0).length<=90000000/\∀n,n∈t.flat 0->n.kids.length<=90000000:=
 ⟨by rw[t.flat_length];exact h,λn hn=>by have:=(Pg t 0 n hn).1;omega⟩
theorem aA2:∃q:Nat,(t.size:Int) - 1=(q:Int)/\(t.sts 0)[q]? =some 0:=by obtain⟨u,hu,hul⟩:=t.aao 0;have hp:=t.size_pos;refine⟨u.length,au, ?_⟩;rw[hu,List.getElem?_append_right (zaX _),Nat.sub_self];rfl
theorem af6:M.yQ (mJ o (t.flat 0))=some (encI (t.sts 0),true):=by obtain⟨h1,h2⟩:=aum h;have hout:=ZF (t.flat 0) o h1 h2 (t.flat 0) 0 [] rfl rfl (Nat.zero_le _) X9;rw[Wy,WS] at hout;have e0:encI []=[]:=rfl;rw[e0] at hout;simp only[M.yQ,M.LZ,hout,ah,jX,letE,RH,aH]
theorem alL(hx:∀n,n∈t.flat 0->n.text.length<=1000000000):M.KD (mJ o (t.flat 0))=some ((dOk t) && decide (t.size<=4000)):=by
 have hp:=t.size_pos;simp only[M.KD,M.Vl,QN,ah,tY,t.flat_length]
 by_cases hs:t.size<=4000
 ·have hl:=abD (t.flat 0) (λ_ n=>aEe n) (b:=M.Og (mJ o (t.flat 0)))
   (λi n hi=>by have hil:=(Po.1 hi).1;have hxn:=hx n (Ro hi);rw[t.flat_length] at hil;simp only[M.Og,M.Ji,tY,t.flat_length,bZ,Sz,hi,MS,ah,cD0,cD1,cD2,cD3,aiv _ _ n.text _ au,dZ];rw[zdt au,aH,aJ au au];change _=some (bif axw n.kind n.op n.text n.kids.length then _ else _);cases axw n.kind n.op n.text n.kids.length<;>rfl)
   (by simp only[M.Og,M.Ji,tY];rw[xE au,bG])
  rw[asf,ase] at hl;rw[zdt (show(1:Int)<=t.size by omega),zdt (show(t.size:Int)<=4000 by omega),Bool.true_and,zaW,bG,M.TD,hl,ah,zdt hs,Bool.and_true];cases hd:(dOk t) with
  |false=>rfl
  |true=>obtain⟨q,hq1,hq2⟩:=aA2 h;simp only[aH,jX,letE,af6 (o:=o) h,ah];rw[aJ au au,hq1];simp only[bZ,yO,hq2,MS,ah,cI0,ztn];rfl
 ·rw[xE (show¬(t.size:Int)<=4000 by omega),Bool.and_false,Bool.not_false,aH,xE hs,Bool.and_false]
end
def bytesOf_map:∀s:aC,bytesOf (s.map byteRow)=some s
 |[]=>rfl
 |c::s=>by
  have h:asByte (byteRow c)=some c:=by simp only[byteRow,asByte];simp
  rw[zmc,bytesOf,h,bytesOf_map s]
def aA3(s:aC):(dtx s).size=1:=by simp[dtx,Tn.size,sizes]
def ash:akA.size=1:=by simp[akA,Tn.size,sizes]
@[simp] theorem aIS(l:List Tk):aj (aF l)=true:=by simp only[aj,aF,List.all_map,List.all_eq_true];intro x _;rfl
section
end
def sz1(u:Tn):sizes [u]=u.size:=by simp[sizes]
def sz2(u v:Tn):sizes [u,v]=u.size+v.size:=by simp[sizes]
def sz3(u v z:Tn):sizes [u,v,z]=u.size+(v.size+z.size):=by simp[sizes]
def aoX{α:Type}{l:List α}(h:l.length=2):∃a b,l=[a,b]:=by
 match l,h with
 |[a,b],_=>exact⟨a,b,rfl⟩
def asi{α:Type}{l:List α}(h:l.length=3):∃a b c,l=[a,b,c]:=by
 match l,h with
 |[a,b,c],_=>exact⟨a,b,c,rfl⟩
def avS{op:Int}(h:ug op≠0):I64 op:=by
 by_cases hr:0<=op/\op<=99
 ·constructor<;>omega
 ·exfalso;apply h;have e:∀z:Int,0<=z->z<=99->(op==z)=false:=λz h1 h2=>by rw[QV];omega
  simp only[ug,e 44 (by decide) (by decide),e 45 (by decide) (by decide),e 67 (by decide) (by decide),e 46 (by decide) (by decide),e 63 (by decide) (by decide),e 48 (by decide) (by decide),e 47 (by decide) (by decide),e 50 (by decide) (by decide),e 62 (by decide) (by decide),e 49 (by decide) (by decide),e 99 (by decide) (by decide),e 55 (by decide) (by decide),e 56 (by decide) (by decide),e 57 (by decide) (by decide),e 58 (by decide) (by decide),e 59 (by decide) (by decide),e 60 (by decide) (by decide),Bool.or_false,bG]
section
end
def aoY:∀{ks:List Tn} {u:Tn},JB ks->u∈ks->Q7 u
 |[],_,_,h=>by cases h
 |t::ts,u,h,hu=>by
  rw[JB] at h;rcases List.mem_cons.1 hu with rfl|hu
  ·exact h.1
  ·exact aoY h.2 hu
def aFF(l:List (aC))(h:∀g,g∈l->g.length<=9)(i:Nat):(l[i]?.getD []).length<=9:=by
 cases hx:l[i]? with
 |none=>simp
 |some g=>exact h g (Ro hx)
def aTb:∀g,g∈Y2->g.length<=9:=by decide+kernel
def aTc:∀g,g∈UL->g.length<=9:=by decide+kernel
def YC(k:Int):(spell k).length<=9:=by
 unfold spell;split
 ·simp
 ·split
  ·exact aFF _ aTb _
  ·split
   ·exact aFF _ aTc _
   ·simp
mutual
def tsm:Tn->Prop
 | .mk _ _ x _ ks=>x.length<=1000000000/\ZT ks
def ZT:List Tn->Prop
 |[]=>True
 |t::ts=>tsm t/\ZT ts
end
mutual
def asj:∀(t:Tn) (b:Nat),tsm t->∀n,n∈t.flat b->n.text.length<=1000000000
 | .mk k o x y ks,b,h,n,hn=>by
  rw[tsm] at h;rw[Tn.flat] at hn;rcases List.mem_append.1 hn with hn|hn
  ·exact anu ks b h.2 n hn
  ·simp only[List.mem_singleton] at hn;subst hn;exact h.1
def anu:∀(ks:List Tn) (b:Nat),ZT ks->∀n,n∈lX ks b->n.text.length<=1000000000
 |[],b,_,n,hn=>by simp[lX] at hn
 |t::ts,b,h,n,hn=>by
  rw[ZT] at h;rw[lX] at hn;rcases List.mem_append.1 hn with hn|hn
  ·exact asj t b h.1 n hn
  ·exact anu ts _ h.2 n hn
end
def aA4(s:aC):tsm (dtx s)↔s.length<=1000000000:=by simp[dtx,tsm,ZT]
def asl:tsm akA:=by simp[akA,tsm,ZT]
def asn:∀l:List Tn,ZT l↔∀t,t∈l->tsm t
 |[]=>by simp[ZT]
 |t::ts=>by simp[ZT,asn ts]
def ahY(a b:List Tn):ZT (a++b)↔ZT a/\ZT b:=by simp only[asn,List.mem_append];exact⟨λh=>⟨λt ht=>h t (.inl ht),λt ht=>h t (.inr ht)⟩,λh t ht=>ht.elim (h.1 t) (h.2 t)⟩
def two(a b:Option (aC)):Option (aC):=match a with
 |none=>none
 |some x=>match b with
  |none=>none
  |some y=>some (x++y)
def tL:List Nd->Nat
 |[]=>0
 |n::l=>n.text.length+1+tL l
def aFG:∀l:List Nd,(∀n,n∈l->n.text.length<=1000000000)->tL l<=1000000001 * l.length
 |[],_=>by simp[tL]
 |n::l,h=>by
  have h1:=h n zmf;have h2:=aFG l λm hm=>h m (zmm _ hm)
  rw[tL,Pq,Nat.mul_add];omega
def aA5{L:List Nd}{o:Bool}(hL:L.length<=1000000):∀(l:List Nd) (i:Nat) (acc:aC),L.drop i=l->i+l.length=L.length->acc.length+tL l<=20000000000000->
  M.rD (mJ o L) ((i:Int),acc.map byteRow)=some (.inl ())\/∃(z:Int) (s:aC),M.rD (mJ o L) ((i:Int),acc.map byteRow)=some (.inr (z,s.map byteRow))/\s.length<=acc.length+tL l
 |[],i,acc,hd,hi,_=>by rw[M.rD];refine .inr ⟨_,acc,aV (t:=Sum.inr ((i:Int),acc.map byteRow)) ?_,Nat.le_add_right _ _⟩;simp only[M.Ci,M.Ce,tY];rw[UR] at hi;rw[xE au,bG]
 |n::l,i,acc,hd,hi,hb=>by
  rw[Pq] at hi;rw[tL] at hb|-;have hn:L[i]? =some n:=by have:=congrArg (λx=>x[0]?) hd;simpa using this
  have hd':L.drop (i+1)=l:=by have:=congrArg (λx=>x.drop 1) hd;simpa using this
  have hw:i64.wrap ((i:Int)+1)=((i+1:Nat):Int):=by rw[aJ au au];omega
  suffices H:M.Ci (mJ o L) ((i:Int),acc.map byteRow)=some (.inr (.inl ()))\/∃s:aC,s.length<=n.text.length+1/\M.Ci (mJ o L) ((i:Int),acc.map byteRow)=some (.inl (((i+1:Nat):Int),(acc++s).map byteRow)) by
   rw[M.rD];rcases H with h|⟨s,hs,h⟩
   ·exact .inl (aV h)
   ·have ha:(acc++s).length=acc.length+s.length:=Gt;rw[bQ h];rcases aA5 hL l (i+1) (acc++s) hd' au au with h|⟨z,s',h,h'⟩
    ·exact .inl h
    ·exact .inr ⟨z,s',h,au⟩
  simp only[M.Ci,M.Ce,tY,bZ,Sz,hn,MS,ah,cD0,cD2,zaY,hw];rw[zdt au,aH];cases n.kind==1 with
  |true=>exact .inr ⟨n.text,au,by rw[aH,bI au,aH,bI au,aH,List.map_append]⟩
  |false=>
  cases n.kind==2 with
  |true=>exact .inr ⟨[32],by simp,by rw[bG,aH,bI au,aH,bI au,aH,List.map_append];rfl⟩
  |false=>
  cases n.kind==3 with
  |true=>exact .inl rfl
  |false=>exact .inr ⟨[],by simp,by rw[List.append_nil];rfl⟩
def aA6{t:Tn}{o:Bool}(hz:t.size<=1000000)(hx:tsm t):∃x b,M.yI (mJ o (t.flat 0))=some (x,b)/\x.length<=5000000000000:=by
 have hxx:=asj t 0 hx;have ht:=aFG _ hxx;have hl:=t.flat_length 0;simp only[M.yI,M.Oh,alL (t:=t) au hxx,ah];cases hd:dOk t && decide (t.size<=4000) with
 |false=>exact⟨[],false,rfl,by simp⟩
 |true=>
  rw[zq,decide_eq_true_eq] at hd;have h0:M.rD (mJ o (t.flat 0)) (0,[])=M.rD (mJ o (t.flat 0)) (((0:Nat):Int),([]:aC).map byteRow):=rfl;rw[h0];rcases aA5 (o:=o) (L:=t.flat 0) au (t.flat 0) 0 [] rfl au (by simp only[UR];omega) with h|⟨z,s,h,h'⟩
  ·rw[h];exact⟨[],false,rfl,by simp⟩
  ·rw[h];simp only[zaW,bG,ah,jX,letE,bytesOf_map];exact⟨s,true,rfl,by simp only[UR] at h';omega⟩
def room{n:Nat}(h:n<=1000000000):n.ble 140737488355328=true:=bI au
def aun{n:Nat}(h:n<=1000000000):(n * 32).ble 140737488355328=true:=bI au
def Ws{k op:Int}{x y:aC}{r:ak}{j:Nat}{p:Ps}(he:1<=k/\k<=15)(hc:Cnt k op y r.length)(hj:j<r.length)(hr:r.length<=1048576):
  M.gJ k op x y r (j:Int) p.level p.FV p.Y9 p.Za p.FW=some (akz k op r.length j p).Zl:=by
 have hb:Nat.blt j r.length=true:=by rw[Nat.blt_eq];exact hj
 have hl:=aDf he hc;have hz:(lvl k op==0)=false:=by rw[QV];omega
 have ho:=arC op;have h15:(ug op==15)=false:=by rw[QV];omega
 have h2:k=12->j=0\/j=1:=λe=>by have:=hc.two au;omega
 have hk:k=1\/k=2\/k=3\/k=4\/k=5\/k=6\/k=7\/k=8\/k=9\/k=10\/k=11\/k=13\/k=14\/k=15\/k=12:=au;simp only[M.gJ,M.Tz,avs p,dL,aDt j r.length hr,hb,ana k op x y r,hz,atO,avt,ah,many,nb0,gt0,akz,zaW,Bool.false_or,bG];cases am6 p with
 |false=>rfl
 |true=>
  rcases hk with rfl|rfl|rfl|rfl|rfl|rfl|rfl|rfl|rfl|rfl|rfl|rfl|rfl|rfl|rfl
  case inr.inr.inr.inr.inr.inr.inr.inr.inr.inr.inr.inr.inr.inr=>have hl12:lvl 12 op=ug op:=rfl;rw[hl12,h15];rcases h2 rfl with rfl|rfl<;>cases p.FW<;>simp[Ps.Zl,atH,show Nat.beq 1 0=false from rfl]
  all_goals(cases p.FW<;>cases hq:Nat.beq j 0<;>cases hm:Nat.blt 1 r.length<;>simp[lvl,Ps.Zl,Ps.top,atH,hq,hm])
def At(l:List Nd)(b:Nat)(ks:List Tn):Prop:=∀j u,ks[j]? =some u->Lies l (b+sizes (ks.take j)) u
def Xn{ks:List Tn}{b j:Nat}{u:Tn}(hj:ks[j]? =some u):idx (encI (ends ks b)) (j:Int)=some [D.int .i64 ((b+sizes (ks.take j)+sizes u.kids:Nat):Int)]:=by rw[bZ,yO,Y7 hj];rfl
def Tot(P:ak->Prop)(m:Option (ak)):Prop:=∃r,m=some r/\P r
def GT(n:Nat)(r:ak):Prop:=r.length<=n/\∀q,q∈r->∃a x z,q=[D.int .i64 a,D.str x,D.int .i64 z]/\x.length<=1048576
def GP(n:Nat)(r:ak):Prop:=GT n r/\r≠[]
section
variable {P Q:ak->Prop} {n m:Nat} {a b r:ak}
def Tot.bnd{o:Option (ak)}{K:zah}(h:Tot Q o)(hk:∀r,Q r->Tot P (K r)):Tot P (o.bind K):=by obtain⟨r,rfl,h2⟩:=h;exact hk r h2
def Tot.eq{k c:Int}{a b:Option (ak)}(ha:k=c->Tot P a)(hb:k≠c->Tot P b):Tot P (bif k==c then a else b):=by
 cases h:k==c with
 |true=>exact ha (by simpa using h)
 |false=>exact hb (by simpa using h)
def Tot.ite{c:Bool}{a b:Option (ak)}(ha:c=true->Tot P a)(hb:c=false->Tot P b):Tot P (bif c then a else b):=by
 cases h:c with
 |true=>exact ha h
 |false=>exact hb h
def GT.app(ha:GT n a)(hb:GT m b):GT (n+m) (a++b):=by
 refine⟨by rw[Gt];have:=ha.1;have:=hb.1;omega,λq hq=> ?_⟩;rcases List.mem_append.1 hq with h|h
 ·exact ha.2 q h
 ·exact hb.2 q h
def GT.tok{c:Int}{x:aC}{z:Int}(h:x.length<=1048576):GT 1 [[D.int .i64 c,D.str x,D.int .i64 z]]:=⟨zaX _,λq hq=>⟨c,x,z,List.mem_singleton.1 hq,h⟩⟩
def GT.flat(h:GT n r):aj r=true:=by rw[aj,List.all_eq_true];intro q hq;obtain⟨a,x,z,rfl,_⟩:=h.2 q hq;rfl
def Rn{X:Option (ak)}(h:GT n r)(hX:Tot P X):Tot P (bif aj r then X else none):=by rw[h.flat];exact hX
def XK{X:Option (ak)}(ha:GT n a)(hb:GT m b)(hX:GT (n+m) (a++b)->Tot P X)(hn:n+m<=100000000:=by omega):Tot P (bif((a.length+b.length) * 32).ble 140737488355328 then(bif(a.length+b.length).ble 140737488355328 then X else none) else none):=by have:=ha.1;have:=hb.1;rw[aun au,room au];exact hX (ha.app hb)
def acu{c:Int}(hc:I64 c){K:Int×aC×Int->Option (ak)}(hK:GT 1 [[D.int .i64 c,D.str (spell c),D.int .i64 0]]->Tot P (K (c,spell c,0))):Tot P ((M.gq c).bind K):=by rw[atP c hc];exact hK (.tok (by have:=YC c;omega))
def Tot.done(h:GT n r)(hr:r≠[]:=by simp)(hn:n<=m:=by omega):Tot (GP m) (some r):=⟨r,rfl,⟨Nat.le_trans h.1 hn,h.2⟩,hr⟩
end
def PW(t:Tn):Prop:=∀(o:Bool) (f:Nat) (p:Ps) (l:List Nd) (b:Nat),l.length<=1048576->Lies l b t->5 * t.size<=f->
 Tot (GP (20 * t.size - 10)) (M.GY f (dJ o l) false ((b+sizes t.kids:Nat):Int) p.level p.FV p.Y9 p.Za p.FW)
def tk{c:Int}(h: -1000<=c/\c<=1000:=by omega):I64 c:=by unfold I64;omega
def Dj(u:Tn):1<=u.size:=by cases u;rw[Tn.size];omega
def atw{u:Tn}(hS:PW u)(hu:u.size<=1048576){o:Bool}{f:Nat}{p:Ps}{l:List Nd}{b:Nat}(hl:l.length<=1048576)(h:Lies l b u)(hf:5 * u.size+1<=f):
  Tot (GP (20 * u.size - 8)) (M.wE f (dJ o l) false ((b+sizes u.kids:Nat):Int) p.level p.FV p.Y9 p.Za p.FW):=by
 obtain⟨g,rfl⟩:∃g,f=g+1:=⟨f - 1,au⟩
 have hp:=Dj u;have hr:idx (dJ o l) ((b+sizes u.kids:Nat):Int)=some (YR o ⟨u.kind,u.op,u.text,u.other,ends u.kids b⟩):=by rw[bZ,qo,Lies.root' h];rfl
 rw[M.an9];simp only[Fj,M.LX,M.NC,M.TB,hr,ah,cN0,cN1,cN2,cN3,cN4,azW u.kind u.op u.text u.other _ p,Bool.not_false,aH,bG];refine Tot.ite (λ_=>(hS o g p l b hl h au).bnd λr hr=>Rn hr.1 (.done hr.1 hr.2)) λ_=> ?_
 exact acu tk λh1=>(hS o g .top l b hl h au).bnd λr hr=>XK h1 hr.1 λh2=>acu tk λh3=>XK h2 h3 λh4=>Rn h4 (.done h4)
section
variable {ks:List Tn} (ih:∀u,u∈ks->PW u) {o:Bool} {f:Nat} {l:List Nd} {b:Nat} (hl:l.length<=1048576) (hat:At l b ks) (hu:sizes ks<=1048575)
include ih hl hat hu
theorem aTd{P:ak->Prop}{k op:Int}{x y:aC}{p:Ps}(hk:1<=k/\k<=15)(hc:Cnt k op y ks.length)(hf:5 * sizes ks+1<=f){K:zah}(j:Nat)(u:Tn)(hj:ks[j]? =some u)(i:Int)(hi:i=(j:Int))(hK:∀r,GT (20 * u.size - 8) r->r≠[]->Tot P (K r)):
  Tot P ((idx (encI (ends ks b)) i).bind λrow=>(jq .i64 row 0).bind λn=>(M.gJ k op x y (encI (ends ks b)) i p.level p.FV p.Y9 p.Za p.FW).bind λq=>(M.wE f (dJ o l) false n q.fst q.snd.fst q.snd.snd.fst q.snd.snd.snd.fst q.snd.snd.snd.snd).bind K):=by
 subst hi;have hus:=BL (Ro hj);have hen:(encI (ends ks b)).length=ks.length:=by rw[dZ,iP]
 have hkl:=zV ks;have hjl:j<ks.length:=(Po.1 hj).1;rw[Xn hj,ah,cI0,ah,Ws (x:=x) (r:=encI (ends ks b)) (j:=j) (p:=p) hk (by rw[hen];exact hc) au au,ah];exact(atw (ih u (Ro hj)) au (p:=akz k op (encI (ends ks b)).length j p) hl (hat j u hj) au).bnd λr hr=>hK r hr.1 hr.2
theorem lvw{P:ak->Prop}(hf:5 * sizes ks+1<=f){K:zah}(u:Tn)(hj:ks[0]? =some u)(hK:∀r,GT (20 * u.size - 10) r->r≠[]->Tot P (K r)):
  Tot P ((idx (encI (ends ks b)) 0).bind λrow=>(jq .i64 row 0).bind λn=>(M.GX f (dJ o l) false n).bind K):=by
 obtain⟨g,rfl⟩:∃g,f=g+1:=⟨f - 1,au⟩
 have hus:=BL (Ro hj);have h1:=Xn (b:=b) hj;rw[Wy] at h1;rw[h1,ah,cI0,ah,M.agJ];refine Tot.bnd (Q:=GP (20 * u.size - 10)) ((ih u (Ro hj) o g ⟨14,false,false,false,false⟩ l _ hl (hat 0 u hj) au).bnd λr hr=>Rn hr.1 (.done hr.1 hr.2)) λr hr=>hK r hr.1 hr.2
theorem aFH(hf:5 * sizes ks+2<=f):Tot (GT (20 * sizes ks)) (M.GV f (dJ o l) false (encI (ends ks b))):=by
 obtain⟨g,rfl⟩:∃g,f=g+1:=⟨f - 1,au⟩
 have hkl:=zV ks;rw[M.ajY];simp only[M.GN,M.Oc]
 suffices H:∀d j acc,j+d=ks.length->GT (20 * sizes (ks.take j)) acc->∃r,fH (M.EH (M.wE g) (encI (ends ks b)) (dJ o l) false) ((j:Int),acc)=some r/\GT (20 * sizes ks) r.2 by obtain⟨r,h1,h2⟩:=H ks.length 0 [] au ⟨by simp,λq hq=>by cases hq⟩;rw[Wy] at h1;rw[h1,ah,h2.flat];exact⟨_,rfl,h2⟩
 intro d;induction d with
 |zero=>intro j acc hj ha;obtain rfl:j=ks.length:=au;rw[List.take_length] at ha;refine⟨_,aV (t:=((ks.length:Int),acc)) ?_,ha⟩;simp only[Fj,M.EH,M.EF,dZ,iP];rw[xE au,bG]
 |succ d ihd=>
  intro j acc hj ha;obtain⟨u,hu'⟩:∃u,ks[j]? =some u:=⟨ks[j],by simp⟩
  have hus:=BL (Ro hu');have hst:=Lh hu';have htk:=zV (ks.take j);obtain⟨r,hr,hg⟩:=atw (ih u (Ro hu')) au (o:=o) (f:=g) (p:=.top) hl (hat j u hu') au;have hw:i64.wrap ((j:Int)+1)=((j+1:Nat):Int):=by rw[aJ au au];omega
  have hp:=Dj u;have hts:sizes (ks.take (j+1))=sizes (ks.take j)+u.size:=by rw[pz hu',nI,sz1]
  have e1:=atP 36 tk;have e2:GT 1 [[D.int .i64 36,D.str (spell 36),D.int .i64 0]]:=.tok (by decide);obtain⟨acc',hs,hg'⟩:∃acc',M.EH (M.wE g) (encI (ends ks b)) (dJ o l) false ((j:Int),acc)=some (.inl (((j+1:Nat):Int),acc'))/\GT (20 * sizes (ks.take (j+1))) acc':=by
   have a1:=ha.1;have r1:=hg.1.1;simp only[Ps.top] at hr;simp only[Fj,M.EH,M.EF,dZ,iP];rw[zdt au,aH];cases h0:decide ((j:Int)>0) with
   |true=>refine⟨_,by simp(disch:=omega) only[e1,Xn hu',ah,cI0,avt,hr,Gt,OW,room,aun,aH,hw,Ps.top];rfl, ?_⟩;have h:=(ha.app e2).app hg.1;exact⟨by have:=h.1;omega,h.2⟩
   |false=>refine⟨_,by simp(disch:=omega) only[Xn hu',ah,cI0,avt,hr,room,aun,aH,bG,hw,Ps.top];rfl, ?_⟩;have h:=ha.app hg.1;exact⟨by have:=h.1;omega,h.2⟩
  obtain⟨r',h1,h2⟩:=ihd (j+1) acc' au hg';exact⟨r',by rw[bQ hs];exact h1,h2⟩
theorem aIT(hf:5 * sizes ks+3<=f){t':Int}{x:aC}{c:Int}(hx:x.length<=1048576)(hop:c=32\/c=34):Tot (GP (20 * sizes ks+3)) (M.Je f (dJ o l) false t' x 0 (encI (ends ks b)) c):=by
 obtain⟨g,rfl⟩:∃g,f=g+1:=⟨f - 1,au⟩
 have e3:i64.wrap (c+1)=c+1:=by rcases hop with rfl|rfl<;>rfl
 rw[M.aic];simp only[Fj,M.DN,e3];exact acu tk λh1=>(aFH ih hl hat hu (f:=g) au).bnd λr hr=>XK (GT.app (GT.tok hx) h1) hr λh2=>acu tk λh3=>XK h2 h3 λh4=>Rn h4 (.done h4)
end
section
variable {ks:List Tn} (ih:∀u,u∈ks->PW u) {o:Bool} {f:Nat} {l:List Nd} {b:Nat} (hl:l.length<=1048576) (hat:At l b ks) (hu:sizes ks<=1048575)
include ih hl hat hu
theorem aIU{k op:Int}{x y:aC}{p:Ps}(hk:k=12\/k=14)(hc:Cnt k op y ks.length)(hf:5 * sizes ks+2<=f):Tot (GP (20 * sizes ks+10)) (M.Jf f (dJ o l) false k op x y (encI (ends ks b)) p.level p.FV p.Y9 p.Za p.FW):=by
 obtain⟨g,rfl⟩:∃g,f=g+1:=⟨f - 1,au⟩
 have kd:=λP K j u hj i hi h=>aTd (P:=P) ih hl hat hu (x:=x) (p:=p) (f:=g) (o:=o) au hc au (K:=K) j u hj i hi h
 rw[M.aie];simp only[Fj,M.DT];rcases hk with rfl|rfl
 ·obtain⟨u,v,rfl⟩:=aoX (hc.two au);have:=sz2 u v;have:=Dj u;have:=Dj v;refine kd _ _ 0 u rfl 0 rfl λa ha hn=>Tot.eq (λh=>by omega) λ_=>Tot.ite (λ_=> ?_) λ_=> ?_
  ·exact acu (avS (hc.bin rfl).1) λh1=>XK ha h1 λh2=>kd _ _ 1 v rfl 1 rfl λd hd _=>XK h2 hd λh3=>Rn h3 (.done h3)
  ·exact kd _ _ 1 v rfl 1 rfl λd hd _=>XK ha hd λh3=>Rn h3 (.done h3 (by simp[hn]))
 ·obtain⟨u,v,z,rfl⟩:=asi (hc.three rfl);have:=sz3 u v z;have:=Dj u;have:=Dj v;have:=Dj z;refine kd _ _ 0 u rfl 0 rfl λa ha hn=>Tot.eq (λ_=> ?_) λh=>absurd rfl h
  exact acu tk λh1=>XK ha h1 λh2=>kd _ _ 1 v rfl 1 rfl λd hd _=>XK h2 hd λh3=>acu tk λh4=>XK h3 h4 λh5=>kd _ _ 2 z rfl 2 rfl λe he _=>XK h5 he λh6=>Rn h6 (.done h6)
end
def aFI{k op:Int}{x y:aC}{r:ak}(hx:x.length<=1048576):∃z s,M.yH k op x y r=some (z,s,0)/\s.length<=1048576/\(z=0->k≠1/\k≠2/\k≠3/\k≠4):=by
 simp only[M.yH,M.Qb]
 by_cases h1:k=1
 ·subst h1;exact⟨_,_,rfl,hx,by simp⟩
 by_cases h2:k=2
 ·subst h2;exact⟨_,_,rfl,hx,by simp⟩
 by_cases h3:k=3
 ·subst h3;exact⟨_,_,rfl,hx,by simp⟩
 by_cases h4:k=4
 ·subst h4;exact⟨_,_,rfl,hx,by simp⟩
 have e1:(k==1)=false:=by simpa using h1
 have e2:(k==2)=false:=by simpa using h2
 have e3:(k==3)=false:=by simpa using h3
 have e4:(k==4)=false:=by simpa using h4
 simp only[e1,e2,e3,e4,bG];exact⟨0,[],rfl,by simp,λ_=>⟨h1,h2,h3,h4⟩⟩
def at0{ks:List Tn}(h:1<=ks.length):∃u,ks[0]? =some u/\u.size<=sizes ks:=⟨ks[0],by simp,BL (by simp)⟩
def aA7(t:Tn):UD t->isE t->Q7 t->t.size<=1048576->PW t:=by
 refine Tn.ind (P:=λt=>UD t->isE t->Q7 t->t.size<=1048576->PW t) ?_ t;intro k op x y ks ih hok he hsm hsz o f p l b hl h hf;simp only[isE,Tn.kind] at he;have hc:=atJ hok;rw[Q7] at hsm;have hsz':sizes ks+1=(Tn.mk k op x y ks).size:=by rw[Tn.size]
 have ih':∀u,u∈ks->PW u:=by intro u hu;obtain⟨i,hi⟩:=List.mem_iff_getElem?.1 hu;obtain⟨h1,h2⟩:=aFr hok he hi;have:=BL hu;exact ih u hu h2 h1 (aoY hsm.2 hu) au
 have hat:At l b ks:=λj u hj=>Lies.XD h hj
 obtain⟨g,rfl⟩:∃g,f=g+1:=⟨f - 1,au⟩
 have hr:idx (dJ o l) ((b+sizes ks:Nat):Int)=some (YR o ⟨k,op,x,y,ends ks b⟩):=by have hr0:l[b+sizes ks]? =some ⟨k,op,x,y,ends ks b⟩:=Lies.root' h;rw[bZ,qo,hr0];rfl
 obtain⟨z,s,hz,hs,hz2⟩:=aFI (k:=k) (op:=op) (y:=y) (r:=encI (ends ks b)) hsm.1.1;have kd:=λP K j u hj i hi h=>aTd (P:=P) ih' hl hat au (x:=x) (p:=p) (f:=g) (o:=o) he hc au (K:=K) j u hj i hi h
 have lv:=λP K u hj h=>lvw (P:=P) ih' hl hat au (f:=g) (o:=o) au (K:=K) u hj h
 have nm:=λt' c hop=>aIT ih' hl hat au (f:=g) (o:=o) au (t':=t') (x:=x) (c:=c) hsm.1.1 hop
 have ix:∀n,1<=n->ks.length=n->∃u,ks[0]? =some u/\u.size<=sizes ks/\1<=u.size:=λn h1 h2=>by obtain⟨u,h3,h4⟩:=at0 (ks:=ks) au;exact⟨u,h3,h4,Dj u⟩
 rw[<-hsz',M.ajZ,Tn.kids];simp only[Fj,M.GU,M.Jd,hr,ah,cN0,cN1,cN2,cN3,cN4,hz];refine Tot.ite (λ_=> .done (.tok hs)) λe0=> ?_
 have e0:=hz2 (by simpa using e0);refine Tot.eq (λ_=>(nm _ _ (.inr rfl)).bnd λr hr=>Rn hr.1 (.done hr.1 hr.2)) λe5=> ?_
 refine Tot.eq (λ_=>(nm _ _ (.inl rfl)).bnd λr hr=>Rn hr.1 (.done hr.1 hr.2)) λe7=> ?_
 refine Tot.eq (λ_=>(nm _ _ (.inl rfl)).bnd λr hr=>Rn hr.1 (.done hr.1 hr.2)) λe8=> ?_
 refine Tot.eq (λe=> ?_) λe9=>Tot.eq (λe=> ?_) λe10=>Tot.eq (λe=> ?_) λe15=>Tot.eq (λe=> ?_) λe6=>Tot.eq (λe=> ?_) λe11=>Tot.eq (λe=> ?_) λe13=> ?_
 ·obtain⟨u,hu,h1,h2⟩:=ix 1 au (hc.one au);exact acu (by rcases hc.stp au with rfl|rfl<;>exact tk) λt1=>lv _ _ u hu λr hr _=>XK t1 hr λh=>Rn h (.done h)
 ·obtain⟨u,hu,h1,h2⟩:=ix 1 au (hc.one au);exact lv _ _ u hu λr hr _=>acu (by rcases hc.stp au with rfl|rfl<;>exact tk) λt1=>XK hr t1 λh=>Rn h (.done h)
 ·obtain⟨u,v,rfl⟩:=aoX (hc.two au);have:=sz2 u v;have:=Dj u;have:=Dj v;exact lv _ _ u rfl λr hr _=>acu (by rcases hc.asg e with rfl|h<;>exact tk) λt1=>XK hr t1 λh=>kd _ _ 1 v rfl 1 rfl λd hd _=>XK h hd λh3=>Rn h3 (.done h3)
 ·obtain⟨u,hu,h1,h2⟩:=ix 1 au (hc.one au);exact acu tk λt1=>kd _ _ 0 u hu 0 rfl λr hr _=>XK t1 hr λh=>Rn h (.done h)
 ·obtain⟨u,hu,h1,h2⟩:=ix 1 au (hc.one au);exact acu (by rcases hc.una au with rfl|rfl|rfl<;>exact tk) λt1=>kd _ _ 0 u hu 0 rfl λr hr _=>XK t1 hr λh=>Rn h (.done h)
 ·obtain⟨u,hu,h1,h2⟩:=ix ks.length (hc.some_ au) rfl;refine kd _ _ 0 u hu 0 rfl λr hr _=>Tot.ite (λ_=> ?_) λ_=> ?_
  ·exact acu tk λt1=>(aFH ih' hl hat au au).bnd λr hr=>XK t1 hr λh1=>acu tk λt2=>XK h1 t2 λh2=>acu tk λt3=>XK h2 (GT.app t3 (.tok hsm.1.1)) λh3=>Rn h3 (.done h3)
  ·exact acu tk λt1=>XK hr (GT.app t1 (.tok hsm.1.1)) λh3=>Rn h3 (.done h3)
 ·exact(aIU ih' hl hat au au hc au).bnd λr hr=>Rn hr.1 (.done hr.1 hr.2)
def aEf(l:List Nd)(o:Bool)(d:Int)(hl:l.length<=90000000)(hk:∀n,n∈l->n.kids.length<=90000000/\∀e,e∈n.kids-> -4000000000<=e+d/\e+d<=4000000000):
  M.vK (mJ o l) d=some (mJ true (l.map (Nd.up d))):=by
 simp only[M.vK,M.N9];have hloop:=uM (b:=M.Iw (mJ o l) d) (t:=((l.length:Int),mJ true (l.map (Nd.up d)))) (λi=>((i:Int),mJ true ((l.take i).map (Nd.up d)))) l.length
  (by
   intro i hi;obtain⟨n,hn⟩:∃n,l[i]? =some n:=⟨l[i],by simp[hi]⟩
   obtain⟨hkl,hke⟩:=hk n (Ro hn);have hin:=uM (b:=M.Iu (mJ o l) d (i:Int) (mJ true ((l.take i).map (Nd.up d))) n.kind n.op n.text) (t:=((n.kids.length:Int),encI (n.kids.map (· +d)))) (λj=>((j:Int),encI ((n.kids.take j).map (· +d)))) n.kids.length
    (by
     intro j hj;obtain⟨e,he⟩:∃e,n.kids[j]? =some e:=⟨n.kids[j],by simp[hj]⟩
     have:=hke e (Ro he);simp only[Fj,M.Iu,M.BZ,bZ,Sz,hn,MS,ah,cD3,dZ,yO,he,cI0,zaY,zlt,OW];rw[zdt au,aH,bI au,aH,bI au,aH,aJ au au,aJ au au,pz he];simp[encI])
    (by simp only[Fj,M.Iu,M.BZ,bZ,Sz,hn,MS,ah,cD3,dZ];rw[xE au,bG,List.take_length]) 0 (Nat.zero_le _)
   simp only[Wy,List.take_zero,List.map_nil] at hin;have hin':M.LV (mJ o l) d (i:Int) (mJ true ((l.take i).map (Nd.up d))) n.kind n.op n.text (0,[])=some ((n.kids.length:Int),encI (n.kids.map (· +d))):=hin;simp only[Fj,M.Iw,M.Cb,tY,bZ,Sz,hn,MS,ah,cD0,cD1,cD2,cD3,hin',RH,aH,zaY,zlt,OW];rw[zdt au,aH,bI au,aH,bI au,aH,aJ au au,pz hn,List.map_append,Zj];rfl)
  (by simp only[Fj,M.Iw,M.Cb,tY];rw[xE au,bG,List.take_length]) 0 (Nat.zero_le _)
 simp only[Wy,List.take_zero,List.map_nil] at hloop;have OQ:M.LW (mJ o l) d (0,[])=some ((l.length:Int),mJ true (l.map (Nd.up d))):=hloop;rw[OQ,ah]
def UQ(ts:List Tn):ak:=ts.map λt=>[.sl false 4 (mJ false (t.flat 0))]
def aoZ(t:Tn)(n:Nd)(hn:n∈t.flat 0):n.kids.length<=t.size/\∀e,e∈n.kids->0<=e/\e<t.size:=by obtain⟨h1,h2⟩:=Pg t 0 n hn;refine⟨au,λe he=> ?_⟩;have:=h2 e he;omega
def aIV(k op:Int)(ts:List Tn)(hs:sizes ts<=90000000):M.fP k op (UQ ts)=some (mJ true ((Tn.mk k op [] [] ts).flat 0)):=by
 have htl:=zV ts;simp only[Fj,M.fP,M.Qe];have hpl:(UQ ts).length=ts.length:=by simp[UQ]
 have hloop:=uM (b:=M.Ez)
  (t:=if ts=[] then .inl (UQ ts,0,[],k,op,[]) else .inr (UQ ts,(ts.length:Int),mJ true (lX ts 0),k,op,[],encI (ends ts 0)))
  (λj=>if j=0 then .inl (UQ ts,0,[],k,op,[]) else .inr (UQ ts,(j:Int),mJ true (lX (ts.take j) 0),k,op,[],encI (ends (ts.take j) 0))) ts.length
  (by
   intro j hj;obtain⟨t,ht⟩:∃t,ts[j]? =some t:=⟨ts[j],by simp[hj]⟩
   have hst:=Lh ht;have hp:=t.size_pos;have hr:(UQ ts)[j]? =some [.sl false 4 (mJ false (t.flat 0))]:=by simp[UQ,ht]
   have c0:cSl 4 [D.sl false 4 (mJ false (t.flat 0))] 0=some (mJ false (t.flat 0)):=rfl;have hfl:(mJ true (lX (ts.take j) 0)).length=sizes (ts.take j):=by rw[tY,tC]
   have hsh:M.vK (mJ false (t.flat 0)) ((sizes (ts.take j):Nat):Int)=some (mJ true (t.flat (sizes (ts.take j)))):=by
    rw[aEf (t.flat 0) false _ (by rw[t.flat_length];omega) (λn hn=> ?_)]
    ·rw[t.an4 0 (sizes (ts.take j))];congr 4<;>omega
    ·obtain⟨h1,h2⟩:=aoZ t n hn;refine⟨au,λe he=> ?_⟩;have:=h2 e he;omega
   have hrl:(mJ true (t.flat (sizes (ts.take j)))).length=t.size:=by rw[tY,t.flat_length]
   have hel:(encI (ends (ts.take j) 0)).length=j:=by rw[dZ,iP,zlt];omega
   rw[if_neg (show¬j+1=0 by omega),agV ht,aeT ht]
   by_cases h0:j=0
   ·subst h0;have hi:idx (UQ ts) 0=some [.sl false 4 (mJ false (t.flat 0))]:=by have:=bZ (UQ ts) 0;rw[Wy] at this;rw[this,hr]
    rw[if_pos rfl];have z:sizes (ts.take 0)=0:=rfl;rw[z] at hsh hrl;have z2:(([]:ak).length:Int)=((0:Nat):Int):=rfl;simp only[Fj,M.Ez,M.zA,hpl,hi,ah,c0,z2,hsh,hrl,List.nil_append,UR,Nat.zero_add];rw[zdt au,aH,bI au,aH,bI au,aH,aJ au au,aJ au au];simp[encI,mJ,lX,ends,sizes]
   ·rw[if_neg h0];simp only[Fj,M.Ez,M.zA,hpl,bZ,hr,ah,c0,hfl,hsh,hrl,hel,Gt,OW];rw[zdt au,aH,bI au,aH,bI au,aH,bI au,aH,bI au,aH,aJ au au,aJ au au,Zj,Nat.zero_add];simp[encI])
  (by
   by_cases h0:ts=[]
   ·rw[if_pos (by rw[h0];rfl),if_pos h0];subst h0;rfl
   ·have h1:¬ts.length=0:=λe=>h0 (List.length_eq_zero_iff.1 e)
    rw[if_neg h1,if_neg h0,List.take_length];simp only[Fj,M.Ez,M.zA,hpl];rw[xE au,bG]) 0 (Nat.zero_le _)
 rw[if_pos rfl] at hloop;rw[M.Oa,hloop,ah]
 by_cases h0:ts=[]
 ·rw[if_pos h0];subst h0;rfl
 ·rw[if_neg h0];simp only[jX,letE,RH,aH,tY,tC,OW];rw[bI au,aH,bI au,aH,Tn.flat,Zj];rfl
section
variable (t:Tn) (s:aC) (L:List Tn) (a b c d e f g h:Tn)
end
section
end
structure Ex'(u:Tn):Prop where
 ok:UD u
 e:isE u
 sm:Q7 u
 sz:u.size<=1048576
def dE(t:Tn):ak:=mJ true (t.flat 0)
def ao0(t:Tn):Row:=[D.sl true 4 (dE t)]
def aA8(s:aC):M.fC s=some (dE (dtx s)):=by simp[M.fC,M.Qc,dE,dtx,Tn.flat,lX,ends,mJ,aiu,encI]
def aA9:M.vW=some (dE akA):=by simp[M.vW,M.Qd,dE,akA,Tn.flat,lX,ends,mJ,aiu,encI]
def aIW(t:Tn):[[D.sl true 4 (dE t)]].all fB=true:=axx _
def aEg(L:List Tn):aB (L.map ao0)=UQ L:=by
 induction L with
 |nil=>rfl
 |cons t L ih=>
  have h1:Bf (ao0 t)=[D.sl false 4 (mJ false (t.flat 0))]:=by simp[ao0,Bf,D.fz,dE]
  rw[zmc,aB,ih,h1];rfl
section
variable (a b c d e f g h:Tn)
end
def aBa{u:Tn}{o:Bool}{l:List Nd}{b:Nat}(h:Lies l b u):idx (dJ o l) ((b+sizes u.kids:Nat):Int)=some (YR o ⟨u.kind,u.op,u.text,u.other,ends u.kids b⟩):=by rw[bZ,qo,Lies.root' h];rfl
def GD(n:Nat)(r:ak):Prop:=∃d,r=dE d/\d.size<=n/\tsm d
section
variable {P:ak->Prop} {n m:Nat}
def GD.to{r:ak}(h:GD n r)(hn:n<=m):GD m r:=by obtain⟨d,h1,h2,h3⟩:=h;exact⟨d,h1,au,h3⟩
def Tot.dd{d:Tn}(h3:tsm d)(h2:d.size<=m:=by(try simp only[sizes] at *);omega):Tot (GD m) (some (dE d)):=⟨_,rfl,d,rfl,h2,h3⟩
def Tot.bd{o:Option (ak)}{K:zah}(h:Tot (GD n) o)(hk:∀d,d.size<=n->tsm d->Tot P (K (dE d))):Tot P (o.bind K):=by obtain⟨r,rfl,d,rfl,h2,h3⟩:=h;exact hk d h2 h3
def QU{s:aC}{K:zah}(hk:∀d,d.size=1->tsm d->Tot P (K (dE d)))(hs:s.length<=1000000000:=by(try simp only[Gt,Pq,UR]);omega):Tot P ((M.fC s).bind K):=by rw[aA8,ah];exact hk _ (aA3 s) ((aA4 s).2 hs)
def aTe{K:zah}(hk:∀d,d.size=1->tsm d->Tot P (K (dE d))):Tot P (M.vW.bind K):=by rw[aA9,ah];exact hk _ ash asl
def UC(L:List Tn){kk op:Int}{rows:ak}{K:zah}(hk:∀d,d.size=sizes L+1->tsm d->Tot P (K (dE d)))(ht:ZT L:=by simp[*,ZT])(hs:sizes L<=90000000:=by(try simp only[sizes] at *);omega)(hr:rows=L.map ao0:=by rfl):
  Tot P ((M.fP kk op (aB rows)).bind λr=>bif[[D.sl true 4 r]].all fB then K r else none):=by
 rw[hr,aEg,aIV kk op L hs,ah];show Tot P (bif[[D.sl true 4 (dE (Tn.mk kk op [] [] L))]].all fB then K (dE (Tn.mk kk op [] [] L)) else none);rw[aIW,aH];exact hk _ (by rw[Tn.size]) (by simp[tsm,ht])
def spw{c:Int}(hc:I64 c){K:aC->Option (ak)}(hk:∀s:aC,s.length<=9->Tot P (K s)):Tot P ((M.jo c).bind K):=by rw[(Si c hc).1,ah];exact hk _ (YC c)
def ao1{X:Option (ak)}(hX:Tot P X)(hn:n<=1000000000:=by(try simp only[Gt,Pq,UR]);omega):Tot P (bif n.ble 9223372036854775807 then X else none):=by rw[bI au];exact hX
end
def DW(t:Tn):Prop:=∀(o:Bool) (f:Nat) (p:Ps) (l:List Nd) (b:Nat),l.length<=1048576->Lies l b t->5 * t.size<=f->
 Tot (GD (20 * t.size - 10)) (M.G9 f (dJ o l) false ((b+sizes t.kids:Nat):Int) p.level p.FV p.Y9 p.Za p.FW)
def atd{u:Tn}(hS:DW u)(hu:u.size<=1048576){o:Bool}{f:Nat}{p:Ps}{l:List Nd}{b:Nat}(hl:l.length<=1048576)(h:Lies l b u)(hf:5 * u.size+1<=f):
  Tot (GD (20 * u.size - 7)) (M.tV f (dJ o l) false ((b+sizes u.kids:Nat):Int) p.level p.FV p.Y9 p.Za p.FW):=by
 obtain⟨g,rfl⟩:∃g,f=g+1:=⟨f - 1,au⟩
 have hp:=Dj u;rw[M.aoa];simp only[Fj,M.LY,aBa h,ah,cN0,cN1,cN2,cN3,cN4,azW u.kind u.op u.text u.other _ p];refine Tot.ite (λ_=>(hS o g p l b hl h au).bd λd h1 h2=> .dd h2) λ_=> ?_
 exact QU λa ha ta=>(hS o g .top l b hl h au).bd λd hd td=>QU λc hc tc=>UC [a,d,c] λe he te=> .dd te
section
variable {ks:List Tn} (ih:∀u,u∈ks->DW u) {o:Bool} {f:Nat} {l:List Nd} {b:Nat} (hl:l.length<=1048576) (hat:At l b ks) (hu:sizes ks<=1048575)
include ih hl hat hu
theorem aTf{P:ak->Prop}{k op:Int}{x y:aC}{p:Ps}(hk:1<=k/\k<=15)(hc:Cnt k op y ks.length)(hf:5 * sizes ks+1<=f){K:zah}(j:Nat)(u:Tn)(hj:ks[j]? =some u)(i:Int)(hi:i=(j:Int))(hK:∀d,d.size<=20 * u.size - 7->tsm d->Tot P (K (dE d))):
  Tot P ((idx (encI (ends ks b)) i).bind λrow=>(jq .i64 row 0).bind λn=>(M.gJ k op x y (encI (ends ks b)) i p.level p.FV p.Y9 p.Za p.FW).bind λq=>(M.tV f (dJ o l) false n q.fst q.snd.fst q.snd.snd.fst q.snd.snd.snd.fst q.snd.snd.snd.snd).bind K):=by
 subst hi;have hus:=BL (Ro hj);have hen:(encI (ends ks b)).length=ks.length:=by rw[dZ,iP]
 have hkl:=zV ks;have hjl:j<ks.length:=(Po.1 hj).1;rw[Xn hj,ah,cI0,ah,Ws (x:=x) (r:=encI (ends ks b)) (j:=j) (p:=p) hk (by rw[hen];exact hc) au au,ah];exact(atd (ih u (Ro hj)) au (p:=akz k op (encI (ends ks b)).length j p) hl (hat j u hj) au).bd hK
theorem lvd{P:ak->Prop}(hf:5 * sizes ks+1<=f){K:zah}(u:Tn)(hj:ks[0]? =some u)(hK:∀d,d.size<=20 * u.size - 10->tsm d->Tot P (K (dE d))):
  Tot P ((idx (encI (ends ks b)) 0).bind λrow=>(jq .i64 row 0).bind λn=>(M.G8 f (dJ o l) false n).bind K):=by
 obtain⟨g,rfl⟩:∃g,f=g+1:=⟨f - 1,au⟩
 have hus:=BL (Ro hj);have h1:=Xn (b:=b) hj;rw[Wy] at h1;rw[h1,ah,cI0,ah,M.agL];exact Tot.bd (n:=20 * u.size - 10) ((ih u (Ro hj) o g ⟨14,false,false,false,false⟩ l _ hl (hat 0 u hj) au).bd λd h1 h2=> .dd h2) hK
theorem aFJ(hf:5 * sizes ks+2<=f)(p:Ps):Tot (GD (20 * sizes ks+3)) (M.G7 f (dJ o l) false (encI (ends ks b)) p.level p.FV p.Y9 p.Za p.FW):=by
 obtain⟨g,rfl⟩:∃g,f=g+1:=⟨f - 1,au⟩
 have hkl:=zV ks;rw[M.aj1];simp only[M.GK,M.Ob]
 suffices H:∀d j (L:List Tn),j+d=ks.length->sizes L<=20 * sizes (ks.take j)->L.length<=3 * j->ZT L->∃(z:Int) (L':List Tn),fH (M.ED (M.tV g) (encI (ends ks b)) (dJ o l) false p.level p.FV p.Y9 p.Za p.FW) ((j:Int),L.map ao0)=some (z,L'.map ao0)/\sizes L'<=20 * sizes ks/\ZT L' by obtain⟨z,L',h1,h2,h3⟩:=H ks.length 0 [] au (by simp[sizes]) (by simp) (by simp[ZT]);rw[Wy,List.map_nil] at h1;rw[h1,ah];exact UC L' λe he te=>UC [e] λg hg tg=>UC [g] λh hh th=> .dd th
 intro d;induction d with
 |zero=>intro j L hj h1 h2 h3;obtain rfl:j=ks.length:=au;rw[List.take_length] at h1;refine⟨_,L,aV (t:=((ks.length:Int),L.map ao0)) ?_,h1,h3⟩;simp only[Fj,M.ED,M.EC,dZ,iP];rw[xE au,bG]
 |succ d ihd=>
  intro j L hj h1 h2 h3;obtain⟨u,hu'⟩:∃u,ks[j]? =some u:=⟨ks[j],by simp⟩
  have hus:=BL (Ro hu');have hp:=Dj u;have hts:sizes (ks.take (j+1))=sizes (ks.take j)+u.size:=by rw[pz hu',nI,sz1]
  obtain⟨r,hr,e,rfl,he,te⟩:=atd (ih u (Ro hu')) au (o:=o) (f:=g) (p:=p) hl (hat j u hu') au;have hw:i64.wrap ((j:Int)+1)=((j+1:Nat):Int):=by rw[aJ au au];omega
  obtain⟨L2,hs,g1,g2,g3⟩:∃L2:List Tn,M.ED (M.tV g) (encI (ends ks b)) (dJ o l) false p.level p.FV p.Y9 p.Za p.FW ((j:Int),L.map ao0)=some (.inl (((j+1:Nat):Int),L2.map ao0))/\sizes L2<=20 * sizes (ks.take (j+1))/\L2.length<=3 * (j+1)/\ZT L2:=by
   simp only[Fj,M.ED,M.EC,dZ,iP,aA8,aA9,Xn hu',cI0,hr,ah,Gt,zaY,Pq,UR,hw];rw[zdt au,aH];cases h0:decide ((j:Int)>0) with
   |true=>
    refine⟨L++[dtx [44],akA,e],by simp(disch:=omega) only[aH,bI,List.map_append,QW];rfl, ?_,by simp;omega, ?_⟩
    ·rw[nI];simp only[sizes,aA3,ash];omega
    ·rw[ahY];exact⟨h3,(aA4 _).2 (by decide),asl,te,trivial⟩
   |false=>
    refine⟨L++[e],by simp(disch:=omega) only[aH,bG,bI,List.map_append,QW];rfl, ?_,by simp;omega, ?_⟩
    ·rw[nI];simp only[sizes];omega
    ·rw[ahY];exact⟨h3,te,trivial⟩
  obtain⟨z,L',k1,k2⟩:=ihd (j+1) L2 au g1 g2 g3;exact⟨z,L',by rw[bQ hs];exact k1,k2⟩
theorem aIX(hf:5 * sizes ks+3<=f){k op:Int}{x y:aC}{c e:UInt8}(hx:x.length<=1048576):Tot (GD (20 * sizes ks+6)) (M.Jh f (dJ o l) false k op x y (encI (ends ks b)) [c] [e]):=by
 obtain⟨g,rfl⟩:∃g,f=g+1:=⟨f - 1,au⟩
 rw[M.aij];simp only[M.DK];exact ao1 (QU λa ha ta=>(aFJ ih hl hat hu (f:=g) au .top).bd λd hd td=>QU λc hc tc=>UC [a,d,c] λe he te=> .dd te)
theorem bind{op:Int}{x y:aC}{p:Ps}(hc:Cnt 12 op y ks.length)(hf:5 * sizes ks+2<=f):Tot (GD (20 * sizes ks)) (M.ND f (dJ o l) false 12 op x y (encI (ends ks b)) p.level p.FV p.Y9 p.Za p.FW):=by
 obtain⟨g,rfl⟩:∃g,f=g+1:=⟨f - 1,au⟩
 have kd:=λP K j u hj i hi h=>aTf (P:=P) ih hl hat hu (x:=x) (p:=p) (f:=g) (o:=o) au hc au (K:=K) j u hj i hi h
 have hI:=avS (hc.bin rfl).1;obtain⟨u,v,rfl⟩:=aoX (hc.two au);have:=sz2 u v;have:=Dj u;have:=Dj v;rw[M.alB];simp only[M.Js,M.KJ];refine kd _ _ 0 u rfl 0 rfl λa ha ta=>kd _ _ 1 v rfl 1 rfl λd hd td=> ?_
 have J:Tot (GD (20 * sizes [u,v])) (M.KJ op (dE a) (dE d) some):=spw hI λs hs=>ao1 (QU λt ht tt=>aTe λn hn tn=>UC [a,t,n,d] λe he te=>UC [e] λg hg tg=>UC [g] λh hh th=> .dd th)
 exact Tot.eq (λ_=>QU λt ht tt=>UC [a,t,d] λe he te=> .dd te) λ_=>Tot.eq (λ_=>J) λ_=>Tot.eq (λ_=>J) λ_=>spw hI λs hs=>ao1 (ao1 (QU λt ht tt=>UC [a,t,d] λe he te=> .dd te))
end
def Tot.bs{P:ak->Prop}{α:Type}{m:Option α}{v:α}{K:α->Option (ak)}(h:m=some v)(hk:Tot P (K v)):Tot P (m.bind K):=by rw[h];exact hk
def aIY(t:Tn):UD t->isE t->Q7 t->t.size<=1048576->DW t:=by
 refine Tn.ind (P:=λt=>UD t->isE t->Q7 t->t.size<=1048576->DW t) ?_ t;intro k op x y ks ih hok he hsm hsz o f p l b hl h hf;simp only[isE,Tn.kind] at he;have hc:=atJ hok;rw[Q7] at hsm;have hx:=hsm.1.1;have hsz':sizes ks+1=(Tn.mk k op x y ks).size:=by rw[Tn.size]
 have hkE:∀u,u∈ks->UD u/\isE u/\Q7 u:=by intro u hu;obtain⟨i,hi⟩:=List.mem_iff_getElem?.1 hu;obtain⟨h1,h2⟩:=aFr hok he hi;exact⟨h2,h1,aoY hsm.2 hu⟩
 have ih':∀u,u∈ks->DW u:=by intro u hu;obtain⟨h1,h2,h3⟩:=hkE u hu;have:=BL hu;exact ih u hu h1 h2 h3 au
 have hat:At l b ks:=λj u hj=>Lies.XD h hj
 obtain⟨g,rfl⟩:∃g,f=g+1:=⟨f - 1,au⟩
 have hr:idx (dJ o l) ((b+sizes ks:Nat):Int)=some (YR o ⟨k,op,x,y,ends ks b⟩):=by have hr0:l[b+sizes ks]? =some ⟨k,op,x,y,ends ks b⟩:=Lies.root' h;rw[bZ,qo,hr0];rfl
 obtain⟨z,s,hz,hs,hz2⟩:=aFI (k:=k) (op:=op) (y:=y) (r:=encI (ends ks b)) hsm.1.1;have kd:=λP K j u hj i hi h=>aTf (P:=P) ih' hl hat au (x:=x) (p:=p) (f:=g) (o:=o) he hc au (K:=K) j u hj i hi h
 have lv:=λP K u hj h=>lvd (P:=P) ih' hl hat au (f:=g) (o:=o) au (K:=K) u hj h
 have nm:=λc e=>aIX ih' hl hat au (f:=g) (o:=o) au (k:=k) (op:=op) (x:=x) (y:=y) (c:=c) (e:=e) hx
 have ix:∀n,1<=n->ks.length=n->∃u,ks[0]? =some u/\u.size<=sizes ks/\1<=u.size:=λn h1 h2=>by obtain⟨u,h3,h4⟩:=at0 (ks:=ks) au;exact⟨u,h3,h4,Dj u⟩
 have J:∀(u:Tn) (a:Tn),ks[0]? =some u->u.size<=sizes ks->1<=u.size->a.size=1->tsm a->Tot (GD (20 * (sizes ks+1) - 10)) (M.DU (encI (ends ks b)) k op x y p.level p.FV p.Y9 p.Za p.FW (M.tV g) (dJ o l) false (dE a) some):=
  λu a hu h1 h2 ha ta=>kd _ _ 0 u hu 0 rfl λd hd td=>UC [a,d] λe he te=> .dd te
 rw[<-hsz',M.aj2,Tn.kids];simp only[Fj,M.GZ,M.DU,hr,ah,cN0,cN1,cN2,cN3,cN4,hz];refine Tot.ite (λ_=>QU λa ha ta=> .dd ta) λe0=> ?_
 have e0:=hz2 (by simpa using e0);refine Tot.eq (λ_=>(nm _ _).bd λd h1 h2=> .dd h2) λe5=> ?_
 refine Tot.eq (λ_=>(nm _ _).bd λd h1 h2=> .dd h2) λe7=> ?_
 refine Tot.eq (λ_=>(nm _ _).bd λd h1 h2=> .dd h2) λe8=> ?_
 refine Tot.eq (λe=> ?_) λe9=>Tot.eq (λe=> ?_) λe10=>Tot.eq (λe=> ?_) λe6=>Tot.eq (λe=> ?_) λe15=>Tot.eq (λe=> ?_) λe11=>Tot.eq (λe=> ?_) λe14=>Tot.eq (λe=> ?_) λe13=> ?_
 ·obtain⟨u,hu,h1,h2⟩:=ix 1 au (hc.one au);exact spw (by rcases hc.stp au with rfl|rfl<;>exact tk) λs hs=>QU λa ha ta=>lv _ _ u hu λd hd td=>UC [a,d] λe he te=> .dd te
 ·obtain⟨u,hu,h1,h2⟩:=ix 1 au (hc.one au);exact lv _ _ u hu λd hd td=>spw (by rcases hc.stp au with rfl|rfl<;>exact tk) λs hs=>QU λa ha ta=>UC [d,a] λe he te=> .dd te
 ·obtain⟨u,hu,h1,h2⟩:=ix 1 au (hc.one au);exact QU λa ha ta=>J u a hu h1 h2 ha ta
 ·obtain⟨u,v,rfl⟩:=aoX (hc.two au);have:=sz2 u v;have:=Dj u;have:=Dj v;exact lv _ _ u rfl λd hd td=>spw (by rcases hc.asg e with rfl|h<;>exact tk) λs hs=>ao1 (ao1 (QU λa ha ta=>kd _ _ 1 v rfl 1 rfl λc hc tc=>UC [d,a,c] λe he te=> .dd te))
 ·obtain⟨u,hu,h1,h2⟩:=ix 1 au (hc.one au);have hI:I64 op:=by rcases hc.una au with rfl|rfl|rfl<;>exact tk
  have hen:(encI (ends ks b)).length=ks.length:=by rw[dZ,iP]
  have hkl:=zV ks;have hI0:=Xn (b:=b) hu;have hul:=Po.1 hu;have hK:=Ws (x:=x) (r:=encI (ends ks b)) (j:=0) (p:=p) he (by rw[hen];exact hc) (by rw[hen];exact hul.1) au;rw[Wy] at hI0 hK;obtain⟨m1,m2,m3⟩:=hkE u (Ro hu);obtain⟨r,r1,r2,r3⟩:=atw (aA7 u m1 m2 m3 au) au (o:=o) (f:=5 * u.size+1) (p:=akz k op (encI (ends ks b)).length 0 p) hl (hat 0 u hu) (zaX _);obtain⟨q,qs,rfl⟩:=List.exists_cons_of_ne_nil r3;obtain⟨c,w,v,rfl,hw⟩:=r2.2 q zmf;have r1':=M.aly r1;refine spw hI λs hs=> ?_
  have hg:=Yx ⟨op,spell op,0⟩ ⟨c,w,v⟩ (by have:=YC op;simp only;omega) (by simp only;omega);refine Tot.bs (atP op hI) (Tot.bs hI0 (Tot.bs (cI0 _) (Tot.bs hK (Tot.bs r1' (Tot.bs rfl (Tot.bs rfl (Tot.bs rfl (Tot.bs rfl (Tot.bs rfl (Tot.bs hg ?_))))))))));exact Tot.ite (λ_=>ao1 (QU λa ha ta=>J u a hu h1 h2 ha ta)) λ_=>QU λa ha ta=>J u a hu h1 h2 ha ta
 ·obtain⟨u,v,z,rfl⟩:=asi (hc.three e);have:=sz3 u v z;have:=Dj u;have:=Dj v;have:=Dj z;exact kd _ _ 0 u rfl 0 rfl λa ha ta=>QU λs hs ts=>kd _ _ 1 v rfl 1 rfl λc hc tc=>QU λn hn tn=>kd _ _ 2 z rfl 2 rfl λd hd td=>UC [a,s,c,n,d] λe he te=> .dd te
 ·obtain⟨u,hu,h1,h2⟩:=ix ks.length (hc.some_ au) rfl;refine Tot.eq (λ_=> ?_) λ_=> ?_
  ·exact kd _ _ 0 u hu 0 rfl λd hd td=>ao1 (QU λa ha ta=>UC [d,a] λe he te=> .dd te)
  ·exact QU λa ha ta=>(aFJ ih' hl hat au au .top).bd λd hd td=>ao1 (QU λc hc tc=>UC [a,d,c] λe he te=> .dd te)
 ·obtain rfl:k=12:=au;exact(bind ih' hl hat au hc au).bd λd hd td=> .dd td
def a02{t:Tn}(h1:UD t)(h2:isE t)(h3:Q7 t)(hT:t.size<=1048576):∃d,M.uj (dJ false (t.flat 0)) false ((0+sizes t.kids:Nat):Int) 1 false false false false=some (dE d)/\d.size<=20 * t.size/\tsm d:=by obtain⟨r,hr,d,rfl,hd,td⟩:=atd (aIY t h1 h2 h3 hT) hT (o:=false) (f:=5 * t.size+1) (p:=.top) (by rw[t.flat_length];exact hT) (Lies.whole t) (zaX _);exact⟨d,M.alC hr,au,td⟩
def auo{n:Nd}(h:aFB n):Small n:=by obtain⟨⟨_,_⟩,⟨_,_⟩,h3,h4⟩:=h;unfold rY at h3 h4;constructor<;>omega
def aEh{T:Tn}(hT:T.size<=1048576):i64.wrap (((T.flat 0).length:Int) - 1)=((0+sizes T.kids:Nat):Int):=by have:=T.X7;rw[T.flat_length,aJ au au];omega
def aIZ{t:Tn}(hz:t.size<=400)(hf:adX t):∃x,M.sQ (aB (dJ true (t.flat 0))) 1 false false false false=some x/\x.length<=5000000000000:=by
 have hS:∀n,n∈t.flat 0->Small n:=λn hn=>auo (hf 0 n hn)
 have hl:(t.flat 0).length<=1048576:=by rw[t.flat_length];omega
 have hk:∀n,n∈t.flat 0->n.kids.length<=1048576:=λn hn=>by have:=(Pg t 0 n hn).1;omega
 have a1:=abE (t.flat 0) false hl hk hS;have p1:M.xU 1 false false false false=some true:=rfl;have f0:M.yI []=some ([],false):=rfl;simp only[afo,M.sQ,M.Oi,M.Il,M.Qi,M.KA,M.Tv,a1,ah];cases pa:Dk (t.flat 0) with
 |false=>exact⟨[],by simp only[bG,Bool.not_false,aH,ah,aB,List.map_nil,f0],by simp⟩
 |true=>
  have hok:=Zf pa hS;have hsm:=(aiS t 0).2 hS;have hT:t.size<=1048576:=au;have hr:=aBa (o:=false) (Lies.whole t);have hen:((dJ false (t.flat 0)).length:Int)=((t.flat 0).length:Int):=by rw[iV]
  simp only[aH,hen,aEh hT,hr,ah,cN0,eH];cases hs:IX t.kind with
  |false=>exact⟨[],by simp only[Bool.not_false,aH,ah,aB,List.map_nil,f0],by simp⟩
  |true=>
   have hE:isE t:=by unfold IX at hs;rw[zq,decide_eq_true_eq,decide_eq_true_eq] at hs;exact hs
   obtain⟨d,h1,hz2,td⟩:=a02 hok hE hsm hT;obtain⟨x,b,h2,h3⟩:=aA6 (t:=d) (o:=false) au td;refine⟨x, ?_,h3⟩;simp only[zaW,bG,p1,h1,ah,dE,aA1,h2]
abbrev StR:=aC×ak×Int×Int
def lY(m:Option StR)(s:Cu)(B:Nat):Prop:=∃(x:aC) (q:Nat),m=some (x,cS s q)/\x.length<=B
def lY.mono{m:Option StR}{s:Cu}{B B':Nat}(h:lY m s B)(hb:B<=B'):lY m s B':=by obtain⟨x,q,h1,h2⟩:=h;exact⟨x,q,h1,au⟩
section
variable {s:Cu} (h:ag7 s) {B:Nat}
def lY.done{x:aC}{q:Nat}(hx:x.length<=B:=by(try simp only[Gt,Pq,UR]);omega):lY (some (x,(cS s q).1,(cS s q).2.1,(cS s q).2.2)) s B:=⟨x,q,rfl,hx⟩
def lY.len{n:Nat}{a:Option StR}(h:lY a s B)(hn:n<=1000000000000000000:=by(try simp only[Gt,Pq,UR]);omega):lY (bif n.ble 9223372036854775807 then a else none) s B:=by rw[Nat.ble_eq_true_of_le au,aH];exact h
def lY.ite{c:Bool}{a b:Option StR}(ha:c=true->lY a s B)(hb:c=false->lY b s B):lY (bif c then a else b) s B:=by cases c with|true=>exact ha rfl|false=>exact hb rfl
def lY.bnd{m:Option StR}{k:StR->Option StR}{B':Nat}(hm:lY m s B')(hk:∀x q,x.length<=B'->lY (k (x,cS s q)) s B):lY (m.bind k) s B:=by obtain⟨x,q,h1,h2⟩:=hm;rw[h1,ah];exact hk x q h2
include h
theorem lY.pick{rows:ak}{p:Nat}{k:StR->Option StR}(hr:ak0 sB rows=true)(hk:∀x q,x.length<=100->lY (k (x,cS s q)) s B):lY ((M.dw rows (cS s p).1 (cS s p).2.1 (cS s p).2.2).bind k) s B:=by rw[OB h p rows hr,ah];exact hk _ _ (rO hr _)
theorem lY.aTg{a b:aC}{p:Nat}{k:StR->Option StR}(hk:∀x q,x.length<=a.length+b.length->lY (k (x,cS s q)) s B):lY ((M.dw [[D.str a],[D.str b]] (cS s p).1 (cS s p).2.1 (cS s p).2.2).bind k) s B:=by
 have hb:=vg h p 2 au au;have e2:(([[D.str a],[D.str b]]:ak).length:Int)=((2:Nat):Int):=rfl;have hm:=Nat.mod_lt (s.g p) (show 0<2 by omega);have:s.g p % 2=0\/s.g p % 2=1:=au;simp only[M.dw,M.Nw,e2,hb,ah,bZ];rcases this with e|e<;>rw[e]
 ·exact hk a (p+1) au
 ·exact hk b (p+1) au
theorem lY.below{n p:Nat}{k:Int×ak×Int×Int->Option StR}(h1:1<=n)(h2:n<=256)(hk:∀(j:Nat) q,j<n->lY (k ((j:Int),cS s q)) s B):lY ((M.bM (n:Int) (cS s p).1 (cS s p).2.1 (cS s p).2.2).bind k) s B:=by rw[vg h p n h1 h2,ah];exact hk _ _ (Nat.mod_lt _ au)
theorem lY.expr{d:Int}(l1: -8<=d)(l2:d<=2){p:Nat}{K:ak×ak×Int×Int->aC->Option StR}(hk:∀(r:ak) x q,x.length<=5000000000000->lY (K (r,cS s q) x) s B):
  lY ((M.ny d (cS s p).1 (cS s p).2.1 (cS s p).2.2).bind λr=>M.oD.bind λt=>(M.sQ (aB r.fst) t.fst t.snd.fst t.snd.snd.fst t.snd.snd.snd.fst t.snd.snd.snd.snd).bind λx=>K r x) s B:=by
 obtain⟨t,e,hz,hf⟩:=aEc h l1 au p;have hb:=Zi s.g d.toNat p;have h2:bE d.toNat<=43:=by have:d.toNat=0\/d.toNat=1\/d.toNat=2:=au;rcases this with e|e|e<;>rw[e]<;>decide
 obtain⟨x,e2,hx⟩:=aIZ (t:=t) au hf;rw[e,ah,avt,ah];simp only[e2,ah];exact hk _ _ _ hx
end
def sL:Nat->Nat
 |0=>5000000010000
 |d+1=>5000000010000+3 * sL d
def bL(d:Nat):Nat:=2 * (sL d+200)
abbrev Rc:=Int->ak->Int->Int->Option StR
def RcD(r:Rc)(s:Cu)(d:Int)(B:Nat):Prop:=∀p,lY (r d (cS s p).1 (cS s p).2.1 (cS s p).2.2) s B
section
variable {s:Cu} (h:ag7 s) {B:Nat}
include h
theorem ak6{r:Rc}{d:Int}(hr:RcD r s d B)(hB:B<=1000000000000000):∀(n:Nat) (x:aC) (p:Nat),n<=3->x.length+n * (B+200)<=100000000000000000->
  ∃y q,M.zT r d (x,(n:Int),cS s p)=some (y,0,cS s q)/\y.length<=x.length+n * (B+200)
 |0,x,p,_,hx=>by refine⟨x,p, ?_,au⟩;rw[M.zT];exact aV rfl
 |n+1,x,p,hn,hx=>by
  have e:(n+1) * (B+200)=n * (B+200)+(B+200):=Nat.succ_mul _ _;obtain⟨z,q,hz,hzl⟩:=hr (p+1);have hw:i64.wrap (((n+1:Nat):Int) - 1)=(n:Int):=by rw[aJ au au];omega
  have a1:=OB h p [[D.str []],[D.str [10]],[D.str [32]],[D.str [35,32,99,10]],[D.str [59,32]]] rfl;have a2:=OB h q [[D.str [59]],[D.str [10]],[D.str [10]],[D.str [32,35,32,116,10]],[D.str [59,10]]] rfl;have b1:=rO (rows:=[[D.str []],[D.str [10]],[D.str [32]],[D.str [35,32,99,10]],[D.str [59,32]]]) rfl (s.g p);have b2:=rO (rows:=[[D.str [59]],[D.str [10]],[D.str [10]],[D.str [32,35,32,116,10]],[D.str [59,10]]]) rfl (s.g q);generalize pkS [[D.str []],[D.str [10]],[D.str [32]],[D.str [35,32,99,10]],[D.str [59,32]]] (s.g p)=u at a1 b1;generalize pkS [[D.str [59]],[D.str [10]],[D.str [10]],[D.str [32,35,32,116,10]],[D.str [59,10]]] (s.g q)=v at a2 b2;unfold rY at b1 b2;have hb:M.Qk r d (x,((n+1:Nat):Int),cS s p)=some (.inl (x++u++z++v,(n:Int),cS s (q+1))):=by simp only[M.Qk,M.JQ,a1,ah,hz,a2,hw];rw[zdt au,Nat.ble_eq_true_of_le au,Nat.ble_eq_true_of_le (by simp only[Gt];omega),Nat.ble_eq_true_of_le (by simp only[Gt];omega)];rfl
  obtain⟨y,q',hy,hyl⟩:=ak6 hr hB n (x++u++z++v) (q+1) au (by simp only[Gt];omega);refine⟨y,q', ?_, ?_⟩
  ·rw[M.zT] at hy|-;rw[bQ hb,hy]
  ·simp only[Gt] at hyl;omega
theorem aEi{r:Rc}{d:Int}{B':Nat}(hr:RcD r s d B)(hB:B<=1000000000000000)(hB':2 * (B+200)<=B')(p:Nat):lY (M.Cm r d (cS s p).1 (cS s p).2.1 (cS s p).2.2 some) s B':=by unfold M.Cm;rw[show(3:Int)=((3:Nat):Int) from rfl,vg h p 3 au au,ah];have hm:=Nat.mod_lt (s.g p) (show 0<3 by omega);have h2:s.g p % 3 * (B+200)<=2 * (B+200):=Nat.mul_le_mul_right _ au;obtain⟨y,q,hy,hyl⟩:=ak6 h hr hB (s.g p % 3) [] (p+1) au (by rw[UR];omega);have hy':M.zT r d (([],((s.g p % 3:Nat):Int),(cS s (p+1)).1,(cS s (p+1)).2.1,(cS s (p+1)).2.2))=_:=hy;simp only[hy',ah];rw[UR] at hyl;exact⟨y,q,rfl,au⟩
theorem aso{x:aC}(hx:x.length<=5000000000000)(hB:5000000001000<=B)(j:Int)(p:Nat):lY (M.IB (j,cS s p) x some) s B:=by
 unfold M.IB;refine lY.pick h rfl λa q ha=> ?_
 refine lY.pick h rfl λb q hb=> ?_
 refine lY.len (lY.len ?_);refine lY.pick h rfl λc q hc=> ?_
 exact lY.len (lY.done)
theorem avT{r rb:Rc}{x:aC}(hx:x.length<=5000000000000)(hB:5000000001000<=B){d:Int}{Bs Bb:Nat}(j p:Nat)(hj:j<6->RcD r s (i64.wrap (d - 1)) Bs/\RcD rb s (i64.wrap (d - 1)) Bb/\5000000001000+Bs+Bb<=B/\B<=100000000000000000):
  lY (M.Jj ((j:Int),cS s p) x r d some rb) s B:=by
 have hjj:∀{k:Nat},k<6->((j:Int)==(k:Int))=true->RcD r s (i64.wrap (d - 1)) Bs/\RcD rb s (i64.wrap (d - 1)) Bb/\5000000001000+Bs+Bb<=B/\B<=100000000000000000:=λhk hc=>hj (by rw[beq_iff_eq] at hc;omega)
 unfold M.Jj;refine lY.ite (λhc=> ?_) λ_=> ?_
 ·obtain⟨h1,h2,h3,h4⟩:=hjj (k:=0) au hc;refine lY.len (lY.len (lY.bnd (h1 p) λy q hy=> ?_));exact lY.len (lY.done)
 refine lY.ite (λhc=> ?_) λ_=> ?_
 ·obtain⟨h1,h2,h3,h4⟩:=hjj (k:=1) au hc;refine lY.len (lY.len (lY.bnd (h2 p) λy q hy=> ?_));refine lY.len (lY.len (lY.bnd (h1 q) λz q hz=> ?_));exact lY.len (lY.done)
 refine lY.ite (λhc=> ?_) λ_=> ?_
 ·obtain⟨h1,h2,h3,h4⟩:=hjj (k:=2) au hc;refine lY.len (lY.len (lY.pick h rfl λa q ha=> ?_));refine lY.len (lY.bnd (h1 q) λz q hz=> ?_);exact lY.len (lY.done)
 refine lY.ite (λhc=> ?_) λ_=> ?_
 ·obtain⟨h1,h2,h3,h4⟩:=hjj (k:=3) au hc;refine lY.bnd (h1 p) λz q hz=>lY.len (lY.pick h rfl λa q ha=> ?_)
  exact lY.len (lY.len (lY.len (lY.len (lY.done))))
 refine lY.ite (λhc=> ?_) λ_=> ?_
 ·obtain⟨h1,h2,h3,h4⟩:=hjj (k:=4) au hc;refine lY.pick h rfl λa q ha=>lY.len (lY.len (lY.bnd (h1 q) λz q hz=> ?_))
  exact lY.len (lY.done)
 refine lY.ite (λhc=> ?_) λ_=> ?_
 ·obtain⟨h1,h2,h3,h4⟩:=hjj (k:=5) au hc;refine lY.bnd (h2 p) λz q hz=>lY.len (lY.len (lY.done))
 refine lY.ite (λ_=>aso h hx hB _ p) λ_=>lY.ite (λ_=>aso h hx hB _ p) λ_=> ?_
 refine lY.ite (λ_=>lY.pick h rfl λa q ha=>lY.done) λ_=> ?_
 exact lY.ite (λ_=>lY.len (lY.len (lY.done))) λ_=>lY.done
theorem avU{r rb:Rc}{d:Int}(hd: -8<=d)(hB:5000000001000<=B){Bs Bb:Nat}(hj:0<d->RcD r s (i64.wrap (d - 1)) Bs/\RcD rb s (i64.wrap (d - 1)) Bb/\5000000001000+Bs+Bb<=B/\B<=100000000000000000)(p:Nat):
  lY (M.Cj r rb d (cS s p).1 (cS s p).2.1 (cS s p).2.2 some) s B:=by
 unfold M.Cj;refine lY.below h (n:=2) au au λj q hj2=> ?_
 have hw:i64.wrap (1+(j:Int))=1+(j:Int):=aJ au au;simp only[hw];refine lY.expr h au au (K:=λazd KL=>_) λr x q hx=> ?_
 refine lY.below h (n:=14) au au λj q hj2=> ?_
 refine lY.ite (λhc=>lY.ite (λ_=> ?_) λhc2=> ?_) λhc=> ?_
 ·refine lY.pick h rfl λa q ha=> ?_
  refine lY.pick h rfl λb q hb=> ?_
  refine lY.len (lY.len ?_);refine lY.pick h rfl λc q hc=> ?_
  exact lY.len (lY.done)
 ·have hc3:¬(j<6):=by have:=decide_eq_false_iff_not.1 hc2;simp only at this;omega
  exact avT (Bs:=0) (Bb:=0) h hx hB j q λhlt=>absurd hlt hc3
 ·have hc3:0<d:=by have:=decide_eq_false_iff_not.1 hc;omega
  exact avT h hx hB j q λ_=>hj hc3
theorem ao2:∀(d f:Nat),d<=2->2 * d+1<=f->RcD (M.CG f) s (d:Int) (sL d)/\RcD (M.He (f+1)) s (d:Int) (bL d)
 |d,0,_,hf=>by omega
 |d,f+1,hd,hf=>by
  have hsz:sL d<=1000000000000000/\5000000001000<=sL d:=by have:d=0\/d=1\/d=2:=au;rcases this with rfl|rfl|rfl<;>decide
  have h1:RcD (M.CG (f+1)) s (d:Int) (sL d):=λp=>by
   rw[M.aj7];cases d with
   |zero=>exact avU (Bs:=0) (Bb:=0) h au hsz.2 (λhlt=>by omega) p
   |succ e=>
    have hw:i64.wrap (((e+1:Nat):Int) - 1)=(e:Int):=by rw[aJ au au];omega
    obtain⟨g,rfl⟩:∃g,f=g+1:=⟨f - 1,au⟩
    have i1:=(ao2 e (g+1) au au).1;have i2:=(ao2 e g au au).2;refine avU (Bs:=sL e) (Bb:=bL e) h au hsz.2 (λhlt=> ?_) p;rw[hw];exact⟨i1,i2,by rw[sL,bL];omega,au⟩
  refine⟨h1,λp=> ?_⟩;rw[M.aj6];exact aEi h h1 hsz.1 (by rw[bL];omega) p
theorem aup(p:Nat):lY (M.tJ 2 (cS s p).1 (cS s p).2.1 (cS s p).2.2) s 200000000000000:=by
 obtain⟨x,q,e,hx⟩:=(ao2 h 2 5 au au).2 p;have:bL 2<=200000000000000:=by decide
 exact⟨x,q,M.ain e,au⟩
theorem auq(p:Nat):lY (M.Ec (cS s p).1 (cS s p).2.1 (cS s p).2.2) s 300000000000000:=by
 unfold M.Ec M.Ql;refine lY.bnd (aup h p) λb q hb=>lY.len (lY.len ?_)
 refine lY.expr h au au (K:=λazh aj8=>_) λr x q hx=> ?_
 refine lY.below h (n:=6) au au λj q hj2=> ?_
 refine lY.ite (λ_=>lY.pick h rfl λa q ha=>lY.len (lY.done)) λ_=> ?_
 refine lY.ite (λ_=> ?_) λ_=> ?_
 ·refine lY.pick h rfl λa q ha=>lY.len (lY.pick h rfl λb q hb=>lY.len (lY.len (lY.pick h rfl λc q hc=> ?_)))
  exact lY.len (lY.len (lY.done))
 refine lY.ite (λ_=>lY.done) λ_=> ?_
 refine lY.ite (λ_=>lY.len (lY.len (lY.aTg h λc q hc=> ?_))) λ_=> ?_
 ·simp only[Gt,Pq,UR] at hc;exact lY.len (lY.done)
 exact lY.ite (λ_=>lY.done) λ_=>lY.len (lY.done)
theorem asq:∀(n:Nat) (x:aC) (p:Nat),n<=4->x.length+n * 300000000000200<=100000000000000000->
  ∃y q,M.wI (x,(n:Int),cS s p)=some (y,0,cS s q)/\y.length<=x.length+n * 300000000000200
 |0,x,p,_,hx=>by refine⟨x,p, ?_,au⟩;rw[M.wI];exact aV rfl
 |n+1,x,p,hn,hx=>by
  obtain⟨z,q,hz,hzl⟩:=auq h (p+1);have hw:i64.wrap (((n+1:Nat):Int) - 1)=(n:Int):=by rw[aJ au au];omega
  have a1:=OB h p [[D.str []],[D.str [10]],[D.str [35,32,116,111,112,10]],[D.str []]] rfl;have a2:=OB h q [[D.str [10]],[D.str [10,10]],[D.str [59]],[D.str [32,35,32,101,10]]] rfl;have b1:=rO (rows:=[[D.str []],[D.str [10]],[D.str [35,32,116,111,112,10]],[D.str []]]) rfl (s.g p);have b2:=rO (rows:=[[D.str [10]],[D.str [10,10]],[D.str [59]],[D.str [32,35,32,101,10]]]) rfl (s.g q);generalize pkS [[D.str []],[D.str [10]],[D.str [35,32,116,111,112,10]],[D.str []]] (s.g p)=u at a1 b1;generalize pkS [[D.str [10]],[D.str [10,10]],[D.str [59]],[D.str [32,35,32,101,10]]] (s.g q)=v at a2 b2;unfold rY at b1 b2;have hb:M.MZ (x,((n+1:Nat):Int),cS s p)=some (.inl (x++u++z++v,(n:Int),cS s (q+1))):=by simp only[M.MZ,M.Gf,a1,ah,hz,a2,hw];rw[zdt au,Nat.ble_eq_true_of_le au,Nat.ble_eq_true_of_le (by simp only[Gt];omega),Nat.ble_eq_true_of_le (by simp only[Gt];omega)];rfl
  obtain⟨y,q',hy,hyl⟩:=asq n (x++u++z++v) (q+1) au (by simp only[Gt];omega);refine⟨y,q', ?_, ?_⟩
  ·rw[M.wI] at hy|-;rw[bQ hb,hy]
  ·simp only[Gt] at hyl;omega
theorem af7(p:Nat):lY (M.vY (cS s p).1 (cS s p).2.1 (cS s p).2.2) s 2000000000000000:=by unfold M.vY M.L6;rw[show(4:Int)=((4:Nat):Int) from rfl,vg h p 4 au au,ah];have hm:=Nat.mod_lt (s.g p) (show 0<4 by omega);obtain⟨y,q,hy,hyl⟩:=asq h (s.g p % 4) [] (p+1) au (by rw[UR];omega);have hy':M.wI (([],((s.g p % 4:Nat):Int),(cS s (p+1)).1,(cS s (p+1)).2.1,(cS s (p+1)).2.2))=_:=hy;simp only[hy',ah];rw[UR] at hyl;exact⟨y,q,rfl,au⟩
end
def tkF(t:Tk):Prop:=(0<=t.kind/\t.kind<=68)/\rY t.text
abbrev aEj:=Int×ak×Int×Int×ak
def SA{k:Int}{t:aC}{a:Int}(h1:0<=k)(h2:k<=68)(h3:rY t):tkF ⟨k,t,a⟩:=⟨⟨h1,h2⟩,h3⟩
def avV{a b:Tk}(ha:tkF a)(hb:tkF b):∀t,t∈[a,b]->tkF t:=λt ht=>by
 rcases List.mem_cons.1 ht with rfl|ht
 ·exact ha
 ·rw[List.mem_singleton] at ht;rw[ht];exact hb
def TGQ(s:Cu)(n:Nat)(l:List Tk)(m:Option (aEj⊕aEj)):Prop:=∃(ts:List Tk) (q:Nat),m=some (.inl ((n:Int),(cS s q).1,(cS s q).2.1,(cS s q).2.2,aF (l++ts)))/\ts.length<=2/\∀t,t∈ts->tkF t
def TGQ.ite{s:Cu}{n:Nat}{l:List Tk}{c:Bool}{a b:Option (aEj⊕aEj)}(ha:TGQ s n l a)(hb:TGQ s n l b):TGQ s n l (bif c then a else b):=by cases c<;>assumption
def anv(k:Int):∃b,M.fA k=some b:=by simp only[M.fA,M.x9];cases k==3<;>cases k==4<;>cases k==5<;>cases k==6<;>cases k==8<;>cases k==33<;>cases k==35<;>cases k==51<;>cases k==52<;>exact⟨_,rfl⟩
def anw(l:List Tk):aj (aF l)=true:=by simp[aj,aF,ah3,D.flat]
def Zk(l:List Tk)(ts:List Tk):aF (l++ts)=aF l++aF ts:=by simp[aF]
def aur(x:Tk)(k:Int)(t:aC)(a:Int):splice (ah3 x) 0 [D.int .i64 k,D.str t,D.int .i64 a]=ah3 ⟨k,t,a⟩:=rfl
def aus(l:List Tk)(i:Nat)(x:Tk):(aF l).set i (ah3 x)=aF (l.set i x):=by simp[aF,List.map_set]
section
variable {s:Cu} (h:ag7 s)
include h
theorem anx(p:Nat):∃(k:Int) (t:aC) (q:Nat),M.vZ (cS s p).1 (cS s p).2.1 (cS s p).2.2=some (k,t,0,cS s q)/\tkF ⟨k,t,0⟩:=by
 have e:=vg h p 10 au au;rw[show((10:Nat):Int)=10 from rfl] at e;obtain⟨a1,c1,b1⟩:=aAT h (p+1);obtain⟨a2,c2,b2⟩:=aAU h (p+1);obtain⟨a3,c3,b3⟩:=aAV h (p+1);obtain⟨a4,c4,b4⟩:=ab4 h (p+1);have e1:=vg h (p+1) 17 au au;rw[show((17:Nat):Int)=17 from rfl] at e1;have e2:=vg h (p+1) 39 au au;rw[show((39:Nat):Int)=39 from rfl] at e2;have m1:=Nat.mod_lt (s.g (p+1)) (show 0<17 by omega);have m2:=Nat.mod_lt (s.g (p+1)) (show 0<39 by omega);have w1:i64.wrap (10+((s.g (p+1) % 17:Nat):Int))=10+((s.g (p+1) % 17:Nat):Int):=aJ au au;have w2:i64.wrap (30+((s.g (p+1) % 39:Nat):Int))=30+((s.g (p+1) % 39:Nat):Int):=aJ au au;have s1:=(Si (10+((s.g (p+1) % 17:Nat):Int)) (by unfold I64;omega)).1;have s2:=(Si (30+((s.g (p+1) % 39:Nat):Int)) (by unfold I64;omega)).1;have l1:=YC (10+((s.g (p+1) % 17:Nat):Int));have l2:=YC (30+((s.g (p+1) % 39:Nat):Int));simp only[M.vZ,M.Qn,M.qR,M.JO];rw[e,ah];simp only[b1,b2,b3,b4,e1,e2,w1,w2,s1,s2,ah];cases((s.g p % 10:Nat):Int)==0 with
 |true=>exact⟨_,_,_,rfl,SA au au (by first|assumption|exact rO rfl _|(unfold rY;omega))⟩
 |false=>cases((s.g p % 10:Nat):Int)==1 with
  |true=>exact⟨_,_,_,rfl,SA au au (by first|assumption|exact rO rfl _|(unfold rY;omega))⟩
  |false=>cases((s.g p % 10:Nat):Int)==2 with
   |true=>exact⟨_,_,_,rfl,SA au au (by first|assumption|exact rO rfl _|(unfold rY;omega))⟩
   |false=>cases((s.g p % 10:Nat):Int)==3 with
    |true=>exact⟨_,_,_,rfl,SA au au (by first|assumption|exact rO rfl _|(unfold rY;omega))⟩
    |false=>cases((s.g p % 10:Nat):Int)==4 with
     |true=>exact⟨_,_,_,rfl,SA au au (by first|assumption|exact rO rfl _|(unfold rY;omega))⟩
     |false=>cases((s.g p % 10:Nat):Int)==5 with
      |true=>rw[bG,bG,bG,bG,bG,aH,OB h (p+1) _ rfl,ah];exact⟨_,_,_,rfl,SA au au (by first|assumption|exact rO rfl _|(unfold rY;omega))⟩
      |false=>cases((s.g p % 10:Nat):Int)==6 with
       |true=>exact⟨_,_,_,rfl,SA au au (by first|assumption|exact rO rfl _|(unfold rY;omega))⟩
       |false=>exact⟨_,_,_,rfl,SA au au (by first|assumption|exact rO rfl _|(unfold rY;omega))⟩
variable {n:Nat} {l:List Tk} (hl:l.length<=100) (hn:n<=100)
include hl hn
theorem aBb(k:Int)(t:aC)(q:Nat):TGQ s n l (M.ji (aF l) (λx=>some (Sum.inl x)) ((n+1:Nat):Int) (k,t,0,cS s q)):=by
 have hw:i64.wrap (((n+1:Nat):Int) - 1)=(n:Int):=by rw[aJ au au];omega
 simp only[M.ji,jI,hw];rw[bI au,aH,bI au,aH];exact⟨[⟨1,[10],0⟩],q,by rw[Zk];rfl,by simp,λu hu=>by rw[List.mem_singleton] at hu;rw[hu];exact SA (by decide) (by decide) (by simp[rY])⟩
theorem avW(b:Bool)(q q0:Nat){k:Int}(t:aC)(hk:tkF ⟨k,t,0⟩):TGQ s n l (M.wJ (b,cS s q) (aF l) (λx=>some (Sum.inl x)) ((n+1:Nat):Int) (k,t,0,cS s q0)):=by
 have hw:i64.wrap (((n+1:Nat):Int) - 1)=(n:Int):=by rw[aJ au au];omega
 have hp:=OB h q [[D.str [35]],[D.str [35,32,97]],[D.str [35,34,120]]] rfl;simp only[M.wJ,jI,hw,hp,ah,Gt,Pq,UR];cases b with
 |true=>rw[aH,bI au,aH,bI au,aH,bI au,aH,bI au,aH];exact⟨[⟨2,_,0⟩,⟨1,[10],0⟩],q+1,by rw[Zk,QW];rfl,by simp,avV (SA (by decide) (by decide) (rO rfl _)) (SA (by decide) (by decide) (by simp[rY]))⟩
 |false=>rw[bG,bI au,aH,bI au,aH];exact⟨[⟨k,t,0⟩],q,by rw[Zk];rfl,by simp,λu hu=>by rw[List.mem_singleton] at hu;rw[hu];exact hk⟩
theorem aBd(q:Nat){k:Int}(t:aC)(hk:tkF ⟨k,t,0⟩):TGQ s n l (M.gQ (k,t,0,cS s q) (aF l) (λx=>some (Sum.inl x)) ((n+1:Nat):Int)):=by
 have hw:i64.wrap (((n+1:Nat):Int) - 1)=(n:Int):=by rw[aJ au au];omega
 have e4:=af2 h q 4 au au;rw[show((4:Nat):Int)=4 from rfl] at e4;have e20:=af2 h q 20 au au;rw[show((20:Nat):Int)=20 from rfl] at e20;have e21:=af2 h (q+1) 20 au au;rw[show((20:Nat):Int)=20 from rfl] at e21;simp only[M.gQ,jI,hw,e4,e20,e21,ah,Gt,Pq,UR];refine TGQ.ite ?_ (avW h hl hn _ _ _ t hk);cases(s.g q % 4==0) with
 |true=>rw[aH,bI au,aH,bI au,aH,bI au,aH,bI au,aH];exact⟨[⟨7,t,0⟩,⟨32,[40],0⟩],q+1,by rw[Zk,QW];rfl,by simp,avV (SA (by decide) (by decide) hk.2) (SA (by decide) (by decide) (by simp[rY]))⟩
 |false=>exact avW h hl hn _ _ _ t hk
theorem axy(p:Nat):TGQ s n l (M.IC (((n+1:Nat):Int),(cS s p).1,(cS s p).2.1,(cS s p).2.2,aF l)):=by
 obtain⟨k,t,q,ht,hk⟩:=anx h p;simp only[M.IC,M.CJ];rw[zdt au,aH];rw[jI]
 by_cases hz:l.length=0
 ·obtain⟨b,hb⟩:=anv 0;rw[xE au,bG,ht,ah];simp only[hb,ah]
  repeat' first|exact aBb h hl hn _ _ _|exact aBd h hl hn _ _ hk|apply TGQ.ite
 ·have hlt:l.length - 1<l.length:=au;obtain⟨x,hx⟩:∃x,l[l.length - 1]? =some x:=⟨l[l.length - 1],by simp[hlt]⟩
  have hw:i64.wrap ((l.length:Int) - 1)=((l.length - 1:Nat):Int):=by rw[aJ au au];omega
  obtain⟨b,hb⟩:=anv x.kind;rw[zdt au,aH,hw];simp only[bZ,ztn,o8,hx,MS,ah,cT0,ht,hb]
  repeat' first|exact aBb h hl hn _ _ _|exact aBd h hl hn _ _ hk|apply TGQ.ite
omit hl hn
theorem af8:∀(n:Nat) (l:List Tk) (p:Nat),l.length+2 * n<=60->(∀t,t∈l->tkF t)->∃(l':List Tk) (q:Nat),M.yc ((n:Int),(cS s p).1,(cS s p).2.1,(cS s p).2.2,aF l)=some (0,(cS s q).1,(cS s q).2.1,(cS s q).2.2,aF l')/\l'.length<=60/\∀t,t∈l'->tkF t
 |0,l,p,hl,hk=>by refine⟨l,p, ?_,au,hk⟩;rw[M.yc];apply aV;simp only[M.IC,M.CJ];rw[xE au,bG];rfl
 |n+1,l,p,hl,hk=>by
  obtain⟨ts,q,e,h2,h3⟩:=axy h (n:=n) (l:=l) au au p;obtain⟨l',q',e',r1,r2⟩:=af8 n (l++ts) q (by rw[Gt];omega) (λt ht=>by
   rcases List.mem_append.1 ht with ht|ht
   ·exact hk t ht
   ·exact h3 t ht)
  refine⟨l',q', ?_,r1,r2⟩;rw[M.yc] at e'|-;rw[bQ e];exact e'
theorem aut(p:Nat):∃(l:List Tk) (q:Nat),M.BA 14 (cS s p).1 (cS s p).2.1 (cS s p).2.2=some (aF l,cS s q)/\l.length<=60/\∀t,t∈l->tkF t:=by
 have e:=vg h p 15 au au;rw[show((15:Nat):Int)=15 from rfl] at e;have hm:=Nat.mod_lt (s.g p) (show 0<15 by omega);obtain⟨l,q,e1,hl,hk⟩:=af8 h (s.g p % 15) [] (p+1) (by rw[UR];omega) (by simp);simp only[M.BA,M.Oj];rw[show i64.wrap (14+1)=15 from rfl,e,ah];rw[show M.yc (((s.g p % 15:Nat):Int),(cS s (p+1)).1,(cS s (p+1)).2.1,(cS s (p+1)).2.2,[])=_ from e1,ah];have e10:=af2 h q 10 au au;rw[show((10:Nat):Int)=10 from rfl] at e10;simp only[jI,e10,ah,anw,aH]
 by_cases hz:l.length=0
 ·rw[xE au,bG];exact⟨l,q,rfl,hl,hk⟩
 ·rw[zdt au,aH];cases(s.g q % 10==0) with
  |false=>exact⟨l,q+1,rfl,hl,hk⟩
  |true=>
   have eb:=vg h (q+1) l.length au au;have hi:=Nat.mod_lt (s.g (q+1)) (show 0<l.length by omega);obtain⟨k,t,q2,ht,hkk⟩:=anx h (q+1+1);obtain⟨x,hx⟩:∃x,l[s.g (q+1) % l.length]? =some x:=⟨l[s.g (q+1) % l.length],by simp[hi]⟩
   rw[aH,eb,ah];simp only[ht,ah,bZ,ztn,o8,hx,MS,aur,aus,anw,aH];refine⟨_,q2,rfl,by rw[List.length_set];exact hl,λy hy=> ?_⟩;rcases List.mem_or_eq_of_mem_set hy with hy|rfl
   ·exact hk y hy
   ·exact hkk
end
def aI0(c:aC)(hc:c.length<=1048576):∃h,M.Ky (c.map byteRow)=some (c.map byteRow,0,h):=by
 have key:∀(n i:Nat) (h:Int),c.length - i=n->∃t,fH (M.Ja (c.map byteRow)) (h,(i:Int))=some t:=by
  intro n;induction n with
  |zero=>intro i h hi;refine⟨(h,(i:Int)),aV ?_⟩;simp only[M.Ja,M.DI,zaY];rw[xE au,bG]
  |succ n ih=>
   intro i h hi
   by_cases h4:i<4000
   ·obtain⟨b,hb⟩:∃b,c[i]? =some b:=⟨c[i],by simp⟩
    have hr:idx (c.map byteRow) (i:Int)=some (byteRow b):=by rw[bZ,List.getElem?_map,hb];rfl
    have hcI:jq .u8 (byteRow b) 0=some (b.toNat:Int):=rfl;obtain⟨t,ht⟩:=ih (i+1) _ au;refine⟨t, ?_⟩;rw[<-ht];apply bQ;simp only[M.Ja,M.DI,zaY];rw[zdt au,aH,zdt au,aH,hr,ah,hcI,ah,aJ (n:=(i:Int)+1) au au];rfl
   ·refine⟨(h,(i:Int)),aV ?_⟩;simp only[M.Ja,M.DI,zaY];rw[zdt au,aH,xE au,bG]
 obtain⟨t,ht⟩:=key c.length 0 (i64.wrap (10101+(((c.map byteRow).length:Nat):Int))) au;refine⟨t.fst, ?_⟩;simp only[M.Ky,M.Vf];rw[show M.SI (c.map byteRow) (i64.wrap (10101+(((c.map byteRow).length:Nat):Int)),0)=some t from ht,ah]
def axz(v:Int):[D.int IntKind.u8 (IntKind.u8.wrap v)]=byteRow (UInt8.ofNat (IntKind.u8.wrap v).toNat):=by
 have h:IntKind.u8.wrap v=v % 256:=by simp[IntKind.wrap,IntKind.bits,IntKind.signed]
 have h2:(UInt8.ofNat (v % 256).toNat).toNat=(v % 256).toNat:=by rw[UInt8.toNat_ofNat'];omega
 rw[byteRow,h,h2];congr 2;omega
def nxt(n:Nat)(hn:n<=1000000):i64.wrap (((n+1:Nat):Int) - 1)=(n:Int):=by rw[aJ au au];omega
section
variable {s:Cu} (h:ag7 s)
include h
theorem ao3(st:Int)(n:Nat)(hn:n<=100)(x:aC)(hx:x.length<=1000)(p:Nat):∃b,M.RV st (((n+1:Nat):Int),(cS s p).1,(cS s p).2.1,(cS s p).2.2,x.map byteRow)=some (.inl ((n:Int),(cS s (p+1)).1,(cS s (p+1)).2.1,(cS s (p+1)).2.2,(x++[b]).map byteRow)):=by
 have key:∀v:Int,x.map byteRow++[[D.int IntKind.u8 (IntKind.u8.wrap v)]]=(x++[UInt8.ofNat (IntKind.u8.wrap v).toNat]).map byteRow:=λv=>by rw[axz,List.map_append];rfl
 simp only[Fj,M.RV,M.L8,byte_at h,ah,nxt n au,zaY,Pq,UR,key];rw[zdt au,aH,Nat.ble_eq_true_of_le au,Nat.ble_eq_true_of_le au];cases st==1<;>cases st==2<;>exact⟨_,rfl⟩
theorem ahZ(st:Int):∀(n:Nat) (x:aC) (p:Nat),x.length+n<=100->∃y q,M.Hf st ((n:Int),(cS s p).1,(cS s p).2.1,(cS s p).2.2,x.map byteRow)=some (0,(cS s q).1,(cS s q).2.1,(cS s q).2.2,List.map byteRow y)/\y.length<=100
 |0,x,p,hx=>by refine⟨x,p, ?_,au⟩;rw[M.Hf];exact aV rfl
 |n+1,x,p,hx=>by obtain⟨b,hb⟩:=ao3 h st n au x au p;obtain⟨y,q,hy,hyl⟩:=ahZ st n (x++[b]) (p+1) (by rw[Gt,OW];omega);refine⟨y,q, ?_,hyl⟩;rw[M.Hf] at hy|-;rw[bQ hb,hy]
theorem axA(p:Nat):lY (M.Ia 3 (cS s p).1 (cS s p).2.1 (cS s p).2.2) s 100:=by have e4:=vg h p 4 au au;rw[show((4:Nat):Int)=4 from rfl] at e4;have e5:=vg h (p+1) 4 au au;rw[show((4:Nat):Int)=4 from rfl] at e5;have hm:=Nat.mod_lt (s.g (p+1)) (show 0<4 by omega);obtain⟨y,q,hy,hyl⟩:=ahZ h ((s.g p % 4:Nat):Int) (s.g (p+1) % 4) [] (p+1+1) (by rw[UR];omega);rw[List.map_nil] at hy;simp only[M.Ia,M.TF,e4,ah,show i64.wrap (3+1)=4 from rfl,e5,hy,bytesOf_map];exact⟨y,q,rfl,hyl⟩
theorem ak7{x:aC}(hx:x.length<=10000000000000000)(p:Nat):lY (M.yJ x (cS s p).1 (cS s p).2.1 (cS s p).2.2) s 20000000000000000:=by
 unfold M.yJ M.Qm;refine lY.ite (λ_=>lY.bnd (axA h p) λy q hy=>lY.done) λhz=> ?_
 have h0:x.length≠0:=by have:=QV.1 hz;omega
 obtain⟨k,q,e,_,_,h1,h2⟩:=axt h p (x.length:Int) au;have h3:k<x.length:=au;obtain⟨j,rfl⟩:∃j:Nat,k=j:=⟨k.toNat,au⟩
 have hj:j<x.length:=au;rw[e,ah];have hw:i64.wrap ((j:Int)+1)=((j+1:Nat):Int):=by rw[aJ au au];omega
 have c1:cut x 0 (j:Int)=some (sub x 0 j):=Kq (i:=0) au au;have c2:cut x ((j+1:Nat):Int) (x.length:Int)=some (sub x (j+1) x.length):=Kq au au;have c3:cut x (j:Int) (x.length:Int)=some (sub x j x.length):=Kq au au;have l1:=Vu (s:=x) (i:=0) (e:=j) au au;have l2:=Vu (s:=x) (i:=j+1) (e:=x.length) au au;have l3:=Vu (s:=x) (i:=j) (e:=x.length) au au;have e4:idx x (j:Int)=some x[j]:=by rw[bZ,List.getElem?_eq_getElem hj]
 simp only[hw,c1,c2,c3,ah,e4];refine lY.below h (n:=4) au au λm q _=> ?_
 refine lY.ite (λ_=>lY.len (lY.done)) λ_=> ?_
 refine lY.ite (λ_=> ?_) λ_=> ?_
 ·rw[byte_at h,ah];exact lY.len (lY.len (lY.done))
 refine lY.ite (λ_=>lY.done) λ_=> ?_
 refine lY.below h (n:=255) au au λm q _=> ?_
 exact lY.len (lY.len (lY.done))
omit h
theorem ak8(l:List Tk)(hl:l.length<=60)(hs:∀t,t∈l->rY t.text):∀(n i:Nat) (x:aC),i+n=l.length->x.length+101 * n<=1000000->∃y,M.FQ (aF l) (x,(i:Int))=some (y,(l.length:Int))/\y.length<=x.length+101 * n
 |0,i,x,hi,hx=>by refine⟨x, ?_,au⟩;rw[M.FQ];refine aV ?_;simp only[M.Ol,M.Jk,jI];rw[xE au,bG,show i=l.length by omega]
 |n+1,i,x,hi,hx=>by
  have hlt:i<l.length:=au;obtain⟨t,ht⟩:∃t,l[i]? =some t:=⟨l[i],by simp[hlt]⟩
  have htl:=hs t (Ro ht);unfold rY at htl;have hw:i64.wrap ((i:Int)+1)=((i+1:Nat):Int):=by rw[aJ au au];omega
  have step:∃z,M.Ol (aF l) (x,(i:Int))=some (.inl (z,((i+1:Nat):Int)))/\z.length<=x.length+101:=by
   simp only[M.Ol,M.Jk,jI,bZ,o8,ht,MS,ah,cT1,hw];rw[zdt au,aH]
   by_cases h0:i=0
   ·rw[xE au,bG,Nat.ble_eq_true_of_le au,aH];exact⟨_,rfl,by simp only[Gt];omega⟩
   ·have hp:i - 1<l.length:=au;obtain⟨u,hu⟩:∃u,l[i - 1]? =some u:=⟨l[i - 1],by simp[hp]⟩
    have hul:=hs u (Ro hu);unfold rY at hul;have hw2:i64.wrap ((i:Int) - 1)=((i - 1:Nat):Int):=by rw[aJ au au];omega
    rw[zdt au,aH,hw2];simp only[bZ,o8,hu,MS,ah,cT0,cT1,cT2,ht,Yx u t au au];cases afJ u t with
    |true=>rw[aH,Nat.ble_eq_true_of_le au,aH,Nat.ble_eq_true_of_le (by simp only[Gt,Pq,UR];omega),aH];exact⟨_,rfl,by simp only[Gt,Pq,UR];omega⟩
    |false=>rw[bG,Nat.ble_eq_true_of_le au,aH];exact⟨_,rfl,by simp only[Gt];omega⟩
  obtain⟨z,hz,hzl⟩:=step;obtain⟨y,hy,hyl⟩:=ak8 l hl hs n (i+1) z au au;refine⟨y, ?_,au⟩;rw[M.FQ] at hy|-;rw[bQ hz,hy]
include h
theorem asr(p:Nat):lY (M.BD (cS s p).1 (cS s p).2.1 (cS s p).2.2) s 20000000000000000:=by
 obtain⟨l,q,e,hl,hk⟩:=aut h p;obtain⟨y,hy,hyl⟩:=ak8 l hl (λt ht=>(hk t ht).2) l.length 0 [] au (by rw[UR];omega);have hy':M.FQ (aF l) ([],0)=_:=hy;rw[UR] at hyl;unfold M.BD M.Om;simp only[e,ah,M.OJ,M.Vo,hy'];refine lY.below h (n:=6) au au λm q _=> ?_
 refine lY.ite (λ_=>lY.bnd (ak7 h au q) λz q hz=>lY.done hz) λ_=> ?_
 refine lY.ite (λ_=> ?_) λ_=>lY.done
 refine lY.pick h rfl λa q ha=>lY.len (lY.pick h rfl λb q hb=> ?_)
 exact lY.len (lY.done)
theorem axB(p:Nat):lY (M.Ed (cS s p).1 (cS s p).2.1 (cS s p).2.2) s 20000000000000000:=by
 unfold M.Ed M.TG;refine lY.below h (n:=8) au au λm q _=> ?_
 refine lY.ite (λ_=>lY.bnd (af7 h q) λx q hx=>lY.bnd (ak7 h (x:=x) au q) λy q hy=>lY.done hy) λ_=> ?_
 refine lY.ite (λ_=>lY.bnd (asr h q) λx q hx=>lY.done hx) λ_=> ?_
 exact lY.bnd (af7 h q) λx q hx=>lY.done
end
def ao4(code:aC)(hl:code.length<=1048576):∃x,M.yR (code.map byteRow)=some x:=by
 obtain⟨g,hg⟩:=aI0 code hl;have hs:ag7 ⟨code,0,g⟩:=⟨Nat.zero_le _,hl⟩
 obtain⟨x,q,e,hx⟩:=axB hs 0;have e1:M.Ed (code.map byteRow) 0 g=some (x,cS ⟨code,0,g⟩ q):=e;simp only[M.yR,M.L9,hg,ah,e1];exact⟨x,rfl⟩
end Go.Proofs.YtgealgmioiepeaaGreatDoor
namespace Go.Proofs.YtgealgmioiepeaaGreatDoor
open Go Go.Vm
def ZU:List Tk->dO
 |[]=>[]
 |t::r=>(bif t.kind==2 then[t.text] else[])++ZU r
def asu:∀a b:List Tk,ZU (a++b)=ZU a++ZU b
 |[],b=>rfl
 |t::a,b=>by rw[zca,ZU,ZU,asu a b,QW]
def cp(l:List Tk)(i:Nat):dO:=ZU (l.take i)
mutual
def tc:Tn->dO
 | .mk k _ x _ ks=>bif k==34 then[x] else tcs ks
def tcs:List Tn->dO
 |[]=>[]
 |t::ts=>(tc t)++tcs ts
end
def Ub:∀a b:List Tn,tcs (a++b)=tcs a++tcs b
 |[],b=>rfl
 |t::a,b=>by rw[zca,tcs,tcs,Ub a b,QW]
def xI(t:Tn):tcs [t]=tc t:=by rw[tcs,tcs,List.append_nil]
def aBe:∀nt:dO,tcs (WA nt)=nt
 |[]=>rfl
 |s::nt=>by have ih:=aBe nt;unfold WA at ih|-;rw[zmc,tcs,ih,tc];rfl
def Lm{k op:Int}{x y:aC}{ks:List Tn}(h:k≠34):tc (.mk k op x y ks)=tcs ks:=by rw[tc,QV.2 h,bG]
def aTh{l:List Tk}{i:Nat}(h:l.length<=i):cp l (i+1)=cp l i:=by unfold cp;rw[List.take_of_length_le h,List.take_of_length_le au]
def aBf{l:List Tk}{i:Nat}{t:Tk}(h:l[i]? =some t):cp l (i+1)=cp l i++(bif t.kind==2 then[t.text] else[]):=by unfold cp;rw[List.take_add_one,h,asu];congr 1;simp[ZU]
def aTi{l:List Tk}{i:Nat}(h:dP l i≠2):cp l (i+1)=cp l i:=by
 unfold dP at h;cases ht:l[i]? with
 |none=>exact aTh (List.getElem?_eq_none_iff.1 ht)
 |some t=>rw[ht] at h;rw[aBf ht,QV.2 h,bG,List.append_nil]
section
variable {l:List Tk}
def OV(l:List Tk)(pre nt:dO)(i:Nat):Prop:=pre++nt=cp l i
def qA{pre nt:dO}{i:Nat}{k:Int}(h:OV l pre nt i)(hk:dP l i=k)(h2:k≠2):OV l pre nt (i+1):=by unfold OV at h|-;rw[aTi (by rw[hk];exact h2),h]
def HY{pre nt:dO}{i:Nat}{k:Int}(h:OV l pre nt i)(hk:(dP l i==k)=true)(h2:k≠2):OV l pre nt (i+1):=qA h (beq_iff_eq.1 hk) h2
def auu{pre:dO}:∀(r:List Tk) (i:Nat) (nt:dO),l.drop i=r->OV l pre nt i->OV l pre (nlR r i nt).2 (nlR r i nt).1
 |[],i,nt,_,h=>by rw[nlR];exact h
 |t::r,i,nt,hd,h=>by
  have hlt:i<l.length:=by have:=congrArg List.length hd;rw[List.length_drop,Pq] at this;omega
  have ht:l[i]? =some t:=by
   have:(l.drop i)[0]? =some t:=by rw[hd];rfl
   simpa using this
  have hd':l.drop (i+1)=r:=by rw[<-List.drop_drop,hd];rfl
  have hc:=aBf ht;rw[nlR];cases h1:t.kind==1 with
  |true=>
   rw[aH];have h2:(t.kind==2)=false:=by rw[beq_iff_eq] at h1;rw[h1];rfl
   rw[h2,bG,List.append_nil] at hc;exact auu r (i+1) nt hd' (by unfold OV at h|-;rw[hc,h])
  |false=>
   rw[bG];cases h2:t.kind==2 with
   |true=>rw[h2,aH] at hc;exact auu r (i+1) _ hd' (by unfold OV at h|-;rw[hc,<-h,QW])
   |false=>exact h
def ao5{pre:dO}:∀(r:List Tk) (i:Nat) (nt:dO),l.drop i=r->OV l pre nt i->OV l pre (Ux r i nt).2 (Ux r i nt).1
 |[],i,nt,_,h=>by rw[Ux];exact h
 |t::r,i,nt,hd,h=>by
  have hlt:i<l.length:=by have:=congrArg List.length hd;rw[List.length_drop,Pq] at this;omega
  have ht:l[i]? =some t:=by
   have:(l.drop i)[0]? =some t:=by rw[hd];rfl
   simpa using this
  have hd':l.drop (i+1)=r:=by rw[<-List.drop_drop,hd];rfl
  have hc:=aBf ht;rw[Ux];cases h1:(t.kind==1||t.kind==37) with
  |true=>
   rw[aH];have h2:(t.kind==2)=false:=by rw[Bool.or_eq_true,beq_iff_eq,beq_iff_eq] at h1;rw[QV];omega
   rw[h2,bG,List.append_nil] at hc;exact ao5 r (i+1) nt hd' (by unfold OV at h|-;rw[hc,h])
  |false=>
   rw[bG];cases h2:t.kind==2 with
   |true=>rw[h2,aH] at hc;exact ao5 r (i+1) _ hd' (by unfold OV at h|-;rw[hc,<-h,QW])
   |false=>exact h
def ah0{pre nt:dO}{i:Nat}(h:OV l pre nt i):OV l pre (nl l i nt).2 (nl l i nt).1:=auu _ _ _ rfl h
def ao6{pre nt:dO}{i:Nat}(h:OV l pre nt i):OV l pre (sep l i nt).2 (sep l i nt).1:=ao5 _ _ _ rfl h
def ka{α:Type}(l:List Tk)(pre:dO)(S:α->Prop):PR α->Prop:=λp=>p.sat λx j m=>S x/\OV l pre m j
def kb{α:Type}(l:List Tk)(pre:dO)(T:α->dO):PR α->Prop:=λp=>p.sat λx j m=>OV l (pre++T x) m j
variable {pre:dO} {α β:Type} {S:α->Prop} {S':β->Prop} {T:α->dO} {T':β->dO}
def iR{p:PR α}{f:α->Nat->dO->PR β}(h:ka l pre S p)(hf:∀x j m,S x->OV l pre m j->ka l pre S' (f x j m)):ka l pre S' (p.bind f):=by
 cases p with
 |ok x j m=>exact hf x j m h.1 h.2
 |bad j=>trivial
 |out=>trivial
def xR{p:PR α}{f:α->Nat->dO->PR β}(h:ka l pre S p)(hf:∀x j m,S x->OV l pre m j->kb l pre T' (f x j m)):kb l pre T' (p.bind f):=by
 cases p with
 |ok x j m=>exact hf x j m h.1 h.2
 |bad j=>trivial
 |out=>trivial
def OC{pre':dO}{p:PR α}{f:α->Nat->dO->PR β}(h:kb l pre' T p)(hf:∀x j m,OV l (pre'++T x) m j->kb l pre T' (f x j m)):kb l pre T' (p.bind f):=by
 cases p with
 |ok x j m=>exact hf x j m h
 |bad j=>trivial
 |out=>trivial
def oh{c:Bool}{p q:PR α}(h1:c=true->ka l pre S p)(h2:c=false->ka l pre S q):ka l pre S (bif c then p else q):=by cases c with|true=>exact h1 rfl|false=>exact h2 rfl
def I4{c:Bool}{p q:PR α}(h1:c=true->kb l pre T p)(h2:c=false->kb l pre T q):kb l pre T (bif c then p else q):=by cases c with|true=>exact h1 rfl|false=>exact h2 rfl
def qZ{x:α}{j:Nat}{nt:dO}(hx:S x)(hn:OV l pre nt j):ka l pre S (.ok x j nt):=⟨hx,hn⟩
def Wu{x:α}{j:Nat}{nt:dO}(hn:OV l (pre++T x) nt j):kb l pre T (.ok x j nt):=hn
def Dq{k:Int}{i:Nat}{nt:dO}(h:OV l pre nt i)(h2:k≠2):ka l pre (λ_:Unit=>True) (o7 l k i nt):=by
 unfold o7;cases hk:dP l i==k with
 |true=>rw[beq_iff_eq] at hk;exact⟨trivial,qA h hk h2⟩
 |false=>trivial
def af9{i:Nat}{nt:dO}(h:OV l pre nt i):ka l pre (λ_:aC=>True) (nameP l i nt):=by
 unfold nameP;cases hk:dP l i==6 with
 |true=>rw[beq_iff_eq] at hk;exact⟨trivial,qA h hk (by decide)⟩
 |false=>trivial
end
def Xz(x:Xp):Prop:=tc x.1=[]/\x.1.kind≠34
def L0(L:List Tn):Prop:=tcs L=[]
def axC{k op:Int}{y:aC}{x:Xp}{s:aC}{b:Bool}(hk:k≠34)(h:Xz x):Xz (.mk k op s y [x.1],b):=⟨by rw[Lm hk,xI];exact h.1,hk⟩
def aBg{k op:Int}{s y:aC}{x z:Xp}{b:Bool}(hk:k≠34)(h:Xz x)(h2:Xz z):Xz (.mk k op s y [x.1,z.1],b):=⟨by rw[Lm hk,tcs,xI,h.1,h2.1];rfl,hk⟩
def a03{k op:Int}{s y:aC}{x z w:Xp}{b:Bool}(hk:k≠34)(h:Xz x)(h2:Xz z)(h3:Xz w):Xz (.mk k op s y [x.1,z.1,w.1],b):=⟨by rw[Lm hk,tcs,tcs,xI,h.1,h2.1,h3.1];rfl,hk⟩
def asv{k op:Int}{s y:aC}{L:List Tn}{b:Bool}(hk:k≠34)(h:L0 L):Xz (.mk k op s y L,b):=⟨by rw[Lm hk];exact h,hk⟩
def ao7{L:List Tn}{x:Xp}(h:L0 L)(hx:Xz x):L0 (L++[x.1]):=by unfold L0 at h|-;rw[Ub,h,xI,hx.1];rfl
structure Ck(l:List Tk)(n:Nat):Prop where
 ex:∀pre lv a b i nt,OV l pre nt i->ka l pre Xz (ex l n lv a b i nt)
 ch:∀pre lv a b x i nt,1<=lv->Xz x->OV l pre nt i->ka l pre Xz (chP l n lv a b x i nt)
 inp:∀pre a x i nt,Xz x->OV l pre nt i->ka l pre Xz (inP l n a x i nt)
 pre:∀pre i nt,isStep (dP l i)=true->OV l pre nt i->ka l pre Xz (UM l n i nt)
 lst:∀pre e i nt,e≠2->OV l pre nt i->ka l pre L0 (QT l n e i nt)
 it:∀pre a b L i nt,L0 L->OV l pre nt i->ka l pre L0 (Ua l n a b L i nt)
def aFK{k:Int}(h:isStep k=true):k=51\/k=52:=by unfold isStep at h;rw[Bool.or_eq_true,beq_iff_eq,beq_iff_eq] at h;exact h
def a04{k:Int}(h:Xh k=true):k≠2:=by unfold Xh at h;rw[Bool.or_eq_true,zq,beq_iff_eq,decide_eq_true_eq,decide_eq_true_eq] at h;omega
def aTj{k:Int}{m:Int}(h:ug k=m)(h0:m≠0):k≠2:=λe=>by rw[e] at h;exact h0 h.symm
section
variable {l:List Tk} {n:Nat} (h:Ck l n)
include h
theorem aTk(pre:dO)(lv:Nat)(a b:Bool)(i:Nat)(nt:dO)(hn:OV l pre nt i):ka l pre Xz (ex l (n+1) lv a b i nt):=by
 unfold ex;split
 ·refine iR (h.ex _ _ _ _ _ _ hn) λx i nt hx hn=>oh (λhc=> ?_) λ_=>qZ hx hn
  rw[zq] at hc;exact iR (h.ex _ _ _ _ _ _ (qA hn rfl (a04 hc.2))) λy j m hy hm=>qZ (S:=Xz) (aBg (by decide) hx hy) hm
 ·refine iR (h.ex _ _ _ _ _ _ hn) λx i nt hx hn=>oh (λhc=> ?_) λ_=>qZ hx hn
  rw[beq_iff_eq] at hc;refine iR (h.ex _ _ _ _ _ _ (qA hn hc (by decide))) λy i nt hy hn=> ?_
  refine iR (Dq hn (by decide)) λ_ i nt _ hn=> ?_
  exact iR (h.ex _ _ _ _ _ _ hn) λz i nt hz hn=>qZ (S:=Xz) (a03 (by decide) hx hy hz) hn
 ·exact iR (h.ex _ _ _ _ _ _ hn) λx i nt hx hn=>h.ch _ _ _ _ _ _ _ au hx hn
 ·exact iR (h.ex _ _ _ _ _ _ hn) λx i nt hx hn=>h.ch _ _ _ _ _ _ _ au hx hn
 ·refine oh (λhc=> ?_) λ_=>iR (h.ex _ _ _ _ _ _ hn) λx i nt hx hn=>h.inp _ _ _ _ _ hx hn
  rw[zq,zq,beq_iff_eq] at hc;refine iR (h.lst _ 33 (i+1) nt (by decide) (qA hn hc.1.1 (by decide))) λL i nt hL hn=> ?_
  refine iR (Dq hn (by decide)) λ_ i nt _ hn=> ?_
  exact iR (af9 hn) λs i nt _ hn=>h.inp _ _ _ _ _ (asv (by decide) hL) hn
 ·refine iR (h.ex _ _ _ _ _ _ hn) λx i nt hx hn=>oh (λhc=> ?_) λ_=>qZ hx hn
  rw[Bool.or_eq_true,beq_iff_eq,beq_iff_eq] at hc;exact iR (h.ex _ _ _ _ _ _ (qA hn rfl au)) λy j m hy hm=>qZ (S:=Xz) (aBg (by decide) hx hy) hm
 ·refine iR (h.ex _ _ _ _ _ _ hn) λx i nt hx hn=>oh (λhc=> ?_) λ_=>qZ hx hn
  unfold QS at hc;rw[show Nat.beq 7 8=false from rfl,bG,zq,beq_iff_eq] at hc;exact iR (h.ex _ _ _ _ _ _ (qA hn rfl (aTj hc.1 (by decide)))) λy j m hy hm=>qZ (S:=Xz) (aBg (by decide) hx hy) hm
 ·exact iR (h.ex _ _ _ _ _ _ hn) λx i nt hx hn=>h.ch _ _ _ _ _ _ _ au hx hn
 ·exact iR (h.ex _ _ _ _ _ _ hn) λx i nt hx hn=>h.ch _ _ _ _ _ _ _ au hx hn
 ·exact iR (h.ex _ _ _ _ _ _ hn) λx i nt hx hn=>h.ch _ _ _ _ _ _ _ au hx hn
 ·refine oh (λhc=> ?_) λ_=>h.ex _ _ _ _ _ _ hn
  rw[Bool.or_eq_true,Bool.or_eq_true,beq_iff_eq,beq_iff_eq,beq_iff_eq] at hc;exact iR (h.ex _ _ _ _ _ _ (qA hn rfl au)) λy j m hy hm=>qZ (S:=Xz) (axC (by decide) hy) hm
 ·refine iR (h.ex _ _ _ _ _ _ hn) λx i nt hx hn=>oh (λhc=> ?_) λ_=>qZ hx hn
  rw[beq_iff_eq] at hc;exact iR (h.ex _ _ _ _ _ _ (qA hn hc (by decide))) λy j m hy hm=>qZ (S:=Xz) (aBg (by decide) hx hy) hm
 ·refine oh (λhc=>h.pre _ _ _ hc hn) λ_=> ?_
  refine iR (h.ex _ _ _ _ _ _ hn) λx i nt hx hn=>oh (λhc=> ?_) λ_=>qZ hx hn
  rw[zq] at hc;have:=aFK hc.2;exact qZ (S:=Xz) (axC (by decide) hx) (qA hn rfl au)
 ·refine oh (λhc=> ?_) λ_=>h.ex _ _ _ _ _ _ hn
  rw[beq_iff_eq] at hc;have hn1:=qA hn hc (by decide);refine iR (S:=Xz) (oh (λhs=>h.pre _ _ _ hs hn1) λ_=>h.ex _ _ _ _ _ _ hn1) λx i nt hx hn=> ?_
  exact qZ (S:=Xz) (axC (by decide) hx) hn
 ·refine oh (λhc=>qZ (S:=Xz) (asv (by decide) rfl) (HY hn hc (by decide))) λ_=> ?_
  refine oh (λhc=>qZ (S:=Xz) (asv (by decide) rfl) (HY hn hc (by decide))) λ_=> ?_
  refine oh (λhc=>qZ (S:=Xz) (asv (by decide) rfl) (HY hn hc (by decide))) λ_=> ?_
  refine oh (λhc=> ?_) λ_=> ?_
  ·rw[beq_iff_eq] at hc;have hn1:=qA hn hc (by decide);refine oh (λh34=> ?_) λ_=>qZ (S:=Xz) (asv (by decide) rfl) hn1
   rw[beq_iff_eq] at h34;refine iR (h.it _ _ _ _ _ _ rfl (qA hn1 h34 (by decide))) λL j nt hL hn=> ?_
   exact iR (Dq hn (by decide)) λ_ j nt _ hn=>qZ (S:=Xz) (asv (by decide) hL) hn
  refine oh (λhc=> ?_) λ_=> ?_
  ·rw[Bool.or_eq_true,beq_iff_eq,beq_iff_eq] at hc;have hn1:=qA hn rfl au;have h34:dP l i≠34:=au;refine oh (λhb=>qZ (S:=Xz) (asv (by decide) rfl) hn1) λ_=> ?_
   refine iR (Dq hn1 (by decide)) λ_ j nt _ hn=> ?_
   exact iR (h.lst _ _ _ _ (by decide) hn) λL j nt hL hn=>qZ (S:=Xz) (asv h34 hL) hn
  refine oh (λhc=> ?_) λ_=>trivial
  rw[beq_iff_eq] at hc;refine iR (h.ex _ _ _ _ _ _ (qA hn hc (by decide))) λx i nt hx hn=> ?_
  exact iR (Dq hn (by decide)) λ_ i nt _ hn=>qZ (S:=Xz) hx hn
theorem aI1(pre:dO)(a:Bool)(x:Xp)(i:Nat)(nt:dO)(hx:Xz x)(hn:OV l pre nt i):ka l pre Xz (inP l (n+1) a x i nt):=by
 unfold inP;refine oh (λhc=> ?_) λ_=>qZ hx hn
 rw[zq,beq_iff_eq] at hc;exact iR (af9 (qA hn hc.1 (by decide))) λs i nt _ hn=>h.inp _ _ _ _ _ (axC (by decide) hx) hn
theorem aI2(pre:dO)(i:Nat)(nt:dO)(hs:isStep (dP l i)=true)(hn:OV l pre nt i):ka l pre Xz (UM l (n+1) i nt):=by
 unfold UM;have:=aFK hs;refine oh (λ_=> ?_) λ_=>trivial
 exact iR (h.ex _ _ _ _ _ _ (qA hn rfl au)) λx j m hx hm=>qZ (S:=Xz) (axC (by decide) hx) hm
theorem aI3(pre:dO)(e:Int)(i:Nat)(nt:dO)(he:e≠2)(hn:OV l pre nt i):ka l pre L0 (QT l (n+1) e i nt):=by
 unfold QT;refine oh (λhc=>qZ rfl (HY hn hc he)) λ_=> ?_
 refine iR (h.it _ _ _ _ _ _ rfl hn) λL j nt hL hn=> ?_
 exact iR (Dq hn he) λ_ j nt _ hn=>qZ hL hn
theorem aTl(pre:dO)(a b:Bool)(L:List Tn)(i:Nat)(nt:dO)(hL:L0 L)(hn:OV l pre nt i):ka l pre L0 (Ua l (n+1) a b L i nt):=by
 rw[Ua];refine iR (h.ex _ _ _ _ _ _ hn) λx i nt hx hn=> ?_
 refine oh (λhc=>oh (λ_=>trivial) λh6=> ?_) λ_=>qZ (ao7 hL hx) hn
 rw[beq_iff_eq] at hc;exact h.it _ _ _ _ _ _ (ao7 hL hx) (ah0 (qA hn hc (by decide)))
theorem aTm(pre:dO)(lv:Nat)(a b:Bool)(x:Xp)(i:Nat)(nt:dO)(h1:1<=lv)(hx:Xz x)(hn:OV l pre nt i):ka l pre Xz (chP l (n+1) lv a b x i nt):=by
 rw[chP];refine oh (λhc=> ?_) λ_=>qZ hx hn
 have hq:OV l pre (bif Nat.beq lv 8 then(i,nt) else bif Nat.ble lv 4 then nl l (i+1) nt else(i+1,nt)).2 (bif Nat.beq lv 8 then(i,nt) else bif Nat.ble lv 4 then nl l (i+1) nt else(i+1,nt)).1:=by
  cases h8:Nat.beq lv 8 with
  |true=>exact hn
  |false=>
   rw[bG];have h2:dP l i≠2:=by unfold QS at hc;rw[h8,bG,zq,beq_iff_eq] at hc;exact aTj hc.1 au
   cases Nat.ble lv 4
   ·exact qA hn rfl h2
   ·exact ah0 (qA hn rfl h2)
 refine iR (h.ex _ _ _ _ _ _ hq) λy j m hy hm=> ?_
 exact h.ch _ _ _ _ _ _ _ h1 (aBg (by decide) hx hy) hm
end
def cks(l:List Tk):∀n,Ck l n
 |0=>⟨λ_ _ _ _ _ _ _=>by rw[ex];trivial,λ_ _ _ _ _ _ _ _ _ _=>by rw[chP];trivial,λ_ _ _ _ _ _ _=>by rw[inP];trivial,λ_ _ _ _ _=>by rw[UM];trivial,λ_ _ _ _ _ _=>by rw[QT];trivial,λ_ _ _ _ _ _ _ _=>by rw[Ua];trivial⟩
 |n+1=>⟨aTk (cks l n),aTm (cks l n),aI1 (cks l n),aI2 (cks l n),aI3 (cks l n),aTl (cks l n)⟩
end Go.Proofs.YtgealgmioiepeaaGreatDoor
namespace Go.Proofs.YtgealgmioiepeaaGreatDoor
open Go Go.Vm
def axD{l:List Nd}{o:Bool}(hl:l.length<=1048576)(t:Tn):∀(f b:Nat),Lies l b t->t.size<=f->
  M.kM f (dJ o l) ((b+sizes t.kids:Nat):Int)=some (t.kind,t.op,t.text,t.other,cZ true t.kids):=by
 refine Tn.ind (P:=λt=>∀(f b:Nat),Lies l b t->t.size<=f->M.kM f (dJ o l) ((b+sizes t.kids:Nat):Int)=some (t.kind,t.op,t.text,t.other,cZ true t.kids)) ?_ t;intro k op x y ks ih f b h hf;cases f with
 |zero=>rw[Tn.size] at hf;omega
 |succ f=>
  have hroot:l[b+sizes ks]? =some ⟨k,op,x,y,ends ks b⟩:=h.root;have hlt:=h.lt;rw[Tn.size] at hf hlt;have hkl:=zV ks;simp only[Fj,M.kM,M.Jt,bZ,qo,Tn.kids,Tn.kind,Tn.op,Tn.text,Tn.other,hroot,MS,ah,cN0,cN1,cN2,cN3,cN4,dZ,iP];have hrec:∀j t,ks[j]? =some t->M.kM f (dJ o l) ((b+sizes (ks.take j)+sizes t.kids:Nat):Int)=some (t.kind,t.op,t.text,t.other,cZ true t.kids):=λj t hj=>ih t (Ro hj) f _ (Lies.XD h hj) (by have:=Lh hj;omega)
  have hloop:=uM (b:=M.nZ (M.kM f))
   (t:=if ks=[] then .inl (dJ o l,encI (ends ks b),(ks.length:Int),0,0,0,[],[],k,op,x,y) else .inr (dJ o l,encI (ends ks b),(ks.length:Int),(ks.length:Int),0,0,[],[],k,op,x,y,cZ true ks))
   (λj=>if j=0 then .inl (dJ o l,encI (ends ks b),(ks.length:Int),0,0,0,[],[],k,op,x,y) else .inr (dJ o l,encI (ends ks b),(ks.length:Int),(j:Int),0,0,[],[],k,op,x,y,cZ true (ks.take j))) ks.length
   (by
    intro j hj;obtain⟨t,ht⟩:∃t,ks[j]? =some t:=⟨ks[j],by simp⟩
    have hr:=hrec j t ht;have he:=Y7 (b:=b) ht;rw[if_neg (show¬j+1=0 by omega),atG ht,aoo]
    by_cases h0:j=0
    ·subst h0;rw[if_pos rfl];have hi:idx (encI (ends ks b)) 0=some [D.int .i64 ((b+sizes (ks.take 0)+sizes t.kids:Nat):Int)]:=by have:=bZ (encI (ends ks b)) 0;rw[Wy] at this;rw[this,yO,he];rfl
     simp only[Fj,M.nZ,M.nY,hi,ah,cI0,hr];rw[zdt au,aH];rfl
    ·rw[if_neg h0];simp only[Fj,M.nZ,M.nY,bZ,yO,he,MS,ah,cI0,hr,dG,zlt,OW];rw[zdt au,aH,bI au,aH,bI au,aH,aJ au au];rfl)
   (by
    by_cases h0:ks.length=0
    ·have he:ks=[]:=List.length_eq_zero_iff.1 h0;rw[if_pos h0,if_pos he];simp only[Fj,M.nZ,M.nY];rw[xE au,bG]
    ·have he:¬ks=[]:=λe=>h0 (by rw[e];rfl)
     rw[if_neg h0,if_neg he,List.take_length];simp only[Fj,M.nZ,M.nY];rw[xE au,bG]) 0 (Nat.zero_le _)
  rw[if_pos rfl] at hloop;rw[M.KY,hloop,ah]
  by_cases he:ks=[]
  ·rw[if_pos he,he];rfl
  ·rw[if_neg he];rfl
def asw{l:List Nd}{o:Bool}(hl:l.length<=1048576){t:Tn}{b:Nat}(h:Lies l b t):M.uO (dJ o l) ((b+sizes t.kids:Nat):Int)=some (t.kind,t.op,t.text,t.other,cZ true t.kids):=
 M.abw (axD hl t t.size b h (zaX _))
def axE{t:Tn}{o:Bool}(hl:t.size<=1048576):M.yT (dJ o (t.flat 0))=some (t.kind,t.op,t.text,t.other,cZ true t.kids):=by have hs:=t.X7;simp only[M.yT,M.NM,iV,t.flat_length];have h:=asw (o:=o) (by rw[t.flat_length];omega) (Lies.whole t);rw[Nat.zero_add] at h;rw[aJ au au,show(t.size:Int) - 1=((sizes t.kids:Nat):Int) by omega,h,ah]
def auv(w:Bool)(u:Tn):jq .i64 (u.row w) 0=some u.kind/\jq .i64 (u.row w) 1=some u.op/\cStr (u.row w) 2=some u.text/\cStr (u.row w) 3=some u.other/\cSl 5 (u.row w) 4=some (cZ w u.kids):=by cases u;exact⟨rfl,rfl,rfl,rfl,rfl⟩
def auw(w:Bool){ks:List Tn}{j:Nat}{u:Tn}(hj:ks[j]? =some u):idx (cZ w ks) (j:Int)=some (u.row w):=by rw[bZ,RJ];simp[hj]
mutual
def noc:Tn->Tn
 | .mk k op x y ks=> .mk k op x y (JC ks)
def JC:List Tn->List Tn
 |[]=>[]
 |t::ts=>(bif t.kind==34 then[] else[noc t])++JC ts
end
def asx:∀a b:List Tn,JC (a++b)=JC a++JC b
 |[],b=>rfl
 |t::a,b=>by rw[zca,JC,JC,asx a b,QW]
def aBh(t:Tn):JC [t]=bif t.kind==34 then[] else[noc t]:=by rw[JC,JC,List.append_nil]
def asy:∀ks:List Tn,(JC ks).length<=ks.length
 |[]=>zaX _
 |t::ts=>by have:=asy ts;rw[JC,Gt,Pq];cases t.kind==34<;>simp only[aH,bG,Pq,UR]<;>omega
def ak9(t:Tn):(noc t).kind=t.kind/\(noc t).op=t.op/\(noc t).text=t.text/\(noc t).other=t.other/\(noc t).kids=JC t.kids:=by cases t;exact⟨rfl,rfl,rfl,rfl,rfl⟩
mutual
def aga:∀t:Tn,(noc t).size<=t.size
 | .mk k op x y ks=>by have:=anz ks;rw[noc,Tn.size,Tn.size];omega
def anz:∀ks:List Tn,sizes (JC ks)<=sizes ks
 |[]=>zaX _
 |t::ts=>by have h1:=aga t;have h2:=anz ts;rw[JC,nI,sizes];cases t.kind==34<;>simp only[aH,bG,sizes]<;>omega
end
def aEk(t:Tn):(noc t).row false=[.int .i64 t.kind,.int .i64 t.op,.str t.text,.str t.other,.sl false 5 (cZ false (JC t.kids))]:=by cases t;rfl
def axF(w:Bool)(a b:List Tn):cZ w (a++b)=cZ w a++cZ w b:=by simp[RJ]
def aEl(t:Tn):∀(f:Nat),t.size<=f->t.size<=1048576->M.jP f t.kind t.op t.text t.other (cZ false t.kids)=some (t.kind,t.op,t.text,t.other,cZ false (JC t.kids)):=by
 refine Tn.ind (P:=λt=>∀(f:Nat),t.size<=f->t.size<=1048576->M.jP f t.kind t.op t.text t.other (cZ false t.kids)=some (t.kind,t.op,t.text,t.other,cZ false (JC t.kids))) ?_ t;intro k op x y ks ih f hf hz;cases f with
 |zero=>rw[Tn.size] at hf;omega
 |succ f=>
  rw[Tn.size] at hf hz;have hkl:=zV ks;simp only[Tn.kids,Tn.kind,Tn.op,Tn.text,Tn.other,M.jP,M.E5];have hloop:M.IV (M.jP f) (cZ false ks) (((cZ false ks).length:Nat):Int) k op x y (cZ false ks) 0 0 [] [] (0,[])=some ((ks.length:Int),cZ false (JC ks)):=by
   rw[dG];exact uM (b:=M.EZ (M.jP f) (cZ false ks) (ks.length:Int) k op x y (cZ false ks) 0 0 [] []) (t:=((ks.length:Int),cZ false (JC ks))) (λj=>((j:Int),cZ false (JC (ks.take j)))) ks.length
    (by
     intro j hj;obtain⟨u,hu⟩:∃u,ks[j]? =some u:=⟨ks[j],by simp[hj]⟩
     have hus:=BL (Ro hu);obtain⟨c0,c1,c2,c3,c4⟩:=auv false u;have hix:=auw false hu;have hr:=ih u (Ro hu) f au au;have hw:i64.wrap ((j:Int)+1)=((j+1:Nat):Int):=by rw[aJ au au];omega
     have hln:=asy (ks.take j);rw[zlt] at hln;simp only[Fj,M.EZ,M.zo,hix,c0,c1,c2,c3,c4,ah,hw,bne];rw[zdt au,aH,pz hu,asx,aBh];cases h34:u.kind==34 with
     |true=>simp only[zaW,bG,aH,List.append_nil]
     |false=>simp only[Bool.not_false,aH,bG,hr,ah,iQ,dG,Pq,UR];rw[bI au,aH,bI au,aH,axF,<-aEk];rfl)
    (by simp only[Fj,M.EZ,M.zo];rw[xE au,bG,List.take_length]) 0 (Nat.zero_le _)
  simp only[hloop,ah,M.Dc,M.ML,iQ]
def cmN:List Nd->dO
 |[]=>[]
 |n::l=>(bif n.kind==34 then[n.text] else[])++cmN l
def ao8:∀a b:List Nd,cmN (a++b)=cmN a++cmN b
 |[],b=>rfl
 |n::a,b=>by rw[zca,cmN,cmN,ao8 a b,QW]
def avX{k op:Int}{x y:aC}{ks:List Tn}(h:UD (.mk k op x y ks))(hk:k=34):ks=[]:=
 List.length_eq_zero_iff.1 ((atJ h).non au)
def aFL{k op:Int}{x y:aC}{ks:List Tn}(h:UD (.mk k op x y ks)):∀u,u∈ks->UD u:=λu hu=>by obtain⟨j,hj⟩:=List.mem_iff_getElem?.1 hu;exact(aop h hj).2
mutual
def ao9:∀(t:Tn) (b:Nat),UD t->cmN (t.flat b)=tc t
 | .mk k op x y ks,b,h=>by
  rw[Tn.flat,ao8,asz ks b (aFL h),cmN,cmN,List.append_nil,tc];cases hk:k==34 with
  |true=>rw[avX h (beq_iff_eq.1 hk)];rfl
  |false=>exact List.append_nil _
def asz:∀(ks:List Tn) (b:Nat),(∀u,u∈ks->UD u)->cmN (lX ks b)=tcs ks
 |[],b,_=>rfl
 |t::ts,b,h=>by rw[lX,ao8,ao9 t b (h t zmf),asz ts _ λu hu=>h u (zmm _ hu),tcs]
end
mutual
def anA:∀t:Tn,UD t->t.kind≠34->(noc t).size+(tc t).length=t.size
 | .mk k op x y ks,h,hk=>by have:=ala ks (aFL h);rw[noc,Tn.size,Tn.size,Lm (show k≠34 from hk)];omega
def ala:∀ks:List Tn,(∀u,u∈ks->UD u)->sizes (JC ks)+(tcs ks).length=sizes ks
 |[],_=>rfl
 |t::ts,h=>by
  have h2:=ala ts λu hu=>h u (zmm _ hu)
  rw[JC,nI,sizes,tcs,Gt];cases hk:t.kind==34 with
  |true=>have ht:=h t zmf;obtain⟨k,op,x,y,ks⟩:=t;have e:=avX ht (beq_iff_eq.1 hk);rw[beq_iff_eq] at hk;have hk':k=34:=hk;subst hk';rw[e,tc,Tn.size];simp only[beq_self_eq_true,aH,sizes,Pq,UR];omega
  |false=>have h1:=anA t (h t zmf) (QV.1 hk);simp only[bG,sizes];omega
end
mutual
def aBi:∀t:Tn,t.kind≠34->tc (noc t)=[]
 | .mk k op x y ks,hk=>by rw[noc,Lm (show k≠34 from hk),avY ks]
def avY:∀ks:List Tn,tcs (JC ks)=[]
 |[]=>rfl
 |t::ts=>by
  rw[JC,Ub,avY ts,List.append_nil];cases hk:t.kind==34 with
  |true=>rfl
  |false=>rw[bG,xI,aBi t (QV.1 hk)]
end
def F5(l:dO):ak:=l.map λs=>[D.str s]
def alb(l:dO):aj (F5 l)=true:=by simp[aj,F5,D.flat]
def ah1:∀l:dO,I5 (F5 l)=true
 |[]=>rfl
 |s::l=>by have:=ah1 l;unfold F5 at this|-;simp[I5,fB,D.pure,this]
def auy(l:dO):[[D.sl true 1 (F5 l)]].all fB=true:=by simp[fB,D.pure,ah1]
def anB(a b:dO):F5 (a++b)=F5 a++F5 b:=by simp[F5]
def YD(a:dO):(F5 a).length=a.length:=by simp[F5]
def asA:∀l:List Tk,(ZU l).length<=l.length
 |[]=>zaX _
 |n::l=>by have:=asA l;rw[ZU,Gt,Pq];cases n.kind==2<;>simp only[aH,bG,Pq,UR]<;>omega
def abP(l:List Nd)(o:Bool)(hl:l.length<=1000000):M.qj (dJ o l)=some (F5 (cmN l)):=by
 have key:∀(m:List Nd) (i:Nat) (acc:dO),l.drop i=m->i+m.length=l.length->acc.length<=i->M.qQ (dJ o l) (l.length:Int) ((i:Int),F5 acc)=some ((l.length:Int),F5 (acc++cmN m)):=by
  intro m;induction m with
  |nil=>intro i acc hd hi ha;rw[UR] at hi;rw[M.qQ,cmN,List.append_nil];refine aV ?_;simp only[Fj,M.Ba,M.wZ];rw[xE au,bG,show i=l.length by omega]
  |cons n m ih=>
   intro i acc hd hi ha;rw[Pq] at hi;have hn:l[i]? =some n:=by have:=congrArg (λx=>x[0]?) hd;simpa using this
   have hd':l.drop (i+1)=m:=by have:=congrArg (λx=>x.drop 1) hd;simpa using this
   have hw:i64.wrap ((i:Int)+1)=((i+1:Nat):Int):=by rw[aJ au au];omega
   have hb:M.Ba (dJ o l) (l.length:Int) ((i:Int),F5 acc)=some (.inl (((i+1:Nat):Int),F5 (acc++bif n.kind==34 then[n.text] else[]))):=by
    simp only[Fj,M.Ba,M.wZ,bZ,qo,hn,MS,ah,cN0,cN1,cN2,cN3,cN4,hw,YD,Pq,UR];rw[zdt au,aH,Nat.ble_eq_true_of_le au,Nat.ble_eq_true_of_le au];cases n.kind==34 with
    |true=>rw[anB];rfl
    |false=>rw[bG,bG,List.append_nil]
   have hlen:(acc++bif n.kind==34 then[n.text] else[]).length<=i+1:=by rw[Gt];cases n.kind==34<;>simp only[aH,bG,Pq,UR]<;>omega
   have h2:=ih (i+1) (acc++bif n.kind==34 then[n.text] else[]) hd' au hlen;rw[M.qQ] at h2|-;rw[bQ hb,h2,cmN,QW]
 have h0:=key l 0 [] rfl au (zaX _);have h0':M.qQ (dJ o l) (l.length:Int) (0,[])=_:=h0;simp only[M.qj,M.Gq,iV,h0',ah,List.nil_append,alb,aH]
def aiw(l:List Tk)(hl:l.length<=1000000):M.oN (aF l)=some (F5 (ZU l)):=by
 have key:∀(m:List Tk) (i:Nat) (acc:dO),l.drop i=m->i+m.length=l.length->acc.length<=i->M.pW (aF l) (l.length:Int) ((i:Int),F5 acc)=some ((l.length:Int),F5 (acc++ZU m)):=by
  intro m;induction m with
  |nil=>intro i acc hd hi ha;rw[UR] at hi;rw[M.pW,ZU,List.append_nil];refine aV ?_;simp only[Fj,M.zI,M.uZ];rw[xE au,bG,show i=l.length by omega]
  |cons n m ih=>
   intro i acc hd hi ha;rw[Pq] at hi;have hn:l[i]? =some n:=by have:=congrArg (λx=>x[0]?) hd;simpa using this
   have hd':l.drop (i+1)=m:=by have:=congrArg (λx=>x.drop 1) hd;simpa using this
   have hw:i64.wrap ((i:Int)+1)=((i+1:Nat):Int):=by rw[aJ au au];omega
   have hb:M.zI (aF l) (l.length:Int) ((i:Int),F5 acc)=some (.inl (((i+1:Nat):Int),F5 (acc++bif n.kind==2 then[n.text] else[]))):=by
    simp only[Fj,M.zI,M.uZ,bZ,o8,hn,MS,ah,cT0,cT1,cT2,hw,YD,Pq,UR];rw[zdt au,aH,Nat.ble_eq_true_of_le au,Nat.ble_eq_true_of_le au];cases n.kind==2 with
    |true=>rw[anB];rfl
    |false=>rw[bG,bG,List.append_nil]
   have hlen:(acc++bif n.kind==2 then[n.text] else[]).length<=i+1:=by rw[Gt];cases n.kind==2<;>simp only[aH,bG,Pq,UR]<;>omega
   have h2:=ih (i+1) (acc++bif n.kind==2 then[n.text] else[]) hd' au hlen;rw[M.pW] at h2|-;rw[bQ hb,h2,ZU,QW]
 have h0:=key l 0 [] rfl au (zaX _);have h0':M.pW (aF l) (l.length:Int) (0,[])=_:=h0;simp only[M.oN,M.E8,jI,h0',ah,List.nil_append,alb,aH]
def asB(l:dO)(hl:l.length<=1000000):M.zn (F5 l) (F5 l)=some true:=by
 simp only[M.zn,M.MN,bne_self_eq_false,bG];have hloop:=uM (b:=M.Gs (F5 l) (F5 l)) (t:=.inr ((l.length:Int))) (λi=>(i:Int)) l.length
  (by
   intro i hi;obtain⟨x,hx⟩:∃x,l[i]? =some x:=⟨l[i],by simp[hi]⟩
   have hr:(F5 l)[i]? =some [D.str x]:=by rw[F5,List.getElem?_map,hx];rfl
   have hc:cStr [D.str x] 0=some x:=rfl;simp only[M.Gs,M.Ap,YD,bZ,hr,ah,hc,beq_self_eq_true,zaW,bG];rw[zdt au,aH,aJ au au];simp)
  (by simp only[M.Gs,M.Ap,YD];rw[xE au,bG]) 0 (Nat.zero_le _)
 rw[Wy] at hloop;rw[M.J8,hloop,ah];rfl
def apa{T:Tn}(ht:Dk (T.flat 0)=true)(hT:T.size<=400)(hs:∀n,n∈T.flat 0->Small n):M.xC (dJ false (T.flat 0))=some (dJ true ((noc T).flat 0)):=by
 have hk:∀n,n∈T.flat 0->n.kids.length<=1048576:=λn hn=>by have:=(Pg T 0 n hn).1;omega
 have a2:=akx (T.flat 0) false (by rw[T.flat_length];omega) hk hs;have hns:=aga T;have h2:=axE (t:=T) (o:=false) au;have h3:=M.aeQ (aEl T T.size (zaX _) au);have h4:=avl (t:=noc T) (w:=false) au;obtain⟨e1,e2,e3,e4,e5⟩:=ak9 T;rw[e1,e2,e3,e4,e5] at h4;rw[ht] at a2;simp only[M.xC,M.J7,a2,ah,zaW,bG,h2,iQ,h3,h4]
end Go.Proofs.YtgealgmioiepeaaGreatDoor
namespace Go.Proofs.YtgealgmioiepeaaGreatDoor
open Go Go.Vm
section
variable {l:List Tk} {pre:dO}
def auz{α:Type}{T:α->dO}{x:α}{i:Nat}{nt:dO}(h:OV l (pre++T x) nt i):kb l pre T (endP l x i nt):=by
 unfold endP;cases Uy (dP l i) with
 |true=>exact h
 |false=>trivial
def tc0{t:Tn}{nt:dO}{i:Nat}(h:tc t=[])(hn:OV l pre nt i):OV l (pre++tc t) nt i:=by rw[h,List.append_nil];exact hn
def T0(t:Tn):Prop:=tc t=[]
def apb(n i:Nat){nt:dO}(hn:OV l pre nt i):ka l pre T0 (Rk l n i nt):=by
 unfold Rk;refine iR (Dq hn (by decide)) λ_ i nt _ hn=> ?_
 refine iR ((cks l n).ex _ _ _ _ _ _ hn) λx i nt hx hn=> ?_
 exact iR (Dq hn (by decide)) λ_ i nt _ hn=>qZ hx.1 hn
def alc(n:Nat)(e:Int)(a:Bool)(i:Nat){nt:dO}(hn:OV l pre nt i):ka l pre T0 (Jy l n e a i nt):=by unfold Jy;exact oh (λ_=>qZ rfl hn) λ_=>iR ((cks l n).ex _ _ _ _ _ _ hn) λx i nt hx hn=>qZ hx.1 hn
def asC{k op:Int}{s y:aC}{L:List Tn}(hk:k≠34)(h:L0 L):T0 (.mk k op s y L):=by unfold T0;rw[Lm hk];exact h
def aTn{k op:Int}{s y:aC}{x:Xp}(hk:k≠34)(h:Xz x):T0 (.mk k op s y [x.1]):=(axC (b:=false) hk h).1
def aI4(n i:Nat){nt:dO}(hk:dP l i=25\/dP l i=26)(hn:OV l pre nt i):ka l pre T0 (aeU l n i nt):=by
 unfold aeU;have hn1:=qA hn rfl (by omega:dP l i≠2);refine iR (S:=L0) (oh (λ_=>(cks l n).it _ _ _ _ _ _ rfl hn1) λ_=>qZ rfl hn1) λL j nt hL hn=> ?_
 refine oh (λhs=> ?_) λ_=>qZ (asC (by decide) hL) hn
 have h2:dP l j≠2:=by unfold IY at hs;rw[Bool.or_eq_true,Bool.or_eq_true,beq_iff_eq,beq_iff_eq,beq_iff_eq] at hs;omega
 exact iR ((cks l n).ex _ _ _ _ _ _ (qA hn rfl h2)) λx k nt hx hn=>qZ (asC (by decide) (ao7 hL hx)) hn
def avZ(n:Nat)(k:Int)(i:Nat){nt:dO}(hk:k≠34)(h2:dP l i≠2)(hn:OV l pre nt i):ka l pre T0 (Xi l n k i nt):=by
 unfold Xi;have hn1:=qA hn rfl h2;refine oh (λ_=>qZ (asC hk rfl) hn1) λ_=> ?_
 exact iR ((cks l n).ex _ _ _ _ _ _ hn1) λx i nt hx hn=>qZ (aTn hk hx) hn
def aI5(n i:Nat){nt:dO}(h2:dP l i≠2)(hn:OV l pre nt i):ka l pre T0 (agX l n i nt):=by
 unfold agX;refine iR (af9 (qA hn rfl h2)) λs i nt _ hn=> ?_
 refine oh (λhc=> ?_) λ_=>qZ (asC (by decide) rfl) hn
 refine iR ((cks l n).it _ _ _ _ _ _ rfl (HY hn hc (by decide))) λL i nt hL hn=> ?_
 exact iR (Dq hn (by decide)) λ_ i nt _ hn=>qZ (asC (by decide) hL) hn
def aI6(n i:Nat){nt:dO}(hn:OV l pre nt i):ka l pre T0 (agY l n i nt):=by
 unfold agY;refine oh (λhc=>aI4 n i (by rwa [Bool.or_eq_true,beq_iff_eq,beq_iff_eq] at hc) hn) λ_=> ?_
 refine oh (λhc=>qZ (asC (by decide) rfl) (HY hn hc (by decide))) λ_=> ?_
 refine oh (λhc=>qZ (asC (by decide) rfl) (HY hn hc (by decide))) λ_=> ?_
 refine oh (λhc=>qZ (asC (by decide) rfl) (HY hn hc (by decide))) λ_=> ?_
 refine oh (λhc=>avZ n 23 i (by decide) (by rw[beq_iff_eq] at hc;omega) hn) λ_=> ?_
 refine oh (λhc=>avZ n 24 i (by decide) (by rw[beq_iff_eq] at hc;omega) hn) λ_=> ?_
 refine oh (λhc=>aI5 n i (by rw[beq_iff_eq] at hc;omega) hn) λ_=> ?_
 exact iR ((cks l n).ex _ _ _ _ _ _ hn) λx i nt hx hn=>qZ (aTn (by decide) hx) hn
end
structure CkS(l:List Tk)(n:Nat):Prop where
 st:∀pre i nt,OV l pre nt i->kb l pre tc (stP l n i nt)
 blk:∀pre i nt,OV l pre nt i->kb l pre tc (Jz l n i nt)
 aAL:∀pre L i nt,OV l (pre++tcs L) nt i->kb l pre tcs (UN l n L i nt)
 body:∀pre i nt,OV l pre nt i->kb l pre tc (Aq l n i nt)
def auA{l:List Tk}{pre q:dO}{L:List Tn}{i:Nat}(h:OV l (pre++tcs L) q i):OV l (pre++tcs (L++WA q)) [] i:=by unfold OV at h|-;rw[List.append_nil,Ub,aBe,<-h,QW]
section
variable {l:List Tk} {n:Nat} (h:CkS l n)
include h
theorem aI7(pre:dO)(i:Nat)(nt:dO)(hn:OV l pre nt i):kb l pre tc (stP l (n+1) i nt):=by
 unfold stP;refine I4 (λ_=>h.blk _ _ _ hn) λ_=> ?_
 refine I4 (λhc=> ?_) λ_=> ?_
 ·refine xR (apb n _ (HY hn hc (by decide))) λx i nt hx hn=> ?_
  refine OC (h.body _ _ _ hn) λy i nt hn=> ?_
  have e2:tc (.mk 28 0 [] [] [x,y])=tc y:=by rw[Lm (by decide),tcs,xI,show tc x=[] from hx];rfl
  refine I4 (λhc=> ?_) λ_=>Wu (by rw[e2];exact hn)
  refine OC (h.body (pre++tc y) _ _ (HY (ao6 hn) hc (by decide))) λz i nt hn=>Wu ?_
  have e3:tc (.mk 28 0 [] [] [x,y,z])=tc y++tc z:=by rw[Lm (by decide),tcs,tcs,xI,show tc x=[] from hx];rfl
  rw[e3,<-QW];exact hn
 refine I4 (λhc=> ?_) λ_=> ?_
 ·refine xR (apb n _ (HY hn hc (by decide))) λx i nt hx hn=> ?_
  refine OC (h.body _ _ _ hn) λy i nt hn=>Wu ?_
  have e2:tc (.mk 29 0 [] [] [x,y])=tc y:=by rw[Lm (by decide),tcs,xI,show tc x=[] from hx];rfl
  rw[e2];exact hn
 refine I4 (λhc=> ?_) λ_=> ?_
 ·refine OC (h.body _ _ _ (HY hn hc (by decide))) λx i nt hn=> ?_
  have h1:ka l (pre++tc x) (λ_:Unit=>True) (o7 l 15 (sep l i nt).1 (sep l i nt).2):=Dq (ao6 hn) (by decide);cases hp:o7 l 15 (sep l i nt).1 (sep l i nt).2 with
  |bad j=>exact trivial
  |out=>exact trivial
  |ok u j m=>
   rw[hp] at h1;have h2:=apb (pre:=pre++tc x) n j h1.2;show kb l pre tc ((Rk l n j m).bind λy i nt=>endP l (.mk 30 0 [] [] [x,y]) i nt);cases hq:Rk l n j m with
   |bad j=>exact trivial
   |out=>exact trivial
   |ok y e q=>
    rw[hq] at h2;have e2:tc (.mk 30 0 [] [] [x,y])=tc x:=by rw[Lm (by decide),tcs,xI,show tc y=[] from h2.1,List.append_nil]
    exact auz (by rw[e2];exact h2.2)
 refine I4 (λhc=> ?_) λ_=> ?_
 ·refine xR (Dq (HY hn hc (by decide)) (by decide)) λ_ i nt _ hn=> ?_
  refine I4 (λhc=> ?_) λ_=> ?_
  ·rw[zq,beq_iff_eq,beq_iff_eq] at hc;refine xR (af9 (qA (qA hn hc.1 (by decide)) hc.2 (by decide))) λs j nt _ hn=> ?_
   refine xR (Dq hn (by decide)) λ_ j nt _ hn=> ?_
   refine OC (h.body _ _ _ hn) λy j nt hn=>Wu ?_
   rw[Lm (by decide),xI];exact hn
  ·refine xR (alc n _ _ _ hn) λx i nt hx hn=> ?_
   refine xR (Dq hn (by decide)) λ_ i nt _ hn=> ?_
   refine xR (alc n _ _ _ (ah0 hn)) λy i nt hy hn=> ?_
   refine xR (Dq hn (by decide)) λ_ i nt _ hn=> ?_
   refine xR (alc n _ _ _ (ah0 hn)) λz i nt hz hn=> ?_
   refine xR (Dq hn (by decide)) λ_ i nt _ hn=> ?_
   refine OC (h.body _ _ _ hn) λw i nt hn=>Wu ?_
   have e2:tc (.mk 31 0 [] [] [x,y,z,w])=tc w:=by rw[Lm (by decide),tcs,tcs,tcs,xI,show tc x=[] from hx,show tc y=[] from hy,show tc z=[] from hz];rfl
   rw[e2];exact hn
 exact xR (aI6 n _ hn) λx i nt hx hn=>auz (tc0 hx hn)
theorem aEm(pre:dO)(i:Nat)(nt:dO)(hn:OV l pre nt i):kb l pre tc (Jz l (n+1) i nt):=by
 unfold Jz;refine xR (Dq hn (by decide)) λ_ i nt _ hn=> ?_
 refine OC (h.aAL pre [] _ _ (by rw[tcs,List.append_nil];exact hn)) λL i nt hn=>Wu ?_
 rw[Lm (by decide)];exact hn
theorem aBj(pre:dO)(L:List Tn)(i:Nat)(nt:dO)(hn:OV l (pre++tcs L) nt i):kb l pre tcs (UN l (n+1) L i nt):=by
 rw[UN];have hs:=auA (ao6 hn);refine I4 (λhc=>Wu (HY hs hc (by decide))) λ_=>I4 (λ_=>trivial) λ_=> ?_
 have h1:=h.st _ _ _ hs;cases hp:stP l n (sep l i nt).1 [] with
 |bad j=>exact trivial
 |out=>exact trivial
 |ok s j m=>rw[hp] at h1;refine h.aAL _ _ _ _ ?_;rw[Ub,xI,<-QW];exact h1
theorem aBk(pre:dO)(i:Nat)(nt:dO)(hn:OV l pre nt i):kb l pre tc (Aq l (n+1) i nt):=by
 unfold Aq;have hq:=ah0 hn;have hs:=auA (L:=[]) (by rw[tcs,List.append_nil];exact hq);rw[List.nil_append] at hs;refine I4 (λ_=>h.blk _ _ _ hq) λ_=>I4 (λhc=>Wu (by rw[Lm (by decide)];exact HY hs hc (by decide))) λ_=> ?_
 have h1:=h.st _ _ _ hs;cases hp:stP l n (nl l i nt).1 [] with
 |bad j=>exact trivial
 |out=>exact trivial
 |ok s j m=>rw[hp] at h1;refine Wu ?_;rw[Lm (by decide),Ub,xI,<-QW];exact h1
end
def apc(l:List Tk):∀n,CkS l n
 |0=>⟨λ_ _ _ _=>by rw[stP];trivial,λ_ _ _ _=>by rw[Jz];trivial,λ_ _ _ _ _=>by rw[UN];trivial,λ_ _ _ _=>by rw[Aq];trivial⟩
 |n+1=>⟨aI7 (apc l n),aEm (apc l n),aBj (apc l n),aBk (apc l n)⟩
section
variable {l:List Tk} {pre:dO}
def av1:∀(n:Nat) (L:List Tn) (i:Nat) (nt:dO),L0 L->OV l pre nt i->ka l pre L0 (Fb l n L i nt)
 |0,L,i,nt,_,_=>by rw[Fb];trivial
 |n+1,L,i,nt,hL,hn=>by
  rw[Fb];refine iR (af9 hn) λs i nt _ hn=> ?_
  have h2:L0 (L++[.mk 1 0 s [] []]):=by unfold L0 at hL|-;rw[Ub,hL,xI];rfl
  refine oh (λhc=>oh (λ_=>trivial) λ_=> ?_) λ_=>qZ h2 hn
  exact av1 n _ _ _ h2 (ah0 (HY hn hc (by decide)))
def aI8(n i:Nat){nt:dO}(hn:OV l pre nt i):kb l pre tc (agZ l n i nt):=by
 unfold agZ;refine I4 (λhk=> ?_) λ_=>trivial
 rw[Bool.or_eq_true,beq_iff_eq,beq_iff_eq] at hk;refine xR (Dq (qA hn rfl au) (by decide)) λ_ j nt _ hn=> ?_
 refine xR (S:=L0) (oh (λ_=>qZ rfl hn) λ_=>av1 n _ _ _ rfl hn) λL j nt hL hn=> ?_
 refine xR (Dq hn (by decide)) λ_ j nt _ hn=> ?_
 refine OC ((apc l n).blk _ _ _ (ah0 hn)) λb j nt hn=>Wu ?_
 rw[Lm (by decide),Ub,show tcs L=[] from hL,xI,List.nil_append];exact hn
def aEn(n i:Nat){nt:dO}(hn:OV l pre nt i):kb l pre tc (Rl l n i nt):=by
 unfold Rl;refine I4 (λhc=>OC ((apc l n).blk _ _ _ (HY hn hc (by decide))) λb i nt hn=>Wu (by rw[Lm (by decide),xI];exact hn)) λ_=> ?_
 refine I4 (λhc=>OC ((apc l n).blk _ _ _ (HY hn hc (by decide))) λb i nt hn=>Wu (by rw[Lm (by decide),xI];exact hn)) λ_=> ?_
 refine I4 (λhc=>aI8 n _ (HY hn hc (by decide))) λ_=> ?_
 refine I4 (λ_=>OC ((apc l n).blk _ _ _ hn) λb i nt hn=>Wu (by rw[Lm (by decide),xI];exact hn)) λ_=> ?_
 refine xR ((cks l n).ex _ _ _ _ _ _ hn) λx i nt hx hn=> ?_
 refine xR (S:=λq:Int×List Tn=>q.1≠34/\tcs q.2=[]) ?_ λq i nt hq hn=> ?_
 ·refine oh (λhc=> ?_) λ_=>qZ ⟨(by show(42:Int)≠34;decide),by rw[xI];exact hx.1⟩ hn
  exact iR ((cks l n).ex _ _ _ _ _ _ (ah0 (HY hn hc (by decide)))) λy i nt hy hn=>qZ ⟨(by show(43:Int)≠34;decide),by rw[tcs,xI,hx.1,hy.1];rfl⟩ hn
 ·refine I4 (λ_=>OC ((apc l n).blk _ _ _ hn) λb i nt hn=>Wu ?_) λ_=>auz ?_
  ·rw[Lm hq.1,Ub,hq.2,xI,List.nil_append];exact hn
  ·rw[Lm hq.1,hq.2,List.append_nil];exact hn
def av2:∀(n:Nat) (L:List Tn) (i:Nat) (nt:dO),OV l (pre++tcs L) nt i->kb l pre tcs (Ig l n L i nt)
 |0,L,i,nt,_=>by rw[Ig];trivial
 |n+1,L,i,nt,hn=>by
  rw[Ig];have hs:=auA (ao6 hn);refine I4 (λ_=>Wu hs) λ_=>I4 (λ_=>trivial) λ_=> ?_
  have h1:=aEn (pre:=pre++tcs (L++WA (sep l i nt).2)) n _ hs;cases hp:Rl l n (sep l i nt).1 [] with
  |bad j=>exact trivial
  |out=>exact trivial
  |ok s j m=>rw[hp] at h1;refine av2 n _ _ _ ?_;rw[Ub,xI,<-QW];exact h1
end
end Go.Proofs.YtgealgmioiepeaaGreatDoor
namespace Go.Proofs.YtgealgmioiepeaaGreatDoor
open Go Go.Vm
def agb:∀{ks:List Tn} {u:Tn},u∈JC ks->∃t,t∈ks/\t.kind≠34/\u=noc t
 |[],u,h=>by simp[JC] at h
 |t::ts,u,h=>by
  rw[JC,List.mem_append] at h;rcases h with h|h
  ·cases hk:t.kind==34 with
   |true=>rw[hk] at h;simp at h
   |false=>rw[hk] at h;simp only[bG,List.mem_singleton] at h;exact⟨t,by simp,QV.1 hk,h⟩
  ·obtain⟨v,h1,h2⟩:=agb h;exact⟨v,by simp[h1],h2⟩
def axG:∀t:Tn,(noc t).depth<=t.depth:=by
 intro t;induction t using Tn.ind with
 |h k op x y ks ih=>rw[noc,Tn.depth,Tn.depth,ab2,ab2];obtain⟨m1,m2⟩:=aFA (ks.map Tn.depth) 0;have:=(abC (mx 0 (ks.map Tn.depth)) ((JC ks).map Tn.depth) 0 m1 λz hz=>by obtain⟨u,hu,rfl⟩:=List.mem_map.1 hz;obtain⟨v,hv,_,rfl⟩:=agb hu;exact Int.le_trans (ih v hv) (m2 _ (List.mem_map.2 ⟨v,hv,rfl⟩))).2;omega
def asD:∀{ks:List Tn},(∀u,u∈ks->u.kind≠34)->JC ks=ks.map noc
 |[],_=>by rw[JC];rfl
 |t::ts,h=>by rw[JC,QV.2 (h t (by simp)),asD λu hu=>h u (by simp[hu])];rfl
def a05{k op:Int}{x y:aC}{ks:List Tn}(hok:UD (.mk k op x y ks))(h3:k≠33)(h4:k≠45):∀u,u∈ks->u.kind≠34:=by
 intro u hu he;obtain⟨j,hj⟩:=List.mem_iff_getElem?.1 hu;have hc:=(aop hok hj).1;rw[he] at hc;unfold cls at hc
 repeat' split at hc
 all_goals first|omega|(simp only[zJ] at hc;omega)
def aEo{k op:Int}{x y:aC}{ks:List Tn}(hok:UD (.mk k op x y ks)){u:Tn}(hu:u∈ks):UD u:=by obtain⟨j,hj⟩:=List.mem_iff_getElem?.1 hu;exact(aop hok hj).2
def aI9:∀t:Tn,UD t->H6 t->H6 (noc t):=by
 intro t;induction t using Tn.ind with
 |h k op x y ks ih=>
  intro hok hg;rw[H6] at hg;obtain⟨g1,g2,g3⟩:=hg;have hks:ag6 (JC ks):=Sv.2 λu hu=>by obtain⟨v,hv,_,rfl⟩:=agb hu;exact ih v hv (aEo hok hv) (Sv.1 g3 v hv)
  rw[noc,H6]
  by_cases hk:k=33\/k=45
  ·refine⟨by rw[aAE (b:=ends ks 0) hk];exact g1,λj u hj=> ?_,hks⟩;obtain⟨v,hv,_,rfl⟩:=agb (Ro hj);obtain⟨i,hi⟩:=List.mem_iff_getElem?.1 hv;rw[(ak9 v).1,aAF (b:=ends ks 0) (j:=(i:Int)) hk];exact g2 i v hi
  ·have e:=asD (a05 hok (λh=>hk (.inl h)) (λh=>hk (.inr h)));have hl:(ends (JC ks) 0).length=(ends ks 0).length:=by rw[iP,iP,e,zaY]
   refine⟨by rw[aoL hl];exact g1,λj u hj=> ?_,hks⟩;rw[aoM hl];rw[e,List.getElem?_map] at hj;cases hv:ks[j]? with
   |none=>rw[hv] at hj;cases hj
   |some v=>rw[hv] at hj;simp only[MS,kU] at hj;subst hj;rw[(ak9 v).1];exact g2 j v hv
def auB{T:Tn}(h:Dk (T.flat 0)=true)(hsm:∀n,n∈T.flat 0->Small n):Dk ((noc T).flat 0)=true:=by
 have hok:=Zf h hsm;have hs:=aoW h;have hz:=agT hs;rw[T.flat_length] at hz;have hnz:=aga T;have hs':Fh ((noc T).flat 0)=true:=ajP au;unfold Dk at h|-;rw[zq,zq,decide_eq_true_eq] at h|-;have dd:∀t:Tn,Fh (t.flat 0)=true->depth (t.flat 0)=t.depth:=by intro t ht;have h1:=t.X7;have:=axo t 0 (Lies.whole t) t.size (zaX _);rw[depth,if_pos ht,t.flat_length,<-this];congr 1;omega
 refine⟨hs', ?_,aSU (aI9 T hok (aIs h.2.2 T 0 (Lies.whole T)))⟩;rw[dd _ hs'];rw[dd _ hs] at h;have:=axG T;omega
def axH:∀{t:Tn},Q7 t->Q7 (noc t):=by
 refine fun{t}=>Tn.ind (P:=λt=>Q7 t->Q7 (noc t)) ?_ t
 intro k op x y ks ih h;rw[Q7] at h;rw[noc,Q7];refine⟨h.1, ?_⟩;have:∀ts:List Tn,(∀u,u∈ts->u∈ks)->JB ts->JB (JC ts):=by
  intro ts;induction ts with
  |nil=>intro _ _;trivial
  |cons u us ih2=>
   intro hm hs;rw[JC];cases u.kind==34 with
   |true=>exact ih2 (λv hv=>hm v (zmm _ hv)) hs.2
   |false=>exact⟨ih u (hm u zmf) hs.1,ih2 (λv hv=>hm v (zmm _ hv)) hs.2⟩
 exact this ks (λu hu=>hu) h.2
def asE{l:List Tk}(h0:∀i,i<l.length->dP l i≠0):∀(n:Nat) (L:List Tn) (i:Nat) (nt:dO),(Ig l n L i nt).sat λ_ j m=>m=[]/\l.length<=j
 |0,L,i,nt=>by rw[Ig];trivial
 |n+1,L,i,nt=>by
  rw[Ig,dX];refine⟨λhc=>⟨rfl, ?_⟩,λ_=> ?_⟩
  ·rw[beq_iff_eq] at hc
   by_cases hlt:(sep l i nt).1<l.length
   ·exact absurd hc (h0 _ hlt)
   ·omega
  ·rw[dX];refine⟨λ_=>trivial,λ_=> ?_⟩;rw[eY];cases Rl l n (sep l i nt).1 [] with
   |ok x j m=>exact asE h0 n _ j m
   |bad j=>trivial
   |out=>trivial
def aBl(c:aC):M.Lc (c.map byteRow)=some true:=by
 simp only[M.Lc,M.TY,M.VP,M.YV,ah,zaY]
 by_cases hc:c.length<=1048576
 ·rw[xE au,bG];obtain⟨s,hs⟩:=ao4 c hc;obtain⟨q,k,p,hp,hr⟩:=aD6 s;have hL:=aAu s;have hx:=avE s;have e0:dJ true []=[]:=rfl;simp only[hs,hp,hL.1,ah];cases hr with
  |lex h=>have h':((zU s).2.1==0)=false:=QV.2 h;simp only[bne,h',Bool.not_false,aH,e0,UR];rfl
  |bad h h2 a1 a2 a3 a4=>have hk:(k==0)=false:=QV.2 au;simp only[bne,hk,Bool.not_false,aH,e0,UR];rfl
  |ok h htk h2 hpg hz ht hsm=>
   rename_i L j nt;have hS:=(aiS (.mk 45 0 [] [] L) 0).1 hsm;have hok:=Zf ht hS;have hl:((Tn.mk 45 0 [] [] L).flat 0).length<=1048576:=by rw[Tn.flat_length];omega
   have hkk:∀n,n∈(Tn.mk 45 0 [] [] L).flat 0->n.kids.length<=1048576:=λn hn=>by have:=(Pg _ 0 n hn).1;omega
   have n1:=apa ht hz hS;have n2:=auB ht hS;have hz2:=aga (.mk 45 0 [] [] L);have hS2:=(aiS (noc (.mk 45 0 [] [] L)) 0).1 (axH hsm);have hl2:((noc (Tn.mk 45 0 [] [] L)).flat 0).length<=1048576:=by rw[Tn.flat_length];omega
   have a06:∀n,n∈(noc (Tn.mk 45 0 [] [] L)).flat 0->n.kids.length<=1048576:=λn hn=>by have:=(Pg _ 0 n hn).1;omega
   have p1:=Xm _ false hl hkk hS;rw[avP ht] at p1;have p2:=Xm _ false hl2 a06 hS2;have ht2:Dk ((Tn.mk 45 0 [] [] (JC L)).flat 0)=true:=n2;have hp2:YA ((noc (Tn.mk 45 0 [] [] L)).flat 0)=true:=avP ht2;rw[hp2] at p2;have c1:cmN ((Tn.mk 45 0 [] [] L).flat 0)=tc (.mk 45 0 [] [] L):=ao9 _ 0 hok;have c2:tc (.mk 45 0 [] [] L)=ZU (zU s).1:=by have hb:=av2 (l:=(zU s).1) (pre:=[]) (60 * ((zU s).1.length - 0)+52) [] 0 [] rfl;have he:=asE (l:=(zU s).1) (akR htk) (60 * ((zU s).1.length - 0)+52) [] 0 [];rw[hpg] at hb he;have h3:([]++tcs L)++nt=cp (zU s).1 j:=hb;rw[he.1,List.append_nil,List.nil_append] at h3;rw[Lm (by decide),h3,cp,List.take_of_length_le he.2]
   have c3:cmN ((noc (Tn.mk 45 0 [] [] L)).flat 0)=[]:=by rw[ao9 _ 0 (Zf n2 hS2)];exact aBi _ (show(45:Int)≠34 by decide)
   have cnt:=anA (.mk 45 0 [] [] L) hok (show(45:Int)≠34 by decide);rw[c2] at cnt;have t1:=abP ((Tn.mk 45 0 [] [] L).flat 0) false (by rw[Tn.flat_length];omega);have t2:=aiw (zU s).1 au;have t3:=abP ((noc (Tn.mk 45 0 [] [] L)).flat 0) false (by rw[Tn.flat_length];omega);have s1:=asB (ZU (zU s).1) (by have:=asA (zU s).1;omega);rw[c1,c2] at t1;rw[c3] at t3;have hw:i64.wrap ((((Tn.mk 45 0 [] [] L).size:Nat):Int) - ((ZU (zU s).1).length:Int))=(((noc (Tn.mk 45 0 [] [] L)).size:Nat):Int):=by rw[aJ au au];omega
   have d1:((((noc (Tn.mk 45 0 [] [] L)).size:Nat):Int)==i64.wrap ((((Tn.mk 45 0 [] [] L).size:Nat):Int) - ((ZU (zU s).1).length:Int)))=true:=by rw[hw];exact beq_self_eq_true _
   have d2:((((F5 []).length:Nat):Int)==0)=true:=rfl;have pN:∀l:List Nd,[[D.sl true 5 (dJ true l)]].all fB=true:=λl=>by simp[fB,D.pure,Y8]
   simp only[bne,ah,afo,n1,pN,t1,t2,t3,auy,s1,p1,p2,d2,iV,Tn.flat_length,YD,d1,beq_self_eq_true,zaW,aH,bG];rfl
 ·rw[zdt au,aH]
end Go.Proofs.YtgealgmioiepeaaGreatDoor
namespace Go.Proofs
open Go.Shelf
def Tryz.lays137_ren:Go.Shelf.Ren:=⟨fun|137=>105|217=>153|266=>175|n=>n,fun|9=>9|5=>5|3=>3|n=>n,fun|n=>n⟩
def Tryz.lays137:Go.Proofs.Lays.n137 Tryz.prog Tryz.lays137_ren:={
 mixed:=by kernel_rfl
 f137:=Tryz.func105.trans (congrArg some (by kernel_rfl))
 f217:=Tryz.func153.trans (congrArg some (by kernel_rfl))
 f266:=Tryz.func175.trans (congrArg some (by kernel_rfl))
 t3:=Tryz.underlying3
 a3:=Tryz.isAgg3
 z3:=Tryz.sizeOf3
 v3:=Tryz.zeroValue3
 t5:=Tryz.underlying5
 a5:=Tryz.isAgg5
 z5:=Tryz.sizeOf5
 v5:=Tryz.zeroValue5
 t9:=Tryz.underlying9
 a9:=Tryz.isAgg9
 z9:=Tryz.sizeOf9
 v9:=Tryz.zeroValue9}
def Tryz.lays144_ren:Go.Shelf.Ren:=⟨fun|144=>159|143=>177|219=>191|217=>153|225=>206|224=>207|267=>208|266=>175|314=>227|n=>n,fun|9=>9|4=>4|3=>3|5=>5|46=>101|146=>171|51=>170|n=>n,fun|1=>3|n=>n⟩
def Tryz.lays144:Go.Proofs.Lays.n144 Tryz.prog Tryz.lays144_ren:={
 mixed:=by kernel_rfl
 f143:=Tryz.func177.trans (congrArg some (by kernel_rfl))
 f144:=Tryz.func159.trans (congrArg some (by kernel_rfl))
 f217:=Tryz.func153.trans (congrArg some (by kernel_rfl))
 f219:=Tryz.func191.trans (congrArg some (by kernel_rfl))
 f224:=Tryz.func207.trans (congrArg some (by kernel_rfl))
 f225:=Tryz.func206.trans (congrArg some (by kernel_rfl))
 f266:=Tryz.func175.trans (congrArg some (by kernel_rfl))
 f267:=Tryz.func208.trans (congrArg some (by kernel_rfl))
 f314:=Tryz.func227.trans (congrArg some (by kernel_rfl))
 t3:=Tryz.underlying3
 a3:=Tryz.isAgg3
 z3:=Tryz.sizeOf3
 v3:=Tryz.zeroValue3
 t4:=Tryz.underlying4
 a4:=Tryz.isAgg4
 z4:=Tryz.sizeOf4
 v4:=Tryz.zeroValue4
 t5:=Tryz.underlying5
 a5:=Tryz.isAgg5
 z5:=Tryz.sizeOf5
 v5:=Tryz.zeroValue5
 t9:=Tryz.underlying9
 a9:=Tryz.isAgg9
 z9:=Tryz.sizeOf9
 v9:=Tryz.zeroValue9
 t46:=Tryz.underlying101
 a46:=Tryz.isAgg101
 z46:=Tryz.sizeOf101
 v46:=Tryz.zeroValue101
 t51:=Tryz.underlying170
 a51:=Tryz.isAgg170
 z51:=Tryz.sizeOf170
 v51:=Tryz.zeroValue170
 t146:=Tryz.underlying171
 a146:=Tryz.isAgg171
 z146:=Tryz.sizeOf171
 v146:=Tryz.zeroValue171
 g1:=by kernel_rfl}
open Go.RowKit in
def Tryz.strings_IndexByte(s:ByteArray)(c:Int)(w:World):
  Calls Tryz.prog 105 #[.string s,.int .u8 c] w λe w'=>e=.returned (.int .i64 (Lib.indexByte s.data.toList c.toNat.toUInt8))/\w'=w:=Any.strings_IndexByte Tryz.lays137 s c w
open Go.RowKit Go.Lib in
def Tryz.strings_Contains_one(s:ByteArray)(c:UInt8)(w:World):
  Calls Tryz.prog 159 #[.string s,.string ⟨#[c]⟩] w λe w'=>e=.returned (.bool (decide (0<=Lib.indexByte s.data.toList c)))/\w'=w:=Any.strings_Contains_one Tryz.lays144 s c w
end Go.Proofs
namespace Go.Proofs.YtgealgmioiepeaaGreatDoor
open Go Go.Vm
def aix{X:Ctx}(hP:X.P=Tryz.prog)(hm:∀i,i<2->OD X.U6 159 i=0)(fn:Func)(args:List V)(cells:List Cell)(rows:ak)(outs:List Cell)(hf:X.P.funcs[159]? =some fn)(h:Prim.strings_Contains args cells=some (rows,outs))
  (base:Nat) (U:Nat->Prop) (w:World) (gargs lT:List Value) (N1 N2:List Nat) (hG:Given X base U w 159 args cells gargs lT N1 N2):
  Calls X.P 159 gargs.toArray w λe w'=>∃gs M1 M2,e=.returned (agn gs)/\Did X.P U w w' (N1++N2) fn.resultTypes.toList cells outs lT rows gs M1 M2:=by
 unfold Prim.strings_Contains at h;split at h
 ·rename_i s t;unfold M.strings_Contains at h;split at h
  ·rename_i c;cases h;obtain⟨rfl,rfl,rfl,hs⟩:=apH hG hm;rw[atg hs];rw[hP] at hf|-;have hfn:fn.resultTypes.toList=[4]:=by rw[Tryz.func159] at hf;cases hf;rfl
   refine(Tryz.strings_Contains_one ⟨⟨s⟩⟩ c w).mono ?_;rintro e w' ⟨rfl,rfl⟩;rw[hfn];exact⟨[_],[],[],rfl,ajN (by kernel_rfl) (by kernel_rfl) (λ_ _=>⟨rfl,rfl⟩) (Keep.refl _ _)⟩
  ·cases h
 ·cases h
def ag8{X:Ctx}(hP:X.P=Tryz.prog)(hm:∀i,i<2->OD X.U6 105 i=0)(fn:Func)(args:List V)(cells:List Cell)(rows:ak)(outs:List Cell)(hf:X.P.funcs[105]? =some fn)(h:Prim.strings_IndexByte args cells=some (rows,outs))
  (base:Nat) (U:Nat->Prop) (w:World) (gargs lT:List Value) (N1 N2:List Nat) (hG:Given X base U w 105 args cells gargs lT N1 N2):
  Calls X.P 105 gargs.toArray w λe w'=>∃gs M1 M2,e=.returned (agn gs)/\Did X.P U w w' (N1++N2) fn.resultTypes.toList cells outs lT rows gs M1 M2:=by
 unfold Prim.strings_IndexByte at h;split at h
 ·rename_i s b;unfold M.strings_IndexByte at h;cases h;obtain⟨rfl,rfl,rfl,hs⟩:=apH hG hm;have hg:gargs=[.string ⟨⟨s⟩⟩,.int .u8 b]:=by simp only[dI,bn,ro] at hs;obtain⟨g,gs,rfl,rfl,g',gs',rfl,rfl,rfl⟩:=hs;rfl
  rw[hg];rw[hP] at hf|-;have hfn:fn.resultTypes.toList=[3]:=by rw[Tryz.func105] at hf;cases hf;rfl
  refine(Tryz.strings_IndexByte ⟨⟨s⟩⟩ b w).mono ?_;rintro e w' ⟨rfl,rfl⟩;rw[hfn];exact⟨[_],[],[],rfl,ajN (by kernel_rfl) (by kernel_rfl) (λ_ _=>⟨rfl,rfl⟩) (Keep.refl _ _)⟩
 ·cases h
end Go.Proofs.YtgealgmioiepeaaGreatDoor
namespace Go.Proofs.YtgealgmioiepeaaGreatDoor
open Go Go.Vm Go.RowKit
set_option maxRecDepth 100000 in
def auC{n:Nat}{row:Row}(h:tyD Tryz.prog (n+2) 22 row):∃c:aC,row=[.sl false 1 (c.map byteRow)]/\c.length<=maxLen:=by
 obtain⟨rows,rfl,hl,hr⟩:=aF8 Tryz.underlying22 h;obtain⟨c,rfl,_⟩:=apK (f:=byteRow) (p:=λ_=>True) (λr hr'=>by
  obtain⟨x,rfl,hx⟩:=aBV Tryz.underlying5 (hr r hr');have h':0<=x/\x<=255:=by simp[Lit.wf,IntKind.min,IntKind.max,IntKind.signed,IntKind.bits] at hx;omega
  refine⟨UInt8.ofNat x.toNat, ?_,trivial⟩;rw[byteRow,UInt8.toNat_ofNat'];congr 2;omega)
 exact⟨c,rfl,by simpa using hl⟩
def aJa:anR X0:=by
 intro f p fn args cells rows outs hx hf hb h base U w gargs lT N1 N2 hG;have hx':(bif Nat.beq f 82 then some Prim.lG else bif Nat.beq f 105 then some Prim.strings_IndexByte else bif Nat.beq f 159 then some Prim.strings_Contains else none)=some p:=hx;cases hq:Nat.beq f 82 with
 |true=>rw[hq] at hx';cases hx';have e:=Kr hq;subst e;exact alq rfl (by decide) fn args cells rows outs hf h base U w gargs lT N1 N2 hG
 |false=>
 rw[hq,bG] at hx';cases hq:Nat.beq f 105 with
 |true=>rw[hq] at hx';cases hx';have e:=Kr hq;subst e;exact ag8 rfl (by decide) fn args cells rows outs hf h base U w gargs lT N1 N2 hG
 |false=>
 rw[hq,bG] at hx';cases hq:Nat.beq f 159 with
 |true=>rw[hq] at hx';cases hx';have e:=Kr hq;subst e;exact aix rfl (by decide) fn args cells rows outs hf h base U w gargs lT N1 N2 hG
 |false=>rw[hq] at hx';cases hx'
def own:ownKnob Tryz.prog.godebug=none:=by kernel_rfl
def laidOut:laidOutB Tryz.prog=true:=by kernel_rfl
def gK : Tryz.prog.globalNamed "loop.example/g01543/impl.keywords" = some 2 := by kernel_rfl
def gS : Tryz.prog.globalNamed "loop.example/g01543/impl.signs" = some 0 := by kernel_rfl
def gB : Tryz.prog.globalNamed "loop.example/g01543/impl.builtins" = some 1 := by kernel_rfl
def tK:(Tryz.prog.globals[2]?).map (·.type)=some 142:=by kernel_rfl
def tS:(Tryz.prog.globals[0]?).map (·.type)=some 130:=by kernel_rfl
def tB:(Tryz.prog.globals[1]?).map (·.type)=some 133:=by kernel_rfl
def c9:Tryz.prog.cellsOf 9=1:=by kernel_rfl
def dK:(Rows.laid_loop_example_g01543_impl_keywords:DataW Unit)=.agg (Y2.map λs=> .lit (.string s)):=by kernel_rfl
def dS:(Rows.laid_loop_example_g01543_impl_signs:DataW Unit)=.agg (UL.map λs=> .lit (.string s)):=by kernel_rfl
def dB:(Rows.laid_loop_example_g01543_impl_builtins:DataW Unit)=.agg (ark.map λs=> .lit (.string s)):=by kernel_rfl
def rK:H8=Y2.map D.str:=by kernel_rfl
def rS:VO=UL.map D.str:=by kernel_rfl
def rB:O1=ark.map D.str:=by kernel_rfl
def axI{W:World}(hL:laidMetH Tryz.prog Rows.fnKeptRow.laid W)(hS:W.ShapedOpen Tryz.prog):ai6 X0 (full W):=by
 rw[MakeChecks.laidMetH_plain _ _ _ (by kernel_rfl)] at hL;obtain⟨ps,⟨g0,t0,cs0,f0,p0,q0,hg0,ht0,hv0,hd0,⟨g1,t1,cs1,f1,p1,q1,hg1,ht1,hv1,hd1,⟨g2,t2,cs2,f2,p2,q2,hg2,ht2,hv2,hd2,_,_⟩,_⟩,_⟩,_,_⟩:=hL;obtain rfl:=Option.some.inj (gK.symm.trans hg0);obtain rfl:=Option.some.inj (gS.symm.trans hg1);obtain rfl:=Option.some.inj (gB.symm.trans hg2);obtain rfl:=Option.some.inj (tK.symm.trans ht0);obtain rfl:=Option.some.inj (tS.symm.trans ht1);obtain rfl:=Option.some.inj (tB.symm.trans ht2);rw[dK] at hd0;rw[dS] at hd1;rw[dB] at hd2;refine⟨λg row h=> ?_,λg h=> ?_⟩
 ·have h':(bif Nat.beq g 1 then some O1 else bif Nat.beq g 0 then some VO else bif Nat.beq g 2 then some H8 else none)=some row:=h;cases hq:Nat.beq g 1 with
  |true=>rw[hq] at h';cases h';have e:=Kr hq;subst e;rw[rB];exact agx Tryz.underlying133 Tryz.underlying9 c9 hg2 hv2 hd2
  |false=>
  rw[hq,bG] at h';cases hq:Nat.beq g 0 with
  |true=>rw[hq] at h';cases h';have e:=Kr hq;subst e;rw[rS];exact agx Tryz.underlying130 Tryz.underlying9 c9 hg1 hv1 hd1
  |false=>
  rw[hq,bG] at h';cases hq:Nat.beq g 2 with
  |true=>rw[hq] at h';cases h';have e:=Kr hq;subst e;rw[rK];exact agx Tryz.underlying142 Tryz.underlying9 c9 hg0 hv0 hd0
  |false=>rw[hq] at h';cases h'
 ·have h':(bif Nat.beq g 3 then true else false)=true:=h;cases hq:Nat.beq g 3 with
  |false=>rw[hq] at h';cases h'
  |true=>have e:=Kr hq;subst e;exact Go.Proofs.cell_of_shapedOpen_int (zero:=#[.int .i64 0]) hS (of_decide_eq_true (by kernel_rfl)) (by kernel_rfl) rfl (by kernel_rfl) (by kernel_rfl) Tryz.underlying3
end Go.Proofs.YtgealgmioiepeaaGreatDoor
