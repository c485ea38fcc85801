import Derived.Test.YtoaeipkhadpbiaaGreatDoorXLex3
import Derived.Shelf.Small.Strs
import Derived.Shelf.Strings.Search1
import Derived.Shelf.Strings.Search2
import Derived.Shelf.Strings.Search3
import Derived.Shelf.LaysM
import Derived.Shelf.Strings.Shaped
import Derived.Test.YtoaeipkhadpbiaaGreatDoorProg
import Derived.Test.YtoaeipkhadpbiaaGreatDoorPPrim
import Derived.Test.YtoaeipkhadpbiaaGreatDoorVm4
import Derived.Test.YtoaeipkhadpbiaaGreatDoorPForms4
import Derived.Test.YtoaeipkhadpbiaaGreatDoorXAdv
import Derived.Test.YtoaeipkhadpbiaaGreatDoorRows
set_option linter.defProp false
namespace Go.Proofs.YtoaeipkhadpbiaaGreatDoor
set_option linter.unusedVariables false
set_option linter.unusedSimpArgs false
open Go Go.Vm
def Kd(k:Int):Prop:=0<=k/\k<=100
def ayZ:X4.length=17:=by decide+kernel
def ay0:X5.length=39:=by decide+kernel
def aA7(s:aJ):Kd (agC s):=by have h:=ZU s X4 0 (by decide);rw[ayZ] at h;unfold agC Kd;split<;>omega
def ay1(s w:aJ)(e:Nat):Kd (agh s w e):=by
 have h:=aA7 w;unfold agh;cases agC w !=0 with
 |true=>exact h
 |false=>
  cases ZV w with
  |true=>exact show Kd 8 from⟨by decide,by decide⟩
  |false=>
   cases qI s e==40 with
   |true=>exact show Kd 7 from⟨by decide,by decide⟩
   |false=>exact show Kd 6 from⟨by decide,by decide⟩
def arf(s:aJ):∀(l:List (aJ)) (i:Nat) (k:Int) (m:Nat),0<=k/\k<=30+i+l.length->0<=(opF s l i k m).1/\(opF s l i k m).1<=30+i+l.length
 |[],i,k,m,h=>h
 |g::l,i,k,m,h=>by
  rw[X8] at h|-;rw[opF];cases(Nat.blt m g.length && g.isPrefixOf s) with
  |true=>have:=arf s l (i+1) (30+(i:Int)) g.length aB;rw[aI];omega
  |false=>have:=arf s l (i+1) k m aB;rw[aX];omega
def aEo(s:aJ)(i:Nat):Kd (opK s i):=by have:=arf (s.drop i) X5 0 0 0 aB;rw[ay0] at this;unfold opK Kd;omega
def ag7{s:aJ}{i:Nat}{k e:Int}{p:Int×aJ}(hk:Kd k)(h:ajR s i k e=some p):Kd p.1:=by
 unfold ajR at h;cases hd:decide (e<0) with
 |true=>rw[hd] at h;cases h
 |false=>rw[hd] at h;cases h;exact hk
def apo{s:aJ}{i:Nat}{p:Int×aJ}(h:acs s i=some p):Kd p.1:=by
 unfold acs apl opT at h;cases hz:isL (qI s i) with
 |true=>
  rw[hz,aI] at h;cases hn:IE (sub s i (NQ s i)) with
  |true=>rw[hn] at h;cases h;exact ay1 _ _ _
  |false=>rw[hn] at h;cases h
 |false=>
  rw[hz,aX] at h;cases hn:opK s i==0 with
  |true=>rw[hn] at h;cases h
  |false=>rw[hn] at h;cases h;exact aEo _ _
def auS{s:aJ}{i:Nat}{bf:Int}{p:Int×aJ}(h:H8 s i bf=some p):Kd p.1:=by
 have k3:Kd 3:=⟨by decide,by decide⟩
 have k4:Kd 4:=⟨by decide,by decide⟩
 have k5:Kd 5:=⟨by decide,by decide⟩
 unfold H8 at h;cases q1:qI s i==10 with
 |true=>rw[q1] at h;cases h;exact show Kd 1 from⟨by decide,by decide⟩
 |false=>
 rw[q1,aX] at h;cases q2:qI s i==35 with
 |true=>rw[q2] at h;cases h;exact show Kd 2 from⟨by decide,by decide⟩
 |false=>
 rw[q2,aX] at h;cases q3:isD (qI s i) with
 |true=>rw[q3] at h;exact ag7 k3 h
 |false=>
 rw[q3,aX] at h;cases q4:qI s i==46 with
 |true=>rw[q4] at h;exact ag7 k3 h
 |false=>
 rw[q4,aX] at h;cases q5:qI s i==34 with
 |true=>rw[q5] at h;exact ag7 k4 h
 |false=>
 rw[q5,aX] at h;cases q6:qI s i==47 with
 |true=>
  rw[q6,aI] at h;cases hb: !(VE bf) with
  |true=>rw[hb] at h;exact ag7 k5 h
  |false=>rw[hb] at h;exact apo h
 |false=>rw[q6] at h;exact apo h
def ag8{s:aJ}:∀(f i:Nat) (bf:Int) (acc l:List Tk),(∀t,t∈acc->Kd t.kind)->adq s f i bf acc=.inl l->∀t,t∈l->Kd t.kind
 |0,i,bf,acc,l,ha,h=>by rw[adq] at h;cases h;exact ha
 |f+1,i,bf,acc,l,ha,h=>by
  rw[adq] at h;cases hb:Nat.ble s.length i with
  |true=>rw[hb] at h;cases h;exact ha
  |false=>
  rw[hb,aX] at h;cases hc:agO (qI s i) with
  |true=>rw[hc] at h;exact ag8 f _ _ _ _ ha h
  |false=>
  rw[hc,aX] at h;cases hd:(qI s i==92 && qI s ((i+1:Nat):Int)==10) with
  |true=>rw[hd] at h;exact ag8 f _ _ _ _ ha h
  |false=>
  rw[hd,aX] at h;cases ht:H8 s i bf with
  |none=>rw[ht] at h;cases h
  |some p=>
   rw[ht] at h;refine ag8 f _ _ _ _ (λt hm=> ?_) h;rcases List.mem_append.1 hm with hm|hm
   ·exact ha t hm
   ·rw[List.mem_singleton] at hm;rw[hm];exact auS ht
def aA8(s:aJ):(∀t,t∈(aae s).1->Kd t.kind)/\((aae s).2.1=0->(aae s).2.2=0):=by
 unfold aae;split
 ·exact⟨λt h=>(by cases h),λh=>(by cases h)⟩
 ·split
  ·next l h=>exact⟨ag8 _ _ _ _ _ (λt h=>(by cases h)) h,λ_=>rfl⟩
  ·exact⟨λt h=>(by cases h),λh=>(by cases h)⟩
def Parse_ok(s:aJ):∃fl q k p,M.JM s=some (fl,aW false q,k,p)/\M.Hz s=some (aW true q,k,p)/\q.length<=18001/\(∀n,n∈q->n.kids.length<=18001):=by
 have hL:=aEn s;have hx:=aA6 s;have hd:=aA8 s;simp only[M.JM,M.Tf,M.Hz,M.Tj,hL.1,hL.2,aj];obtain⟨fl,q,k,p,h1,h2,h3,h4⟩:=ajb (aae s).1 aB (λt ht=>⟨⟨by have:=(hd.1 t ht).1;omega,by have:=(hd.1 t ht).2;omega⟩,by have:=hx.2 t ht;omega⟩);cases hk:(aae s).2.1==0 with
 |false=>simp only[bne,hk,Bool.not_false,aI,aX];exact⟨_,[],_,_,rfl,rfl,by simp,by simp⟩
 |true=>have e0:(aae s).2.2=0:=hd.2 (by rwa [beq_iff_eq] at hk);simp only[bne,hk,e0,zaN,aI,aX,h1,h2,aj,aT,aA5,show((0:Int)==0)=true from rfl];exact⟨_,q,k,p,rfl,rfl,h3,h4⟩
def auT(s:aJ)(hl:s.length<=maxLen):M.vY s=some true:=by
 simp only[M.vY,M.Fp];cases decide ((s.length:Int)>1048576) with
 |true=>rfl
 |false=>obtain⟨fl,q,k,p,h1,h2,h3,h4⟩:=Parse_ok s;have a4:=al9 q false false (by unfold maxLen;omega) (λn hn=>by have:=h4 n hn;unfold maxLen;omega);have hw:=aB5 q h4;have hw2:q.length * (4+18001)<=18001 * 18005:=Nat.mul_le_mul h3 (zaO _);have a5:=amd 1 q aB aB;have a6:=amE 1 q aB aB;rw[aT] at a6;have d2:decide ((1:Int)+(wK q:Int)<0)=false:=zD aB;simp only[h1,h2,aI,aT,a4,amF,a5,a6,aj,zaN,aX,d2,bne_self_eq_false]
end Go.Proofs.YtoaeipkhadpbiaaGreatDoor
namespace Go.Proofs
open Go.Shelf
def Tryz.lays137_ren:Go.Shelf.Ren:=⟨fun|137=>177|217=>218|266=>232|n=>n,fun|9=>9|5=>5|3=>3|n=>n,fun|n=>n⟩
def Tryz.lays137:Go.Proofs.Lays.n137 Tryz.prog Tryz.lays137_ren:={
 mixed:=by kernel_rfl
 f137:=Tryz.func177.trans (congrArg some (by kernel_rfl))
 f217:=Tryz.func218.trans (congrArg some (by kernel_rfl))
 f266:=Tryz.func232.trans (congrArg some (by kernel_rfl))
 t3:=Tryz.underlying3
 a3:=Tryz.isAgg3
 z3:=Tryz.sizeOf3
 v3:=Tryz.zeroValue3
 t5:=Tryz.underlying5
 a5:=Tryz.isAgg5
 z5:=Tryz.sizeOf5
 v5:=Tryz.zeroValue5
 t9:=Tryz.underlying9
 a9:=Tryz.isAgg9
 z9:=Tryz.sizeOf9
 v9:=Tryz.zeroValue9}
def Tryz.lays144_ren:Go.Shelf.Ren:=⟨fun|144=>162|143=>206|219=>226|217=>218|225=>235|224=>236|267=>237|266=>232|314=>252|n=>n,fun|9=>9|4=>4|3=>3|5=>5|46=>156|146=>160|51=>159|n=>n,fun|1=>3|n=>n⟩
def Tryz.lays144:Go.Proofs.Lays.n144 Tryz.prog Tryz.lays144_ren:={
 mixed:=by kernel_rfl
 f143:=Tryz.func206.trans (congrArg some (by kernel_rfl))
 f144:=Tryz.func162.trans (congrArg some (by kernel_rfl))
 f217:=Tryz.func218.trans (congrArg some (by kernel_rfl))
 f219:=Tryz.func226.trans (congrArg some (by kernel_rfl))
 f224:=Tryz.func236.trans (congrArg some (by kernel_rfl))
 f225:=Tryz.func235.trans (congrArg some (by kernel_rfl))
 f266:=Tryz.func232.trans (congrArg some (by kernel_rfl))
 f267:=Tryz.func237.trans (congrArg some (by kernel_rfl))
 f314:=Tryz.func252.trans (congrArg some (by kernel_rfl))
 t3:=Tryz.underlying3
 a3:=Tryz.isAgg3
 z3:=Tryz.sizeOf3
 v3:=Tryz.zeroValue3
 t4:=Tryz.underlying4
 a4:=Tryz.isAgg4
 z4:=Tryz.sizeOf4
 v4:=Tryz.zeroValue4
 t5:=Tryz.underlying5
 a5:=Tryz.isAgg5
 z5:=Tryz.sizeOf5
 v5:=Tryz.zeroValue5
 t9:=Tryz.underlying9
 a9:=Tryz.isAgg9
 z9:=Tryz.sizeOf9
 v9:=Tryz.zeroValue9
 t46:=Tryz.underlying156
 a46:=Tryz.isAgg156
 z46:=Tryz.sizeOf156
 v46:=Tryz.zeroValue156
 t51:=Tryz.underlying159
 a51:=Tryz.isAgg159
 z51:=Tryz.sizeOf159
 v51:=Tryz.zeroValue159
 t146:=Tryz.underlying160
 a146:=Tryz.isAgg160
 z146:=Tryz.sizeOf160
 v146:=Tryz.zeroValue160
 g1:=by kernel_rfl}
open Go.RowKit in
def Tryz.strings_IndexByte(s:ByteArray)(c:Int)(w:World):
  Calls Tryz.prog 177 #[.string s,.int .u8 c] w λe w'=>e=.returned (.int .i64 (Lib.indexByte s.data.toList c.toNat.toUInt8))/\w'=w:=Any.strings_IndexByte Tryz.lays137 s c w
open Go.RowKit Go.Lib in
def Tryz.strings_Contains_one(s:ByteArray)(c:UInt8)(w:World):
  Calls Tryz.prog 162 #[.string s,.string ⟨#[c]⟩] w λe w'=>e=.returned (.bool (decide (0<=Lib.indexByte s.data.toList c)))/\w'=w:=Any.strings_Contains_one Tryz.lays144 s c w
end Go.Proofs
namespace Go.Proofs.YtoaeipkhadpbiaaGreatDoor
set_option linter.unusedVariables false
set_option linter.unusedSimpArgs false
open Go Go.Vm
def agP{X:Ctx}(hP:X.P=Tryz.prog)(hm:∀i,i<2->Lc X.PS 162 i=0)(fn:Func)(args:List V)(cells:List Cell)(rows:ay)(outs:List Cell)(hf:X.P.funcs[162]? =some fn)(h:Prim.strings_Contains args cells=some (rows,outs))
  (base:Nat) (U:Nat->Prop) (w:World) (gargs mD:List Value) (N1 N2:List Nat) (hG:Given X base U w 162 args cells gargs mD N1 N2):
  Calls X.P 162 gargs.toArray w λe w'=>∃gs M1 M2,e=.returned (agj gs)/\Did X.P U w w' (N1++N2) fn.resultTypes.toList cells outs mD rows gs M1 M2:=by
 unfold Prim.strings_Contains at h;split at h
 ·rename_i s t;unfold M.strings_Contains at h;split at h
  ·rename_i c;cases h;obtain⟨rfl,rfl,rfl,hs⟩:=anj hG hm;rw[apX hs];rw[hP] at hf|-;have hfn:fn.resultTypes.toList=[4]:=by rw[Tryz.func162] at hf;cases hf;rfl
   refine(Tryz.strings_Contains_one ⟨⟨s⟩⟩ c w).mono ?_;rintro e w' ⟨rfl,rfl⟩;rw[hfn];exact⟨[_],[],[],rfl,ahS (by kernel_rfl) (λ_ _=>⟨rfl,rfl⟩) (Keep.refl _ _)⟩
  ·cases h
 ·cases h
def afq{X:Ctx}(hP:X.P=Tryz.prog)(hm:∀i,i<2->Lc X.PS 177 i=0)(fn:Func)(args:List V)(cells:List Cell)(rows:ay)(outs:List Cell)(hf:X.P.funcs[177]? =some fn)(h:Prim.strings_IndexByte args cells=some (rows,outs))
  (base:Nat) (U:Nat->Prop) (w:World) (gargs mD:List Value) (N1 N2:List Nat) (hG:Given X base U w 177 args cells gargs mD N1 N2):
  Calls X.P 177 gargs.toArray w λe w'=>∃gs M1 M2,e=.returned (agj gs)/\Did X.P U w w' (N1++N2) fn.resultTypes.toList cells outs mD rows gs M1 M2:=by
 unfold Prim.strings_IndexByte at h;split at h
 ·rename_i s b;unfold M.strings_IndexByte at h;cases h;obtain⟨rfl,rfl,rfl,hs⟩:=anj hG hm;have hg:gargs=[.string ⟨⟨s⟩⟩,.int .u8 b]:=by simp only[dL,bn,ro] at hs;obtain⟨g,gs,rfl,rfl,g',gs',rfl,rfl,rfl⟩:=hs;rfl
  rw[hg];rw[hP] at hf|-;have hfn:fn.resultTypes.toList=[3]:=by rw[Tryz.func177] at hf;cases hf;rfl
  refine(Tryz.strings_IndexByte ⟨⟨s⟩⟩ b w).mono ?_;rintro e w' ⟨rfl,rfl⟩;rw[hfn];exact⟨[_],[],[],rfl,ahS (by kernel_rfl) (λ_ _=>⟨rfl,rfl⟩) (Keep.refl _ _)⟩
 ·cases h
end Go.Proofs.YtoaeipkhadpbiaaGreatDoor
namespace Go.Proofs.YtoaeipkhadpbiaaGreatDoor
set_option linter.unusedVariables false
set_option linter.unusedSimpArgs false
open Go Go.Vm Go.RowKit
def open_str'{n:Nat}{row:Row}(h:tyD Tryz.prog (n+1) 9 row):∃s,row=[.str s]/\s.length<=maxLen:=azy Tryz.underlying9 h
def aEp:alH X0:=by
 intro f p fn args cells rows outs hx hf hb h base U w gargs mD N1 N2 hG;have hx':(bif Nat.beq f 177 then some Prim.strings_IndexByte else bif Nat.beq f 162 then some Prim.strings_Contains else none)=some p:=hx;cases hq:Nat.beq f 177 with
 |true=>rw[hq] at hx';cases hx';have e:=Dl hq;subst e;exact afq rfl (by decide) fn args cells rows outs hf h base U w gargs mD N1 N2 hG
 |false=>
 rw[hq,aX] at hx';cases hq:Nat.beq f 162 with
 |true=>rw[hq] at hx';cases hx';have e:=Dl hq;subst e;exact agP rfl (by decide) fn args cells rows outs hf h base U w gargs mD N1 N2 hG
 |false=>rw[hq] at hx';cases hx'
def own:ownKnob Tryz.prog.godebug=none:=by kernel_rfl
def laidOut:laidOutB Tryz.prog=true:=by kernel_rfl
def gK : Tryz.prog.globalNamed "loop.example/g01543/impl.keywords" = some 1 := by kernel_rfl
def gS : Tryz.prog.globalNamed "loop.example/g01543/impl.signs" = some 2 := by kernel_rfl
def gB : Tryz.prog.globalNamed "loop.example/g01543/impl.builtins" = some 0 := by kernel_rfl
def tK:(Tryz.prog.globals[1]?).map (·.type)=some 143:=by kernel_rfl
def tS:(Tryz.prog.globals[2]?).map (·.type)=some 144:=by kernel_rfl
def tB:(Tryz.prog.globals[0]?).map (·.type)=some 142:=by kernel_rfl
def c9:Tryz.prog.cellsOf 9=1:=by kernel_rfl
def dK:(Rows.laid_loop_example_g01543_impl_keywords:DataW Unit)=.agg (X4.map λs=> .lit (.string s)):=by kernel_rfl
def dS:(Rows.laid_loop_example_g01543_impl_signs:DataW Unit)=.agg (X5.map λs=> .lit (.string s)):=by kernel_rfl
def dB:(Rows.laid_loop_example_g01543_impl_builtins:DataW Unit)=.agg (aoH.map λs=> .lit (.string s)):=by kernel_rfl
def rK:Gn=X4.map D.str:=by kernel_rfl
def rS:Uc=X5.map D.str:=by kernel_rfl
def rB:NW=aoH.map D.str:=by kernel_rfl
def ay2{W:World}(hL:laidMetH Tryz.prog Rows.fnExactParseRow.laid W)(hS:W.ShapedOpen Tryz.prog):afv X0 (full W):=by
 rw[MakeChecks.laidMetH_plain _ _ _ (by kernel_rfl)] at hL;obtain⟨ps,⟨g0,t0,cs0,f0,p0,q0,hg0,ht0,hv0,hd0,⟨g1,t1,cs1,f1,p1,q1,hg1,ht1,hv1,hd1,⟨g2,t2,cs2,f2,p2,q2,hg2,ht2,hv2,hd2,_,_⟩,_⟩,_⟩,_,_⟩:=hL;obtain rfl:=Option.some.inj (gK.symm.trans hg0);obtain rfl:=Option.some.inj (gS.symm.trans hg1);obtain rfl:=Option.some.inj (gB.symm.trans hg2);obtain rfl:=Option.some.inj (tK.symm.trans ht0);obtain rfl:=Option.some.inj (tS.symm.trans ht1);obtain rfl:=Option.some.inj (tB.symm.trans ht2);rw[dK] at hd0;rw[dS] at hd1;rw[dB] at hd2;refine⟨λg row h=> ?_,λg h=> ?_⟩
 ·have h':(bif Nat.beq g 2 then some Uc else bif Nat.beq g 1 then some Gn else bif Nat.beq g 0 then some NW else none)=some row:=h;cases hq:Nat.beq g 2 with
  |true=>rw[hq] at h';cases h';have e:=Dl hq;subst e;rw[rS];exact aeR Tryz.underlying144 Tryz.underlying9 c9 hg1 hv1 hd1
  |false=>
  rw[hq,aX] at h';cases hq:Nat.beq g 1 with
  |true=>rw[hq] at h';cases h';have e:=Dl hq;subst e;rw[rK];exact aeR Tryz.underlying143 Tryz.underlying9 c9 hg0 hv0 hd0
  |false=>
  rw[hq,aX] at h';cases hq:Nat.beq g 0 with
  |true=>rw[hq] at h';cases h';have e:=Dl hq;subst e;rw[rB];exact aeR Tryz.underlying142 Tryz.underlying9 c9 hg2 hv2 hd2
  |false=>rw[hq] at h';cases h'
 ·have h':(bif Nat.beq g 3 then true else false)=true:=h;cases hq:Nat.beq g 3 with
  |false=>rw[hq] at h';cases h'
  |true=>have e:=Dl hq;subst e;exact Go.Proofs.cell_of_shapedOpen_int (zero:=#[.int .i64 0]) hS (of_decide_eq_true (by kernel_rfl)) (by kernel_rfl) rfl (by kernel_rfl) (by kernel_rfl) Tryz.underlying3
end Go.Proofs.YtoaeipkhadpbiaaGreatDoor
