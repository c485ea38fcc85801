import Derived.Shelf.Strings.Builder1
import Derived.Shelf.Strings.Builder2
import Derived.Shelf.Strings.OnBuilder
import Derived.Shelf.Strings.BuilderF
import Derived.Shelf.Utf8.RuneCount
import Derived.Shelf.Strings.Search1
import Derived.Shelf.Strings.Search2
import Derived.Shelf.Strings.Search3
import Derived.Shelf.Strings.Count
import Derived.Shelf.LaysM
import Derived.Shelf.Strings.Shaped
import Derived.Shelf.Strings.Prefix
import Derived.Shelf.Strings.Split
import Derived.Shelf.Strings.SplitShaped
import Derived.Shelf.Bits.Mul64
import Derived.Shelf.Strings.Repeat
import Derived.Shelf.Unicode.DecodeSlow
import Derived.Shelf.Unicode.DecodeAny
import Derived.Test.YtajjpadmdmehmaaGreatDoorProg
import Derived.Test.YtajjpadmdmehmaaGreatDoorPPrim
import Derived.Test.YtajjpadmdmehmaaGreatDoorVm4
import Derived.Test.YtajjpadmdmehmaaGreatDoorZVal
import Derived.Test.YtajjpadmdmehmaaGreatDoorRows
set_option linter.defProp false
namespace Go.Proofs
open Go.Shelf
def Tryz.lays156_ren:Go.Shelf.Ren:=⟨fun|156=>109|165=>150|166=>151|169=>152|240=>188|241=>189|276=>222|277=>223|n=>n,fun|31=>45|9=>9|3=>3|4=>4|0=>0|20=>20|72=>156|76=>159|70=>154|37=>22|75=>158|127=>176|164=>202|5=>5|80=>161|n=>n,fun|n=>n⟩
def Tryz.lays156:Go.Proofs.Lays.n156 Tryz.prog Tryz.lays156_ren:={
 mixed:=by kernel_rfl
 f156:=Tryz.func109.trans (congrArg some (by kernel_rfl))
 f165:=Tryz.func150.trans (congrArg some (by kernel_rfl))
 f166:=Tryz.func151.trans (congrArg some (by kernel_rfl))
 f169:=Tryz.func152.trans (congrArg some (by kernel_rfl))
 f240:=Tryz.func188.trans (congrArg some (by kernel_rfl))
 f241:=Tryz.func189.trans (congrArg some (by kernel_rfl))
 f276:=Tryz.func222.trans (congrArg some (by kernel_rfl))
 f277:=Tryz.func223.trans (congrArg some (by kernel_rfl))
 t0:=Tryz.underlying0
 a0:=Tryz.isAgg0
 z0:=Tryz.sizeOf0
 v0:=Tryz.zeroValue0
 t3:=Tryz.underlying3
 a3:=Tryz.isAgg3
 z3:=Tryz.sizeOf3
 v3:=Tryz.zeroValue3
 t4:=Tryz.underlying4
 a4:=Tryz.isAgg4
 z4:=Tryz.sizeOf4
 v4:=Tryz.zeroValue4
 t9:=Tryz.underlying9
 a9:=Tryz.isAgg9
 z9:=Tryz.sizeOf9
 v9:=Tryz.zeroValue9
 t20:=Tryz.underlying20
 a20:=Tryz.isAgg20
 z20:=Tryz.sizeOf20
 v20:=Tryz.zeroValue20
 t31:=Tryz.underlying45
 a31:=Tryz.isAgg45
 z31:=Tryz.sizeOf45
 v31:=Tryz.zeroValue45
 t37:=Tryz.underlying22
 a37:=Tryz.isAgg22
 z37:=Tryz.sizeOf22
 v37:=Tryz.zeroValue22
 t70:=Tryz.underlying154
 a70:=Tryz.isAgg154
 z70:=Tryz.sizeOf154
 v70:=Tryz.zeroValue154
 t72:=Tryz.underlying156
 a72:=Tryz.isAgg156
 z72:=Tryz.sizeOf156
 v72:=Tryz.zeroValue156
 t75:=Tryz.underlying158
 a75:=Tryz.isAgg158
 z75:=Tryz.sizeOf158
 v75:=Tryz.zeroValue158
 t76:=Tryz.underlying159
 a76:=Tryz.isAgg159
 z76:=Tryz.sizeOf159
 v76:=Tryz.zeroValue159
 t127:=Tryz.underlying176
 a127:=Tryz.isAgg176
 z127:=Tryz.sizeOf176
 v127:=Tryz.zeroValue176
 t164:=Tryz.underlying202
 a164:=Tryz.isAgg202
 z164:=Tryz.sizeOf202
 v164:=Tryz.zeroValue202}
def Tryz.lays144_ren:Go.Shelf.Ren:=⟨fun|144=>137|143=>79|219=>119|217=>158|225=>159|224=>160|267=>161|266=>190|314=>191|n=>n,fun|9=>9|4=>4|3=>3|5=>5|46=>64|146=>182|51=>181|n=>n,fun|1=>0|n=>n⟩
def Tryz.lays144:Go.Proofs.Lays.n144 Tryz.prog Tryz.lays144_ren:={
 mixed:=by kernel_rfl
 f143:=Tryz.func79.trans (congrArg some (by kernel_rfl))
 f144:=Tryz.func137.trans (congrArg some (by kernel_rfl))
 f217:=Tryz.func158.trans (congrArg some (by kernel_rfl))
 f219:=Tryz.func119.trans (congrArg some (by kernel_rfl))
 f224:=Tryz.func160.trans (congrArg some (by kernel_rfl))
 f225:=Tryz.func159.trans (congrArg some (by kernel_rfl))
 f266:=Tryz.func190.trans (congrArg some (by kernel_rfl))
 f267:=Tryz.func161.trans (congrArg some (by kernel_rfl))
 f314:=Tryz.func191.trans (congrArg some (by kernel_rfl))
 t3:=Tryz.underlying3
 a3:=Tryz.isAgg3
 z3:=Tryz.sizeOf3
 v3:=Tryz.zeroValue3
 t4:=Tryz.underlying4
 a4:=Tryz.isAgg4
 z4:=Tryz.sizeOf4
 v4:=Tryz.zeroValue4
 t5:=Tryz.underlying5
 a5:=Tryz.isAgg5
 z5:=Tryz.sizeOf5
 v5:=Tryz.zeroValue5
 t9:=Tryz.underlying9
 a9:=Tryz.isAgg9
 z9:=Tryz.sizeOf9
 v9:=Tryz.zeroValue9
 t46:=Tryz.underlying64
 a46:=Tryz.isAgg64
 z46:=Tryz.sizeOf64
 v46:=Tryz.zeroValue64
 t51:=Tryz.underlying181
 a51:=Tryz.isAgg181
 z51:=Tryz.sizeOf181
 v51:=Tryz.zeroValue181
 t146:=Tryz.underlying182
 a146:=Tryz.isAgg182
 z146:=Tryz.sizeOf182
 v146:=Tryz.zeroValue182
 g1:=by kernel_rfl}
def Tryz.lays146_ren:Go.Shelf.Ren:=⟨fun|146=>34|221=>52|268=>77|138=>78|143=>79|195=>116|197=>117|218=>118|219=>119|260=>157|217=>158|225=>159|224=>160|267=>161|266=>190|314=>191|n=>n,fun|9=>9|31=>45|3=>3|4=>4|0=>0|105=>134|21=>21|5=>5|46=>64|119=>177|139=>180|138=>179|146=>182|51=>181|n=>n,fun|1=>0|3=>1|4=>2|n=>n⟩
def Tryz.lays146:Go.Proofs.Lays.n146 Tryz.prog Tryz.lays146_ren:={
 mixed:=by kernel_rfl
 f138:=Tryz.func78.trans (congrArg some (by kernel_rfl))
 f143:=Tryz.func79.trans (congrArg some (by kernel_rfl))
 f146:=Tryz.func34.trans (congrArg some (by kernel_rfl))
 f195:=Tryz.func116.trans (congrArg some (by kernel_rfl))
 f197:=Tryz.func117.trans (congrArg some (by kernel_rfl))
 f217:=Tryz.func158.trans (congrArg some (by kernel_rfl))
 f218:=Tryz.func118.trans (congrArg some (by kernel_rfl))
 f219:=Tryz.func119.trans (congrArg some (by kernel_rfl))
 f221:=Tryz.func52.trans (congrArg some (by kernel_rfl))
 f224:=Tryz.func160.trans (congrArg some (by kernel_rfl))
 f225:=Tryz.func159.trans (congrArg some (by kernel_rfl))
 f260:=Tryz.func157.trans (congrArg some (by kernel_rfl))
 f266:=Tryz.func190.trans (congrArg some (by kernel_rfl))
 f267:=Tryz.func161.trans (congrArg some (by kernel_rfl))
 f268:=Tryz.func77.trans (congrArg some (by kernel_rfl))
 f314:=Tryz.func191.trans (congrArg some (by kernel_rfl))
 t0:=Tryz.underlying0
 a0:=Tryz.isAgg0
 z0:=Tryz.sizeOf0
 v0:=Tryz.zeroValue0
 t3:=Tryz.underlying3
 a3:=Tryz.isAgg3
 z3:=Tryz.sizeOf3
 v3:=Tryz.zeroValue3
 t4:=Tryz.underlying4
 a4:=Tryz.isAgg4
 z4:=Tryz.sizeOf4
 v4:=Tryz.zeroValue4
 t5:=Tryz.underlying5
 a5:=Tryz.isAgg5
 z5:=Tryz.sizeOf5
 v5:=Tryz.zeroValue5
 t9:=Tryz.underlying9
 a9:=Tryz.isAgg9
 z9:=Tryz.sizeOf9
 v9:=Tryz.zeroValue9
 t21:=Tryz.underlying21
 a21:=Tryz.isAgg21
 z21:=Tryz.sizeOf21
 v21:=Tryz.zeroValue21
 t31:=Tryz.underlying45
 a31:=Tryz.isAgg45
 z31:=Tryz.sizeOf45
 v31:=Tryz.zeroValue45
 t46:=Tryz.underlying64
 a46:=Tryz.isAgg64
 z46:=Tryz.sizeOf64
 v46:=Tryz.zeroValue64
 t51:=Tryz.underlying181
 a51:=Tryz.isAgg181
 z51:=Tryz.sizeOf181
 v51:=Tryz.zeroValue181
 t105:=Tryz.underlying134
 a105:=Tryz.isAgg134
 z105:=Tryz.sizeOf134
 v105:=Tryz.zeroValue134
 t119:=Tryz.underlying177
 a119:=Tryz.isAgg177
 z119:=Tryz.sizeOf177
 t138:=Tryz.underlying179
 a138:=Tryz.isAgg179
 z138:=Tryz.sizeOf179
 v138:=Tryz.zeroValue179
 t139:=Tryz.underlying180
 a139:=Tryz.isAgg180
 z139:=Tryz.sizeOf180
 v139:=Tryz.zeroValue180
 t146:=Tryz.underlying182
 a146:=Tryz.isAgg182
 z146:=Tryz.sizeOf182
 v146:=Tryz.zeroValue182
 g1:=by kernel_rfl
 g3:=by kernel_rfl
 g4:=by kernel_rfl}
def Tryz.lays105_ren:Go.Shelf.Ren:=⟨fun|105=>138|212=>174|99=>175|165=>150|166=>151|170=>176|169=>152|263=>207|264=>208|206=>209|240=>188|241=>189|276=>222|277=>223|n=>n,fun|9=>9|3=>3|4=>4|20=>20|0=>0|46=>64|109=>168|5=>5|72=>156|76=>159|51=>181|146=>182|53=>194|148=>195|70=>154|37=>22|75=>158|127=>176|164=>202|80=>161|n=>n,fun|n=>n⟩
def Tryz.lays105:Go.Proofs.Lays.n105 Tryz.prog Tryz.lays105_ren:={
 mixed:=by kernel_rfl
 f99:=Tryz.func175.trans (congrArg some (by kernel_rfl))
 f105:=Tryz.func138.trans (congrArg some (by kernel_rfl))
 f165:=Tryz.func150.trans (congrArg some (by kernel_rfl))
 f166:=Tryz.func151.trans (congrArg some (by kernel_rfl))
 f169:=Tryz.func152.trans (congrArg some (by kernel_rfl))
 f170:=Tryz.func176.trans (congrArg some (by kernel_rfl))
 f206:=Tryz.func209.trans (congrArg some (by kernel_rfl))
 f212:=Tryz.func174.trans (congrArg some (by kernel_rfl))
 f240:=Tryz.func188.trans (congrArg some (by kernel_rfl))
 f241:=Tryz.func189.trans (congrArg some (by kernel_rfl))
 f263:=Tryz.func207.trans (congrArg some (by kernel_rfl))
 f264:=Tryz.func208.trans (congrArg some (by kernel_rfl))
 f276:=Tryz.func222.trans (congrArg some (by kernel_rfl))
 f277:=Tryz.func223.trans (congrArg some (by kernel_rfl))
 t0:=Tryz.underlying0
 a0:=Tryz.isAgg0
 z0:=Tryz.sizeOf0
 v0:=Tryz.zeroValue0
 t3:=Tryz.underlying3
 a3:=Tryz.isAgg3
 z3:=Tryz.sizeOf3
 v3:=Tryz.zeroValue3
 t4:=Tryz.underlying4
 a4:=Tryz.isAgg4
 z4:=Tryz.sizeOf4
 v4:=Tryz.zeroValue4
 t5:=Tryz.underlying5
 a5:=Tryz.isAgg5
 z5:=Tryz.sizeOf5
 v5:=Tryz.zeroValue5
 t9:=Tryz.underlying9
 a9:=Tryz.isAgg9
 z9:=Tryz.sizeOf9
 v9:=Tryz.zeroValue9
 t20:=Tryz.underlying20
 a20:=Tryz.isAgg20
 z20:=Tryz.sizeOf20
 v20:=Tryz.zeroValue20
 t37:=Tryz.underlying22
 a37:=Tryz.isAgg22
 z37:=Tryz.sizeOf22
 v37:=Tryz.zeroValue22
 t46:=Tryz.underlying64
 a46:=Tryz.isAgg64
 z46:=Tryz.sizeOf64
 v46:=Tryz.zeroValue64
 t51:=Tryz.underlying181
 a51:=Tryz.isAgg181
 z51:=Tryz.sizeOf181
 v51:=Tryz.zeroValue181
 t53:=Tryz.underlying194
 a53:=Tryz.isAgg194
 z53:=Tryz.sizeOf194
 v53:=Tryz.zeroValue194
 t70:=Tryz.underlying154
 a70:=Tryz.isAgg154
 z70:=Tryz.sizeOf154
 v70:=Tryz.zeroValue154
 t72:=Tryz.underlying156
 a72:=Tryz.isAgg156
 z72:=Tryz.sizeOf156
 v72:=Tryz.zeroValue156
 t75:=Tryz.underlying158
 a75:=Tryz.isAgg158
 z75:=Tryz.sizeOf158
 v75:=Tryz.zeroValue158
 t76:=Tryz.underlying159
 a76:=Tryz.isAgg159
 z76:=Tryz.sizeOf159
 v76:=Tryz.zeroValue159
 t109:=Tryz.underlying168
 a109:=Tryz.isAgg168
 z109:=Tryz.sizeOf168
 v109:=Tryz.zeroValue168
 t127:=Tryz.underlying176
 a127:=Tryz.isAgg176
 z127:=Tryz.sizeOf176
 v127:=Tryz.zeroValue176
 t146:=Tryz.underlying182
 a146:=Tryz.isAgg182
 z146:=Tryz.sizeOf182
 v146:=Tryz.zeroValue182
 t148:=Tryz.underlying195
 a148:=Tryz.isAgg195
 z148:=Tryz.sizeOf195
 v148:=Tryz.zeroValue195
 t164:=Tryz.underlying202
 a164:=Tryz.isAgg202
 z164:=Tryz.sizeOf202
 v164:=Tryz.zeroValue202}
def Tryz.Builder_Extra_156:Builder.Extra Tryz.prog Tryz.lays156_ren:={
 sizeBuilder:=by kernel_rfl
 liesBuilder:=by kernel_rfl
 t5:=Tryz.underlying5
 a5:=Tryz.isAgg5
 z5:=Tryz.sizeOf5
 v5:=Tryz.zeroValue5
 infoByte:=by kernel_rfl
 cellsByte:=by kernel_rfl
 sizeByte:=by kernel_rfl
 neB5:=by decide}
open Go.RowKit in
def Tryz.strings_Join_none(a:Option Addr)(c:Nat)(sep:ByteArray)(w:World):
  Calls Tryz.prog 109 #[.slice a 0 c,.string sep] w λe w'=>e=.returned (.string ⟨#[]⟩)/\w'=w:=Any.strings_Join_none Tryz.lays156 Tryz.Builder_Extra_156 a c sep w
open Go.RowKit in
def Tryz.strings_Join(bk o c:Nat)(xs:List ByteArray)(sep:ByteArray)(w:World)(hcells:∀(j:Nat) x,xs[j]? =some x->w.cell? ⟨bk,o+j,none⟩=some (.string x))(hbk:bk<w.heap.size)(hN:xs.length<=140737488355328)(hcap:xs.length<=c)(hlen:(Lib.join (xs.map (·.data.toList)) sep.data.toList).length<=140737488355328):
  Calls Tryz.prog 109 #[.slice (some ⟨bk,o,none⟩) xs.length c,.string sep] w λe w'=>e=.returned (.string ⟨(Lib.join (xs.map (·.data.toList)) sep.data.toList).toArray⟩)/\Go.RowKit.Below w.heap.size w w':=Any.strings_Join Tryz.lays156 Tryz.Builder_Extra_156 bk o c xs sep w hcells hbk hN hcap hlen
open Go.RowKit Go.Lib in
def Tryz.strings_Contains_one(s:ByteArray)(c:UInt8)(w:World):
  Calls Tryz.prog 137 #[.string s,.string ⟨#[c]⟩] w λe w'=>e=.returned (.bool (decide (0<=Lib.indexByte s.data.toList c)))/\w'=w:=Any.strings_Contains_one Tryz.lays144 s c w
open Go.RowKit Go.Lib in
def Tryz.strings_Split(s sep:ByteArray)(m:Int)(w:World)(hs:s.size<4294967281)(hm:w.cell? ⟨0,0,none⟩=some (.int .i64 m))(h1:1<=sep.size):
  Calls Tryz.prog 34 #[.string s,.string sep] w λe w'=>e=.returned (.slice (some ⟨w.heap.size,0,none⟩) (Lib.countB s sep+1) (Lib.countB s sep+1))/\w'=w.alloc (.cells ((Lib.splitB sep 0 (Lib.countB s sep) s).map Value.string).toArray 9):=Any.strings_Split Tryz.lays146 (by kernel_rfl) s sep m w hs hm h1
def Tryz.Builder_Extra_105:Builder.Extra Tryz.prog Tryz.lays105_ren:={
 sizeBuilder:=by kernel_rfl
 liesBuilder:=by kernel_rfl
 t5:=Tryz.underlying5
 a5:=Tryz.isAgg5
 z5:=Tryz.sizeOf5
 v5:=Tryz.zeroValue5
 infoByte:=by kernel_rfl
 cellsByte:=by kernel_rfl
 sizeByte:=by kernel_rfl
 neB5:=by decide}
open Go.RowKit Go.Lib in
def Tryz.strings_Repeat(s:ByteArray)(c:Nat)(w:World)(hc:c<=9223372036854775807)(hlen:s.size * c<=140737488355328):
  Calls Tryz.prog 138 #[.string s,.int .i64 c] w λe w'=>e=.returned (.string ⟨(Lib.repeatL s.data.toList c).toArray⟩)/\Go.RowKit.Below w.heap.size w w':=Any.strings_Repeat Tryz.lays105 Tryz.Builder_Extra_105 s c w hc hlen
end Go.Proofs
namespace Go.Proofs.YtajjpadmdmehmaaGreatDoor
set_option linter.unusedVariables false
set_option linter.unusedSimpArgs false
open Go Go.Vm
def agU{X:Ctx}(hP:X.P=Tryz.prog)(hm:∀i,i<2->JO X.UN 137 i=0)(fn:Func)(args:List V)(cells:List Cell)(rows:au)(outs:List Cell)(hf:X.P.funcs[137]? =some fn)(h:Prim.strings_Contains args cells=some (rows,outs))
  (base:Nat) (U:Nat->Prop) (w:World) (gargs jB:List Value) (N1 N2:List Nat) (hG:Given X base U w 137 args cells gargs jB N1 N2):
  Calls X.P 137 gargs.toArray w λe w'=>∃gs M1 M2,e=.returned (ab1 gs)/\Did X.P U w w' (N1++N2) fn.resultTypes.toList cells outs jB rows gs M1 M2:=by
 unfold Prim.strings_Contains at h;split at h
 ·rename_i s t;unfold M.strings_Contains at h;split at h
  ·rename_i c;cases h;obtain⟨rfl,rfl,rfl,hs⟩:=ac7 hG hm;rw[aij hs];rw[hP] at hf|-;have hfn:fn.resultTypes.toList=[4]:=by rw[Tryz.func137] at hf;cases hf;rfl
   refine(Tryz.strings_Contains_one ⟨⟨s⟩⟩ c w).mono ?_;rintro e w' ⟨rfl,rfl⟩;rw[hfn];exact⟨[_],[],[],rfl,YG (by kernel_rfl) (by kernel_rfl) (λ_ _=>⟨rfl,rfl⟩) (Keep.refl _ _)⟩
  ·cases h
 ·cases h
def aob{X:Ctx}(hP:X.P=Tryz.prog)(hm:∀i,i<2->JO X.UN 34 i=0)(hI:X.aJj 0=true)(fn:Func)(args:List V)(cells:List Cell)(rows:au)(outs:List Cell)(hf:X.P.funcs[34]? =some fn)(h:Prim.strings_Split args cells=some (rows,outs))
  (base:Nat) (U:Nat->Prop) (w:World) (gargs jB:List Value) (N1 N2:List Nat) (hG:Given X base U w 34 args cells gargs jB N1 N2):
  Calls X.P 34 gargs.toArray w λe w'=>∃gs M1 M2,e=.returned (ab1 gs)/\Did X.P U w w' (N1++N2) fn.resultTypes.toList cells outs jB rows gs M1 M2:=by
 unfold Prim.strings_Split at h;split at h
 ·rename_i s t;unfold M.strings_Split at h;cases hc:(Nat.blt s.length 4294967281 && Nat.ble 1 t.length) with
  |false=>rw[hc] at h;cases h
  |true=>
   rw[hc] at h;cases h;rw[MS] at hc;obtain⟨rfl,rfl,rfl,hs⟩:=ac7 hG hm;rw[aij hs];obtain⟨m,hmx⟩:=hG.gl.int 0 hI;have hmx:=(VA hmx).2.2;have hU:=hG.up;rw[hP] at hf|-;obtain⟨T,hfn,hT,hpt⟩:∃T,fn.resultTypes.toList=[T]/\Us Tryz.prog T=false/\ahp Tryz.prog T=none:=by rw[Tryz.func34] at hf;cases hf;exact⟨_,rfl,by kernel_rfl,by kernel_rfl⟩
   have h1:1<=t.length:=Nat.le_of_ble_eq_true hc.2;have h2:s.length<4294967281:=by have:=hc.1;rw[Nat.blt_eq] at this;exact this
   have hlen:=Lib.splitB_all ⟨⟨t⟩⟩ h1 0 _ ⟨⟨s⟩⟩ rfl;have e1:(acn s t).length=Lib.countB ⟨⟨s⟩⟩ ⟨⟨t⟩⟩+1:=by rw[acn,zaQ,hlen]
   have e2:(Lib.splitB ⟨⟨t⟩⟩ 0 (Lib.countB ⟨⟨s⟩⟩ ⟨⟨t⟩⟩) ⟨⟨s⟩⟩).map Value.string=(acn s t).map λx=>Value.string ⟨⟨x⟩⟩:=by rw[acn,List.map_map];rfl
   refine(Tryz.strings_Split ⟨⟨s⟩⟩ ⟨⟨t⟩⟩ m w h2 hmx h1).mono ?_;rintro e w' ⟨rfl,rfl⟩;rw[hfn,<-e1,e2];exact⟨[_],[],[_],rfl,axA (by intro e;rw[e] at e1;simp at e1) hT hpt hU⟩
 ·cases h
def cell_lt{w:World}{a:Addr}{v:Value}(h:w.cell? a=some v):a.block<w.heap.size:=by
 unfold World.cell? at h;cases hq:w.heap[a.block]? with
 |none=>rw[hq] at h;simp at h
 |some x=>exact(Array.getElem?_eq_some_iff.1 hq).1
def akv{w w':World}(h:Go.RowKit.Below w.heap.size w w'):Keep [] w w':=⟨h.os,h.tape,h.output,h.size,λb hb _=>h.block b hb⟩
def akw(s:aC):∀n,Lib.repeatL s n=(List.replicate n s).flatten
 |0=>rfl
 |n+1=>by rw[Lib.repeatL,akw s n,List.replicate_succ,List.flatten_cons]
def ak9{X:Ctx}(hP:X.P=Tryz.prog)(hm:∀i,i<2->JO X.UN 138 i=0)(fn:Func)(args:List V)(cells:List Cell)(rows:au)(outs:List Cell)(hf:X.P.funcs[138]? =some fn)(h:Prim.strings_Repeat args cells=some (rows,outs))
  (base:Nat) (U:Nat->Prop) (w:World) (gargs jB:List Value) (N1 N2:List Nat) (hG:Given X base U w 138 args cells gargs jB N1 N2):
  Calls X.P 138 gargs.toArray w λe w'=>∃gs M1 M2,e=.returned (ab1 gs)/\Did X.P U w w' (N1++N2) fn.resultTypes.toList cells outs jB rows gs M1 M2:=by
 unfold Prim.strings_Repeat at h;split at h
 ·rename_i s n;unfold M.strings_Repeat at h;cases hc:((decide (0<=n) && decide (n<=1000000)) && Nat.ble s.length 1000000) with
  |false=>rw[hc] at h;cases h
  |true=>
   rw[hc] at h;cases h;simp only[MS,decide_eq_true_eq,Nat.ble_eq] at hc;obtain⟨⟨h0,h1⟩,h2⟩:=hc;obtain⟨c,rfl⟩:=Int.eq_ofNat_of_zero_le h0;obtain⟨rfl,rfl,rfl,hs⟩:=ac7 hG hm;have hg:gargs=[.string ⟨⟨s⟩⟩,.int .i64 (c:Int)]:=by simp only[dn,aU,ro] at hs;obtain⟨g,gs,rfl,rfl,g',gs',rfl,rfl,rfl⟩:=hs;rfl
   rw[hg];rw[hP] at hf|-;have hfn:fn.resultTypes.toList=[9]:=by rw[Tryz.func138] at hf;cases hf;rfl
   have hlen:(⟨⟨s⟩⟩:ByteArray).size * c<=140737488355328:=by show s.length * c<=_;have:s.length * c<=1000000 * 1000000:=Nat.mul_le_mul h2 ak;omega
   refine(Tryz.strings_Repeat ⟨⟨s⟩⟩ c w ak hlen).mono ?_;rintro e w' ⟨rfl,hb⟩;rw[hfn];refine⟨[_],[],[],rfl,YG (by kernel_rfl) (by kernel_rfl) (λ_ _=>⟨?_,rfl⟩) (akv hb)⟩;show Value.string ⟨(Lib.repeatL s c).toArray⟩=.string ⟨⟨_⟩⟩;rw[akw];rfl
 ·cases h
def af5{h:View}:∀{rows:au} {l:List (aC)} {b o:Nat},asY rows=some l->oV h 1 rows b o->rows.length=l.length/\∀j x,l[j]? =some x->h b (o+j)=some (.string ⟨⟨x⟩⟩)
 |[],_,b,o,e,_=>by cases e;exact⟨rfl,λj x h=>by simp at h⟩
 |r::rs,l,b,o,e,q=>by
  simp only[asY] at e;split at e
  ·rename_i y;cases hd:asY rs with
   |none=>rw[hd] at e;cases e
   |some l'=>
    rw[hd] at e;cases e;simp only[oV,yX] at q;obtain⟨_,⟨⟨v,hv,hvv⟩,_⟩,q⟩:=q;simp only[ro] at hvv;subst hvv;obtain⟨e1,e2⟩:=af5 hd q;refine⟨by simp[e1],λj x hj=> ?_⟩;cases j with
    |zero=>simp at hj;subst hj;exact hv
    |succ j=>have:=e2 j x (by simpa using hj);rw[show o+(j+1)=o+1+j by omega];exact this
  ·cases e
def akx(sep:aC):∀l,joinL sep l=Lib.join l sep
 |[]=>rfl
 |[x]=>by rw[Lib.join_one];rfl
 |x::y::l=>by rw[joinL,akx sep (y::l)];simp[Lib.join,List.intercalate,List.intersperse]
def amO(sep:aC):∀l,(joinL sep l).length<=aoQ l+l.length * sep.length
 |[]=>by simp[joinL]
 |[x]=>by simp only[joinL,aoQ];omega
 |x::y::l=>by have:=amO sep (y::l);simp only[joinL,aoQ,qK,nS] at *;rw[Nat.add_mul (l.length+1) 1];omega
def asb{X:Ctx}(hP:X.P=Tryz.prog)(hm:∀i,i<2->JO X.UN 109 i=0)(fn:Func)(args:List V)(cells:List Cell)(rows:au)(outs:List Cell)(hf:X.P.funcs[109]? =some fn)(h:Prim.strings_Join args cells=some (rows,outs))
  (base:Nat) (U:Nat->Prop) (w:World) (gargs jB:List Value) (N1 N2:List Nat) (hG:Given X base U w 109 args cells gargs jB N1 N2):
  Calls X.P 109 gargs.toArray w λe w'=>∃gs M1 M2,e=.returned (ab1 gs)/\Did X.P U w w' (N1++N2) fn.resultTypes.toList cells outs jB rows gs M1 M2:=by
 unfold Prim.strings_Join at h;split at h
 ·rename_i rws s;unfold M.strings_Join at h;split at h
  ·rename_i l hl;cases hc:Nat.ble (aoQ l+l.length * (s.length+1)) 4294967296 with
   |false=>rw[hc] at h;cases h
   |true=>
    rw[hc] at h;cases h;rw[Nat.ble_eq] at hc;obtain⟨rfl,rfl,rfl,hs⟩:=ac7 hG hm;simp only[dn,aU,ro] at hs;obtain⟨g,gs,rfl,⟨a,cap,rfl,hcap,hrow⟩,g',gs',rfl,rfl,rfl⟩:=hs;rw[hP] at hf|-;have hfn:fn.resultTypes.toList=[9]:=by rw[Tryz.func109] at hf;cases hf;rfl
    rw[hfn];cases rws with
    |nil=>cases hl;refine(Tryz.strings_Join_none a cap ⟨⟨s⟩⟩ w).mono ?_;rintro e w' ⟨rfl,rfl⟩;exact⟨[_],[],[],rfl,YG (by kernel_rfl) (by kernel_rfl) (λ_ _=>⟨rfl,rfl⟩) (Keep.refl _ _)⟩
    |cons r rs=>
     obtain⟨b,o,rfl,hr⟩:=hrow (by simp);obtain⟨e1,e2⟩:=af5 hl hr;have hbs:b<w.heap.size:=by
      have h0:∃x,l[0]? =some x:=by
       cases l with
       |nil=>simp at e1
       |cons x l=>exact⟨x,rfl⟩
      obtain⟨x,hx⟩:=h0;have:=(VA (e2 0 x hx)).2.2;exact cell_lt this
     have hlen:=amO s l;have hmap:(l.map λx=>(⟨⟨x⟩⟩:ByteArray)).map (·.data.toList)=l:=by rw[List.map_map];exact List.map_id' l
     have ll:l.length<=140737488355328:=by rw[Nat.mul_add,Nat.mul_one] at hc;omega
     have C:=Tryz.strings_Join b o cap (l.map λx=>(⟨⟨x⟩⟩:ByteArray)) ⟨⟨s⟩⟩ w
      (λj x hj=>by
       rw[List.getElem?_map] at hj;cases hq:l[j]? with
       |none=>rw[hq] at hj;cases hj
       |some y=>rw[hq] at hj;cases hj;exact(VA (e2 j y hq)).2.2)
      hbs (by rw[zaQ];exact ll) (by rw[zaQ,<-e1];exact hcap)
      (by rw[hmap,<-akx];show(joinL s l).length<=_;rw[Nat.mul_add,Nat.mul_one] at hc;omega)
     rw[zaQ,<-e1,hmap] at C;refine C.mono ?_;rintro e w' ⟨rfl,hb⟩;refine⟨[_],[],[],rfl,YG (by kernel_rfl) (by kernel_rfl) (λ_ _=>⟨?_,rfl⟩) (akv hb)⟩;show Value.string ⟨(Lib.join l s).toArray⟩=.string ⟨⟨_⟩⟩;rw[<-akx]
  ·cases h
 ·cases h
end Go.Proofs.YtajjpadmdmehmaaGreatDoor
namespace Go.Proofs.YtajjpadmdmehmaaGreatDoor
set_option linter.unusedVariables false
set_option linter.unusedSimpArgs false
open Go Go.Vm Go.RowKit
set_option maxRecDepth 100000 in
def atG{n:Nat}{row:Row}(h:tyD Tryz.prog (n+2) 22 row):∃c:aC,row=[.sl false 1 (c.map byteRow)]/\c.length<=maxLen:=by
 obtain⟨rows,rfl,hl,hr⟩:=aGs Tryz.underlying22 h;obtain⟨c,rfl,_⟩:=aoL (f:=byteRow) (p:=λ_=>True) (λr hr'=>by
  obtain⟨x,rfl,hx⟩:=aBt Tryz.underlying5 (hr r hr');have h':0<=x/\x<=255:=by simp[Lit.wf,IntKind.min,IntKind.max,IntKind.signed,IntKind.bits] at hx;omega
  refine⟨UInt8.ofNat x.toNat, ?_,trivial⟩;rw[byteRow,UInt8.toNat_ofNat'];congr 2;omega)
 exact⟨c,rfl,by simpa using hl⟩
def aJc:am3 X0:=by
 intro f p fn args cells rows outs hx hf hb h base U w gargs jB N1 N2 hG;have hx':(bif Nat.beq f 140 then some Prim.kZ else bif Nat.beq f 34 then some Prim.strings_Split else bif Nat.beq f 138 then some Prim.strings_Repeat else bif Nat.beq f 109 then some Prim.strings_Join else bif Nat.beq f 137 then some Prim.strings_Contains else none)=some p:=hx;cases hq:Nat.beq f 140 with
 |true=>rw[hq] at hx';cases hx';have e:=Hy hq;subst e;exact akI rfl rfl fn args cells rows outs hf h base U w gargs jB N1 N2 hG
 |false=>
 rw[hq,bn] at hx';cases hq:Nat.beq f 34 with
 |true=>rw[hq] at hx';cases hx';have e:=Hy hq;subst e;exact aob rfl (by decide) rfl fn args cells rows outs hf h base U w gargs jB N1 N2 hG
 |false=>
 rw[hq,bn] at hx';cases hq:Nat.beq f 138 with
 |true=>rw[hq] at hx';cases hx';have e:=Hy hq;subst e;exact ak9 rfl (by decide) fn args cells rows outs hf h base U w gargs jB N1 N2 hG
 |false=>
 rw[hq,bn] at hx';cases hq:Nat.beq f 109 with
 |true=>rw[hq] at hx';cases hx';have e:=Hy hq;subst e;exact asb rfl (by decide) fn args cells rows outs hf h base U w gargs jB N1 N2 hG
 |false=>
 rw[hq,bn] at hx';cases hq:Nat.beq f 137 with
 |true=>rw[hq] at hx';cases hx';have e:=Hy hq;subst e;exact agU rfl (by decide) fn args cells rows outs hf h base U w gargs jB N1 N2 hG
 |false=>rw[hq] at hx';cases hx'
def own:ownKnob Tryz.prog.godebug=none:=by kernel_rfl
def laidOut:laidOutB Tryz.prog=true:=by kernel_rfl
def gK : Tryz.prog.globalNamed "loop.example/g01543/impl.keywords" = some 4 := by kernel_rfl
def gS : Tryz.prog.globalNamed "loop.example/g01543/impl.signs" = some 5 := by kernel_rfl
def gB : Tryz.prog.globalNamed "loop.example/g01543/impl.builtins" = some 3 := by kernel_rfl
def tK:(Tryz.prog.globals[4]?).map (·.type)=some 207:=by kernel_rfl
def tS:(Tryz.prog.globals[5]?).map (·.type)=some 209:=by kernel_rfl
def tB:(Tryz.prog.globals[3]?).map (·.type)=some 199:=by kernel_rfl
def c9:Tryz.prog.cellsOf 9=1:=by kernel_rfl
def dK:(Rows.laid_loop_example_g01543_impl_keywords:DataW Unit)=.agg (aaj.map λs=> .lit (.string s)):=by kernel_rfl
def dS:(Rows.laid_loop_example_g01543_impl_signs:DataW Unit)=.agg (Yd.map λs=> .lit (.string s)):=by kernel_rfl
def dB:(Rows.laid_loop_example_g01543_impl_builtins:DataW Unit)=.agg (aq8.map λs=> .lit (.string s)):=by kernel_rfl
def rK:FV=aaj.map D.str:=by kernel_rfl
def rS:VX=Yd.map D.str:=by kernel_rfl
def rB:PK=aq8.map D.str:=by kernel_rfl
def awJ{W:World}(hL:laidMetH Tryz.prog Rows.fnBestRow.laid W)(hS:W.ShapedOpen Tryz.prog):ahy X0 (full W):=by
 rw[MakeChecks.laidMetH_plain _ _ _ (by kernel_rfl)] at hL;obtain⟨ps,⟨gA,tA,csA,fA,pA,qA,hgA,htA,hvA,hdA,⟨g0,t0,cs0,f0,p0,q0,hg0,ht0,hv0,hd0,⟨g1,t1,cs1,f1,p1,q1,hg1,ht1,hv1,hd1,⟨g2,t2,cs2,f2,p2,q2,hg2,ht2,hv2,hd2,⟨gF,tF,csF,fF,pF,qF,hgF,htF,hvF,hdF,_,_⟩,_⟩,_⟩,_⟩,_⟩,_,_⟩:=hL;obtain rfl:=Option.some.inj (gK.symm.trans hg0);obtain rfl:=Option.some.inj (gS.symm.trans hg1);obtain rfl:=Option.some.inj (gB.symm.trans hg2);obtain rfl:=Option.some.inj (tK.symm.trans ht0);obtain rfl:=Option.some.inj (tS.symm.trans ht1);obtain rfl:=Option.some.inj (tB.symm.trans ht2);rw[dK] at hd0;rw[dS] at hd1;rw[dB] at hd2;refine⟨λg row h=> ?_,λg h=> ?_⟩
 ·have h':(bif Nat.beq g 3 then some PK else bif Nat.beq g 4 then some FV else bif Nat.beq g 5 then some VX else none)=some row:=h;cases hq:Nat.beq g 3 with
  |true=>rw[hq] at h';cases h';have e:=Hy hq;subst e;rw[rB];exact aep Tryz.underlying199 Tryz.underlying9 c9 hg2 hv2 hd2
  |false=>
  rw[hq,bn] at h';cases hq:Nat.beq g 4 with
  |true=>rw[hq] at h';cases h';have e:=Hy hq;subst e;rw[rK];exact aep Tryz.underlying207 Tryz.underlying9 c9 hg0 hv0 hd0
  |false=>
  rw[hq,bn] at h';cases hq:Nat.beq g 5 with
  |true=>rw[hq] at h';cases h';have e:=Hy hq;subst e;rw[rS];exact aep Tryz.underlying209 Tryz.underlying9 c9 hg1 hv1 hd1
  |false=>rw[hq] at h';cases h'
 ·have h':(bif Nat.beq g 0 then true else false)=true:=h;cases hq:Nat.beq g 0 with
  |false=>rw[hq] at h';cases h'
  |true=>have e:=Hy hq;subst e;exact Go.Proofs.cell_of_shapedOpen_int (zero:=#[.int .i64 0]) hS (of_decide_eq_true (by kernel_rfl)) (by kernel_rfl) rfl (by kernel_rfl) (by kernel_rfl) Tryz.underlying3
end Go.Proofs.YtajjpadmdmehmaaGreatDoor
