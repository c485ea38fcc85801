import Derived.Shelf.Strings.Builder1
import Derived.Shelf.Strings.Builder2
import Derived.Shelf.Strings.OnBuilder
import Derived.Shelf.Strings.BuilderF
import Derived.Shelf.Utf8.RuneCount
import Derived.Shelf.Strings.Search1
import Derived.Shelf.Strings.Search2
import Derived.Shelf.Strings.Search3
import Derived.Shelf.Strings.Count
import Derived.Shelf.LaysM
import Derived.Shelf.Strings.Shaped
import Derived.Shelf.Strings.Prefix
import Derived.Shelf.Strings.Split
import Derived.Shelf.Strings.SplitShaped
import Derived.Shelf.Unicode.Decode
import Derived.Shelf.Strings.RuneCount
import Derived.Shelf.Strings.Explode
import Derived.Shelf.Bits.Mul64
import Derived.Shelf.Strings.Repeat
import Derived.Shelf.Unicode.DecodeSlow
import Derived.Shelf.Unicode.DecodeAny
import Derived.Test.YtbpldgeajbfgnaaGreatDoorProg
import Derived.Test.YtbpldgeajbfgnaaGreatDoorPForms
import Derived.Test.YtbpldgeajbfgnaaGreatDoorVm4
import Derived.Test.YtbpldgeajbfgnaaGreatDoorZShape
import Derived.Test.YtbpldgeajbfgnaaGreatDoorRows
set_option linter.defProp false
namespace Go.Proofs
open Go.Shelf
def Tryz.lays156_ren:Go.Shelf.Ren:=⟨fun|156=>142|165=>178|166=>179|169=>180|240=>216|241=>217|276=>243|277=>244|n=>n,fun|31=>71|9=>9|3=>3|4=>4|0=>0|20=>20|72=>158|76=>161|70=>156|37=>91|75=>160|127=>184|164=>199|5=>5|80=>163|n=>n,fun|n=>n⟩
def Tryz.lays156:Go.Proofs.Lays.n156 Tryz.prog Tryz.lays156_ren:={
 mixed:=by kernel_rfl
 f156:=Tryz.func142.trans (congrArg some (by kernel_rfl))
 f165:=Tryz.func178.trans (congrArg some (by kernel_rfl))
 f166:=Tryz.func179.trans (congrArg some (by kernel_rfl))
 f169:=Tryz.func180.trans (congrArg some (by kernel_rfl))
 f240:=Tryz.func216.trans (congrArg some (by kernel_rfl))
 f241:=Tryz.func217.trans (congrArg some (by kernel_rfl))
 f276:=Tryz.func243.trans (congrArg some (by kernel_rfl))
 f277:=Tryz.func244.trans (congrArg some (by kernel_rfl))
 t0:=Tryz.underlying0
 a0:=Tryz.isAgg0
 z0:=Tryz.sizeOf0
 v0:=Tryz.zeroValue0
 t3:=Tryz.underlying3
 a3:=Tryz.isAgg3
 z3:=Tryz.sizeOf3
 v3:=Tryz.zeroValue3
 t4:=Tryz.underlying4
 a4:=Tryz.isAgg4
 z4:=Tryz.sizeOf4
 v4:=Tryz.zeroValue4
 t9:=Tryz.underlying9
 a9:=Tryz.isAgg9
 z9:=Tryz.sizeOf9
 v9:=Tryz.zeroValue9
 t20:=Tryz.underlying20
 a20:=Tryz.isAgg20
 z20:=Tryz.sizeOf20
 v20:=Tryz.zeroValue20
 t31:=Tryz.underlying71
 a31:=Tryz.isAgg71
 z31:=Tryz.sizeOf71
 v31:=Tryz.zeroValue71
 t37:=Tryz.underlying91
 a37:=Tryz.isAgg91
 z37:=Tryz.sizeOf91
 v37:=Tryz.zeroValue91
 t70:=Tryz.underlying156
 a70:=Tryz.isAgg156
 z70:=Tryz.sizeOf156
 v70:=Tryz.zeroValue156
 t72:=Tryz.underlying158
 a72:=Tryz.isAgg158
 z72:=Tryz.sizeOf158
 v72:=Tryz.zeroValue158
 t75:=Tryz.underlying160
 a75:=Tryz.isAgg160
 z75:=Tryz.sizeOf160
 v75:=Tryz.zeroValue160
 t76:=Tryz.underlying161
 a76:=Tryz.isAgg161
 z76:=Tryz.sizeOf161
 v76:=Tryz.zeroValue161
 t127:=Tryz.underlying184
 a127:=Tryz.isAgg184
 z127:=Tryz.sizeOf184
 v127:=Tryz.zeroValue184
 t164:=Tryz.underlying199
 a164:=Tryz.isAgg199
 z164:=Tryz.sizeOf199
 v164:=Tryz.zeroValue199}
def Tryz.lays144_ren:Go.Shelf.Ren:=⟨fun|144=>202|143=>183|219=>221|217=>246|225=>247|224=>248|267=>249|266=>258|314=>259|n=>n,fun|9=>9|4=>4|3=>3|5=>5|46=>193|146=>203|51=>202|n=>n,fun|1=>3|n=>n⟩
def Tryz.lays144:Go.Proofs.Lays.n144 Tryz.prog Tryz.lays144_ren:={
 mixed:=by kernel_rfl
 f143:=Tryz.func183.trans (congrArg some (by kernel_rfl))
 f144:=Tryz.func202.trans (congrArg some (by kernel_rfl))
 f217:=Tryz.func246.trans (congrArg some (by kernel_rfl))
 f219:=Tryz.func221.trans (congrArg some (by kernel_rfl))
 f224:=Tryz.func248.trans (congrArg some (by kernel_rfl))
 f225:=Tryz.func247.trans (congrArg some (by kernel_rfl))
 f266:=Tryz.func258.trans (congrArg some (by kernel_rfl))
 f267:=Tryz.func249.trans (congrArg some (by kernel_rfl))
 f314:=Tryz.func259.trans (congrArg some (by kernel_rfl))
 t3:=Tryz.underlying3
 a3:=Tryz.isAgg3
 z3:=Tryz.sizeOf3
 v3:=Tryz.zeroValue3
 t4:=Tryz.underlying4
 a4:=Tryz.isAgg4
 z4:=Tryz.sizeOf4
 v4:=Tryz.zeroValue4
 t5:=Tryz.underlying5
 a5:=Tryz.isAgg5
 z5:=Tryz.sizeOf5
 v5:=Tryz.zeroValue5
 t9:=Tryz.underlying9
 a9:=Tryz.isAgg9
 z9:=Tryz.sizeOf9
 v9:=Tryz.zeroValue9
 t46:=Tryz.underlying193
 a46:=Tryz.isAgg193
 z46:=Tryz.sizeOf193
 v46:=Tryz.zeroValue193
 t51:=Tryz.underlying202
 a51:=Tryz.isAgg202
 z51:=Tryz.sizeOf202
 v51:=Tryz.zeroValue202
 t146:=Tryz.underlying203
 a146:=Tryz.isAgg203
 z146:=Tryz.sizeOf203
 v146:=Tryz.zeroValue203
 g1:=by kernel_rfl}
def Tryz.lays146_ren:Go.Shelf.Ren:=⟨fun|146=>103|221=>143|268=>181|138=>182|143=>183|195=>218|197=>219|218=>220|219=>221|260=>245|217=>246|225=>247|224=>248|267=>249|266=>258|314=>259|n=>n,fun|9=>9|31=>71|3=>3|4=>4|0=>0|105=>185|21=>21|5=>5|46=>193|119=>213|139=>216|138=>215|146=>203|51=>202|n=>n,fun|1=>3|3=>4|4=>5|n=>n⟩
def Tryz.lays146:Go.Proofs.Lays.n146 Tryz.prog Tryz.lays146_ren:={
 mixed:=by kernel_rfl
 f138:=Tryz.func182.trans (congrArg some (by kernel_rfl))
 f143:=Tryz.func183.trans (congrArg some (by kernel_rfl))
 f146:=Tryz.func103.trans (congrArg some (by kernel_rfl))
 f195:=Tryz.func218.trans (congrArg some (by kernel_rfl))
 f197:=Tryz.func219.trans (congrArg some (by kernel_rfl))
 f217:=Tryz.func246.trans (congrArg some (by kernel_rfl))
 f218:=Tryz.func220.trans (congrArg some (by kernel_rfl))
 f219:=Tryz.func221.trans (congrArg some (by kernel_rfl))
 f221:=Tryz.func143.trans (congrArg some (by kernel_rfl))
 f224:=Tryz.func248.trans (congrArg some (by kernel_rfl))
 f225:=Tryz.func247.trans (congrArg some (by kernel_rfl))
 f260:=Tryz.func245.trans (congrArg some (by kernel_rfl))
 f266:=Tryz.func258.trans (congrArg some (by kernel_rfl))
 f267:=Tryz.func249.trans (congrArg some (by kernel_rfl))
 f268:=Tryz.func181.trans (congrArg some (by kernel_rfl))
 f314:=Tryz.func259.trans (congrArg some (by kernel_rfl))
 t0:=Tryz.underlying0
 a0:=Tryz.isAgg0
 z0:=Tryz.sizeOf0
 v0:=Tryz.zeroValue0
 t3:=Tryz.underlying3
 a3:=Tryz.isAgg3
 z3:=Tryz.sizeOf3
 v3:=Tryz.zeroValue3
 t4:=Tryz.underlying4
 a4:=Tryz.isAgg4
 z4:=Tryz.sizeOf4
 v4:=Tryz.zeroValue4
 t5:=Tryz.underlying5
 a5:=Tryz.isAgg5
 z5:=Tryz.sizeOf5
 v5:=Tryz.zeroValue5
 t9:=Tryz.underlying9
 a9:=Tryz.isAgg9
 z9:=Tryz.sizeOf9
 v9:=Tryz.zeroValue9
 t21:=Tryz.underlying21
 a21:=Tryz.isAgg21
 z21:=Tryz.sizeOf21
 v21:=Tryz.zeroValue21
 t31:=Tryz.underlying71
 a31:=Tryz.isAgg71
 z31:=Tryz.sizeOf71
 v31:=Tryz.zeroValue71
 t46:=Tryz.underlying193
 a46:=Tryz.isAgg193
 z46:=Tryz.sizeOf193
 v46:=Tryz.zeroValue193
 t51:=Tryz.underlying202
 a51:=Tryz.isAgg202
 z51:=Tryz.sizeOf202
 v51:=Tryz.zeroValue202
 t105:=Tryz.underlying185
 a105:=Tryz.isAgg185
 z105:=Tryz.sizeOf185
 v105:=Tryz.zeroValue185
 t119:=Tryz.underlying213
 a119:=Tryz.isAgg213
 z119:=Tryz.sizeOf213
 t138:=Tryz.underlying215
 a138:=Tryz.isAgg215
 z138:=Tryz.sizeOf215
 v138:=Tryz.zeroValue215
 t139:=Tryz.underlying216
 a139:=Tryz.isAgg216
 z139:=Tryz.sizeOf216
 v139:=Tryz.zeroValue216
 t146:=Tryz.underlying203
 a146:=Tryz.isAgg203
 z146:=Tryz.sizeOf203
 v146:=Tryz.zeroValue203
 g1:=by kernel_rfl
 g3:=by kernel_rfl
 g4:=by kernel_rfl}
def Tryz.lays105_ren:Go.Shelf.Ren:=⟨fun|105=>207|212=>236|99=>237|165=>178|166=>179|170=>238|169=>180|263=>251|264=>252|206=>253|240=>216|241=>217|276=>243|277=>244|n=>n,fun|9=>9|3=>3|4=>4|20=>20|0=>0|46=>193|109=>194|5=>5|72=>158|76=>161|51=>202|146=>203|53=>205|148=>206|70=>156|37=>91|75=>160|127=>184|164=>199|80=>163|n=>n,fun|n=>n⟩
def Tryz.lays105:Go.Proofs.Lays.n105 Tryz.prog Tryz.lays105_ren:={
 mixed:=by kernel_rfl
 f99:=Tryz.func237.trans (congrArg some (by kernel_rfl))
 f105:=Tryz.func207.trans (congrArg some (by kernel_rfl))
 f165:=Tryz.func178.trans (congrArg some (by kernel_rfl))
 f166:=Tryz.func179.trans (congrArg some (by kernel_rfl))
 f169:=Tryz.func180.trans (congrArg some (by kernel_rfl))
 f170:=Tryz.func238.trans (congrArg some (by kernel_rfl))
 f206:=Tryz.func253.trans (congrArg some (by kernel_rfl))
 f212:=Tryz.func236.trans (congrArg some (by kernel_rfl))
 f240:=Tryz.func216.trans (congrArg some (by kernel_rfl))
 f241:=Tryz.func217.trans (congrArg some (by kernel_rfl))
 f263:=Tryz.func251.trans (congrArg some (by kernel_rfl))
 f264:=Tryz.func252.trans (congrArg some (by kernel_rfl))
 f276:=Tryz.func243.trans (congrArg some (by kernel_rfl))
 f277:=Tryz.func244.trans (congrArg some (by kernel_rfl))
 t0:=Tryz.underlying0
 a0:=Tryz.isAgg0
 z0:=Tryz.sizeOf0
 v0:=Tryz.zeroValue0
 t3:=Tryz.underlying3
 a3:=Tryz.isAgg3
 z3:=Tryz.sizeOf3
 v3:=Tryz.zeroValue3
 t4:=Tryz.underlying4
 a4:=Tryz.isAgg4
 z4:=Tryz.sizeOf4
 v4:=Tryz.zeroValue4
 t5:=Tryz.underlying5
 a5:=Tryz.isAgg5
 z5:=Tryz.sizeOf5
 v5:=Tryz.zeroValue5
 t9:=Tryz.underlying9
 a9:=Tryz.isAgg9
 z9:=Tryz.sizeOf9
 v9:=Tryz.zeroValue9
 t20:=Tryz.underlying20
 a20:=Tryz.isAgg20
 z20:=Tryz.sizeOf20
 v20:=Tryz.zeroValue20
 t37:=Tryz.underlying91
 a37:=Tryz.isAgg91
 z37:=Tryz.sizeOf91
 v37:=Tryz.zeroValue91
 t46:=Tryz.underlying193
 a46:=Tryz.isAgg193
 z46:=Tryz.sizeOf193
 v46:=Tryz.zeroValue193
 t51:=Tryz.underlying202
 a51:=Tryz.isAgg202
 z51:=Tryz.sizeOf202
 v51:=Tryz.zeroValue202
 t53:=Tryz.underlying205
 a53:=Tryz.isAgg205
 z53:=Tryz.sizeOf205
 v53:=Tryz.zeroValue205
 t70:=Tryz.underlying156
 a70:=Tryz.isAgg156
 z70:=Tryz.sizeOf156
 v70:=Tryz.zeroValue156
 t72:=Tryz.underlying158
 a72:=Tryz.isAgg158
 z72:=Tryz.sizeOf158
 v72:=Tryz.zeroValue158
 t75:=Tryz.underlying160
 a75:=Tryz.isAgg160
 z75:=Tryz.sizeOf160
 v75:=Tryz.zeroValue160
 t76:=Tryz.underlying161
 a76:=Tryz.isAgg161
 z76:=Tryz.sizeOf161
 v76:=Tryz.zeroValue161
 t109:=Tryz.underlying194
 a109:=Tryz.isAgg194
 z109:=Tryz.sizeOf194
 v109:=Tryz.zeroValue194
 t127:=Tryz.underlying184
 a127:=Tryz.isAgg184
 z127:=Tryz.sizeOf184
 v127:=Tryz.zeroValue184
 t146:=Tryz.underlying203
 a146:=Tryz.isAgg203
 z146:=Tryz.sizeOf203
 v146:=Tryz.zeroValue203
 t148:=Tryz.underlying206
 a148:=Tryz.isAgg206
 z148:=Tryz.sizeOf206
 v148:=Tryz.zeroValue206
 t164:=Tryz.underlying199
 a164:=Tryz.isAgg199
 z164:=Tryz.sizeOf199
 v164:=Tryz.zeroValue199}
def Tryz.Builder_Extra_156:Builder.Extra Tryz.prog Tryz.lays156_ren:={
 sizeBuilder:=by kernel_rfl
 liesBuilder:=by kernel_rfl
 t5:=Tryz.underlying5
 a5:=Tryz.isAgg5
 z5:=Tryz.sizeOf5
 v5:=Tryz.zeroValue5
 infoByte:=by kernel_rfl
 cellsByte:=by kernel_rfl
 sizeByte:=by kernel_rfl
 neB5:=by decide}
open Go.RowKit in
def Tryz.strings_Join_none(a:Option Addr)(c:Nat)(sep:ByteArray)(w:World):
  Calls Tryz.prog 142 #[.slice a 0 c,.string sep] w λe w'=>e=.returned (.string ⟨#[]⟩)∧w'=w:=Any.strings_Join_none Tryz.lays156 Tryz.Builder_Extra_156 a c sep w
open Go.RowKit in
def Tryz.strings_Join(bk o c:Nat)(xs:List ByteArray)(sep:ByteArray)(w:World)(hcells:∀(j:Nat) x,xs[j]? =some x->w.cell? ⟨bk,o+j,none⟩=some (.string x))(hbk:bk<w.heap.size)(hN:xs.length<=140737488355328)(hcap:xs.length<=c)(hlen:(Lib.join (xs.map (·.data.toList)) sep.data.toList).length<=140737488355328):
  Calls Tryz.prog 142 #[.slice (some ⟨bk,o,none⟩) xs.length c,.string sep] w λe w'=>e=.returned (.string ⟨(Lib.join (xs.map (·.data.toList)) sep.data.toList).toArray⟩)∧Go.RowKit.Below w.heap.size w w':=Any.strings_Join Tryz.lays156 Tryz.Builder_Extra_156 bk o c xs sep w hcells hbk hN hcap hlen
open Go.RowKit Go.Lib in
def Tryz.strings_Contains_one(s:ByteArray)(c:UInt8)(w:World):
  Calls Tryz.prog 202 #[.string s,.string ⟨#[c]⟩] w λe w'=>e=.returned (.bool (decide (0<=Lib.indexByte s.data.toList c)))∧w'=w:=Any.strings_Contains_one Tryz.lays144 s c w
open Go.RowKit Go.Lib in
def Tryz.strings_Split(s sep:ByteArray)(m:Int)(w:World)(hs:s.size<4294967281)(hm:w.cell? ⟨3,0,none⟩=some (.int .i64 m))(h1:1<=sep.size):
  Calls Tryz.prog 103 #[.string s,.string sep] w λe w'=>e=.returned (.slice (some ⟨w.heap.size,0,none⟩) (Lib.countB s sep+1) (Lib.countB s sep+1))∧w'=w.alloc (.cells ((Lib.splitB sep 0 (Lib.countB s sep) s).map Value.string).toArray 9):=Any.strings_Split Tryz.lays146 (by kernel_rfl) s sep m w hs hm h1
def Tryz.Builder_Extra_105:Builder.Extra Tryz.prog Tryz.lays105_ren:={
 sizeBuilder:=by kernel_rfl
 liesBuilder:=by kernel_rfl
 t5:=Tryz.underlying5
 a5:=Tryz.isAgg5
 z5:=Tryz.sizeOf5
 v5:=Tryz.zeroValue5
 infoByte:=by kernel_rfl
 cellsByte:=by kernel_rfl
 sizeByte:=by kernel_rfl
 neB5:=by decide}
open Go.RowKit Go.Lib in
def Tryz.strings_Repeat(s:ByteArray)(c:Nat)(w:World)(hc:c<=9223372036854775807)(hlen:s.size * c<=140737488355328):
  Calls Tryz.prog 207 #[.string s,.int .i64 c] w λe w'=>e=.returned (.string ⟨(Lib.repeatL s.data.toList c).toArray⟩)∧Go.RowKit.Below w.heap.size w w':=Any.strings_Repeat Tryz.lays105 Tryz.Builder_Extra_105 s c w hc hlen
end Go.Proofs
namespace Go.Proofs.YtbpldgeajbfgnaaGreatDoor
set_option linter.unusedVariables false
set_option linter.unusedSimpArgs false
open Go Go.Vm
def adU{X:Ctx}(hP:X.P=Tryz.prog)(hm:∀i,i<2->Ej X.MH 202 i=0)(fn:Func)(args:List V)(cells:List Cell)(rows:aA)(outs:List Cell)(hf:X.P.funcs[202]? =some fn)(h:Prim.strings_Contains args cells=some (rows,outs))
  (base:Nat) (U:Nat->Prop) (w:World) (gargs jk:List Value) (N1 N2:List Nat) (hG:Given X base U w 202 args cells gargs jk N1 N2):
  Calls X.P 202 gargs.toArray w λe w'=>∃gs M1 M2,e=.returned (Y5 gs)∧Did X.P U w w' (N1++N2) fn.resultTypes.toList cells outs jk rows gs M1 M2:=by
 unfold Prim.strings_Contains at h;split at h
 ·rename_i s t;unfold M.strings_Contains at h;split at h
  ·rename_i c;cases h;obtain⟨rfl,rfl,rfl,hs⟩:=aan hG hm;rw[aff hs];rw[hP] at hf⊢;have hfn:fn.resultTypes.toList=[4]:=by rw[Tryz.func202] at hf;cases hf;rfl
   refine(Tryz.strings_Contains_one ⟨⟨s⟩⟩ c w).mono ?_;rintro e w' ⟨rfl,rfl⟩;rw[hfn];exact⟨[_],[],[],rfl,Vs (by kernel_rfl) (λ_ _=>⟨rfl,rfl⟩) (Keep.refl _ _)⟩
  ·cases h
 ·cases h
def akq{X:Ctx}(hP:X.P=Tryz.prog)(hm:∀i,i<2->Ej X.MH 103 i=0)(hI:X.aD3 3=true)(fn:Func)(args:List V)(cells:List Cell)(rows:aA)(outs:List Cell)(hf:X.P.funcs[103]? =some fn)(h:Prim.strings_Split args cells=some (rows,outs))
  (base:Nat) (U:Nat->Prop) (w:World) (gargs jk:List Value) (N1 N2:List Nat) (hG:Given X base U w 103 args cells gargs jk N1 N2):
  Calls X.P 103 gargs.toArray w λe w'=>∃gs M1 M2,e=.returned (Y5 gs)∧Did X.P U w w' (N1++N2) fn.resultTypes.toList cells outs jk rows gs M1 M2:=by
 unfold Prim.strings_Split at h;split at h
 ·rename_i s t;unfold M.strings_Split at h;cases hc:(Nat.blt s.length 4294967281 && Nat.ble 1 t.length) with
  |false=>rw[hc] at h;cases h
  |true=>
   rw[hc] at h;cases h;rw[FN] at hc;obtain⟨rfl,rfl,rfl,hs⟩:=aan hG hm;rw[aff hs];obtain⟨m,hmx⟩:=hG.gl.int 3 hI;have hmx:=(Rz hmx).2.2;have hU:=hG.up;rw[hP] at hf⊢;obtain⟨T,hfn,hT⟩:∃T,fn.resultTypes.toList=[T]∧JI Tryz.prog T=false:=by rw[Tryz.func103] at hf;cases hf;exact⟨_,rfl,by kernel_rfl⟩
   have h1:1<=t.length:=Nat.le_of_ble_eq_true hc.2;have h2:s.length<4294967281:=by have:=hc.1;rw[Nat.blt_eq] at this;exact this
   have hlen:=Lib.splitB_all ⟨⟨t⟩⟩ h1 0 _ ⟨⟨s⟩⟩ rfl;have e1:(Zm s t).length=Lib.countB ⟨⟨s⟩⟩ ⟨⟨t⟩⟩+1:=by rw[Zm,List.length_map,hlen]
   have e2:(Lib.splitB ⟨⟨t⟩⟩ 0 (Lib.countB ⟨⟨s⟩⟩ ⟨⟨t⟩⟩) ⟨⟨s⟩⟩).map Value.string=(Zm s t).map λx=>Value.string ⟨⟨x⟩⟩:=by rw[Zm,List.map_map];rfl
   refine(Tryz.strings_Split ⟨⟨s⟩⟩ ⟨⟨t⟩⟩ m w h2 hmx h1).mono ?_;rintro e w' ⟨rfl,rfl⟩;rw[hfn,<-e1,e2];exact⟨[_],[],[_],rfl,asR (by intro e;rw[e] at e1;simp at e1) hT hU⟩
 ·cases h
def cell_lt{w:World}{a:Addr}{v:Value}(h:w.cell? a=some v):a.block<w.heap.size:=by
 unfold World.cell? at h;cases hq:w.heap[a.block]? with
 |none=>rw[hq] at h;simp at h
 |some x=>exact(Array.getElem?_eq_some_iff.1 hq).1
def ag2{w w':World}(h:Go.RowKit.Below w.heap.size w w'):Keep [] w w':=⟨h.os,h.tape,h.output,h.size,λb hb _=>h.block b hb⟩
def ag3(s:aC):∀n,Lib.repeatL s n=(List.replicate n s).flatten
 |0=>rfl
 |n+1=>by rw[Lib.repeatL,ag3 s n,List.replicate_succ,List.flatten_cons]
def ahD{X:Ctx}(hP:X.P=Tryz.prog)(hm:∀i,i<2->Ej X.MH 207 i=0)(fn:Func)(args:List V)(cells:List Cell)(rows:aA)(outs:List Cell)(hf:X.P.funcs[207]? =some fn)(h:Prim.strings_Repeat args cells=some (rows,outs))
  (base:Nat) (U:Nat->Prop) (w:World) (gargs jk:List Value) (N1 N2:List Nat) (hG:Given X base U w 207 args cells gargs jk N1 N2):
  Calls X.P 207 gargs.toArray w λe w'=>∃gs M1 M2,e=.returned (Y5 gs)∧Did X.P U w w' (N1++N2) fn.resultTypes.toList cells outs jk rows gs M1 M2:=by
 unfold Prim.strings_Repeat at h;split at h
 ·rename_i s n;unfold M.strings_Repeat at h;cases hc:((decide (0<=n) && decide (n<=1000000)) && Nat.ble s.length 1000000) with
  |false=>rw[hc] at h;cases h
  |true=>
   rw[hc] at h;cases h;simp only[FN,decide_eq_true_eq,Nat.ble_eq] at hc;obtain⟨⟨h0,h1⟩,h2⟩:=hc;obtain⟨c,rfl⟩:=Int.eq_ofNat_of_zero_le h0;obtain⟨rfl,rfl,rfl,hs⟩:=aan hG hm;have hg:gargs=[.string ⟨⟨s⟩⟩,.int .i64 (c:Int)]:=by simp only[bW,aK,ro] at hs;obtain⟨g,gs,rfl,rfl,g',gs',rfl,rfl,rfl⟩:=hs;rfl
   rw[hg];rw[hP] at hf⊢;have hfn:fn.resultTypes.toList=[9]:=by rw[Tryz.func207] at hf;cases hf;rfl
   have hlen:(⟨⟨s⟩⟩:ByteArray).size * c<=140737488355328:=by show s.length * c<=_;have:s.length * c<=1000000 * 1000000:=Nat.mul_le_mul h2 au;omega
   refine(Tryz.strings_Repeat ⟨⟨s⟩⟩ c w au hlen).mono ?_;rintro e w' ⟨rfl,hb⟩;rw[hfn];refine⟨[_],[],[],rfl,Vs (by kernel_rfl) (λ_ _=>⟨?_,rfl⟩) (ag2 hb)⟩;show Value.string ⟨(Lib.repeatL s c).toArray⟩=.string ⟨⟨_⟩⟩;rw[ag3];rfl
 ·cases h
def ac9{h:View}:∀{rows:aA} {l:List (aC)} {b o:Nat},aoM rows=some l->nV h 1 rows b o->rows.length=l.length∧∀j x,l[j]? =some x->h b (o+j)=some (.string ⟨⟨x⟩⟩)
 |[],_,b,o,e,_=>by cases e;exact⟨rfl,λj x h=>by simp at h⟩
 |r::rs,l,b,o,e,q=>by
  simp only[aoM] at e;split at e
  ·rename_i y;cases hd:aoM rs with
   |none=>rw[hd] at e;cases e
   |some l'=>
    rw[hd] at e;cases e;simp only[nV,xR] at q;obtain⟨_,⟨⟨v,hv,hvv⟩,_⟩,q⟩:=q;simp only[ro] at hvv;subst hvv;obtain⟨e1,e2⟩:=ac9 hd q;refine⟨by simp[e1],λj x hj=> ?_⟩;cases j with
    |zero=>simp at hj;subst hj;exact hv
    |succ j=>have:=e2 j x (by simpa using hj);rw[show o+(j+1)=o+1+j by omega];exact this
  ·cases e
def ag4(sep:aC):∀l,joinL sep l=Lib.join l sep
 |[]=>rfl
 |[x]=>by rw[Lib.join_one];rfl
 |x::y::l=>by rw[joinL,ag4 sep (y::l)];simp[Lib.join,List.intercalate,List.intersperse]
def ajc(sep:aC):∀l,(joinL sep l).length<=ak1 l+l.length * sep.length
 |[]=>by simp[joinL]
 |[x]=>by simp only[joinL,ak1];omega
 |x::y::l=>by have:=ajc sep (y::l);simp only[joinL,ak1,qx,mV] at *;rw[Nat.add_mul (l.length+1) 1];omega
def an8{X:Ctx}(hP:X.P=Tryz.prog)(hm:∀i,i<2->Ej X.MH 142 i=0)(fn:Func)(args:List V)(cells:List Cell)(rows:aA)(outs:List Cell)(hf:X.P.funcs[142]? =some fn)(h:Prim.strings_Join args cells=some (rows,outs))
  (base:Nat) (U:Nat->Prop) (w:World) (gargs jk:List Value) (N1 N2:List Nat) (hG:Given X base U w 142 args cells gargs jk N1 N2):
  Calls X.P 142 gargs.toArray w λe w'=>∃gs M1 M2,e=.returned (Y5 gs)∧Did X.P U w w' (N1++N2) fn.resultTypes.toList cells outs jk rows gs M1 M2:=by
 unfold Prim.strings_Join at h;split at h
 ·rename_i rws s;unfold M.strings_Join at h;split at h
  ·rename_i l hl;cases hc:Nat.ble (ak1 l+l.length * (s.length+1)) 4294967296 with
   |false=>rw[hc] at h;cases h
   |true=>
    rw[hc] at h;cases h;rw[Nat.ble_eq] at hc;obtain⟨rfl,rfl,rfl,hs⟩:=aan hG hm;simp only[bW,aK,ro] at hs;obtain⟨g,gs,rfl,⟨a,cap,rfl,hcap,hrow⟩,g',gs',rfl,rfl,rfl⟩:=hs;rw[hP] at hf⊢;have hfn:fn.resultTypes.toList=[9]:=by rw[Tryz.func142] at hf;cases hf;rfl
    rw[hfn];cases rws with
    |nil=>cases hl;refine(Tryz.strings_Join_none a cap ⟨⟨s⟩⟩ w).mono ?_;rintro e w' ⟨rfl,rfl⟩;exact⟨[_],[],[],rfl,Vs (by kernel_rfl) (λ_ _=>⟨rfl,rfl⟩) (Keep.refl _ _)⟩
    |cons r rs=>
     obtain⟨b,o,rfl,hr⟩:=hrow (by simp);obtain⟨e1,e2⟩:=ac9 hl hr;have hbs:b<w.heap.size:=by
      have h0:∃x,l[0]? =some x:=by
       cases l with
       |nil=>simp at e1
       |cons x l=>exact⟨x,rfl⟩
      obtain⟨x,hx⟩:=h0;have:=(Rz (e2 0 x hx)).2.2;exact cell_lt this
     have hlen:=ajc s l;have hmap:(l.map λx=>(⟨⟨x⟩⟩:ByteArray)).map (·.data.toList)=l:=by rw[List.map_map];exact List.map_id' l
     have ll:l.length<=140737488355328:=by rw[Nat.mul_add,Nat.mul_one] at hc;omega
     have C:=Tryz.strings_Join b o cap (l.map λx=>(⟨⟨x⟩⟩:ByteArray)) ⟨⟨s⟩⟩ w
      (λj x hj=>by
       rw[List.getElem?_map] at hj;cases hq:l[j]? with
       |none=>rw[hq] at hj;cases hj
       |some y=>rw[hq] at hj;cases hj;exact(Rz (e2 j y hq)).2.2)
      hbs (by rw[List.length_map];exact ll) (by rw[List.length_map,<-e1];exact hcap)
      (by rw[hmap,<-ag4];show(joinL s l).length<=_;rw[Nat.mul_add,Nat.mul_one] at hc;omega)
     rw[List.length_map,<-e1,hmap] at C;refine C.mono ?_;rintro e w' ⟨rfl,hb⟩;refine⟨[_],[],[],rfl,Vs (by kernel_rfl) (λ_ _=>⟨?_,rfl⟩) (ag2 hb)⟩;show Value.string ⟨(Lib.join l s).toArray⟩=.string ⟨⟨_⟩⟩;rw[<-ag4]
  ·cases h
 ·cases h
end Go.Proofs.YtbpldgeajbfgnaaGreatDoor
namespace Go.Proofs.YtbpldgeajbfgnaaGreatDoor
set_option linter.unusedVariables false
set_option linter.unusedSimpArgs false
open Go Go.Vm Go.RowKit
def akr{x:Int}(h:(Lit.int .i64 x).wf=true):I64 x:=bounds_i64 h
set_option maxRecDepth 100000 in
def open_ints'{n:Nat}{row:Row}(h:tyD Tryz.prog (n+2) 37 row):∃k:List Int,row=[.sl false 1 (Go.Vm.encI k)]∧k.length<=maxLen∧∀x,x∈k->I64 x:=by obtain⟨rows,rfl,hl,hr⟩:=asU Tryz.underlying37 h;obtain⟨k,rfl,hk⟩:=afo (f:=λx:Int=>[D.int .i64 x]) (p:=I64) (λr hr'=>by obtain⟨x,rfl,hx⟩:=ad7 Tryz.underlying3 (hr r hr');exact⟨x,rfl,akr hx⟩);exact⟨k,rfl,by simpa using hl,hk⟩
set_option maxRecDepth 100000 in
def ao9{n:Nat}{row:Row}(h:tyD Tryz.prog (n+3) 39 row):∃x:Nd,row=Si false x∧Fit x:=by have h:=aoH Tryz.underlying39 h;obtain⟨_,_,rfl,h1,h⟩:=UH h;obtain⟨_,_,rfl,h2,h⟩:=UH h;obtain⟨_,_,rfl,h3,h⟩:=UH h;obtain⟨_,_,rfl,h4,h⟩:=UH h;obtain⟨_,_,rfl,h5,h⟩:=UH h;obtain rfl:=asV h;obtain⟨a,rfl,wa⟩:=ad7 Tryz.underlying3 h1;obtain⟨b,rfl,wb⟩:=ad7 Tryz.underlying3 h2;obtain⟨c,rfl,wc⟩:=apC Tryz.underlying9 h3;obtain⟨d,rfl,wd⟩:=apC Tryz.underlying9 h4;obtain⟨k,rfl,wk,wk2⟩:=open_ints' h5;exact⟨⟨a,b,c,d,k⟩,rfl,⟨akr wa,akr wb,wc,wd,wk,wk2⟩⟩
set_option maxRecDepth 100000 in
def XJ{n:Nat}{row:Row}(h:tyD Tryz.prog (n+4) 22 row):∃l:List Nd,row=[.sl false 5 (bV false l)]∧l.length<=maxLen∧∀x,x∈l->Fit x:=by obtain⟨rows,rfl,hl,hr⟩:=asU Tryz.underlying22 h;obtain⟨l,rfl,hk⟩:=afo (f:=Si false) (p:=Fit) (λr hr'=>ao9 (hr r hr'));exact⟨l,rfl,by simpa using hl,hk⟩
def open_int'{n:Nat}{row:Row}(h:tyD Tryz.prog (n+1) 3 row):∃x:Int,row=[.int .i64 x]∧I64 x:=by obtain⟨x,rfl,wx⟩:=ad7 Tryz.underlying3 h;exact⟨x,rfl,akr wx⟩
def apa:ajw X0:=by
 intro f p fn args cells rows outs hx hf hb h base U w gargs jk N1 N2 hG;have hx':(bif Nat.beq f 116 then some Prim.kJ else bif Nat.beq f 103 then some Prim.strings_Split else bif Nat.beq f 207 then some Prim.strings_Repeat else bif Nat.beq f 142 then some Prim.strings_Join else bif Nat.beq f 202 then some Prim.strings_Contains else none)=some p:=hx;cases hq:Nat.beq f 116 with
 |true=>rw[hq] at hx';cases hx';have e:=yD hq;subst e;exact ahf rfl rfl fn args cells rows outs hf h base U w gargs jk N1 N2 hG
 |false=>
 rw[hq,bG] at hx';cases hq:Nat.beq f 103 with
 |true=>rw[hq] at hx';cases hx';have e:=yD hq;subst e;exact akq rfl (by decide) rfl fn args cells rows outs hf h base U w gargs jk N1 N2 hG
 |false=>
 rw[hq,bG] at hx';cases hq:Nat.beq f 207 with
 |true=>rw[hq] at hx';cases hx';have e:=yD hq;subst e;exact ahD rfl (by decide) fn args cells rows outs hf h base U w gargs jk N1 N2 hG
 |false=>
 rw[hq,bG] at hx';cases hq:Nat.beq f 142 with
 |true=>rw[hq] at hx';cases hx';have e:=yD hq;subst e;exact an8 rfl (by decide) fn args cells rows outs hf h base U w gargs jk N1 N2 hG
 |false=>
 rw[hq,bG] at hx';cases hq:Nat.beq f 202 with
 |true=>rw[hq] at hx';cases hx';have e:=yD hq;subst e;exact adU rfl (by decide) fn args cells rows outs hf h base U w gargs jk N1 N2 hG
 |false=>rw[hq] at hx';cases hx'
def own:ownKnob Tryz.prog.godebug=none:=by kernel_rfl
def laidOut:laidOutB Tryz.prog=true:=by kernel_rfl
def gK : Tryz.prog.globalNamed "loop.example/g01543/impl.keywords" = some 1 := by kernel_rfl
def gS : Tryz.prog.globalNamed "loop.example/g01543/impl.signs" = some 2 := by kernel_rfl
def gB : Tryz.prog.globalNamed "loop.example/g01543/impl.builtins" = some 0 := by kernel_rfl
def tK:(Tryz.prog.globals[1]?).map (·.type)=some 177:=by kernel_rfl
def tS:(Tryz.prog.globals[2]?).map (·.type)=some 178:=by kernel_rfl
def tB:(Tryz.prog.globals[0]?).map (·.type)=some 174:=by kernel_rfl
def c9:Tryz.prog.cellsOf 9=1:=by kernel_rfl
def dK:(Rows.laid_loop_example_g01543_impl_keywords:DataW Unit)=.agg (Xl.map λs=> .lit (.string s)):=by kernel_rfl
def dS:(Rows.laid_loop_example_g01543_impl_signs:DataW Unit)=.agg (UU.map λs=> .lit (.string s)):=by kernel_rfl
def dB:(Rows.laid_loop_example_g01543_impl_builtins:DataW Unit)=.agg (anj.map λs=> .lit (.string s)):=by kernel_rfl
def rK:zK=Xl.map D.str:=by kernel_rfl
def rS:QA=UU.map D.str:=by kernel_rfl
def rB:Hw=anj.map D.str:=by kernel_rfl
def awv{W:World}(hL:laidMetH Tryz.prog Rows.fnExactStmtDocRow.laid W)(hS:W.ShapedOpen Tryz.prog):ace X0 (full W):=by
 rw[MakeChecks.laidMetH_plain _ _ _ (by kernel_rfl)] at hL;obtain⟨ps,⟨g0,t0,cs0,f0,p0,q0,hg0,ht0,hv0,hd0,⟨g1,t1,cs1,f1,p1,q1,hg1,ht1,hv1,hd1,⟨g2,t2,cs2,f2,p2,q2,hg2,ht2,hv2,hd2,_,_⟩,_⟩,_⟩,_,_⟩:=hL;obtain rfl:=Option.some.inj (gK.symm.trans hg0);obtain rfl:=Option.some.inj (gS.symm.trans hg1);obtain rfl:=Option.some.inj (gB.symm.trans hg2);obtain rfl:=Option.some.inj (tK.symm.trans ht0);obtain rfl:=Option.some.inj (tS.symm.trans ht1);obtain rfl:=Option.some.inj (tB.symm.trans ht2);rw[dK] at hd0;rw[dS] at hd1;rw[dB] at hd2;refine⟨λg row h=> ?_,λg h=> ?_⟩
 ·have h':(bif Nat.beq g 2 then some QA else bif Nat.beq g 1 then some zK else bif Nat.beq g 0 then some Hw else none)=some row:=h;cases hq:Nat.beq g 2 with
  |true=>rw[hq] at h';cases h';have e:=yD hq;subst e;rw[rS];exact RF Tryz.underlying178 Tryz.underlying9 c9 hg1 hv1 hd1
  |false=>
  rw[hq,bG] at h';cases hq:Nat.beq g 1 with
  |true=>rw[hq] at h';cases h';have e:=yD hq;subst e;rw[rK];exact RF Tryz.underlying177 Tryz.underlying9 c9 hg0 hv0 hd0
  |false=>
  rw[hq,bG] at h';cases hq:Nat.beq g 0 with
  |true=>rw[hq] at h';cases h';have e:=yD hq;subst e;rw[rB];exact RF Tryz.underlying174 Tryz.underlying9 c9 hg2 hv2 hd2
  |false=>rw[hq] at h';cases h'
 ·have h':(bif Nat.beq g 3 then true else false)=true:=h;cases hq:Nat.beq g 3 with
  |false=>rw[hq] at h';cases h'
  |true=>have e:=yD hq;subst e;exact Go.Proofs.cell_of_shapedOpen_int (zero:=#[.int .i64 0]) hS (of_decide_eq_true (by kernel_rfl)) (by kernel_rfl) rfl (by kernel_rfl) (by kernel_rfl) Tryz.underlying3
end Go.Proofs.YtbpldgeajbfgnaaGreatDoor
namespace Go.Proofs.YtbpldgeajbfgnaaGreatDoor
set_option linter.unusedVariables false
set_option linter.unusedSimpArgs false
open Go Go.Vm Go.RowKit
def ajd{W:World}(hL:laidMetH Tryz.prog Rows.fnExactLineCountRow.laid W)(hS:W.ShapedOpen Tryz.prog):ace X0 (full W):=by
 rw[MakeChecks.laidMetH_plain _ _ _ (by kernel_rfl)] at hL;obtain⟨ps,⟨gA,tA,csA,fA,pA,qA,hgA,htA,hvA,hdA,⟨g0,t0,cs0,f0,p0,q0,hg0,ht0,hv0,hd0,⟨g1,t1,cs1,f1,p1,q1,hg1,ht1,hv1,hd1,⟨g2,t2,cs2,f2,p2,q2,hg2,ht2,hv2,hd2,⟨gF,tF,csF,fF,pF,qF,hgF,htF,hvF,hdF,_,_⟩,_⟩,_⟩,_⟩,_⟩,_,_⟩:=hL;obtain rfl:=Option.some.inj (gK.symm.trans hg0);obtain rfl:=Option.some.inj (gS.symm.trans hg1);obtain rfl:=Option.some.inj (gB.symm.trans hg2);obtain rfl:=Option.some.inj (tK.symm.trans ht0);obtain rfl:=Option.some.inj (tS.symm.trans ht1);obtain rfl:=Option.some.inj (tB.symm.trans ht2);rw[dK] at hd0;rw[dS] at hd1;rw[dB] at hd2;refine⟨λg row h=> ?_,λg h=> ?_⟩
 ·have h':(bif Nat.beq g 2 then some QA else bif Nat.beq g 1 then some zK else bif Nat.beq g 0 then some Hw else none)=some row:=h;cases hq:Nat.beq g 2 with
  |true=>rw[hq] at h';cases h';have e:=yD hq;subst e;rw[rS];exact RF Tryz.underlying178 Tryz.underlying9 c9 hg1 hv1 hd1
  |false=>
  rw[hq,bG] at h';cases hq:Nat.beq g 1 with
  |true=>rw[hq] at h';cases h';have e:=yD hq;subst e;rw[rK];exact RF Tryz.underlying177 Tryz.underlying9 c9 hg0 hv0 hd0
  |false=>
  rw[hq,bG] at h';cases hq:Nat.beq g 0 with
  |true=>rw[hq] at h';cases h';have e:=yD hq;subst e;rw[rB];exact RF Tryz.underlying174 Tryz.underlying9 c9 hg2 hv2 hd2
  |false=>rw[hq] at h';cases h'
 ·have h':(bif Nat.beq g 3 then true else false)=true:=h;cases hq:Nat.beq g 3 with
  |false=>rw[hq] at h';cases h'
  |true=>have e:=yD hq;subst e;exact Go.Proofs.cell_of_shapedOpen_int (zero:=#[.int .i64 0]) hS (of_decide_eq_true (by kernel_rfl)) (by kernel_rfl) rfl (by kernel_rfl) (by kernel_rfl) Tryz.underlying3
end Go.Proofs.YtbpldgeajbfgnaaGreatDoor
