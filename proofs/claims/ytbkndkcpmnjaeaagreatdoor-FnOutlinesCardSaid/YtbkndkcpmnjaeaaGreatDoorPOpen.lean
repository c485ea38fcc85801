import Derived.Shelf.Strings.Builder1
import Derived.Shelf.Strings.Builder2
import Derived.Shelf.Strings.OnBuilder
import Derived.Shelf.Strings.BuilderF
import Derived.Shelf.Strings.BuilderK
import Derived.Shelf.Strings.Builder2Cap
import Derived.Shelf.Strconv.Itoa0
import Derived.Shelf.Strconv.Itoa1
import Derived.Shelf.LaysM
import Derived.Shelf.Strconv.Itoa2
import Derived.Shelf.Strconv.Itoa3
import Derived.Shelf.Strings.Search1
import Derived.Shelf.Strings.Search2
import Derived.Shelf.Strings.Search3
import Derived.Shelf.Strings.Shaped
import Derived.Shelf.Strings.Prefix
import Derived.Shelf.Slices.Turned
import Derived.Test.YtbkndkcpmnjaeaaGreatDoorProg
import Derived.Test.YtbkndkcpmnjaeaaGreatDoorPPrim
import Derived.Test.YtbkndkcpmnjaeaaGreatDoorVm4
import Derived.Test.YtbkndkcpmnjaeaaGreatDoorZVal
import Derived.Test.YtbkndkcpmnjaeaaGreatDoorRows
import Derived.Test.YtbkndkcpmnjaeaaGreatDoorVm5
set_option linter.defProp false
namespace Go.Proofs
open Go.Shelf
def Tryz.lays156_ren:Go.Shelf.Ren:=⟨fun|156=>30|165=>58|166=>59|169=>60|240=>92|241=>93|276=>129|277=>130|n=>n,fun|31=>26|9=>9|3=>3|4=>4|0=>0|20=>20|72=>75|76=>79|70=>73|37=>22|75=>78|127=>102|164=>128|5=>5|80=>81|n=>n,fun|n=>n⟩
def Tryz.lays156:Go.Proofs.Lays.n156 Tryz.prog Tryz.lays156_ren:={
 mixed:=by kernel_rfl
 f156:=Tryz.func30.trans (congrArg some (by kernel_rfl))
 f165:=Tryz.func58.trans (congrArg some (by kernel_rfl))
 f166:=Tryz.func59.trans (congrArg some (by kernel_rfl))
 f169:=Tryz.func60.trans (congrArg some (by kernel_rfl))
 f240:=Tryz.func92.trans (congrArg some (by kernel_rfl))
 f241:=Tryz.func93.trans (congrArg some (by kernel_rfl))
 f276:=Tryz.func129.trans (congrArg some (by kernel_rfl))
 f277:=Tryz.func130.trans (congrArg some (by kernel_rfl))
 t0:=Tryz.underlying0
 a0:=Tryz.isAgg0
 z0:=Tryz.sizeOf0
 v0:=Tryz.zeroValue0
 t3:=Tryz.underlying3
 a3:=Tryz.isAgg3
 z3:=Tryz.sizeOf3
 v3:=Tryz.zeroValue3
 t4:=Tryz.underlying4
 a4:=Tryz.isAgg4
 z4:=Tryz.sizeOf4
 v4:=Tryz.zeroValue4
 t9:=Tryz.underlying9
 a9:=Tryz.isAgg9
 z9:=Tryz.sizeOf9
 v9:=Tryz.zeroValue9
 t20:=Tryz.underlying20
 a20:=Tryz.isAgg20
 z20:=Tryz.sizeOf20
 v20:=Tryz.zeroValue20
 t31:=Tryz.underlying26
 a31:=Tryz.isAgg26
 z31:=Tryz.sizeOf26
 v31:=Tryz.zeroValue26
 t37:=Tryz.underlying22
 a37:=Tryz.isAgg22
 z37:=Tryz.sizeOf22
 v37:=Tryz.zeroValue22
 t70:=Tryz.underlying73
 a70:=Tryz.isAgg73
 z70:=Tryz.sizeOf73
 v70:=Tryz.zeroValue73
 t72:=Tryz.underlying75
 a72:=Tryz.isAgg75
 z72:=Tryz.sizeOf75
 v72:=Tryz.zeroValue75
 t75:=Tryz.underlying78
 a75:=Tryz.isAgg78
 z75:=Tryz.sizeOf78
 v75:=Tryz.zeroValue78
 t76:=Tryz.underlying79
 a76:=Tryz.isAgg79
 z76:=Tryz.sizeOf79
 v76:=Tryz.zeroValue79
 t127:=Tryz.underlying102
 a127:=Tryz.isAgg102
 z127:=Tryz.sizeOf102
 v127:=Tryz.zeroValue102
 t164:=Tryz.underlying128
 a164:=Tryz.isAgg128
 z164:=Tryz.sizeOf128
 v164:=Tryz.zeroValue128}
def Tryz.laysM171_ren:Go.Shelf.Ren:=⟨fun|171=>44|243=>73|246=>105|283=>149|284=>150|285=>151|286=>152|129=>185|317=>184|318=>186|319=>187|320=>188|337=>208|338=>209|n=>n,fun|3=>3|9=>9|2=>2|4=>4|171=>145|0=>0|53=>146|37=>22|5=>5|173=>149|212=>169|51=>170|20=>20|213=>171|46=>108|232=>188|233=>189|n=>n,fun|17=>4|18=>5|19=>6|n=>n⟩
def Tryz.laysM171:Go.Proofs.LaysM.n171 Tryz.prog Tryz.laysM171_ren:={
 mixed:=by kernel_rfl
 f129:=Tryz.func185.trans (congrArg some (by kernel_rfl))
 f171:=Tryz.func44.trans (congrArg some (by kernel_rfl))
 f243:=Tryz.func73.trans (congrArg some (by kernel_rfl))
 f246:=Tryz.func105.trans (congrArg some (by kernel_rfl))
 f283:=Tryz.func149.trans (congrArg some (by kernel_rfl))
 f284:=Tryz.func150.trans (congrArg some (by kernel_rfl))
 f285:=Tryz.func151.trans (congrArg some (by kernel_rfl))
 f286:=Tryz.func152.trans (congrArg some (by kernel_rfl))
 f317:=Tryz.func184.trans (congrArg some (by kernel_rfl))
 f318:=Tryz.func186.trans (congrArg some (by kernel_rfl))
 f319:=Tryz.func187.trans (congrArg some (by kernel_rfl))
 f320:=Tryz.func188.trans (congrArg some (by kernel_rfl))
 f337:=Tryz.func208.trans (congrArg some (by kernel_rfl))
 f338:=Tryz.func209.trans (congrArg some (by kernel_rfl))
 t0:=Tryz.underlying0
 a0:=Tryz.isAgg0
 z0:=Tryz.sizeOf0
 v0:=Tryz.zeroValue0
 t2:=Tryz.underlying2
 a2:=Tryz.isAgg2
 z2:=Tryz.sizeOf2
 v2:=Tryz.zeroValue2
 t3:=Tryz.underlying3
 a3:=Tryz.isAgg3
 z3:=Tryz.sizeOf3
 v3:=Tryz.zeroValue3
 t4:=Tryz.underlying4
 a4:=Tryz.isAgg4
 z4:=Tryz.sizeOf4
 v4:=Tryz.zeroValue4
 t5:=Tryz.underlying5
 a5:=Tryz.isAgg5
 z5:=Tryz.sizeOf5
 v5:=Tryz.zeroValue5
 t9:=Tryz.underlying9
 a9:=Tryz.isAgg9
 z9:=Tryz.sizeOf9
 v9:=Tryz.zeroValue9
 t20:=Tryz.underlying20
 a20:=Tryz.isAgg20
 z20:=Tryz.sizeOf20
 v20:=Tryz.zeroValue20
 t37:=Tryz.underlying22
 a37:=Tryz.isAgg22
 z37:=Tryz.sizeOf22
 v37:=Tryz.zeroValue22
 t46:=Tryz.underlying108
 a46:=Tryz.isAgg108
 z46:=Tryz.sizeOf108
 v46:=Tryz.zeroValue108
 t51:=Tryz.underlying170
 a51:=Tryz.isAgg170
 z51:=Tryz.sizeOf170
 v51:=Tryz.zeroValue170
 t53:=Tryz.underlying146
 a53:=Tryz.isAgg146
 z53:=Tryz.sizeOf146
 v53:=Tryz.zeroValue146
 t171:=Tryz.underlying145
 a171:=Tryz.isAgg145
 z171:=Tryz.sizeOf145
 v171:=Tryz.zeroValue145
 t173:=Tryz.underlying149
 a173:=Tryz.isAgg149
 z173:=Tryz.sizeOf149
 v173:=Tryz.zeroValue149
 t212:=Tryz.underlying169
 a212:=Tryz.isAgg169
 z212:=Tryz.sizeOf169
 v212:=Tryz.zeroValue169
 t213:=Tryz.underlying171
 a213:=Tryz.isAgg171
 z213:=Tryz.sizeOf171
 t232:=Tryz.underlying188
 a232:=Tryz.isAgg188
 z232:=Tryz.sizeOf188
 v232:=Tryz.zeroValue188
 t233:=Tryz.underlying189
 a233:=Tryz.isAgg189
 z233:=Tryz.sizeOf189
 v233:=Tryz.zeroValue189
 g17:=by kernel_rfl
 g18:=by kernel_rfl
 g19:=by kernel_rfl
 i0:=by kernel_rfl
 i2:=by kernel_rfl
 i3:=by kernel_rfl
 i4:=by kernel_rfl
 i5:=by kernel_rfl
 i9:=by kernel_rfl
 i20:=by kernel_rfl
 i37:=by kernel_rfl
 i46:=by kernel_rfl
 i51:=by kernel_rfl
 i53:=by kernel_rfl
 i171:=by kernel_rfl
 i173:=by kernel_rfl
 i212:=by kernel_rfl
 i232:=by kernel_rfl
 i233:=by kernel_rfl
 m17:=by kernel_rfl
 m18:=by kernel_rfl
 m19:=by kernel_rfl}
def Tryz.lays144_ren:Go.Shelf.Ren:=⟨fun|144=>164|143=>195|219=>211|217=>217|225=>218|224=>219|267=>220|266=>222|314=>223|n=>n,fun|9=>9|4=>4|3=>3|5=>5|46=>108|146=>191|51=>170|n=>n,fun|1=>3|n=>n⟩
def Tryz.lays144:Go.Proofs.Lays.n144 Tryz.prog Tryz.lays144_ren:={
 mixed:=by kernel_rfl
 f143:=Tryz.func195.trans (congrArg some (by kernel_rfl))
 f144:=Tryz.func164.trans (congrArg some (by kernel_rfl))
 f217:=Tryz.func217.trans (congrArg some (by kernel_rfl))
 f219:=Tryz.func211.trans (congrArg some (by kernel_rfl))
 f224:=Tryz.func219.trans (congrArg some (by kernel_rfl))
 f225:=Tryz.func218.trans (congrArg some (by kernel_rfl))
 f266:=Tryz.func222.trans (congrArg some (by kernel_rfl))
 f267:=Tryz.func220.trans (congrArg some (by kernel_rfl))
 f314:=Tryz.func223.trans (congrArg some (by kernel_rfl))
 t3:=Tryz.underlying3
 a3:=Tryz.isAgg3
 z3:=Tryz.sizeOf3
 v3:=Tryz.zeroValue3
 t4:=Tryz.underlying4
 a4:=Tryz.isAgg4
 z4:=Tryz.sizeOf4
 v4:=Tryz.zeroValue4
 t5:=Tryz.underlying5
 a5:=Tryz.isAgg5
 z5:=Tryz.sizeOf5
 v5:=Tryz.zeroValue5
 t9:=Tryz.underlying9
 a9:=Tryz.isAgg9
 z9:=Tryz.sizeOf9
 v9:=Tryz.zeroValue9
 t46:=Tryz.underlying108
 a46:=Tryz.isAgg108
 z46:=Tryz.sizeOf108
 v46:=Tryz.zeroValue108
 t51:=Tryz.underlying170
 a51:=Tryz.isAgg170
 z51:=Tryz.sizeOf170
 v51:=Tryz.zeroValue170
 t146:=Tryz.underlying191
 a146:=Tryz.isAgg191
 z146:=Tryz.sizeOf191
 v146:=Tryz.zeroValue191
 g1:=by kernel_rfl}
def Tryz.Builder_Extra_156:Builder.Extra Tryz.prog Tryz.lays156_ren:={
 sizeBuilder:=by kernel_rfl
 liesBuilder:=by kernel_rfl
 t5:=Tryz.underlying5
 a5:=Tryz.isAgg5
 z5:=Tryz.sizeOf5
 v5:=Tryz.zeroValue5
 infoByte:=by kernel_rfl
 cellsByte:=by kernel_rfl
 sizeByte:=by kernel_rfl
 neB5:=by decide}
open Go.RowKit in
def Tryz.strings_Join_none(a:Option Addr)(c:Nat)(sep:ByteArray)(w:World):
  Calls Tryz.prog 30 #[.slice a 0 c,.string sep] w λe w'=>e=.returned (.string ⟨#[]⟩)∧w'=w:=Any.strings_Join_none Tryz.lays156 Tryz.Builder_Extra_156 a c sep w
open Go.RowKit in
def Tryz.strings_Join(bk o c:Nat)(xs:List ByteArray)(sep:ByteArray)(w:World)(hcells:∀(j:Nat) x,xs[j]? =some x->w.cell? ⟨bk,o+j,none⟩=some (.string x))(hbk:bk<w.heap.size)(hN:xs.length<=140737488355328)(hcap:xs.length<=c)(hlen:(Lib.join (xs.map (·.data.toList)) sep.data.toList).length<=140737488355328):
  Calls Tryz.prog 30 #[.slice (some ⟨bk,o,none⟩) xs.length c,.string sep] w λe w'=>e=.returned (.string ⟨(Lib.join (xs.map (·.data.toList)) sep.data.toList).toArray⟩)∧Below w.heap.size w w':=Any.strings_Join Tryz.lays156 Tryz.Builder_Extra_156 bk o c xs sep w hcells hbk hN hcap hlen
open Go.RowKit Go.Sort Go.Lib in
def Tryz.strconv_Itoa (n : Int) (h0 : -9223372036854775808 <= n) (h1 : n <= 9223372036854775807) (w : World) (htab : Lib.TabIs Tryz.prog w "internal/strconv.uint64pow10" .u64 Lib.pow10Tab) :
  Calls Tryz.prog 44 #[.int .i64 n] w λe w'=>e=.returned (.string ⟨(Lib.itoa n).toArray⟩)∧∃k os,w'=grow (w.drewN k) os:=Any.strconv_Itoa Tryz.laysM171 n h0 h1 w htab
open Go.RowKit Go.Lib in
def Tryz.strings_Contains_one(s:ByteArray)(c:UInt8)(w:World):
  Calls Tryz.prog 164 #[.string s,.string ⟨#[c]⟩] w λe w'=>e=.returned (.bool (decide (0<=Lib.indexByte s.data.toList c)))∧w'=w:=Any.strings_Contains_one Tryz.lays144 s c w
end Go.Proofs
namespace Go.Proofs.YtbkndkcpmnjaeaaGreatDoor
set_option linter.unusedVariables false
set_option linter.unusedSimpArgs false
open Go Go.Vm
def ab5{X:Ctx}(hP:X.P=Tryz.prog)(hm:∀i,i<2->DN X.JA 164 i=0)(fn:Func)(args:List V)(cells:List Cell)(rows:aA)(outs:List Cell)(hf:X.P.funcs[164]? =some fn)(h:Prim.strings_Contains args cells=some (rows,outs))
  (base:Nat) (U:Nat->Prop) (w:World) (gargs iW:List Value) (N1 N2:List Nat) (hG:Given X base U w 164 args cells gargs iW N1 N2):
  Calls X.P 164 gargs.toArray w λe w'=>∃gs M1 M2,e=.returned (YO gs)∧Did X.P U w w' (N1++N2) fn.resultTypes.toList cells outs iW rows gs M1 M2:=by
 unfold Prim.strings_Contains at h;split at h
 ·rename_i s t;unfold M.strings_Contains at h;split at h
  ·rename_i c;cases h;obtain⟨rfl,rfl,rfl,hs⟩:=adJ hG hm;rw[ame hs];rw[hP] at hf⊢;have hfn:fn.resultTypes.toList=[4]:=by rw[Tryz.func164] at hf;cases hf;rfl
   refine(Tryz.strings_Contains_one ⟨⟨s⟩⟩ c w).mono ?_;rintro e w' ⟨rfl,rfl⟩;rw[hfn];exact⟨[_],[],[],rfl,Ua (by kernel_rfl) (by kernel_rfl) (λ_ _=>⟨rfl,rfl⟩) (Keep.refl _ _)⟩
  ·cases h
 ·cases h
def cell_lt{w:World}{a:Addr}{v:Value}(h:w.cell? a=some v):a.block<w.heap.size:=by
 unfold World.cell? at h;cases hq:w.heap[a.block]? with
 |none=>rw[hq] at h;simp at h
 |some x=>exact(Array.getElem?_eq_some_iff.1 hq).1
def anc{w w':World}(h:Go.RowKit.Below w.heap.size w w'):Keep [] w w':=⟨h.os,h.tape,h.output,h.size,λb hb _=>h.block b hb⟩
def aby{h:View}:∀{rows:aA} {l:List (aF)} {b o:Nat},amn rows=some l->mY h 1 rows b o->rows.length=l.length∧∀j x,l[j]? =some x->h b (o+j)=some (.string ⟨⟨x⟩⟩)
 |[],_,b,o,e,_=>by cases e;exact⟨rfl,λj x h=>by simp at h⟩
 |r::rs,l,b,o,e,q=>by
  simp only[amn] at e;split at e
  ·rename_i y;cases hd:amn rs with
   |none=>rw[hd] at e;cases e
   |some l'=>
    rw[hd] at e;cases e;simp only[mY,uQ] at q;obtain⟨_,⟨⟨v,hv,hvv⟩,_⟩,q⟩:=q;simp only[ro] at hvv;subst hvv;obtain⟨e1,e2⟩:=aby hd q;refine⟨by simp[e1],λj x hj=> ?_⟩;cases j with
    |zero=>simp at hj;subst hj;exact hv
    |succ j=>have:=e2 j x (by simpa using hj);rw[show o+(j+1)=o+1+j by omega];exact this
  ·cases e
def ae8(sep:aF):∀l,joinL sep l=Lib.join l sep
 |[]=>rfl
 |[x]=>by rw[Lib.join_one];rfl
 |x::y::l=>by rw[joinL,ae8 sep (y::l)];simp[Lib.join,List.intercalate,List.intersperse]
def ag2(sep:aF):∀l,(joinL sep l).length<=aji l+l.length * sep.length
 |[]=>by simp[joinL]
 |[x]=>by simp only[joinL,aji];omega
 |x::y::l=>by have:=ag2 sep (y::l);simp only[joinL,aji,rX,oh] at *;rw[Nat.add_mul (l.length+1) 1];omega
def alz{X:Ctx}(hP:X.P=Tryz.prog)(hm:∀i,i<2->DN X.JA 30 i=0)(fn:Func)(args:List V)(cells:List Cell)(rows:aA)(outs:List Cell)(hf:X.P.funcs[30]? =some fn)(h:Prim.strings_Join args cells=some (rows,outs))
  (base:Nat) (U:Nat->Prop) (w:World) (gargs iW:List Value) (N1 N2:List Nat) (hG:Given X base U w 30 args cells gargs iW N1 N2):
  Calls X.P 30 gargs.toArray w λe w'=>∃gs M1 M2,e=.returned (YO gs)∧Did X.P U w w' (N1++N2) fn.resultTypes.toList cells outs iW rows gs M1 M2:=by
 unfold Prim.strings_Join at h;split at h
 ·rename_i rws s;unfold M.strings_Join at h;split at h
  ·rename_i l hl;cases hc:Nat.ble (aji l+l.length * (s.length+1)) 100000000000000 with
   |false=>rw[hc] at h;cases h
   |true=>
    rw[hc] at h;cases h;rw[Nat.ble_eq] at hc;obtain⟨rfl,rfl,rfl,hs⟩:=adJ hG hm;simp only[bT,aG,ro] at hs;obtain⟨g,gs,rfl,⟨a,cap,rfl,hcap,hrow⟩,g',gs',rfl,rfl,rfl⟩:=hs;rw[hP] at hf⊢;have hfn:fn.resultTypes.toList=[9]:=by rw[Tryz.func30] at hf;cases hf;rfl
    rw[hfn];cases rws with
    |nil=>cases hl;refine(Tryz.strings_Join_none a cap ⟨⟨s⟩⟩ w).mono ?_;rintro e w' ⟨rfl,rfl⟩;exact⟨[_],[],[],rfl,Ua (by kernel_rfl) (by kernel_rfl) (λ_ _=>⟨rfl,rfl⟩) (Keep.refl _ _)⟩
    |cons r rs=>
     obtain⟨b,o,rfl,hr⟩:=hrow (by simp);obtain⟨e1,e2⟩:=aby hl hr;have hbs:b<w.heap.size:=by
      have h0:∃x,l[0]? =some x:=by
       cases l with
       |nil=>simp at e1
       |cons x l=>exact⟨x,rfl⟩
      obtain⟨x,hx⟩:=h0;have:=(LD (e2 0 x hx)).2.2;exact cell_lt this
     have hlen:=ag2 s l;have hmap:(l.map λx=>(⟨⟨x⟩⟩:ByteArray)).map (·.data.toList)=l:=by rw[List.map_map];exact List.map_id' l
     have ll:l.length<=140737488355328:=by rw[Nat.mul_add,Nat.mul_one] at hc;omega
     have C:=Tryz.strings_Join b o cap (l.map λx=>(⟨⟨x⟩⟩:ByteArray)) ⟨⟨s⟩⟩ w
      (λj x hj=>by
       rw[List.getElem?_map] at hj;cases hq:l[j]? with
       |none=>rw[hq] at hj;cases hj
       |some y=>rw[hq] at hj;cases hj;exact(LD (e2 j y hq)).2.2)
      hbs (by rw[List.length_map];exact ll) (by rw[List.length_map,<-e1];exact hcap)
      (by rw[hmap,<-ae8];show(joinL s l).length<=_;rw[Nat.mul_add,Nat.mul_one] at hc;omega)
     rw[List.length_map,<-e1,hmap] at C;refine C.mono ?_;rintro e w' ⟨rfl,hb⟩;refine⟨[_],[],[],rfl,Ua (by kernel_rfl) (by kernel_rfl) (λ_ _=>⟨?_,rfl⟩) (anc hb)⟩;show Value.string ⟨(Lib.join l s).toArray⟩=.string ⟨⟨_⟩⟩;rw[<-ae8]
  ·cases h
 ·cases h
def aC7{X:Ctx}{U:Nat->Prop}{M:List Nat}{w:World}(hP:X.P=Tryz.prog)(hT:X.aAh 4=true)(hR:X.glob 4=some Qg)(hg:YA X (view w U (· ∈M)))(ht:alS X w):
  Lib.TabIs Tryz.prog w "internal/strconv.uint64pow10" .u64 Lib.pow10Tab := by
 obtain⟨x,row,cs,T,fr,h1,h2,h3⟩:=ht 4 hT;have hr:=hg.row 4 _ hR;have hl:row.length+1=20:=by rw[hR] at h1;have:=congrArg List.length (Option.some.inj h1);rw[oh] at this;rw[<-this,Qg,List.length_map,Lib.pow10Tab_length]
 have hgn : Tryz.prog.globalNamed "internal/strconv.uint64pow10" = some 4 := by kernel_rfl
 unfold Lib.TabIs World.var?;rw[hgn];simp only[Option.bind_some,h2,fF];apply Array.ext
 ·rw[h3,hl,List.size_toArray,List.length_map,Lib.pow10Tab_length]
 ·intro i hi hi';rw[h3,hl] at hi;have hz:i<Lib.pow10Tab.length:=by rw[Lib.pow10Tab_length];exact hi
  have hrow:Qg[i]? =some (D.int .u64 Lib.pow10Tab[i]):=by rw[Qg,List.getElem?_map,List.getElem?_eq_getElem hz];rfl
  obtain⟨v,hv,hro⟩:=V3 hr hrow;simp only[ro] at hro;subst hro;have hc:=(LD hv).2.2;unfold World.cell? at hc;rw[h2] at hc;simp only[Option.isSome_none,Bool.false_eq_true,if_false,Nat.zero_add] at hc;rw[Array.getElem?_eq_getElem au] at hc;rw[Option.some.inj hc];simp
def apN{w:World}{k:Nat}{os:Array Obj}:Keep [] w (Sort.grow (w.drewN k) os):=by
 refine⟨rfl,rfl,rfl, ?_,λb hb _=> ?_⟩
 ·show w.heap.size<=(w.heap++os).size;rw[Array.size_append];omega
 ·show(w.heap++os)[b]? =w.heap[b]?;rw[Array.getElem?_append_left hb]
def alA{X:Ctx}(hP:X.P=Tryz.prog)(hm:∀i,i<1->DN X.JA 44 i=0)(hT:X.aAh 4=true)(hR:X.glob 4=some Qg)(fn:Func)(args:List V)(cells:List Cell)(rows:aA)(outs:List Cell)(hf:X.P.funcs[44]? =some fn)(h:Prim.strconv_Itoa args cells=some (rows,outs))
  (base:Nat) (U:Nat->Prop) (w:World) (gargs iW:List Value) (N1 N2:List Nat) (hG:Given X base U w 44 args cells gargs iW N1 N2):
  Calls X.P 44 gargs.toArray w λe w'=>∃gs M1 M2,e=.returned (YO gs)∧Did X.P U w w' (N1++N2) fn.resultTypes.toList cells outs iW rows gs M1 M2:=by
 unfold Prim.strconv_Itoa at h;split at h
 ·rename_i n;unfold M.strconv_Itoa at h;cases hc:(decide (-9223372036854775808<=n) && decide (n<=9223372036854775807)) with
  |false=>rw[hc] at h;cases h
  |true=>
   rw[hc] at h;cases h;simp only[vF,decide_eq_true_eq] at hc;obtain⟨rfl,rfl,rfl,hs⟩:=adJ hG hm;have hg:gargs=[.int .i64 n]:=by simp only[bT,aG,ro] at hs;obtain⟨g,gs,rfl,rfl,rfl⟩:=hs;rfl
   rw[hg];have htab:=aC7 hP hT hR hG.gl hG.tab;rw[hP] at hf⊢;have hfn:fn.resultTypes.toList=[9]:=by rw[Tryz.func44] at hf;cases hf;rfl
   refine(Tryz.strconv_Itoa n hc.1 hc.2 w htab).mono ?_;rintro e w' ⟨rfl,k,os,rfl⟩;rw[hfn];exact⟨[_],[],[],rfl,Ua (by kernel_rfl) (by kernel_rfl) (λ_ _=>⟨rfl,rfl⟩) apN⟩
 ·cases h
end Go.Proofs.YtbkndkcpmnjaeaaGreatDoor
namespace Go.Proofs.YtbkndkcpmnjaeaaGreatDoor
set_option linter.unusedVariables false
set_option linter.unusedSimpArgs false
open Go Go.Vm Go.RowKit
set_option maxRecDepth 100000 in
def ane{n:Nat}{row:Row}(h:tyD Tryz.prog (n+2) 22 row):∃c:aF,row=[.sl false 1 (c.map byteRow)]∧c.length<=maxLen:=by
 obtain⟨rows,rfl,hl,hr⟩:=aAP Tryz.underlying22 h;obtain⟨c,rfl,_⟩:=aje (f:=byteRow) (p:=λ_=>True) (λr hr'=>by
  obtain⟨x,rfl,hx⟩:=avg Tryz.underlying5 (hr r hr');have h':0<=x∧x<=255:=by simp[Lit.wf,IntKind.min,IntKind.max,IntKind.signed,IntKind.bits] at hx;omega
  refine⟨UInt8.ofNat x.toNat, ?_,trivial⟩;rw[byteRow,UInt8.toNat_ofNat'];congr 2;omega)
 exact⟨c,rfl,by simpa using hl⟩
def aC8:ahm X0:=by
 intro f p fn args cells rows outs hx hf hb h base U w gargs iW N1 N2 hG;have hx':(bif Nat.beq f 74 then some Prim.gY else bif Nat.beq f 44 then some Prim.strconv_Itoa else bif Nat.beq f 30 then some Prim.strings_Join else bif Nat.beq f 164 then some Prim.strings_Contains else none)=some p:=hx;cases hq:Nat.beq f 74 with
 |true=>rw[hq] at hx';cases hx';have e:=qU hq;subst e;exact afk rfl rfl fn args cells rows outs hf h base U w gargs iW N1 N2 hG
 |false=>
 rw[hq,bZ] at hx';cases hq:Nat.beq f 44 with
 |true=>rw[hq] at hx';cases hx';have e:=qU hq;subst e;exact alA rfl (by decide) rfl rfl fn args cells rows outs hf h base U w gargs iW N1 N2 hG
 |false=>
 rw[hq,bZ] at hx';cases hq:Nat.beq f 30 with
 |true=>rw[hq] at hx';cases hx';have e:=qU hq;subst e;exact alz rfl (by decide) fn args cells rows outs hf h base U w gargs iW N1 N2 hG
 |false=>
 rw[hq,bZ] at hx';cases hq:Nat.beq f 164 with
 |true=>rw[hq] at hx';cases hx';have e:=qU hq;subst e;exact ab5 rfl (by decide) fn args cells rows outs hf h base U w gargs iW N1 N2 hG
 |false=>rw[hq] at hx';cases hx'
def own:ownKnob Tryz.prog.godebug=none:=by kernel_rfl
def laidOut:laidOutB Tryz.prog=true:=by kernel_rfl
def gK : Tryz.prog.globalNamed "loop.example/g01543/impl.keywords" = some 1 := by kernel_rfl
def gS : Tryz.prog.globalNamed "loop.example/g01543/impl.signs" = some 2 := by kernel_rfl
def gB : Tryz.prog.globalNamed "loop.example/g01543/impl.builtins" = some 0 := by kernel_rfl
def tK:(Tryz.prog.globals[1]?).map (·.type)=some 158:=by kernel_rfl
def tS:(Tryz.prog.globals[2]?).map (·.type)=some 159:=by kernel_rfl
def tB:(Tryz.prog.globals[0]?).map (·.type)=some 157:=by kernel_rfl
def c9:Tryz.prog.cellsOf 9=1:=by kernel_rfl
def dK:(Rows.laid_loop_example_g01543_impl_keywords:DataW Unit)=.agg (UR.map λs=> .lit (.string s)):=by kernel_rfl
def dS:(Rows.laid_loop_example_g01543_impl_signs:DataW Unit)=.agg (RN.map λs=> .lit (.string s)):=by kernel_rfl
def dB:(Rows.laid_loop_example_g01543_impl_builtins:DataW Unit)=.agg (ahN.map λs=> .lit (.string s)):=by kernel_rfl
def rK:Bl=UR.map D.str:=by kernel_rfl
def rS:Qe=RN.map D.str:=by kernel_rfl
def rB:Jq=ahN.map D.str:=by kernel_rfl
def apO{P:Program}{w:World}{nm:String}{g t e n fuel:Nat}{k:IntKind}{cs:Array Value}{zs:List Int}{p:List MemPlace}(hu:P.underlying t=some (.array n e))(he:P.underlying e=some (.int k))(hc:P.cellsOf e=1)(hn:P.cellsOf t=n)
  (hg:P.globalNamed nm=some g) (hv:w.var? P nm=some cs) (h:DataW.trod (λ_=>()) P w 0 (λ_=>true) false fuel t cs.toList=some (.agg (zs.map λz=> .lit (.int k z)),p)):uQ (full w) (zs.map λz=>D.int k z) g 0∧∃T fr,w.heap[g]? =some (.cells cs T fr)∧cs.size=zs.length:=by
 obtain⟨xs,m,rfl,hx,hcl,hxl,hel⟩:=DataW.trod_array hu h;simp only[iP,DataW.agg.injEq] at hx;have hlen:zs.length=xs.length:=by have:=congrArg List.length hx.1;simpa using this
 constructor
 ·refine adT _ 0 λj x hj=> ?_
  rw[List.getElem?_map] at hj;cases hs:zs[j]? with
  |none=>rw[hs] at hj;cases hj
  |some s=>
   rw[hs] at hj;cases hj;have hjl:j<zs.length:=(Jm.1 hs).1;obtain⟨y,hy⟩:∃y,xs[j]? =some y:=⟨xs[j]'au,by simp⟩
   have hh:=hel j au;rw[hy] at hh;obtain⟨b,hb1,hb2,_⟩:=DataW.trod_int he hh;have hyx:y.1=.lit (.int k s):=by have:=congrArg (λl=>l[j]?) hx.1;simp only[List.getElem?_map,hs,hy,Ic,fF] at this;exact this.symm
   rw[hb2] at hyx;simp only[DataW.lit.injEq,Lit.int.injEq,true_and] at hyx;rw[hc,Nat.mul_one] at hb1;have hcell:cs[j]? =some (.int k b):=by have:=congrArg (λl=>l[0]?) hb1;simpa using this
   refine⟨.int k b, ?_, ?_⟩
   ·have:=World.var?_cell hg hv j;rw[Nat.zero_add];show w.cell? ⟨g,j,none⟩=_;rw[this];exact hcell
   ·simp only[ro];rw[<-hyx]
 ·unfold World.var? at hv;rw[hg,Option.bind_some] at hv;split at hv
  ·rename_i cs' T fr hh;cases hv;refine⟨T,fr,hh, ?_⟩;rw[hn,Array.length_toList] at hcl;omega
  ·cases hv
def gT : Tryz.prog.globalNamed "internal/strconv.uint64pow10" = some 4 := by kernel_rfl
def tT:(Tryz.prog.globals[4]?).map (·.type)=some 169:=by kernel_rfl
def c8:Tryz.prog.cellsOf 146=1:=by kernel_rfl
def dT:(Rows.laid_internal_strconv_uint64pow10:DataW Unit)=.agg (Lib.pow10Tab.map λz=> .lit (.int .u64 z)):=by kernel_rfl
def aAg{W:World}(hL:laidMetH Tryz.prog Rows.fnOutlinesRow.laid W)(hS:W.ShapedOpen Tryz.prog):YA X0 (full W)∧alS X0 W:=by
 rw[MakeChecks.laidMetH_plain _ _ _ (by kernel_rfl)] at hL;obtain⟨ps,⟨gA,tA,csA,fA,pA,qA,hgA,htA,hvA,hdA,⟨gC,tC,csC,fC,pC,qC,hgC,htC,hvC,hdC,⟨g3,t3,cs3,f3,p3,q3,hg3,ht3,hv3,hd3,⟨g0,t0,cs0,f0,p0,q0,hg0,ht0,hv0,hd0,⟨g1,t1,cs1,f1,p1,q1,hg1,ht1,hv1,hd1,⟨g2,t2,cs2,f2,p2,q2,hg2,ht2,hv2,hd2,_,_⟩,_⟩,_⟩,_⟩,_⟩,_⟩,_,_⟩:=hL;obtain rfl:=Option.some.inj (gK.symm.trans hg0);obtain rfl:=Option.some.inj (gS.symm.trans hg1);obtain rfl:=Option.some.inj (gB.symm.trans hg2);obtain rfl:=Option.some.inj (gT.symm.trans hg3);obtain rfl:=Option.some.inj (tK.symm.trans ht0);obtain rfl:=Option.some.inj (tS.symm.trans ht1);obtain rfl:=Option.some.inj (tB.symm.trans ht2);obtain rfl:=Option.some.inj (tT.symm.trans ht3);rw[dK] at hd0;rw[dS] at hd1;rw[dB] at hd2;rw[dT] at hd3;have hT3:=apO Tryz.underlying169 Tryz.underlying146 c8 (by kernel_rfl) hg3 hv3 hd3;refine⟨⟨λg row h=> ?_,λg h=> ?_⟩,λg h=> ?_⟩
 ·have h':(bif Nat.beq g 4 then some Qg else bif Nat.beq g 0 then some Jq else bif Nat.beq g 1 then some Bl else bif Nat.beq g 2 then some Qe else none)=some row:=h;cases hq:Nat.beq g 4 with
  |true=>rw[hq] at h';cases h';have e:=qU hq;subst e;exact hT3.1
  |false=>
  rw[hq,bZ] at h';cases hq:Nat.beq g 0 with
  |true=>rw[hq] at h';cases h';have e:=qU hq;subst e;rw[rB];exact ZV Tryz.underlying157 Tryz.underlying9 c9 hg2 hv2 hd2
  |false=>
  rw[hq,bZ] at h';cases hq:Nat.beq g 1 with
  |true=>rw[hq] at h';cases h';have e:=qU hq;subst e;rw[rK];exact ZV Tryz.underlying158 Tryz.underlying9 c9 hg0 hv0 hd0
  |false=>
  rw[hq,bZ] at h';cases hq:Nat.beq g 2 with
  |true=>rw[hq] at h';cases h';have e:=qU hq;subst e;rw[rS];exact ZV Tryz.underlying159 Tryz.underlying9 c9 hg1 hv1 hd1
  |false=>rw[hq] at h';cases h'
 ·have h':(bif Nat.beq g 3 then true else false)=true:=h;cases hq:Nat.beq g 3 with
  |false=>rw[hq] at h';cases h'
  |true=>have e:=qU hq;subst e;exact Go.Proofs.cell_of_shapedOpen_int (zero:=#[.int .i64 0]) hS (of_decide_eq_true (by kernel_rfl)) (by kernel_rfl) rfl (by kernel_rfl) (by kernel_rfl) Tryz.underlying3
 ·have h':(bif Nat.beq g 4 then true else false)=true:=h;cases hq:Nat.beq g 4 with
  |false=>rw[hq] at h';cases h'
  |true=>have e:=qU hq;subst e;obtain⟨T,fr,hh,hsz⟩:=hT3.2;exact⟨_,_,cs3,T,fr,rfl,hh,hsz.trans Lib.pow10Tab_length⟩
end Go.Proofs.YtbkndkcpmnjaeaaGreatDoor
