/-
  Texts of this claim, one behind the other: Shelf, Nm, Ta, Tb, Sp, B1, Lit, Jg, Ut, Ho, BJ, B5, B2, B6, B3, B4, B7, So, BH, BI, Br, If, Pan, BE, It, BN, B9, BD, BK, Mp, Mq, At, Lo, BO, BF.
-/
import Derived.Test.YtfbnfhhmiiahnaaGreatDoorOa
import Derived.Shelf.Strings.Builder1
import Derived.Shelf.Strings.Builder2
import Derived.Shelf.Strings.OnBuilder
import Derived.Shelf.Small.Utf8
import Derived.Shelf.Small.Bits
import Derived.Shelf.Small.Strs
import Derived.Shelf.Small.Wraps
import Derived.Shelf.Strings.BuilderF
import Derived.Shelf.Strings.BuilderK
import Derived.Shelf.Utf8.RuneCount
import Derived.Shelf.Strings.Builder2Cap
import Derived.Shelf.Strconv.Itoa0
import Derived.Shelf.Strings.Search1
import Derived.Shelf.Strings.Search2
import Derived.Shelf.Strings.Search3
import Derived.Shelf.Strings.Count
import Derived.Shelf.LaysM
import Derived.Shelf.Strings.Shaped
import Derived.Shelf.GgClosure.StringsIndexFunc
import Derived.Ground.GgwProg
import Derived.Shelf.GgClosure.StringsIndexFuncTop
import Derived.Shelf.GgClosure.StringsRunes
import Derived.Shelf.Strings.Prefix
import Derived.Shelf.Strings.Split
import Derived.Shelf.Strings.SplitShaped
import Derived.Shelf.Unicode.Decode
import Derived.Shelf.Strings.Runes
import Derived.Shelf.Strings.RuneCount
import Derived.Shelf.Strings.Explode
import Derived.Shelf.Unicode.DecodeSlow
import Derived.Shelf.Unicode.DecodeAny
import Derived.Shelf.Strings.FuncGrows
import Derived.Shelf.Strings.BuilderCap
import Derived.Shelf.Slices.Turned
import Derived.Ground.Names2Prog
import Derived.Shelf.Slices.ReverseS
import Derived.Shelf.Slices.Clone
import Derived.Shelf.Slices.Cells
import Derived.Ground.SlsfProg
import Derived.Shelf.SlSortCmp.Insertion
import Derived.Shelf.SlSortCmp.SiftDown1
import Derived.Shelf.SlSortCmp.HeapSort1
import Derived.Shelf.SlSortCmp.Insertion1
import Derived.Shelf.SlSortCmp.Median1
import Derived.Shelf.SlSortCmp.Pivot1
import Derived.Shelf.SlSortCmp.ReverseRange1
import Derived.Shelf.SlSortCmp.PartialInsertion1
import Derived.Shelf.SlSortCmp.PartitionEqual1
import Derived.Shelf.SlSortCmp.Partition1
import Derived.Shelf.SlSortCmp.Pdq1
import Derived.Shelf.SlSortCmp.Whole1
import Derived.Shelf.SlSortCmp.NoneTotal
import Derived.Test.YtfbnfhhmiiahnaaGreatDoorProg
import Derived.Lib.IndexLaws
import Derived.StringKeys
import Derived.DeepKeys3
import Derived.Sort.Row
import Derived.Sort.Grow
import Derived.Lib.Join
import Derived.Lib.SplitLaws
import Derived.Shelf.Strings.SplitCore
import Derived.Lib.IfaceEq
import Derived.WideLaws
import Derived.Defers
import Derived.Recover
import Derived.Laws.Cover1
import Derived.Lib.OthersKept
import Derived.Lib.TrimUEq
import Derived.Laws.BitsLemmas
set_option linter.all false
set_option maxHeartbeats 16000000
set_option maxRecDepth 8000
open Nat renaming zero_le → anq,le_refl → aap,add_mul → aaR,zero_add → ace,strongRecOn → aoI,mul_one → anx,blt → ada,blt_eq → ana,eq_zero_or_pos → anY,one_mul → ao2,zero_mul → anV,add_sub_cancel → ao4,mul_add → ao5,pow_succ → ao6
open List renaming mem_of_getElem? → aop,length_take → anD,length_cons → anJ,drop_length → aoG,flatMap_cons → aoH,range → ab8,getElem?_eq_getElem → anv,getD_eq_getElem?_getD → an7,getElem?_map → an3,getElem?_take → aaQ,take_length → aon,cons_append → am8,length_append → am7,nil_append → ang,foldl_cons → aoK,take_add_one → aoL,drop_eq_getElem_cons → anF,size_toArray → anu,map_append → aoN,eq_nil_of_length_eq_zero → anf,drop_eq_nil_of_le → aoO,map_toArray → am9,take → aoP,map_map → aoz,length_map → aoR,append_nil → aoS,getElem?_range → aoT,getElem?_eq_none → anl,length_singleton → anM,take_append_drop → aob,take_of_length_le → anL,length_drop → anS,find?_cons_of_neg → aoU,foldl → ao3,drop_zero → anK,ext_getElem? → anC,getElem?_drop → ad6,map_cons → acd,getLast?_eq_getElem? → ao7,headD_eq_head?_getD → ao8,head?_eq_getElem? → ao9,find?_cons_of_pos → apa,mem_of_find?_eq_some → apb,all_cons → apc,lt_trans → apd,attach_map_subtype_val → ape,length_attach → apf,getElem_mem → aph,getElem?_set → anO,getElem?_cons_succ → apl,getElem?_cons_zero → apm
open UInt8 renaming ofNat → aoD,toNat_ofNat' → aoW
open Bool renaming true_and → aoE,false_and → aoF,eq_false_iff → an6,and_eq_true → ann,not_false → aoM,and_false → aoX,not_true → aoY,not_eq_false → ao1,or_true → apj
open Option renaming map_some → am6,getD_some → ao0,map_none → ani,map_map → apk
open Int renaming toNat_natCast → ant,eq_ofNat_of_zero_le → ane,lt_or_le → apg
open Array renaming getD_eq_getD_getElem? → ab9,getElem?_modify → aoJ,getElem?_toList → aoQ,getElem?_append_left → aoV,replicate → anp
open Decidable renaming not_not → aoZ
open Go.Proofs.Tryz
namespace Go.Proofs
open Go.Shelf
def jP:Go.Shelf.Ren:=⟨fun|156=>78|165=>102|166=>103|169=>104|240=>133|241=>134|276=>156|277=>157|n=>n,fun|31=>24|9=>9|3=>3|4=>4|0=>0|20=>20|72=>227|76=>230|70=>224|37=>225|75=>229|127=>264|164=>288|5=>5|80=>232|n=>n,fun|n=>n⟩
theorem jQ:Go.Proofs.Lays.n156 prog jP:={
 mixed:=by kernel_rfl
 f156:=func78.trans (congrArg some (by kernel_rfl))
 f165:=func102.trans (congrArg some (by kernel_rfl))
 f166:=func103.trans (congrArg some (by kernel_rfl))
 f169:=func104.trans (congrArg some (by kernel_rfl))
 f240:=func133.trans (congrArg some (by kernel_rfl))
 f241:=func134.trans (congrArg some (by kernel_rfl))
 f276:=func156.trans (congrArg some (by kernel_rfl))
 f277:=func157.trans (congrArg some (by kernel_rfl))
 t0:=underlying0
 a0:=isAgg0
 z0:=sizeOf0
 v0:=zeroValue0
 t3:=underlying3
 a3:=isAgg3
 z3:=sizeOf3
 v3:=zeroValue3
 t4:=underlying4
 a4:=isAgg4
 z4:=sizeOf4
 v4:=zeroValue4
 t9:=underlying9
 a9:=isAgg9
 z9:=sizeOf9
 v9:=zeroValue9
 t20:=underlying20
 a20:=isAgg20
 z20:=sizeOf20
 v20:=zeroValue20
 t31:=underlying24
 a31:=isAgg24
 z31:=sizeOf24
 v31:=zeroValue24
 t37:=underlying225
 a37:=isAgg225
 z37:=sizeOf225
 v37:=zeroValue225
 t70:=underlying224
 a70:=isAgg224
 z70:=sizeOf224
 v70:=zeroValue224
 t72:=underlying227
 a72:=isAgg227
 z72:=sizeOf227
 v72:=zeroValue227
 t75:=underlying229
 a75:=isAgg229
 z75:=sizeOf229
 v75:=zeroValue229
 t76:=underlying230
 a76:=isAgg230
 z76:=sizeOf230
 v76:=zeroValue230
 t127:=underlying264
 a127:=isAgg264
 z127:=sizeOf264
 v127:=zeroValue264
 t164:=underlying288
 a164:=isAgg288
 z164:=sizeOf288
 v164:=zeroValue288}
theorem jR:Builder.Extra prog jP:={
 sizeBuilder:=by kernel_rfl
 liesBuilder:=by kernel_rfl
 t5:=underlying5
 a5:=isAgg5
 z5:=sizeOf5
 v5:=zeroValue5
 infoByte:=by kernel_rfl
 cellsByte:=by kernel_rfl
 sizeByte:=by kernel_rfl
 neB5:=by decide}
open Go.RowKit in
theorem lu (a:Option Addr) (c:Nat) (sep:ByteArray) (w:World):
 Calls prog 78 #[.slice a 0 c,.string sep] w fun e w'=>e=.returned (.string ⟨#[]⟩)/\w'=w:=Any.strings_Join_none jQ jR a c sep w
open Go.RowKit in
theorem lC (bk o c:Nat) (xs:List ByteArray) (sep:ByteArray) (w:World) (hcells: ∀(j:Nat) x,xs[j]? =some x->w.cell? ⟨bk,o+j,none⟩=some (.string x)) (hbk:bk<w.heap.size) (hN:xs.length<=140737488355328) (hcap:xs.length<=c) (hlen:(Lib.join (xs.map (·.data.toList)) sep.data.toList).length<=140737488355328):
 Calls prog 78 #[.slice (some ⟨bk,o,none⟩) xs.length c,.string sep] w fun e w'=>e=.returned (.string ⟨(Lib.join (xs.map (·.data.toList)) sep.data.toList).toArray⟩)/\Below w.heap.size w w':=Any.strings_Join jQ jR bk o c xs sep w hcells hbk hN hcap hlen
def lD:Go.Shelf.Ren:=⟨fun|119=>171|n=>n,fun|21=>21|4=>4|n=>n,fun|n=>n⟩
theorem lF:Go.Proofs.Lays.n119 prog lD:={
 mixed:=by kernel_rfl
 f119:=func171.trans (congrArg some (by kernel_rfl))
 t4:=underlying4
 a4:=isAgg4
 z4:=sizeOf4
 v4:=zeroValue4
 t21:=underlying21
 a21:=isAgg21
 z21:=sizeOf21
 v21:=zeroValue21}
theorem lG (r:Int) (w:World):
 Calls prog 171 #[.int .i32 r] w fun e w'=>e=.returned (.bool (Lib.validRune r))/\w'=w:=Any.utf8_ValidRune lF r w
def lH:Go.Shelf.Ren:=⟨fun|137=>112|217=>139|266=>160|n=>n,fun|9=>9|5=>5|3=>3|n=>n,fun|n=>n⟩
theorem lI:Go.Proofs.Lays.n137 prog lH:={
 mixed:=by kernel_rfl
 f137:=func112.trans (congrArg some (by kernel_rfl))
 f217:=func139.trans (congrArg some (by kernel_rfl))
 f266:=func160.trans (congrArg some (by kernel_rfl))
 t3:=underlying3
 a3:=isAgg3
 z3:=sizeOf3
 v3:=zeroValue3
 t5:=underlying5
 a5:=isAgg5
 z5:=sizeOf5
 v5:=zeroValue5
 t9:=underlying9
 a9:=isAgg9
 z9:=sizeOf9
 v9:=zeroValue9}
open Go.RowKit in
theorem lJ (s:ByteArray) (c:Int) (w:World):
 Calls prog 112 #[.string s,.int .u8 c] w fun e w'=>e=.returned (.int .i64 (Lib.indexByte s.data.toList c.toNat.toUInt8))/\w'=w:=Any.strings_IndexByte lI s c w
def lK:Go.Shelf.Ren:=⟨fun|143=>177|219=>185|217=>139|225=>173|224=>172|267=>199|266=>160|314=>208|n=>n,fun|9=>9|3=>3|4=>4|5=>5|46=>214|146=>338|51=>181|n=>n,fun|1=>0|n=>n⟩
theorem lM:Go.Proofs.Lays.n143 prog lK:={
 mixed:=by kernel_rfl
 f143:=func177.trans (congrArg some (by kernel_rfl))
 f217:=func139.trans (congrArg some (by kernel_rfl))
 f219:=func185.trans (congrArg some (by kernel_rfl))
 f224:=func172.trans (congrArg some (by kernel_rfl))
 f225:=func173.trans (congrArg some (by kernel_rfl))
 f266:=func160.trans (congrArg some (by kernel_rfl))
 f267:=func199.trans (congrArg some (by kernel_rfl))
 f314:=func208.trans (congrArg some (by kernel_rfl))
 t3:=underlying3
 a3:=isAgg3
 z3:=sizeOf3
 v3:=zeroValue3
 t4:=underlying4
 a4:=isAgg4
 z4:=sizeOf4
 v4:=zeroValue4
 t5:=underlying5
 a5:=isAgg5
 z5:=sizeOf5
 v5:=zeroValue5
 t9:=underlying9
 a9:=isAgg9
 z9:=sizeOf9
 v9:=zeroValue9
 t46:=underlying214
 a46:=isAgg214
 z46:=sizeOf214
 v46:=zeroValue214
 t51:=underlying181
 a51:=isAgg181
 z51:=sizeOf181
 v51:=zeroValue181
 t146:=underlying338
 a146:=isAgg338
 z146:=sizeOf338
 v146:=zeroValue338
 g1:=by kernel_rfl}
open Go.RowKit Go.Lib in
theorem lN (s:ByteArray) (c:UInt8) (w:World):
 Calls prog 177 #[.string s,.string ⟨#[c]⟩] w fun e w'=>e=.returned (.int .i64 (Lib.indexByte s.data.toList c))/\w'=w:=Any.strings_Index_one lM s c w
def lQ:Go.Shelf.Ren:=⟨fun|138=>176|195=>182|218=>184|143=>177|219=>185|217=>139|225=>173|224=>172|267=>199|266=>160|314=>208|n=>n,fun|9=>9|3=>3|4=>4|5=>5|0=>0|46=>214|146=>338|51=>181|n=>n,fun|1=>0|n=>n⟩
theorem lS:Go.Proofs.Lays.n138 prog lQ:={
 mixed:=by kernel_rfl
 f138:=func176.trans (congrArg some (by kernel_rfl))
 f143:=func177.trans (congrArg some (by kernel_rfl))
 f195:=func182.trans (congrArg some (by kernel_rfl))
 f217:=func139.trans (congrArg some (by kernel_rfl))
 f218:=func184.trans (congrArg some (by kernel_rfl))
 f219:=func185.trans (congrArg some (by kernel_rfl))
 f224:=func172.trans (congrArg some (by kernel_rfl))
 f225:=func173.trans (congrArg some (by kernel_rfl))
 f266:=func160.trans (congrArg some (by kernel_rfl))
 f267:=func199.trans (congrArg some (by kernel_rfl))
 f314:=func208.trans (congrArg some (by kernel_rfl))
 t0:=underlying0
 a0:=isAgg0
 z0:=sizeOf0
 v0:=zeroValue0
 t3:=underlying3
 a3:=isAgg3
 z3:=sizeOf3
 v3:=zeroValue3
 t4:=underlying4
 a4:=isAgg4
 z4:=sizeOf4
 v4:=zeroValue4
 t5:=underlying5
 a5:=isAgg5
 z5:=sizeOf5
 v5:=zeroValue5
 t9:=underlying9
 a9:=isAgg9
 z9:=sizeOf9
 v9:=zeroValue9
 t46:=underlying214
 a46:=isAgg214
 z46:=sizeOf214
 v46:=zeroValue214
 t51:=underlying181
 a51:=isAgg181
 z51:=sizeOf181
 v51:=zeroValue181
 t146:=underlying338
 a146:=isAgg338
 z146:=sizeOf338
 v146:=zeroValue338
 g1:=by kernel_rfl}
open Go.RowKit Go.Lib in
theorem lT (s:ByteArray) (c:UInt8) (w:World):
 Calls prog 176 #[.string s,.string ⟨#[c]⟩] w fun e w'=>e=.returned (.int .i64 (Lib.countByte s.data.toList c))/\w'=w:=Any.strings_Count_one lS s c w
def lU:Go.Shelf.Ren:=⟨fun|15=>136|20=>158|n=>n,fun|9=>9|23=>269|3=>3|4=>4|0=>0|21=>21|n=>n,fun|n=>n⟩
theorem lV:Go.Proofs.LaysGw.n15 prog lU:={
 mixed:=by kernel_rfl
 f15:=func136.trans (congrArg some (by kernel_rfl))
 f20:=func158.trans (congrArg some (by kernel_rfl))
 t0:=underlying0
 a0:=isAgg0
 z0:=sizeOf0
 v0:=zeroValue0
 i0:=by kernel_rfl
 t3:=underlying3
 a3:=isAgg3
 z3:=sizeOf3
 v3:=zeroValue3
 i3:=by kernel_rfl
 t4:=underlying4
 a4:=isAgg4
 z4:=sizeOf4
 v4:=zeroValue4
 i4:=by kernel_rfl
 t9:=underlying9
 a9:=isAgg9
 z9:=sizeOf9
 v9:=zeroValue9
 i9:=by kernel_rfl
 t21:=underlying21
 a21:=isAgg21
 z21:=sizeOf21
 v21:=zeroValue21
 i21:=by kernel_rfl
 t23:=underlying269
 a23:=isAgg269
 z23:=sizeOf269
 v23:=zeroValue269
 i23:=by kernel_rfl}
def lW:Go.Shelf.Ren:=⟨fun|221=>162|268=>175|138=>176|143=>177|195=>182|197=>183|218=>184|219=>185|260=>198|217=>139|225=>173|224=>172|267=>199|266=>160|314=>208|n=>n,fun|9=>9|3=>3|31=>24|4=>4|0=>0|105=>313|21=>21|5=>5|46=>214|119=>334|139=>337|138=>336|146=>338|51=>181|n=>n,fun|1=>0|3=>1|4=>2|n=>n⟩
theorem lX:Go.Proofs.Lays.n221 prog lW:={
 mixed:=by kernel_rfl
 f138:=func176.trans (congrArg some (by kernel_rfl))
 f143:=func177.trans (congrArg some (by kernel_rfl))
 f195:=func182.trans (congrArg some (by kernel_rfl))
 f197:=func183.trans (congrArg some (by kernel_rfl))
 f217:=func139.trans (congrArg some (by kernel_rfl))
 f218:=func184.trans (congrArg some (by kernel_rfl))
 f219:=func185.trans (congrArg some (by kernel_rfl))
 f221:=func162.trans (congrArg some (by kernel_rfl))
 f224:=func172.trans (congrArg some (by kernel_rfl))
 f225:=func173.trans (congrArg some (by kernel_rfl))
 f260:=func198.trans (congrArg some (by kernel_rfl))
 f266:=func160.trans (congrArg some (by kernel_rfl))
 f267:=func199.trans (congrArg some (by kernel_rfl))
 f268:=func175.trans (congrArg some (by kernel_rfl))
 f314:=func208.trans (congrArg some (by kernel_rfl))
 t0:=underlying0
 a0:=isAgg0
 z0:=sizeOf0
 v0:=zeroValue0
 t3:=underlying3
 a3:=isAgg3
 z3:=sizeOf3
 v3:=zeroValue3
 t4:=underlying4
 a4:=isAgg4
 z4:=sizeOf4
 v4:=zeroValue4
 t5:=underlying5
 a5:=isAgg5
 z5:=sizeOf5
 v5:=zeroValue5
 t9:=underlying9
 a9:=isAgg9
 z9:=sizeOf9
 v9:=zeroValue9
 t21:=underlying21
 a21:=isAgg21
 z21:=sizeOf21
 v21:=zeroValue21
 t31:=underlying24
 a31:=isAgg24
 z31:=sizeOf24
 v31:=zeroValue24
 t46:=underlying214
 a46:=isAgg214
 z46:=sizeOf214
 v46:=zeroValue214
 t51:=underlying181
 a51:=isAgg181
 z51:=sizeOf181
 v51:=zeroValue181
 t105:=underlying313
 a105:=isAgg313
 z105:=sizeOf313
 v105:=zeroValue313
 t119:=underlying334
 a119:=isAgg334
 z119:=sizeOf334
 t138:=underlying336
 a138:=isAgg336
 z138:=sizeOf336
 v138:=zeroValue336
 t139:=underlying337
 a139:=isAgg337
 z139:=sizeOf337
 v139:=zeroValue337
 t146:=underlying338
 a146:=isAgg338
 z146:=sizeOf338
 v146:=zeroValue338
 g1:=by kernel_rfl
 g3:=by kernel_rfl
 g4:=by kernel_rfl}
open Go.RowKit Go.Lib in
theorem lY (g:Nat) (lb:Array Value) (eg: ∀args w,(callFunc g args).run prog w=.ok (.enter g args) w) (p:Nat->Bool) (s:ByteArray) (w:World) (hp:PredGrows prog g lb p w):
 Calls prog 136 #[.string s,.func (.func g) #[] lb] w fun e w'=>e=.returned (.int .i64 (Lib.idxFunc p true s))/\Below w.heap.size w w':=Any.strings_IndexFunc_grows lV g lb eg p s w hp
def lZ:Go.Shelf.Ren:=⟨fun|17=>77|n=>n,fun|24=>24|9=>9|3=>3|4=>4|0=>0|n=>n,fun|n=>n⟩
theorem jS:Go.Proofs.Lays2.n17 prog lZ:={
 mixed:=by kernel_rfl
 f17:=func77.trans (congrArg some (by kernel_rfl))
 t0:=underlying0
 a0:=isAgg0
 z0:=sizeOf0
 v0:=zeroValue0
 t3:=underlying3
 a3:=isAgg3
 z3:=sizeOf3
 v3:=zeroValue3
 t4:=underlying4
 a4:=isAgg4
 z4:=sizeOf4
 v4:=zeroValue4
 t9:=underlying9
 a9:=isAgg9
 z9:=sizeOf9
 v9:=zeroValue9
 t24:=underlying24
 a24:=isAgg24
 z24:=sizeOf24
 v24:=zeroValue24}
open Go.RowKit Go.Lib Go.Sort in
theorem l7 (blk off cap:Nat) (zs:List (List UInt8)) (w:World) (hH:Holds encStr w blk off zs.toArray) (hsz:zs.length<=9223372036854775807):
 Calls prog 77 #[.slice (some ⟨blk,off,none⟩) zs.length cap] w fun e w'=>e=.returned (.tuple #[])/\ ∃n,w'=putRow encStr (Sort.ahead w n) blk off zs.reverse.toArray:=Any.slices_Reverse_string jS blk off cap zs w hH hsz
open Go.RowKit Go.Lib Go.Sort in
theorem l9 (a:Option Addr) (cap:Nat) (w:World):
 Calls prog 77 #[.slice a 0 cap] w fun e w'=>e=.returned (.tuple #[])/\w'=w:=Any.slices_Reverse_string_empty jS a cap w
def mg:Go.Shelf.Ren:=⟨fun|6=>62|15=>94|14=>93|28=>129|29=>130|20=>121|21=>122|22=>123|23=>124|24=>125|25=>126|26=>127|27=>128|46=>150|47=>151|48=>152|49=>153|50=>154|57=>169|n=>n,fun|22=>65|24=>3|25=>166|3=>3|39=>214|0=>0|53=>181|55=>201|4=>4|46=>255|45=>254|50=>184|5=>5|9=>9|66=>282|70=>286|76=>304|77=>305|n=>n,fun|n=>n⟩
theorem mD:Go.Proofs.SlLaysF.n6 prog mg:={
 mixed:=by kernel_rfl
 f6:=⟨Tryz.f62.name,by decide,func62.trans (congrArg some (by kernel_rfl))⟩
 f14:=⟨Tryz.f93.name,by decide,func93.trans (congrArg some (by kernel_rfl))⟩
 f15:=func94.trans (congrArg some (by kernel_rfl))
 f20:=⟨Tryz.f121.name,by decide,func121.trans (congrArg some (by kernel_rfl))⟩
 f21:=⟨Tryz.f122.name,by decide,func122.trans (congrArg some (by kernel_rfl))⟩
 f22:=⟨Tryz.f123.name,by decide,func123.trans (congrArg some (by kernel_rfl))⟩
 f23:=⟨Tryz.f124.name,by decide,func124.trans (congrArg some (by kernel_rfl))⟩
 f24:=⟨Tryz.f125.name,by decide,func125.trans (congrArg some (by kernel_rfl))⟩
 f25:=⟨Tryz.f126.name,by decide,func126.trans (congrArg some (by kernel_rfl))⟩
 f26:=⟨Tryz.f127.name,by decide,func127.trans (congrArg some (by kernel_rfl))⟩
 f27:=⟨Tryz.f128.name,by decide,func128.trans (congrArg some (by kernel_rfl))⟩
 f28:=func129.trans (congrArg some (by kernel_rfl))
 f29:=func130.trans (congrArg some (by kernel_rfl))
 f46:=⟨Tryz.f150.name,by decide,func150.trans (congrArg some (by kernel_rfl))⟩
 f47:=func151.trans (congrArg some (by kernel_rfl))
 f48:=func152.trans (congrArg some (by kernel_rfl))
 f49:=⟨Tryz.f153.name,by decide,func153.trans (congrArg some (by kernel_rfl))⟩
 f50:=⟨Tryz.f154.name,by decide,func154.trans (congrArg some (by kernel_rfl))⟩
 f57:=⟨Tryz.f169.name,by decide,func169.trans (congrArg some (by kernel_rfl))⟩
 t0:=underlying0
 a0:=isAgg0
 z0:=sizeOf0
 v0:=zeroValue0
 t3:=underlying3
 a3:=isAgg3
 z3:=sizeOf3
 v3:=zeroValue3
 t4:=underlying4
 a4:=isAgg4
 z4:=sizeOf4
 v4:=zeroValue4
 t5:=underlying5
 a5:=isAgg5
 z5:=sizeOf5
 v5:=zeroValue5
 t9:=underlying9
 a9:=isAgg9
 z9:=sizeOf9
 v9:=zeroValue9
 t22:=underlying65
 a22:=isAgg65
 z22:=sizeOf65
 v22:=zeroValue65
 a24:=isAgg3
 z24:=sizeOf3
 t25:=underlying166
 a25:=isAgg166
 z25:=sizeOf166
 v25:=zeroValue166
 t39:=underlying214
 a39:=isAgg214
 z39:=sizeOf214
 v39:=zeroValue214
 t45:=underlying254
 a45:=isAgg254
 z45:=sizeOf254
 v45:=zeroValue254
 t46:=underlying255
 a46:=isAgg255
 z46:=sizeOf255
 v46:=zeroValue255
 t50:=underlying184
 a50:=isAgg184
 z50:=sizeOf184
 v50:=zeroValue184
 t53:=underlying181
 a53:=isAgg181
 z53:=sizeOf181
 v53:=zeroValue181
 t55:=underlying201
 a55:=isAgg201
 z55:=sizeOf201
 v55:=zeroValue201
 t66:=underlying282
 a66:=isAgg282
 z66:=sizeOf282
 v66:=zeroValue282
 t70:=underlying286
 a70:=isAgg286
 z70:=sizeOf286
 v70:=zeroValue286
 t76:=underlying304
 a76:=isAgg304
 z76:=sizeOf304
 v76:=zeroValue304
 t77:=underlying305
 a77:=isAgg305
 z77:=sizeOf305
 v77:=zeroValue305}
def mF:Go.Shelf.Ren:=⟨fun|6=>62|15=>94|14=>93|28=>129|29=>130|20=>121|21=>122|22=>123|23=>124|24=>125|25=>126|26=>127|27=>128|46=>150|47=>151|48=>152|49=>153|50=>154|57=>169|n=>n,fun|22=>65|24=>3|25=>166|3=>3|39=>214|0=>0|53=>181|55=>201|4=>4|46=>255|45=>254|50=>184|5=>5|9=>9|66=>282|70=>286|76=>304|77=>305|n=>n,fun|n=>n⟩
theorem mG:Go.Proofs.SlLaysF0.n6 prog mF:={
 mixed:=by kernel_rfl
 f6:=⟨Tryz.f62.name,by decide,func62.trans (congrArg some (by kernel_rfl))⟩
 f14:=⟨Tryz.f93.name,by decide,func93.trans (congrArg some (by kernel_rfl))⟩
 f15:=func94.trans (congrArg some (by kernel_rfl))
 f20:=⟨Tryz.f121.name,by decide,func121.trans (congrArg some (by kernel_rfl))⟩
 f21:=⟨Tryz.f122.name,by decide,func122.trans (congrArg some (by kernel_rfl))⟩
 f22:=⟨Tryz.f123.name,by decide,func123.trans (congrArg some (by kernel_rfl))⟩
 f23:=⟨Tryz.f124.name,by decide,func124.trans (congrArg some (by kernel_rfl))⟩
 f24:=⟨Tryz.f125.name,by decide,func125.trans (congrArg some (by kernel_rfl))⟩
 f25:=⟨Tryz.f126.name,by decide,func126.trans (congrArg some (by kernel_rfl))⟩
 f26:=⟨Tryz.f127.name,by decide,func127.trans (congrArg some (by kernel_rfl))⟩
 f27:=⟨Tryz.f128.name,by decide,func128.trans (congrArg some (by kernel_rfl))⟩
 f28:=func129.trans (congrArg some (by kernel_rfl))
 f29:=func130.trans (congrArg some (by kernel_rfl))
 f46:=⟨Tryz.f150.name,by decide,func150.trans (congrArg some (by kernel_rfl))⟩
 f47:=func151.trans (congrArg some (by kernel_rfl))
 f48:=func152.trans (congrArg some (by kernel_rfl))
 f49:=⟨Tryz.f153.name,by decide,func153.trans (congrArg some (by kernel_rfl))⟩
 f50:=⟨Tryz.f154.name,by decide,func154.trans (congrArg some (by kernel_rfl))⟩
 f57:=⟨Tryz.f169.name,by decide,func169.trans (congrArg some (by kernel_rfl))⟩
 t0:=underlying0
 a0:=isAgg0
 z0:=sizeOf0
 v0:=zeroValue0
 t3:=underlying3
 a3:=isAgg3
 z3:=sizeOf3
 v3:=zeroValue3
 t4:=underlying4
 a4:=isAgg4
 z4:=sizeOf4
 v4:=zeroValue4
 t5:=underlying5
 a5:=isAgg5
 z5:=sizeOf5
 v5:=zeroValue5
 t9:=underlying9
 a9:=isAgg9
 z9:=sizeOf9
 v9:=zeroValue9
 t22:=underlying65
 a22:=isAgg65
 z22:=sizeOf65
 v22:=zeroValue65
 t25:=underlying166
 a25:=isAgg166
 z25:=sizeOf166
 v25:=zeroValue166
 t39:=underlying214
 a39:=isAgg214
 z39:=sizeOf214
 v39:=zeroValue214
 t45:=underlying254
 a45:=isAgg254
 z45:=sizeOf254
 v45:=zeroValue254
 t46:=underlying255
 a46:=isAgg255
 z46:=sizeOf255
 v46:=zeroValue255
 t50:=underlying184
 a50:=isAgg184
 z50:=sizeOf184
 v50:=zeroValue184
 t53:=underlying181
 a53:=isAgg181
 z53:=sizeOf181
 v53:=zeroValue181
 t55:=underlying201
 a55:=isAgg201
 z55:=sizeOf201
 v55:=zeroValue201
 t66:=underlying282
 a66:=isAgg282
 z66:=sizeOf282
 v66:=zeroValue282
 t70:=underlying286
 a70:=isAgg286
 z70:=sizeOf286
 v70:=zeroValue286
 t76:=underlying304
 a76:=isAgg304
 z76:=sizeOf304
 v76:=zeroValue304
 t77:=underlying305
 a77:=isAgg305
 z77:=sizeOf305
 v77:=zeroValue305}
open Go.RowKit Go.Lib Go.Sort in
theorem mJ {α:Type} [Inhabited α] (p:Option Addr) (cap:Nat) (fv:Value) (w:World):
 Calls prog 62 #[.slice p 0 cap,fv] w fun e w'=>e=.returned (.tuple #[])/\w'=w:=AnyF.slices_SortFunc_none mG p cap fv w
open Go.RowKit Go.Lib Go.Sort in
theorem mM {α:Type} [Inhabited α] (enc:α->Value) (h1:OneCell enc) (cf:α->α->Int) (hO:SWO (ltOf cf)) (g:Nat) (cb:Array Value) (blk off cap:Nat) (d:Array α) (w:World) (eg: ∀args w,(callFunc g args).run prog w=.ok (.enter g args) w) (hcmp:CmpLays1 prog g cb enc cf blk off d.size w) (hH:Holds enc w blk off d) (hblk:blk<w.heap.size) (hsz:d.size<4611686018427387904) (hT: ∀x y,(ltOf cf) x y=false->(ltOf cf) y x=false->x=y):
 Calls prog 62 #[.slice (some ⟨blk,off,none⟩) d.size cap,.func (.func g) #[] cb] w fun e w'=>
  e=.returned (.tuple #[])/\ ∃n os,w'=sortWorld enc w blk off n (d.toList.mergeSort fun x y=> !(ltOf cf) y x).toArray os:=Any.slices_SortFunc_total mD enc h1 cf hO g cb blk off cap d w eg hcmp hH hblk hsz hT
end Go.Proofs
namespace Go.Proofs.YtfbnfhhmiiahnaaGreatDoor
open Go Wk
open Go.RowKit (Below)
attribute [local irreducible] Go.Calls
theorem WG (l:List UInt8) {k:Nat} (h:k<l.length): ∃c,l[k]? =some c:=⟨l[k],anv h⟩
def signs:List UInt8:= "abcdefghijklmnopqrstuvwxyz0123456789,._+-@#?".toUTF8.data.toList
theorem D5:signs=[97,98,99,100,101,102,103,104,105,106,107,108,109,110,111,112,113,114,115,116,117,118,119,120,121,122,48,49,50,51,52,53,54,55,56,57,44,46,95,43,45,64,35,63]:=by decide
def ql (s:List UInt8):Bool:=decide (s≠ []/\s.length<=31)&&s.all fun c=>signs.contains c
theorem uU {w:World} {l:List UInt8} {c:UInt8}:Calls prog 112 #[vs l,.int .u8 c.toNat] w (Ret fun r w'=>r=vi (Lib.indexByte l c)/\w=w'):=by
 refine (lJ ⟨l.toArray⟩ c.toNat w).mono ?_;rintro e w' ⟨rfl,rfl⟩;exact ⟨_,rfl,by simp,rfl⟩
theorem JQ {l:List UInt8} {c:UInt8} (h:Lib.indexByte l c<0):l.contains c=false:=by
 have hge:=Lib.indexByte_ge l c;have:=Lib.indexByte_none (show Lib.indexByte l c= -1 by omega);rw [an6];intro hc;obtain ⟨k,hk⟩:=List.mem_iff_getElem?.1 (List.contains_iff_mem.1 hc);exact this k hk
theorem Uz {l:List UInt8} {c:UInt8} (h:0<=Lib.indexByte l c):l.contains c=true:=by
 obtain ⟨o,ho⟩:=ane h;exact List.contains_iff_mem.2 (aop (Lib.indexByte_some ho).1)
theorem WH {α:Type} {p:α->Bool} {xs:List α} {i:Nat} {x:α} (h:xs[i]? =some x) (hi:(xs.take i).all p=true) (hx:p x=true):(xs.take (i+1)).all p=true:=by
 rw [aoL,h,List.all_append,hi];simp [hx]
theorem WI {α:Type} {p:α->Bool} {xs:List α} {i:Nat} {x:α} (h:xs[i]? =some x) (hx:p x=false):xs.all p=false:=by
 rw [List.all_eq_false];exact ⟨x,aop h,by simp [hx]⟩
def AP (s:List UInt8):Int:=if ql s=true then 0 else 10
theorem JR {w:World} {s:List UInt8}:Calls prog 101 #[vs s] w (Ret fun r w'=>r=vi (AP s)/\New w w'):=by
 refine nM (n:=23) func101 rfl rfl rfl ?_;(repeat' (first|refine qq5 ?_|refine aT rfl rfl (fun _=>?_) (fun _=>?_)|refine eU rfl rfl (fun _=>?_) (fun _=>?_)))
 ·have e:s=[]:=by assumption
  subst e;exact ak rfl rfl ⟨_,rfl,rfl,ay _ _⟩
 ·refine ak rfl rfl ⟨_,rfl,?_,ay _ _⟩;unfold AP ql;rw [decide_eq_false (by omega)];rfl
 ·have hne:s≠ []:=by assumption
  have hle:s.length<=31:=by omega
  refine jk rfl (by simp only [maxLen];omega) fun w1 cap C fr _ _ _ n1 _ hr=>?_;refine qq4 ?_;refine aA (σ:=Nat) (fun i=>[(13,.slice (some ⟨w.heap.size,0,none⟩) s.length cap),(14,vi s.length),(15,vi i)]) (fun i w'=>i<=s.length/\(s.take i).all (fun c=>signs.contains c)=true/\w1=w') (fun i=>s.length-i) 0 (sl rfl) ⟨anq _,rfl,rfl⟩ ?_;rintro i G _ ⟨hi,hall,rfl⟩;simp only [pq];(repeat' (first|refine qq4 ?_|refine aa2 (fun _=>?_) (fun _=>?_)))
  ·obtain ⟨c,hc⟩:=WG s (k:=i) (by omega);refine aZ hr rfl rfl (by omega) hc fun b o hcell=>?_;refine ah rfl hcell ?_;refine qq4 ?_;refine aj (uU (l:=signs) (c:=c)) (by rw [D5];rfl) ?_;rintro _ _ ⟨rfl,rfl⟩;(repeat' (first|refine qq2 ?_|refine aa2 (fun _=>?_) (fun _=>?_)))
   ·refine ak rfl rfl ⟨_,rfl,?_,n1⟩;unfold AP ql;rw [WI hc (JQ (by assumption)),aoX];rfl
   ·exact ax (i+1) (sl rfl) ⟨by omega,WH hc hall (Uz (by assumption)),rfl⟩ (by omega)
  ·have e:i=s.length:=by omega
   subst e;rw [aon] at hall;refine ak rfl rfl ⟨_,rfl,?_,n1⟩;unfold AP ql;rw [hall,decide_eq_true ⟨hne,hle⟩];rfl
abbrev Pr:=List UInt8×List UInt8
def pC (p:Pr):List Value:=[vs p.1,vs p.2]
structure Nd where
 parent:Int
 name:List UInt8
 pz:List Pr
deriving DecidableEq,Inhabited
abbrev rPr:Rel Pr:=flat pC
def rNd:Rel Nd:=fun Pb w x cs=> ∃v,cs=[vi x.parent,vs x.name,v]/\RdS rPr 2 Pb w v x.pz
theorem H6:qH rPr 2:=qA pC (fun _=>rfl) (fun x c hc=>by simp [pC] at hc;rcases hc with rfl|rfl<;>rfl)
theorem oh:Stable rNd:=fun _ _ _ _ _ hk ⟨v,e,h⟩=>⟨v,e,h.keep (oH pC) hk⟩
theorem AQ:CO rNd:=fun _ _ _ _ _ hP ⟨v,e,h⟩=>⟨v,e,h.mono (nS pC) hP⟩
theorem aaD:qH rNd 3:=⟨oh,AQ,fun Pb w x cs ⟨v,e,h⟩ _ c hc=>by
 subst e;obtain ⟨a,cap,rfl,_⟩:=h.form;simp at hc;rcases hc with rfl|rfl|rfl<;>rfl⟩
def zJ (seen:List (List UInt8)):List Pr->Bool
 | []=>true
 |p::r=>ql p.1&&(decide (p.2.length<=1024)&&(!seen.contains p.1&&zJ (seen++ [p.1]) r))
def zK (l:List Pr):Bool:=decide (l.length<=32)&&zJ [] l
theorem JS {s:List UInt8} (h:AP s=0):ql s=true:=by
 unfold AP at h;split at h
 ·assumption
 ·cases h
theorem H7 {s:List UInt8} (h:AP s≠0):ql s=false:=by
 unfold AP at h;split at h
 ·exact absurd rfl h
 ·simpa using ‹¬ql s=true›
theorem zM {s:List UInt8} (h:ql s=true):s.length<=31:=by
 unfold ql at h;simp only [ann,decide_eq_true_eq] at h;exact h.1.2
theorem drop_cons {α:Type} {l:List α} {i:Nat} {x:α} (h:l[i]? =some x):l.drop i=x::l.drop (i+1):=by
 obtain ⟨h1,rfl⟩:=List.getElem?_eq_some_iff.1 h;exact anF h1
theorem take_snoc {α:Type} {l:List α} {i:Nat} {x:α} (h:l[i]? =some x):l.take (i+1)=l.take i++ [x]:=by
 rw [aoL,h];rfl
theorem nT {α:Type} (xs:List α) {k:Nat} (h:k<xs.length): ∃x,xs[k]? =some x:=⟨xs[k],anv h⟩
theorem xk {a b:List UInt8} (h:vs a=vs b):a=b:=by
 simp only [vs,Value.string.injEq,ByteArray.mk.injEq] at h;simpa using h
theorem WJ (s:List UInt8) (h:s.length<=31): ∃q,keyOf prog 9 (vs s)=some q:=
 ⟨_,WideMaps.keyOf_string_mk underlying9 (by simp only [ByteArray.size,anu,maxLen];omega)⟩
abbrev UA {α:Type} (f:α->Value) (ks:List α):List (Value×Value):=ks.map fun k=>(f k,.bool true)
theorem Ql {Pb:Nat->Prop} {w:World} {v:Value} {l:List Pr} (h:RdS rPr 2 Pb w v l):
 Calls prog 100 #[v] w (Ret fun r w'=>r=.bool (zK l)/\New w w'):=by
 obtain ⟨a,cap,rfl,hc1,hc2⟩:=h.form;simp only [maxLen] at hc2;refine nM (n:=36) func100 rfl rfl rfl ?_;unfold zK;(repeat' (first|refine qq4 ?_|refine aT rfl rfl (fun _=>?_) (fun _=>?_)))
 ·rw [decide_eq_false (by omega)];exact ak rfl rfl ⟨_,rfl,rfl,ay _ _⟩
 ·rw [decide_eq_true (by omega),aoE];refine fU (k:=9) fun w1 m1 n1 s1=>?_;generalize hbm:w.heap.size=bm at m1;refine qq2 ?_;refine aA (σ:=Nat) (fun i=>[(3,.map (some bm)),(10,.slice a l.length cap),(11,vi l.length),(12,vi i)]) (fun i w'=>i<=l.length/\zJ [] l=zJ ((l.take i).map (·.1)) (l.drop i)/\ru prog 9 w' bm (UA vs ((l.take i).map (·.1)))/\New w w') (fun i=>l.length-i) 0 (sl rfl) ⟨anq _,by simp,m1,n1⟩ ?_;rintro i G w2 ⟨hi,hgo,m2,n2⟩;simp only [pq];(repeat' (first|refine qq4 ?_|refine aa2 (fun _=>?_) (fun _=>?_)))
  ·obtain ⟨p,hp⟩:=nT l (k:=i) (by omega);refine aK (h.keep (oH pC) n2.keep) rfl rfl (by omega) hp fun b o cs hl hR hat=>?_;obtain rfl:cs=pC p:=hR;refine aS hat rfl rfl ?_;refine Wl.alloc fun w3 b3 n3 s3=>?_;refine aH (new:=pC p) b3 rfl rfl rfl rfl zl2 (H6.oc (fun _=>True) w p _ rfl rfl) fun w4 b4 c4 s4=>?_;have m4:=(m2.keep n3.keep (Pb:=fun _=>True) trivial).chg c4 (by have:=m2.lt;omega);have n4:New w w4:=Chg.trans (New.trans n2 n3) c4 fun k hk e=>by have:=n2.size;omega
   replace b4:Bk w4 w2.heap.size 70 (pC p):=b4;rw [drop_cons hp] at hgo;simp only [zJ] at hgo;refine qq2 ?_;refine ah rfl (b4.cell (o:=0) rfl) ?_;refine aj (JR (s:=p.1)) rfl ?_;rintro _ w5 ⟨rfl,n5⟩;replace b4:=b4.keep n5.keep (Pb:=fun _=>True) trivial;replace m4:=m4.keep n5.keep (Pb:=fun _=>True) trivial;replace n5:=New.trans n4 n5;(repeat' (first|refine qq3 ?_|refine aa4 (fun _=>?_) (fun _=>?_)))
   ·rw [hgo,H7 (by assumption),aoF];exact ak rfl rfl ⟨_,rfl,rfl,n5⟩
   ·have hok:=JS (by assumption);rw [hok,aoE] at hgo;refine ah rfl (b4.cell (o:=1) rfl) ?_;(repeat' (first|refine qq3 ?_|refine aT rfl rfl (fun _=>?_) (fun _=>?_)))
    ·rw [hgo,decide_eq_false (by omega),aoF];exact ak rfl rfl ⟨_,rfl,rfl,n5⟩
    ·rw [decide_eq_true (by omega),aoE] at hgo;refine ah rfl (b4.cell (o:=0) rfl) ?_;obtain ⟨q,hq⟩:=WJ p.1 (zM hok);refine aO rfl rfl ?_;refine iQ (Maps.string_keyed underlying9) m4 hq rfl rfl ?_;rintro r (hr|⟨rfl,hr⟩)
     ·obtain ⟨k,hk,e⟩:=List.mem_map.1 hr;simp only [Prod.mk.injEq] at e;obtain ⟨e1,rfl⟩:=e;rw [xk e1] at hk;rw [List.contains_iff_mem.2 hk,aoY,aoF] at hgo;refine qq3 ?_;rw [hgo];exact ak rfl rfl ⟨_,rfl,rfl,n5⟩
     ·have hnk:((l.take i).map (·.1)).contains p.1=false:=by rw [an6];intro hc;exact hr (vs p.1,.bool true) (List.mem_map.2 ⟨p.1,List.contains_iff_mem.1 hc,rfl⟩) rfl
      rw [hnk,aoM,aoE] at hgo;refine qq2 ?_;refine ah rfl (b4.cell (o:=0) rfl) ?_;refine gU (u:=.bool true) (Maps.string_keyed underlying9) m4 hq hr rfl rfl rfl fun w6 m6 c6 s6=>?_;refine qq6 ?_;refine ax (i+1) (sl rfl) ⟨by omega,?_,?_,Chg.trans n5 c6 fun k hk e=>by omega⟩ (by omega)
      ·rw [hgo,take_snoc hp,aoN];rfl
      ·rw [take_snoc hp,aoN];simpa [UA] using m6
  ·have e:i=l.length:=by omega
   subst e;rw [hgo,aoG];exact ak rfl rfl ⟨_,rfl,rfl,n2⟩
abbrev Kid:=Int×List UInt8
def KW (k:Kid):Value:=.agg #[vi k.1,vs k.2]
theorem WL {a b:Kid} (h:KW a=KW b):a=b:=by
 obtain ⟨a1,a2⟩:=a;obtain ⟨b1,b2⟩:=b;simp only [KW,Value.agg.injEq] at h;have h':=congrArg Array.toList h;simp only [List.cons.injEq,and_true] at h';have e1:a1=b1:=by have:=h'.1;simpa using this
 rw [e1,xk h'.2]
theorem NG:Maps.Keyed prog 223:=
 Maps.Keyed.of_law (deep_law (m:=2) (by decide) (by kernel_rfl) (by kernel_rfl) (by rw [underlying223]))
theorem aaE (p:Int) (s:List UInt8) (h0:0<=p) (h1:p<1000) (hs:s.length<=31): ∃q,keyOf prog 223 (KW (p,s))=some q:=by
 have h1':prog.keyType 223=true:=by kernel_rfl
 have h2:(KW (p,s)).formed prog 223=true:=by kernel_rfl
 have hc:prog.cellsOf 223=2:=by kernel_rfl
 have hi:prog.cellsOf 3=1:=by kernel_rfl
 have hst:prog.cellsOf 9=1:=by kernel_rfl
 have hw:(Lit.int .i64 p).wf=true:=by simp [Lit.wf,IntKind.min,IntKind.max,IntKind.signed,IntKind.bits];omega
 have hl:(⟨s.toArray⟩:ByteArray).size<=maxLen:=by simp only [ByteArray.size,anu,maxLen];omega
 obtain ⟨D,hD⟩: ∃D,prog.types.size=D+1:=⟨_,show prog.types.size=(prog.types.size-1)+1 by kernel_rfl⟩;have e1:prog.keyLits (D+1) 3 [vi p]=some [.int .i64 p]:=by simp [Program.keyLits,underlying3,hw]
 have e2:prog.keyLits (D+1) 9 [vs s]=some [.string s]:=by simp [Program.keyLits,underlying9,hl]
 have h3: ∃L,prog.keyLits (prog.types.size+1) 223 [vi p,vs s]=some L:=by rw [hD];refine ⟨[.int .i64 p,.string s],?_⟩;simp [Program.keyLits,underlying223,underlying3,underlying9,hc,hi,hst,hw,hl]
 obtain ⟨L,h3⟩:=h3;unfold keyOf;rw [underlying223];simp only [h1',h2,Bool.and_self,if_true];exact ⟨_,by rw [show (KW (p,s)).cells.toList=[vi p,vs s] from rfl,h3];rfl⟩
def wM:Nat->List Int->List Int->List Kid->List Nd->Int×Option (List Int)
 |_,dp,_,_,[]=>(0,some dp)
 |i,dp,pt,sn,x::r=>
  if 512<=i∨zK x.pz=false then ((i:Int),none)
  else if i=0 then (if x.parent≠ -1∨x.name≠ [] then (0,none) else wM 1 (dp++ [1]) [0] sn r)
  else if ql x.name=false∨x.parent<0∨(i:Int)<=x.parent then ((i:Int),none)
  else if (pt.length:Int)<dp.getD x.parent.toNat 0∨pt.getD (dp.getD x.parent.toNat 0-1).toNat 0≠x.parent∨16<dp.getD x.parent.toNat 0+1∨sn.contains (x.parent,x.name)=true then ((i:Int),none)
  else wM (i+1) (dp++ [dp.getD x.parent.toNat 0+1]) (pt.take (dp.getD x.parent.toNat 0).toNat++ [(i:Int)]) (sn++ [(x.parent,x.name)]) r
theorem Qn {Pb:Nat->Prop} {w:World} {v:Value} {l:List Nd} (h:RdS rNd 3 Pb w v l):
 Calls prog 76 #[v] w (Ret fun r w'=>(∃u,r=.tuple #[vi (wM 0 [] [] [] l).1,u,.bool ((wM 0 [] [] [] l).2.isSome&&decide (0<l.length))])/\New w w'):=by
 obtain ⟨a,cap,rfl,hc1,hc2⟩:=h.form;simp only [maxLen] at hc2;refine nM (n:=116) func76 rfl rfl rfl ?_;refine qq4 ?_;refine Wl.afJ rfl rfl ?_;refine jh (R:=Wk.one vi) (Pe:=fun _=>False) (c:=if (512:Int)<(l.length:Int) then 512 else (l.length:Int)) rfl rfl (by split<;>omega) (by split<;>omega) (by split<;>omega) fun vd w1 od n1=>?_;refine qq4 ?_;refine fU (k:=223) fun w2 m2 n2 s2=>?_;have od2:=(od.mono (Pb':=fun b=>w.heap.size<=b/\b≠w1.heap.size) (nV _) (fun b hb h=>⟨h,by omega⟩) (fun _ _ h=>h)).new (nO _) n2;clear od;replace n2:=New.trans n1 n2;have hs1:=n1.size;generalize hbm:w1.heap.size=bm at m2 od2;refine qq2 ?_;refine aA (σ:=Nat×Value×Value×List Int×List Int×List Kid) (fun s=>[(0,.slice a l.length cap),(5,s.2.1),(6,s.2.2.1),(7,.map (some bm)),(17,.slice a l.length cap),(18,vi l.length),(19,vi s.1)]) (fun s w'=>s.1<=l.length/\s.1<=512/\wM 0 [] [] [] l=wM s.1 s.2.2.2.1 s.2.2.2.2.1 s.2.2.2.2.2 (l.drop s.1)/\s.2.2.2.1.length=s.1/\(∀x∈s.2.2.2.1,1<=x/\x<=16)/\s.2.2.2.2.1.length<=17/\ nP (Wk.one vi) 3 1 (fun b=>w.heap.size<=b/\b≠bm) (fun _=>False) w' s.2.1 s.2.2.2.1/\nP (Wk.one vi) 3 1 (fun b=>w.heap.size<=b/\b≠bm) (fun _=>False) w' s.2.2.1 s.2.2.2.2.1/\Sep s.2.1 s.2.2.1/\ ru prog 223 w' bm (UA KW s.2.2.2.2.2)/\New w w') (fun s=>l.length-s.1) (0,vd,.slice none 0 0,[],[],[]) (sl rfl) ⟨anq _,by simp,by simp,rfl,by simp,by simp,od2,aI,fun _ _=>by simp [Value.ownBlock],m2,n2⟩ ?_;rintro ⟨i,vd,vp,dp,pt,sn⟩ G w3 ⟨hi,ahW,hgo,hdl,hd,hpl,od3,op3,hsep,m3,n3⟩;dsimp only at hi ahW hgo hdl hd hpl od3 op3 hsep m3 n3;obtain ⟨pp,cp,rfl,_,_⟩:=op3.form;simp only [pq];(repeat' (first|refine qq4 ?_|refine aa2 (fun _=>?_) (fun _=>?_)|refine aT rfl rfl (fun _=>?_) (fun _=>?_)))
 ·obtain ⟨x,hx⟩:=nT l (k:=i) (by omega);refine dF h n3.keep rfl rfl (by omega) hx fun b o cs hl hR hat=>?_;obtain ⟨pv,rfl,hpr⟩:=hR;refine aS hat rfl rfl ?_;refine Wl.alloc fun w4 b4 n4 s4=>?_;(repeat' (refine aa7 ?_));refine aH (new:=[vi x.parent,vs x.name,pv]) b4 rfl rfl rfl rfl zl3 (aaD.oc Pb w x _ ⟨pv,rfl,hpr⟩ rfl) fun w5 b5 c5 s5=>?_;replace b5:Bk w5 w3.heap.size 73 [vi x.parent,vs x.name,pv]:=b5;have m5:=(m3.keep n4.keep (Pb:=fun _=>True) trivial).chg c5 (by have:=m3.lt;omega);have od5:=(od3.new (nO _) n4).chg (nO _) c5 (fun k hk e=>by have:=(od3.lt hk).2;omega);have op5:=(op3.new (nO _) n4).chg (nO _) c5 (fun k hk e=>by have:=(op3.lt hk).2;omega);have hn3:=n3.size;have n5:New w w5:=Chg.trans (New.trans n3 n4) c5 fun k hk e=>by omega
  have hbn:w3.heap.size≠bm:=by have:=m3.lt;omega
  clear m3 od3 op3 b4 c5 n4 n3;rw [drop_cons hx] at hgo;simp only [wM] at hgo;(repeat' (first|refine qq3 ?_|refine aU rfl rfl (fun _=>?_) (fun _=>?_)))
  ·rw [if_pos (.inl (by omega))] at hgo;rw [hgo];exact bZ rfl rfl rfl rfl ⟨_,rfl,⟨_,rfl⟩,n5⟩
  ·refine ah rfl (b5.cell (o:=2) rfl) ?_;refine aO rfl rfl ?_;refine aj (Ql (hpr.keep (oH pC) n5.keep)) rfl ?_;rintro _ w6 ⟨rfl,n6⟩;have b6:=b5.keep n6.keep (Pb:=fun _=>True) trivial;have m6:=m5.keep n6.keep (Pb:=fun _=>True) trivial;have od6:=od5.new (nO _) n6;have op6:=op5.new (nO _) n6;replace n6:=New.trans n5 n6;clear b5 m5 od5 op5;cases hpo:zK x.pz with
   |false=>refine qq3 ?_;rw [if_pos (.inr hpo)] at hgo;rw [hgo];exact bZ rfl rfl rfl rfl ⟨_,rfl,⟨_,rfl⟩,n6⟩
   |true=>
    rw [if_neg (by rw [hpo];simp;omega)] at hgo;(repeat' (first|refine qq2 ?_|refine bJ rfl rfl (fun _=>?_) (fun _=>?_)))
    ·have e0:i=0:=by omega
     subst e0;rw [if_pos rfl] at hgo;refine ah rfl (b6.cell (o:=0) rfl) ?_;(repeat' (first|refine qq3 ?_|refine aa4 (fun _=>?_) (fun _=>?_)))
     ·rw [if_pos (.inl (by assumption))] at hgo;rw [hgo];exact bZ rfl rfl rfl rfl ⟨_,rfl,⟨_,rfl⟩,n6⟩
     ·refine ah rfl (b6.cell (o:=1) rfl) ?_;(repeat' (first|refine qq2 ?_|refine iy rfl rfl (fun _=>?_) (fun _=>?_)))
      ·rw [if_pos (.inr (by assumption))] at hgo;rw [hgo];exact bZ rfl rfl rfl rfl ⟨_,rfl,⟨_,rfl⟩,n6⟩
      ·rw [if_neg (by simp only [not_or,aoZ];exact ⟨by assumption,by assumption⟩)] at hgo;have s6:=n6.size;refine bC (R:=Wk.one vi) (y:=0) (Pe:=fun _=>False) (tN _ fun _=>rfl) rfl rfl rfl rfl (by omega) (by omega) fun vp' w7 op7 n7 s7 hob=>?_;have od7:=od6.new (nO _) n7;have m7:=m6.keep n7.keep (Pb:=fun _=>True) trivial;have hm7:=m6.lt;(repeat' (refine aa1 ?_));refine cu (y:=1) (tN _ fun _=>rfl) od7 rfl rfl rfl rfl rfl (by omega) (by omega) (by simp only [maxLen];omega) (by omega) rfl rfl fun vd' w8 p od8 c8 lie=>?_;refine qq6 ?_;have hsp:Sep vp' vd:=fun k hk hk'=>by rw [hob] at hk;cases hk;have:=(od6.lt hk').2;omega
       refine ax (1,vd',vp',dp++ [1],[0],sn) (sl rfl) ⟨by dsimp only;omega,by dsimp only;omega,hgo,by simp [hdl],?_,by simp,od8.mono (nV _) (fun b hb h=>by rcases h with h|h;exact h;exact ⟨by omega,by omega⟩) (fun _ _ h=>h),
        (op7.mono (nV _) (fun b hb h=>⟨by omega,by omega⟩) (fun _ _ h=>h)).chg (nO _) c8 hsp,(AB op7 hsp lie).symm,m7.chg c8 (fun e=>(od7.lt e).1.2 rfl),Chg.trans (New.trans n6 n7) c8 fun k hk e=>by have:=(od7.lt e).1.1;omega⟩ (by dsimp only;omega)
       intro y hy;rcases List.mem_append.1 hy with hy|hy
       ·exact hd y hy
       ·simp at hy;omega
    ·have hi0:i≠0:=by omega
     rw [if_neg hi0] at hgo;refine ah rfl (b6.cell (o:=1) rfl) ?_;refine aj (JR (s:=x.name)) rfl ?_;rintro _ w7 ⟨rfl,n7⟩;have b7:=b6.keep n7.keep (Pb:=fun _=>True) trivial;have m7:=m6.keep n7.keep (Pb:=fun _=>True) trivial;have od7:=od6.new (nO _) n7;have op7:=op6.new (nO _) n7;replace n7:=New.trans n6 n7;clear b6 m6 od6 op6;(repeat' (first|refine qq3 ?_|refine aa4 (fun _=>?_) (fun _=>?_)))
     ·rw [if_pos (.inl (H7 (by assumption)))] at hgo;rw [hgo];exact bZ rfl rfl rfl rfl ⟨_,rfl,⟨_,rfl⟩,n7⟩
     ·have hnm:=JS (by assumption);refine ah rfl (b7.cell (o:=0) rfl) ?_;(repeat' (first|refine qq3 ?_|refine aa2 (fun _=>?_) (fun _=>?_)))
      ·rw [if_pos (.inr (.inl (by assumption)))] at hgo;rw [hgo];exact bZ rfl rfl rfl rfl ⟨_,rfl,⟨_,rfl⟩,n7⟩
      ·refine ah rfl (b7.cell (o:=0) rfl) ?_;(repeat' (first|refine qq2 ?_|refine aU rfl rfl (fun _=>?_) (fun _=>?_)))
       ·rw [if_pos (.inr (.inr (by assumption)))] at hgo;rw [hgo];exact bZ rfl rfl rfl rfl ⟨_,rfl,⟨_,rfl⟩,n7⟩
       ·rw [if_neg (by rw [hnm];simp;omega)] at hgo;obtain ⟨d,hdx⟩:=nT dp (k:=x.parent.toNat) (by omega);have hdr:=hd d (aop hdx);rw [an7,hdx,ao0] at hgo;refine ah rfl (b7.cell (o:=0) rfl) ?_;refine aZ (od7.rd (nV _)) rfl rfl (by omega) hdx fun b' o' hc=>?_;refine ah rfl hc ?_;refine qq2 ?_;refine ah rfl (b7.cell (o:=0) rfl) ?_;(repeat' (refine aa5 ?_));refine ah rfl (b7.cell (o:=1) rfl) ?_;refine aX (ps:=[(0,.tmp 69),(1,.tmp 71)]) (parts:=[(0,vi x.parent),(1,vs x.name)]) rfl rfl (by simp [Value.cells]) ?_;refine Wl.alloc fun w8 b8 n8 s8=>?_;refine aH (new:=[vi x.parent,vs x.name]) b8 rfl rfl rfl rfl zl2 (by simp;exact ⟨rfl,rfl⟩) fun w9 b9 c9 s9=>?_;replace b9:Bk w9 w7.heap.size 223 [vi x.parent,vs x.name]:=b9;have s7:=n7.size;have m9:=(m7.keep n8.keep (Pb:=fun _=>True) trivial).chg c9 (by have:=m7.lt;omega);have od9:=(od7.new (nO _) n8).chg (nO _) c9 (fun k hk e=>by have:=(od7.lt hk).2;omega);have op9:=(op7.new (nO _) n8).chg (nO _) c9 (fun k hk e=>by have:=(op7.lt hk).2;omega);have n9:New w w9:=Chg.trans (New.trans n7 n8) c9 fun k hk e=>by omega
        have b79:=(b7.keep n8.keep (Pb:=fun _=>True) trivial).chg c9 (by have:=b7.lt;omega);clear m7 od7 op7 b8 c9 n8 b7;refine qq4 ?_;obtain ⟨q,hq⟩:=aaE x.parent x.name (by omega) (by omega) (zM hnm);refine fF rfl (by kernel_rfl) ?_;(repeat' (first|refine aa3 ?_|refine af ?_|refine aW rfl rfl ?_|refine fE rfl rfl ?_|refine aa9 ?_|refine Wq.vJ rfl ?_|refine Wq.sub rfl rfl (by omega) (by omega) ?_|refine fQ rfl rfl (fun _=>?_) (fun _=>?_)))
        ·intro w10 n10;replace n10:=New.trans n9 n10;refine qq3 ?_;rw [if_pos (.inl (by omega))] at hgo;rw [hgo];exact bZ rfl rfl rfl rfl ⟨_,rfl,⟨_,rfl⟩,n10⟩
        ·obtain ⟨y,hy⟩:=nT pt (k:=(d-1).toNat) (by omega);rw [an7,hy,ao0] at hgo;(try refine aW rfl rfl ?_);refine dD (op9.rd (nV _)) (fun w' hw=>hw.keep) rfl rfl (by omega) hy fun b2 o2 hc2=>?_;(try refine aW rfl rfl ?_);refine au rfl hc2 ?_;(try refine aW rfl rfl ?_);refine aa6 ?_;(try refine aW rfl rfl ?_);refine au rfl (fun w' hw=>(b79.chg hw id).cell (o:=0) rfl) ?_;(repeat' (first|refine aa3 ?_|refine af ?_|refine aW rfl rfl ?_|refine fE rfl rfl ?_|refine aa9 ?_|refine yO ?_|refine Wq.add rfl rfl (by omega) (by omega) ?_|refine fQ rfl rfl (fun _=>?_) (fun _=>?_)|refine Wq.neq rfl rfl (fun _=>?_) (fun _=>?_)))
         ·intro w10 n10;replace n10:=New.trans n9 n10;refine qq3 ?_;rw [if_pos (.inr (.inl (by assumption)))] at hgo;rw [hgo];exact bZ rfl rfl rfl rfl ⟨_,rfl,⟨_,rfl⟩,n10⟩
         ·intro w10 n10;replace n10:=New.trans n9 n10;refine qq3 ?_;rw [if_pos (.inr (.inr (.inl (by omega))))] at hgo;rw [hgo];exact bZ rfl rfl rfl rfl ⟨_,rfl,⟨_,rfl⟩,n10⟩
         ·(try refine aW rfl rfl ?_);refine bD (fun w' hw=>(b9.chg hw id).at) rfl rfl ?_;(try refine aW rfl rfl ?_);refine kY NG m9 (u0:=.bool true) (fun p hp=>by obtain ⟨k,_,rfl⟩:=List.mem_map.1 hp;rfl) (fun w' hw=>hw.block _ m9.lt id) hq rfl rfl (fun hin=>?_) (fun hnot=>?_)
          ·have hcon:sn.contains (x.parent,x.name)=true:=by obtain ⟨k,hk,e⟩:=List.mem_map.1 hin;simp only [Prod.mk.injEq,and_true] at e;rw [WL e] at hk;exact List.contains_iff_mem.2 hk
           (repeat' (first|refine af ?_|refine yO ?_));intro w10 n10;replace n10:=New.trans n9 n10;refine qq3 ?_;rw [if_pos (.inr (.inr (.inr hcon)))] at hgo;rw [hgo];exact bZ rfl rfl rfl rfl ⟨_,rfl,⟨_,rfl⟩,n10⟩
          ·have hcon:sn.contains (x.parent,x.name)=false:=by rw [an6];intro hc;exact hnot (KW (x.parent,x.name),.bool true) (List.mem_map.2 ⟨_,List.contains_iff_mem.1 hc,rfl⟩) rfl
           have hy':y=x.parent:=by assumption
           rw [if_neg (by rw [hcon,hy'];simp;omega)] at hgo;(repeat' (first|refine af ?_|refine yO ?_));intro w10 n10;have m10:=m9.keep n10.keep (Pb:=fun _=>True) trivial;have aaF:=od9.new (nO _) n10;have aaG:=op9.new (nO _) n10;have b10:=b9.keep n10.keep (Pb:=fun _=>True) trivial;replace n10:=New.trans n9 n10;clear m9 od9 op9 b9 n9;refine qq2 ?_;refine bK b10 rfl rfl ?_;refine gU (u:=.bool true) (key:=KW (x.parent,x.name)) NG m10 hq hnot rfl rfl rfl fun w11 m11 c11 s11=>?_;have aaH:=aaF.chg (nO _) c11 (fun k hk e=>(aaF.lt hk).1.2 e);have acX:=aaG.chg (nO _) c11 (fun k hk e=>(aaG.lt hk).1.2 e);have n11:New w w11:=Chg.trans n10 c11 fun k hk e=>by omega
           have s9':=n11.size;clear m10 aaF aaG b10 n10;refine qq6 ?_;refine kZ acX rfl rfl (by omega) (by omega) fun vq oq ob=>?_;(repeat' (refine aa1 ?_));refine cu (y:=(i:Int)) (tN _ fun _=>rfl) oq rfl rfl rfl rfl rfl (by omega) (by omega) (by simp only [maxLen,anD];omega) (by simp only [anD];omega) rfl rfl fun vp' w12 p YR c12 acY=>?_;have hsq:Sep vd vq:=fun k hk hk'=>hsep k hk (ob▸hk');have aaI:=aaH.chg (nO _) c12 hsq;have m12:=m11.chg c12 (fun e=>(oq.lt e).1.2 rfl);have al2:=m11.lt;have n12:New w w12:=Chg.trans n11 c12 fun k hk e=>by have:=(oq.lt e).1.1;omega
           have WM:Sep vd vp':=AB aaH hsq acY;replace YR:=YR.mono (Pb':=fun b=>w.heap.size<=b/\b≠bm) (nV _) (fun b hb h=>by rcases h with h|h;exact h;exact ⟨by omega,by omega⟩) (fun _ _ h=>h);have s12:=c12.size;clear oq acX aaH m11 c12;refine qq6 ?_;refine cu (y:=d+1) (tN _ fun _=>rfl) aaI rfl rfl rfl rfl rfl (by omega) (by omega) (by simp only [maxLen];omega) (by omega) rfl rfl fun vd' w13 p ahX c13 Z8=>?_;have al3:=m12.lt;refine qq6 ?_
           refine ax (i+1,vd',vp',dp++ [d+1],pt.take d.toNat++ [(i:Int)],sn++ [(x.parent,x.name)]) (sl rfl) ⟨by dsimp only;omega,by dsimp only;omega,hgo,by simp [hdl],?_,by simp;omega,
            ahX.mono (nV _) (fun b hb h=>by rcases h with h|h;exact h;exact ⟨by omega,by omega⟩) (fun _ _ h=>h),
            YR.chg (nO _) c13 WM.symm,(AB YR WM.symm Z8).symm,?_,Chg.trans n12 c13 fun k hk e=>by have:=(aaI.lt e).1.1;omega⟩ (by dsimp only;omega)
           ·intro z hz;rcases List.mem_append.1 hz with hz|hz
            ·exact hd z hz
            ·simp at hz;omega
           ·have:=m12.chg c13 (fun e=>(aaI.lt e).1.2 rfl);simpa [UA] using this
 all_goals
  have e:i=l.length:=by omega
  subst e;rw [aoG] at hgo;simp only [wM] at hgo;obtain ⟨qd,cd,rfl,_,_⟩:=od3.form;rw [hgo];refine bZ rfl rfl rfl rfl ⟨_,rfl,⟨.slice qd dp.length cd,?_⟩,n3⟩;rw [Option.isSome_some,aoE]
  first|(rw [decide_eq_true (by omega)];rfl)|(rw [decide_eq_false (by omega)];rfl)
def yH (c:UInt8):List UInt8->List (List UInt8)
 | []=>[[]]
 |b::l=>if b=c then []::yH c l else (match yH c l with|h::t=>(b::h)::t| []=>[[b]])
theorem FZ {c:UInt8}: ∀ {l:List UInt8},(∀b∈l,b≠c)->yH c l=[l]
 | [],_=>rfl
 |b::l,h=>by rw [yH,if_neg (h b (by simp)),FZ fun x hx=>h x (by simp [hx])]
theorem JU {c:UInt8} {r:List UInt8}: ∀ {p:List UInt8},(∀b∈p,b≠c)->yH c (p++c::r)=p::yH c r
 | [],_=>by simp [yH]
 |b::l,h=>by rw [am8,yH,if_neg (h b (by simp)),JU fun x hx=>h x (by simp [hx])]
def og (l:List Nd):Bool:=(wM 0 [] [] [] l).2.isSome&&decide (0<l.length)
def WN (l:List Nd):Int:=if og l=true then 0 else (wM 0 [] [] [] l).1
def F6 (l:List Nd):Int:=if og l=true then 0 else 40
theorem vN {Pb:Nat->Prop} {w:World} {v:Value} {l:List Nd} (h:RdS rNd 3 Pb w v l):
 Calls prog 44 #[v] w (Ret fun r w'=>r=.tuple #[vi (WN l),vi (F6 l)]/\New w w'):=by
 refine nM func44 rfl ntmps44 rfl ?_;refine qq4 ?_;refine aj (Qn h) rfl ?_;rintro _ w1 ⟨⟨u,rfl⟩,n1⟩;unfold WN F6;cases hok:og l with
 |true=>have e:((wM 0 [] [] [] l).2.isSome&&decide (0<l.length))=true:=hok;rw [e];refine qq2 ?_;exact aB rfl rfl rfl ⟨_,rfl,rfl,n1⟩
 |false=>have e:((wM 0 [] [] [] l).2.isSome&&decide (0<l.length))=false:=hok;rw [e];refine qq5 ?_;exact aB rfl rfl rfl ⟨_,rfl,rfl,n1⟩
theorem uJ {l:List Nd} (h:og l=true):0<l.length:=by
 unfold og at h;simp only [ann,decide_eq_true_eq] at h;exact h.2
structure acZ (i:Nat) (x:Nd):Prop where
 lt:i<512
 pr:zK x.pz=true
 root:i=0->x.parent= -1/\x.name=[]
 kid:i≠0->0<=x.parent/\x.parent<i/\ql x.name=true
theorem H8: ∀(l:List Nd) (i:Nat) (dp pt:List Int) (sn:List Kid),(wM i dp pt sn l).2.isSome=true-> ∀j x,l[j]? =some x->acZ (i+j) x
 | [],_,_,_,_,_,j,x,h=>by simp at h
 |y::r,i,dp,pt,sn,h,j,x,hx=>by
  rw [wM] at h;split at h
  ·cases h
  ·rename_i h1
   simp only [not_or,Nat.not_le,ao1] at h1;split at h
   ·rename_i h0
    subst h0;split at h
    ·cases h
    ·rename_i h2
     simp only [not_or,aoZ] at h2;cases j with
     |zero=>simp at hx;subst hx;exact ⟨by omega,h1.2,fun _=>h2,fun e=>absurd rfl e⟩
     |succ j=>
      have:=H8 r 1 _ _ _ h j x (by simpa using hx)
      rwa [show 0+(j+1)=1+j by omega]
   ·rename_i h0
    split at h
    ·cases h
    ·rename_i h2
     simp only [not_or,ao1,Int.not_lt,Int.not_le] at h2;split at h
     ·cases h
     ·cases j with
      |zero=>simp at hx;subst hx;exact ⟨by omega,h1.2,fun e=>absurd e h0,fun _=>⟨h2.2.1,h2.2.2,h2.1⟩⟩
      |succ j=>
       have:=H8 r (i+1) _ _ _ h j x (by simpa using hx)
       rwa [show i+(j+1)=i+1+j by omega]
theorem qK {l:List Nd} (h:og l=true) {j:Nat} {x:Nd} (hx:l[j]? =some x):acZ j x:=by
 unfold og at h;simp only [ann] at h;have:=H8 l 0 [] [] [] h.1 j x hx
 rwa [ace] at this
theorem pF {l:List Nd} (h:og l=true):l.length<=512:=by
 rcases anY l.length with h0|h0
 ·omega
 ·obtain ⟨x,hx⟩:=nT l (k:=l.length-1) (by omega);have:=(qK h hx).lt;omega
abbrev Nm:=List UInt8
def Gz (t:List Nd):Nat->Nat->List Nm
 |0,_=>[]
 |f+1,i=>if i=0 then [] else match t[i]? with|some x=>Gz t f x.parent.toNat++ [x.name]|none=>[]
def yR (t:List Nd) (i:Nat):List Nm:=Gz t i i
theorem YS {t:List Nd} (ht:og t=true): ∀(f i:Nat),i<=f->Gz t f i=yR t i:=by
 have key: ∀(i f g:Nat),i<=f->i<=g->Gz t f i=Gz t g i:=by
  intro i;induction i using aoI with
  |ind i ih=>
   intro f g hf hg;cases f with
   |zero=>cases g with
    |zero=>rfl
    |succ g=>obtain rfl:i=0:=by omega
             simp [Gz]
   |succ f=>
    cases g with
    |zero=>obtain rfl:i=0:=by omega
           simp [Gz]
    |succ g=>
     simp only [Gz];split
     ·rfl
     ·rename_i h0
      split
      ·rename_i x hx
       have:=(qK ht hx).kid h0;rw [ih x.parent.toNat (by omega) f g (by omega) (by omega)]
      ·rfl
 exact fun f i h=>key i f i h (aap _)
theorem xq (t:List Nd):yR t 0=[]:=rfl
theorem tV {t:List Nd} (ht:og t=true) {i:Nat} {x:Nd} (hx:t[i]? =some x) (h0:i≠0):yR t i=yR t x.parent.toNat++ [x.name]:=by
 obtain ⟨m,rfl⟩: ∃m,i=m+1:=⟨i-1,by omega⟩;have:=(qK ht hx).kid h0;show Gz t (m+1) (m+1)=_;rw [Gz,if_neg h0,hx];dsimp only;rw [YS ht m x.parent.toNat (by omega)]
def Ag (l:List Nm):List UInt8:=if l=[] then [47] else l.flatMap fun n=>47::n
def NH (n:Nm):Prop:=n≠ []/\ ∀b∈n,b≠47
theorem F7 {n:Nm} (h:ql n=true):NH n:=by
 unfold ql at h;simp only [ann,decide_eq_true_eq] at h;refine ⟨h.1.1,fun b hb e=>?_⟩;have:=List.all_eq_true.1 h.2 b hb;subst e;rw [D5] at this;simp at this
theorem CV: ∀(l:List Nm) (n:Nm),(∀b∈n,b≠47)->(∀m∈l, ∀b∈m,b≠47)->yH 47 (n++l.flatMap fun n=>47::n)=n::l
 | [],n,hn,_=>by simp [FZ hn]
 |m::l,n,hn,hl=>by rw [aoH,am8,JU hn,CV l m (hl m (by simp)) fun x hx=>hl x (by simp [hx])]
theorem UB {l m:List Nm} (hl: ∀n∈l,NH n) (hm: ∀n∈m,NH n) (h:Ag l=Ag m):l=m:=by
 have key: ∀(x:Nm) (r:List Nm),NH x->Ag (x::r)≠ [47]:=fun x r hx e=>by unfold Ag at e;rw [if_neg (by simp),aoH,am8] at e;have:=(List.cons.inj e).2;exact hx.1 (List.append_eq_nil_iff.1 this).1
 cases l with
 |nil=>cases m with
  |nil=>rfl
  |cons x r=>exact absurd (h.symm.trans (by unfold Ag;rw [if_pos rfl])) (key x r (hm x (by simp)))
 |cons x r=>cases m with
  |nil=>exact absurd (h.trans (by unfold Ag;rw [if_pos rfl])) (key x r (hl x (by simp)))
  |cons y s=>
   unfold Ag at h;rw [if_neg (by simp),if_neg (by simp),aoH,aoH,am8,am8] at h;have h2:=congrArg (yH 47) (List.cons.inj h).2
   rwa [CV r x (hl x (by simp)).2 fun z hz=>(hl z (by simp [hz])).2,CV s y (hm y (by simp)).2 fun z hz=>(hm z (by simp [hz])).2] at h2
theorem zN {t:List Nd} (ht:og t=true): ∀(i:Nat), ∀n∈yR t i,NH n/\n.length<=31:=by
 intro i;induction i using aoI with
 |ind i ih=>
  intro n hn;by_cases h0:i=0
  ·subst h0;simp [xq] at hn
  ·by_cases hi:i<t.length
   ·obtain ⟨x,hx⟩:=nT t hi;have hk:=(qK ht hx).kid h0;rw [tV ht hx h0] at hn;rcases List.mem_append.1 hn with hn|hn
    ·exact ih _ (by omega) n hn
    ·simp at hn;subst hn;exact ⟨F7 hk.2.2,zM hk.2.2⟩
   ·obtain ⟨m,rfl⟩: ∃m,i=m+1:=⟨i-1,by omega⟩;unfold yR at hn;rw [Gz,if_neg h0,anl (by omega)] at hn;simp at hn
theorem UC {t:List Nd} (ht:og t=true): ∀(i:Nat),(yR t i).length<=i:=by
 intro i;induction i using aoI with
 |ind i ih=>
  by_cases h0:i=0
  ·subst h0;simp [xq]
  ·by_cases hi:i<t.length
   ·obtain ⟨x,hx⟩:=nT t hi;have hk:=(qK ht hx).kid h0;rw [tV ht hx h0];have:=ih x.parent.toNat (by omega);simp only [am7,anM];omega
   ·obtain ⟨m,rfl⟩: ∃m,i=m+1:=⟨i-1,by omega⟩;unfold yR;rw [Gz,if_neg h0,anl (by omega)];simp
theorem UD {l:List Nm} (h: ∀n∈l,n.length<=31):(Ag l).length<=32*l.length+1:=by
 have key:(l.flatMap fun n=>47::n).length<=32*l.length:=by
  induction l with
  |nil=>simp
  |cons x r ih=>have h1:=ih fun n hn=>h n (by simp [hn]);have h2:=h x (by simp);simp only [aoH,am7,anJ] at h1 ⊢;omega
 unfold Ag;split
 ·simp
 ·omega
def val (ps:List Pr) (nm:Nm):Option (List UInt8):=(ps.find? fun p=>decide (p.1=nm)).map (·.2)
theorem WO {ps:List Pr} {nm:Nm}:val ps nm=none↔ ∀p∈ps,p.1≠nm:=by
 unfold val;rw [Option.map_eq_none_iff,List.find?_eq_none];simp
def AU (l:List Nd) (i:Int):Int:=if og l=true then (if i<0∨(l.length:Int)<=i then 1 else 0) else 40
theorem xu {Pb:Nat->Prop} {w:World} {v:Value} {l:List Nd} {i:Int} (h:RdS rNd 3 Pb w v l):
 Calls prog 47 #[v,vi i] w (Ret fun r w'=>r=vi (AU l i)/\New w w'):=by
 obtain ⟨a,cap,rfl,hc1,hc2⟩:=h.form;simp only [maxLen] at hc2;refine nM func47 rfl ntmps47 rfl ?_;refine qq4 ?_;refine aj (vN h) rfl ?_;rintro _ w1 ⟨rfl,n1⟩;unfold F6 AU;cases hok:og l with
 |false=>rw [if_neg (by simp),if_neg (by simp)];(repeat' (first|refine qq5 ?_|(refine aa4 (fun _=>?_) (fun _=>?_)<;>(first|(exfalso;omega)|skip))));exact ak rfl rfl ⟨_,rfl,rfl,n1⟩
 |true=>
  rw [if_pos rfl,if_pos rfl];(repeat' (first|refine qq5 ?_|refine aa2 (fun _=>?_) (fun _=>?_)|refine aU rfl rfl (fun _=>?_) (fun _=>?_)|(refine aa4 (fun _=>?_) (fun _=>?_)<;>(first|(exfalso;omega)|skip))))
  ·rw [if_pos (.inl (by omega))];exact ak rfl rfl ⟨_,rfl,rfl,n1⟩
  ·rw [if_pos (.inr (by omega))];exact ak rfl rfl ⟨_,rfl,rfl,n1⟩
  ·rw [if_neg (by omega)];exact ak rfl rfl ⟨_,rfl,rfl,n1⟩
end Go.Proofs.YtfbnfhhmiiahnaaGreatDoor
namespace Go.Proofs.YtfbnfhhmiiahnaaGreatDoor.Wk
open Go Go.RowKit
def NI:Nat->List Value->List (Nat×Value)
 |_,[]=>[]
 |k,u::us=>(k,u)::NI (k+1) us
theorem fill_dense (sz:Nat): ∀(us:List Value) (k:Nat) (pre zs:List Value),pre.length=k*sz->zs.length=us.length*sz->(∀u∈us,u.cells.size=sz)->
 Instr.fill (fun i=>some (i*sz,sz)) (pre++zs).toArray (NI k us)=some (pre++us.flatMap fun u=>u.cells.toList).toArray
 | [],k,pre,zs,hp,hz,_=>by have:zs=[]:=anf (by simpa using hz);subst this;simp [NI,Instr.fill]
 |u::us,k,pre,zs,hp,hz,h=>by have hu:=h u (by simp);simp only [anJ,aaR,ao2] at hz;simp only [NI,Instr.fill,hu];rw [if_neg (by simp;omega)];have hsp:zs=zs.take sz++zs.drop sz:=(aob sz zs).symm;have h1:=CP (k*sz) u.cells.toList 0 pre (zs.drop sz) (zs.take sz) (by simp [hu];omega) (by omega);rw [List.append_assoc, <-hsp] at h1;rw [<-Array.foldl_toList,Array.toList_zipIdx];have h2:ao3 (fun (cs:Array Value) (x:Value×Nat)=>match x with|(c,j)=>cs.setIfInBounds (k*sz+j) c) (pre++zs).toArray (u.cells.toList.zipIdx)=(pre++u.cells.toList++zs.drop sz).toArray:=h1;rw [h2,fill_dense sz us (k+1) (pre++u.cells.toList) (zs.drop sz) (by simp [hu,hp,aaR]) (by simp;omega) fun v hv=>h v (by simp [hv])];simp
def UE {α:Type} (R:Rel α) (sz:Nat) (Pb:Nat->Prop) (w:World):List α->List Value->Prop
 | [],[]=>True
 |x::xs,u::us=>u.cells.size=sz/\R Pb w x u.cells.toList/\UE R sz Pb w xs us
 |_,_=>False
theorem UE.length {α:Type} {R:Rel α} {sz:Nat} {Pb:Nat->Prop} {w:World}: ∀ {xs:List α} {us:List Value},UE R sz Pb w xs us->us.length=xs.length/\ ∀u∈us,u.cells.size=sz
 | [],[],_=>⟨rfl,by simp⟩
 |x::xs,u::us,h=>by obtain ⟨h1,_,h2⟩:=h;have:=h2.length;exact ⟨by simp [this.1],fun v hv=>by rcases List.mem_cons.1 hv with rfl|hv;exact h1;exact this.2 v hv⟩
 | [],_::_,h=>h.elim
 |_::_,[],h=>h.elim
theorem UE.get {α:Type} {R:Rel α} {sz:Nat} {Pb:Nat->Prop} {w:World}: ∀ {xs:List α} {us:List Value} {i:Nat} {x:α},UE R sz Pb w xs us->xs[i]? =some x->R Pb w x (((us.flatMap fun u=>u.cells.toList).drop (i*sz)).take sz)
 | [],[],i,x,_,h=>by simp at h
 |y::xs,u::us,i,x,h,hx=>by
  obtain ⟨h1,h2,h3⟩:=h;have hl:u.cells.toList.length=sz:=by simpa using h1
  cases i with
  |zero=>simp at hx;subst hx;simp only [aoH,anV,anK];rw [List.take_append_of_le_length (by omega),anL (by omega)];exact h2
  |succ i=>have:=h3.get (i:=i) (by simpa using hx);rw [aoH,List.drop_append,aoO (show u.cells.toList.length<=(i+1)*sz by rw [hl,aaR];omega),ang,hl,aaR,ao2,ao4];exact this
 | [],_::_,_,_,h,_=>h.elim
 |_::_,[],_,_,h,_=>h.elim
section
variable {P:Program} {n:Nat} {ds:List Deferred} {Q:Po} {F:Fr} {w w':World} {ops rest:List Oper} {d d1 d2:Nat} {ty ty1 ty2:TypeId} {pos pos1 pos2:String} {aft Hl Ho:Array Edge}
theorem vW {us:List Value} {sz:Nat} (h: ∀u∈us,u.cells.size=sz):(us.flatMap fun u=>u.cells.toList).length=us.length*sz:=by
 induction us with
 |nil=>simp
 |cons u us ih=>simp [ih fun v hv=>h v (by simp [hv]),h u (by simp),aaR];omega
theorem wJ {t e:TypeId} {sz bytes:Nat} {agg:Bool} {z:Value} {us:List Value} (ht:P.underlying t=some (.slice e)) (he:ElT P e sz bytes agg z) (hv: ∀u∈us,u.cells.size=sz) (hs:0<us.length*sz) (hs2:us.length*sz<=16777216):
 (Instr.buildSlice t us.length (NI 0 us).toArray).run P w=.ok (.slice (some ⟨w.heap.size,0,none⟩) us.length us.length) (w.alloc (.cells (us.flatMap fun u=>u.cells.toList).toArray e)):=by
 have hne: ¬us.length*sz=0:=by omega
 have hz:=he.hz;have e3:=fill_dense sz us 0 [] (((ab8 (us.length*sz)).map fun i=>z.cells[i % z.cells.size]!)) (by simp) (by simp) hv;have e4:(Array.range (us.length*sz)).map (fun i=>z.cells[i % z.cells.size]!)=(((ab8 (us.length*sz)).map fun i=>z.cells[i % z.cells.size]!)).toArray:=by apply Array.ext';simp [Array.toList_range]
 rw [ang,ang, <-e4] at e3;simp only [Instr.buildSlice,Sem.run_bind,run_underlying ht,Result.andThen_ok,he.sizeOf];rw [if_neg (by omega),if_neg hne];simp only [Sem.run_bind,Result.andThen_ok,he.zeroValue,Sem.run_pure,e3,newRow,run_newObj];rfl
theorem iE {α:Type} {R:Rel α} {N:Nat} {ps:List (Nat×Operand)} {t e:TypeId} {sz bytes:Nat} {agg:Bool} {z:Value} {xs:List α} {us:List Value} {Pe:Nat->Prop} (hR:qH R sz) [ht:Und P t (.slice e)] [he:ElT P e sz bytes agg z] (hN:us.length=N) (hps:ps.map (fun p=>(p.1,ev n F p.2))=NI 0 us)
 (h:UE R sz (fun b=>Pe b/\w.heap.size≠b) w xs us) (hsz:0<us.length*sz) (hsz2:us.length*sz<=16777216)
 (c: ∀v w',nP R e sz (fun b=>b=w.heap.size) Pe w' v xs->New w w'->w'.heap.size=w.heap.size+1->v.ownBlock=some w.heap.size->Wl P n ds Q ops rest (upd F d v) w'):
 Wl P n ds Q ops (⟨some d,.buildSlice t N ps.toArray,ty,pos,aft,none⟩::rest) F w:=by
 subst hN;obtain ⟨hl,hall⟩:=h.length;have hr:=wJ (P:=P) (w:=w) ht.h he hall hsz hsz2;have hn:New w (w.alloc (.cells (us.flatMap fun u=>u.cells.toList).toArray e)):=Chg.alloc _ _ _;refine Wl.val (w':=w.alloc (.cells (us.flatMap fun u=>u.cells.toList).toArray e)) ?_ (c _ _ ⟨us.flatMap fun u=>u.cells.toList,⟨by rw [vW hall,hl],.inr ⟨w.heap.size,us.length,(us.flatMap fun u=>u.cells.toList).toArray,by rw [hl],rfl,heap_alloc_new w _,by omega,?_,by simpa using vW hall,?_⟩⟩,fun i x hx=>?_⟩ hn (by simp) rfl)
 ·simp only [execOp,am9,hps,Sem.run_bind,hr,Result.andThen_ok,Sem.run_pure];rw [hl]
 ·have:0<sz:=by rcases anY sz with h0|h0;rw [h0] at hsz;simp at hsz;exact h0
  have:us.length*1<=us.length*sz:=Nat.mul_le_mul_left _ this;unfold maxLen;omega
 ·show aoP (xs.length*sz) (us.flatMap fun u=>u.cells.toList)=_;rw [<-hl, <-vW hall,aon]
 ·have h1:=hR.st _ _ _ _ _ hn.keep (h.get hx);exact hR.mo _ _ _ _ _ (fun b _ hb=>⟨hb.1,fun e=>hb.2 (by simpa [Value.ownBlock] using e)⟩) h1
end
section
variable {P:Program} {n:Nat} {ds:List Deferred} {Q:Po} {F:Fr} {w:World} {ops rest:List Oper} {d:Nat} {ty:TypeId} {pos:String} {aft:Array Edge}
theorem F8 {t e m bytes b:Nat} {agg:Bool} {z:Value} {k:IntKind} {j:Int} (ht:P.underlying t=some (.array m e)) (he:ElT P e 1 bytes agg z) (h0:0<=j) (h1:j<m):
 (Instr.indexAt t (.pointer (some ⟨b,0,none⟩)) (.int k j)).run P w=.ok (.pointer (some ⟨b,j.toNat,none⟩)) w:=by
 simp [Instr.indexAt,asIntOf,run_underlying ht,h0,h1,he.sizeOf,Instr.sureAddr,addr_add]
theorem iF {x i:Operand} {t e m bytes b:Nat} {agg:Bool} {z:Value} {k:IntKind} {j:Int} [ht:Und P t (.array m e)] [he:ElT P e 1 bytes agg z] (hx:ev n F x=.pointer (some ⟨b,0,none⟩)) (hi:ev n F i=.int k j) (h0:0<=j) (h1:j<m)
 (c:Wl P n ds Q ops rest (upd F d (.pointer (some ⟨b,j.toNat,none⟩))) w):Wl P n ds Q ops (⟨some d,.indexAddr t x i,ty,pos,aft,none⟩::rest) F w:=
 Wl.val (by simp only [execOp,hx,hi,Sem.run_bind,F8 ht.h he h0 h1,Result.andThen_ok,Sem.run_pure]) c
end
section
variable {P:Program} {n:Nat} {ds:List Deferred} {Q:Po} {C:World->Prop} {K:Fr->Prop} {F:Fr} {w w':World} {ops rest:List Oper} {d:Nat} {ty:TypeId} {pos:String} {aft:Array Edge} {x lo hi i:Operand} {t:TypeId} {k k':IntKind} {a b j:Int} {l:List UInt8}
theorem jl {c:UInt8} [ht:Und P t .string] (hx:ev n F x=vs l) (hi:ev n F i=.int k j) (h0:0<=j) (hj:l[j.toNat]? =some c)
 (q:Wq P n ds C K ops rest (upd F d (.int .u8 c.toNat))):Wq P n ds C K ops (⟨some d,.index t x i,ty,pos,aft,none⟩::rest) F:=
 Wq.val (fun w _=>by simp only [execOp,hx,hi,Sem.run_bind,Qd ht.h h0 hj,Result.andThen_ok,Sem.run_pure]) q
theorem dU {ps:List (Nat×Operand)} {parts:List (Nat×Value)} {u:Value}
 (hps:ps.map (fun p=>(p.1,ev n F p.2))=parts) (hr:(Instr.build t parts.toArray).run P w=.ok u w) (c:Wl P n ds Q ops rest (upd F d u) w):Wl P n ds Q ops (⟨some d,.build t ps.toArray,ty,pos,aft,none⟩::rest) F w:=by
 refine Wl.val ?_ c;subst hps;simp only [execOp,am9,Sem.run_bind];rw [hr];rfl
end
theorem rP:qH (Wk.one vs) 1:=tN _ fun _=>rfl
theorem w8 {k:Nat} (h:k<256):IntKind.u8.wrap (k:Int)=(k:Int):=CQ rfl (by omega) (by show (k:Int)<2^8;omega)
theorem Chg.toNew {M:Nat->Prop} {w w':World} (c:Chg M w w') (h: ∀k,k<w.heap.size-> ¬M k):New w w':=c.mono fun k hk e=>h k hk e
theorem Chg.tN {M:Nat->Prop} {w w':World} (c:Chg M w w') (h: ∀k,k<w.heap.size->¬M k:=by intro k hk e;omega):New w w':=c.toNew h
abbrev NoB:Nat->Prop:=fun _=>False
end Go.Proofs.YtfbnfhhmiiahnaaGreatDoor.Wk
namespace Go.Proofs.YtfbnfhhmiiahnaaGreatDoor.Wk
open Go Go.RowKit
open Go.Sort (Holds putRow)
theorem SN {α:Type} {enc:α->Value} {T:TypeId} {Pb Pe:Nat->Prop} {w:World} {g cap:Nat} {xs:List α} (h:nP (Wk.one enc) T 1 Pb Pe w (.slice (some ⟨g,0,none⟩) xs.length cap) xs):
 ∃cur,Pb g/\w.heap[g]? =some (.cells cur T (0,0))/\xs.length<=cap/\cap<=maxLen/\cur.size=cap/\ ∀(j:Nat) (hj:j<xs.length),cur[j]? =some (enc xs[j]):=by
 obtain ⟨hcl,h0|⟨g',cap',cur,e1,hPg,hheap,h1,h2,h3,h4⟩⟩:=h.to1
 ·cases h0.1
 cases e1;refine ⟨cur,hPg,hheap,h1,h2,by omega,fun j hj=>?_⟩;have h5:(aoP (xs.length*1) cur.toList)[j]? =(xs.map enc)[j]? :=by rw [h4]
 rw [aaQ,if_pos (by omega),an3,anv hj] at h5;simpa using h5
theorem JV {α:Type} [Inhabited α] {enc:α->Value} {T:TypeId} {Pb Pe:Nat->Prop} {w:World} {g cap:Nat} {xs:List α} (h:nP (Wk.one enc) T 1 Pb Pe w (.slice (some ⟨g,0,none⟩) xs.length cap) xs):Holds enc w g 0 xs.toArray:=by
 obtain ⟨cur,_,hheap,_,_,_,hcur⟩:=SN h;intro j hj;have hj':j<xs.length:=by simpa using hj
 refine ⟨?_,?_⟩
 ·simp only [World.cell?,hheap,ace];have:xs.toArray[j]! =xs[j]:=by simp [hj']
  rw [this];simpa using hcur j hj'
 ·simp [World.frozen?,hheap]
theorem SQ {α β:Type} [Inhabited β] {enc:α->Value} {NJ:β->Value} {T:TypeId} {Pb Pe Pe':Nat->Prop} {w w':World} {g cap:Nat} {xs:List α} {d:List β} (h:nP (Wk.one enc) T 1 Pb Pe w (.slice (some ⟨g,0,none⟩) xs.length cap) xs)
 (hl:d.length=xs.length) (hw: ∀cs,w.heap[g]? =some (.cells cs T (0,0))->w'.heap[g]? =some (.cells (Sort.putCells NJ 0 d.toArray cs) T (0,0))):nP (Wk.one NJ) T 1 Pb Pe' w' (.slice (some ⟨g,0,none⟩) xs.length cap) d:=by
 obtain ⟨cur,hPg,hheap,h1,h2,h3,hcur⟩:=SN h;refine iC (m:=xs.length) hl.symm ⟨by simp [hl],.inr ⟨g,cap,_,rfl,hPg,hw _ hheap,h1,h2,by simp [Sort.putCells,h3],?_⟩⟩;apply anC;intro j;rw [aaQ];by_cases hj:j<xs.length
 ·rw [if_pos (by omega),aoQ,Sort.putCells,Array.getElem?_mapIdx,hcur j hj,am6,if_pos ⟨anq _,by simp;omega⟩];have hjD:j<d.length:=by omega
  rw [an3,anv hjD];simp [hjD]
 ·rw [if_neg (by omega),anl (by simp;omega)]
theorem Qp {β:Type} [Inhabited β] {NJ:β->Value} {w:World} {g n:Nat} {d:Array β}:Chg (fun k=>k=g) w (putRow NJ (Sort.ahead w n) g 0 d):=
 ⟨rfl,rfl,rfl,by simp [putRow,Sort.mapBlock,Sort.ahead],fun j hj hn=>by have: ¬g=j:=fun e=>hn e.symm;simp only [putRow,Sort.mapBlock,Sort.ahead];rw [aoJ,if_neg this]⟩
theorem NK {β:Type} [Inhabited β] {NJ:β->Value} {w:World} {g n:Nat} {d:Array β} {cs:Array Value} {T:TypeId} (h:w.heap[g]? =some (.cells cs T (0,0))):
 (putRow NJ (Sort.ahead w n) g 0 d).heap[g]? =some (.cells (Sort.putCells NJ 0 d cs) T (0,0)):=by
 simp only [putRow,Sort.mapBlock,Sort.ahead];rw [aoJ,if_pos rfl,h];rfl
end Go.Proofs.YtfbnfhhmiiahnaaGreatDoor.Wk
namespace Go.Proofs.YtfbnfhhmiiahnaaGreatDoor
open Go Wk
open Go.RowKit (Below)
attribute [local irreducible] Go.Calls
theorem D6 {sep:List UInt8} {m:Nat}: ∀ {xs:List (List UInt8)},(∀x∈xs,x.length<=m)->(Lib.joinTail sep xs).length<=(m+sep.length)*xs.length
 | [],_=>by simp [Lib.joinTail]
 |x::xs,h=>by
  have e:Lib.joinTail sep (x::xs)=sep++x++Lib.joinTail sep xs:=by simp [Lib.joinTail]
  have h1:=D6 (sep:=sep) (m:=m) (xs:=xs) fun y hy=>h y (by simp [hy]);have h2:=h x (by simp);rw [e,am7,am7,anJ,ao5];omega
theorem WQ {sep:List UInt8} {m:Nat} {xs:List (List UInt8)} (h: ∀x∈xs,x.length<=m):(Lib.join xs sep).length<=(m+sep.length)*xs.length:=by
 cases xs with
 |nil=>simp [Lib.join,List.intercalate]
 |cons x r=>rw [Lib.join_cons,am7,anJ,ao5];have h1:=D6 (sep:=sep) (m:=m) (xs:=r) fun y hy=>h y (by simp [hy]);have h2:=h x (by simp);omega
theorem UF {Pb:Nat->Prop} {w:World} {v:Value} {xs:List (List UInt8)} {sep:List UInt8} (h:RdS (Wk.one vs) 1 Pb w v xs) (hn:xs.length<=1000000000) (hl:(Lib.join xs sep).length<=100000000000):
 Calls prog 78 #[v,vs sep] w (Ret fun r w'=>r=vs (Lib.join xs sep)/\New w w'):=by
 have key: ∀a c,xs=[]->Calls prog 78 #[.slice a 0 c,vs sep] w (Ret fun r w'=>r=vs (Lib.join xs sep)/\New w w'):=by intro a c hx;refine (lu a c ⟨sep.toArray⟩ w).mono ?_;rintro e w' ⟨rfl,rfl⟩;subst hx;exact ⟨_,rfl,rfl,ay _ _⟩
 rcases h with ⟨rfl,rfl⟩|⟨a,cap,rfl,rfl,hc⟩|⟨b,off,cap,cur,e,fr,rfl,hb,hh,h1,h2,h3,h4⟩
 ·exact key none 0 rfl
 ·exact key (some a) cap rfl
 ·have em:(xs.map fun x=>(⟨x.toArray⟩:ByteArray)).map (·.data.toList)=xs:=by
   rw [aoz];conv=>rhs;rw [<-List.map_id xs]
   exact List.map_congr_left fun x _=>rfl
  have:=lC b off cap (xs.map fun x=>⟨x.toArray⟩) ⟨sep.toArray⟩ w ?_ (uT hh) (by simp;omega) (by simpa using h1) (by rw [em];show (Lib.join xs sep).length<=_;omega)
  ·rw [em,aoR] at this;refine this.mono ?_;rintro e w' ⟨rfl,hB⟩;exact ⟨_,rfl,rfl,jH hB⟩
  ·intro j x hx;rw [an3] at hx;obtain ⟨y,hy,rfl⟩:=Option.map_eq_some_iff.1 hx;have h5:=h4 j y hy;simp only [one,anx] at h5;have h6:=congrArg (fun q=>q[0]?) h5;simp only [aaQ,ad6] at h6;simp only [World.cell?,hh];simpa using h6
theorem UG {x:Nm} {l:List Nm}:[47]++Lib.join (x::l) [47]=Ag (x::l):=by
 unfold Ag;rw [if_neg (by simp),Lib.join_cons,aoH];have: ∀l:List Nm,Lib.joinTail [47] l=l.flatMap fun n=>47::n:=by
  intro l;induction l with
  |nil=>rfl
  |cons y l ih=>
   have e:Lib.joinTail [47] (y::l)=[47]++y++Lib.joinTail [47] l:=by simp [Lib.joinTail]
   rw [e,ih,aoH];simp
 rw [this];simp
theorem KX {Pb:Nat->Prop} {w:World} {v:Value} {xs:List Nm} (h:nP (Wk.one vs) 9 1 Pb NoB w v xs) (hl:xs.length<=1000000000):
 Calls prog 77 #[v] w (Ret fun _ w'=>nP (Wk.one vs) 9 1 Pb NoB w' v xs.reverse/\Chg (fun k=>v.ownBlock=some k) w w'):=by
 by_cases h0:xs=[]
 ·subst h0;obtain ⟨a,cap,rfl,_,_⟩:=h.form;refine (l9 a cap w).mono ?_;rintro _ w' ⟨rfl,rfl⟩;exact ⟨_,rfl,h,ay _ _⟩
 ·obtain ⟨g,cap,rfl,_,_,_⟩:=h.blk h0;refine (l7 g 0 cap xs w (JV h) (by omega)).mono ?_;rintro _ w' ⟨rfl,n,rfl⟩;refine ⟨_,rfl,SQ h (by simp) fun cs hc=>NK hc,Qp.mono fun k _ e=>by rw [e];rfl⟩
end Go.Proofs.YtfbnfhhmiiahnaaGreatDoor
namespace Go.Proofs.YtfbnfhhmiiahnaaGreatDoor
open Go Wk
structure Cd where
 name:Nm
 family:Nm
 level:Int
 compat:List Nm
 score:Int
 vY:Nm
 entry:Int
deriving DecidableEq,Inhabited
def Z9 (s:Nm):Bool:=decide (s≠ []/\s.length<=63)&& !s.contains 0
def CW (l:List Nm):Nat->List Nm->Bool
 |_,[]=>true
 |i,s::r=>Z9 s&&(!(l.take i).contains s&&CW l (i+1) r)
def KY (c:Cd):Bool:=
 ql c.name&&(ql c.family&&((decide (c.vY=[])||ql c.vY)&&(decide (c.level<=4)&&(decide (-100<=c.score/\c.score<=100)&&(decide (-1<=c.entry/\c.entry<=47)&&(decide (0<c.compat.length/\c.compat.length<=8)&&CW c.compat 0 c.compat))))))
def zO:Nat->List Nm->List Cd->Bool
 |_,_,[]=>true
 |i,seen,c::r=>decide (i<64)&&(KY c&&(!seen.contains c.name&&zO (i+1) (seen++ [c.name]) r))
def uD (l:List Cd):Bool:=zO 0 [] l
theorem H9: ∀(l:List Cd) (i:Nat) (seen:List Nm),zO i seen l=true->i+l.length<=64+(if l=[] then i else 0)/\(∀c∈l,KY c=true)/\(l.map Cd.name).Nodup/\ ∀c∈l,c.name∉seen
 | [],i,seen,_=>by simp
 |c::r,i,seen,h=>by
  rw [zO] at h;simp only [ann,decide_eq_true_eq,Bool.not_eq_true',List.contains_eq_mem,decide_eq_false_iff_not] at h;obtain ⟨h1,h2,h3,h4⟩:=h;obtain ⟨i1,i2,i3,i4⟩:=H9 r (i+1) _ h4;refine ⟨?_,?_,?_,?_⟩
  ·rw [if_neg (by simp)];split at i1
   ·rename_i e;subst e;simp;omega
   ·simp only [anJ];omega
  ·intro x hx;rcases List.mem_cons.1 hx with rfl|hx
   ·exact h2
   ·exact i2 x hx
  ·rw [acd,List.nodup_cons];refine ⟨fun e=>?_,i3⟩;obtain ⟨x,hx,e⟩:=List.mem_map.1 e;exact i4 x hx (by rw [e];simp)
  ·intro x hx;rcases List.mem_cons.1 hx with rfl|hx
   ·exact h3
   ·exact fun e=>i4 x hx (by simp [e])
theorem NM {l:List Cd} (h:uD l=true):l.length<=64:=by
 have:=(H9 l 0 [] h).1;split at this
 ·rename_i e;subst e;simp
 ·omega
def better (a b:Cd):Bool:=if a.score=b.score then decide (a.name<b.name) else decide (b.score<a.score)
def uV (cs:List Cd) (s:Nm):Nat->Option Nat->List Cd->Option Nat
 |_,b,[]=>b
 |i,b,c::r=>uV cs s (i+1) (if c.compat.contains s=true/\(∀j,b=some j->better c (cs.getD j default)=true) then some i else b) r
def SS (cs:List Cd) (s:Nm):Option Nat:=uV cs s 0 none cs
def CX (cs:List Cd):Nat->List Nm->Option (Nat×Nat)
 |_,[]=>none
 |k,s::r=>match SS cs s with|some i=>some (i,k)|none=>CX cs (k+1) r
def xw (cs:List Cd) (texts:List Nm):Option (Nat×Nat):=CX cs 0 texts
theorem JW {cs:List Cd} {s:Nm}: ∀(l:List Cd) (i:Nat) (b:Option Nat),i+l.length=cs.length->(∀j,b=some j->j<cs.length)-> ∀j,uV cs s i b l=some j->j<cs.length
 | [],i,b,_,hb,j,h=>hb j h
 |c::r,i,b,hi,hb,j,h=>by
  simp only [anJ] at hi;rw [uV] at h;refine JW r (i+1) _ (by omega) (fun k hk=>?_) j h;split at hk
  ·cases hk;omega
  ·exact hb k hk
theorem WR {cs:List Cd} {s:Nm} {j:Nat} (h:SS cs s=some j):j<cs.length:=JW cs 0 none (by simp) (by simp) j h
theorem NP {cs:List Cd} {texts:List Nm} {i k:Nat} (h:xw cs texts=some (i,k)):i<cs.length/\k<texts.length:=by
 have key: ∀(l:List Nm) (m:Nat),CX cs m l=some (i,k)->i<cs.length/\k<m+l.length:=by
  intro l;induction l with
  |nil=>intro m h;cases h
  |cons s r ih=>
   intro m h;rw [CX] at h;cases hb:SS cs s with
   |some j=>rw [hb] at h;cases h;exact ⟨WR hb,by simp⟩
   |none=>rw [hb] at h;have:=ih (m+1) h;simp only [anJ];omega
 have:=key texts 0 h
 rwa [ace] at this
end Go.Proofs.YtfbnfhhmiiahnaaGreatDoor
namespace Go.Proofs.YtfbnfhhmiiahnaaGreatDoor
open Go Wk
open Go.RowKit (Below)
attribute [local irreducible] Go.Calls
def number (l:List UInt8):Nat:=l.foldl (fun n c=>n*256+c.toNat) 0
theorem NQ (l:List UInt8) (c:UInt8):number (l++ [c])=number l*256+c.toNat:=by simp [number]
theorem F9 {l:List UInt8} {k:Nat} {c:UInt8} (h:l[k]? =some c):number (l.take (k+1))=number (l.take k)*256+c.toNat:=by
 rw [aoL,h];exact NQ _ _
theorem NR (l:List UInt8): ∀n:Nat,l.foldl (fun n c=>n*256+c.toNat) n=n*256^l.length+number l:=by
 induction l with
 |nil=>intro n;simp [number]
 |cons c l ih=>
  intro n;have e1:number (c::l)=(0*256+c.toNat)*256^l.length+number l:=by show ao3 _ (0*256+c.toNat) l=_;exact ih _
  rw [aoK,ih,e1,anJ,anV,ace,ao6,aaR,Nat.mul_assoc,Nat.mul_comm 256];omega
theorem NS (c:UInt8) (l:List UInt8):number (c::l)=c.toNat*256^l.length+number l:=by
 have:=NR l (0*256+c.toNat);simpa [number] using this
theorem yS (l:List UInt8):number l<256^l.length:=by
 induction l with
 |nil=>simp [number]
 |cons c l ih=>rw [NS,anJ,ao6];have h1:(c.toNat+1)*256^l.length<=256*256^l.length:=Nat.mul_le_mul_right _ (by have:=c.toNat_lt;omega);rw [aaR] at h1;omega
theorem Ia (k m:Nat) (h:k<=m):256^k<=256^m:=Nat.pow_le_pow_right (by omega) h
theorem aaJ (l:List UInt8) {k:Nat} (h:k<l.length): ∃x,l[k]? =some x:=⟨l[k],anv h⟩
theorem UH {l:List UInt8} {w:World} (hl:l.length=4):Calls prog 135 #[.agg (l.map by8).toArray] w (Ret fun r w'=>r=.int .u32 (number l)/\New w w'):=by
 refine nM (n:=18) func135 rfl rfl rfl ?_;refine qq4 ?_;refine Wl.box rfl fun w1 h1 n1 s1=>?_;have h1':Bk w1 w.heap.size 266 (l.map by8):=h1;refine qq4 ?_;refine bK h1' (by simpa using hl) rfl ?_;refine qq4 ?_;refine aA (σ:=Nat) (fun k=>[(3,.int .u32 (number (l.take k))),(6,.agg (l.map by8).toArray),(7,vi k)]) (fun k w'=>k<=4/\w1=w') (fun k=>4-k) 0 ⟨by simp [number];rfl,rfl,rfl,trivial⟩ ⟨anq _,rfl⟩ ?_;rintro k G _ ⟨hk,rfl⟩;simp only [pq];(repeat' (first|refine qq4 ?_|refine aa2 (fun _=>?_) (fun _=>?_)))
 ·obtain ⟨c,hc⟩:=aaJ l (k:=k) (by omega);have hn:=yS (l.take k);have hp:=Ia (l.take k).length 3 (by simp;omega);have hcl:=c.toNat_lt;have h3:(256:Nat)^3=16777216:=by decide
  refine jL (cs:=l.map by8) (u:=by8 c) rfl rfl (by omega) (by omega) (by simp [hc]) ?_;refine qq4 ?_;refine jF rfl rfl (by omega) ?_;refine qq5 ?_;have e1:IntKind.u32.wrap ((number (l.take k):Int)*2^(min (8:Int).toNat IntKind.u32.bits))=((number (l.take k)*2^8:Nat):Int):=by rw [show (2:Int)^(min (8:Int).toNat IntKind.u32.bits)=256 from by decide,show (2:Nat)^8=256 from by decide,CQ rfl (by omega) (by simp only [IntKind.bits];omega)];omega
  have e2:IntKind.u32.wrap (c.toNat:Int)=(c.toNat:Int):=CQ rfl (by omega) (by simp only [IntKind.bits];omega);refine Wl.orU (number (l.take k)) c.toNat 8 rfl e1 e2 (by omega) (by simp only [IntKind.bits];omega) rfl rfl ?_;refine qq6 ?_;refine ax (k+1) ⟨?_,rfl,rfl,trivial⟩ ⟨by omega,rfl⟩ (by omega);show Value.int _ _=Value.int _ _;rw [F9 hc]
 ·have:k=l.length:=by omega
  refine ak rfl rfl ⟨_,rfl,?_,n1⟩;rw [this,aon];rfl
abbrev zQ:Int->Value:=fun x=>.int .u32 x
theorem EO:qH (Wk.one zQ) 1:=tN _ fun _=>rfl
theorem G8 {x:Int} {n:Nat} (h:x=(n:Int)) (hn:n<9223372036854775808):IntKind.i64.wrap x=(n:Int):=by
 subst h;simp [IntKind.wrap,IntKind.bits,IntKind.signed];omega
def pieces (k:Nat) (l:List UInt8):List Int:=(ab8 (l.length / k)).map fun i=>((number ((l.drop (k*i)).take k):Nat):Int)
theorem yI (k:Nat) (l:List UInt8):(pieces k l).length=l.length / k:=by simp [pieces]
theorem Qq {k:Nat} {l:List UInt8} {i:Nat} (h:i<l.length / k):(pieces k l)[i]? =some ((number ((l.drop (k*i)).take k):Nat):Int):=by
 simp [pieces,h]
theorem NT {k:Nat} {l:List UInt8} {i:Nat} (h:i<l.length / k):(pieces k l).take (i+1)=(pieces k l).take i++ [((number ((l.drop (k*i)).take k):Nat):Int)]:=by
 rw [aoL,Qq h];rfl
theorem Qr {k:Nat} {l:List UInt8} {i:Nat} (h:i=l.length / k):(pieces k l).take i=pieces k l:=by
 rw [h, <-yI,aon]
def form (k:Nat) (l:List UInt8):Int:=if l.length % k=0 then 0 else 4
def nums (k:Nat) (l:List UInt8):List Int:=if l.length % k=0 then pieces k l else []
theorem WS {k:Nat} {l:List UInt8} (h: ¬l.length % k=0):form k l=4/\nums k l=[]:=⟨if_neg h,if_neg h⟩
theorem YT {k:Nat} {l:List UInt8} (h:l.length % k=0):form k l=0/\nums k l=pieces k l:=⟨if_pos h,if_pos h⟩
theorem YU {α:Type} {f:α->Value} {Pb:Nat->Prop} {w:World} {v:Value} {xs:List α} (h:RdS (Wk.one f) 1 Pb w v xs) (h0:0<xs.length):
 ∃b o cap,v=.slice (some ⟨b,o,none⟩) xs.length cap/\ ∀(j:Nat) y,xs[j]? =some y->w.cell? ⟨b,o+j,none⟩=some (f y):=by
 obtain ⟨b,o,cap,rfl,_⟩:=h.cells (i:=0) (anv h0);refine ⟨b,o,cap,rfl,fun j y hy=>?_⟩;obtain ⟨b2,o2,cap2,e,_,cs,_,hR,hc⟩:=h.cells hy;cases e;have:=hc 0 (f y) (by rw [hR];rfl);simpa using this
theorem ac0 {P:Program} {n:Nat} {ds:List Deferred} {Q:Po} {F:Fr} {w:World} {ops rest:List Oper} {d:Nat} {ty:TypeId} {pos:String} {aft:Array Edge}
 {x:Operand} {e sz bytes:Nat} {z:Value} {b o:Nat} {cs:List Value} [he:ElT P e sz bytes true z] (hl:cs.length=sz) (hc: ∀j u,cs[j]? =some u->w.cell? ⟨b,o+j,none⟩=some u) (hx:ev n F x=.pointer (some ⟨b,o,none⟩))
 (c:Wl P n ds Q ops rest (upd F d (.agg cs.toArray)) w):Wl P n ds Q ops (⟨some d,.load e x,ty,pos,aft,none⟩::rest) F w:=
 Wl.val (by simp only [execOp,hx,Sem.run_bind,BB he hl hc,Result.andThen_ok,Sem.run_pure]) c
theorem CY {w:World} {l:List UInt8} (hl:l.length<=20000000):
 Calls prog 107 #[vs l] w (Ret fun r w'=> ∃v,r=.tuple #[v,vi (form 4 l)]/\nP (Wk.one zQ) 181 1 (fun b=>w.heap.size<=b) (fun _=>False) w' v (nums 4 l)/\New w w'):=by
 refine nM (n:=29) func107 rfl rfl rfl ?_;have e4:(l.length:Int).tmod 4=((l.length % 4:Nat):Int):=rfl;have e5:IntKind.i64.wrap ((l.length:Int).tdiv 4)=((l.length / 4:Nat):Int):=G8 (show (l.length:Int).tdiv 4=((l.length / 4:Nat):Int) from rfl) (by omega);refine qq4 ?_;refine Wl.afH rfl rfl (by omega) ?_;rw [e4];(repeat' (first|refine qq4 ?_|refine aa4 (fun _=>?_) (fun _=>?_)))
 ·obtain ⟨f1,f2⟩:=WS (k:=4) (l:=l) (by omega);rw [f1,f2];exact aB rfl rfl rfl ⟨_,rfl,_,rfl,aI,ay _ _⟩
 ·obtain ⟨f1,f2⟩:=YT (k:=4) (l:=l) (by omega);rw [f1,f2];refine Wl.afG rfl rfl (by omega) ?_;rw [e5];refine jh (R:=Wk.one zQ) (Pe:=fun _=>False) rfl rfl (by omega) (by omega) (by omega) fun v0 w0 ho0 n0=>?_;refine qq4 ?_;refine jk (l:=l) rfl (by simp only [maxLen];omega) fun w1 cap C fr hC htk hCs n1 s1 hr1=>?_;refine qq6 ?_;refine aA (σ:=Nat×Value×Value) (fun s=>[(4,s.2.1),(5,s.2.2)]) (fun s w'=>4*s.1<=l.length/\nP (Wk.one zQ) 181 1 (fun b=>w.heap.size<=b/\b≠w0.heap.size) (fun _=>False) w' s.2.1 ((pieces 4 l).take s.1)/\RdS (Wk.one by8) 1 (fun b=>b=w0.heap.size) w' s.2.2 (l.drop (4*s.1))/\w0.heap.size<w'.heap.size/\New w w') (fun s=>l.length-s.1) (0,v0,_) (sl rfl) ⟨anq _,(ho0.mono EO.mo (fun b hb h=>⟨h,by omega⟩) (fun _ _ h=>h)).ZY n1.keep,RdS.mono (nV _) (fun b hb h=>by omega) hr1,by omega,New.trans n0 n1⟩ ?_;rintro ⟨i,v,bv⟩ G w2 ⟨hi,ho,hb,hsz,hn⟩;simp only at hi ho hb;obtain ⟨ba,bc,rfl,_,_⟩:=hb.form;have hdl:(l.drop (4*i)).length=l.length-4*i:=anS;simp only [pq];(repeat' (first|refine qq4 ?_|refine aT rfl rfl (fun _=>?_) (fun _=>?_)))
  ·have hd:4<=(l.drop (4*i)).length:=by omega
   have hlt:((l.drop (4*i)).take 4).length=4:=by simp only [anD];omega
   have hpl:((pieces 4 l).take i).length<=20000000:=by simp only [anD,yI];omega
   obtain ⟨g,o,c2,e,hc⟩:=YU hb (by omega);cases e;refine kV rfl (by omega) ?_;refine ac0 (cs:=((l.drop (4*i)).take 4).map by8) (by simpa using hlt) (fun j u hu=>?_) rfl ?_
   ·rw [an3,aaQ] at hu;obtain ⟨y,hy,rfl⟩:=Option.map_eq_some_iff.1 hu;split at hy
    ·exact hc j y hy
    ·cases hy
   refine aj (UH hlt) rfl ?_;rintro _ w3 ⟨rfl,n3⟩;have ho3:=ho.ZY n3.keep;refine cu (y:=((number ((l.drop (4*i)).take 4):Nat):Int)) EO ho3 rfl rfl rfl rfl rfl (by omega) (by omega) (by simp only [maxLen];omega) (by omega) rfl rfl fun v4 w4 p ho4 hc4 _=>?_;have hb4:=(hb.keep (nZ _) n3.keep).keep (nZ _) (hc4.keep fun k _ hk e=>(ho3.lt e).1.2 hk);refine qq6 ?_;refine jI hb4 rfl rfl (by omega) (by omega) fun v5 hr5=>?_;refine qq6 ?_;have s3:=n3.size;have s4:=hc4.size;refine ax (i+1,v4,v5) (sl rfl) ⟨by simp only;omega,?_,?_,by omega,Chg.trans (New.trans hn n3) hc4 fun b hb e=>by have:=(ho3.lt e).1;omega⟩ (by simp only;omega)
   ·simp only;rw [NT (by omega)];exact ho4.mono EO.mo (fun b _ hb=>by have:=hn.size;rcases hb with hb|hb<;>omega) (fun _ _ h=>h)
   ·simp only;have:l.drop (4*(i+1))=(l.drop (4*i)).drop 4:=by rw [List.drop_drop];congr 1
    rw [this];exact hr5
  ·rw [Qr (by omega)] at ho;exact aB rfl rfl rfl ⟨_,rfl,_,rfl,ho.mono EO.mo (fun _ _ h=>h.1) (fun _ _ h=>h),hn⟩
theorem YV:qH (Wk.one vs) 1:=tN _ fun _=>rfl
def stp (s:List (List UInt8)×List UInt8) (c:UInt8):List (List UInt8)×List UInt8:=if c=0 then (s.1++ [s.2],[]) else (s.1,s.2++ [c])
def vZ (l:List UInt8):List (List UInt8)×List UInt8:=l.foldl stp ([],[])
theorem UI (l:List UInt8) (c:UInt8):vZ (l++ [c])=stp (vZ l) c:=by simp [vZ]
theorem ac1 (l:List UInt8): ∀(xs:List (List UInt8)) (q:List UInt8),l.foldl stp (xs,q)=(xs++(l.foldl stp ([],q)).1,(l.foldl stp ([],q)).2):=by
 induction l with
 |nil=>intro xs q;simp
 |cons c l ih=>
  intro xs q;by_cases e:c=0
  ·simp only [aoK,stp,if_pos e];rw [ih (xs++ [q]) [],ih ([]++ [q]) []];simp
  ·simp only [aoK,stp,if_neg e];exact ih xs (q++ [c])
theorem JX (l:List UInt8): ∀(q:List UInt8),(∀c∈l,c≠0)->l.foldl stp ([],q)=([],q++l):=by
 induction l with
 |nil=>intro q _;simp
 |cons c l ih=>intro q h;simp only [aoK,stp,if_neg (h c (by simp))];rw [ih _ fun d hd=>h d (by simp [hd])];simp
theorem UJ {l:List UInt8} (h: ∀c∈l,c≠0):vZ l=([],l):=by
 unfold vZ;rw [JX l [] h];simp
theorem UK {p:List UInt8} (h: ∀c∈p,c≠0) (r:List UInt8):vZ (p++0::r)=(p::(vZ r).1,(vZ r).2):=by
 unfold vZ;rw [List.foldl_append,JX p [] h,aoK];simp only [stp,if_pos,ang];rw [ac1 r [p] []];simp
def Cf (l:List UInt8):Int:=if l=[]∨l.getLast?=some 0 then 0 else 4
def CZ (l:List UInt8):List (List UInt8):=if l=[]∨l.getLast?=some 0 then (vZ l).1 else []
theorem WT {l:List UInt8} (h: ¬(l=[]∨l.getLast?=some 0)):Cf l=4/\CZ l=[]:=⟨if_neg h,if_neg h⟩
theorem aaK {l:List UInt8} (h:l=[]∨l.getLast?=some 0):Cf l=0/\CZ l=(vZ l).1:=⟨if_pos h,if_pos h⟩
theorem JY {l:List UInt8} {c:UInt8} (h:l[l.length-1]? =some c):l.drop (l.length-1)=[c]:=by
 obtain ⟨hlt,rfl⟩:=List.getElem?_eq_some_iff.1 h;rw [anF hlt,aoO (by omega)]
theorem UL {l:List UInt8} (h:l.getLast?=some 0):l=l.take (l.length-1)++ [0]:=by
 rw [ao7] at h;rw [<-JY h,aob]
theorem Gf: ∀(k:Nat) (l:List UInt8),l.count 0=k->Lib.splitK [0] 0 k l=(vZ l).1++ [(vZ l).2]
 |0,l,h=>by rw [UJ fun c hc e=>by subst e;exact absurd (List.count_pos_iff.2 hc) (by omega)];rfl
 |k+1,l,h=>by
  have hge:=Lib.indexByte_ge l 0;have hne:Lib.indexByte l 0≠ -1:=fun e=>by obtain ⟨j,hj⟩:=List.mem_iff_getElem?.1 (List.count_pos_iff.1 (show 0<l.count 0 by omega));exact Lib.indexByte_none e j hj
  obtain ⟨o,ho⟩:=ane (show 0<=Lib.indexByte l 0 by omega);obtain ⟨h1,h2⟩:=Lib.indexByte_some ho;obtain ⟨hlt,he⟩:=List.getElem?_eq_some_iff.1 h1;have hl:l=l.take o++0::l.drop (o+1):=by conv=>lhs;rw [<-aob o l,anF hlt,he]
  have hfree: ∀c∈l.take o,c≠0:=fun c hc e=>by
   subst e;obtain ⟨j,hj⟩:=List.mem_iff_getElem?.1 hc;rw [aaQ] at hj;split at hj
   ·exact h2 j ‹_› hj
   ·cases hj
  have hc0:(l.take o).count 0=0:=List.count_eq_zero.2 fun hm=>hfree 0 hm rfl;have hcd:(l.drop (o+1)).count 0=k:=by rw [hl,List.count_append,hc0,List.count_cons_self] at h;omega
  have hi:(Lib.index l [0] == -1)=false:=by rw [Lib.index_one,ho];simp
  unfold Lib.splitK;rw [hi,Lib.index_one,ho];simp only [Bool.false_eq_true,if_false,ant,Nat.add_zero,anM];rw [Gf k _ hcd];conv=>rhs;rw [hl]
  rw [UK hfree];rfl
theorem NU {l:List UInt8} {w:World} (hl:l.length<=2000000):
 Calls prog 141 #[vs l,vs [0]] w (Ret fun r w'=>nP (Wk.one vs) 9 1 (fun b=>w.heap.size<=b) (fun _=>False) w' r ((vZ l).1++ [(vZ l).2])/\New w w'):=by
 refine nM (n:=8) func141 rfl rfl rfl ?_;refine qq4 ?_;have hsz:(⟨l.toArray⟩:ByteArray).size=l.length:=by simp [ByteArray.size]
 have hcnt:Lib.countB ⟨l.toArray⟩ ⟨#[0]⟩=l.count 0:=Lib.count_one 0 l;have hle:l.count 0<=l.length:=List.count_le_length;have hC:Calls prog 176 #[.string ⟨l.toArray⟩,.string ⟨#[0]⟩] w fun e w'=>e=.returned (.int .i64 (Lib.countB ⟨l.toArray⟩ ⟨#[0]⟩))/\w'=w:=by refine (lT ⟨l.toArray⟩ 0 w).mono fun e w' h=>⟨?_,h.2⟩;rw [h.1,hcnt];rfl
 have hI: ∀(x:ByteArray) (c:Array Value),x.size<=(⟨l.toArray⟩:ByteArray).size->Calls prog 177 #[.string x,.string ⟨#[0]⟩] (w.alloc (.cells c 9)) fun e w'=>e=.returned (.int .i64 (Lib.indexB x ⟨#[0]⟩))/\w'=w.alloc (.cells c 9):=by intro x c _;refine (lN x 0 _).mono fun e w' h=>⟨?_,h.2⟩;rw [h.1];show _=Ending.returned (Value.int .i64 (Lib.index x.data.toList [0]));rw [Lib.index_one]
 have core:=Any.strings_genSplit_core lX (by kernel_rfl) ⟨l.toArray⟩ ⟨#[0]⟩ 0 (-1) (l.count 0+1) w (by rw [hsz];omega) (aap 1) (anq _) hI hC (by decide) (by decide) (by rw [if_pos (by decide),hcnt,hsz];omega);have hdata:(Lib.splitB ⟨#[0]⟩ 0 (l.count 0) ⟨l.toArray⟩).map (·.data.toList)=(vZ l).1++ [(vZ l).2]:=by rw [Lib.splitB_data];exact Gf _ l rfl
 have hlen:=congrArg List.length hdata;simp only [aoR] at hlen;have hln:(Lib.splitB ⟨#[0]⟩ 0 (l.count 0) ⟨l.toArray⟩).length=l.count 0+1:=Lib.splitB_all ⟨#[0]⟩ (aap 1) 0 _ _ hcnt;have hcells:(Lib.cellsOf (Lib.splitB ⟨#[0]⟩ 0 (l.count 0) ⟨l.toArray⟩) (l.count 0+1))=(((vZ l).1++ [(vZ l).2]).map vs).toArray:=by unfold Lib.cellsOf;rw [hln,Nat.sub_self,List.replicate_zero,aoS, <-hdata,aoz];rfl
 refine aj (φ:=fun r w'=>nP (Wk.one vs) 9 1 (fun b=>w.heap.size<=b) (fun _=>False) w' r ((vZ l).1++ [(vZ l).2])/\New w w') (core.mono fun e w' h=>⟨_,h.1,?_,?_⟩) rfl ?_
 ·rw [h.2,ao4,hcells,hlen];refine ⟨((vZ l).1++ [(vZ l).2]).map vs,⟨by simp,.inr ⟨_,_,_,rfl,aap _,heap_alloc_new w _,?_,by simp only [maxLen];omega,?_,?_⟩⟩,fun i x hx=>?_⟩
  ·omega
  ·simp only [anu,aoR];omega
  ·rw [anx,anL (by simp)]
  ·rw [anx];show aoP 1 (List.drop i (List.map vs _))=[vs x];obtain ⟨h1,h2⟩:=List.getElem?_eq_some_iff.1 hx;rw [anF (by simpa using h1),List.getElem_map,h2];rfl
 ·rw [h.2];exact Chg.alloc _ _ _
 ·rintro v w1 ⟨h1,n1⟩;refine qq3 ?_;exact ak rfl rfl ⟨_,rfl,h1,n1⟩
theorem GH {l:List UInt8} {w:World} (hl:l.length<=2000000):
 Calls prog 174 #[vs l,vs [0]] w (Ret fun r w'=>r=.bool (decide (l.getLast?=some 0))/\w=w'):=by
 have h1:(([0]:List UInt8).length:Int)=1:=rfl;refine nM (n:=21) func174 rfl rfl rfl ?_;(repeat' (first|refine qq5 ?_|refine aU rfl rfl (fun _=>?_) (fun _=>?_)))
 ·obtain ⟨c,hc⟩:=aaJ l (k:=l.length-1) (by omega);have hlast:l.getLast?=some c:=by rw [ao7];exact hc
  refine jK rfl rfl (by omega) (by omega) ?_;have e:l.drop ((l.length:Int)-(([0]:List UInt8).length:Int)).toNat=[c]:=by
   have:((l.length:Int)-(([0]:List UInt8).length:Int)).toNat=l.length-1:=by omega
   rw [this];exact JY hc
  rw [e];(repeat' (first|refine qq3 ?_|refine eU rfl rfl (fun _=>?_) (fun _=>?_)))
  ·have e2:c=0:=by have:[c]=[(0:UInt8)]:=by assumption
                   simpa using this
   subst e2;refine ak rfl rfl ⟨_,rfl,?_,rfl⟩;rw [decide_eq_true hlast];rfl
  ·have e2:c≠0:=fun e3=>by subst e3;contradiction
   refine ak rfl rfl ⟨_,rfl,?_,rfl⟩;rw [decide_eq_false (fun h=>e2 (Option.some.inj (hlast.symm.trans h)))];rfl
 ·have:l=[]:=anf (by omega);subst this;exact ak rfl rfl ⟨_,rfl,rfl,rfl⟩
def Ib (l:List UInt8):Value:=if l.getLast?=some 0 then .tuple #[vs (l.take (l.length-1)),.bool true] else .tuple #[vs l,.bool false]
theorem EP {l:List UInt8} {w:World} (hl:l.length<=2000000):
 Calls prog 161 #[vs l,vs [0]] w (Ret fun r w'=>r=Ib l/\w=w'):=by
 have h1:(([0]:List UInt8).length:Int)=1:=rfl;refine nM (n:=18) func161 rfl rfl rfl ?_;refine qq4 ?_;refine aj (GH hl) rfl ?_;rintro r _ ⟨hr,rfl⟩;unfold Ib;by_cases h:l.getLast?=some 0
 ·rw [decide_eq_true h] at hr;subst hr;have hpos:0<l.length:=by cases l with|nil=>cases h|cons c l=>simp
  rw [if_pos h];refine qq5 ?_;refine jJ rfl rfl (by omega) (by omega) ?_;have e:l.take ((l.length:Int)-(([0]:List UInt8).length:Int)).toNat=l.take (l.length-1):=by congr 1;omega
  rw [e];refine qq3 ?_;exact aB rfl rfl rfl ⟨_,rfl,rfl,rfl⟩
 ·rw [decide_eq_false h] at hr;subst hr;rw [if_neg h];refine qq5 ?_;exact aB rfl rfl rfl ⟨_,rfl,rfl,rfl⟩
theorem GI {l:List UInt8} {w:World} (hl:l.length<=2000000):
 Calls prog 140 #[vs l,vs [0]] w (Ret fun r w'=>r=Ib l/\w=w'):=by
 refine nM (n:=11) func140 rfl rfl rfl ?_;refine qq4 ?_;refine aj (EP hl) rfl ?_;rintro _ _ ⟨rfl,rfl⟩;unfold Ib;split
 ·refine qq3 ?_;exact aB rfl rfl rfl ⟨_,rfl,rfl,rfl⟩
 ·refine qq3 ?_;exact aB rfl rfl rfl ⟨_,rfl,rfl,rfl⟩
theorem Gg {w:World} {l:List UInt8} (hl:l.length<=2000000):
 Calls prog 113 #[vs l] w (Ret fun r w'=> ∃v,r=.tuple #[v,vi (Cf l)]/\nP (Wk.one vs) 9 1 (fun b=>w.heap.size<=b) (fun _=>False) w' v (CZ l)/\New w w'):=by
 refine nM (n:=17) func113 rfl rfl rfl ?_;(repeat' (first|refine qq4 ?_|refine eU rfl rfl (fun _=>?_) (fun _=>?_)))
 ·have e:l=[]:=by assumption
  subst e;obtain ⟨f1,f2⟩:=aaK (l:=[]) (.inl rfl);rw [f1,f2];exact aB rfl rfl rfl ⟨_,rfl,_,rfl,aI,ay _ _⟩
 ·have hne:l≠ []:=by assumption
  refine aj (GI hl) rfl ?_;rintro _ _ ⟨rfl,rfl⟩;unfold Ib;by_cases h:l.getLast?=some 0
  ·obtain ⟨f1,f2⟩:=aaK (l:=l) (.inr h);rw [if_pos h,f1,f2];refine qq2 ?_;refine aj (NU (l:=l.take (l.length-1)) (by simp only [anD];omega)) rfl ?_;rintro v w1 ⟨ho,hn⟩;refine qq3 ?_;refine aB rfl rfl rfl ⟨_,rfl,_,rfl,?_,hn⟩;have e:vZ l=((vZ (l.take (l.length-1))).1++ [(vZ (l.take (l.length-1))).2],[]):=by
    conv=>lhs;rw [UL h]
    rw [UI];rfl
   rw [e];exact ho
  ·obtain ⟨f1,f2⟩:=WT (l:=l) (fun h2=>h2.elim hne h);rw [if_neg h,f1,f2];refine qq5 ?_;exact aB rfl rfl rfl ⟨_,rfl,_,rfl,aI,ay _ _⟩
def only {α:Type} (z:α) (e:Int) (xs:List α):α×Int:=if e=0/\xs.length=1 then (xs.headD z,0) else (z,4)
theorem EQ {w:World} {l:List UInt8} (hl:l.length<=2000000):
 Calls prog 80 #[vs l] w (Ret fun r w'=>r=.tuple #[zQ (only 0 (form 4 l) (nums 4 l)).1,vi (only 0 (form 4 l) (nums 4 l)).2]/\New w w'):=by
 refine nM (n:=21) func80 rfl rfl rfl ?_;refine qq4 ?_;refine aj (CY (Nat.le_trans hl (by decide))) rfl ?_;rintro _ w1 ⟨v,rfl,ho,hn⟩;obtain ⟨a,cap,rfl,_,_⟩:=ho.form;unfold only;(repeat' (first|refine qq5 ?_|refine aa4 (fun _=>?_) (fun _=>?_)))
 ·rw [if_neg (by omega)];exact aB rfl rfl rfl ⟨_,rfl,rfl,hn⟩
 ·rw [if_neg (by omega)];exact aB rfl rfl rfl ⟨_,rfl,rfl,hn⟩
 ·rw [if_pos (by omega)];obtain ⟨y,hy⟩: ∃y,(nums 4 l)[(0:Int).toNat]? =some y:=⟨(nums 4 l)[0]'(by omega),by simp⟩;refine aZ (ho.rd EO.mo) rfl rfl (by omega) hy fun b o hc=>?_;refine ah rfl hc ?_;refine qq3 ?_;refine aB rfl rfl rfl ⟨_,rfl,?_,hn⟩;have e2:(nums 4 l)[0]? =some y:=hy;rw [ao8,ao9,e2];rfl
theorem Qs {w:World} {l:List UInt8} (hl:l.length<=2000000):
 Calls prog 116 #[vs l] w (Ret fun r w'=>r=.tuple #[vs (only [] (Cf l) (CZ l)).1,vi (only [] (Cf l) (CZ l)).2]/\New w w'):=by
 refine nM (n:=21) func116 rfl rfl rfl ?_;refine qq4 ?_;refine aj (Gg hl) rfl ?_;rintro _ w1 ⟨v,rfl,ho,hn⟩;obtain ⟨a,cap,rfl,_,_⟩:=ho.form;unfold only;(repeat' (first|refine qq5 ?_|refine aa4 (fun _=>?_) (fun _=>?_)))
 ·rw [if_neg (by omega)];exact aB rfl rfl rfl ⟨_,rfl,rfl,hn⟩
 ·rw [if_neg (by omega)];exact aB rfl rfl rfl ⟨_,rfl,rfl,hn⟩
 ·rw [if_pos (by omega)];obtain ⟨y,hy⟩: ∃y,(CZ l)[(0:Int).toNat]? =some y:=⟨(CZ l)[0]'(by omega),by simp⟩;refine aZ (ho.rd YV.mo) rfl rfl (by omega) hy fun b o hc=>?_;refine ah rfl hc ?_;refine qq3 ?_;refine aB rfl rfl rfl ⟨_,rfl,?_,hn⟩;have e2:(CZ l)[0]? =some y:=hy;rw [ao8,ao9,e2];rfl
end Go.Proofs.YtfbnfhhmiiahnaaGreatDoor
namespace Go.Proofs.YtfbnfhhmiiahnaaGreatDoor
open Go Wk
abbrev ndA (t:List Nd) (i:Nat):Nd:=t.getD i default
def par (t:List Nd) (i:Nat):Nat:=(ndA t i).parent.toNat
def tX (t:List Nd) (i:Nat) (nm:Nm):Option (List UInt8):=val (ndA t i).pz nm
def KZ (t:List Nd):Nat->Nat->List Nat
 |0,_=>[]
 |f+1,i=>if i=0 then [] else i::KZ t f (par t i)
def D7 (t:List Nd) (i:Nat):List Nat:=KZ t i i
theorem uK {t:List Nd} (ht:og t=true) {i:Nat} (h0:i≠0) (hi:i<t.length):par t i<i/\(ndA t i).parent=(par t i:Nat):=by
 obtain ⟨x,hx⟩:=nT t hi;have:=(qK ht hx).kid h0;have e:ndA t i=x:=by unfold ndA;rw [an7,hx];rfl
 unfold par;rw [e];omega
theorem YW {t:List Nd} (ht:og t=true): ∀(i:Nat),i<t.length-> ∀(f g:Nat),i<=f->i<=g->KZ t f i=KZ t g i:=by
 intro i;induction i using aoI with
 |ind i ih=>
  intro hi f g hf hg;by_cases h0:i=0
  ·subst h0;cases f<;>cases g<;>simp [KZ]
  ·obtain ⟨f,rfl⟩: ∃m,f=m+1:=⟨f-1,by omega⟩;obtain ⟨g,rfl⟩: ∃m,g=m+1:=⟨g-1,by omega⟩;have hp:=(uK ht h0 hi).1;rw [KZ,KZ,if_neg h0,if_neg h0,ih _ hp (by omega) f g (by omega) (by omega)]
theorem BG (t:List Nd):D7 t 0=[]:=rfl
theorem BH {t:List Nd} (ht:og t=true) {i:Nat} (h0:i≠0) (hi:i<t.length):D7 t i=i::D7 t (par t i):=by
 obtain ⟨m,rfl⟩: ∃m,i=m+1:=⟨i-1,by omega⟩;have hp:=(uK ht h0 hi).1;show KZ t (m+1) (m+1)=_;rw [KZ,if_neg h0,YW ht _ (by omega) m (par t (m+1)) (by omega) (aap _)];rfl
theorem YX {t:List Nd} (ht:og t=true): ∀(i:Nat),i<t.length-> ∀k∈D7 t i,k≠0/\k<=i:=by
 intro i;induction i using aoI with
 |ind i ih=>
  intro hi k hk;by_cases h0:i=0
  ·subst h0;simp [BG] at hk
  ·have hp:=(uK ht h0 hi).1;rw [BH ht h0 hi] at hk;rcases List.mem_cons.1 hk with rfl|hk
   ·exact ⟨h0,aap _⟩
   ·have:=ih _ hp (by omega) k hk;omega
def okay (t:List Nd) (i:Nat):Bool:=match tX t i [115,116,97,116,117,115] with
 |none=>true
 |some v=>decide ((only [] (Cf v) (CZ v)).2=0/\(only [] (Cf v) (CZ v)).1=[111,107,97,121])
def onM (t:List Nd) (i:Nat):Bool:=(D7 t i).all (okay t)&&okay t 0
def qx:Nm:=[99,111,109,112,97,116,105,98,108,101]
def sJ (t:List Nd) (i:Nat):List Nm:=CZ ((tX t i qx).getD [])
def C9 (t:List Nd) (i:Nat):Bool:=(tX t i qx).isNone&&onM t i
def oI (t:List Nd) (i:Nat):Nm:=Ag (yR t i)
def Ic (v:List UInt8):Option Nat:=if (only 0 (form 4 v) (nums 4 v)).2=0 then some (only 0 (form 4 v) (nums 4 v)).1.toNat else none
def La (ps:List Pr) (nm:Nm) (least dflt:Nat):Option Nat:=match val ps nm with
 |none=>some dflt
 |some s=>match Ic s with
  |some n=>if least<=n/\n<=2 then some n else none
  |none=>none
def WU:Nm:=[35,97,100,100,114,101,115,115,45,99,101,108,108,115]
def SX:Nm:=[35,115,105,122,101,45,99,101,108,108,115]
def wK (ps:List Pr):Option (Nat×Nat):=match La ps WU 1 2,La ps SX 0 1 with
 |some a,some s=>some (a,s)
 |_,_=>none
def BU:List Nat->List UInt8->Option (List Nat×List UInt8)
 | [],s=>some ([],s)
 |w::ws,s=>if s.length<4*w then none else (BU ws (s.drop (4*w))).map fun r=>(number (s.take (4*w))::r.1,r.2)
def yT (ws:List Nat):Nat->List UInt8->Option (List (List Nat))
 |0,s=>if s=[] then some [] else none
 |f+1,s=>if s=[] then some [] else match BU ws s with
  |none=>none
  |some (r,s')=>(yT ws f s').map (r:: ·)
def yU (ws:List Nat) (s:List UInt8):Option (List (List Nat)):=yT ws s.length s
def fitsW (a size:Nat):Bool:=decide (size=0∨a+(size-1)<2^64)
abbrev Win:=Nat×Nat
def UM (t:List Nd) (i:Nat):Option (List Win):=match wK (ndA t (par t i)).pz with
 |none=>none
 |some (a,s)=>match yU [a,s] ((tX t i [114,101,103]).getD []) with
  |none=>none
  |some rs=>if rs.all (fun r=>fitsW (r.getD 0 0) (r.getD 1 0))=true then some (rs.map fun r=>(r.getD 0 0,r.getD 1 0)) else none
def NW (t:List Nd) (i:Nat):Option (List (Nat×Nat×Nat)×Bool):=match tX t i [114,97,110,103,101,115] with
 |none=>none
 |some text=>match wK (ndA t i).pz,wK (ndA t (par t i)).pz with
  |some (a,s),some (above,_)=>match yU [a,above,s] text with
   |none=>none
   |some rs=>if rs.all (fun r=>fitsW (r.getD 0 0) (r.getD 2 0)&&fitsW (r.getD 1 0) (r.getD 2 0))=true then some (rs.map fun r=>(r.getD 0 0,r.getD 1 0,r.getD 2 0),decide (text=[])) else none
  |_,_=>none
def within (w:Win) (from_ size:Nat):Bool:=decide (from_<=w.1/\w.1-from_<size/\w.2<=size-(w.1-from_))
def x8 (w:Win):List (Nat×Nat×Nat)->Option Nat
 | []=>none
 |x::r=>if within w x.1 x.2.2=true then some ((x.2.1+(w.1-x.1)) % 2^64) else x8 w r
def yV (t:List Nd) (i:Nat) (w:Win):Option Nat:=match NW t i with
 |none=>none
 |some (m,same)=>if same=true then some w.1 else x8 w m
def sD (t:List Nd):List Nat->Win->Option Nat
 | [],w=>some w.1
 |i::r,w=>match yV t i w with
  |none=>none
  |some b=>sD t r (b,w.2)
def uF {α β:Type} (f:α->Option β):List α->Option (List β)
 | []=>some []
 |x::r=>match f x with
  |none=>none
  |some y=>(uF f r).map (y:: ·)
def uX (t:List Nd) (i:Nat):Option (List Win):=match UM t i with
 |none=>none
 |some ws=>uF (fun w=>(sD t (D7 t (par t i)) w).map fun b=>(b,w.2)) ws
structure Clm where
 kind:Nat
 from_:Nat
 upto:Nat
deriving DecidableEq,Inhabited
def sF (a b:Clm):Int:=if a.kind<b.kind then-1 else if b.kind<a.kind then 1 else if a.from_<b.from_ then-1 else if b.from_<a.from_ then 1 else if a.upto<b.upto then-1 else if b.upto<a.upto then 1 else 0
def zS (kind from_ size:Nat):List Clm:=if 0<size then [⟨kind,from_,(from_+(size-1)) % 2^64⟩] else []
def vG (t:List Nd) (i kind:Nat) (nm:Nm):Option (List Clm):=match tX t i nm with
 |none=>some []
 |some v=>if form 4 v=0 then some ((nums 4 v).flatMap fun n=>zS kind n.toNat 1) else none
def YZ (t:List Nd) (i:Nat):Option (List Clm):=match vG t i 1 [112,105,110,115],vG t i 2 [108,105,110,101,115] with
 |some a,some b=>if i=0 then some (a++b) else match uX t i with
  |none=>none
  |some ws=>some (a++b++ws.flatMap fun w=>zS 3 w.1 w.2)
 |_,_=>none
def qW:List Clm->List Clm
 | []=>[]
 |a::r=>a::uM a r
where uM:Clm->List Clm->List Clm
 |_,[]=>[]
 |a,b::r=>if b=a then uM b r else b::uM b r
def ofM (t:List Nd) (i:Nat):Option (List Clm):=match YZ t i with
 |none=>none
 |some l=>let s:=qW (l.mergeSort fun x y=> !decide (sF y x<0));if s.length<=64 then some s else none
def Ie (a b:Clm):Bool:=decide (a.kind=b.kind/\a.from_<=a.upto/\b.from_<=b.upto/\a.from_<=b.upto/\b.from_<=a.upto)
abbrev Dc:=Nat×Clm
def Lc (out:List Dc):List Clm->Option (Clm×Nat)
 | []=>none
 |c::r=>match out.find? fun o=>Ie o.2 c with
  |some o=>some (c,o.1)
  |none=>Lc out r
structure Rfs where
 node:Nat
 claim:Clm
 by_:Int
deriving DecidableEq,Inhabited
def uq (t:List Nd):List Dc->List Nat->List Dc×List Rfs
 |out,[]=>(out,[])
 |out,n::r=>match ofM t n with
  |none=>let q:=uq t out r;(q.1,⟨n,⟨0,0,0⟩, -1⟩::q.2)
  |some l=>match Lc out l with
   |some (c,b)=>let q:=uq t out r;(q.1,⟨n,c,b⟩::q.2)
   |none=>uq t (out++l.map fun c=>(n,c)) r
def allM (cs:List Cd) (t:List Nd):List (Option (Nat×Nat)):=(ab8 t.length).map fun i=>xw cs (sJ t i)
def qV (cs:List Cd) (t:List Nd) (i:Nat):Option Nat:=(xw cs (sJ t i)).map (·.1)
def ER (cs:List Cd) (t:List Nd) (i:Nat):Int:=match qV cs t i with|some c=>(cs.getD c default).level|none=>0
def qY (lv:Nat->Int) (pt:Nat->Nm) (a b:Nat):Int:=if lv a<lv b then-1 else if lv b<lv a then 1 else if pt a<pt b then-1 else if pt b<pt a then 1 else 0
def D8 (cs:List Cd) (t:List Nd):List Nat:=
 ((ab8 t.length).filter fun i=>onM t i&&(qV cs t i).isSome).mergeSort fun x y=> !decide (qY (ER cs t) (oI t) y x<0)
def qN (cs:List Cd) (t:List Nd):List Dc×List Rfs:=uq t [] (D8 cs t)
end Go.Proofs.YtfbnfhhmiiahnaaGreatDoor
namespace Go.Proofs.YtfbnfhhmiiahnaaGreatDoor
open Go Wk
open Go.RowKit (Below)
attribute [local irreducible] Go.Calls
theorem yJ {t:List Nd} {i:Nat} {x:Nd} (h:t[i]? =some x):ndA t i=x:=by unfold ndA;rw [an7,h];rfl
theorem WV {t:List Nd} (ht:og t=true) {i:Nat} (hi:i<t.length):(oI t i).length<=16400:=by
 have h1:=UD fun n hn=>(zN ht i n hn).2;have h2:=UC ht i;have h3:=pF ht;unfold oI;omega
theorem JZ {Pb:Nat->Prop} {w:World} {v:Value} {l:List Nd} {i:Nat} (h:RdS rNd 3 Pb w v l) (hok:og l=true) (hi:i<l.length):
 Calls prog 45 #[v,vi i] w (Ret fun r w'=>r=vs (oI l i)/\New w w'):=by
 obtain ⟨a,cap,rfl,hc1,hc2⟩:=h.form;have hlen:=pF hok;refine nM func45 rfl ntmps45 rfl ?_;(repeat' (first|refine qq4 ?_|refine bJ rfl rfl (fun _=>?_) (fun _=>?_)))
 ·obtain rfl:i=0:=by omega
  exact ak rfl rfl ⟨_,rfl,rfl,ay _ _⟩
 ·refine aA (σ:=Nat×Value×List Nm) (fun s=>[(0,.slice a l.length cap),(1,vi s.1),(5,s.2.1)]) (fun s w'=>s.1<=i/\s.2.2.length+s.1<=i/\yR l i=yR l s.1++s.2.2.reverse/\nP (Wk.one vs) 9 1 (fun b=>w.heap.size<=b) NoB w' s.2.1 s.2.2/\New w w') (fun s=>s.1) (i,.slice none 0 0,[]) (sl rfl) ⟨aap _,by simp,by simp,aI,ay _ _⟩ ?_;rintro ⟨k,u,ns⟩ G w1 ⟨hk,hkl,hnm,own,n1⟩;dsimp only at hk hkl hnm own n1;simp only [pq];obtain ⟨p,c,rfl,hp1,hp2⟩:=own.form;(repeat' (first|refine qq4 ?_|refine aT rfl rfl (fun _=>?_) (fun _=>?_)))
  ·obtain ⟨x,hx⟩:=nT l (k:=k) (by omega);have hnd:=(qK hok hx).kid (by omega);refine dF h n1.keep rfl rfl (by omega) hx fun b o cs hl hR hat=>?_;obtain ⟨pv,rfl,_⟩:=hR;(repeat' (refine aa5 ?_));refine ah (u:=vs x.name) rfl (hat.get 1 rfl) ?_;refine cu (y:=x.name) rP own rfl rfl rfl rfl rfl (by omega) (by omega) (by simp only [maxLen];omega) (by omega) rfl rfl fun v' w2 p rQ c2 lie=>?_;have n2:New w w2:=Chg.trans n1 c2 fun k hk e=>by have:=(own.lt e).1;omega
   refine qq6 ?_;refine dF h n2.keep rfl rfl (by omega) hx fun b o cs hl hR hat=>?_;obtain ⟨pv',rfl,_⟩:=hR;(repeat' (refine aa5 ?_));refine ah (u:=vi x.parent) rfl (hat.get 0 rfl) ?_;refine qq6 ?_;have e0:x.parent=(x.parent.toNat:Int):=by omega
   refine ax (x.parent.toNat,v',ns++ [x.name]) ⟨rfl,by rw [<-e0];rfl,rfl,trivial⟩ ⟨by dsimp only;omega,by simp;omega,?_,rQ.mono rP.mo (fun b hb e=>by rcases e with e|e;exact e;have:=n1.size;omega) i3,n2⟩ (by dsimp only;omega);rw [hnm,tV hok hx (by omega)];simp
  ·obtain rfl:k=0:=by omega
   refine aj (KX own (by omega)) rfl ?_;rintro _ w2 ⟨rQ,c2⟩;have n2:New w w2:=Chg.trans n1 c2 fun k hk e=>by have:=(own.lt e).1;omega
   rw [xq,ang] at hnm;have hne:ns.reverse≠ []:=by rw [<-hnm];obtain ⟨x,hx⟩:=nT l hi;rw [tV hok hx (by omega)];simp
   have hgd: ∀x∈ns.reverse,x.length<=31:=fun x hx=>(zN hok i x (hnm▸hx)).2;have hjl:=WQ (sep:=[47]) hgd;simp only [List.length_reverse,anM] at hjl;have hrd:=rQ.rd rP.mo;refine qq2 ?_;refine aj (UF (xs:=ns.reverse) (sep:=[47]) hrd (by simp;omega) (by omega)) rfl ?_;rintro _ w3 ⟨rfl,n3⟩;refine jE rfl rfl (by simp;omega) ?_;have hfin:[47]++Lib.join ns.reverse [47]=oI l i:=by
    unfold oI;rw [hnm];obtain ⟨x,r,e⟩: ∃x r,ns.reverse=x::r:=by
     cases hh:ns.reverse with
     |nil=>exact absurd hh hne
     |cons x r=>exact ⟨x,r,rfl⟩
    rw [e,UG]
   rw [hfin];refine qq3 ?_;exact ak rfl rfl ⟨_,rfl,rfl,New.trans n2 n3⟩
theorem J3 {Pb:Nat->Prop} {w:World} {v:Value} {l:List Nd} {i:Nat} (h:RdS rNd 3 Pb w v l) (hok:og l=true) (hi:i<l.length):
 Calls prog 143 #[v,vi i] w (Ret fun r w'=>r=.tuple #[vs (oI l i),vi 0]/\New w w'):=by
 refine nM func143 rfl ntmps143 rfl ?_;refine qq4 ?_;refine aj (xu (i:=i) h) rfl ?_;rintro _ w1 ⟨rfl,n1⟩;have hp:AU l i=0:=by unfold AU;rw [if_pos hok,if_neg (by omega)]
 rw [hp];(repeat' (first|refine qq2 ?_|(refine aa4 (fun _=>?_) (fun _=>?_)<;>(first|(exfalso;omega)|skip))));refine aj (JZ (h.keep oh n1.keep) hok hi) rfl ?_;rintro _ w2 ⟨rfl,n2⟩;refine qq3 ?_;exact aB rfl rfl rfl ⟨_,rfl,rfl,New.trans n1 n2⟩
def Ld:Option (List UInt8)->Value
 |some x=>.tuple #[vs x,.bool true]
 |none=>.tuple #[vs [],.bool false]
theorem zT {Pb:Nat->Prop} {w:World} {pv:Value} {x:Nd} {nm:Nm} (h:RdS rPr 2 Pb w pv x.pz):
 Calls prog 48 #[.agg #[vi x.parent,vs x.name,pv],vs nm] w (Ret fun r w'=>r=Ld (val x.pz nm)/\New w w'):=by
 obtain ⟨a,cap,rfl,hc1,hc2⟩:=h.form;simp only [maxLen] at hc2;refine nM func48 rfl ntmps48 rfl ?_;refine qq4 ?_;refine Wl.box rfl fun w1 b1 n1 s1=>?_;replace b1:Bk w1 w.heap.size 73 [vi x.parent,vs x.name,.slice a x.pz.length cap]:=b1;refine qq2 ?_;refine ah (u:=.slice a x.pz.length cap) rfl (b1.cell (o:=2) rfl) ?_;refine qq4 ?_;refine aA (σ:=Nat) (fun i=>[(1,vs nm),(9,.slice a x.pz.length cap),(10,vi x.pz.length),(11,vi i)]) (fun i w'=>i<=x.pz.length/\val x.pz nm=val (x.pz.drop i) nm/\New w w') (fun i=>x.pz.length-i) 0 (sl rfl) ⟨anq _,by simp,n1⟩ ?_;rintro i G w2 ⟨hi,hv,n2⟩;simp only [pq];(repeat' (first|refine qq4 ?_|refine aa2 (fun _=>?_) (fun _=>?_)))
 ·obtain ⟨p,hp⟩:=nT x.pz (k:=i) (by omega);refine aK (h.keep (oH pC) n2.keep) rfl rfl (by omega) hp fun b o cs hl hR hat=>?_;obtain rfl:cs=pC p:=hR;refine aS hat rfl rfl ?_;refine Wl.alloc fun w3 b3 n3 s3=>?_;refine aH (new:=pC p) b3 rfl rfl rfl rfl zl2 (H6.oc (fun _=>True) w p _ rfl rfl) fun w4 b4 c4 s4=>?_;have hz:=n2.size;have n4:New w w4:=Chg.trans (New.trans n2 n3) c4 fun k hk e=>by omega
  replace b4:Bk w4 w2.heap.size 70 (pC p):=b4;rw [drop_cons hp] at hv;refine qq2 ?_;refine ah (u:=vs p.1) rfl (b4.cell (o:=0) rfl) ?_;(repeat' (first|refine qq2 ?_|refine eU rfl rfl (fun _=>?_) (fun _=>?_)))
  ·refine ah (u:=vs p.2) rfl (b4.cell (o:=1) rfl) ?_;refine qq7 ?_;refine aB rfl rfl rfl ⟨_,rfl,?_,n4⟩;rw [hv];unfold val;rw [apa (by simpa using by assumption)];rfl
  ·refine ax (i+1) (sl rfl) ⟨by omega,?_,n4⟩ (by omega);rw [hv];unfold val;rw [aoU (by simpa using by assumption)]
 ·obtain rfl:i=x.pz.length:=by omega
  rw [aoG] at hv;refine aB rfl rfl rfl ⟨_,rfl,?_,n2⟩;rw [hv];rfl
def Y0:Option (List UInt8)->Value
 |some x=>.tuple #[vs x,vi 0]
 |none=>.tuple #[vs [],vi 6]
theorem Ig {Pb:Nat->Prop} {w:World} {v:Value} {l:List Nd} {i:Nat} {nm:Nm} (h:RdS rNd 3 Pb w v l) (hok:og l=true) (hi:i<l.length):
 Calls prog 24 #[v,vi i,vs nm] w (Ret fun r w'=>r=Y0 (tX l i nm)/\New w w'):=by
 obtain ⟨a,cap,rfl,hc1,hc2⟩:=h.form;obtain ⟨x,hx⟩:=nT l hi;refine nM func24 rfl ntmps24 rfl ?_;refine qq4 ?_;refine aj (xu (i:=i) h) rfl ?_;rintro _ w1 ⟨rfl,n1⟩;have hp:AU l i=0:=by unfold AU;rw [if_pos hok,if_neg (by omega)]
 rw [hp];(repeat' (first|refine qq2 ?_|(refine aa4 (fun _=>?_) (fun _=>?_)<;>(first|(exfalso;omega)|skip))));refine dF h n1.keep rfl rfl (by omega) hx fun b o cs hl hR hat=>?_;obtain ⟨pv,rfl,hpr⟩:=hR;refine aS hat rfl rfl ?_;(repeat' (refine aa1 ?_));refine aj (zT (x:=x) (nm:=nm) (hpr.keep (oH pC) n1.keep)) rfl ?_;rintro _ w2 ⟨rfl,n2⟩;have e:tX l i nm=val x.pz nm:=by unfold tX;rw [yJ hx]
 rw [e];cases val x.pz nm with
 |none=>refine qq2 ?_;exact aB rfl rfl rfl ⟨_,rfl,rfl,New.trans n1 n2⟩
 |some y=>refine qq5 ?_;exact aB rfl rfl rfl ⟨_,rfl,rfl,New.trans n1 n2⟩
theorem AV: ∀(l:List Pr) (seen:List Nm),zJ seen l=true-> ∀p∈l,ql p.1=true/\p.2.length<=1024
 | [],_,_,p,hp=>by simp at hp
 |q::r,seen,h,p,hp=>by
  rw [zJ] at h;simp only [ann,decide_eq_true_eq] at h;rcases List.mem_cons.1 hp with rfl|hp
  ·exact ⟨h.1,h.2.1⟩
  ·exact AV r _ h.2.2.2 p hp
theorem zU {t:List Nd} (ht:og t=true) {i:Nat} (hi:i<t.length) {nm v:Nm} (e:tX t i nm=some v):v.length<=1024:=by
 obtain ⟨x,hx⟩:=nT t hi;unfold tX at e;rw [yJ hx] at e;unfold val at e;obtain ⟨p,hp,rfl⟩:=Option.map_eq_some_iff.1 e;have h:=(qK ht hx).pr;unfold zK at h;rw [ann] at h;exact (AV _ _ h.2 p (apb hp)).2
theorem yX {t:List Nd} (ht:og t=true) {i:Nat} (hi:i<t.length) {nm:Nm}:((tX t i nm).getD []).length<=1024:=by
 cases e:tX t i nm with
 |none=>exact anq _
 |some v=>exact zU ht hi e
def onK (t:List Nd) (k:Int):Bool:=if k<0 then true else onM t k.toNat
theorem WW (t:List Nd):onM t 0=okay t 0:=by unfold onM;rw [BG];rfl
theorem WX {t:List Nd} (ht:og t=true) {i:Nat} (h0:i≠0) (hi:i<t.length):onM t i=(okay t i&&onM t (par t i)):=by
 unfold onM;rw [BH ht h0 hi,apc,Bool.and_assoc]
theorem WY {t:List Nd} (ht:og t=true) {i:Nat} {x:Nd} (hx:t[i]? =some x):onK t (i:Int)=(okay t i&&onK t x.parent):=by
 have hi:=(List.getElem?_eq_some_iff.1 hx).1;unfold onK;rw [if_neg (by omega),ant];by_cases h0:i=0
 ·subst h0;have:=(qK ht hx).root rfl;rw [if_pos (by omega),WW,Bool.and_true]
 ·have h1:=(qK ht hx).kid h0;rw [if_neg (by omega),WX ht h0 hi];unfold par;rw [yJ hx]
theorem D9 {Pb:Nat->Prop} {w:World} {v:Value} {l:List Nd} {i:Nat} (h:RdS rNd 3 Pb w v l) (hok:og l=true) (hi:i<l.length):
 Calls prog 86 #[v,vi i] w (Ret fun r w'=>r=.bool (onM l i)/\New w w'):=by
 obtain ⟨a,cap,rfl,hc1,hc2⟩:=h.form;have hlen:=pF hok;have e0:onM l i=onK l (i:Int):=by unfold onK;rw [if_neg (by omega),ant]
 rw [e0];refine nM func86 rfl ntmps86 rfl ?_;refine qq2 ?_;refine aA (σ:=Int) (fun k=>[(0,.slice a l.length cap),(1,vi k)]) (fun k w'=> -1<=k/\k<=i/\onK l (i:Int)=onK l k/\New w w') (fun k=>(k+1).toNat) i (sl rfl) ⟨by omega,by omega,rfl,ay _ _⟩ ?_;rintro k G w1 ⟨hk1,hk2,hon,n1⟩;simp only [pq];(repeat' (first|refine qq4 ?_|refine aU rfl rfl (fun _=>?_) (fun _=>?_)))
 ·obtain ⟨j,rfl⟩:=ane (show 0<=k by omega);obtain ⟨x,hx⟩:=nT l (k:=j) (by omega);have hj:j<l.length:=by omega
  rw [WY hok hx] at hon;have hnd:=qK hok hx;have hpar: -1<=x.parent/\x.parent<j:=by
   by_cases h0:j=0
   ·have:=hnd.root h0;omega
   ·have:=hnd.kid h0;omega
  refine dF h n1.keep rfl rfl (by omega) hx fun b o cs hl hR hat=>?_;obtain ⟨pv,rfl,hpr⟩:=hR;refine aS hat rfl rfl ?_;refine aj (zT (x:=x) (nm:=[115,116,97,116,117,115]) (hpr.keep (oH pC) n1.keep)) rfl ?_;rintro _ w2 ⟨rfl,n2⟩;have n02:=New.trans n1 n2;have e:tX l j [115,116,97,116,117,115]=val x.pz [115,116,97,116,117,115]:=by unfold tX;rw [yJ hx]
  have ES:okay l j=match val x.pz [115,116,97,116,117,115] with
   |none=>true
   |some v=>decide ((only [] (Cf v) (CZ v)).2=0/\(only [] (Cf v) (CZ v)).1=[111,107,97,121]):=by unfold okay;rw [e]<;>rfl
  cases hv:val x.pz [115,116,97,116,117,115] with
  |none=>rw [hv] at ES;dsimp only at ES;rw [ES,aoE] at hon;refine qq2 ?_;refine dF h n02.keep rfl rfl (by omega) hx fun b o cs hl hR hat=>?_;obtain ⟨pv',rfl,_⟩:=hR;(repeat' (refine aa5 ?_));refine ah (u:=vi x.parent) rfl (hat.get 0 rfl) ?_;refine qq6 ?_;exact ax x.parent (sl rfl) ⟨by omega,by omega,hon,n02⟩ (by omega)
  |some y=>
   rw [hv] at ES;dsimp only at ES;have hyl:=zU hok hj (e.trans hv);refine qq5 ?_;refine aj (Qs (l:=y) (by omega)) rfl ?_;rintro _ w3 ⟨rfl,n3⟩;have n03:=New.trans n02 n3;generalize only [] (Cf y) (CZ y)=q at ES;obtain ⟨s,er⟩:=q;dsimp only at ES;(repeat' (first|refine qq2 ?_|refine aa4 (fun _=>?_) (fun _=>?_)|refine iy rfl rfl (fun _=>?_) (fun _=>?_)))
   ·rw [decide_eq_false (by omega)] at ES;rw [ES,aoF] at hon;rw [hon];exact ak rfl rfl ⟨_,rfl,rfl,n03⟩
   ·rw [decide_eq_false (fun q=>by have:=q.2;contradiction)] at ES;rw [ES,aoF] at hon;rw [hon];exact ak rfl rfl ⟨_,rfl,rfl,n03⟩
   ·rw [decide_eq_true ⟨by omega,by assumption⟩] at ES;rw [ES,aoE] at hon;refine dF h n03.keep rfl rfl (by omega) hx fun b o cs hl hR hat=>?_;obtain ⟨pv',rfl,_⟩:=hR;(repeat' (refine aa5 ?_));refine ah (u:=vi x.parent) rfl (hat.get 0 rfl) ?_;refine qq6 ?_;exact ax x.parent (sl rfl) ⟨by omega,by omega,hon,n03⟩ (by omega)
 ·have ek:onK l k=true:=by unfold onK;rw [if_pos (by omega)]
  rw [hon,ek];exact ak rfl rfl ⟨_,rfl,rfl,n1⟩
theorem ET {l:List Nd} {i:Nat} (hok:og l=true) (hi:i<l.length):AU l i=0:=by unfold AU;rw [if_pos hok,if_neg (by omega)]
theorem Ea {Pb:Nat->Prop} {w:World} {v:Value} {l:List Nd} {i:Nat} (h:RdS rNd 3 Pb w v l) (hok:og l=true) (hi:i<l.length):
 Calls prog 59 #[v,vi i] w (Ret fun r w'=>r=.tuple #[.bool (onM l i),vi 0]/\New w w'):=by
 refine nM func59 rfl ntmps59 rfl ?_;refine qq4 ?_;refine aj (xu (i:=i) h) rfl ?_;rintro _ w1 ⟨rfl,n1⟩;rw [ET hok hi];(repeat' (first|refine qq2 ?_|(refine aa4 (fun _=>?_) (fun _=>?_)<;>(first|(exfalso;omega)|skip))));refine aj (D9 (h.keep oh n1.keep) hok hi) rfl ?_;rintro _ w2 ⟨rfl,n2⟩;refine qq3 ?_;exact aB rfl rfl rfl ⟨_,rfl,rfl,New.trans n1 n2⟩
theorem NY {Pb:Nat->Prop} {w:World} {v:Value} {l:List Nd} {i:Nat} (h:RdS rNd 3 Pb w v l) (hok:og l=true) (hi:i<l.length):
 Calls prog 84 #[v,vi i] w (Ret fun r w'=>(∃u,r=.tuple #[u,vi 0]/\nP (Wk.one vs) 9 1 (fun b=>w.heap.size<=b) NoB w' u (sJ l i))/\New w w'):=by
 obtain ⟨a,cap,rfl,hc1,hc2⟩:=h.form;obtain ⟨x,hx⟩:=nT l hi;refine nM func84 rfl ntmps84 rfl ?_;refine qq4 ?_;refine aj (xu (i:=i) h) rfl ?_;rintro _ w1 ⟨rfl,n1⟩;rw [ET hok hi];(repeat' (first|refine qq2 ?_|(refine aa4 (fun _=>?_) (fun _=>?_)<;>(first|(exfalso;omega)|skip))));refine dF h n1.keep rfl rfl (by omega) hx fun b o cs hl hR hat=>?_;obtain ⟨pv,rfl,hpr⟩:=hR;refine aS hat rfl rfl ?_;refine aj (zT (x:=x) (nm:=qx) (hpr.keep (oH pC) n1.keep)) rfl ?_;rintro _ w2 ⟨rfl,n2⟩;have n02:=New.trans n1 n2;have e:sJ l i=CZ ((val x.pz qx).getD []):=by unfold sJ tX;rw [yJ hx]
 have hyl:((val x.pz qx).getD []).length<=1024:=by
  have:=yX hok hi (nm:=qx);unfold tX at this
  rwa [yJ hx] at this
 have ev':Ld (val x.pz qx)=.tuple #[vs ((val x.pz qx).getD []),.bool (val x.pz qx).isSome]:=by cases val x.pz qx<;>rfl
 rw [e,ev'];generalize (val x.pz qx).getD []=y at hyl ⊢;refine qq5 ?_;refine aj (Gg (l:=y) (by omega)) rfl ?_;rintro _ w3 ⟨u,rfl,o3,n3⟩;have n03:=New.trans n02 n3;obtain ⟨ua,uc,rfl,_,_⟩:=o3.form;by_cases hf:y=[]∨y.getLast?=some 0
 ·rw [(aaK hf).1];(repeat' (first|refine qq2 ?_|(refine aa4 (fun _=>?_) (fun _=>?_)<;>(first|(exfalso;omega)|skip))));exact aB rfl rfl rfl ⟨_,rfl,⟨_,rfl,o3.mono rP.mo (fun b _ hb=>by have:=n02.size;omega) i3⟩,n03⟩
 ·rw [(WT hf).1,(WT hf).2];(repeat' (first|refine qq5 ?_|(refine aa4 (fun _=>?_) (fun _=>?_)<;>(first|(exfalso;omega)|skip))));exact aB rfl rfl rfl ⟨_,rfl,⟨_,rfl,aI⟩,n03⟩
theorem Qu {Pb:Nat->Prop} {w:World} {v:Value} {l:List Nd} {i:Nat} (h:RdS rNd 3 Pb w v l) (hok:og l=true) (hi:i<l.length):
 Calls prog 60 #[v,vi i] w (Ret fun r w'=>r=.tuple #[.bool (C9 l i),vi 0]/\New w w'):=by
 obtain ⟨a,cap,rfl,hc1,hc2⟩:=h.form;obtain ⟨x,hx⟩:=nT l hi;refine nM func60 rfl ntmps60 rfl ?_;refine qq4 ?_;refine aj (xu (i:=i) h) rfl ?_;rintro _ w1 ⟨rfl,n1⟩;rw [ET hok hi];(repeat' (first|refine qq2 ?_|(refine aa4 (fun _=>?_) (fun _=>?_)<;>(first|(exfalso;omega)|skip))));refine dF h n1.keep rfl rfl (by omega) hx fun b o cs hl hR hat=>?_;obtain ⟨pv,rfl,hpr⟩:=hR;refine aS hat rfl rfl ?_;refine aj (zT (x:=x) (nm:=qx) (hpr.keep (oH pC) n1.keep)) rfl ?_;rintro _ w2 ⟨rfl,n2⟩;have n02:=New.trans n1 n2;have e:C9 l i=((val x.pz qx).isNone&&onM l i):=by unfold C9 tX;rw [yJ hx]
 rw [e];cases val x.pz qx with
 |none=>refine qq3 ?_;refine aj (D9 (h.keep oh n02.keep) hok hi) rfl ?_;rintro _ w3 ⟨rfl,n3⟩;refine qq3 ?_;exact aB rfl rfl rfl ⟨_,rfl,rfl,New.trans n02 n3⟩
 |some y=>refine qq3 ?_;exact aB rfl rfl rfl ⟨_,rfl,rfl,n02⟩
end Go.Proofs.YtfbnfhhmiiahnaaGreatDoor
namespace Go.Proofs.YtfbnfhhmiiahnaaGreatDoor
open Go Wk
structure Ed where
 src:Nat
 dst:Option Nat
 kind:Nat
 soft:Bool
 place:Nat
 args:List Int
deriving DecidableEq,Inhabited
def uY:Nm:=[112,104,97,110,100,108,101]
def wo (x:Nd):Nat:=(Ic ((val x.pz uY).getD [])).getD 0
def wL:List (Nat×Nat)->Nat->List Nd->List (Nat×Nat)
 |m,_,[]=>m
 |m,i,x::r=>wL (if wo x≠0/\m.all (fun p=>decide (p.1≠wo x))=true then m++ [(wo x,i)] else m) (i+1) r
def qX (t:List Nd):List (Nat×Nat):=wL [] 0 t
def AX (t:List Nd) (h:Nat):Option Nat:=((qX t).find? fun p=>decide (p.1=h)).map (·.2)
def sU:Nat->Nm×Nm
 |1=>([99,108,111,99,107,115],[35,99,108,111,99,107,45,99,101,108,108,115])
 |2=>([115,117,112,112,108,105,101,115],[35,115,117,112,112,108,121,45,99,101,108,108,115])
 |3=>([100,111,109,97,105,110,115],[35,100,111,109,97,105,110,45,99,101,108,108,115])
 |4=>([114,101,115,101,116,115],[35,114,101,115,101,116,45,99,101,108,108,115])
 |5=>([108,105,110,107,115],[35,108,105,110,107,45,99,101,108,108,115])
 |_=>([],[])
def Ih (x:Nd) (nm:Nm):Option Nat:=match val x.pz nm with
 |none=>some 0
 |some v=>match Ic v with
  |some n=>if n<=8 then some n else none
  |none=>none
def uN (t:List Nd) (i kind:Nat) (soft:Bool):Nat->Nat->List Int->List Ed
 |0,_,_=>[]
 |_,_,[]=>[]
 |f+1,place,h::c=>match AX t h.toNat with
  |none=>[⟨i,none,kind,soft,place,[]⟩]
  |some to_=>match Ih (ndA t to_) (sU kind).2 with
   |none=>[⟨i,none,kind,soft,place,[]⟩]
   |some n=>if c.length<n then [⟨i,none,kind,soft,place,[]⟩] else ⟨i,some to_,kind,soft,place,c.take n⟩::uN t i kind soft f (place+1) (c.drop n)
def xA (t:List Nd) (i kind:Nat) (soft:Bool):List Ed:=
 let v:=(tX t i ((sU kind).1++if soft=true then [63] else [])).getD []
 if form 4 v=0 then uN t i kind soft (nums 4 v).length 0 (nums 4 v) else [⟨i,none,kind,soft,0,[]⟩]
def nX (t:List Nd):List Ed:=(ab8 t.length).flatMap fun i=>[1,2,3,4,5].flatMap fun k=>xA t i k false++xA t i k true
def pR (t:List Nd) (i:Nat):List Nat:=(if 0<i then [par t i] else [])++(nX t).filterMap fun e=>if e.src=i/\e.soft=false then e.dst else none
inductive Rch (W:Nat->List Nat):Nat->Nat->Prop
 |one {a b:Nat}:b∈W a->Rch W a b
 |more {a b c:Nat}:Rch W a b->c∈W b->Rch W a c
theorem Rch.trans {W:Nat->List Nat} {a b c:Nat} (h:Rch W a b) (k:Rch W b c):Rch W a c:=by
 induction k with
 |one h1=>exact .more h h1
 |more _ h1 ih=>exact .more ih h1
def pI (t:List Nd):List Nat:=(ab8 t.length).mergeSort fun x y=> !decide (qY (fun _=>0) (oI t) y x<0)
open Classical in
noncomputable def sK (W:Nat->List Nat) (order:List Nat):List Nat->List Nat->List (List Nat)
 |_,[]=>[]
 |seen,i::r=>if i∈seen∨ ¬Rch W i i then sK W order seen r
  else (order.filter fun k=>decide (Rch W i k/\Rch W k i))::sK W order (seen++order.filter fun k=>decide (Rch W i k/\Rch W k i)) r
noncomputable def tC (t:List Nd):List (List Nat):=sK (pR t) (pI t) [] (pI t)
open Classical in
noncomputable def tY (W:Nat->List Nat):List Ed->List Ed×List Ed
 | []=>([],[])
 |e::r=>if Rch W (e.dst.getD 0) e.src then let q:=tY W r;(q.1,e::q.2)
  else let q:=tY (fun i=>if i=e.src then W i++ [e.dst.getD 0] else W i) r;(e::q.1,q.2)
def um (there:Nat->Bool) (e:Ed):Bool:=e.soft&&(there e.src&&(match e.dst with|none=>false|some d=>there d&&decide (d≠e.src)))
theorem J4: ∀(l:List Nd) (m:List (Nat×Nat)) (i n:Nat),i+l.length=n->(∀p∈m,p.2<n)-> ∀p∈wL m i l,p.2<n
 | [],_,_,_,_,hm,p,hp=>hm p hp
 |x::r,m,i,n,hn,hm,p,hp=>by
  simp only [anJ] at hn;rw [wL] at hp;refine J4 r _ (i+1) n (by omega) (fun q hq=>?_) p hp;split at hq
  ·rcases List.mem_append.1 hq with hq|hq
   ·exact hm q hq
   ·simp at hq;subst hq;simp;omega
  ·exact hm q hq
theorem J5 {t:List Nd} {h k:Nat} (e:AX t h=some k):k<t.length:=by
 unfold AX at e;obtain ⟨p,hp,rfl⟩:=Option.map_eq_some_iff.1 e;exact J4 t [] 0 t.length (by simp) (by simp) p (apb hp)
theorem NZ {t:List Nd} {i kind:Nat} {soft:Bool}: ∀(f place:Nat) (c:List Int), ∀e∈uN t i kind soft f place c,e.src=i/\e.soft=soft/\e.kind=kind/\ ∀d,e.dst=some d->d<t.length
 |0,_,_,e,h=>by simp [uN] at h
 |f+1,_,[],e,h=>by simp [uN] at h
 |f+1,place,x::c,e,h=>by
  rw [uN] at h;split at h
  ·simp at h;subst h;simp
  ·rename_i to_ hto
   split at h
   ·simp at h;subst h;simp
   ·split at h
    ·simp at h;subst h;simp
    ·rcases List.mem_cons.1 h with rfl|h
     ·exact ⟨rfl,rfl,rfl,fun d hd=>by cases hd;exact J5 hto⟩
     ·exact NZ f _ _ e h
theorem N7 {t:List Nd} {i kind:Nat} {soft:Bool}: ∀e∈xA t i kind soft,e.src=i/\e.soft=soft/\e.kind=kind/\ ∀d,e.dst=some d->d<t.length:=by
 intro e h;have key: ∀v:List UInt8,e∈(if form 4 v=0 then uN t i kind soft (nums 4 v).length 0 (nums 4 v) else [⟨i,none,kind,soft,0,[]⟩])->e.src=i/\e.soft=soft/\e.kind=kind/\ ∀d,e.dst=some d->d<t.length:=by
  intro v h;split at h
  ·exact NZ _ _ _ e h
  ·rw [List.mem_singleton] at h;subst h;simp
 exact key _ h
theorem ug {t:List Nd}: ∀e∈nX t,e.src<t.length/\ ∀d,e.dst=some d->d<t.length:=by
 intro e h;unfold nX at h;obtain ⟨i,hi,h⟩:=List.mem_flatMap.1 h;obtain ⟨k,_,h⟩:=List.mem_flatMap.1 h;rcases List.mem_append.1 h with h|h
 ·have:=N7 e h;exact ⟨by rw [this.1];simpa using hi,this.2.2.2⟩
 ·have:=N7 e h;exact ⟨by rw [this.1];simpa using hi,this.2.2.2⟩
end Go.Proofs.YtfbnfhhmiiahnaaGreatDoor
namespace Go.Proofs.YtfbnfhhmiiahnaaGreatDoor
open Go Wk
open Go.RowKit (Below)
open Go.Sort (SWO Holds)
attribute [local irreducible] Go.Calls
def Grw (w w':World):Prop:= ∃q os,w'=Sort.grow (w.drewN q) os
theorem Grw.new {w w':World} (h:Grw w w'):New w w':=by
 obtain ⟨q,os,rfl⟩:=h;exact ⟨rfl,rfl,rfl,by simp [Sort.grow],fun k hk _=>by show (w.heap++os)[k]? =_;rw [aoV hk]⟩
theorem EU {a b:Nm} (h: ¬a<b) (h2:a≠b):b<a:=by
 rcases Std.lt_trichotomy a b with h3|h3|h3
 ·exact absurd h3 h
 ·exact absurd h3 h2
 ·exact h3
theorem wZ (lv:Nat->Int) (pt:Nat->Nm) (a b:Nat):qY lv pt a b<0↔lv a<lv b∨(lv a=lv b/\pt a<pt b):=by
 unfold qY;split
 ·rename_i h;simp [h]
 ·split
  ·rename_i h1 h2;constructor
   ·intro h;omega
   ·rintro (h|⟨h,_⟩)<;>omega
  ·rename_i h1 h2
   have e:lv a=lv b:=by omega
   split
   ·rename_i h3;simp [e,h3]
   ·rename_i h3
    have: ¬(if pt b<pt a then (1:Int) else 0)<0:=by split<;>omega
    constructor
    ·intro h;exact absurd h this
    ·rintro (h|⟨_,h⟩)
     ·omega
     ·exact absurd h h3
theorem Qv (lv:Nat->Int) (pt:Nat->Nm):SWO fun a b=>decide (qY lv pt a b<0):=by
 refine ⟨fun x=>?_,fun x y z h1 h2=>?_,fun x y z h1 h2=>?_⟩
 ·refine decide_eq_false fun h=>?_;rcases (wZ _ _ _ _).1 h with h|⟨_,h⟩
  ·omega
  ·exact List.lt_irrefl _ h
 ·rw [decide_eq_true_eq,wZ] at h1 h2;refine decide_eq_true ((wZ _ _ _ _).2 ?_);rcases h1 with h1|⟨h1,h3⟩<;>rcases h2 with h2|⟨h2,h4⟩
  ·exact .inl (by omega)
  ·exact .inl (by omega)
  ·exact .inl (by omega)
  ·exact .inr ⟨by omega,apd h3 h4⟩
 ·rw [decide_eq_false_iff_not,wZ] at h1 h2;refine decide_eq_false fun h=>?_;rw [wZ] at h;have i1: ¬lv x<lv y:=fun q=>h1 (.inl q);have i2: ¬lv y<lv z:=fun q=>h2 (.inl q);rcases h with h|⟨h,h3⟩
  ·omega
  ·have e1:lv x=lv y:=by omega
   have e2:lv y=lv z:=by omega
   have h1': ¬pt x<pt y:=fun q=>h1 (.inr ⟨e1,q⟩);have h2': ¬pt y<pt z:=fun q=>h2 (.inr ⟨e2,q⟩);by_cases e:pt y=pt z
   ·rw [e] at h1';exact h1' h3
   ·exact h1' (apd h3 (EU h2' e))
abbrev viN:Nat->Value:=fun k=>vi k
theorem qw:qH (Wk.one viN) 1:=tN _ fun _=>rfl
section
variable {α:Type} [Inhabited α] {enc:α->Value} {w:World} {blk n:Nat} {d:Array α} {os:Array Obj}
theorem Ci (hb:blk<w.heap.size):Chg (fun j=>j=blk) w (sortWorld enc w blk 0 n d os):=
 ⟨rfl,rfl,rfl,by simp [sortWorld,Sort.grow,Sort.putRow,Sort.mapBlock,Sort.ahead],fun j hj hn=>by have: ¬blk=j:=fun e=>hn e.symm;simp only [sortWorld,Sort.grow,Sort.putRow,Sort.mapBlock,Sort.ahead];rw [aoV (by simpa using hj),aoJ,if_neg this]⟩
theorem Ii {cs:Array Value} {T:TypeId} (h:w.heap[blk]? =some (.cells cs T (0,0))):(sortWorld enc w blk 0 n d os).heap[blk]? =some (.cells (Sort.putCells enc 0 d cs) T (0,0)):=by
 have hb:=(Array.getElem?_eq_some_iff.1 h).1;simp only [sortWorld,Sort.grow,Sort.putRow,Sort.mapBlock,Sort.ahead];rw [aoV (by simpa using hb),aoJ,if_pos rfl,h];rfl
end
theorem Df {Pb:Nat->Prop} {w:World} {L:List Nat} {v:Value} {lv:Nat->Int} {pt:Nat->Nm} {g:FuncId} {cb:Array Value} [hg:nN prog g] (own:nP (Wk.one viN) 3 1 Pb NoB w v L) (hinj: ∀a∈L, ∀b∈L,pt a=pt b->a=b) (hlen:L.length<=2000000)
 (hcmp: ∀w',Chg (fun k=>v.ownBlock=some k) w w'-> ∀a∈L, ∀b∈L,Calls prog g (#[vi a,vi b]++cb) w' (fun e w''=>e=.returned (vi (qY lv pt a b))/\Grw w' w'')):
 Calls prog 62 #[v,.func (.func g) #[] cb] w (Ret fun _ w'=>nP (Wk.one viN) 3 1 Pb NoB w' v (L.mergeSort fun x y=> !decide (qY lv pt y x<0))/\Chg (fun k=>v.ownBlock=some k) w w'):=by
 by_cases hL:L=[]
 ·subst hL;obtain ⟨a,cap,rfl,_,_⟩:=own.form;refine (mJ (α:=Nat) a cap _ w).mono ?_;rintro _ w' ⟨rfl,rfl⟩;exact ⟨_,rfl,by simpa using own,ay _ _⟩
 obtain ⟨gb,cap,rfl,_,hgb,_⟩:=own.blk hL;obtain ⟨x0,hx0⟩:=List.exists_mem_of_ne_nil _ hL
 haveI:Inhabited {x:Nat // x∈L}:=⟨⟨x0,hx0⟩⟩
 let enc:{x:Nat // x∈L}->Value:=fun x=>vi x.1;let cf:{x:Nat // x∈L}->{x:Nat // x∈L}->Int:=fun x y=>qY lv pt x.1 y.1;have hlt: ∀x y,ltOf cf x y=decide (qY lv pt x.1 y.1<0):=fun x y=>rfl;have hS:=Qv lv pt;have hO:SWO (ltOf cf):=⟨fun x=>hS.irrefl x.1,fun x y z h1 h2=>hS.trans x.1 y.1 z.1 h1 h2,fun x y z h1 h2=>hS.ntrans x.1 y.1 z.1 h1 h2⟩;have hT: ∀x y,(ltOf cf) x y=false->(ltOf cf) y x=false->x=y:=by
  intro x y h1 h2;rw [hlt,decide_eq_false_iff_not,wZ] at h1 h2;have i1: ¬lv x.1<lv y.1:=fun q=>h1 (.inl q);have i2: ¬lv y.1<lv x.1:=fun q=>h2 (.inl q);have e:lv x.1=lv y.1:=by omega
  have h1': ¬pt x.1<pt y.1:=fun q=>h1 (.inr ⟨e,q⟩);have h2': ¬pt y.1<pt x.1:=fun q=>h2 (.inr ⟨e.symm,q⟩);refine Subtype.ext (hinj _ x.2 _ y.2 ?_);by_cases e:pt x.1=pt y.1
  ·exact e
  ·exact absurd (EU h1' e) h2'
 have own':nP (Wk.one enc) 3 1 Pb NoB w (.slice (some ⟨gb,0,none⟩) L.attach.length cap) L.attach:=by
  have e:L.attach.map enc=L.map viN:=by have:=congrArg (List.map viN) (ape L);rw [aoz] at this;exact this
  have h1:=own.to1;have:uH Pb w 3 1 (.slice (some ⟨gb,0,none⟩) L.attach.length cap) L.attach.length (L.attach.map enc):=by rw [e,apf];exact h1
  exact iC rfl this
 have hH:=JV own';have hds:L.attach.toArray.size=L.length:=by simp
 have hc:CmpLays1 prog g cb enc cf gb 0 L.attach.toArray.size w:=by intro m os dk hs x y;have cg:=Ci (enc:=enc) (n:=m) (d:=dk) (os:=os) hgb;refine (hcmp _ (cg.mono fun k _ e=>by rw [e];rfl) x.1 x.2 y.1 y.2).mono ?_;rintro e w' ⟨rfl,q,os',rfl⟩;exact ⟨rfl,q,os',rfl⟩
 have h:=mM enc (fun _=>rfl) cf hO g cb gb 0 cap L.attach.toArray w (fun args w=>qF hg args) hc hH hgb (by rw [hds];omega) hT;rw [hds] at h;refine h.mono ?_;rintro _ w' ⟨rfl,n,os,rfl⟩;refine ⟨_,rfl,?_,(Ci hgb).mono fun k _ e=>by rw [e];rfl⟩;have hm:(L.attach.toArray.toList.mergeSort fun x y=> !(ltOf cf) y x).map (·.1)=L.mergeSort fun x y=> !decide (qY lv pt y x<0):=by have:=List.map_mergeSort (r:=fun x y:{x:Nat // x∈L}=> !(ltOf cf) y x) (s:=fun x y=> !decide (qY lv pt y x<0)) (f:=fun x=>x.1) (l:=L.attach) (fun a _ b _=>rfl);rw [ape] at this;exact this
 generalize hD:(L.attach.toArray.toList.mergeSort fun x y=> !(ltOf cf) y x)=D at hm ⊢;have hl:D.length=L.attach.length:=by rw [<-hD,List.length_mergeSort]
 have o2:=SQ (Pe':=NoB) (NJ:=enc) (w':=sortWorld enc w gb 0 n D.toArray os) own' hl fun cs hcs=>Ii hcs;have h2:=o2.to1;have e2:D.map enc=(D.map (·.1)).map viN:=by rw [aoz];rfl
 rw [e2,hm] at h2;rw [hl,apf] at h2;exact iC (by simp) h2
end Go.Proofs.YtfbnfhhmiiahnaaGreatDoor
namespace Go.Proofs.YtfbnfhhmiiahnaaGreatDoor
open Go Wk
open Go.RowKit (Below)
attribute [local irreducible] Go.Calls
def idx {α:Type} (p:α->Bool) (l:List α):Int:=match l.findIdx? p with|some i=>(i:Int)|none=> -1
theorem Eb {α:Type} {p:α->Bool} {l:List α} {i:Nat} {y:α} (hi:l[i]? =some y) (h: ∀x∈l.take i,p x=false) (hy:p y=true):idx p l=i:=by
 unfold idx;have:l.findIdx? p=some i:=by rw [List.findIdx?_eq_some_iff_getElem];obtain ⟨hlt,rfl⟩:=List.getElem?_eq_some_iff.1 hi;refine ⟨hlt,hy,fun j hj=>?_⟩;have:=h l[j] (by rw [List.mem_iff_getElem?];exact ⟨j,by rw [aaQ,if_pos hj,anv]⟩);simp [this]
 rw [this]
theorem yY {α:Type} {p:α->Bool} {l:List α} (h: ∀x∈l,p x=false):idx p l= -1:=by
 unfold idx;have:l.findIdx? p=none:=by rw [List.findIdx?_eq_none_iff];exact h
 rw [this]
theorem AY {α:Type} {p:α->Bool} {l:List α} {i:Nat} {y:α} (hi:l[i]? =some y) (h: ∀x∈l.take i,p x=false) (hy:p y=false): ∀x∈l.take (i+1),p x=false:=by
 rw [take_snoc hi];intro x hx;rcases List.mem_append.1 hx with hx|hx
 ·exact h x hx
 ·rw [List.mem_singleton.1 hx];exact hy
theorem yZ {Pb:Nat->Prop} {w:World} {v:Value} {l:List Pr} {p:Pr->Bool} {g:FuncId} {cap:Array Value} [hc:nN prog g] (h:RdS rPr 2 Pb w v l)
 (hf: ∀y w',y∈l->New w w'->Calls prog g ([Value.agg (pC y).toArray]++cap.toList).toArray w' (Ret fun r w''=>r=.bool (p y)/\New w' w'')):
 Calls prog 105 #[v,.func (.func g) #[] cap] w (Ret fun r w'=>r=vi (idx p l)/\New w w'):=by
 obtain ⟨a,cp,rfl,hc1,hc2⟩:=h.form;simp only [maxLen] at hc2;refine nM func105 rfl ntmps105 rfl ?_;refine qq2 ?_;refine aA (σ:=Nat) (fun i=>[(0,.slice a l.length cp),(1,.func (.func g) #[] cap),(7,vi l.length),(8,vi i)]) (fun i w'=>i<=l.length/\(∀x∈l.take i,p x=false)/\New w w') (fun i=>l.length-i) 0 (sl rfl) ⟨anq _,by simp,ay _ _⟩ ?_;rintro i G w1 ⟨hi,hall,n1⟩;simp only [pq];(repeat' (first|refine qq4 ?_|refine aa2 (fun _=>?_) (fun _=>?_)))
 ·obtain ⟨y,hy⟩:=nT l (k:=i) (by omega);refine dF h n1.keep rfl rfl (by omega) hy fun b o cs hl hR hat=>?_;obtain rfl:cs=pC y:=hR;refine aS hat rfl rfl ?_;refine bP (dst:=some 16) rfl (hf y w1 (aop hy) n1) rfl ?_;rintro _ w2 ⟨rfl,n2⟩;simp only [wI];cases hp:p y with
  |true=>refine qq3 ?_;refine ak rfl rfl ⟨_,rfl,?_,New.trans n1 n2⟩;rw [Eb hy hall hp];rfl
  |false=>refine qq2 ?_;exact ax (i+1) (sl rfl) ⟨by omega,AY hy hall hp,New.trans n1 n2⟩ (by omega)
 ·have e:i=l.length:=by omega
  subst e;rw [aon] at hall;refine ak rfl rfl ⟨_,rfl,?_,n1⟩;rw [yY hall];rfl
theorem xB {α:Type} {p:α->Bool}: ∀(l:List α),match l.findIdx? p with|some i=> ∃y,l[i]? =some y/\l.find? p=some y|none=>l.find? p=none
 | []=>rfl
 |x::r=>by
  have ih:=xB (p:=p) r;rw [List.findIdx?_cons];cases hx:p x
  ·rw [if_neg (by simp)];cases hr:r.findIdx? p with
   |none=>rw [hr] at ih;simp only [ani];rw [aoU (by simp [hx])];exact ih
   |some i=>rw [hr] at ih;obtain ⟨y,h1,h2⟩:=ih;simp only [am6];exact ⟨y,by simpa using h1,by rw [aoU (by simp [hx])];exact h2⟩
  ·rw [if_pos (by simp)];exact ⟨x,rfl,apa (by simp [hx])⟩
theorem Le {w:World} {b:Nat} {nm:Nm} {p:Pr} (h:Bk w b 9 [vs nm]):
 Calls prog 210 #[.agg (pC p).toArray,.pointer (some ⟨b,0,none⟩)] w (Ret fun r w'=>r=.bool (decide (p.1=nm))/\New w w'):=by
 refine nM func210 rfl ntmps210 rfl ?_;refine qq4 ?_;refine Wl.box rfl fun w1 b1 n1 s1=>?_;replace b1:Bk w1 w.heap.size 70 (pC p):=b1;replace h:=h.chg n1 id;refine qq2 ?_;refine ah (u:=vs p.1) rfl (b1.cell (o:=0) rfl) ?_;refine ah (u:=vs nm) rfl (h.cell (o:=0) rfl) ?_;(repeat' (first|refine qq3 ?_|refine eU rfl rfl (fun _=>?_) (fun _=>?_)))
 ·rw [decide_eq_true (by assumption)];exact ak rfl rfl ⟨_,rfl,rfl,n1⟩
 ·rw [decide_eq_false (by assumption)];exact ak rfl rfl ⟨_,rfl,rfl,n1⟩
theorem AZ {Pb:Nat->Prop} {w:World} {pv:Value} {x:Nd} {nm:Nm} (h:RdS rPr 2 Pb w pv x.pz):
 Calls prog 201 #[.agg #[vi x.parent,vs x.name,pv],vs nm] w (Ret fun r w'=>r=Ld (val x.pz nm)/\New w w'):=by
 obtain ⟨a,cap,rfl,hc1,hc2⟩:=h.form;simp only [maxLen] at hc2;refine nM func201 rfl ntmps201 rfl ?_;refine qq4 ?_;refine Wl.box rfl fun w1 b1 n1 s1=>?_;replace b1:Bk w1 w.heap.size 73 [vi x.parent,vs x.name,.slice a x.pz.length cap]:=b1;refine Wl.box rfl fun w2 b2 n2 s2=>?_;replace b2:Bk w2 w1.heap.size 9 [vs nm]:=b2;replace b1:=b1.chg n2 id;replace n2:=New.trans n1 n2;refine qq2 ?_;refine ah (u:=.slice a x.pz.length cap) rfl (b1.cell (o:=2) rfl) ?_;refine dn (f1:=[]) (c1:=[.pointer (some ⟨w1.heap.size,0,none⟩)]) rfl rfl ?_;refine aj (yZ (p:=fun p=>decide (p.1=nm)) (g:=210) (cap:= #[.pointer (some ⟨w1.heap.size,0,none⟩)]) (h.keep (oH pC) n2.keep) (fun y w' _ hw=>Le (b2.chg hw id))) rfl ?_;rintro _ w3 ⟨rfl,n3⟩;have n03:=New.trans n2 n3;have b3:=b1.chg n3 id;have hf:=xB (p:=fun p:Pr=>decide (p.1=nm)) x.pz;unfold val idx;cases hi:x.pz.findIdx? (fun p:Pr=>decide (p.1=nm)) with
 |none=>rw [hi] at hf;dsimp only at hf ⊢;rw [hf];(repeat' (first|refine qq5 ?_|(refine aa2 (fun _=>?_) (fun _=>?_)<;>(first|(exfalso;omega)|skip))));exact aB rfl rfl rfl ⟨_,rfl,rfl,n03⟩
 |some i=>rw [hi] at hf;obtain ⟨y,h1,h2⟩:=hf;rw [h2];have hlt:=(List.getElem?_eq_some_iff.1 h1).1;dsimp only;(repeat' (first|refine qq2 ?_|(refine aa2 (fun _=>?_) (fun _=>?_)<;>(first|(exfalso;omega)|skip))));refine ah (u:=.slice a x.pz.length cap) rfl (b3.cell (o:=2) rfl) ?_;(repeat' (refine aa1 ?_));refine aK (h.keep (oH pC) n03.keep) rfl rfl (by omega) h1 fun b o cs hl hR hat=>?_;obtain rfl:cs=pC y:=hR;(repeat' (refine aa5 ?_));refine ah (u:=vs y.2) rfl (hat.get 1 rfl) ?_;refine qq3 ?_;exact aB rfl rfl rfl ⟨_,rfl,rfl,n03⟩
theorem Lh {w:World} {b:Nat} {nm:Nm} {p:Pr} (h:Bk w b 9 [vs nm]):
 Calls prog 106 #[.agg (pC p).toArray,.pointer (some ⟨b,0,none⟩)] w (Ret fun r w'=>r=.bool (decide (p.1=nm))/\New w w'):=by
 refine nM func106 rfl ntmps106 rfl ?_;refine qq4 ?_;refine Wl.box rfl fun w1 b1 n1 s1=>?_;replace b1:Bk w1 w.heap.size 70 (pC p):=b1;replace h:=h.chg n1 id;refine qq2 ?_;refine ah (u:=vs p.1) rfl (b1.cell (o:=0) rfl) ?_;refine ah (u:=vs nm) rfl (h.cell (o:=0) rfl) ?_;(repeat' (first|refine qq3 ?_|refine eU rfl rfl (fun _=>?_) (fun _=>?_)))
 ·rw [decide_eq_true (by assumption)];exact ak rfl rfl ⟨_,rfl,rfl,n1⟩
 ·rw [decide_eq_false (by assumption)];exact ak rfl rfl ⟨_,rfl,rfl,n1⟩
theorem A7 {Pb:Nat->Prop} {w:World} {pv:Value} {x:Nd} {nm:Nm} (h:RdS rPr 2 Pb w pv x.pz):
 Calls prog 79 #[.agg #[vi x.parent,vs x.name,pv],vs nm] w (Ret fun r w'=>r=Ld (val x.pz nm)/\New w w'):=by
 obtain ⟨a,cap,rfl,hc1,hc2⟩:=h.form;simp only [maxLen] at hc2;refine nM func79 rfl ntmps79 rfl ?_;refine qq4 ?_;refine Wl.box rfl fun w1 b1 n1 s1=>?_;replace b1:Bk w1 w.heap.size 73 [vi x.parent,vs x.name,.slice a x.pz.length cap]:=b1;refine Wl.box rfl fun w2 b2 n2 s2=>?_;replace b2:Bk w2 w1.heap.size 9 [vs nm]:=b2;replace b1:=b1.chg n2 id;replace n2:=New.trans n1 n2;refine qq2 ?_;refine ah (u:=.slice a x.pz.length cap) rfl (b1.cell (o:=2) rfl) ?_;refine dn (f1:=[]) (c1:=[.pointer (some ⟨w1.heap.size,0,none⟩)]) rfl rfl ?_;refine aj (yZ (p:=fun p=>decide (p.1=nm)) (g:=106) (cap:= #[.pointer (some ⟨w1.heap.size,0,none⟩)]) (h.keep (oH pC) n2.keep) (fun y w' _ hw=>Lh (b2.chg hw id))) rfl ?_;rintro _ w3 ⟨rfl,n3⟩;have n03:=New.trans n2 n3;have b3:=b1.chg n3 id;have hf:=xB (p:=fun p:Pr=>decide (p.1=nm)) x.pz;unfold val idx;cases hi:x.pz.findIdx? (fun p:Pr=>decide (p.1=nm)) with
 |none=>rw [hi] at hf;dsimp only at hf ⊢;rw [hf];(repeat' (first|refine qq5 ?_|(refine aa2 (fun _=>?_) (fun _=>?_)<;>(first|(exfalso;omega)|skip))));exact aB rfl rfl rfl ⟨_,rfl,rfl,n03⟩
 |some i=>rw [hi] at hf;obtain ⟨y,h1,h2⟩:=hf;rw [h2];have hlt:=(List.getElem?_eq_some_iff.1 h1).1;dsimp only;(repeat' (first|refine qq2 ?_|(refine aa2 (fun _=>?_) (fun _=>?_)<;>(first|(exfalso;omega)|skip))));refine ah (u:=.slice a x.pz.length cap) rfl (b3.cell (o:=2) rfl) ?_;(repeat' (refine aa1 ?_));refine aK (h.keep (oH pC) n03.keep) rfl rfl (by omega) h1 fun b o cs hl hR hat=>?_;obtain rfl:cs=pC y:=hR;(repeat' (refine aa5 ?_));refine ah (u:=vs y.2) rfl (hat.get 1 rfl) ?_;refine qq3 ?_;exact aB rfl rfl rfl ⟨_,rfl,rfl,n03⟩
theorem Ij (v:List UInt8): ∃n:Nat,(only 0 (form 4 v) (nums 4 v)).1=(n:Int)/\n<4294967296:=by
 unfold only;split
 ·rename_i h
  cases hn:nums 4 v with
  |nil=>exact ⟨0,rfl,by decide⟩
  |cons x r=>
   have hx:x∈nums 4 v:=by rw [hn];simp
   unfold nums at hx;split at hx
   ·unfold pieces at hx;obtain ⟨i,hi,rfl⟩:=List.mem_map.1 hx;refine ⟨_,rfl,?_⟩;have h1:=yS ((v.drop (4*i)).take 4);have h2:256^((v.drop (4*i)).take 4).length<=256^4:=Ia _ _ (by simp only [anD];omega);have h3:(256:Nat)^4=4294967296:=by decide
    omega
   ·simp at hx
 ·exact ⟨0,rfl,by decide⟩
def ac2:Option Nat->Value
 |some n=>.tuple #[vi n,vi 0]
 |none=>.tuple #[vi 0,vi 4]
theorem Ik {Pb:Nat->Prop} {w:World} {pv:Value} {x:Nd} {nm:Nm} {least dflt:Nat} (h:RdS rPr 2 Pb w pv x.pz) (hx: ∀v,val x.pz nm=some v->v.length<=1024) (h1:least<=2) (h2:dflt<=2):
 Calls prog 209 #[.agg #[vi x.parent,vs x.name,pv],vs nm,.int .u32 least,.int .u32 dflt] w (Ret fun r w'=>r=ac2 (La x.pz nm least dflt)/\New w w'):=by
 obtain ⟨a,cap,rfl,hc1,hc2⟩:=h.form;refine nM func209 rfl ntmps209 rfl ?_;refine qq4 ?_;refine Wl.box rfl fun w1 b1 n1 s1=>?_;replace b1:Bk w1 w.heap.size 73 [vi x.parent,vs x.name,.slice a x.pz.length cap]:=b1;refine qq4 ?_;refine bK b1 rfl rfl ?_;(repeat' (refine aa1 ?_));refine aj (AZ (x:=x) (nm:=nm) (h.keep (oH pC) n1.keep)) rfl ?_;rintro _ w2 ⟨rfl,n2⟩;have n02:=New.trans n1 n2;unfold La;cases hv:val x.pz nm with
 |none=>dsimp only;refine qq5 ?_;refine aB rfl rfl rfl ⟨_,rfl,?_,n02⟩;show Value.tuple #[.int .i64 (IntKind.i64.wrap (dflt:Int)),_]=_;rw [G8 (n:=dflt) rfl (by omega)];rfl
 |some s=>
  have hsl:=hx s hv;dsimp only;refine qq2 ?_;refine aj (EQ (l:=s) (by omega)) rfl ?_;rintro _ w3 ⟨rfl,n3⟩;have n03:=New.trans n02 n3;obtain ⟨n,hn,hnl⟩:=Ij s;unfold Ic;rw [hn,ant];(repeat' (first|refine qq5 ?_|refine aa2 (fun _=>?_) (fun _=>?_)|refine aT rfl rfl (fun _=>?_) (fun _=>?_)|refine aa4 (fun _=>?_) (fun _=>?_)))
  ·rw [if_neg (by omega)];exact aB rfl rfl rfl ⟨_,rfl,rfl,n03⟩
  ·rw [if_pos (by omega)];dsimp only;rw [if_neg (by omega)];exact aB rfl rfl rfl ⟨_,rfl,rfl,n03⟩
  ·rw [if_pos (by omega)];dsimp only;rw [if_neg (by omega)];exact aB rfl rfl rfl ⟨_,rfl,rfl,n03⟩
  ·rw [if_pos (by omega)];dsimp only;rw [if_pos (by omega)];refine aB rfl rfl rfl ⟨_,rfl,?_,n03⟩;show Value.tuple #[.int .i64 (IntKind.i64.wrap (n:Int)),_]=_;rw [G8 (n:=n) rfl (by omega)];rfl
def ac3:Option (Nat×Nat)->Value
 |some p=>.tuple #[vi p.1,vi p.2,vi 0]
 |none=>.tuple #[vi 0,vi 0,vi 4]
theorem Dh {Pb:Nat->Prop} {w:World} {pv:Value} {x:Nd} (h:RdS rPr 2 Pb w pv x.pz) (hx: ∀nm v,val x.pz nm=some v->v.length<=1024):
 Calls prog 200 #[.agg #[vi x.parent,vs x.name,pv]] w (Ret fun r w'=>r=ac3 (wK x.pz)/\New w w'):=by
 obtain ⟨a,cap,rfl,hc1,hc2⟩:=h.form;refine nM func200 rfl ntmps200 rfl ?_;refine qq4 ?_;refine Wl.box rfl fun w1 b1 n1 s1=>?_;replace b1:Bk w1 w.heap.size 73 [vi x.parent,vs x.name,.slice a x.pz.length cap]:=b1;refine qq4 ?_;refine bK b1 rfl rfl ?_;refine aj (Ik (x:=x) (nm:=WU) (least:=1) (dflt:=2) (h.keep (oH pC) n1.keep) (hx _) (by decide) (by decide)) rfl ?_;rintro _ w2 ⟨rfl,n2⟩;have n02:=New.trans n1 n2;have b2:=b1.chg n2 id;have e1: ∀o:Option Nat,ac2 o=.tuple #[vi (o.getD 0:Nat),vi (if o.isSome then 0 else 4)]:=fun o=>by cases o<;>rfl
 rw [e1];refine qq5 ?_;refine bK b2 rfl rfl ?_;refine aj (Ik (x:=x) (nm:=SX) (least:=0) (dflt:=1) (h.keep (oH pC) n02.keep) (hx _) (by decide) (by decide)) rfl ?_;rintro _ w3 ⟨rfl,n3⟩;have n03:=New.trans n02 n3;rw [e1];unfold wK;cases La x.pz WU 1 2 with
 |none=>(repeat' (first|refine qq3 ?_|(refine aa4 (fun _=>?_) (fun _=>?_)<;>(first|(exfalso;contradiction)|skip))));exact bZ rfl rfl rfl rfl ⟨_,rfl,by cases La x.pz SX 0 1<;>rfl,n03⟩
 |some p=>
  cases La x.pz SX 0 1 with
  |none=>(repeat' (first|refine qq2 ?_|(refine aa4 (fun _=>?_) (fun _=>?_)<;>(first|(exfalso;contradiction)|skip))));exact bZ rfl rfl rfl rfl ⟨_,rfl,rfl,n03⟩
  |some q=>(repeat' (first|refine qq2 ?_|(refine aa4 (fun _=>?_) (fun _=>?_)<;>(first|(exfalso;contradiction)|skip))));exact bZ rfl rfl rfl rfl ⟨_,rfl,rfl,n03⟩
theorem UN {Pb:Nat->Prop} {w:World} {v:Value} {l:List Nd} {i:Nat} (h:RdS rNd 3 Pb w v l) (hok:og l=true) (hi:i<l.length):
 Calls prog 188 #[v,vi i] w (Ret fun r w'=>nP (Wk.one viN) 3 1 (fun b=>w.heap.size<=b) NoB w' r (D7 l i)/\New w w'):=by
 obtain ⟨a,cap,rfl,hc1,hc2⟩:=h.form;have hlen:=pF hok;refine nM func188 rfl ntmps188 rfl ?_;refine qq2 ?_;refine aA (σ:=Nat×Value×List Nat) (fun s=>[(0,.slice a l.length cap),(1,vi s.1),(5,s.2.1)]) (fun s w'=>s.1<=i/\s.2.2.length+s.1<=i/\D7 l i=s.2.2++D7 l s.1/\nP (Wk.one viN) 3 1 (fun b=>w.heap.size<=b) NoB w' s.2.1 s.2.2/\New w w') (fun s=>s.1) (i,.slice none 0 0,[]) (sl rfl) ⟨aap _,by simp,by simp,aI,ay _ _⟩ ?_;rintro ⟨k,u,ns⟩ G w1 ⟨hk,hkl,hnm,own,n1⟩;dsimp only at hk hkl hnm own n1;simp only [pq];obtain ⟨p,c,rfl,hp1,hp2⟩:=own.form;(repeat' (first|refine qq4 ?_|refine aT rfl rfl (fun _=>?_) (fun _=>?_)))
 ·obtain ⟨x,hx⟩:=nT l (k:=k) (by omega);have hpl:=uK hok (i:=k) (by omega) (by omega);have hxp:x.parent=(par l k:Int):=by rw [<-hpl.2,yJ hx]
  refine cu (R:=Wk.one viN) (y:=k) qw own rfl rfl rfl rfl rfl (by omega) (by omega) (by simp only [maxLen];omega) (by omega) rfl rfl fun v' w2 p rQ c2 lie=>?_;have n2:New w w2:=Chg.trans n1 c2 fun k hk e=>by have:=(own.lt e).1;omega
  refine qq6 ?_;refine dF h n2.keep rfl rfl (by omega) hx fun b o cs hl hR hat=>?_;obtain ⟨pv',rfl,_⟩:=hR;(repeat' (refine aa5 ?_));refine ah (u:=vi x.parent) rfl (hat.get 0 rfl) ?_;refine qq6 ?_;refine ax (par l k,v',ns++ [k]) ⟨rfl,by rw [hxp];rfl,rfl,trivial⟩ ⟨by dsimp only;omega,by simp;omega,?_,rQ.mono qw.mo (fun b hb e=>by rcases e with e|e;exact e;have:=n1.size;omega) i3,n2⟩ (by dsimp only;omega);rw [hnm,BH hok (by omega) (by omega)];simp
 ·obtain rfl:k=0:=by omega
  rw [BG,aoS] at hnm;rw [hnm];exact ak rfl rfl ⟨_,rfl,own,n1⟩
abbrev w64:Nat->Value:=fun k=>.int .u64 k
theorem SY {k:Nat} (h:k<18446744073709551616):IntKind.u64.wrap (k:Int)=(k:Int):=CQ rfl (by omega) (by show (k:Int)<2^64;omega)
theorem zV {a b:Nat} (h:b<=a) (ha:a<18446744073709551616):IntKind.u64.wrap ((a:Int)-(b:Int))=((a-b:Nat):Int):=by
 rw [show (a:Int)-(b:Int)=((a-b:Nat):Int) by omega];exact SY (by omega)
theorem Di {w:World} {a s:Nat} (ha:a<18446744073709551616) (hs:s<18446744073709551616):
 Calls prog 203 #[w64 a,w64 s] w (Ret fun r w'=>r=.bool (fitsW a s)/\w=w'):=by
 unfold fitsW;refine nM func203 rfl ntmps203 rfl ?_;(repeat' (first|refine qq5 ?_|refine bJ rfl rfl (fun _=>?_) (fun _=>?_)))
 ·rw [decide_eq_true (.inl (by omega))];exact ak rfl rfl ⟨_,rfl,rfl,rfl⟩
 ·refine fP rfl rfl ?_;rw [show ((s:Int)-1)=(s:Int)-((1:Nat):Int) from rfl,zV (by omega) hs];refine aO rfl rfl ?_;refine fP rfl rfl ?_;rw [show ((18446744073709551615:Int)-((s-1:Nat):Int))=((18446744073709551615:Nat):Int)-((s-1:Nat):Int) from rfl,zV (by omega) (by omega)];(repeat' (first|refine qq3 ?_|refine dR rfl rfl (fun _=>?_) (fun _=>?_)))
  ·rw [decide_eq_true (.inr (by omega))];exact ak rfl rfl ⟨_,rfl,rfl,rfl⟩
  ·rw [decide_eq_false (by omega)];exact ak rfl rfl ⟨_,rfl,rfl,rfl⟩
theorem N8 {w:World} {x:Win} {f s:Nat} (h1:x.1<18446744073709551616) (h2:x.2<18446744073709551616) (hf:f<18446744073709551616) (hs:s<18446744073709551616):
 Calls prog 212 #[.agg #[w64 x.1,w64 x.2],w64 f,w64 s] w (Ret fun r w'=>r=.bool (within x f s)/\New w w'):=by
 unfold within;refine nM func212 rfl ntmps212 rfl ?_;refine qq4 ?_;refine Wl.box rfl fun w1 b1 n1 s1=>?_;replace b1:Bk w1 w.heap.size 300 [w64 x.1,w64 x.2]:=b1;refine qq2 ?_;refine ah (u:=w64 x.1) rfl (b1.cell (o:=0) rfl) ?_;(repeat' (first|refine qq3 ?_|refine aU rfl rfl (fun _=>?_) (fun _=>?_)))
 ·refine ah (u:=w64 x.1) rfl (b1.cell (o:=0) rfl) ?_;refine qq5 ?_;refine fP rfl rfl ?_;rw [zV (by omega) h1];(repeat' (first|refine qq3 ?_|refine aa2 (fun _=>?_) (fun _=>?_)))
  ·refine ah (u:=w64 x.2) rfl (b1.cell (o:=1) rfl) ?_;refine qq2 ?_;refine ah (u:=w64 x.1) rfl (b1.cell (o:=0) rfl) ?_;refine qq5 ?_;refine fP rfl rfl ?_;rw [zV (by omega) h1];refine aO rfl rfl ?_;refine fP rfl rfl ?_;rw [zV (by omega) hs];(repeat' (first|refine qq3 ?_|refine dR rfl rfl (fun _=>?_) (fun _=>?_)))
   ·rw [decide_eq_true (by omega)];exact ak rfl rfl ⟨_,rfl,rfl,n1⟩
   ·rw [decide_eq_false (by omega)];exact ak rfl rfl ⟨_,rfl,rfl,n1⟩
  ·rw [decide_eq_false (by omega)];exact ak rfl rfl ⟨_,rfl,rfl,n1⟩
 ·rw [decide_eq_false (by omega)];exact ak rfl rfl ⟨_,rfl,rfl,n1⟩
end Go.Proofs.YtfbnfhhmiiahnaaGreatDoor
namespace Go.Proofs.YtfbnfhhmiiahnaaGreatDoor.Wk
open Go Go.RowKit
section
variable {P:Program} {n:Nat} {ds:List Deferred} {Q:Po} {F:Fr} {w w':World} {ops rest:List Oper} {d:Nat} {ty:TypeId} {pos:String} {aft:Array Edge}
def Il (tmps:Array Value):ResultVar->Sem Value
 | .tmp t=>pure (tmps.getD t undef)
 | .cell a t=>do loadVar t (<-asAddr (tmps.getD a undef))
theorem pJ {t:Nat} (ht:ada t n=true):(Il (arr n F) (.tmp t)).run P w=.ok (F t) w:=by
 simp only [Il,Sem.run_pure];rw [ab9,uy,if_pos (by rwa [ana] at ht)];rfl
theorem qO {a e sz bytes b:Nat} {z:Value} {T:TypeId} {cs:List Value} [he:ElT P e sz bytes true z] (ht:ada a n=true) (hF:F a=.pointer (some ⟨b,0,none⟩)) (hb:Bk w b T cs) (hl:cs.length=sz):(Il (arr n F) (.cell a e)).run P w=.ok (.agg cs.toArray) w:=by
 have e1:(arr n F).getD a undef=.pointer (some ⟨b,0,none⟩):=by rw [ab9,uy,if_pos (by rwa [ana] at ht)];exact hF
 have:=run_loadCells_list (P:=P) w ⟨b,0,none⟩ cs (fun j u hu=>by rw [addr_add,ace];exact hb.cell hu);simp only [Il,e1];simp [asAddr,loadVar,he.isAgg,he.sizeOf, <-hl,this]
theorem Dj {fn:Func} {tmps:Array Value}:results fn tmps=(do let vs<-fn.results.mapM (Il tmps);pure (if h:vs.size=1 then vs[0] else .tuple vs)):=by
 unfold results;congr 1
theorem y5 {fn:Func} {a:ResultVar} {u:Value} (h:fn.results= #[a]) (h1:(Il (arr n F) a).run P w=.ok u w):(results fn (arr n F)).run P w=.ok u w:=by
 rw [Dj,h];simp [h1]
theorem qB {fn:Func} {a b:ResultVar} {u v:Value} (h:fn.results= #[a,b]) (h1:(Il (arr n F) a).run P w=.ok u w) (h2:(Il (arr n F) b).run P w=.ok v w):(results fn (arr n F)).run P w=.ok (.tuple #[u,v]) w:=by
 rw [Dj,h];simp [h1,h2]
theorem fD {fn:Func} {R:Ending->World->Prop} {v:Value} (h:(results fn (arr n F)).run P w=.ok v w) (k:R (.returned v) w):Qfn P n fn R .ret F w:=by
 unfold Qfn;exact ⟨v,h,k⟩
end
end Go.Proofs.YtfbnfhhmiiahnaaGreatDoor.Wk
namespace Go.Proofs.YtfbnfhhmiiahnaaGreatDoor
open Go Wk
open Go.RowKit (Below)
attribute [local irreducible] Go.Calls
section
variable {P:Program} {n:Nat} {ds:List Deferred} {Q:Po} {F:Fr} {w:World} {ops rest:List Oper} {d:Nat} {ty t t':TypeId} {pos:String} {aft:Array Edge} {x y:Operand} {a b:List UInt8}
theorem jT (hx:ev n F x=vs a) (hy:ev n F y=vs b) (ht:a<b->Wl P n ds Q ops rest (upd F d (.bool true)) w) (hf: ¬a<b->Wl P n ds Q ops rest (upd F d (.bool false)) w):
 Wl P n ds Q ops (⟨some d,.binOp .lss t x y t',ty,pos,aft,none⟩::rest) F w:=by
 by_cases h:a<b
 ·exact Wl.val (by simp only [execOp,hx,hy,Sem.run_bind,qp,Result.andThen_ok,binOp_string_lss,ByteArray.toList_mk,Sem.run_pure,bytesLess_eq,decide_eq_true h]) (ht h)
 ·exact Wl.val (by simp only [execOp,hx,hy,Sem.run_bind,qp,Result.andThen_ok,binOp_string_lss,ByteArray.toList_mk,Sem.run_pure,bytesLess_eq,decide_eq_false h]) (hf h)
theorem Wk.Wl.ahY (hx:ev n F x=vs a) (hy:ev n F y=vs b) (ht:b<a->Wl P n ds Q ops rest (upd F d (.bool true)) w) (hf: ¬b<a->Wl P n ds Q ops rest (upd F d (.bool false)) w):
 Wl P n ds Q ops (⟨some d,.binOp .gtr t x y t',ty,pos,aft,none⟩::rest) F w:=by
 have e:(!(decide (a<b)||a == b))=decide (b<a):=by
  by_cases h:a<b
  ·rw [decide_eq_true h,decide_eq_false (List.lt_asymm h)];rfl
  ·by_cases h2:a=b
   ·subst h2;rw [decide_eq_false h];simp
   ·rw [decide_eq_false h,decide_eq_true (EU h h2),beq_eq_false_iff_ne.2 h2];rfl
 have r:(execOp (ev n F) ⟨some d,.binOp .gtr t x y t',ty,pos,aft,none⟩).run P w=.ok (.value (.bool (decide (b<a)))) w:=by simp only [execOp,hx,hy,Sem.run_bind,qp,Result.andThen_ok,binOp_string_gtr,ByteArray.toList_mk,Sem.run_pure,bytesLess_eq,e]
 by_cases h:b<a
 ·rw [decide_eq_true h] at r;exact Wl.val r (ht h)
 ·rw [decide_eq_false h] at r;exact Wl.val r (hf h)
end
def Ec (a b:List UInt8):Int:=if a<b then-1 else if b<a then 1 else 0
theorem Io {w:World} {a:List UInt8}:Calls prog 96 #[vs a] w (Ret fun r w'=>r=.bool false/\w=w'):=by
 refine nM func96 rfl ntmps96 rfl ?_;(repeat' (first|refine qq5 ?_|(refine iy rfl rfl (fun _=>?_) (fun _=>?_)<;>(first|(exfalso;contradiction)|skip))))
 all_goals first|contradiction|exact ak rfl rfl ⟨_,rfl,rfl,rfl⟩
theorem wS {w:World} {a b:List UInt8}:Calls prog 66 #[vs a,vs b] w (Ret fun r w'=>r=vi (Ec a b)/\w=w'):=by
 refine nM func66 rfl ntmps66 rfl ?_;refine qq4 ?_;refine aj Io rfl ?_;rintro _ _ ⟨rfl,rfl⟩;refine qq4 ?_;refine aj Io rfl ?_;rintro _ _ ⟨rfl,rfl⟩;refine qq2 ?_;refine jT rfl rfl (fun h=>?_) (fun h=>?_)
 ·refine qq3 ?_;refine ak rfl rfl ⟨_,rfl,?_,rfl⟩;unfold Ec;rw [if_pos h];rfl
 ·refine qq2 ?_;refine Wk.Wl.ahY rfl rfl (fun h'=>?_) (fun h'=>?_)
  ·refine qq3 ?_;refine ak rfl rfl ⟨_,rfl,?_,rfl⟩;unfold Ec;rw [if_neg h,if_pos h'];rfl
  ·refine qq7 ?_;refine ak rfl rfl ⟨_,rfl,?_,rfl⟩;unfold Ec;rw [if_neg h,if_neg h'];rfl
def yK (a b:Int):Int:=if a<b then-1 else if b<a then 1 else 0
theorem Gh {w:World} {a:Int}:Calls prog 95 #[.int .u8 a] w (Ret fun r w'=>r=.bool false/\w=w'):=by
 refine nM func95 rfl ntmps95 rfl ?_;(repeat' (first|refine qq5 ?_|(refine aa4 (fun _=>?_) (fun _=>?_)<;>(first|(exfalso;omega)|skip))));exact ak rfl rfl ⟨_,rfl,rfl,rfl⟩
theorem yL {w:World} {a b:Int}:Calls prog 65 #[.int .u8 a,.int .u8 b] w (Ret fun r w'=>r=vi (yK a b)/\w=w'):=by
 refine nM func65 rfl ntmps65 rfl ?_;refine qq4 ?_;refine aj Gh rfl ?_;rintro _ _ ⟨rfl,rfl⟩;refine qq4 ?_;refine aj Gh rfl ?_;rintro _ _ ⟨rfl,rfl⟩;(repeat' (first|refine qq4 ?_|refine aa2 (fun _=>?_) (fun _=>?_)|refine aT rfl rfl (fun _=>?_) (fun _=>?_)))
 ·refine ak rfl rfl ⟨_,rfl,?_,rfl⟩;unfold yK;rw [if_pos (by assumption)];rfl
 ·refine ak rfl rfl ⟨_,rfl,?_,rfl⟩;unfold yK;rw [if_neg (by omega),if_pos (by omega)];rfl
 ·refine ak rfl rfl ⟨_,rfl,?_,rfl⟩;unfold yK;rw [if_neg (by omega),if_neg (by omega)];rfl
theorem Ee {w:World} {a:Int}:Calls prog 197 #[.int .u64 a] w (Ret fun r w'=>r=.bool false/\w=w'):=by
 refine nM func197 rfl ntmps197 rfl ?_;(repeat' (first|refine qq5 ?_|(refine aa4 (fun _=>?_) (fun _=>?_)<;>(first|(exfalso;omega)|skip))));exact ak rfl rfl ⟨_,rfl,rfl,rfl⟩
theorem A8 {w:World} {a b:Int}:Calls prog 181 #[.int .u64 a,.int .u64 b] w (Ret fun r w'=>r=vi (yK a b)/\w=w'):=by
 refine nM func181 rfl ntmps181 rfl ?_;refine qq4 ?_;refine aj Ee rfl ?_;rintro _ _ ⟨rfl,rfl⟩;refine qq4 ?_;refine aj Ee rfl ?_;rintro _ _ ⟨rfl,rfl⟩;(repeat' (first|refine qq4 ?_|refine aa2 (fun _=>?_) (fun _=>?_)|refine aT rfl rfl (fun _=>?_) (fun _=>?_)))
 ·refine ak rfl rfl ⟨_,rfl,?_,rfl⟩;unfold yK;rw [if_pos (by assumption)];rfl
 ·refine ak rfl rfl ⟨_,rfl,?_,rfl⟩;unfold yK;rw [if_neg (by omega),if_pos (by omega)];rfl
 ·refine ak rfl rfl ⟨_,rfl,?_,rfl⟩;unfold yK;rw [if_neg (by omega),if_neg (by omega)];rfl
def orM:List Int->Int
 | []=>0
 |x::r=>if x=0 then orM r else x
theorem Lj {Pb:Nat->Prop} {w:World} {v:Value} {xs:List Int} (h:RdS (Wk.one vi) 1 Pb w v xs):
 Calls prog 64 #[v] w (Ret fun r w'=>r=vi (orM xs)/\w=w'):=by
 obtain ⟨a,cap,rfl,hc1,hc2⟩:=h.form;simp only [maxLen] at hc2;refine nM func64 rfl ntmps64 rfl ?_;refine qq2 ?_;refine aA (σ:=Nat) (fun i=>[(3,vi 0),(6,.slice a xs.length cap),(7,vi xs.length),(8,vi i)]) (fun i w'=>i<=xs.length/\orM xs=orM (xs.drop i)/\w=w') (fun i=>xs.length-i) 0 (sl rfl) ⟨anq _,rfl,rfl⟩ ?_;rintro i G _ ⟨hi,hgo,rfl⟩;simp only [pq];(repeat' (first|refine qq4 ?_|refine aa2 (fun _=>?_) (fun _=>?_)))
 ·obtain ⟨x,hx⟩:=nT xs (k:=i) (by omega);rw [drop_cons hx] at hgo;simp only [orM] at hgo;refine aZ h rfl rfl (by omega) hx fun b o hcell=>?_;refine ah (u:=vi x) rfl hcell ?_;(repeat' (first|refine qq2 ?_|refine aa4 (fun _=>?_) (fun _=>?_)))
  ·rw [if_neg (by assumption)] at hgo;rw [hgo];exact ak rfl rfl ⟨_,rfl,rfl,rfl⟩
  ·rw [if_pos (by omega)] at hgo;exact ax (i+1) (sl rfl) ⟨by omega,hgo,rfl⟩ (by omega)
 ·obtain rfl:i=xs.length:=by omega
  rw [aoG] at hgo;rw [hgo];exact ak rfl rfl ⟨_,rfl,rfl,rfl⟩
theorem Tc (lv:Nat->Int) (pt:Nat->Nm) (a b:Nat):orM [yK (lv a) (lv b),Ec (pt a) (pt b)]=qY lv pt a b:=by
 unfold qY yK Ec;simp only [orM];split
 ·rfl
 ·split
  ·rfl
  ·rw [if_pos rfl];split
   ·rfl
   ·split<;>rfl
end Go.Proofs.YtfbnfhhmiiahnaaGreatDoor
namespace Go.Proofs.YtfbnfhhmiiahnaaGreatDoor.Wk
open Go Go.RowKit
section
variable {P:Program} {n:Nat} {ds:List Deferred} {Q:Po} {F:Fr} {w w':World} {ops rest:List Oper} {d:Nat} {ty:TypeId} {pos:String} {aft:Array Edge}
theorem mO {x:Operand} {t:TypeId} {s:List UInt8} [ht:Und P t .string] (hx:ev n F x=vs s) (c: ∀w',w'.heap[w.heap.size]? =some (.stringIter ⟨s.toArray⟩ 0)->New w w'->w'.heap.size=w.heap.size+1->Wl P n ds Q ops rest (upd F d (.pointer (some ⟨w.heap.size,0,none⟩))) w'):
 Wl P n ds Q ops (⟨some d,.range t x,ty,pos,aft,none⟩::rest) F w:=by
 refine Wl.val (w':=w.alloc (.stringIter ⟨s.toArray⟩ 0)) (v:=.pointer (some ⟨w.heap.size,0,none⟩)) ?_ (c _ (heap_alloc_new w _) (Chg.alloc _ _ _) (by simp));simp [execOp,hx,Instr.range,run_underlying ht.h]
theorem Wl.ac4 {x:Operand} {k q:Nat} {s:List UInt8} (hx:ev n F x=.pointer (some ⟨k,0,none⟩)) (hk:w.heap[k]? =some (.stringIter ⟨s.toArray⟩ q)) (hq:q<s.length)
 (c: ∀w',w'.heap[k]? =some (.stringIter ⟨s.toArray⟩ (q+(Utf8.decode ⟨s.toArray⟩ q).2))->Chg (fun b=>b=k) w w'->Wl P n ds Q ops rest (upd F d (.tuple #[.bool true,vi q,.int .i32 (Utf8.decode ⟨s.toArray⟩ q).1])) w'):Wl P n ds Q ops (⟨some d,.next x true,ty,pos,aft,none⟩::rest) F w:=by
 have hr:=Go.Lib.run_next_any_at (P:=P) w k ⟨s.toArray⟩ q ty hk (by simpa [ByteArray.size] using hq);refine Wl.val (w':=w.iterAt k ⟨s.toArray⟩ (q+(Utf8.decode ⟨s.toArray⟩ q).2)) (v:=.tuple #[.bool true,vi q,.int .i32 (Utf8.decode ⟨s.toArray⟩ q).1]) ?_ (c _ (Go.Lib.iterAt_heap w k _ q _ hk) ⟨rfl,rfl,rfl,by simp [World.iterAt],fun j _ hj=>Go.Lib.iterAt_other w k j _ _ hj⟩);simp only [execOp,hx,Sem.run_bind,hr,Result.andThen_ok,Sem.run_pure]
theorem Wl.ac5 {x:Operand} {k q:Nat} {s:List UInt8} (hx:ev n F x=.pointer (some ⟨k,0,none⟩)) (hk:w.heap[k]? =some (.stringIter ⟨s.toArray⟩ q)) (hq:s.length<=q)
 (c:Wl P n ds Q ops rest (upd F d (.tuple #[.bool false])) w):Wl P n ds Q ops (⟨some d,.next x true,ty,pos,aft,none⟩::rest) F w:=by
 have hr:=Go.Lib.run_next_end_at (P:=P) w k ⟨s.toArray⟩ q ty hk (by simp [ByteArray.size];omega);refine Wl.val (w':=w) (v:=.tuple #[.bool false]) ?_ c;simp only [execOp,hx,Sem.run_bind,hr,Result.andThen_ok,Sem.run_pure]
theorem mP {x:Operand} {t t':TypeId} {k:IntKind} {r:Int} {u:TypeDesc} [ht:Und P t u] [ht':Und P t' .string] (hu: ∃k,u=.int k) (hx:ev n F x=.int k r)
 (c:Wl P n ds Q ops rest (upd F d (vs (Utf8.encode r).data.toList)) w):Wl P n ds Q ops (⟨some d,.convert t t' x,ty,pos,aft,none⟩::rest) F w:=by
 obtain ⟨k',rfl⟩:=hu;refine Wl.val ?_ c;have:(⟨(Utf8.encode r).data.toList.toArray⟩:ByteArray)=Utf8.encode r:=by apply ByteArray.ext;simp
 simp only [execOp,hx,Sem.run_bind,convert,run_underlying ht.h,run_underlying ht'.h,Result.andThen_ok,Conv.intToString,Sem.run_pure,vs,this]
end
end Go.Proofs.YtfbnfhhmiiahnaaGreatDoor.Wk
namespace Go.Proofs.YtfbnfhhmiiahnaaGreatDoor
open Go Wk
open Go.RowKit (Below)
attribute [local irreducible] Go.Calls
theorem EW {l:List UInt8} {c:UInt8}:0<=Lib.indexByte l c↔l.contains c=true:=by
 constructor
 ·intro h;obtain ⟨o,ho⟩:=ane h;exact List.contains_iff_mem.2 (aop (Lib.indexByte_some ho).1)
 ·intro h;have hge:=Lib.indexByte_ge l c;rcases apg (Lib.indexByte l c) 0 with h0|h0
  ·obtain ⟨k,hk⟩:=List.mem_iff_getElem?.1 (List.contains_iff_mem.1 h);exact absurd hk (Lib.indexByte_none (show Lib.indexByte l c= -1 by omega) k)
  ·exact h0
def sg8:List UInt8:=[44,46,95,43,45,64,35,63]
theorem EX:sg8=[44,46,95,43,45,64,35,63]:=rfl
theorem N9: ∀c∈signs,c.toNat<128:=by rw [D5];decide
theorem BI: ∀c∈sg8,c.toNat<128:=by rw [EX];decide
theorem Qw: ∀q<sg8.length,Utf8.decode ⟨sg8.toArray⟩ q=((sg8.getD q 0).toNat,1):=by
 intro q hq;rw [Lib.decode_N];refine Lib.decodeN_ascii _ _ _ _ _ ?_;have:(sg8.getD q 0)∈sg8:=by rw [an7,anv hq];exact aph hq
 exact BI _ this
theorem Ip {w:World} {r:Int}:Calls prog 171 #[.int .i32 r] w (Ret fun v w'=>v=.bool (Lib.validRune r)/\w=w'):=by
 refine (lG r w).mono ?_;rintro e w' ⟨rfl,rfl⟩;exact ⟨_,rfl,rfl,rfl⟩
theorem UO (c:Nat) (hc:128<=c) (e:ByteArray) (he:e=if c<0x80 then ⟨#[aoD c]⟩ else if c<0x800 then ⟨#[aoD (0xC0+c / 64),aoD (0x80+c % 64)]⟩
 else if c<0x10000 then ⟨#[aoD (0xE0+c / 4096),aoD (0x80+c / 64 % 64),aoD (0x80+c % 64)]⟩ else ⟨#[aoD (0xF0+c / 262144),aoD (0x80+c / 4096 % 64),aoD (0x80+c / 64 % 64),aoD (0x80+c % 64)]⟩):
 ∃l k,e.data.toList=l++ [k]/\128<=k.toNat/\1<=l.length/\l.length<=3:=by
 have hb: ∀m,128<=(aoD (0x80+m % 64)).toNat:=fun m=>by rw [aoW];omega
 rw [if_neg (by omega)] at he;split at he
 ·exact ⟨[_],_,by rw [he];rfl,hb c,by simp,by simp⟩
 ·split at he
  ·exact ⟨[_,_],_,by rw [he];rfl,hb c,by simp,by simp⟩
  ·exact ⟨[_,_,_],_,by rw [he];rfl,hb c,by simp,by simp⟩
theorem Oa {r:Nat} (h0:128<=r): ∃l c,(Utf8.encode (r:Int)).data.toList=l++ [c]/\128<=c.toNat/\1<=l.length/\l.length<=3:=by
 refine UO (if Utf8.valid (r:Int)=true then ((r:Int)).toNat else Utf8.runeError) ?_ _ rfl;split
 ·simpa using h0
 ·unfold Utf8.runeError;omega
theorem ac6 {r:Nat} (h:r<256):IntKind.u8.wrap (r:Int)=((aoD r).toNat:Int):=by
 rw [aoW,IntKind.wrap_u8];omega
set_option maxRecDepth 20000 in
theorem Iq {w:World} {r:Nat} (hr:r<=1114111):
 Calls prog 159 #[vs sg8,.int .i32 r] w (Ret fun v w'=>(∃k,v=vi k/\(0<=k↔r<128/\sg8.contains (aoD r)=true))/\New w w'):=by
 have hlen:sg8.length=8:=by rw [EX];rfl
 refine nM func159 rfl ntmps159 rfl ?_;(repeat' (first|refine qq5 ?_|refine aa2 (fun _=>?_) (fun _=>?_)|(refine dR rfl rfl (fun _=>?_) (fun _=>?_)<;>(first|(exfalso;omega)|skip))|refine bJ rfl rfl (fun _=>?_) (fun _=>?_)))
 ·refine aj (uU (l:=sg8) (c:=aoD r)) (by rw [<-ac6 (by omega)];rfl) ?_;rintro _ _ ⟨rfl,rfl⟩;refine qq7 ?_;refine ak rfl rfl ⟨_,rfl,⟨_,rfl,?_⟩,ay _ _⟩;rw [EW];exact ⟨fun h=>⟨by omega,h⟩,fun h=>h.2⟩
 ·refine mO rfl fun w1 h1 n1 s1=>?_;refine qq6 ?_;refine aA (σ:=Nat) (fun q=>[(0,vs sg8),(1,.int .i32 r),(175,.pointer (some ⟨w.heap.size,0,none⟩))]) (fun q w'=>q<=sg8.length/\w'.heap[w.heap.size]? =some (.stringIter ⟨sg8.toArray⟩ q)/\New w w') (fun q=>sg8.length-q) 0 (sl rfl) ⟨anq _,h1,n1⟩ ?_;rintro q G w2 ⟨hq,h2,n2⟩;simp only [pq];by_cases hlt:q<sg8.length
  ·have hd:=Qw q hlt;have ha:=BI _ (aph hlt);have hg:(sg8.getD q 0)=sg8[q]:=by rw [an7,anv hlt];rfl
   refine qq4 ?_;refine Wl.ac4 rfl h2 hlt fun w3 h3 c3=>?_;rw [hd,hg] at h3 ⊢;(repeat' (first|refine qq6 ?_|(refine bJ rfl rfl (fun _=>?_) (fun _=>?_)<;>(first|(exfalso;omega)|skip))));exact ax (q+1) (sl rfl) ⟨by omega,h3,Chg.trans n2 c3 fun b hb e=>by omega⟩ (by omega)
  ·refine qq4 ?_;refine Wl.ac5 rfl h2 (by omega) ?_;refine Uu ?_;exact ak rfl rfl ⟨_,rfl,⟨-1,rfl,by omega⟩,n2⟩
 ·have h128:128<=r:=by omega
  refine aj Ip rfl ?_;rintro _ _ ⟨rfl,rfl⟩;cases hv:Lib.validRune (r:Int) with
  |false=>refine qq3 ?_;exact ak rfl rfl ⟨_,rfl,⟨-1,rfl,by omega⟩,ay _ _⟩
  |true=>
   refine qq2 ?_;refine mP ⟨_,rfl⟩ rfl ?_;obtain ⟨el,c,hel,hc,hl1,hl2⟩:=Oa h128;rw [hel];clear hel hv;have hlen2:(el++ [c]).length=el.length+1:=by simp
   have hcn:(sg8.drop (el.length+1)).contains c=false:=by rw [an6];intro h;have:=BI c (List.mem_of_mem_drop (List.contains_iff_mem.1 h));omega
   refine qq4 ?_;refine aA (σ:=Unit) (fun _=>[(0,vs sg8),(7,vs (el++ [c])),(8,vi (((el++ [c]).length:Int)-1)),(9,vi (((el++ [c]).length:Int)-1))]) (fun _ w'=>w'=w) (fun _=>0) () ⟨rfl,rfl,rfl,rfl,trivial⟩ rfl ?_;rintro _ G _ rfl;simp only [pq];obtain ⟨x,hx⟩:=nT sg8 (k:=el.length) (by omega);have hx2:=BI x (aop hx);have hcl:(el++ [c])[el.length]? =some c:=by rw [List.getElem?_append_right (aap _)];simp
   have e1:(((el++ [c]).length:Int)-1).toNat=el.length:=by omega
   (repeat' (first|refine qq4 ?_|(refine aa2 (fun _=>?_) (fun _=>?_)<;>(first|(exfalso;omega)|skip))));refine fF rfl (by kernel_rfl) ?_;(repeat' (refine aa3 ?_));refine jl (l:=sg8) rfl rfl (by omega) (c:=x) (by rw [e1];exact hx) ?_;(repeat' (refine aa3 ?_));refine jl (l:=el++ [c]) rfl rfl (by omega) (c:=c) (by rw [e1];exact hcl) ?_;(repeat' (first|refine af ?_|(refine Wq.neq rfl rfl (fun _=>?_) (fun _=>?_)<;>(first|(exfalso;omega)|skip))));intro w1 n1;refine qq4 ?_;refine fF rfl (by kernel_rfl) ?_;(repeat' (first|refine aa3 ?_|refine Wq.add rfl rfl (by omega) (by omega) ?_));refine kX (l:=sg8) rfl rfl (by omega) (by omega) ?_;rw [show (((el++ [c]).length:Int)-1+1).toNat=el.length+1 by omega];(repeat' (refine aa3 ?_));refine jl (l:=el++ [c]) rfl rfl (by omega) (c:=c) (by rw [e1];exact hcl) ?_;refine Wq.call (v:=vi (Lib.indexByte (sg8.drop (el.length+1)) c)) (fun w' hw=>(uU (l:=sg8.drop (el.length+1)) (c:=c)).mono ?_) rfl ?_
   ·rintro _ w'' ⟨r',rfl,rfl,rfl⟩;exact ⟨rfl,hw⟩
   (repeat' (first|refine fA (by conv=>{lhs;whnf}) ?_|refine af ?_));intro w2 n2;have hneg:Lib.indexByte (sg8.drop (el.length+1)) c<0:=by
    rcases apg (Lib.indexByte (sg8.drop (el.length+1)) c) 0 with h|h
    ·exact h
    ·rw [EW,hcn] at h;cases h
   (repeat' (first|refine qq3 ?_|(refine aa2 (fun _=>?_) (fun _=>?_)<;>(first|(exfalso;omega)|skip))));exact ak rfl rfl ⟨_,rfl,⟨-1,rfl,by omega⟩,New.trans n1 n2⟩
def Jv (r:Nat):Bool:=decide (r<128)&&sg8.contains (aoD r)
theorem uZ {w:World} {r:Nat} (hr:r<=1114111):
 Calls prog 138 #[vs sg8,.int .i32 r] w (Ret fun v w'=>v=.bool (Jv r)/\New w w'):=by
 refine nM func138 rfl ntmps138 rfl ?_;refine qq4 ?_;refine aj (Iq hr) rfl ?_;rintro _ w1 ⟨⟨k,rfl,hk⟩,n1⟩;unfold Jv;(repeat' (first|refine qq3 ?_|refine aU rfl rfl (fun _=>?_) (fun _=>?_)))
 ·have h:=hk.1 (by omega);refine ak rfl rfl ⟨_,rfl,?_,n1⟩;rw [decide_eq_true h.1,h.2];rfl
 ·have h: ¬(r<128/\sg8.contains (aoD r)=true):=fun e=>by have:=hk.2 e;omega
  refine ak rfl rfl ⟨_,rfl,?_,n1⟩;by_cases h1:r<128
  ·have h2:sg8.contains (aoD r)=false:=by rw [an6];exact fun e=>h ⟨h1,e⟩
   rw [h2,aoX];rfl
  ·rw [decide_eq_false h1];rfl
def sgB (r:Nat):Bool:=decide (r<128)&&signs.contains (aoD r)
theorem Td: ∀r,r<128->sgB r=(decide (97<=r/\r<=122)||decide (48<=r/\r<=57)||Jv r):=by
 unfold sgB Jv;rw [D5,EX];decide+kernel
theorem Tf {r:Nat} (h:128<=r):sgB r=false/\Jv r=false:=by
 unfold sgB Jv;rw [decide_eq_false (by omega)];exact ⟨rfl,rfl⟩
theorem WZ {r:Nat} (h:97<=r/\r<=122∨48<=r/\r<=57):sgB r=true:=by
 rw [Td r (by omega)];rcases h with h|h
 ·rw [decide_eq_true h];rfl
 ·rw [decide_eq_true h,apj];rfl
theorem Ll {r:Nat} (h1: ¬(97<=r/\r<=122)) (h2: ¬(48<=r/\r<=57)):sgB r=Jv r:=by
 by_cases h:r<128
 ·rw [Td r h,decide_eq_false h1,decide_eq_false h2];rfl
 ·rw [(Tf (by omega)).1,(Tf (by omega)).2]
theorem Xa {w:World} {r:Nat} (hr:r<=1114111):
 Calls prog 137 #[.int .i32 r] w (Ret fun v w'=>v=.bool (!sgB r)/\New w w'):=by
 refine nM func137 rfl ntmps137 rfl ?_;(repeat' (first|refine qq3 ?_|(refine dR rfl rfl (fun _=>?_) (fun _=>?_)<;>(first|(exfalso;omega)|skip))|(refine aU rfl rfl (fun _=>?_) (fun _=>?_)<;>(first|(exfalso;omega)|skip))))
 rotate_left 3
 ·refine aj (uZ hr) (by unfold vs;rw [EX];rfl) ?_;rintro _ w1 ⟨rfl,n1⟩;rw [Ll (by omega) (by omega)];cases Jv r
  all_goals
   refine qq3 ?_;exact ak rfl rfl ⟨_,rfl,rfl,n1⟩
 ·refine aj (uZ hr) (by unfold vs;rw [EX];rfl) ?_;rintro _ w1 ⟨rfl,n1⟩;rw [Ll (by omega) (by omega)];cases Jv r
  all_goals
   refine qq3 ?_;exact ak rfl rfl ⟨_,rfl,rfl,n1⟩
 ·exact ak rfl rfl ⟨_,rfl,by rw [WZ (.inl (by omega))];rfl,ay _ _⟩
 ·refine aj (uZ hr) (by unfold vs;rw [EX];rfl) ?_;rintro _ w1 ⟨rfl,n1⟩;rw [Ll (by omega) (by omega)];cases Jv r
  all_goals
   refine qq3 ?_;exact ak rfl rfl ⟨_,rfl,rfl,n1⟩
 ·exact ak rfl rfl ⟨_,rfl,by rw [WZ (.inr (by omega))];rfl,ay _ _⟩
theorem Xb {n b0 b1 b2 b3:Nat} (h:128<=b0):128<=(Lib.decodeN n b0 b1 b2 b3).1:=by
 unfold Lib.decodeN;rw [if_neg (by omega)]
 repeat' split
 all_goals (dsimp only;omega)
theorem J6 (s:List UInt8): ∀(f q:Nat),s.length<=q+f->(Lib.idxFuncFrom (fun r=> !sgB r) true ⟨s.toArray⟩ f q<0↔(s.drop q).all (fun c=>signs.contains c)=true)
 |0,q,h=>by rw [aoO (by omega)];simp [Lib.idxFuncFrom]
 |f+1,q,h=>by
  unfold Lib.idxFuncFrom;by_cases hq:q<s.length
  ·rw [if_pos (by simpa [ByteArray.size] using hq)];obtain ⟨c,hc⟩:=nT s hq;have hg:s.getD q 0=c:=by rw [an7,hc];rfl
   have hd:Utf8.decode ⟨s.toArray⟩ q=Lib.decodeN (s.length-q) c.toNat (s.getD (q+1) 0).toNat (s.getD (q+2) 0).toNat (s.getD (q+3) 0).toNat:=by have:=Lib.decode_N ⟨s.toArray⟩ q;simp only [hg] at this;exact this
   rw [hd,drop_cons hc,apc];by_cases h128:c.toNat<128
   ·rw [Lib.decodeN_ascii _ _ _ _ _ h128];have hs:sgB c.toNat=signs.contains c:=by unfold sgB;rw [decide_eq_true h128,aoE];congr 1;apply UInt8.toNat_inj.1;rw [aoW];omega
    cases hsc:signs.contains c with
    |true=>rw [if_neg (by rw [hs,hsc];simp),aoE];exact J6 s f (q+1) (by omega)
    |false=>rw [if_pos (by rw [hs,hsc];rfl),aoF];exact ⟨fun e=>by omega,fun e=>by cases e⟩
   ·have hbig:=Xb (n:=s.length-q) (b0:=c.toNat) (b1:=(s.getD (q+1) 0).toNat) (b2:=(s.getD (q+2) 0).toNat) (b3:=(s.getD (q+3) 0).toNat) (by omega);have hs:sgB (Lib.decodeN (s.length-q) c.toNat (s.getD (q+1) 0).toNat (s.getD (q+2) 0).toNat (s.getD (q+3) 0).toNat).1=false:=by unfold sgB;rw [decide_eq_false (by omega),aoF]
    have hsc:signs.contains c=false:=by rw [an6];intro e;exact h128 (N9 c (List.contains_iff_mem.1 e))
    rw [if_pos (by rw [hs];rfl),hsc,aoF];exact ⟨fun e=>by omega,fun e=>by cases e⟩
  ·rw [if_neg (by simpa [ByteArray.size] using hq),aoO (by omega)];simp
theorem EY {w:World} {s:List UInt8}:Calls prog 111 #[vs s] w (Ret fun r w'=>r=.bool (ql s)/\New w w'):=by
 refine nM func111 rfl ntmps111 rfl ?_;unfold ql;(repeat' (first|refine qq5 ?_|refine dR rfl rfl (fun _=>?_) (fun _=>?_)|refine iy rfl rfl (fun _=>?_) (fun _=>?_)))
 ·rename_i hne hle
  refine bP (dst:=some 12) (first:= #[]) (cap:= #[]) (vs:=[vs s,.func (.func 137) #[] #[]]) (φ:=fun r w'=>r=vi (Lib.idxFunc (fun r=> !sgB r) true ⟨s.toArray⟩)/\New w w') rfl ?_ rfl ?_
  ·have eg: ∀args w,(callFunc 137 args).run prog w=.ok (.enter 137 args) w:=fun args w=>qF inferInstance args;refine (lY 137 #[] eg (fun r=> !sgB r) ⟨s.toArray⟩ w ?_).mono ?_
   ·intro W x hx hb;refine (Xa (w:=W) hx).mono ?_;rintro e w' ⟨v,rfl,rfl,n⟩;exact ⟨rfl,n.below⟩
   ·rintro e w' ⟨rfl,hb⟩;exact ⟨_,rfl,rfl,jH hb⟩
  ·rintro _ w1 ⟨rfl,n1⟩;have hi:=J6 s s.length 0 (by omega);rw [anK] at hi;have hd:decide (s≠ []/\s.length<=31)=true:=decide_eq_true ⟨hne,by omega⟩;have hf:Lib.idxFunc (fun r=> !sgB r) true ⟨s.toArray⟩=Lib.idxFuncFrom (fun r=> !sgB r) true ⟨s.toArray⟩ s.length 0:=rfl;rw [hd,aoE];rw [hf];show Wl _ _ _ _ _ _ (upd _ 12 _) _;(repeat' (first|refine qq3 ?_|refine aa2 (fun _=>?_) (fun _=>?_)))
   ·rw [hi.1 (by assumption)];exact ak rfl rfl ⟨_,rfl,rfl,n1⟩
   ·have:(s.all fun c=>signs.contains c)=false:=by rw [an6];intro e;have:=hi.2 e;omega
    rw [this];exact ak rfl rfl ⟨_,rfl,rfl,n1⟩
 ·rw [decide_eq_false (by omega)];exact ak rfl rfl ⟨_,rfl,rfl,ay _ _⟩
 ·rename_i h
  rw [decide_eq_false (by simp [h])];exact ak rfl rfl ⟨_,rfl,rfl,ay _ _⟩
def cdC (c:Cd) (v:Value):List Value:=[vs c.name,vs c.family,.int .u8 c.level,v,.int .i8 c.score,vs c.vY,.int .i16 c.entry]
def rCd:Rel Cd:=fun Pb w c cs=> ∃v,cs=cdC c v/\RdS (Wk.one vs) 1 Pb w v c.compat
theorem qP:Stable rCd:=fun _ _ _ _ _ hk ⟨v,e,h⟩=>⟨v,e,h.keep (nZ _) hk⟩
theorem Qy:CO rCd:=fun _ _ _ _ _ hP ⟨v,e,h⟩=>⟨v,e,h.mono (nV _) hP⟩
theorem Xc:qH rCd 7:=⟨qP,Qy,fun Pb w x cs ⟨v,e,h⟩ _ c hc=>by
 subst e;obtain ⟨a,cap,rfl,_⟩:=h.form;simp [cdC] at hc;rcases hc with rfl|rfl|rfl|rfl|rfl|rfl|rfl<;>rfl⟩
theorem Ob {Pb:Nat->Prop} {w:World} {v:Value} {xs:List Nm} {s:Nm} (h:RdS (Wk.one vs) 1 Pb w v xs):
 Calls prog 54 #[v,vs s] w (Ret fun r w'=>(∃k,r=vi k/\(0<=k↔xs.contains s=true))/\w=w'):=by
 obtain ⟨a,cap,rfl,hc1,hc2⟩:=h.form;simp only [maxLen] at hc2;refine nM func54 rfl ntmps54 rfl ?_;refine qq2 ?_;refine aA (σ:=Nat) (fun i=>[(0,.slice a xs.length cap),(1,vs s),(7,vi xs.length),(8,vi i)]) (fun i w'=>i<=xs.length/\xs.contains s=(xs.drop i).contains s/\w=w') (fun i=>xs.length-i) 0 (sl rfl) ⟨anq _,by simp,rfl⟩ ?_;rintro i G _ ⟨hi,hv,rfl⟩;simp only [pq];(repeat' (first|refine qq4 ?_|refine aa2 (fun _=>?_) (fun _=>?_)))
 ·obtain ⟨x,hx⟩:=nT xs (k:=i) (by omega);rw [drop_cons hx,List.contains_cons] at hv;refine aZ h rfl rfl (by omega) hx fun b o hcell=>?_;refine ah (u:=vs x) rfl hcell ?_;(repeat' (first|refine qq2 ?_|refine eU rfl rfl (fun _=>?_) (fun _=>?_)))
  ·refine ak rfl rfl ⟨_,rfl,⟨_,rfl,?_⟩,rfl⟩
   rename_i e
   rw [hv,beq_iff_eq.2 e,Bool.true_or];exact ⟨fun _=>rfl,fun _=>by omega⟩
  ·rename_i e
   have:(s == x)=false:=beq_false_of_ne e;exact ax (i+1) (sl rfl) ⟨by omega,by rw [hv,this,Bool.false_or],rfl⟩ (by omega)
 ·obtain rfl:i=xs.length:=by omega
  rw [aoG] at hv;refine ak rfl rfl ⟨_,rfl,⟨-1,rfl,?_⟩,rfl⟩;rw [hv];exact ⟨fun e=>by omega,fun e=>by simp at e⟩
theorem xC {Pb:Nat->Prop} {w:World} {v:Value} {xs:List Nm} {s:Nm} (h:RdS (Wk.one vs) 1 Pb w v xs):
 Calls prog 34 #[v,vs s] w (Ret fun r w'=>r=.bool (xs.contains s)/\w=w'):=by
 refine nM func34 rfl ntmps34 rfl ?_;refine qq4 ?_;refine aj (Ob (s:=s) h) rfl ?_;rintro _ _ ⟨⟨k,rfl,hk⟩,rfl⟩;(repeat' (first|refine qq3 ?_|refine aU rfl rfl (fun _=>?_) (fun _=>?_)))
 ·rw [hk.1 (by omega)];exact ak rfl rfl ⟨_,rfl,rfl,rfl⟩
 ·have:xs.contains s=false:=by rw [an6];exact fun e=>by have:=hk.2 e;omega
  rw [this];exact ak rfl rfl ⟨_,rfl,rfl,rfl⟩
theorem Oc {c:Cd} (h:KY c=true):ql c.name=true/\ql c.family=true/\(c.vY=[]∨ql c.vY=true)/\c.level<=4/\ -100<=c.score/\c.score<=100/\ -1<=c.entry/\c.entry<=47/\0<c.compat.length/\c.compat.length<=8/\CW c.compat 0 c.compat=true:=by
 unfold KY at h;simp only [ann,decide_eq_true_eq,Bool.or_eq_true] at h;exact ⟨h.1,h.2.1,h.2.2.1,h.2.2.2.1,h.2.2.2.2.1.1,h.2.2.2.2.1.2,h.2.2.2.2.2.1.1,h.2.2.2.2.2.1.2,h.2.2.2.2.2.2.1.1,h.2.2.2.2.2.2.1.2,h.2.2.2.2.2.2.2⟩
theorem Y2 {c:Cd} (h1:ql c.name=true) (h2:ql c.family=true) (h3:c.vY=[]∨ql c.vY=true) (h4:c.level<=4/\ -100<=c.score/\c.score<=100/\ -1<=c.entry/\c.entry<=47/\0<c.compat.length/\c.compat.length<=8):KY c=CW c.compat 0 c.compat:=by
 unfold KY;rw [h1,h2,decide_eq_true h4.1,decide_eq_true (p:= -100<=c.score/\c.score<=100) ⟨h4.2.1,h4.2.2.1⟩,decide_eq_true (p:= -1<=c.entry/\c.entry<=47) ⟨h4.2.2.2.1,h4.2.2.2.2.1⟩,decide_eq_true (p:=0<c.compat.length/\c.compat.length<=8) h4.2.2.2.2.2];have:(decide (c.vY=[])||ql c.vY)=true:=by
  rcases h3 with h3|h3
  ·rw [decide_eq_true h3];rfl
  ·rw [h3,apj]
 rw [this];rfl
theorem sO {c:Cd} (h: ¬(ql c.name=true/\ql c.family=true/\(c.vY=[]∨ql c.vY=true)/\c.level<=4/\ -100<=c.score/\c.score<=100/\ -1<=c.entry/\c.entry<=47/\0<c.compat.length/\c.compat.length<=8)):KY c=false:=by
 rw [an6];intro e;obtain ⟨h1,h2,h3,h4,h5,h6,h7,h8,h9,h10,_⟩:=Oc e;exact h ⟨h1,h2,h3,h4,h5,h6,h7,h8,h9,h10⟩
theorem UQ {Pb:Nat->Prop} {w:World} {v:Value} {c:Cd} (h:RdS (Wk.one vs) 1 Pb w v c.compat):
 Calls prog 82 #[.agg (cdC c v).toArray] w (Ret fun r w'=>r=.bool (KY c)/\New w w'):=by
 obtain ⟨a,cap,rfl,hc1,hc2⟩:=h.form;simp only [maxLen] at hc2;refine nM func82 rfl ntmps82 rfl ?_;refine aN ?_;(repeat' (refine aQ ?_));refine Wl.box rfl fun w1 b1 n1 s1=>?_;replace b1:Bk w1 w.heap.size 79 (cdC c (.slice a c.compat.length cap)):=b1;(repeat' (first|refine aa7 ?_|refine ai ?_|refine aP ?_));refine eP (fun F W=>agrees F [(1,.pointer (some ⟨w.heap.size,0,none⟩))]/\Bk W w.heap.size 79 (cdC c (.slice a c.compat.length cap))/\New w W/\ql c.name=true/\ql c.family=true/\(c.vY=[]∨ql c.vY=true)/\c.level<=4/\ -100<=c.score/\c.score<=100/\ -1<=c.entry/\c.entry<=47) ?_ ?_
 ·(repeat' (first|refine aN ?_|refine aQ ?_|refine aa5 ?_));refine ah (u:=vs c.name) rfl (b1.cell (o:=0) rfl) ?_;refine aj (EY (s:=c.name)) rfl ?_;rintro _ w2 ⟨rfl,n2⟩;replace b1:=b1.chg n2 id;replace n2:=New.trans n1 n2;clear n1;cases h1:ql c.name
  ·(repeat' (first|refine aa1 ?_|refine aa7 ?_|refine ai ?_|refine dH rfl rfl ?_|refine iw rfl ?_|refine dK rfl (by conv=>{lhs;whnf}) ?_|refine dw rfl ?_|refine aP ?_|refine aN ?_|refine aQ ?_|refine dP ?_|refine bF rfl ?_|refine fM ?_));rw [sO (fun e=>by rw [h1] at e;cases e.1)];exact ak rfl rfl ⟨_,rfl,rfl,n2⟩
  (repeat' (first|refine aa1 ?_|refine aO rfl rfl ?_|refine dw rfl ?_|refine aa5 ?_));refine ah (u:=vs c.family) rfl (b1.cell (o:=1) rfl) ?_;refine aO rfl rfl ?_;refine aj (EY (s:=c.family)) rfl ?_;rintro _ w3 ⟨rfl,n3⟩;replace b1:=b1.chg n3 id;replace n3:=New.trans n2 n3;clear n2;cases h2:ql c.family
  ·(repeat' (first|refine aa1 ?_|refine aa7 ?_|refine ai ?_|refine aO rfl rfl ?_|refine dH rfl rfl ?_|refine iw rfl ?_|refine dK rfl (by conv=>{lhs;whnf}) ?_|refine xO ?_|refine dw rfl ?_|refine aP ?_|refine aN ?_|refine aQ ?_|refine dP ?_|refine bF rfl ?_|refine fM ?_));rw [sO (fun e=>by rw [h2] at e;cases e.2.1)];exact ak rfl rfl ⟨_,rfl,rfl,n3⟩
  (repeat' (first|refine aa1 ?_|refine aO rfl rfl ?_|refine xO ?_|refine dw rfl ?_|refine aa5 ?_));refine ah (u:=vs c.vY) rfl (b1.cell (o:=5) rfl) ?_;(repeat' (first|refine aa1 ?_|refine aO rfl rfl ?_|refine dH rfl rfl ?_|refine xO ?_|refine aa5 ?_|refine iy rfl rfl (fun _=>?_) (fun _=>?_)))
  ·refine ah (u:=vs c.vY) rfl (b1.cell (o:=5) rfl) ?_;refine aO rfl rfl ?_;refine aj (EY (s:=c.vY)) rfl ?_;rintro _ w4 ⟨rfl,n4⟩;replace b1:=b1.chg n4 id;replace n4:=New.trans n3 n4;clear n3;cases h3:ql c.vY
   ·(repeat' (first|refine aa1 ?_|refine aa7 ?_|refine ai ?_|refine aO rfl rfl ?_|refine dH rfl rfl ?_|refine dK rfl (by conv=>{lhs;whnf}) ?_|refine xO ?_|refine dw rfl ?_|refine aP ?_|refine aN ?_|refine aQ ?_|refine dP ?_|refine bF rfl ?_|refine fM ?_))
    rename_i hq
    rw [sO (fun e=>by
     rcases e.2.2.1 with e|e
     ·exact hq e
     ·rw [h3] at e;cases e)]
    exact ak rfl rfl ⟨_,rfl,rfl,n4⟩
   (repeat' (first|refine aa1 ?_|refine aO rfl rfl ?_|refine dK rfl (by conv=>{lhs;whnf}) ?_|refine xO ?_|refine dw rfl ?_|refine aa5 ?_));refine ah (u:=.int .u8 c.level) rfl (b1.cell (o:=2) rfl) ?_;(repeat' (first|refine qq8 ?_|refine aT rfl rfl (fun _=>?_) (fun _=>?_)))
   ·rw [sO (fun e=>by omega)];exact ak rfl rfl ⟨_,rfl,rfl,n4⟩
   refine ah (u:=.int .i8 c.score) rfl (b1.cell (o:=4) rfl) ?_;(repeat' (first|refine qq8 ?_|refine aa2 (fun _=>?_) (fun _=>?_)))
   ·rw [sO (fun e=>by omega)];exact ak rfl rfl ⟨_,rfl,rfl,n4⟩
   refine ah (u:=.int .i8 c.score) rfl (b1.cell (o:=4) rfl) ?_;(repeat' (first|refine qq8 ?_|refine aT rfl rfl (fun _=>?_) (fun _=>?_)))
   ·rw [sO (fun e=>by omega)];exact ak rfl rfl ⟨_,rfl,rfl,n4⟩
   refine ah (u:=.int .i16 c.entry) rfl (b1.cell (o:=6) rfl) ?_;(repeat' (first|refine qq8 ?_|refine aa2 (fun _=>?_) (fun _=>?_)))
   ·rw [sO (fun e=>by omega)];exact ak rfl rfl ⟨_,rfl,rfl,n4⟩
   refine ah (u:=.int .i16 c.entry) rfl (b1.cell (o:=6) rfl) ?_;(repeat' (first|refine aa7 ?_|refine ai ?_|refine aO rfl rfl ?_|refine xO ?_|refine aP ?_|refine aN ?_|refine aQ ?_|refine Wc.skip ?_|refine dP ?_|refine bF rfl ?_|refine dm rfl ?_|refine fM ?_|refine aT rfl rfl (fun _=>?_) (fun _=>?_)))
   ·rw [sO (fun e=>by omega)];exact ak rfl rfl ⟨_,rfl,rfl,n4⟩
   exact bT ⟨⟨rfl,trivial⟩,b1,n4,rfl,rfl,.inr rfl,by omega,by omega,by omega,by omega,by omega⟩
  ·rename_i hq
   refine ah (u:=.int .u8 c.level) rfl (b1.cell (o:=2) rfl) ?_;(repeat' (first|refine qq8 ?_|refine aT rfl rfl (fun _=>?_) (fun _=>?_)))
   ·rw [sO (fun e=>by omega)];exact ak rfl rfl ⟨_,rfl,rfl,n3⟩
   refine ah (u:=.int .i8 c.score) rfl (b1.cell (o:=4) rfl) ?_;(repeat' (first|refine qq8 ?_|refine aa2 (fun _=>?_) (fun _=>?_)))
   ·rw [sO (fun e=>by omega)];exact ak rfl rfl ⟨_,rfl,rfl,n3⟩
   refine ah (u:=.int .i8 c.score) rfl (b1.cell (o:=4) rfl) ?_;(repeat' (first|refine qq8 ?_|refine aT rfl rfl (fun _=>?_) (fun _=>?_)))
   ·rw [sO (fun e=>by omega)];exact ak rfl rfl ⟨_,rfl,rfl,n3⟩
   refine ah (u:=.int .i16 c.entry) rfl (b1.cell (o:=6) rfl) ?_;(repeat' (first|refine qq8 ?_|refine aa2 (fun _=>?_) (fun _=>?_)))
   ·rw [sO (fun e=>by omega)];exact ak rfl rfl ⟨_,rfl,rfl,n3⟩
   refine ah (u:=.int .i16 c.entry) rfl (b1.cell (o:=6) rfl) ?_;(repeat' (first|refine aa7 ?_|refine ai ?_|refine aO rfl rfl ?_|refine xO ?_|refine aP ?_|refine aN ?_|refine aQ ?_|refine Wc.skip ?_|refine dP ?_|refine bF rfl ?_|refine dm rfl ?_|refine fM ?_|refine aT rfl rfl (fun _=>?_) (fun _=>?_)))
   ·rw [sO (fun e=>by omega)];exact ak rfl rfl ⟨_,rfl,rfl,n3⟩
   exact bT ⟨⟨rfl,trivial⟩,b1,n3,rfl,rfl,.inl hq,by omega,by omega,by omega,by omega,by omega⟩
 rintro F w2 ⟨ag,b2,n2,h1,h2,h3,h4⟩;refine Wc.frame _ ag fun G=>?_;clear ag;simp only [pq];refine eP (fun F W=>agrees F [(1,.pointer (some ⟨w.heap.size,0,none⟩))]/\w2=W/\0<c.compat.length/\c.compat.length<=8) ?_ ?_
 ·(repeat' (first|refine aN ?_|refine aQ ?_|refine aa5 ?_));refine ah (u:=.slice a c.compat.length cap) rfl (b2.cell (o:=3) rfl) ?_;(repeat' (first|refine qq8 ?_|refine bJ rfl rfl (fun _=>?_) (fun _=>?_)))
  ·rw [sO (fun e=>by omega)];exact ak rfl rfl ⟨_,rfl,rfl,n2⟩
  ·refine ah (u:=.slice a c.compat.length cap) rfl (b2.cell (o:=3) rfl) ?_;(repeat' (first|refine aa7 ?_|refine ai ?_|refine aO rfl rfl ?_|refine xO ?_|refine bU rfl ?_|refine aP ?_|refine aN ?_|refine aQ ?_|refine Wc.skip ?_|refine dP ?_|refine bF rfl ?_|refine dm rfl ?_|refine fM ?_|refine aT rfl rfl (fun _=>?_) (fun _=>?_)))
   ·rw [sO (fun e=>by omega)];exact ak rfl rfl ⟨_,rfl,rfl,n2⟩
   ·exact bT ⟨⟨rfl,trivial⟩,rfl,by omega,by omega⟩
 rintro F _ ⟨ag,rfl,h5,h6⟩;refine Wc.frame _ ag fun G=>?_;clear ag;simp only [pq];rw [Y2 h1 h2 h3 ⟨h4.1,h4.2.1,h4.2.2.1,h4.2.2.2.1,h4.2.2.2.2,h5,h6⟩];refine qq2 ?_;refine ah (u:=.slice a c.compat.length cap) rfl (b2.cell (o:=3) rfl) ?_;refine qq4 ?_;refine aA (σ:=Nat) (fun i=>[(1,.pointer (some ⟨w.heap.size,0,none⟩)),(62,.slice a c.compat.length cap),(63,vi c.compat.length),(64,vi i)]) (fun i w'=>i<=c.compat.length/\CW c.compat 0 c.compat=CW c.compat i (c.compat.drop i)/\w2=w') (fun i=>c.compat.length-i) 0 (sl rfl) ⟨anq _,by simp,rfl⟩ ?_;rintro i G _ ⟨hi,hgo,rfl⟩;simp only [pq];have h0:=h.keep (nZ _) n2.keep;(repeat' (first|refine qq4 ?_|refine aa2 (fun _=>?_) (fun _=>?_)))
 ·obtain ⟨s,hs⟩:=nT c.compat (k:=i) (by omega);rw [drop_cons hs] at hgo;simp only [CW,Z9] at hgo;refine aZ h0 rfl rfl (by omega) hs fun b o hcell=>?_;refine ah (u:=vs s) rfl hcell ?_;(repeat' (first|refine qq3 ?_|refine aT rfl rfl (fun _=>?_) (fun _=>?_)|refine eU rfl rfl (fun _=>?_) (fun _=>?_)))
  ·rw [hgo,decide_eq_false (fun e=>e.1 (by assumption))];exact ak rfl rfl ⟨_,rfl,rfl,n2⟩
  ·rw [hgo,decide_eq_false (fun e=>by omega)];exact ak rfl rfl ⟨_,rfl,rfl,n2⟩
  ·rw [decide_eq_true ⟨by assumption,by omega⟩,aoE] at hgo;refine aj (uU (l:=s) (c:=0)) rfl ?_;rintro _ _ ⟨rfl,rfl⟩;(repeat' (first|refine qq3 ?_|refine aU rfl rfl (fun _=>?_) (fun _=>?_)))
   ·rw [hgo,EW.1 (by omega)];exact ak rfl rfl ⟨_,rfl,rfl,n2⟩
   ·rw [JQ (by omega),aoM,aoE] at hgo;refine ah (u:=.slice a c.compat.length cap) rfl (b2.cell (o:=3) rfl) ?_;refine qq5 ?_;refine kS (b:=(i:Int)) h0 rfl rfl (by omega) (by omega) fun v' hv'=>?_;rw [ant] at hv';obtain ⟨pa,pc,rfl,_,_⟩:=hv'.form;refine qq5 ?_;refine aj (xC (s:=s) hv') rfl ?_;rintro _ _ ⟨rfl,rfl⟩;cases hcn:(c.compat.take i).contains s
    ·rw [hcn,aoM,aoE] at hgo;refine qq2 ?_;exact ax (i+1) (sl rfl) ⟨by omega,hgo,rfl⟩ (by omega)
    ·rw [hcn] at hgo;refine qq3 ?_;rw [hgo];exact ak rfl rfl ⟨_,rfl,rfl,n2⟩
 ·obtain rfl:i=c.compat.length:=by omega
  rw [aoG] at hgo;rw [hgo];exact ak rfl rfl ⟨_,rfl,rfl,n2⟩
theorem ac7 {s:Nm} (h:ql s=true): ∃q,keyOf prog 9 (vs s)=some q:=WJ s (zM h)
def Ir (l:List Cd):Int:=if uD l=true then 0 else 70
theorem Gi {Pb:Nat->Prop} {w:World} {v:Value} {l:List Cd} (h:RdS rCd 7 Pb w v l):
 Calls prog 56 #[v] w (Ret fun r w'=>(∃k,r=.tuple #[k,vi (Ir l)])/\New w w'):=by
 obtain ⟨a,cap,rfl,hc1,hc2⟩:=h.form;simp only [maxLen] at hc2;unfold Ir uD;refine nM func56 rfl ntmps56 rfl ?_;refine qq4 ?_;refine fU (k:=9) fun w1 m1 n1 s1=>?_;generalize hbm:w.heap.size=bm at m1;refine qq2 ?_;refine aA (σ:=Nat) (fun i=>[(4,.map (some bm)),(8,.slice a l.length cap),(9,vi l.length),(10,vi i)]) (fun i w'=>i<=l.length/\zO 0 [] l=zO i ((l.take i).map Cd.name) (l.drop i)/\ru prog 9 w' bm (UA vs ((l.take i).map Cd.name))/\New w w') (fun i=>l.length-i) 0 (sl rfl) ⟨anq _,by simp,m1,n1⟩ ?_;rintro i G w2 ⟨hi,hgo,m2,n2⟩;simp only [pq];(repeat' (first|refine qq4 ?_|refine aa2 (fun _=>?_) (fun _=>?_)))
 ·obtain ⟨x,hx⟩:=nT l (k:=i) (by omega);refine aK (h.keep qP n2.keep) rfl rfl (by omega) hx fun b o cs hl hR hat=>?_;obtain ⟨cv,rfl,hcv⟩:=hR;refine aS hat rfl rfl ?_;refine Wl.alloc fun w3 b3 n3 s3=>?_;(repeat' (refine aa7 ?_));refine aH (new:=cdC x cv) b3 rfl rfl rfl rfl zl7 (Xc.oc _ w2 x _ ⟨cv,rfl,hcv⟩ rfl) fun w4 b4 c4 s4=>?_;have hz2:=n2.size;have hlt:=m2.lt;have m4:=(m2.keep n3.keep (Pb:=fun _=>True) trivial).chg c4 (by omega);have n24:New w2 w4:=(Chg.trans n3.any c4 i3).tN
  have n4:New w w4:=New.trans n2 n24;replace b4:Bk w4 w2.heap.size 79 (cdC x cv):=b4;have Y3:=hcv.keep (nZ _) n24.keep;clear m2 b3 n3 c4;rw [drop_cons hx] at hgo;simp only [zO] at hgo;(repeat' (first|refine qq3 ?_|refine aU rfl rfl (fun _=>?_) (fun _=>?_)))
  ·rw [decide_eq_false (by omega),aoF] at hgo;rw [hgo];exact aB rfl rfl rfl ⟨_,rfl,⟨_,rfl⟩,n4⟩
  ·rw [decide_eq_true (by omega),aoE] at hgo;refine bK b4 rfl rfl ?_;refine aO rfl rfl ?_;refine aj (UQ (c:=x) Y3) rfl ?_;rintro _ w5 ⟨rfl,n5⟩;replace b4:=b4.chg n5 id;replace m4:=m4.keep n5.keep (Pb:=fun _=>True) trivial;replace n5:=New.trans n4 n5;cases hmay:KY x
   ·rw [hmay,aoF] at hgo;refine qq3 ?_;rw [hgo];exact aB rfl rfl rfl ⟨_,rfl,⟨_,rfl⟩,n5⟩
   ·rw [hmay,aoE] at hgo;refine qq2 ?_;refine ah (u:=vs x.name) rfl (b4.cell (o:=0) rfl) ?_;obtain ⟨q,hq⟩:=ac7 (Oc hmay).1;refine aO rfl rfl ?_;refine iQ (Maps.string_keyed underlying9) m4 hq rfl rfl ?_;rintro r (hr|⟨rfl,hr⟩)
    ·obtain ⟨k,hk,e⟩:=List.mem_map.1 hr;simp only [Prod.mk.injEq] at e;obtain ⟨e1,rfl⟩:=e;rw [xk e1] at hk;rw [List.contains_iff_mem.2 hk,aoY,aoF] at hgo;refine qq3 ?_;rw [hgo];exact aB rfl rfl rfl ⟨_,rfl,⟨_,rfl⟩,n5⟩
    ·have hnk:((l.take i).map Cd.name).contains x.name=false:=by rw [an6];intro hc;exact hr (vs x.name,.bool true) (List.mem_map.2 ⟨x.name,List.contains_iff_mem.1 hc,rfl⟩) rfl
     rw [hnk,aoM,aoE] at hgo;refine qq2 ?_;refine ah (u:=vs x.name) rfl (b4.cell (o:=0) rfl) ?_;refine gU (u:=.bool true) (Maps.string_keyed underlying9) m4 hq hr rfl rfl rfl fun w6 m6 c6 s6=>?_;refine qq6 ?_;refine ax (i+1) (sl rfl) ⟨by omega,?_,?_,Chg.trans n5 c6 fun k hk e=>by omega⟩ (by omega)
     ·rw [hgo,take_snoc hx,aoN];rfl
     ·rw [take_snoc hx,aoN];simpa [UA] using m6
 ·obtain rfl:i=l.length:=by omega
  rw [aoG] at hgo;rw [hgo];exact aB rfl rfl rfl ⟨_,rfl,⟨_,rfl⟩,n2⟩
theorem Qz {Pb:Nat->Prop} {w:World} {v:Value} {l:List Cd} (h:RdS rCd 7 Pb w v l):
 Calls prog 83 #[v] w (Ret fun r w'=>r=vi (Ir l)/\New w w'):=by
 refine nM func83 rfl ntmps83 rfl ?_;refine qq4 ?_;refine aj (Gi h) rfl ?_;rintro _ w1 ⟨⟨k,rfl⟩,n1⟩;refine qq5 ?_;exact ak rfl rfl ⟨_,rfl,rfl,n1⟩
theorem Oe {w:World} {va vb:Value} {a b:Cd}:
 Calls prog 114 #[.agg (cdC a va).toArray,.agg (cdC b vb).toArray] w (Ret fun r w'=>r=.bool (better a b)/\New w w'):=by
 unfold better;refine nM func114 rfl ntmps114 rfl ?_;refine qq4 ?_;refine Wl.box rfl (fun w1 b1 n1 s1=>?_);replace b1:Bk w1 w.heap.size 79 (cdC a va):=b1;refine Wl.box rfl (fun w2 b2 n2 s2=>?_);replace b2:Bk w2 w1.heap.size 79 (cdC b vb):=b2;replace b1:=b1.chg n2 id;replace n2:=New.trans n1 n2;refine qq2 ?_;refine ah (u:=.int .i8 a.score) rfl (b1.cell (o:=4) rfl) ?_;(repeat' (refine aa5 ?_));refine ah (u:=.int .i8 b.score) rfl (b2.cell (o:=4) rfl) ?_;(repeat' (first|refine qq2 ?_|refine aa4 (fun _=>?_) (fun _=>?_)))
 ·refine ah (u:=.int .i8 a.score) rfl (b1.cell (o:=4) rfl) ?_;(repeat' (refine aa5 ?_));refine ah (u:=.int .i8 b.score) rfl (b2.cell (o:=4) rfl) ?_;rw [if_neg (by assumption)];(repeat' (first|refine qq7 ?_|refine aT rfl rfl (fun _=>?_) (fun _=>?_)))
  ·rw [decide_eq_true (by omega)];exact ak rfl rfl ⟨_,rfl,rfl,n2⟩
  ·rw [decide_eq_false (by omega)];exact ak rfl rfl ⟨_,rfl,rfl,n2⟩
 ·refine ah (u:=vs a.name) rfl (b1.cell (o:=0) rfl) ?_;(repeat' (refine aa5 ?_));refine ah (u:=vs b.name) rfl (b2.cell (o:=0) rfl) ?_;rw [if_pos (by omega)];refine jT rfl rfl (fun h=>?_) (fun h=>?_)
  ·rw [decide_eq_true h];refine qq3 ?_;exact ak rfl rfl ⟨_,rfl,rfl,n2⟩
  ·rw [decide_eq_false h];refine qq3 ?_;exact ak rfl rfl ⟨_,rfl,rfl,n2⟩
def yM:Option (Nat×Nat)->List Value
 |some p=>[vi p.1,vi p.2]
 |none=>[vi (-1),vi 0]
abbrev Iu:TypeId:=160
theorem UR {w:World}:Calls prog 115 #[] w (Ret fun r w'=>r=.agg (yM none).toArray/\New w w'):=by
 refine nM func115 rfl ntmps115 rfl ?_;refine qq4 ?_;refine Wl.alloc fun w1 b1 n1 s1=>?_;replace b1:Bk w1 w.heap.size Iu [vi 0,vi 0]:=b1;refine qq2 ?_;refine aX (ps:=[(0,.const (vi (-1)))]) (parts:=[(0,vi (-1))]) rfl rfl (by simp [Value.cells]) ?_;refine aH (u:=.agg #[vi (-1),vi 0]) (new:=[vi (-1),vi 0]) b1 rfl rfl rfl rfl (aap 2) (by simp;exact ⟨rfl,rfl⟩) fun w2 b2 c2 s2=>?_;replace b2:Bk w2 w.heap.size Iu [vi (-1),vi 0]:=b2;refine qq7 ?_;exact fD (y5 (a:=.cell 0 Iu) rfl (qO rfl rfl b2 rfl)) ⟨_,rfl,rfl,(Chg.trans n1.any c2 i3).tN⟩
def pU:Option Nat->Int
 |some k=>k
 |none=> -1
theorem UU {Pb Pt:Nat->Prop} {w:World} {v u:Value} {cs:List Cd} {ts:List Nm} (h:RdS rCd 7 Pb w v cs) (ht:RdS (Wk.one vs) 1 Pt w u ts):
 Calls prog 85 #[v,u] w (Ret fun r w'=>r=.agg (yM (xw cs ts)).toArray/\New w w'):=by
 obtain ⟨a,cap,rfl,hc1,hc2⟩:=h.form;obtain ⟨a2,cap2,rfl,hd1,hd2⟩:=ht.form;simp only [maxLen] at hc2 hd2;unfold xw;refine nM func85 rfl ntmps85 rfl ?_;refine qq4 ?_;refine Wl.alloc fun w1 b1 n1 s1=>?_;replace b1:Bk w1 w.heap.size Iu [vi 0,vi 0]:=b1;refine qq2 ?_;refine aA (σ:=Nat) (fun k=>[(0,.slice a cs.length cap),(4,.pointer (some ⟨w.heap.size,0,none⟩)),(10,.slice a2 ts.length cap2),(11,vi ts.length),(12,vi k)]) (fun k W=>k<=ts.length/\CX cs 0 ts=CX cs k (ts.drop k)/\New w1 W) (fun k=>ts.length-k) 0 (sl rfl) ⟨anq _,rfl,ay _ _⟩ ?_;rintro k G W ⟨hk,hgo,nW⟩;simp only [pq];have bW:=b1.chg nW id;have n0W:=New.trans n1 nW;have hzW:=n0W.size;(repeat' (first|refine qq4 ?_|refine aa2 (fun _=>?_) (fun _=>?_)))
 ·obtain ⟨s,hs⟩:=nT ts (k:=k) (by omega);rw [drop_cons hs] at hgo;simp only [CX,SS] at hgo;refine aZ (ht.keep (nZ _) n0W.keep) rfl rfl (by omega) hs fun b o hcell=>?_;refine ah (u:=vs s) rfl hcell ?_;(repeat' (first|refine aa7 ?_|refine ai ?_|refine aP ?_));refine aN ?_;(repeat' (first|refine aa7 ?_|refine ai ?_|refine aP ?_|refine aQ ?_));refine eP (fun F W2=>agrees F [(0,.slice a cs.length cap),(4,.pointer (some ⟨w.heap.size,0,none⟩)),(5,vi k),(7,vi (pU (uV cs s 0 none cs))),(10,.slice a2 ts.length cap2),(11,vi ts.length),(12,vi k)]/\New w1 W2) ?_ ?_
  ·(repeat' (first|refine aa1 ?_|refine ai ?_|refine bU rfl ?_|refine aP ?_|refine aN ?_|refine aQ ?_|refine Wc.block ?_));refine aA (σ:=Nat×Option Nat) (fun q=>[(0,.slice a cs.length cap),(4,.pointer (some ⟨w.heap.size,0,none⟩)),(5,vi k),(6,vs s),(7,vi (pU q.2)),(10,.slice a2 ts.length cap2),(11,vi ts.length),(12,vi k),(17,.slice a cs.length cap),(18,vi cs.length),(19,vi q.1)]) (fun q W2=>q.1<=cs.length/\(∀j,q.2=some j->j<cs.length)/\uV cs s 0 none cs=uV cs s q.1 q.2 (cs.drop q.1)/\New w1 W2) (fun q=>cs.length-q.1) (0,none) (sl rfl) ⟨anq _,by simp,rfl,nW⟩ ?_;rintro ⟨i,best⟩ G2 W2 ⟨hi,hb,hbg,n2⟩;dsimp only at hi hb hbg n2;simp only [pq];have n02:=New.trans n1 n2;have hz2:=n02.size;(repeat' (first|refine aa1 ?_|refine ai ?_|refine aP ?_|refine aN ?_|refine aQ ?_|refine Wc.block ?_|refine Wc.skip ?_|refine dV ?_|refine eG ?_|refine dJ ?_|refine dQ ?_|refine bF rfl ?_|refine dm rfl ?_|refine aa2 (fun _=>?_) (fun _=>?_)))
   ·obtain ⟨c,hc⟩:=nT cs (k:=i) (by omega);rw [drop_cons hc] at hbg;simp only [uV] at hbg;refine aK (h.keep qP n02.keep) rfl rfl (by omega) hc fun b o cs' hl hR hat=>?_;obtain ⟨cv,rfl,hcv⟩:=hR;refine aS hat rfl rfl ?_;refine Wl.alloc fun w3 b3 n3 s3=>?_;(repeat' (refine aa7 ?_));refine aH (new:=cdC c cv) b3 rfl rfl rfl rfl zl7 (Xc.oc _ W2 c _ ⟨cv,rfl,hcv⟩ rfl) fun w4 b4 c4 s4=>?_;have n24:New W2 w4:=(Chg.trans n3.any c4 i3).tN
    have n14:=New.trans n2 n24;have n04:=New.trans n1 n14;replace b4:Bk w4 W2.heap.size 79 (cdC c cv):=b4;have Y3:=hcv.keep (nZ _) n24.keep;have h4:=h.keep qP n04.keep;clear b3 n3 c4;obtain ⟨ca,cc,rfl,_,_⟩:=Y3.form;have nx: ∀(nb:Option Nat) (w':World) (G3:Fr),New w1 w'->(∀j,nb=some j->j<cs.length)->uV cs s 0 none cs=uV cs s (i+1) nb (cs.drop (i+1))->(i+1<=cs.length/\(∀j,nb=some j->j<cs.length)/\uV cs s 0 none cs=uV cs s (i+1) nb (cs.drop (i+1))/\New w1 w'):=fun nb w' _ q1 q2 q3=>⟨by omega,q2,q3,q1⟩;(repeat' (first|refine ai ?_|refine aP ?_|refine aN ?_));refine aV rfl (by kernel_rfl) (fun w'=>New w4 w') (Chg.drew _ _) ?_;intro w5 n5;(repeat' (refine aa0 (aa6 (af ?_))));refine aa0 (au (u:=.slice ca c.compat.length cc) rfl (fun w' hw=>(b4.chg hw id).cell (o:=3) rfl) (af ?_));(repeat' (refine aa0 (aa3 (af ?_))));refine aC rfl (aj (xC (s:=s) (Y3.keep (nZ _) n5.keep)) rfl ?_);rintro _ _ ⟨rfl,rfl⟩;refine ai ⟨rfl,n5,?_⟩;cases hcn:c.compat.contains s
    ·rw [hcn,if_neg (fun e=>by cases e.1)] at hbg;(repeat' (first|refine bH ?_|refine fV rfl rfl (by assumption) ?_|refine lm rfl (by assumption) ?_|refine aa0 (aa3 (af ?_))|refine aa0 (yO (af ?_))));refine qq9 ?_;exact ax (i+1,best) (sl rfl) (nx _ _ G2 (New.trans n14 n5) hb hbg) (by dsimp only;omega)
    ·cases best with
     |none=>rw [if_pos ⟨hcn,fun j e=>by cases e⟩] at hbg;(repeat' (first|refine bH ?_|refine bG rfl rfl ?_|refine fV rfl rfl (by assumption) ?_|refine aa0 (aa3 (af ?_))|refine aa0 (aa9 (af ?_))|(refine aa0 (dN rfl rfl (fun _=>af ?_) (fun _=>af ?_))<;>(first|(exfalso;contradiction)|skip))));refine qq9 ?_;exact ax (i+1,some i) (sl rfl) (nx _ _ G2 (New.trans n14 n5) (fun j e=>by cases e;omega) hbg) (by dsimp only;omega)
     |some j=>
      have hj:=hb j rfl;obtain ⟨d,hd⟩:=nT cs hj;have hjd:cs.getD j default=d:=by rw [an7,hd];rfl
      rw [show pU (some j)=(j:Int) from rfl];(repeat' (first|refine bG rfl rfl ?_|refine aa0 (aa3 (af ?_))|(refine aa0 (dN rfl rfl (fun _=>af ?_) (fun _=>af ?_))<;>(first|(exfalso;omega)|skip))));refine aa0 (bD (fun w' hw=>(b4.chg hw id).at) rfl rfl (af ?_));(repeat' (first|refine bG rfl rfl ?_|refine aa0 (aa3 (af ?_))));refine aa0 (bQ (j:=j) (y:=d) h4 (fun w' hw=>Chg.keep hw fun _ _ _ e=>e) rfl rfl (by omega) hd fun bb off cs' hcl hR hat=>af ?_);obtain ⟨dv,rfl,_⟩:=hR;(repeat' (refine bG rfl rfl ?_));refine aa0 (bD hat rfl rfl (af ?_));clear hat;(repeat' (refine bG rfl rfl ?_));refine aC rfl (aj (Oe (a:=c) (b:=d)) rfl ?_);rintro _ w6 ⟨rfl,n6⟩;refine ai ⟨rfl,New.trans n5 n6,?_⟩;have n16:=New.trans n14 (New.trans n5 n6);cases hbt:better c d
      ·rw [if_neg (fun e=>by have:=e.2 j rfl;rw [hjd,hbt] at this;cases this)] at hbg;(repeat' (first|refine bH ?_|refine bG rfl rfl ?_|refine aa0 (aa9 (af ?_))|refine aa0 (yO (af ?_))));refine qq9 ?_;exact ax (i+1,some j) (sl rfl) (nx _ _ G2 n16 hb hbg) (by dsimp only;omega)
      ·rw [if_pos ⟨hcn,fun q e=>by cases e;rw [hjd,hbt]⟩] at hbg;(repeat' (first|refine bH ?_|refine bG rfl rfl ?_|refine aa0 (aa9 (af ?_))|refine aa0 (yO (af ?_))));refine qq9 ?_;exact ax (i+1,some i) (sl rfl) (nx _ _ G2 n16 (fun j e=>by cases e;omega) hbg) (by dsimp only;omega)
   ·obtain rfl:i=cs.length:=by omega
    rw [aoG] at hbg;simp only [uV] at hbg;exact bT ⟨⟨rfl,rfl,rfl,by rw [hbg];rfl,rfl,rfl,rfl,trivial⟩,n2⟩
  ·rintro F W2 ⟨ag,n2⟩;refine Wc.frame _ ag fun G2=>?_;clear ag;simp only [pq];have bW2:=b1.chg n2 id;cases hbs:uV cs s 0 none cs with
   |none=>rw [hbs] at hgo;dsimp only at hgo;unfold pU;(repeat' (first|refine qq2 ?_|(refine aU rfl rfl (fun _=>?_) (fun _=>?_)<;>(first|(exfalso;contradiction)|skip))));exact ax (k+1) (sl rfl) ⟨by omega,hgo,n2⟩ (by omega)
   |some i=>rw [hbs] at hgo;dsimp only at hgo;rw [hgo];unfold pU;(repeat' (first|refine qq2 ?_|(refine aU rfl rfl (fun _=>?_) (fun _=>?_)<;>(first|(exfalso;contradiction)|skip))));refine aX (ps:=[(0,.tmp 44),(1,.tmp 45)]) (parts:=[(0,vi i),(1,vi k)]) rfl rfl (by simp [Value.cells]) ?_;refine aH (u:=.agg #[vi i,vi k]) (new:=[vi i,vi k]) bW2 rfl rfl rfl rfl (aap 2) (by simp;exact ⟨rfl,rfl⟩) fun w3 b3 c3 s3=>?_;replace b3:Bk w3 w.heap.size Iu [vi i,vi k]:=b3;refine qq7 ?_;exact fD (y5 (a:=.cell 4 Iu) rfl (qO rfl rfl b3 rfl)) ⟨_,rfl,rfl,(Chg.trans (New.trans n1 n2).any c3 i3).tN⟩
 ·obtain rfl:k=ts.length:=by omega
  rw [aoG] at hgo;rw [hgo];refine aj UR rfl ?_;rintro _ w2 ⟨rfl,n2⟩;replace bW:=bW.chg n2 id;refine aH (u:=.agg (yM none).toArray) (new:=yM none) bW rfl rfl rfl rfl (aap 2) (by simp [yM];exact ⟨rfl,rfl⟩) fun w3 b3 c3 s3=>?_;replace b3:Bk w3 w.heap.size Iu (yM none):=b3;refine qq7 ?_;exact fD (y5 (a:=.cell 4 Iu) rfl (qO rfl rfl b3 rfl)) ⟨_,rfl,rfl,(Chg.trans (New.trans n0W n2).any c3 i3).tN⟩
abbrev QB:Rel (Option (Nat×Nat)):=flat yM
theorem Ef:qH QB 2:=qA yM (fun x=>by cases x<;>rfl) (fun x c hc=>by cases x<;>simp [yM] at hc<;>rcases hc with rfl|rfl<;>rfl)
theorem UW {cs:List Cd} {t:List Nd} {i:Nat} (hi:i<t.length):(allM cs t).take (i+1)=(allM cs t).take i++ [xw cs (sJ t i)]:=by
 refine take_snoc ?_;unfold allM;rw [an3,aoT hi];rfl
theorem Og (cs:List Cd) (t:List Nd):(allM cs t).length=t.length:=by unfold allM;simp
theorem Oh {Pb Pt:Nat->Prop} {w:World} {v u:Value} {cs:List Cd} {t:List Nd} (h:RdS rCd 7 Pb w v cs) (ht:RdS rNd 3 Pt w u t) (hc:uD cs=true) (hok:og t=true):
 Calls prog 58 #[v,u] w (Ret fun r w'=>(∃q,r=.tuple #[q,vi 0]/\nP QB Iu 2 (fun b=>w.heap.size<=b) NoB w' q (allM cs t))/\New w w'):=by
 obtain ⟨a,cap,rfl,hc1,hc2⟩:=h.form;obtain ⟨a2,cap2,rfl,hd1,hd2⟩:=ht.form;have hlen:=pF hok;refine nM func58 rfl ntmps58 rfl ?_;refine qq4 ?_;refine aj (Qz h) rfl ?_;rintro _ w1 ⟨rfl,n1⟩;unfold Ir;rw [if_pos hc];(repeat' (first|refine qq2 ?_|(refine aa4 (fun _=>?_) (fun _=>?_)<;>(first|(exfalso;omega)|skip))));refine aj (vN (ht.keep oh n1.keep)) rfl ?_;rintro _ w2 ⟨rfl,n2⟩;replace n2:=New.trans n1 n2;unfold F6;rw [if_pos hok];(repeat' (first|refine qq2 ?_|(refine aa4 (fun _=>?_) (fun _=>?_)<;>(first|(exfalso;omega)|skip))));refine jh (R:=QB) (Pe:=NoB) (c:=(t.length:Int)) rfl rfl (by omega) (by omega) (by omega) fun v3 w3 o3 n3=>?_;replace n3:=New.trans n2 n3;have hz2:=n2.size;refine qq2 ?_;refine aA (σ:=Nat×Value) (fun s=>[(0,.slice a cs.length cap),(1,.slice a2 t.length cap2),(9,s.2),(30,vi t.length),(31,vi s.1)]) (fun s W=>s.1<=t.length/\nP QB Iu 2 (fun b=>w.heap.size<=b) NoB W s.2 ((allM cs t).take s.1)/\New w W) (fun s=>t.length-s.1) (0,v3) (sl rfl) ⟨anq _,o3.mono Ef.mo (fun b _ hb=>by omega) i3,n3⟩ ?_;rintro ⟨i,q⟩ G W ⟨hi,own,nW⟩;dsimp only at hi own nW;simp only [pq];have hzW:=nW.size;obtain ⟨qa,qc,rfl,_,_⟩:=own.form;(repeat' (first|refine qq4 ?_|refine aa2 (fun _=>?_) (fun _=>?_)))
 ·refine aj (NY (i:=i) (ht.keep oh nW.keep) hok (by omega)) rfl ?_;rintro _ w4 ⟨⟨tv,rfl,o4⟩,n4⟩;have n04:=New.trans nW n4;obtain ⟨ta,tc,rfl,_,_⟩:=o4.form;refine qq5 ?_;refine aj (UU (h.keep qP n04.keep) (o4.rd rP.mo)) rfl ?_;rintro _ w5 ⟨rfl,n5⟩;have n45:=New.trans n4 n5;refine cu (R:=QB) (y:=xw cs (sJ t i)) Ef (own.new (nK yM) n45) rfl rfl rfl (by cases xw cs (sJ t i)<;>rfl) rfl (by omega) (by omega) (by simp only [maxLen,anD];omega) (by simp only [anD];omega) rfl rfl fun v6 w6 p o6 c6 lie=>?_;have n6:New w w6:=Chg.trans (New.trans nW n45) c6 fun k hk e=>by have:=(own.lt e).1;omega
  rw [<-UW (by omega)] at o6;refine qq6 ?_;refine ax (i+1,v6) (sl rfl) ⟨by dsimp only;omega,o6.mono Ef.mo (fun b _ hb=>by have:=n45.size;rcases hb with hb|hb<;>omega) i3,n6⟩ (by dsimp only;omega)
 ·obtain rfl:i=t.length:=by omega
  have e:aoP t.length (allM cs t)=allM cs t:=by rw [<-Og cs t,aon]
  rw [e] at own ⊢;exact aB rfl rfl rfl ⟨_,rfl,⟨_,rfl,own⟩,nW⟩
theorem QC {Pb:Nat->Prop} {w:World} {v:Value} {l:List Nd} {i least:Nat} (h:RdS rNd 3 Pb w v l) (hok:og l=true) (hi:i<l.length) (hl:least<=i):
 Calls prog 178 #[v,vi i,vi least] w (Ret fun r w'=>r=vi 0/\New w w'):=by
 obtain ⟨a,cap,rfl,hc1,hc2⟩:=h.form;have hlen:=pF hok;refine nM func178 rfl ntmps178 rfl ?_;refine qq4 ?_;refine aj (vN h) rfl ?_;rintro _ w1 ⟨rfl,n1⟩;unfold F6;rw [if_pos hok];(repeat' (first|refine qq2 ?_|(refine aa2 (fun _=>?_) (fun _=>?_)<;>(first|(exfalso;omega)|skip))|(refine aU rfl rfl (fun _=>?_) (fun _=>?_)<;>(first|(exfalso;omega)|skip))|(refine aa4 (fun _=>?_) (fun _=>?_)<;>(first|(exfalso;omega)|skip))));exact ak rfl rfl ⟨_,rfl,rfl,n1⟩
theorem Oi {Pb:Nat->Prop} {w:World} {pv:Value} {x:Nd} {nm:Nm} (h:RdS rPr 2 Pb w pv x.pz) (hx: ∀v,val x.pz nm=some v->v.length<=1024):
 Calls prog 109 #[.agg #[vi x.parent,vs x.name,pv],vs nm] w (Ret fun r w'=>r=vi (pU (Ih x nm))/\New w w'):=by
 obtain ⟨a,cap,rfl,hc1,hc2⟩:=h.form;refine nM func109 rfl ntmps109 rfl ?_;refine qq4 ?_;refine Wl.box rfl fun w1 b1 n1 s1=>?_;replace b1:Bk w1 w.heap.size 73 [vi x.parent,vs x.name,.slice a x.pz.length cap]:=b1;refine qq4 ?_;refine bK b1 rfl rfl ?_;(repeat' (refine aa1 ?_));refine aj (A7 (x:=x) (nm:=nm) (h.keep (oH pC) n1.keep)) rfl ?_;rintro _ w2 ⟨rfl,n2⟩;have n02:=New.trans n1 n2;unfold Ih;cases hv:val x.pz nm with
 |none=>dsimp only;refine qq5 ?_;exact ak rfl rfl ⟨_,rfl,rfl,n02⟩
 |some s=>
  have hsl:=hx s hv;dsimp only;refine qq2 ?_;refine aj (EQ (l:=s) (by omega)) rfl ?_;rintro _ w3 ⟨rfl,n3⟩;have n03:=New.trans n02 n3;obtain ⟨n,hn,hnl⟩:=Ij s;unfold Ic;rw [hn,ant];(repeat' (first|refine qq5 ?_|refine aT rfl rfl (fun _=>?_) (fun _=>?_)|refine aa4 (fun _=>?_) (fun _=>?_)))
  ·rw [if_neg (by omega)];exact ak rfl rfl ⟨_,rfl,rfl,n03⟩
  ·rw [if_pos (by omega)];dsimp only;rw [if_neg (by omega)];exact ak rfl rfl ⟨_,rfl,rfl,n03⟩
  ·rw [if_pos (by omega)];dsimp only;rw [if_pos (by omega)];refine ak rfl rfl ⟨_,rfl,?_,n03⟩;show Value.int .i64 (IntKind.i64.wrap (n:Int))=_;rw [G8 (n:=n) rfl (by omega)];rfl
def pV (c:Clm):List Value:=[.int .u8 c.kind,w64 c.from_,w64 c.upto]
theorem UX {w:World} {a b:Clm}:
 Calls prog 149 #[.agg (pV a).toArray,.agg (pV b).toArray] w (Ret fun r w'=>r=.bool (Ie a b)/\New w w'):=by
 unfold Ie;refine nM func149 rfl ntmps149 rfl ?_;refine qq4 ?_;refine Wl.box rfl fun w1 b1 n1 s1=>?_;replace b1:Bk w1 w.heap.size 203 (pV a):=b1;refine Wl.box rfl fun w2 b2 n2 s2=>?_;replace b2:Bk w2 w1.heap.size 203 (pV b):=b2;replace b1:=b1.chg n2 id;replace n2:=New.trans n1 n2;refine qq2 ?_;refine ah (u:=.int .u8 a.kind) rfl (b1.cell (o:=0) rfl) ?_;(repeat' (refine aa5 ?_));refine ah (u:=.int .u8 b.kind) rfl (b2.cell (o:=0) rfl) ?_;(repeat' (first|refine qq3 ?_|refine bJ rfl rfl (fun _=>?_) (fun _=>?_)))
 rotate_left
 ·rw [decide_eq_false (by omega)];exact ak rfl rfl ⟨_,rfl,rfl,n2⟩
 skip;refine ah (u:=w64 a.from_) rfl (b1.cell (o:=1) rfl) ?_;refine qq2 ?_;refine ah (u:=w64 a.upto) rfl (b1.cell (o:=2) rfl) ?_;(repeat' (first|refine qq3 ?_|refine dR rfl rfl (fun _=>?_) (fun _=>?_)))
 rotate_left
 ·rw [decide_eq_false (by omega)];exact ak rfl rfl ⟨_,rfl,rfl,n2⟩
 skip;refine ah (u:=w64 b.from_) rfl (b2.cell (o:=1) rfl) ?_;refine qq2 ?_;refine ah (u:=w64 b.upto) rfl (b2.cell (o:=2) rfl) ?_;(repeat' (first|refine qq3 ?_|refine dR rfl rfl (fun _=>?_) (fun _=>?_)))
 rotate_left
 ·rw [decide_eq_false (by omega)];exact ak rfl rfl ⟨_,rfl,rfl,n2⟩
 skip;refine ah (u:=w64 a.from_) rfl (b1.cell (o:=1) rfl) ?_;refine qq2 ?_;refine ah (u:=w64 b.upto) rfl (b2.cell (o:=2) rfl) ?_;(repeat' (first|refine qq3 ?_|refine dR rfl rfl (fun _=>?_) (fun _=>?_)))
 rotate_left
 ·rw [decide_eq_false (by omega)];exact ak rfl rfl ⟨_,rfl,rfl,n2⟩
 skip;refine ah (u:=w64 b.from_) rfl (b2.cell (o:=1) rfl) ?_;refine qq2 ?_;refine ah (u:=w64 a.upto) rfl (b1.cell (o:=2) rfl) ?_;(repeat' (first|refine qq3 ?_|refine dR rfl rfl (fun _=>?_) (fun _=>?_)))
 ·rw [decide_eq_true (by omega)];exact ak rfl rfl ⟨_,rfl,rfl,n2⟩
 ·rw [decide_eq_false (by omega)];exact ak rfl rfl ⟨_,rfl,rfl,n2⟩
end Go.Proofs.YtfbnfhhmiiahnaaGreatDoor
namespace Go.Proofs.YtfbnfhhmiiahnaaGreatDoor.Wk
open Go Go.RowKit
section
variable {P:Program} {n:Nat} {ds:List Deferred} {Q:Po} {F:Fr} {w w':World} {ops rest:List Oper} {d:Nat} {ty:TypeId} {pos:String} {aft:Array Edge}
theorem zX {t k e:TypeId} {sz bytes:Nat} {agg:Bool} {z:Value} {b:Nat} {l:List (Value×Value)} {key:Value} {q:Lit} (ht:P.underlying t=some (.map k e)) (he:ElT P e sz bytes agg z) (Kd:Maps.Keyed P k) (h:ru P k w b l) (hq:keyOf P k key=some q):
 ∃r f,(Instr.lookup t (.map (some b)) key true).run P w=.ok (.tuple #[r,.bool f]) w/\(f=true/\(key,r)∈l∨f=false/\r=z/\ ∀p∈l,p.1≠key):=by
 obtain ⟨es,clock,hh,rfl,hk⟩:=h;have hg:=run_getObj_map (P:=P) w b es clock hh;rcases Kd.find w hq es.toList hk with ⟨hf,hn⟩|⟨j,e0,hf,hj,rfl⟩
 ·refine ⟨z,false,?_,.inr ⟨rfl,rfl,fun p hp=>?_⟩⟩
  ·simp [Instr.lookup,run_underlying ht,hg,Kd.check w _ hq,hf,he.zeroValue]
  ·obtain ⟨e1,he1,rfl⟩:=List.mem_map.1 hp;exact hn e1 he1
 ·refine ⟨e0.val,true,?_,.inl ⟨rfl,List.mem_map.2 ⟨e0,aop hj,rfl⟩⟩⟩;simp [Instr.lookup,run_underlying ht,hg,Kd.check w _ hq,hf]
theorem jU {x i:Operand} {t k e:TypeId} {sz bytes:Nat} {agg:Bool} {z:Value} {b:Nat} {l:List (Value×Value)} {key:Value} {q:Lit} [ht:Und P t (.map k e)] [he:ElT P e sz bytes agg z] (Kd:Maps.Keyed P k) (h:ru P k w b l) (hq:keyOf P k key=some q)
 (hx:ev n F x=.map (some b)) (hi:ev n F i=key) (c1: ∀r,(key,r)∈l->Wl P n ds Q ops rest (upd F d (.tuple #[r,.bool true])) w) (c2:(∀p∈l,p.1≠key)->Wl P n ds Q ops rest (upd F d (.tuple #[z,.bool false])) w):
 Wl P n ds Q ops (⟨some d,.lookup t x i true,ty,pos,aft,none⟩::rest) F w:=by
 obtain ⟨r,f,hr,⟨rfl,hp⟩|⟨rfl,rfl,hp⟩⟩:=zX ht.h he Kd h hq
 ·exact Wl.val (by simp only [execOp,hx,hi,Sem.run_bind,hr,Result.andThen_ok,Sem.run_pure]) (c1 r hp)
 ·exact Wl.val (by simp only [execOp,hx,hi,Sem.run_bind,hr,Result.andThen_ok,Sem.run_pure]) (c2 hp)
theorem gX {t e m sz bytes aaL:Nat} {agg ahZ:Bool} {z ez:Value} {ps:List (Nat×Operand)} {parts:List (Nat×Value)} {cs:List Value} [ht:Und P t (.array m e)] [hee:ElT P e 1 aaL ahZ ez] [he:ElT P t sz bytes agg z] (hz:z.cells.size=m) (hps:ps.map (fun p=>(p.1,ev n F p.2))=parts) (hp: ∀p∈parts,p.1<m/\p.2.cells= #[p.2])
 (hcs:Hq z.cells parts=cs.toArray) (c:Wl P n ds Q ops rest (upd F d (.agg cs.toArray)) w):Wl P n ds Q ops (⟨some d,.build t ps.toArray,ty,pos,aft,none⟩::rest) F w:=by
 refine Wl.val ?_ c;subst hps;have Wy:=fill_flat (m:=m) (places:=fun i=>some (i*1,1)) _ z.cells hz (fun i _=>by rw [anx]) hp;have:(Instr.build t (ps.map (fun p=>(p.1,ev n F p.2))).toArray).run P w=.ok (.agg cs.toArray) w:=by simp only [Instr.build,Sem.run_bind,he.zeroValue,Result.andThen_ok,run_underlying ht.h,hee.sizeOf,Wy,hcs,Sem.run_pure]
 simp only [execOp,am9,Sem.run_bind];rw [this];rfl
theorem jV {x i y:Operand} {t k e:TypeId} {b:Nat} {l:List (Value×Value)} {key v0 u:Value} {q:Lit} [ht:Und P t (.map k e)] (Kd:Maps.Keyed P k) (h:ru P k w b l) (hq:keyOf P k key=some q) (hin:(key,v0)∈l)
 (hx:ev n F x=.map (some b)) (hi:ev n F i=key) (hy:ev n F y=u) (c: ∀w' j v,l[j]? =some (key,v)->ru P k w' b (l.set j (key,u))->Chg (fun j=>j=b) w w'->w'.heap.size=w.heap.size->Wl P n ds Q ops rest F w'):
 Wl P n ds Q ops (⟨none,.mapUpdate t x i y,ty,pos,aft,none⟩::rest) F w:=by
 have hlt:=h.lt;obtain ⟨es,clock,hh,rfl,hk⟩:=h;have hg:=run_getObj_map (P:=P) w b es clock hh;rcases Kd.find w hq es.toList hk with ⟨hf,hn⟩|⟨j,e0,hf,hj,rfl⟩
 ·obtain ⟨e1,he1,e2⟩:=List.mem_map.1 hin;simp only [Prod.mk.injEq] at e2;exact absurd e2.1 (hn e1 he1)
 ·let es':=es.modify j fun e=>{e with key:=e0.key,val:=u};have hl':es'.toList=es.toList.set j {e0 with val:=u}:=by
   have hjs:=(List.getElem?_eq_some_iff.1 hj);apply anC;intro m;simp only [es',aoQ,aoJ,anO];by_cases hm:j=m
   ·subst hm;simp only [if_true];rw [if_pos hjs.1];rw [aoQ] at hj;rw [hj];rfl
   ·rw [if_neg hm,if_neg hm]
  have h1:(w.heap.setIfInBounds b (.map es' clock))[b]? =some (.map es' clock):=by simp [Array.getElem?_setIfInBounds,hlt]
  have hset:(setObj b (.map es' clock)).run P w=.ok () {w with heap:=w.heap.setIfInBounds b (.map es' clock)}:=by simp [setObj,Sem.run,hh]
  have hpj:(es.toList.map (fun e=>(e.key,e.val)))[j]? =some (e0.key,e0.val):=by rw [an3,hj];rfl
  have hmap:es'.toList.map (fun e=>(e.key,e.val))=(es.toList.map (fun e=>(e.key,e.val))).set j (e0.key,u):=by rw [hl',List.map_set]
  refine fO (w':={w with heap:=w.heap.setIfInBounds b (.map es' clock)}) ?_ (c _ j e0.val hpj ⟨_,_,h1,hmap,fun e he=>?_⟩ ⟨rfl,rfl,rfl,by simp,fun j _ hj=>Array.getElem?_setIfInBounds_ne (Ne.symm hj)⟩ (by simp))
  ·have hst:=Kd.stays w hq;have hj':es[j]? =some e0:=by rw [aoQ] at hj;exact hj
   simp [execOp,hx,hi,hy,Instr.mapUpdate,run_underlying ht.h,hg,Kd.check w _ hq,hf,hj',hst,hset,es']
  ·rw [hl'] at he;rcases List.mem_or_eq_of_mem_set he with he|rfl
   ·exact hk e he
   ·exact hk e0 (aop hj)
end
section
variable {P:Program} {n:Nat} {ds:List Deferred} {Q:Po} {C:World->Prop} {K:Fr->Prop} {F:Fr} {w w':World} {ops rest:List Oper} {d:Nat} {ty:TypeId} {pos:String} {aft:Array Edge}
theorem nP.at {α:Type} {f:α->List Value} {e sz:Nat} {Pb Pe:Nat->Prop} {v:Value} {xs:List α} {g l cap j:Nat} {y:α} (h:nP (flat f) e sz Pb Pe w v xs) (hf:(f y).length=sz) (hv:v=.slice (some ⟨g,0,none⟩) l cap) (hy:xs[j]? =some y):At w g (j*sz) (f y):=by
 obtain ⟨cs,⟨hl,hc⟩,he⟩:=h;have hj:=(List.getElem?_eq_some_iff.1 hy).1;rcases hc with ⟨e1,_⟩|⟨g',cap',cur,e1,_,hg,h1,h2,h3,h4⟩
 ·rw [hv] at e1;cases e1
 ·rw [hv] at e1;cases e1;intro i u hu;have hel:(cs.drop (j*sz)).take sz=f y:=he j y hy;have hi:i<sz:=by rw [<-hf];exact (List.getElem?_eq_some_iff.1 hu).1
  rw [<-hel,aaQ,if_pos hi,ad6, <-h4,aaQ] at hu;split at hu
  ·simp only [World.cell?,hg];simpa using hu
  ·cases hu
theorem mQ {x lo:Operand} {t e sz bytes:Nat} {agg:Bool} {z:Value} {k:IntKind} {p:Option Addr} {l cap a:Nat} [ht:Und P t (.slice e)] [he:ElT P e sz bytes agg z] (hx:ev n F x=.slice p l cap) (hl:ev n F lo=.int k a) (h1:a<=l) (h2:l<=cap)
 (c:Wl P n ds Q ops rest (upd F d (.slice (if cap=a then p else p.map (·.add (a*sz))) (l-a) (cap-a))) w):Wl P n ds Q ops (⟨some d,.slice t x (some lo) none none,ty,pos,aft,none⟩::rest) F w:=by
 refine Wl.val (w':=w) ?_ c;have:=uI (P:=P) (w:=w) (p:=p) (l:=l) (cap:=cap) (lo:=some (.int k a)) (hi:=none) (a:=a) (b:=l) ht.h he (.inr ⟨k,rfl⟩) (.inl ⟨rfl,rfl⟩) h1 h2;simp only [execOp,hx,hl,ani,am6,Sem.run_bind,this,Result.andThen_ok,Sem.run_pure]
theorem mX {x lo:Operand} {t e sz bytes:Nat} {agg:Bool} {z:Value} {k:IntKind} {g o l cap a:Nat} [ht:Und P t (.slice e)] [he:ElT P e sz bytes agg z] (hx:ev n F x=.slice (some ⟨g,o,none⟩) l cap) (hl:ev n F lo=.int k a) (h1:a<l) (h2:l<=cap)
 (c:Wl P n ds Q ops rest (upd F d (.slice (some ⟨g,o+a*sz,none⟩) (l-a) (cap-a))) w):Wl P n ds Q ops (⟨some d,.slice t x (some lo) none none,ty,pos,aft,none⟩::rest) F w:=by
 refine mQ hx hl (Nat.le_of_lt h1) h2 ?_;rw [if_neg (by omega),am6,addr_add];exact c
theorem mY {x i:Operand} {t k e sz bytes:Nat} {agg:Bool} {z:Value} {b:Nat} {l:List (Value×Value)} {key:Value} {q:Lit} [ht:Und P t (.map k e)] [he:ElT P e sz bytes agg z] (Kd:Maps.Keyed P k) (hC: ∀w,C w->ru P k w b l) (hq:keyOf P k key=some q)
 (hu: ∀r r',(key,r)∈l->(key,r')∈l->r=r') (hx:ev n F x=.map (some b)) (hi:ev n F i=key)
 (c1: ∀r,(key,r)∈l->Wq P n ds C K ops rest (upd F d (.tuple #[r,.bool true]))) (c2:(∀p∈l,p.1≠key)->Wq P n ds C K ops rest (upd F d (.tuple #[z,.bool false]))):
 Wq P n ds C K ops (⟨some d,.lookup t x i true,ty,pos,aft,none⟩::rest) F:=by
 by_cases hin: ∃r,(key,r)∈l
 ·obtain ⟨r0,h0⟩:=hin;refine Wq.val (v:=.tuple #[r0,.bool true]) (fun w hw=>?_) (c1 r0 h0);obtain ⟨r,f,hr,⟨rfl,hp⟩|⟨rfl,rfl,hp⟩⟩:=zX ht.h he Kd (hC w hw) hq
  ·rw [hu r0 r h0 hp];simp only [execOp,hx,hi,Sem.run_bind,hr,Result.andThen_ok,Sem.run_pure]
  ·exact absurd rfl (hp _ h0)
 ·have hno: ∀p∈l,p.1≠key:=fun p hp e=>hin ⟨p.2,e▸hp⟩;refine Wq.val (v:=.tuple #[z,.bool false]) (fun w hw=>?_) (c2 hno);obtain ⟨r,f,hr,⟨rfl,hp⟩|⟨rfl,rfl,hp⟩⟩:=zX ht.h he Kd (hC w hw) hq
  ·exact absurd rfl (hno _ hp)
  ·simp only [execOp,hx,hi,Sem.run_bind,hr,Result.andThen_ok,Sem.run_pure]
theorem jW {fn:Func} {R:Ending->World->Prop} {t e g sz bytes:Nat} {z:Value} {T:TypeId} {cs:List Value} {u:TypeDesc} [hu:Und P e u] [he:ElT P e sz bytes true z] (h:fn.results= #[.cell t e]) (ht:ada t n=true) (hp:F t=.pointer (some ⟨g,0,none⟩)) (hb:Bk w g T cs)
 (hd:KO u=true) (hl:cs.length=sz) (k:R (.returned (.agg cs.toArray)) w):Qfn P n fn R .ret F w:=by
 unfold Qfn;refine ⟨.agg cs.toArray,results_cell_row h _ w g T cs.toArray (0,0) u ?_ hb hu.h (by cases u<;>first|rfl|cases hd) ?_,k⟩
 ·rw [ab9,uy,if_pos (by rwa [ana] at ht)];exact hp
 ·obtain ⟨i,h1,h2,_⟩:=he.inf;rw [h1,am6,h2,anu,hl]
end
structure LLs {β γ:Type} (f:β->List Value) (g:β->Value) (xs:β->List γ) (h:γ->Value) (te e sz:Nat) (Pb:Nat->Prop) (w:World) (v:Value) (bs:List β):Prop where
 row:nP (flat f) te sz Pb (fun _=>False) w v bs
 el: ∀b∈bs,nP (one h) e 1 Pb (fun _=>False) w (g b) (xs b)
 vz: ∀b∈bs,Sep (g b) v
 sep: ∀(i j:Nat) (b c:β),i≠j->bs[i]? =some b->bs[j]? =some c->Sep (g b) (g c)
section
variable {β γ:Type} {f:β->List Value} {g:β->Value} {xs:β->List γ} {h:γ->Value} {te e sz:Nat} {Pb Pb' M:Nat->Prop} {w w':World} {v:Value} {bs:List β}
theorem iY:LLs f g xs h te e sz Pb w (.slice none 0 0) []:=⟨aI,by simp,by simp,fun i j b c _ hb=>by simp at hb⟩
theorem LLs.chg (H:LLs f g xs h te e sz Pb w v bs) (c:Chg M w w') (hd: ∀k,Pb k-> ¬M k):LLs f g xs h te e sz Pb w' v bs:=
 ⟨H.row.chg (nK f) c fun k hk=>hd k (H.row.lt hk).1,fun b hb=>(H.el b hb).chg (nO h) c fun k hk=>hd k ((H.el b hb).lt hk).1,H.vz,H.sep⟩
theorem LLs.new (H:LLs f g xs h te e sz Pb w v bs) (c:New w w'):LLs f g xs h te e sz Pb w' v bs:=H.chg c i3
theorem LLs.mono (H:LLs f g xs h te e sz Pb w v bs) (hP: ∀b,b<w.heap.size->Pb b->Pb' b):LLs f g xs h te e sz Pb' w v bs:=
 ⟨H.row.mono (nS f) hP i3,fun b hb=>(H.el b hb).mono (nV h) hP i3,H.vz,H.sep⟩
theorem LLs.snoc (H:LLs f g xs h te e sz Pb w v bs) {b:β} {v':Value} (hr:nP (flat f) te sz Pb (fun _=>False) w' v' (bs++ [b])) (c:Chg (fun k=>v.ownBlock=some k) w w') (lie:v'.ownBlock=v.ownBlock∨ ∀k,v'.ownBlock=some k->w.heap.size<=k)
 (hb:nP (one h) e 1 Pb (fun _=>False) w (g b) (xs b)) (hs:Sep (g b) v) (hn: ∀c∈bs,Sep (g b) (g c)):LLs f g xs h te e sz Pb w' v' (bs++ [b]):=by
 have sg: ∀u ys,nP (one h) e 1 Pb (fun _=>False) w u ys->Sep u v->Sep u v':=fun u ys ho s k h1 h2=>by
  rcases lie with e|e
  ·exact s k h1 (e▸h2)
  ·have:=e k h2;have:=(ho.lt h1).2;omega
 refine ⟨hr,fun c hc=>?_,fun c hc=>?_,fun i j p q hij hp hq=>?_⟩
 ·rcases List.mem_append.1 hc with hc|hc
  ·exact (H.el c hc).zH (nO h) ‹_› (H.vz c hc)
  ·rw [List.mem_singleton.1 hc];exact hb.zH (nO h) ‹_› hs
 ·rcases List.mem_append.1 hc with hc|hc
  ·exact sg _ _ (H.el c hc) (H.vz c hc)
  ·rw [List.mem_singleton.1 hc];exact sg _ _ hb hs
 ·rw [List.getElem?_append] at hp hq;split at hp<;>split at hq
  ·exact H.sep i j p q hij hp hq
  ·have e1:q=b:=by have:=aop hq;simpa using this
   subst e1;exact (hn p (aop hp)).symm
  ·have e1:p=b:=by have:=aop hp;simpa using this
   subst e1;exact hn q (aop hq)
  ·rename_i h1 h2
   exfalso;have:=(List.getElem?_eq_some_iff.1 hp).1;have:=(List.getElem?_eq_some_iff.1 hq).1;simp at*;omega
theorem LLs.set (H:LLs f g xs h te e sz Pb w v bs) {i:Nat} {b b':β} {w1:World} (hi:bs[i]? =some b) (ho:nP (one h) e 1 Pb (fun _=>False) w1 (g b') (xs b')) (c1:Chg (fun k=>(g b).ownBlock=some k) w w1)
 (lie:(g b').ownBlock=(g b).ownBlock∨ ∀k,(g b').ownBlock=some k->w.heap.size<=k) (hr:nP (flat f) te sz Pb (fun _=>False) w' v (bs.set i b')) (c2:Chg (fun k=>v.ownBlock=some k) w1 w'):LLs f g xs h te e sz Pb w' v (bs.set i b'):=by
 have hb:=aop hi;have s': ∀u:Value,Sep (g b) u->(∀k,u.ownBlock=some k->k<w.heap.size)->Sep (g b') u:=fun u s hu k h1 h2=>by
  rcases lie with e|e
  ·exact s k (e▸h1) h2
  ·have:=e k h1;have:=hu k h2;omega
 have hvl: ∀k,v.ownBlock=some k->k<w.heap.size:=fun k hk=>(H.row.lt hk).2;have hil:=(List.getElem?_eq_some_iff.1 hi).1;have hmem: ∀j c,(bs.set i b')[j]? =some c->(j=i/\c=b')∨(j≠i/\bs[j]? =some c):=fun j c hc=>by
  rw [anO] at hc;split at hc
  ·rename_i e;subst e
   cases hc;exact .inl ⟨rfl,rfl⟩
  ·rename_i e;exact .inr ⟨fun e2=>e e2.symm,hc⟩
 refine ⟨hr,fun c hc=>?_,fun c hc=>?_,fun p q x y hpq hx hy=>?_⟩
 ·obtain ⟨j,hj⟩:=List.mem_iff_getElem?.1 hc;rcases hmem j c hj with ⟨rfl,rfl⟩|⟨hne,hj⟩
  ·exact ho.zH (nO h) c2 (s' v (H.vz b hb) hvl)
  ·have hc':=aop hj;exact ((H.el c hc').zH (nO h) c1 (H.sep j i c b hne hj hi)).zH (nO h) c2 (H.vz c hc')
 ·obtain ⟨j,hj⟩:=List.mem_iff_getElem?.1 hc;rcases hmem j c hj with ⟨rfl,rfl⟩|⟨hne,hj⟩
  ·exact s' v (H.vz b hb) hvl
  ·exact H.vz c (aop hj)
 ·rcases hmem p x hx with ⟨e1,e2⟩|⟨hp,hx1⟩<;>rcases hmem q y hy with ⟨e3,e4⟩|⟨hq,hy1⟩
  ·exact absurd (e1.trans e3.symm) hpq
  ·rw [e2];exact s' _ (H.sep i q b y (fun e=>hq e.symm) hi hy1) fun k hk=>((H.el y (aop hy1)).lt hk).2
  ·rw [e4];exact (s' _ (H.sep i p b x (fun e=>hp e.symm) hi hx1) fun k hk=>((H.el x (aop hx1)).lt hk).2).symm
  ·exact H.sep p q x y hpq hx1 hy1
end
end Go.Proofs.YtfbnfhhmiiahnaaGreatDoor.Wk
namespace Go.Proofs.YtfbnfhhmiiahnaaGreatDoor
open Go Wk
open Go.RowKit (Below)
attribute [local irreducible] Go.Calls
theorem Ba: ∀(ws:List Nat) (s:List UInt8) (r:List Nat) (s':List UInt8),BU ws s=some (r,s')->s'.length+4*ws.sum=s.length/\r.length=ws.length
 | [],s,r,s',h=>by simp [BU] at h;obtain ⟨rfl,rfl⟩:=h;simp
 |w::ws,s,r,s',h=>by
  rw [BU] at h;split at h
  ·cases h
  ·obtain ⟨⟨r2,s2⟩,h1,h2⟩:=Option.map_eq_some_iff.1 h;simp only [Prod.mk.injEq] at h2;obtain ⟨rfl,rfl⟩:=h2;have:=Ba ws _ _ _ h1;simp only [anS] at this;simp only [List.sum_cons,anJ];omega
theorem Oj {ws:List Nat} (hp:0<ws.sum): ∀(f g:Nat) (s:List UInt8),s.length<=f->s.length<=g->yT ws f s=yT ws g s
 |0,g,s,hf,_=>by obtain rfl:s=[]:=anf (by omega);cases g<;>simp [yT]
 |f+1,0,s,_,hg=>by obtain rfl:s=[]:=anf (by omega);simp [yT]
 |f+1,g+1,s,hf,hg=>by
  rw [yT,yT];split
  ·rfl
  ·rename_i hs
   have h0:0<s.length:=by cases s with|nil=>exact absurd rfl hs|cons=>simp
   cases h:BU ws s with
   |none=>rfl
   |some q=>obtain ⟨r,s'⟩:=q;have:=(Ba ws s r s' h).1;dsimp only;rw [Oj hp f g s' (by omega) (by omega)]
theorem UY (ws:List Nat):yU ws []=some []:=by simp [yU,yT]
theorem Iw {ws:List Nat} (hp:0<ws.sum) {s:List UInt8} (hs:s≠ []):yU ws s=match BU ws s with
 |none=>none
 |some (r,s')=>(yU ws s').map (r:: ·):=by
 have h0:0<s.length:=by cases s with|nil=>exact absurd rfl hs|cons=>simp
 unfold yU;obtain ⟨m,hm⟩: ∃m,s.length=m+1:=⟨s.length-1,by omega⟩;rw [hm,yT,if_neg hs];cases h:BU ws s with
 |none=>rfl
 |some q=>obtain ⟨r,s'⟩:=q;have:=(Ba ws s r s' h).1;dsimp only;rw [Oj hp m s'.length s' (by omega) (aap _)]
theorem Tm: ∀(ws:List Nat) (s:List UInt8) (r:List Nat) (s':List UInt8),(∀w∈ws,w<=2)->BU ws s=some (r,s')-> ∀x∈r,x<18446744073709551616
 | [],s,r,s',_,h,x,hx=>by simp [BU] at h;obtain ⟨rfl,rfl⟩:=h;simp at hx
 |w::ws,s,r,s',hw,h,x,hx=>by
  rw [BU] at h;split at h
  ·cases h
  ·obtain ⟨⟨r2,s2⟩,h1,h2⟩:=Option.map_eq_some_iff.1 h;simp only [Prod.mk.injEq] at h2;obtain ⟨rfl,rfl⟩:=h2;rcases List.mem_cons.1 hx with rfl|hx
   ·have h3:=yS (s.take (4*w));have h4:=Ia (s.take (4*w)).length 8 (by have:=hw w (by simp);simp only [anD];omega);have h8:(256:Nat)^8=18446744073709551616:=by decide
    omega
   ·exact Tm ws _ _ _ (fun w hw'=>hw w (List.mem_cons_of_mem _ hw')) h1 x hx
theorem Ol {ws:List Nat} (hw: ∀w∈ws,w<=2): ∀(f:Nat) (s:List UInt8) (rs:List (List Nat)),yT ws f s=some rs->(∀r∈rs,r.length=ws.length/\ ∀x∈r,x<18446744073709551616)/\rs.length<=f
 |0,s,rs,h=>by
  rw [yT] at h;split at h
  ·cases h;simp
  ·cases h
 |f+1,s,rs,h=>by
  rw [yT] at h;split at h
  ·cases h;simp
  ·cases hr:BU ws s with
   |none=>rw [hr] at h;cases h
   |some q=>
    obtain ⟨r,s'⟩:=q;rw [hr] at h;dsimp only at h;obtain ⟨rs',h1,rfl⟩:=Option.map_eq_some_iff.1 h;obtain ⟨i1,i2⟩:=Ol hw f s' rs' h1;refine ⟨fun r' hr'=>?_,by simp only [anJ];omega⟩;rcases List.mem_cons.1 hr' with rfl|hr'
    ·exact ⟨(Ba ws s r' s' hr).2,Tm ws s r' s' hw hr⟩
    ·exact i1 r' hr'
theorem y7 {ws:List Nat} (hw: ∀w∈ws,w<=2) {s:List UInt8} {rs:List (List Nat)} (h:yU ws s=some rs):(∀r∈rs,r.length=ws.length/\ ∀x∈r,x<18446744073709551616)/\rs.length<=s.length:=Ol hw _ _ _ h
def rRow:Rel (List Nat):=fun Pb w xs cs=> ∃v,cs=[v]/\RdS (Wk.one w64) 1 Pb w v xs
theorem BJ:Stable rRow:=kL (nZ _) 1
theorem x9:CO rRow:=CO.RdS (nV _) 1
theorem Y4:qH rRow 1:=⟨BJ,x9,fun Pb w x cs ⟨v,e,h⟩ _ c hc=>by
 subst e;obtain ⟨a,cap,rfl,_⟩:=h.form;simp at hc;subst hc;rfl⟩
theorem Tn:qH (Wk.one w64) 1:=tN _ fun _=>rfl
def Om (w w':World) (r:Value) (o:Option (List (List Nat))):Prop:= ∃v e,r=.tuple #[v,vi e]/\match o with
 |none=>e=4/\v=.slice none 0 0
 |some rs=>e=0/\RdS rRow 1 (fun b=>w.heap.size<=b) w' v rs
theorem J7 {Pb:Nat->Prop} {w:World} {v:Value} {s:List UInt8} {ws:List Nat} (h:RdS (Wk.one viN) 1 Pb w v ws) (hs:s.length<=1024) (hw: ∀x∈ws,x<=2) (hp:0<ws.sum) (hwl:ws.length<=3):
 Calls prog 202 #[vs s,v] w (Ret fun r w'=>Om w w' r (yU ws s)/\New w w'):=by
 obtain ⟨a,cap,rfl,hc1,hc2⟩:=h.form;refine nM func202 rfl ntmps202 rfl ?_;refine qq2 ?_;refine aA (σ:=List UInt8×Value×List (List Nat)) (fun q=>[(0,vs q.1),(1,.slice a ws.length cap),(6,q.2.1)]) (fun q W=>q.1.length+q.2.2.length<=1024/\yU ws s=(yU ws q.1).map (q.2.2++ ·)/\nP rRow 329 1 (fun b=>w.heap.size<=b) (fun b=>w.heap.size<=b) W q.2.1 q.2.2/\New w W) (fun q=>q.1.length) (s,.slice none 0 0,[]) (sl rfl) ⟨by simp;omega,by simp,aI,ay _ _⟩ ?_;rintro ⟨t,vo,rs⟩ G W ⟨hlen,hM,own,nW⟩;dsimp only at hlen hM own nW;simp only [pq];obtain ⟨oa,oc,rfl,_,_⟩:=own.form;(repeat' (first|refine qq4 ?_|refine aT rfl rfl (fun _=>?_) (fun _=>?_)))
 ·have ht:t≠ []:=by intro e;subst e;simp at*
  have hWl:=nW.size;refine aA (σ:=Nat×List UInt8×Value×List Nat) (fun q=>[(0,vs q.2.1),(1,.slice a ws.length cap),(6,.slice oa rs.length oc),(7,q.2.2.1),(16,.slice a ws.length cap),(17,vi ws.length),(18,vi q.1)]) (fun q W'=>q.1<=ws.length/\q.2.1.length<=t.length/\q.2.2.2.length=q.1/\BU ws t=(BU (ws.drop q.1) q.2.1).map (fun p=>(q.2.2.2++p.1,p.2))/\nP (Wk.one w64) 201 1 (fun b=>W.heap.size<=b) NoB W' q.2.2.1 q.2.2.2/\New W W') (fun q=>ws.length-q.1) (0,t,.slice none 0 0,[]) (sl rfl) ⟨anq _,aap _,rfl,by simp,aI,ay _ _⟩ ?_;rintro ⟨k,u,vr,ns⟩ G2 W2 ⟨hk,hul,hnl,hR,Dk,n2⟩;dsimp only at hk hul hnl hR Dk n2;simp only [pq];obtain ⟨ra,rc,rfl,_,_⟩:=Dk.form;(repeat' (first|refine qq4 ?_|refine aa2 (fun _=>?_) (fun _=>?_)))
  ·obtain ⟨x,hx⟩:=nT ws (k:=k) (by omega);have hxw:=hw x (aop hx);refine aZ (h.keep (nZ _) (New.trans nW n2).keep) rfl rfl (by omega) hx fun b o hcell=>?_;refine ah (u:=vi x) rfl hcell ?_;have hdr:ws.drop k=x::ws.drop (k+1):=drop_cons hx;rw [hdr,BU] at hR;(repeat' (first|refine qq7 ?_|refine aa2 (fun _=>?_) (fun _=>?_)))
   ·rw [if_pos (by omega)] at hR;rw [hM,Iw hp ht,hR];exact aB rfl rfl rfl ⟨_,rfl,⟨_,_,rfl,rfl,rfl⟩,New.trans nW n2⟩
   ·rw [if_neg (by omega)] at hR;have hux:((4:Int)*(x:Int)).toNat=4*x:=by omega
    refine jJ (l:=u) rfl rfl (by omega) (by omega) ?_;rw [hux];refine jk (l:=u.take (4*x)) rfl (by simp only [maxLen,anD];omega) fun w3 ah0 C fr hC htk hCs n3 s3 hr3=>?_;generalize hbb:u.take (4*x)=bs at hr3;have hbl:bs.length=4*x:=by rw [<-hbb,anD];omega
    refine qq4 ?_;refine aA (σ:=Nat) (fun i=>[(0,vs u),(1,.slice a ws.length cap),(6,.slice oa rs.length oc),(7,.slice ra ns.length rc),(9,vi x),(10,w64 (number (bs.take i))),(16,.slice a ws.length cap),(17,vi ws.length),(18,vi k),(31,.slice (some ⟨W2.heap.size,0,none⟩) bs.length ah0),(32,vi bs.length),(33,vi i)]) (fun i W'=>i<=bs.length/\W'=w3) (fun i=>bs.length-i) 0 (sl rfl) ⟨anq _,rfl⟩ ?_;rintro i G3 _ ⟨hi,rfl⟩;simp only [pq];(repeat' (first|refine qq4 ?_|refine aa2 (fun _=>?_) (fun _=>?_)))
    ·obtain ⟨c,hc⟩:=aaJ bs (k:=i) (by omega);have hn:=yS (bs.take i);have hp7:=Ia (bs.take i).length 7 (by simp only [anD];omega);have hcl:=c.toNat_lt;have h7:(256:Nat)^7=72057594037927936:=by decide
     refine aZ (f:=by8) hr3 rfl rfl (by omega) hc fun b o hcell=>?_;refine ah (u:=by8 c) rfl hcell ?_;refine qq6 ?_;refine jF rfl rfl (by omega) ?_;refine qq5 ?_;have e1:IntKind.u64.wrap ((number (bs.take i):Int)*2^(min (8:Int).toNat IntKind.u64.bits))=((number (bs.take i)*2^8:Nat):Int):=by rw [show (2:Int)^(min (8:Int).toNat IntKind.u64.bits)=256 from by decide,show (2:Nat)^8=256 from by decide,CQ rfl (by omega) (by simp only [IntKind.bits];omega)];omega
     have e2:IntKind.u64.wrap (c.toNat:Int)=(c.toNat:Int):=CQ rfl (by omega) (by simp only [IntKind.bits];omega);refine Wl.orU (number (bs.take i)) c.toNat 8 rfl e1 e2 (by omega) (by simp only [IntKind.bits];omega) rfl rfl ?_;refine qq6 ?_;refine ax (i+1) ⟨rfl,rfl,rfl,rfl,rfl,?_,rfl,rfl,rfl,rfl,rfl,rfl,trivial⟩ ⟨by omega,rfl⟩ (by omega);show Value.int _ _=Value.int _ _;rw [F9 hc]
    ·obtain rfl:i=bs.length:=by omega
     rw [aon];refine cu (R:=Wk.one w64) (y:=number bs) Tn (Dk.new (nO _) n3) rfl rfl rfl rfl rfl (by omega) (by omega) (by simp only [maxLen];omega) (by omega) rfl rfl fun v4 w4 p own4 c4 lie=>?_;refine qq6 ?_;refine jK (l:=u) rfl rfl (by omega) (by omega) ?_;rw [hux];refine qq6 ?_;refine ax (k+1,u.drop (4*x),v4,ns++ [number bs]) (sl rfl) ⟨by dsimp only;omega,by simp only [anS];omega,by simp;omega,?_,own4.mono Tn.mo (fun b hb e=>by rcases e with e|e;exact e;have:=n2.size;have:=n3.size;omega) i3,Chg.trans (New.trans n2 n3) c4 fun b hb e=>by have:=(Dk.lt e).1;omega⟩ (by dsimp only;omega);rw [hR,hbb];simp only [apk];congr 1;funext p;simp
  ·obtain rfl:k=ws.length:=by omega
   rw [aoG] at hR;simp only [BU,am6,aoS] at hR;have hs2:=n2.size;have hlu:=Ba ws t ns u hR;have rQ:nP rRow 329 1 (fun b=>w.heap.size<=b/\b<W.heap.size) (fun b=>w.heap.size<=b/\b<W.heap.size) W (.slice oa rs.length oc) rs:=own.mono x9 (fun b hb e=>⟨e,hb⟩) (fun b hb e=>⟨e,hb⟩);have wU:=(rQ.keep BJ (n2.keep) (n2.keep)).mono (Pb':=fun b=>w.heap.size<=b) (Pe':=fun b=>w.heap.size<=b) x9 (fun b hb e=>e.1) (fun b hb e=>e.1);refine cu (R:=rRow) (y:=ns) Y4 wU rfl rfl rfl rfl ⟨_,rfl,(Dk.rd (nV _)).mono (nV _) fun b hb e=>?_⟩ (by omega) (by omega) (by simp only [maxLen];omega) (by omega) rfl rfl fun v4 w4 p own4 c4 lie=>?_
   ·rcases e with e|e
    ·exact ⟨by omega,fun e2=>by have:=(rQ.lt e2).1;omega⟩
    ·exact e.elim
   refine qq6 ?_;refine ax (u,v4,rs++ [ns]) (sl rfl) ⟨by simp;omega,?_,own4.mono x9 (fun b hb e=>by rcases e with e|e;exact e;have:=nW.size;omega) i3,Chg.trans (New.trans nW n2) c4 fun b hb e=>by have:=(rQ.lt e).1;omega⟩ (by dsimp only;omega);rw [hM,Iw hp ht,hR];dsimp only;simp only [apk];congr 1;funext p;simp
 ·have ht:t=[]:=by
   cases t with
   |nil=>rfl
   |cons x r=>simp at*;omega
  subst ht;rw [UY] at hM;simp only [am6,aoS] at hM;rw [hM];exact aB rfl rfl rfl ⟨_,rfl,⟨_,_,rfl,rfl,(own.rd x9).mono x9 fun b _ e=>by rcases e with e|e<;>exact e⟩,nW⟩
end Go.Proofs.YtfbnfhhmiiahnaaGreatDoor
namespace Go.Proofs.YtfbnfhhmiiahnaaGreatDoor.Wk
open Go Go.RowKit
section
variable {P:Program} {n:Nat} {ds:List Deferred} {Q:Po} {F:Fr} {ops:List Oper} {C:World->Prop}
theorem gY {w:World} {id:Nat} (qs cs:List Nat) {lq lc:List Oper} (hm:P.follows .mixedOrders=true) (hB:(Z7 ops qs cs&&(qs.all (fun k=>decide (k<ops.length))&&(cs.all (fun k=>decide (k<ops.length))&& !(pick ops cs).isEmpty)))=true) (hq':pick ops qs=lq) (hc':pick ops cs=lc)
 (C:World->Prop) (hC:C w.drew) (h:Wq P n ds C (fun F'=>Wch P n ds C Q ops lc F' w.drew) ops lq F):Wc P n ds Q (.region id ops.toArray true) F w:=by
 unfold Wc;subst hq';subst hc';simp only [ann] at hB;obtain ⟨hB,hq,hc,hne⟩:=hB;replace hq:=Ht hq;replace hc:=Ht hc;simp only [Z7,ann,beq_iff_eq] at hB;obtain ⟨⟨⟨⟨h1,h2⟩,h3⟩,h4⟩,h5⟩:=hB;refine wp_region_any hm ?_;refine CS (last:=cs.getLast?.getD 0) (C:=C) _ _ _ _ ?_;have h0:Ap ops.toArray (anp ops.toArray.size false):=by intro j o hj;exfalso;simp only [ab9,Array.getElem?_replicate] at hj;split at hj<;>simp at hj
 have HL: ∀listed:Array Bool,Ap ops.toArray listed->cs.getLast?.getD 0∈Region.ready .any ops.toArray listed-> ∀i,i≠cs.getLast?.getD 0->i<ops.toArray.size->listed.getD i true=true:=by
  intro listed hcl hr i hil hi2;by_cases hi:i<listed.size
  ·have:=List.all_eq_true.1 h5 i (List.mem_range.2 hi2);have hmem:i∈ahead ops.toArray ops.toArray.size [cs.getLast?.getD 0]:=by simpa using this
   rcases xh hcl hr _ _ (by simp) i hmem with e|e
   ·exact absurd e hil
   ·simpa [ab9,Array.getElem?_eq_getElem hi] using e
  ·simp [ab9,Array.getElem?_eq_none (Nat.not_lt.1 hi)]
 have:=DW (P:=P) (C:=C) (Q:=QA n ds Q) (Region.noSelect_spec h1) HL cs.length qs _ (anp ops.toArray.size false) (act n ds F) w.drew (by simpa using hq) h2 h0 hC ?_
 ·rw [h4] at this;exact this
 ·unfold Wq at h;refine zF (fun a' ha=>?_) _ _ h;obtain ⟨F',rfl,hk⟩:=ha;exact DZ cs _ _ F' _ hc h3 (by intro e;rw [e] at hne;cases hne) hk
end
end Go.Proofs.YtfbnfhhmiiahnaaGreatDoor.Wk
namespace Go.Proofs.YtfbnfhhmiiahnaaGreatDoor
open Go Wk
open Go.RowKit (Below)
attribute [local irreducible] Go.Calls
theorem Grw.drew (w:World):Grw w w.drew:=⟨1, #[],by rw [Sort.grow_empty];rfl⟩
theorem Grw.refl (w:World):Grw w w:=⟨0, #[],by rw [Sort.grow_empty];rfl⟩
theorem Grw.alloc {w w':World} (h:Grw w w') (o:Obj):Grw w (w'.alloc o):=by
 obtain ⟨q,os,rfl⟩:=h;refine ⟨q,os.push o,?_⟩;simp [Sort.grow,World.alloc]
section
variable {P:Program} {n:Nat} {ds:List Deferred} {Q:Po} {F:Fr} {w:World} {ops rest:List Oper} {d:Nat} {ty:TypeId} {pos:String} {aft:Array Edge}
theorem jm {N:Nat} {ps:List (Nat×Operand)} {t e:TypeId} {bytes:Nat} {agg:Bool} {z:Value} {us:List Int} [ht:Und P t (.slice e)] [he:ElT P e 1 bytes agg z] (hN:us.length=N) (hps:ps.map (fun p=>(p.1,ev n F p.2))=NI 0 (us.map vi))
 (h0:0<us.length) (h1:us.length<=1000) (c: ∀v o,nP (Wk.one vi) e 1 (fun b=>w.heap.size<=b) NoB (w.alloc o) v us->Wl P n ds Q ops rest (upd F d v) (w.alloc o)):
 Wl P n ds Q ops (⟨some d,.buildSlice t N ps.toArray,ty,pos,aft,none⟩::rest) F w:=by
 subst hN;have hr:=wJ (P:=P) (w:=w) (us:=us.map vi) ht.h he (by intro u hu;obtain ⟨x,_,rfl⟩:=List.mem_map.1 hu;rfl) (by simpa using h0) (by simp;omega);have hfl: ∀us:List Int,(us.map vi).flatMap (fun u=>u.cells.toList)=us.map vi:=by
  intro us;induction us with
  |nil=>rfl
  |cons x r ih=>rw [acd,aoH,ih];rfl
 rw [hfl,aoR] at hr;refine Wl.val (w':=w.alloc (.cells (us.map vi).toArray e)) ?_ (c (.slice (some ⟨w.heap.size,0,none⟩) us.length us.length) _ ?_)
 ·simp only [execOp,am9,hps,Sem.run_bind,hr,Result.andThen_ok,Sem.run_pure]
 ·refine iC (m:=us.length) rfl ⟨by simp,.inr ⟨w.heap.size,us.length,(us.map vi).toArray,rfl,aap _,heap_alloc_new w _,aap _,by simp only [maxLen];omega,by simp,by rw [anx];exact anL (by simp)⟩⟩
end
theorem J8 {cs:List Cd} {t:List Nd} {i k:Nat} (hi:i<t.length) (h:qV cs t i=some k): ∃j c,(allM cs t)[i]? =some (some (k,j))/\cs[k]? =some c/\ER cs t i=c.level:=by
 unfold qV at h;obtain ⟨⟨k',j⟩,hf,e⟩:=Option.map_eq_some_iff.1 h;simp only at e;subst e;obtain ⟨c,hc⟩:=nT cs (NP hf).1;refine ⟨j,c,?_,hc,?_⟩
 ·unfold allM;rw [an3,aoT hi,am6,hf]
 ·unfold ER qV;rw [hf];simp only [am6];rw [an7,hc];rfl
theorem QH {Pc Pa Pp:Nat->Prop} {w:World} {bc ba bp:Nat} {vc va vp:Value} {cs:List Cd} {t:List Nd} {a b ka kb:Nat} (hbc:Bk w bc 23 [vc]) (hba:Bk w ba 154 [va]) (hbp:Bk w bp 24 [vp])
 (hc:RdS rCd 7 Pc w vc cs) (ha:RdS QB 2 Pa w va (allM cs t)) (hp:RdS (Wk.one vs) 1 Pp w vp ((ab8 t.length).map (oI t))) (hia:a<t.length) (hib:b<t.length) (hka:qV cs t a=some ka) (hkb:qV cs t b=some kb) (hcl:cs.length<=64) (htl:t.length<=512):
 Calls prog 144 #[vi a,vi b,.pointer (some ⟨bc,0,none⟩),.pointer (some ⟨ba,0,none⟩),.pointer (some ⟨bp,0,none⟩)] w (Ret fun r w'=>r=vi (qY (ER cs t) (oI t) a b)/\Grw w w'):=by
 obtain ⟨ac,cc,rfl,_,_⟩:=hc.form;obtain ⟨aa,ca,rfl,_,_⟩:=ha.form;obtain ⟨ap,cp,rfl,_,_⟩:=hp.form;obtain ⟨x2,ca',xm,xc,xl⟩:=J8 hia hka;obtain ⟨y2,cb',ym,yc,yl⟩:=J8 hib hkb;have al4:=(List.getElem?_eq_some_iff.1 xc).1;have al5:=(List.getElem?_eq_some_iff.1 yc).1;refine nM func144 rfl ntmps144 rfl ?_;refine qq4 ?_;refine gY [0,1,2,3,4,5,6,7,8,9,10,11,12,13,14,15,16,17,19,20,21,22,23,24,25,26] [18,27,28,29,30] rfl (by kernel_rfl) (by simp only [pick,apl,apm];rfl) (by simp only [pick,apl,apm];rfl) (Grw w) (Grw.drew w) ?_;refine au (u:=.slice ac cs.length cc) rfl (fun w' hw=>(hbc.chg hw.new id).cell (o:=0) rfl) ?_;refine au (u:=.slice aa (allM cs t).length ca) rfl (fun w' hw=>(hba.chg hw.new id).cell (o:=0) rfl) ?_;(repeat' (refine aa3 ?_));refine bQ (j:=a) (y:=some (ka,x2)) ha (fun w' hw=>hw.new.keep) rfl rfl (by omega) xm fun bb off cs' hcl hR hat=>?_;obtain rfl:cs'=yM (some (ka,x2)):=hR;(repeat' (refine aa6 ?_));refine au (u:=vi ka) rfl (fun w' hw=>(hat w' hw).get 0 rfl) ?_;clear hat;refine bQ (j:=ka) (y:=ca') hc (fun w' hw=>hw.new.keep) rfl rfl (by omega) xc fun bb off cs' hcl hR hat=>?_;obtain ⟨al6,rfl,_⟩:=hR;(repeat' (refine aa6 ?_));refine au (u:=.int .u8 ca'.level) rfl (fun w' hw=>(hat w' hw).get 2 rfl) ?_;clear hat;refine au (u:=.slice ac cs.length cc) rfl (fun w' hw=>(hbc.chg hw.new id).cell (o:=0) rfl) ?_;refine au (u:=.slice aa (allM cs t).length ca) rfl (fun w' hw=>(hba.chg hw.new id).cell (o:=0) rfl) ?_;(repeat' (refine aa3 ?_));refine bQ (j:=b) (y:=some (kb,y2)) ha (fun w' hw=>hw.new.keep) rfl rfl (by omega) ym fun bb off cs' hcl hR hat=>?_;obtain rfl:cs'=yM (some (kb,y2)):=hR;(repeat' (refine aa6 ?_));refine au (u:=vi kb) rfl (fun w' hw=>(hat w' hw).get 0 rfl) ?_;clear hat;refine bQ (j:=kb) (y:=cb') hc (fun w' hw=>hw.new.keep) rfl rfl (by omega) yc fun bb off cs' hcl hR hat=>?_;obtain ⟨al7,rfl,_⟩:=hR;(repeat' (refine aa6 ?_));refine au (u:=.int .u8 cb'.level) rfl (fun w' hw=>(hat w' hw).get 2 rfl) ?_;clear hat;refine au (u:=.slice ap ((ab8 t.length).map (oI t)).length cp) rfl (fun w' hw=>(hbp.chg hw.new id).cell (o:=0) rfl) ?_;(repeat' (refine aa3 ?_));refine bQ (j:=a) (y:=oI t a) hp (fun w' hw=>hw.new.keep) rfl rfl (by omega) (by rw [ant,an3,aoT hia];rfl) fun bb off cs' hcl hR hat=>?_;obtain rfl:cs'=[vs (oI t a)]:=hR;refine au (u:=vs (oI t a)) rfl (fun w' hw=>(hat w' hw).get 0 rfl) ?_;clear hat;refine au (u:=.slice ap ((ab8 t.length).map (oI t)).length cp) rfl (fun w' hw=>(hbp.chg hw.new id).cell (o:=0) rfl) ?_;(repeat' (refine aa3 ?_));refine bQ (j:=b) (y:=oI t b) hp (fun w' hw=>hw.new.keep) rfl rfl (by omega) (by rw [ant,an3,aoT hib];rfl) fun bb off cs' hcl hR hat=>?_;obtain rfl:cs'=[vs (oI t b)]:=hR;refine au (u:=vs (oI t b)) rfl (fun w' hw=>(hat w' hw).get 0 rfl) ?_;clear hat;(repeat' (refine af ?_));refine dI ?_;refine aj (yL (a:=ca'.level) (b:=cb'.level)) rfl ?_;rintro _ _ ⟨rfl,rfl⟩;refine ai ⟨rfl,Grw.drew w,?_⟩;refine dI ?_;refine aj (wS (a:=oI t a) (b:=oI t b)) rfl ?_;rintro _ _ ⟨rfl,rfl⟩;refine ai ⟨rfl,Grw.drew w,?_⟩;refine dI ?_;refine jm (us:=[yK ca'.level cb'.level,Ec (oI t a) (oI t b)]) rfl rfl (by simp) (by simp) fun v o own=>?_;obtain ⟨va,ac8,rfl,_,_⟩:=own.form;have hgr:Grw w (w.drew.alloc o):=(Grw.drew w).alloc o;refine ai ⟨rfl,hgr,?_⟩;refine dI ?_;refine aj (Lj (own.rd (nV _))) rfl ?_;rintro _ _ ⟨rfl,rfl⟩;refine ai ⟨rfl,hgr,?_⟩;refine Wch.last ?_;have hk:=Tc (ER cs t) (oI t) a b;rw [xl,yl] at hk;rw [hk];refine qq3 ?_;exact ak rfl rfl ⟨_,rfl,rfl,hgr⟩
end Go.Proofs.YtfbnfhhmiiahnaaGreatDoor
