/-
  Texts of this claim, one behind the other: Facts, Shelf, Nm, Ta, Tb, Sp, B1, Lit, Jg, Ut, Ho, BJ, B5, B2, B6, B3, B4, B7, So, BH, BI, Br, If, Pan, BE, It, BN, B9.
-/
import Derived.Test.YtfbnfhhmiiahnaaGreatDoorZa
import Derived.Test.YtfbnfhhmiiahnaaGreatDoorChecked
import Derived.Shelf.Strings.Builder1
import Derived.Shelf.Strings.Builder2
import Derived.Shelf.Strings.OnBuilder
import Derived.Shelf.Small.Utf8
import Derived.Shelf.Small.Bits
import Derived.Shelf.Small.Strs
import Derived.Shelf.Small.Wraps
import Derived.Shelf.Strings.BuilderF
import Derived.Shelf.Strings.BuilderK
import Derived.Shelf.Utf8.RuneCount
import Derived.Shelf.Strings.Builder2Cap
import Derived.Shelf.Strconv.Itoa0
import Derived.Shelf.Strings.Search1
import Derived.Shelf.Strings.Search2
import Derived.Shelf.Strings.Search3
import Derived.Shelf.Strings.Count
import Derived.Shelf.LaysM
import Derived.Shelf.Strings.Shaped
import Derived.Shelf.GgClosure.StringsIndexFunc
import Derived.Ground.GgwProg
import Derived.Shelf.GgClosure.StringsIndexFuncTop
import Derived.Shelf.GgClosure.StringsRunes
import Derived.Shelf.Strings.Prefix
import Derived.Shelf.Strings.Split
import Derived.Shelf.Strings.SplitShaped
import Derived.Shelf.Unicode.Decode
import Derived.Shelf.Strings.Runes
import Derived.Shelf.Strings.RuneCount
import Derived.Shelf.Strings.Explode
import Derived.Shelf.Unicode.DecodeSlow
import Derived.Shelf.Unicode.DecodeAny
import Derived.Shelf.Strings.FuncGrows
import Derived.Shelf.Strings.BuilderCap
import Derived.Shelf.Slices.Turned
import Derived.Ground.Names2Prog
import Derived.Shelf.Slices.ReverseS
import Derived.Shelf.Slices.Clone
import Derived.Shelf.Slices.Cells
import Derived.Ground.SlsfProg
import Derived.Shelf.SlSortCmp.Insertion
import Derived.Shelf.SlSortCmp.SiftDown1
import Derived.Shelf.SlSortCmp.HeapSort1
import Derived.Shelf.SlSortCmp.Insertion1
import Derived.Shelf.SlSortCmp.Median1
import Derived.Shelf.SlSortCmp.Pivot1
import Derived.Shelf.SlSortCmp.ReverseRange1
import Derived.Shelf.SlSortCmp.PartialInsertion1
import Derived.Shelf.SlSortCmp.PartitionEqual1
import Derived.Shelf.SlSortCmp.Partition1
import Derived.Shelf.SlSortCmp.Pdq1
import Derived.Shelf.SlSortCmp.Whole1
import Derived.Shelf.SlSortCmp.NoneTotal
import Derived.Test.YtfbnfhhmiiahnaaGreatDoorProg
import Derived.Lib.IndexLaws
import Derived.StringKeys
import Derived.DeepKeys3
import Derived.Sort.Row
import Derived.Sort.Grow
import Derived.Lib.Join
import Derived.Lib.SplitLaws
import Derived.Shelf.Strings.SplitCore
import Derived.Lib.IfaceEq
import Derived.WideLaws
import Derived.Defers
import Derived.Recover
import Derived.Laws.Cover1
import Derived.Lib.OthersKept
import Derived.Lib.TrimUEq
import Derived.Laws.BitsLemmas
set_option linter.all false
set_option maxHeartbeats 16000000
set_option maxRecDepth 8000
open UInt8 renaming ofNat → aqe,toNat_ofNat' → aqx
open Bool renaming true_and → aqf,and_eq_true → ao0,eq_false_iff → apI,false_and → aqg,not_false → aqm,not_eq_true' → aqu,and_false → aqy,not_true → aqz,not_eq_false → aqC,or_eq_true → ap6,false_or → ap7,or_true → aqX
open Nat renaming zero_le → aoZ,le_refl → aat,add_mul → aaJ,zero_add → acL,strongRecOn → aqj,mul_one → ao7,beq → aoX,ne_of_beq_eq_false → ao9,eq_zero_or_pos → apy,one_mul → aqD,zero_mul → apw,add_sub_cancel → aqF,mul_add → aqG,pow_succ → aqH
open List renaming range → abS,length_cons → aph,getElem?_eq_getElem → adK,flatMap_cons → aqh,drop_length → aqi,getD_eq_getElem?_getD → apJ,mem_of_getElem? → apD,length_take → apb,getElem?_take → aav,mem_filter → aoW,take_length → apZ,cons_append → aeH,length_append → adL,nil_append → aoQ,foldl_cons → aqk,take_add_one → aql,drop_eq_getElem_cons → apd,size_toArray → ao4,map_append → aqn,drop_eq_nil_of_le → aqo,getElem?_map → apF,map_map → aqa,mem_of_find?_eq_some → aqr,mem_range → aoV,getElem?_eq_none → aoS,length_singleton → apm,eq_nil_of_length_eq_zero → aoP,take_append_drop → apN,take → aqs,length_map → aqt,find?_cons_of_neg → aqv,foldl → aqE,drop_zero → apk,take_of_length_le → apl,map_toArray → adM,getLast?_eq_getElem? → aqI,append_nil → aqJ,headD_eq_head?_getD → aqK,head?_eq_getElem? → aqL,find?_cons_of_pos → aqM,all_cons → aqN,lt_trans → aqO,attach_map_subtype_val → aqP,length_attach → aqQ,filter_filter → aqR,all_eq_true → aqS,contains_iff_mem → aqT,find?_some → aqU,filter_sublist → ao8,getElem_mem → aqW
open Array renaming getD_eq_getD_getElem? → acf,getElem?_eq_getElem → aaW,getElem?_modify → aqp,getElem?_append_left → aqw,replicate → ao1,getElem?_replicate → apa
open Int renaming toNat_natCast → ao3,eq_ofNat_of_zero_le → aoR,lt_or_le → aqV
open Decidable renaming not_not → aqA
open Option renaming getD_some → aqB,map_some → adJ
open Go.Proofs.Tryz
namespace Go.Proofs.YtfbnfhhmiiahnaaGreatDoor
open Go.Proofs.YtfbnfhhmiiahnaaGreatDoor.Wk
instance anq:ElT prog 1 1 8 false (.nilFunc):=aI (by kernel_rfl) rfl (by kernel_rfl)
instance anr:Und prog 3 (.int .i64):=⟨underlying3⟩
instance ant:ElT prog 3 1 8 false (.int .i64 0):=aI (by kernel_rfl) rfl (by kernel_rfl)
instance anu:Und prog 4 .bool:=⟨underlying4⟩
instance anv:ElT prog 4 1 1 false (.bool false):=aI (by kernel_rfl) rfl (by kernel_rfl)
instance anw:Und prog 5 (.int .u8):=⟨underlying5⟩
instance anx:ElT prog 5 1 1 false (.int .u8 0):=aI (by kernel_rfl) rfl (by kernel_rfl)
instance anz:Und prog 9 .string:=⟨underlying9⟩
instance anA:ElT prog 9 1 16 false (.string ⟨#[]⟩):=aI (by kernel_rfl) rfl (by kernel_rfl)
instance akX:Und prog 21 (.int .i32):=⟨underlying21⟩
instance akY:Und prog 22 (.slice 73):=⟨underlying22⟩
instance akZ:ElT prog 22 1 24 false (.slice none 0 0):=aI (by kernel_rfl) rfl (by kernel_rfl)
instance ak0:Und prog 23 (.slice 79):=⟨underlying23⟩
instance ak1:ElT prog 23 1 24 false (.slice none 0 0):=aI (by kernel_rfl) rfl (by kernel_rfl)
instance ak2:Und prog 24 (.slice 9):=⟨underlying24⟩
instance ak3:ElT prog 24 1 24 false (.slice none 0 0):=aI (by kernel_rfl) rfl (by kernel_rfl)
instance agd:Fld prog 26 0 0 22:=⟨⟨_,_,underlying26,rfl,rfl,rfl⟩⟩
instance agf:Fld prog 26 1 1 23:=⟨⟨_,_,underlying26,rfl,rfl,rfl⟩⟩
instance agh:Fld prog 26 2 2 24:=⟨⟨_,_,underlying26,rfl,rfl,rfl⟩⟩
instance agi:Fld prog 26 3 3 24:=⟨⟨_,_,underlying26,rfl,rfl,rfl⟩⟩
instance ak4:ElT prog 26 4 96 true (.agg #[.slice none 0 0,.slice none 0 0,.slice none 0 0,.slice none 0 0]):=aI (by kernel_rfl) rfl (by kernel_rfl)
instance ak5:Und prog 27 (.slice 50):=⟨underlying27⟩
instance agj:Fld prog 28 0 0 22:=⟨⟨_,_,underlying28,rfl,rfl,rfl⟩⟩
instance agk:Fld prog 28 1 1 23:=⟨⟨_,_,underlying28,rfl,rfl,rfl⟩⟩
instance agl:Fld prog 28 2 2 24:=⟨⟨_,_,underlying28,rfl,rfl,rfl⟩⟩
instance agm:Fld prog 28 3 3 24:=⟨⟨_,_,underlying28,rfl,rfl,rfl⟩⟩
instance ak6:ElT prog 28 4 96 true (.agg #[.slice none 0 0,.slice none 0 0,.slice none 0 0,.slice none 0 0]):=aI (by kernel_rfl) rfl (by kernel_rfl)
instance ak7:Und prog 30 (.slice 92):=⟨underlying30⟩
instance ak8:ElT prog 30 1 24 false (.slice none 0 0):=aI (by kernel_rfl) rfl (by kernel_rfl)
instance ak9:Und prog 31 (.slice 122):=⟨underlying31⟩
instance ala:ElT prog 31 1 24 false (.slice none 0 0):=aI (by kernel_rfl) rfl (by kernel_rfl)
instance alb:Und prog 32 (.slice 100):=⟨underlying32⟩
instance alc:ElT prog 32 1 24 false (.slice none 0 0):=aI (by kernel_rfl) rfl (by kernel_rfl)
instance agn:Fld prog 34 0 0 30:=⟨⟨_,_,underlying34,rfl,rfl,rfl⟩⟩
instance agp:Fld prog 34 1 1 31:=⟨⟨_,_,underlying34,rfl,rfl,rfl⟩⟩
instance agq:Fld prog 34 2 2 32:=⟨⟨_,_,underlying34,rfl,rfl,rfl⟩⟩
instance agr:Fld prog 34 3 3 32:=⟨⟨_,_,underlying34,rfl,rfl,rfl⟩⟩
instance ald:ElT prog 34 4 96 true (.agg #[.slice none 0 0,.slice none 0 0,.slice none 0 0,.slice none 0 0]):=aI (by kernel_rfl) rfl (by kernel_rfl)
instance ale:Und prog 38 (.pointer 85):=⟨underlying38⟩
instance alf:ElT prog 38 1 8 false (.pointer none):=aI (by kernel_rfl) rfl (by kernel_rfl)
instance alg:Und prog 42 (.slice 65):=⟨underlying42⟩
instance alh:ElT prog 42 1 24 false (.slice none 0 0):=aI (by kernel_rfl) rfl (by kernel_rfl)
instance ali:Und prog 44 (.slice 4):=⟨underlying44⟩
instance alj:ElT prog 44 1 24 false (.slice none 0 0):=aI (by kernel_rfl) rfl (by kernel_rfl)
instance alk:Und prog 46 (.slice 64):=⟨underlying46⟩
instance alm:ElT prog 46 1 24 false (.slice none 0 0):=aI (by kernel_rfl) rfl (by kernel_rfl)
instance aln:Und prog 48 (.slice 105):=⟨underlying48⟩
instance alo:ElT prog 48 1 24 false (.slice none 0 0):=aI (by kernel_rfl) rfl (by kernel_rfl)
instance ags:Fld prog 50 0 0 3:=⟨⟨_,_,underlying50,rfl,rfl,rfl⟩⟩
instance agt:Fld prog 50 1 1 3:=⟨⟨_,_,underlying50,rfl,rfl,rfl⟩⟩
instance agu:Fld prog 50 2 2 24:=⟨⟨_,_,underlying50,rfl,rfl,rfl⟩⟩
instance agv:Fld prog 50 3 3 48:=⟨⟨_,_,underlying50,rfl,rfl,rfl⟩⟩
instance alp:ElT prog 50 4 64 true (.agg #[.int .i64 0,.int .i64 0,.slice none 0 0,.slice none 0 0]):=aI (by kernel_rfl) rfl (by kernel_rfl)
instance alq:ElT prog 51 1 8 false (.nilFunc):=aI (by kernel_rfl) rfl (by kernel_rfl)
instance alr:Und prog 55 (.slice 75):=⟨underlying55⟩
instance als:ElT prog 55 1 24 false (.slice none 0 0):=aI (by kernel_rfl) rfl (by kernel_rfl)
instance agw:Fld prog 59 0 0 4:=⟨⟨_,_,underlying59,rfl,rfl,rfl⟩⟩
instance agx:Fld prog 59 1 1 4:=⟨⟨_,_,underlying59,rfl,rfl,rfl⟩⟩
instance agy:Fld prog 59 2 2 3:=⟨⟨_,_,underlying59,rfl,rfl,rfl⟩⟩
instance agz:Fld prog 59 3 3 46:=⟨⟨_,_,underlying59,rfl,rfl,rfl⟩⟩
instance alu:ElT prog 59 4 40 true (.agg #[.bool false,.bool false,.int .i64 0,.slice none 0 0]):=aI (by kernel_rfl) rfl (by kernel_rfl)
instance agA:Fld prog 64 0 0 3:=⟨⟨_,_,underlying64,rfl,rfl,rfl⟩⟩
instance agB:Fld prog 64 1 1 4:=⟨⟨_,_,underlying64,rfl,rfl,rfl⟩⟩
instance alv:ElT prog 64 2 16 true (.agg #[.int .i64 0,.bool false]):=aI (by kernel_rfl) rfl (by kernel_rfl)
instance alx:Und prog 65 (.slice 3):=⟨underlying65⟩
instance aly:ElT prog 65 1 24 false (.slice none 0 0):=aI (by kernel_rfl) rfl (by kernel_rfl)
instance agC:Fld prog 70 0 0 9:=⟨⟨_,_,underlying70,rfl,rfl,rfl⟩⟩
instance agD:Fld prog 70 1 1 9:=⟨⟨_,_,underlying70,rfl,rfl,rfl⟩⟩
instance alz:ElT prog 70 2 32 true (.agg #[.string ⟨#[]⟩,.string ⟨#[]⟩]):=aI (by kernel_rfl) rfl (by kernel_rfl)
instance alA:Und prog 71 (.slice 70):=⟨underlying71⟩
instance alB:ElT prog 71 1 24 false (.slice none 0 0):=aI (by kernel_rfl) rfl (by kernel_rfl)
instance agE:Fld prog 73 0 0 3:=⟨⟨_,_,underlying73,rfl,rfl,rfl⟩⟩
instance agF:Fld prog 73 1 1 9:=⟨⟨_,_,underlying73,rfl,rfl,rfl⟩⟩
instance agG:Fld prog 73 2 2 71:=⟨⟨_,_,underlying73,rfl,rfl,rfl⟩⟩
instance alC:ElT prog 73 3 48 true (.agg #[.int .i64 0,.string ⟨#[]⟩,.slice none 0 0]):=aI (by kernel_rfl) rfl (by kernel_rfl)
instance agH:Fld prog 75 0 0 3:=⟨⟨_,_,underlying75,rfl,rfl,rfl⟩⟩
instance agI:Fld prog 75 1 1 9:=⟨⟨_,_,underlying75,rfl,rfl,rfl⟩⟩
instance alD:ElT prog 75 2 24 true (.agg #[.int .i64 0,.string ⟨#[]⟩]):=aI (by kernel_rfl) rfl (by kernel_rfl)
instance alE:ElT prog 76 1 1 false (.int .i8 0):=aI (by kernel_rfl) rfl (by kernel_rfl)
instance alF:ElT prog 77 1 2 false (.int .i16 0):=aI (by kernel_rfl) rfl (by kernel_rfl)
instance agJ:Fld prog 79 0 0 9:=⟨⟨_,_,underlying79,rfl,rfl,rfl⟩⟩
instance agK:Fld prog 79 1 1 9:=⟨⟨_,_,underlying79,rfl,rfl,rfl⟩⟩
instance agL:Fld prog 79 2 2 5:=⟨⟨_,_,underlying79,rfl,rfl,rfl⟩⟩
instance agM:Fld prog 79 3 3 24:=⟨⟨_,_,underlying79,rfl,rfl,rfl⟩⟩
instance agN:Fld prog 79 4 4 76:=⟨⟨_,_,underlying79,rfl,rfl,rfl⟩⟩
instance agO:Fld prog 79 5 5 9:=⟨⟨_,_,underlying79,rfl,rfl,rfl⟩⟩
instance agP:Fld prog 79 6 6 77:=⟨⟨_,_,underlying79,rfl,rfl,rfl⟩⟩
instance alG:ElT prog 79 7 96 true (.agg #[.string ⟨#[]⟩,.string ⟨#[]⟩,.int .u8 0,.slice none 0 0,.int .i8 0,.string ⟨#[]⟩,.int .i16 0]):=aI (by kernel_rfl) rfl (by kernel_rfl)
instance alH:Und prog 80 (.pointer 128):=⟨underlying80⟩
instance alI:ElT prog 80 1 8 false (.pointer none):=aI (by kernel_rfl) rfl (by kernel_rfl)
instance alJ:Und prog 83 (.slice 94):=⟨underlying83⟩
instance alK:ElT prog 83 1 24 false (.slice none 0 0):=aI (by kernel_rfl) rfl (by kernel_rfl)
instance agQ:Fld prog 85 0 0 83:=⟨⟨_,_,underlying85,rfl,rfl,rfl⟩⟩
instance agR:Fld prog 85 1 1 65:=⟨⟨_,_,underlying85,rfl,rfl,rfl⟩⟩
instance agS:Fld prog 85 2 2 65:=⟨⟨_,_,underlying85,rfl,rfl,rfl⟩⟩
instance agT:Fld prog 85 3 3 4:=⟨⟨_,_,underlying85,rfl,rfl,rfl⟩⟩
instance alL:ElT prog 85 4 80 true (.agg #[.slice none 0 0,.slice none 0 0,.slice none 0 0,.bool false]):=aI (by kernel_rfl) rfl (by kernel_rfl)
instance agU:Fld prog 92 0 0 5:=⟨⟨_,_,underlying92,rfl,rfl,rfl⟩⟩
instance agV:Fld prog 92 1 1 3:=⟨⟨_,_,underlying92,rfl,rfl,rfl⟩⟩
instance agW:Fld prog 92 2 2 3:=⟨⟨_,_,underlying92,rfl,rfl,rfl⟩⟩
instance alM:ElT prog 92 3 24 true (.agg #[.int .u8 0,.int .i64 0,.int .i64 0]):=aI (by kernel_rfl) rfl (by kernel_rfl)
instance agX:Fld prog 94 0 0 9:=⟨⟨_,_,underlying94,rfl,rfl,rfl⟩⟩
instance agY:Fld prog 94 1 1 4:=⟨⟨_,_,underlying94,rfl,rfl,rfl⟩⟩
instance agZ:Fld prog 94 2 2 4:=⟨⟨_,_,underlying94,rfl,rfl,rfl⟩⟩
instance ag0:Fld prog 94 3 3 65:=⟨⟨_,_,underlying94,rfl,rfl,rfl⟩⟩
instance ag1:Fld prog 94 4 4 65:=⟨⟨_,_,underlying94,rfl,rfl,rfl⟩⟩
instance ag2:Fld prog 94 5 5 4:=⟨⟨_,_,underlying94,rfl,rfl,rfl⟩⟩
instance alN:ElT prog 94 6 80 true (.agg #[.string ⟨#[]⟩,.bool false,.bool false,.slice none 0 0,.slice none 0 0,.bool false]):=aI (by kernel_rfl) rfl (by kernel_rfl)
instance alO:Und prog 98 (.slice 181):=⟨underlying98⟩
instance alP:ElT prog 98 1 24 false (.slice none 0 0):=aI (by kernel_rfl) rfl (by kernel_rfl)
instance adN:Fld prog 100 0 0 3:=⟨⟨_,_,underlying100,rfl,rfl,rfl⟩⟩
instance adO:Fld prog 100 1 1 3:=⟨⟨_,_,underlying100,rfl,rfl,rfl⟩⟩
instance adP:Fld prog 100 3 3 4:=⟨⟨_,_,underlying100,rfl,rfl,rfl⟩⟩
instance adQ:Fld prog 100 4 4 3:=⟨⟨_,_,underlying100,rfl,rfl,rfl⟩⟩
instance adR:Fld prog 100 5 5 98:=⟨⟨_,_,underlying100,rfl,rfl,rfl⟩⟩
instance ahg:ElT prog 100 6 56 true (.agg #[.int .i64 0,.int .i64 0,.int .u8 0,.bool false,.int .i64 0,.slice none 0 0]):=aI (by kernel_rfl) rfl (by kernel_rfl)
instance adS:Fld prog 105 0 0 3:=⟨⟨_,_,underlying105,rfl,rfl,rfl⟩⟩
instance adT:Fld prog 105 1 1 9:=⟨⟨_,_,underlying105,rfl,rfl,rfl⟩⟩
instance ahh:ElT prog 105 2 24 true (.agg #[.int .i64 0,.string ⟨#[]⟩]):=aI (by kernel_rfl) rfl (by kernel_rfl)
instance ahi:Und prog 108 (.slice 1):=⟨underlying108⟩
instance ahj:ElT prog 108 1 24 false (.slice none 0 0):=aI (by kernel_rfl) rfl (by kernel_rfl)
instance ahk:Und prog 116 (.map 3 3):=⟨underlying116⟩
instance ahl:ElT prog 116 1 8 false (.map none):=aI (by kernel_rfl) rfl (by kernel_rfl)
instance ahm:ElT prog 117 1 8 false (.nilFunc):=aI (by kernel_rfl) rfl (by kernel_rfl)
instance ahn:Und prog 120 (.slice 169):=⟨underlying120⟩
instance aho:ElT prog 120 1 24 false (.slice none 0 0):=aI (by kernel_rfl) rfl (by kernel_rfl)
instance adU:Fld prog 122 0 0 65:=⟨⟨_,_,underlying122,rfl,rfl,rfl⟩⟩
instance adV:Fld prog 122 1 1 120:=⟨⟨_,_,underlying122,rfl,rfl,rfl⟩⟩
instance ahp:ElT prog 122 2 48 true (.agg #[.slice none 0 0,.slice none 0 0]):=aI (by kernel_rfl) rfl (by kernel_rfl)
instance ahq:Und prog 125 (.slice 130):=⟨underlying125⟩
instance ahr:ElT prog 125 1 24 false (.slice none 0 0):=aI (by kernel_rfl) rfl (by kernel_rfl)
instance ahs:Und prog 126 (.map 9 3):=⟨underlying126⟩
instance aht:ElT prog 126 1 8 false (.map none):=aI (by kernel_rfl) rfl (by kernel_rfl)
instance adW:Fld prog 128 0 0 125:=⟨⟨_,_,underlying128,rfl,rfl,rfl⟩⟩
instance adX:Fld prog 128 1 1 65:=⟨⟨_,_,underlying128,rfl,rfl,rfl⟩⟩
instance adY:Fld prog 128 2 2 126:=⟨⟨_,_,underlying128,rfl,rfl,rfl⟩⟩
instance ahu:ElT prog 128 3 56 true (.agg #[.slice none 0 0,.slice none 0 0,.map none]):=aI (by kernel_rfl) rfl (by kernel_rfl)
instance adZ:Fld prog 130 0 0 9:=⟨⟨_,_,underlying130,rfl,rfl,rfl⟩⟩
instance ad1:Fld prog 130 1 1 4:=⟨⟨_,_,underlying130,rfl,rfl,rfl⟩⟩
instance ad2:Fld prog 130 2 2 5:=⟨⟨_,_,underlying130,rfl,rfl,rfl⟩⟩
instance ad3:Fld prog 130 3 3 92:=⟨⟨_,_,underlying130,rfl,rfl,rfl⟩⟩
instance ad4:Fld prog 130 4 6 65:=⟨⟨_,_,underlying130,rfl,rfl,rfl⟩⟩
instance ad5:Fld prog 130 5 7 4:=⟨⟨_,_,underlying130,rfl,rfl,rfl⟩⟩
instance ad6:Fld prog 130 6 8 4:=⟨⟨_,_,underlying130,rfl,rfl,rfl⟩⟩
instance ahv:ElT prog 130 9 80 true (.agg #[.string ⟨#[]⟩,.bool false,.int .u8 0,.int .u8 0,.int .i64 0,.int .i64 0,.slice none 0 0,.bool false,.bool false]):=aI (by kernel_rfl) rfl (by kernel_rfl)
instance ahw:ElT prog 140 1 8 false (.pointer none):=aI (by kernel_rfl) rfl (by kernel_rfl)
instance ahx:Und prog 143 (.map 181 3):=⟨underlying143⟩
instance ahy:ElT prog 143 1 8 false (.map none):=aI (by kernel_rfl) rfl (by kernel_rfl)
instance ad7:Fld prog 145 0 0 22:=⟨⟨_,_,underlying145,rfl,rfl,rfl⟩⟩
instance ad8:Fld prog 145 1 1 143:=⟨⟨_,_,underlying145,rfl,rfl,rfl⟩⟩
instance ad9:Fld prog 145 2 2 32:=⟨⟨_,_,underlying145,rfl,rfl,rfl⟩⟩
instance aea:Fld prog 145 3 3 42:=⟨⟨_,_,underlying145,rfl,rfl,rfl⟩⟩
instance aeb:Fld prog 145 4 4 44:=⟨⟨_,_,underlying145,rfl,rfl,rfl⟩⟩
instance aec:Fld prog 145 5 5 24:=⟨⟨_,_,underlying145,rfl,rfl,rfl⟩⟩
instance ahz:ElT prog 145 6 128 true (.agg #[.slice none 0 0,.map none,.slice none 0 0,.slice none 0 0,.slice none 0 0,.slice none 0 0]):=aI (by kernel_rfl) rfl (by kernel_rfl)
instance ahA:Und prog 154 (.slice 160):=⟨underlying154⟩
instance ahB:ElT prog 154 1 24 false (.slice none 0 0):=aI (by kernel_rfl) rfl (by kernel_rfl)
instance aed:Fld prog 160 0 0 3:=⟨⟨_,_,underlying160,rfl,rfl,rfl⟩⟩
instance ahC:ElT prog 160 2 16 true (.agg #[.int .i64 0,.int .i64 0]):=aI (by kernel_rfl) rfl (by kernel_rfl)
instance ahD:ElT prog 169 2 16 true (.agg #[.int .i64 0,.int .i64 0]):=aI (by kernel_rfl) rfl (by kernel_rfl)
instance ahE:Und prog 181 (.int .u32):=⟨underlying181⟩
instance ahF:ElT prog 181 1 4 false (.int .u32 0):=aI (by kernel_rfl) rfl (by kernel_rfl)
instance ahG:Und prog 186 (.map 9 4):=⟨underlying186⟩
instance ahH:Und prog 193 (.array 7 116):=⟨underlying193⟩
instance ahI:ElT prog 193 7 56 true (.agg #[.map none,.map none,.map none,.map none,.map none,.map none,.map none]):=aI (by kernel_rfl) rfl (by kernel_rfl)
instance ahJ:Und prog 197 (.slice 275):=⟨underlying197⟩
instance ahK:Und prog 198 (.slice 205):=⟨underlying198⟩
instance ahL:Und prog 201 (.int .u64):=⟨underlying201⟩
instance ahM:ElT prog 201 1 8 false (.int .u64 0):=aI (by kernel_rfl) rfl (by kernel_rfl)
instance aee:Fld prog 203 0 0 5:=⟨⟨_,_,underlying203,rfl,rfl,rfl⟩⟩
instance aef:Fld prog 203 1 1 201:=⟨⟨_,_,underlying203,rfl,rfl,rfl⟩⟩
instance aeg:Fld prog 203 2 2 201:=⟨⟨_,_,underlying203,rfl,rfl,rfl⟩⟩
instance ahN:ElT prog 203 3 24 true (.agg #[.int .u8 0,.int .u64 0,.int .u64 0]):=aI (by kernel_rfl) rfl (by kernel_rfl)
instance aeh:Fld prog 205 0 0 3:=⟨⟨_,_,underlying205,rfl,rfl,rfl⟩⟩
instance aei:Fld prog 205 2 4 3:=⟨⟨_,_,underlying205,rfl,rfl,rfl⟩⟩
instance ahO:ElT prog 205 5 40 true (.agg #[.int .i64 0,.int .u8 0,.int .u64 0,.int .u64 0,.int .i64 0]):=aI (by kernel_rfl) rfl (by kernel_rfl)
instance ahP:ElT prog 206 1 8 false (.nilFunc):=aI (by kernel_rfl) rfl (by kernel_rfl)
instance aej:Fld prog 208 0 0 5:=⟨⟨_,_,underlying208,rfl,rfl,rfl⟩⟩
instance aek:Fld prog 208 1 1 206:=⟨⟨_,_,underlying208,rfl,rfl,rfl⟩⟩
instance ahQ:ElT prog 208 2 16 true (.agg #[.int .u8 0,.nilFunc]):=aI (by kernel_rfl) rfl (by kernel_rfl)
instance ahR:Und prog 210 (.slice 208):=⟨underlying210⟩
instance ahS:Und prog 214 (.int .u64):=⟨underlying214⟩
instance ahT:Und prog 219 (.map 223 4):=⟨underlying219⟩
instance ahU:ElT prog 223 2 24 true (.agg #[.int .i64 0,.string ⟨#[]⟩]):=aI (by kernel_rfl) rfl (by kernel_rfl)
instance ahV:Und prog 225 (.slice 5):=⟨underlying225⟩
instance ahW:Und prog 237 (.array 2 9):=⟨underlying237⟩
instance ahX:ElT prog 237 2 32 true (.agg #[.string ⟨#[]⟩,.string ⟨#[]⟩]):=aI (by kernel_rfl) rfl (by kernel_rfl)
instance ahY:Und prog 238 (.array 6 237):=⟨underlying238⟩
instance ahZ:ElT prog 238 12 192 true (.agg #[.string ⟨#[]⟩,.string ⟨#[]⟩,.string ⟨#[]⟩,.string ⟨#[]⟩,.string ⟨#[]⟩,.string ⟨#[]⟩,.string ⟨#[]⟩,.string ⟨#[]⟩,.string ⟨#[]⟩,.string ⟨#[]⟩,.string ⟨#[]⟩,.string ⟨#[]⟩]):=aI (by kernel_rfl) rfl (by kernel_rfl)
instance ah0:Und prog 247 (.slice 44):=⟨underlying247⟩
instance ah1:Und prog 266 (.array 4 5):=⟨underlying266⟩
instance ah2:ElT prog 266 4 4 true (.agg #[.int .u8 0,.int .u8 0,.int .u8 0,.int .u8 0]):=aI (by kernel_rfl) rfl (by kernel_rfl)
instance ael:Fld prog 275 0 0 3:=⟨⟨_,_,underlying275,rfl,rfl,rfl⟩⟩
instance aem:Fld prog 275 1 1 203:=⟨⟨_,_,underlying275,rfl,rfl,rfl⟩⟩
instance ah3:ElT prog 275 4 32 true (.agg #[.int .i64 0,.int .u8 0,.int .u64 0,.int .u64 0]):=aI (by kernel_rfl) rfl (by kernel_rfl)
instance ah4:Und prog 276 (.slice 203):=⟨underlying276⟩
instance ah5:ElT prog 276 1 24 false (.slice none 0 0):=aI (by kernel_rfl) rfl (by kernel_rfl)
instance ah6:Und prog 295 (.array 3 9):=⟨underlying295⟩
instance ah7:ElT prog 295 3 48 true (.agg #[.string ⟨#[]⟩,.string ⟨#[]⟩,.string ⟨#[]⟩]):=aI (by kernel_rfl) rfl (by kernel_rfl)
instance ah8:Und prog 296 (.slice 300):=⟨underlying296⟩
instance aen:Fld prog 300 0 0 201:=⟨⟨_,_,underlying300,rfl,rfl,rfl⟩⟩
instance aeo:Fld prog 300 1 1 201:=⟨⟨_,_,underlying300,rfl,rfl,rfl⟩⟩
instance ah9:ElT prog 300 2 16 true (.agg #[.int .u64 0,.int .u64 0]):=aI (by kernel_rfl) rfl (by kernel_rfl)
instance aia:Und prog 326 (.slice 329):=⟨underlying326⟩
instance aib:Und prog 329 (.slice 201):=⟨underlying329⟩
instance aic:ElT prog 329 1 24 false (.slice none 0 0):=aI (by kernel_rfl) rfl (by kernel_rfl)
instance aid:Und prog 341 (.slice 345):=⟨underlying341⟩
instance aep:Fld prog 345 0 0 201:=⟨⟨_,_,underlying345,rfl,rfl,rfl⟩⟩
instance aer:Fld prog 345 1 1 201:=⟨⟨_,_,underlying345,rfl,rfl,rfl⟩⟩
instance aes:Fld prog 345 2 2 201:=⟨⟨_,_,underlying345,rfl,rfl,rfl⟩⟩
instance aie:ElT prog 345 3 24 true (.agg #[.int .u64 0,.int .u64 0,.int .u64 0]):=aI (by kernel_rfl) rfl (by kernel_rfl)
instance anB:oN prog 6:=⟨⟨_,func6,by kernel_rfl,rfl⟩⟩
instance anC:oN prog 7:=⟨⟨_,func7,by kernel_rfl,rfl⟩⟩
instance anD:oN prog 8:=⟨⟨_,func8,by kernel_rfl,rfl⟩⟩
instance anE:oN prog 9:=⟨⟨_,func9,by kernel_rfl,rfl⟩⟩
instance alQ:oN prog 12:=⟨⟨_,func12,by kernel_rfl,rfl⟩⟩
instance alR:oN prog 13:=⟨⟨_,func13,by kernel_rfl,rfl⟩⟩
instance alS:oN prog 14:=⟨⟨_,func14,by kernel_rfl,rfl⟩⟩
instance alT:oN prog 15:=⟨⟨_,func15,by kernel_rfl,rfl⟩⟩
instance alU:oN prog 16:=⟨⟨_,func16,by kernel_rfl,rfl⟩⟩
instance alV:oN prog 17:=⟨⟨_,func17,by kernel_rfl,rfl⟩⟩
instance alW:oN prog 18:=⟨⟨_,func18,by kernel_rfl,rfl⟩⟩
instance alX:oN prog 19:=⟨⟨_,func19,by kernel_rfl,rfl⟩⟩
instance alY:oN prog 20:=⟨⟨_,func20,by kernel_rfl,rfl⟩⟩
instance alZ:oN prog 21:=⟨⟨_,func21,by kernel_rfl,rfl⟩⟩
instance al0:oN prog 22:=⟨⟨_,func22,by kernel_rfl,rfl⟩⟩
instance al1:oN prog 23:=⟨⟨_,func23,by kernel_rfl,rfl⟩⟩
instance al2:oN prog 24:=⟨⟨_,func24,by kernel_rfl,rfl⟩⟩
instance al3:oN prog 25:=⟨⟨_,func25,by kernel_rfl,rfl⟩⟩
instance al4:oN prog 26:=⟨⟨_,func26,by kernel_rfl,rfl⟩⟩
instance al5:oN prog 27:=⟨⟨_,func27,by kernel_rfl,rfl⟩⟩
instance al6:oN prog 28:=⟨⟨_,func28,by kernel_rfl,rfl⟩⟩
instance al7:oN prog 29:=⟨⟨_,func29,by kernel_rfl,rfl⟩⟩
instance al8:oN prog 30:=⟨⟨_,func30,by kernel_rfl,rfl⟩⟩
instance al9:oN prog 31:=⟨⟨_,func31,by kernel_rfl,rfl⟩⟩
instance ama:oN prog 32:=⟨⟨_,func32,by kernel_rfl,rfl⟩⟩
instance amb:oN prog 33:=⟨⟨_,func33,by kernel_rfl,rfl⟩⟩
instance amc:oN prog 34:=⟨⟨_,func34,by kernel_rfl,rfl⟩⟩
instance amd:oN prog 35:=⟨⟨_,func35,by kernel_rfl,rfl⟩⟩
instance ame:oN prog 36:=⟨⟨_,func36,by kernel_rfl,rfl⟩⟩
instance amf:oN prog 37:=⟨⟨_,func37,by kernel_rfl,rfl⟩⟩
instance amg:oN prog 38:=⟨⟨_,func38,by kernel_rfl,rfl⟩⟩
instance amh:oN prog 39:=⟨⟨_,func39,by kernel_rfl,rfl⟩⟩
instance ami:oN prog 40:=⟨⟨_,func40,by kernel_rfl,rfl⟩⟩
instance amj:oN prog 41:=⟨⟨_,func41,by kernel_rfl,rfl⟩⟩
instance amk:oN prog 42:=⟨⟨_,func42,by kernel_rfl,rfl⟩⟩
instance aml:oN prog 43:=⟨⟨_,func43,by kernel_rfl,rfl⟩⟩
instance amm:oN prog 44:=⟨⟨_,func44,by kernel_rfl,rfl⟩⟩
instance amn:oN prog 45:=⟨⟨_,func45,by kernel_rfl,rfl⟩⟩
instance amo:oN prog 46:=⟨⟨_,func46,by kernel_rfl,rfl⟩⟩
instance amq:oN prog 47:=⟨⟨_,func47,by kernel_rfl,rfl⟩⟩
instance amr:oN prog 48:=⟨⟨_,func48,by kernel_rfl,rfl⟩⟩
instance ams:oN prog 49:=⟨⟨_,func49,by kernel_rfl,rfl⟩⟩
instance amu:oN prog 50:=⟨⟨_,func50,by kernel_rfl,rfl⟩⟩
instance amv:oN prog 51:=⟨⟨_,func51,by kernel_rfl,rfl⟩⟩
instance amw:oN prog 52:=⟨⟨_,func52,by kernel_rfl,rfl⟩⟩
instance amx:oN prog 53:=⟨⟨_,func53,by kernel_rfl,rfl⟩⟩
instance amy:oN prog 54:=⟨⟨_,func54,by kernel_rfl,rfl⟩⟩
instance amz:oN prog 55:=⟨⟨_,func55,by kernel_rfl,rfl⟩⟩
instance amA:oN prog 56:=⟨⟨_,func56,by kernel_rfl,rfl⟩⟩
instance amB:oN prog 57:=⟨⟨_,func57,by kernel_rfl,rfl⟩⟩
instance amC:oN prog 58:=⟨⟨_,func58,by kernel_rfl,rfl⟩⟩
instance amD:oN prog 59:=⟨⟨_,func59,by kernel_rfl,rfl⟩⟩
instance amE:oN prog 60:=⟨⟨_,func60,by kernel_rfl,rfl⟩⟩
instance amF:oN prog 61:=⟨⟨_,func61,by kernel_rfl,rfl⟩⟩
instance amG:oN prog 62:=⟨⟨_,func62,by kernel_rfl,rfl⟩⟩
instance amH:oN prog 63:=⟨⟨_,func63,by kernel_rfl,rfl⟩⟩
instance amI:oN prog 64:=⟨⟨_,func64,by kernel_rfl,rfl⟩⟩
instance amJ:oN prog 65:=⟨⟨_,func65,by kernel_rfl,rfl⟩⟩
instance amK:oN prog 66:=⟨⟨_,func66,by kernel_rfl,rfl⟩⟩
instance amL:oN prog 67:=⟨⟨_,func67,by kernel_rfl,rfl⟩⟩
instance amM:oN prog 68:=⟨⟨_,func68,by kernel_rfl,rfl⟩⟩
instance amN:oN prog 69:=⟨⟨_,func69,by kernel_rfl,rfl⟩⟩
instance amO:oN prog 70:=⟨⟨_,func70,by kernel_rfl,rfl⟩⟩
instance amP:oN prog 71:=⟨⟨_,func71,by kernel_rfl,rfl⟩⟩
instance amQ:oN prog 72:=⟨⟨_,func72,by kernel_rfl,rfl⟩⟩
instance amR:oN prog 73:=⟨⟨_,func73,by kernel_rfl,rfl⟩⟩
instance amS:oN prog 74:=⟨⟨_,func74,by kernel_rfl,rfl⟩⟩
instance amT:oN prog 75:=⟨⟨_,func75,by kernel_rfl,rfl⟩⟩
instance amU:oN prog 76:=⟨⟨_,func76,by kernel_rfl,rfl⟩⟩
instance amV:oN prog 77:=⟨⟨_,func77,by kernel_rfl,rfl⟩⟩
instance amW:oN prog 78:=⟨⟨_,func78,by kernel_rfl,rfl⟩⟩
instance amX:oN prog 79:=⟨⟨_,func79,by kernel_rfl,rfl⟩⟩
instance amY:oN prog 80:=⟨⟨_,func80,by kernel_rfl,rfl⟩⟩
instance amZ:oN prog 81:=⟨⟨_,func81,by kernel_rfl,rfl⟩⟩
instance am0:oN prog 82:=⟨⟨_,func82,by kernel_rfl,rfl⟩⟩
instance am1:oN prog 83:=⟨⟨_,func83,by kernel_rfl,rfl⟩⟩
instance am2:oN prog 84:=⟨⟨_,func84,by kernel_rfl,rfl⟩⟩
instance am3:oN prog 85:=⟨⟨_,func85,by kernel_rfl,rfl⟩⟩
instance am4:oN prog 86:=⟨⟨_,func86,by kernel_rfl,rfl⟩⟩
instance am5:oN prog 87:=⟨⟨_,func87,by kernel_rfl,rfl⟩⟩
instance am6:oN prog 88:=⟨⟨_,func88,by kernel_rfl,rfl⟩⟩
instance am7:oN prog 89:=⟨⟨_,func89,by kernel_rfl,rfl⟩⟩
instance am8:oN prog 90:=⟨⟨_,func90,by kernel_rfl,rfl⟩⟩
instance am9:oN prog 91:=⟨⟨_,func91,by kernel_rfl,rfl⟩⟩
instance ana:oN prog 92:=⟨⟨_,func92,by kernel_rfl,rfl⟩⟩
instance anb:oN prog 95:=⟨⟨_,func95,by kernel_rfl,rfl⟩⟩
instance anc:oN prog 96:=⟨⟨_,func96,by kernel_rfl,rfl⟩⟩
instance ane:oN prog 97:=⟨⟨_,func97,by kernel_rfl,rfl⟩⟩
instance anf:oN prog 98:=⟨⟨_,func98,by kernel_rfl,rfl⟩⟩
instance ang:oN prog 99:=⟨⟨_,func99,by kernel_rfl,rfl⟩⟩
instance aif:oN prog 100:=⟨⟨_,func100,by kernel_rfl,rfl⟩⟩
instance aii:oN prog 101:=⟨⟨_,func101,by kernel_rfl,rfl⟩⟩
instance aij:oN prog 105:=⟨⟨_,func105,by kernel_rfl,rfl⟩⟩
instance aik:oN prog 106:=⟨⟨_,func106,by kernel_rfl,rfl⟩⟩
instance ail:oN prog 107:=⟨⟨_,func107,by kernel_rfl,rfl⟩⟩
instance aim:oN prog 108:=⟨⟨_,func108,by kernel_rfl,rfl⟩⟩
instance ain:oN prog 109:=⟨⟨_,func109,by kernel_rfl,rfl⟩⟩
instance aio:oN prog 110:=⟨⟨_,func110,by kernel_rfl,rfl⟩⟩
instance aip:oN prog 111:=⟨⟨_,func111,by kernel_rfl,rfl⟩⟩
instance aiq:oN prog 112:=⟨⟨_,func112,by kernel_rfl,rfl⟩⟩
instance air:oN prog 113:=⟨⟨_,func113,by kernel_rfl,rfl⟩⟩
instance ais:oN prog 114:=⟨⟨_,func114,by kernel_rfl,rfl⟩⟩
instance ait:oN prog 115:=⟨⟨_,func115,by kernel_rfl,rfl⟩⟩
instance aiu:oN prog 116:=⟨⟨_,func116,by kernel_rfl,rfl⟩⟩
instance aiv:oN prog 117:=⟨⟨_,func117,by kernel_rfl,rfl⟩⟩
instance aiw:oN prog 118:=⟨⟨_,func118,by kernel_rfl,rfl⟩⟩
instance aix:oN prog 119:=⟨⟨_,func119,by kernel_rfl,rfl⟩⟩
instance aiy:oN prog 120:=⟨⟨_,func120,by kernel_rfl,rfl⟩⟩
instance aiz:oN prog 131:=⟨⟨_,func131,by kernel_rfl,rfl⟩⟩
instance aiA:oN prog 132:=⟨⟨_,func132,by kernel_rfl,rfl⟩⟩
instance aiB:oN prog 135:=⟨⟨_,func135,by kernel_rfl,rfl⟩⟩
instance aiC:oN prog 136:=⟨⟨_,func136,by kernel_rfl,rfl⟩⟩
instance aiD:oN prog 137:=⟨⟨_,func137,by kernel_rfl,rfl⟩⟩
instance aiE:oN prog 138:=⟨⟨_,func138,by kernel_rfl,rfl⟩⟩
instance aiF:oN prog 140:=⟨⟨_,func140,by kernel_rfl,rfl⟩⟩
instance aiG:oN prog 141:=⟨⟨_,func141,by kernel_rfl,rfl⟩⟩
instance aiH:oN prog 142:=⟨⟨_,func142,by kernel_rfl,rfl⟩⟩
instance aiI:oN prog 143:=⟨⟨_,func143,by kernel_rfl,rfl⟩⟩
instance aiJ:oN prog 144:=⟨⟨_,func144,by kernel_rfl,rfl⟩⟩
instance aiK:oN prog 145:=⟨⟨_,func145,by kernel_rfl,rfl⟩⟩
instance aiL:oN prog 146:=⟨⟨_,func146,by kernel_rfl,rfl⟩⟩
instance aiM:oN prog 147:=⟨⟨_,func147,by kernel_rfl,rfl⟩⟩
instance aiN:oN prog 148:=⟨⟨_,func148,by kernel_rfl,rfl⟩⟩
instance aiO:oN prog 149:=⟨⟨_,func149,by kernel_rfl,rfl⟩⟩
instance aiP:oN prog 155:=⟨⟨_,func155,by kernel_rfl,rfl⟩⟩
instance aiQ:oN prog 159:=⟨⟨_,func159,by kernel_rfl,rfl⟩⟩
instance aiR:oN prog 161:=⟨⟨_,func161,by kernel_rfl,rfl⟩⟩
instance aiS:oN prog 162:=⟨⟨_,func162,by kernel_rfl,rfl⟩⟩
instance aiT:oN prog 163:=⟨⟨_,func163,by kernel_rfl,rfl⟩⟩
instance aiU:oN prog 164:=⟨⟨_,func164,by kernel_rfl,rfl⟩⟩
instance aiV:oN prog 165:=⟨⟨_,func165,by kernel_rfl,rfl⟩⟩
instance aiW:oN prog 166:=⟨⟨_,func166,by kernel_rfl,rfl⟩⟩
instance aiX:oN prog 167:=⟨⟨_,func167,by kernel_rfl,rfl⟩⟩
instance aiY:oN prog 168:=⟨⟨_,func168,by kernel_rfl,rfl⟩⟩
instance aiZ:oN prog 170:=⟨⟨_,func170,by kernel_rfl,rfl⟩⟩
instance ai0:oN prog 171:=⟨⟨_,func171,by kernel_rfl,rfl⟩⟩
instance ai1:oN prog 174:=⟨⟨_,func174,by kernel_rfl,rfl⟩⟩
instance ai2:oN prog 178:=⟨⟨_,func178,by kernel_rfl,rfl⟩⟩
instance ai3:oN prog 179:=⟨⟨_,func179,by kernel_rfl,rfl⟩⟩
instance ai4:oN prog 181:=⟨⟨_,func181,by kernel_rfl,rfl⟩⟩
instance ai5:oN prog 186:=⟨⟨_,func186,by kernel_rfl,rfl⟩⟩
instance ai6:oN prog 187:=⟨⟨_,func187,by kernel_rfl,rfl⟩⟩
instance ai7:oN prog 188:=⟨⟨_,func188,by kernel_rfl,rfl⟩⟩
instance ai8:oN prog 197:=⟨⟨_,func197,by kernel_rfl,rfl⟩⟩
instance ai9:oN prog 200:=⟨⟨_,func200,by kernel_rfl,rfl⟩⟩
instance aja:oN prog 201:=⟨⟨_,func201,by kernel_rfl,rfl⟩⟩
instance ajb:oN prog 202:=⟨⟨_,func202,by kernel_rfl,rfl⟩⟩
instance ajc:oN prog 203:=⟨⟨_,func203,by kernel_rfl,rfl⟩⟩
instance ajd:oN prog 204:=⟨⟨_,func204,by kernel_rfl,rfl⟩⟩
instance aje:oN prog 209:=⟨⟨_,func209,by kernel_rfl,rfl⟩⟩
instance ajf:oN prog 210:=⟨⟨_,func210,by kernel_rfl,rfl⟩⟩
instance ajg:oN prog 211:=⟨⟨_,func211,by kernel_rfl,rfl⟩⟩
instance ajh:oN prog 212:=⟨⟨_,func212,by kernel_rfl,rfl⟩⟩
instance aji:Flat prog 28 4:=⟨⟨_,underlying28,rfl,by kernel_rfl⟩⟩
instance ajj:Flat prog 64 2:=⟨⟨_,underlying64,rfl,by kernel_rfl⟩⟩
instance ajk:Flat prog 70 2:=⟨⟨_,underlying70,rfl,by kernel_rfl⟩⟩
instance ajl:Flat prog 73 3:=⟨⟨_,underlying73,rfl,by kernel_rfl⟩⟩
instance ajm:Flat prog 75 2:=⟨⟨_,underlying75,rfl,by kernel_rfl⟩⟩
instance ajn:Flat prog 79 7:=⟨⟨_,underlying79,rfl,by kernel_rfl⟩⟩
instance ajo:Flat prog 85 4:=⟨⟨_,underlying85,rfl,by kernel_rfl⟩⟩
instance ajp:Flat prog 94 6:=⟨⟨_,underlying94,rfl,by kernel_rfl⟩⟩
instance ag3:Flat prog 100 6:=⟨⟨_,underlying100,rfl,by kernel_rfl⟩⟩
instance ag4:Flat prog 128 3:=⟨⟨_,underlying128,rfl,by kernel_rfl⟩⟩
instance ag5:Flat prog 145 6:=⟨⟨_,underlying145,rfl,by kernel_rfl⟩⟩
instance ag6:Flat prog 160 2:=⟨⟨_,underlying160,rfl,by kernel_rfl⟩⟩
instance ag7:Flat prog 169 2:=⟨⟨_,underlying169,rfl,by kernel_rfl⟩⟩
instance ag8:Flat prog 203 3:=⟨⟨_,underlying203,rfl,by kernel_rfl⟩⟩
instance ag9:Flat prog 208 2:=⟨⟨_,underlying208,rfl,by kernel_rfl⟩⟩
instance aha:Flat prog 223 2:=⟨⟨_,underlying223,rfl,by kernel_rfl⟩⟩
instance ahb:Flat prog 300 2:=⟨⟨_,underlying300,rfl,by kernel_rfl⟩⟩
instance ahc:Flat prog 345 3:=⟨⟨_,underlying345,rfl,by kernel_rfl⟩⟩
end Go.Proofs.YtfbnfhhmiiahnaaGreatDoor
namespace Go.Proofs
open Go.Shelf
def kE:Go.Shelf.Ren:=⟨fun|156=>78|165=>102|166=>103|169=>104|240=>133|241=>134|276=>156|277=>157|n=>n,fun|31=>24|9=>9|3=>3|4=>4|0=>0|20=>20|72=>227|76=>230|70=>224|37=>225|75=>229|127=>264|164=>288|5=>5|80=>232|n=>n,fun|n=>n⟩
theorem kF:Go.Proofs.Lays.n156 prog kE:={
 mixed:=by kernel_rfl
 f156:=func78.trans (congrArg some (by kernel_rfl))
 f165:=func102.trans (congrArg some (by kernel_rfl))
 f166:=func103.trans (congrArg some (by kernel_rfl))
 f169:=func104.trans (congrArg some (by kernel_rfl))
 f240:=func133.trans (congrArg some (by kernel_rfl))
 f241:=func134.trans (congrArg some (by kernel_rfl))
 f276:=func156.trans (congrArg some (by kernel_rfl))
 f277:=func157.trans (congrArg some (by kernel_rfl))
 t0:=underlying0
 a0:=isAgg0
 z0:=sizeOf0
 v0:=zeroValue0
 t3:=underlying3
 a3:=isAgg3
 z3:=sizeOf3
 v3:=zeroValue3
 t4:=underlying4
 a4:=isAgg4
 z4:=sizeOf4
 v4:=zeroValue4
 t9:=underlying9
 a9:=isAgg9
 z9:=sizeOf9
 v9:=zeroValue9
 t20:=underlying20
 a20:=isAgg20
 z20:=sizeOf20
 v20:=zeroValue20
 t31:=underlying24
 a31:=isAgg24
 z31:=sizeOf24
 v31:=zeroValue24
 t37:=underlying225
 a37:=isAgg225
 z37:=sizeOf225
 v37:=zeroValue225
 t70:=underlying224
 a70:=isAgg224
 z70:=sizeOf224
 v70:=zeroValue224
 t72:=underlying227
 a72:=isAgg227
 z72:=sizeOf227
 v72:=zeroValue227
 t75:=underlying229
 a75:=isAgg229
 z75:=sizeOf229
 v75:=zeroValue229
 t76:=underlying230
 a76:=isAgg230
 z76:=sizeOf230
 v76:=zeroValue230
 t127:=underlying264
 a127:=isAgg264
 z127:=sizeOf264
 v127:=zeroValue264
 t164:=underlying288
 a164:=isAgg288
 z164:=sizeOf288
 v164:=zeroValue288}
theorem kG:Builder.Extra prog kE:={
 sizeBuilder:=by kernel_rfl
 liesBuilder:=by kernel_rfl
 t5:=underlying5
 a5:=isAgg5
 z5:=sizeOf5
 v5:=zeroValue5
 infoByte:=by kernel_rfl
 cellsByte:=by kernel_rfl
 sizeByte:=by kernel_rfl
 neB5:=by decide}
open Go.RowKit in
theorem lT (a:Option Addr) (c:Nat) (sep:ByteArray) (w:World):
 Calls prog 78 #[.slice a 0 c,.string sep] w fun e w'=>e=.returned (.string ⟨#[]⟩)/\w'=w:=Any.strings_Join_none kF kG a c sep w
open Go.RowKit in
theorem lU (bk o c:Nat) (xs:List ByteArray) (sep:ByteArray) (w:World) (hcells: ∀(j:Nat) x,xs[j]? =some x->w.cell? ⟨bk,o+j,none⟩=some (.string x)) (hbk:bk<w.heap.size) (hN:xs.length<=140737488355328) (hcap:xs.length<=c) (hlen:(Lib.join (xs.map (·.data.toList)) sep.data.toList).length<=140737488355328):
 Calls prog 78 #[.slice (some ⟨bk,o,none⟩) xs.length c,.string sep] w fun e w'=>e=.returned (.string ⟨(Lib.join (xs.map (·.data.toList)) sep.data.toList).toArray⟩)/\Below w.heap.size w w':=Any.strings_Join kF kG bk o c xs sep w hcells hbk hN hcap hlen
def lV:Go.Shelf.Ren:=⟨fun|119=>171|n=>n,fun|21=>21|4=>4|n=>n,fun|n=>n⟩
theorem lW:Go.Proofs.Lays.n119 prog lV:={
 mixed:=by kernel_rfl
 f119:=func171.trans (congrArg some (by kernel_rfl))
 t4:=underlying4
 a4:=isAgg4
 z4:=sizeOf4
 v4:=zeroValue4
 t21:=underlying21
 a21:=isAgg21
 z21:=sizeOf21
 v21:=zeroValue21}
theorem lX (r:Int) (w:World):
 Calls prog 171 #[.int .i32 r] w fun e w'=>e=.returned (.bool (Lib.validRune r))/\w'=w:=Any.utf8_ValidRune lW r w
def lY:Go.Shelf.Ren:=⟨fun|137=>112|217=>139|266=>160|n=>n,fun|9=>9|5=>5|3=>3|n=>n,fun|n=>n⟩
theorem lZ:Go.Proofs.Lays.n137 prog lY:={
 mixed:=by kernel_rfl
 f137:=func112.trans (congrArg some (by kernel_rfl))
 f217:=func139.trans (congrArg some (by kernel_rfl))
 f266:=func160.trans (congrArg some (by kernel_rfl))
 t3:=underlying3
 a3:=isAgg3
 z3:=sizeOf3
 v3:=zeroValue3
 t5:=underlying5
 a5:=isAgg5
 z5:=sizeOf5
 v5:=zeroValue5
 t9:=underlying9
 a9:=isAgg9
 z9:=sizeOf9
 v9:=zeroValue9}
open Go.RowKit in
theorem l7 (s:ByteArray) (c:Int) (w:World):
 Calls prog 112 #[.string s,.int .u8 c] w fun e w'=>e=.returned (.int .i64 (Lib.indexByte s.data.toList c.toNat.toUInt8))/\w'=w:=Any.strings_IndexByte lZ s c w
def l9:Go.Shelf.Ren:=⟨fun|143=>177|219=>185|217=>139|225=>173|224=>172|267=>199|266=>160|314=>208|n=>n,fun|9=>9|3=>3|4=>4|5=>5|46=>214|146=>338|51=>181|n=>n,fun|1=>0|n=>n⟩
theorem mg:Go.Proofs.Lays.n143 prog l9:={
 mixed:=by kernel_rfl
 f143:=func177.trans (congrArg some (by kernel_rfl))
 f217:=func139.trans (congrArg some (by kernel_rfl))
 f219:=func185.trans (congrArg some (by kernel_rfl))
 f224:=func172.trans (congrArg some (by kernel_rfl))
 f225:=func173.trans (congrArg some (by kernel_rfl))
 f266:=func160.trans (congrArg some (by kernel_rfl))
 f267:=func199.trans (congrArg some (by kernel_rfl))
 f314:=func208.trans (congrArg some (by kernel_rfl))
 t3:=underlying3
 a3:=isAgg3
 z3:=sizeOf3
 v3:=zeroValue3
 t4:=underlying4
 a4:=isAgg4
 z4:=sizeOf4
 v4:=zeroValue4
 t5:=underlying5
 a5:=isAgg5
 z5:=sizeOf5
 v5:=zeroValue5
 t9:=underlying9
 a9:=isAgg9
 z9:=sizeOf9
 v9:=zeroValue9
 t46:=underlying214
 a46:=isAgg214
 z46:=sizeOf214
 v46:=zeroValue214
 t51:=underlying181
 a51:=isAgg181
 z51:=sizeOf181
 v51:=zeroValue181
 t146:=underlying338
 a146:=isAgg338
 z146:=sizeOf338
 v146:=zeroValue338
 g1:=by kernel_rfl}
open Go.RowKit Go.Lib in
theorem mD (s:ByteArray) (c:UInt8) (w:World):
 Calls prog 177 #[.string s,.string ⟨#[c]⟩] w fun e w'=>e=.returned (.int .i64 (Lib.indexByte s.data.toList c))/\w'=w:=Any.strings_Index_one mg s c w
def mF:Go.Shelf.Ren:=⟨fun|138=>176|195=>182|218=>184|143=>177|219=>185|217=>139|225=>173|224=>172|267=>199|266=>160|314=>208|n=>n,fun|9=>9|3=>3|4=>4|5=>5|0=>0|46=>214|146=>338|51=>181|n=>n,fun|1=>0|n=>n⟩
theorem mG:Go.Proofs.Lays.n138 prog mF:={
 mixed:=by kernel_rfl
 f138:=func176.trans (congrArg some (by kernel_rfl))
 f143:=func177.trans (congrArg some (by kernel_rfl))
 f195:=func182.trans (congrArg some (by kernel_rfl))
 f217:=func139.trans (congrArg some (by kernel_rfl))
 f218:=func184.trans (congrArg some (by kernel_rfl))
 f219:=func185.trans (congrArg some (by kernel_rfl))
 f224:=func172.trans (congrArg some (by kernel_rfl))
 f225:=func173.trans (congrArg some (by kernel_rfl))
 f266:=func160.trans (congrArg some (by kernel_rfl))
 f267:=func199.trans (congrArg some (by kernel_rfl))
 f314:=func208.trans (congrArg some (by kernel_rfl))
 t0:=underlying0
 a0:=isAgg0
 z0:=sizeOf0
 v0:=zeroValue0
 t3:=underlying3
 a3:=isAgg3
 z3:=sizeOf3
 v3:=zeroValue3
 t4:=underlying4
 a4:=isAgg4
 z4:=sizeOf4
 v4:=zeroValue4
 t5:=underlying5
 a5:=isAgg5
 z5:=sizeOf5
 v5:=zeroValue5
 t9:=underlying9
 a9:=isAgg9
 z9:=sizeOf9
 v9:=zeroValue9
 t46:=underlying214
 a46:=isAgg214
 z46:=sizeOf214
 v46:=zeroValue214
 t51:=underlying181
 a51:=isAgg181
 z51:=sizeOf181
 v51:=zeroValue181
 t146:=underlying338
 a146:=isAgg338
 z146:=sizeOf338
 v146:=zeroValue338
 g1:=by kernel_rfl}
open Go.RowKit Go.Lib in
theorem mJ (s:ByteArray) (c:UInt8) (w:World):
 Calls prog 176 #[.string s,.string ⟨#[c]⟩] w fun e w'=>e=.returned (.int .i64 (Lib.countByte s.data.toList c))/\w'=w:=Any.strings_Count_one mG s c w
def mM:Go.Shelf.Ren:=⟨fun|15=>136|20=>158|n=>n,fun|9=>9|23=>269|3=>3|4=>4|0=>0|21=>21|n=>n,fun|n=>n⟩
theorem mO:Go.Proofs.LaysGw.n15 prog mM:={
 mixed:=by kernel_rfl
 f15:=func136.trans (congrArg some (by kernel_rfl))
 f20:=func158.trans (congrArg some (by kernel_rfl))
 t0:=underlying0
 a0:=isAgg0
 z0:=sizeOf0
 v0:=zeroValue0
 i0:=by kernel_rfl
 t3:=underlying3
 a3:=isAgg3
 z3:=sizeOf3
 v3:=zeroValue3
 i3:=by kernel_rfl
 t4:=underlying4
 a4:=isAgg4
 z4:=sizeOf4
 v4:=zeroValue4
 i4:=by kernel_rfl
 t9:=underlying9
 a9:=isAgg9
 z9:=sizeOf9
 v9:=zeroValue9
 i9:=by kernel_rfl
 t21:=underlying21
 a21:=isAgg21
 z21:=sizeOf21
 v21:=zeroValue21
 i21:=by kernel_rfl
 t23:=underlying269
 a23:=isAgg269
 z23:=sizeOf269
 v23:=zeroValue269
 i23:=by kernel_rfl}
def mP:Go.Shelf.Ren:=⟨fun|221=>162|268=>175|138=>176|143=>177|195=>182|197=>183|218=>184|219=>185|260=>198|217=>139|225=>173|224=>172|267=>199|266=>160|314=>208|n=>n,fun|9=>9|3=>3|31=>24|4=>4|0=>0|105=>313|21=>21|5=>5|46=>214|119=>334|139=>337|138=>336|146=>338|51=>181|n=>n,fun|1=>0|3=>1|4=>2|n=>n⟩
theorem mQ:Go.Proofs.Lays.n221 prog mP:={
 mixed:=by kernel_rfl
 f138:=func176.trans (congrArg some (by kernel_rfl))
 f143:=func177.trans (congrArg some (by kernel_rfl))
 f195:=func182.trans (congrArg some (by kernel_rfl))
 f197:=func183.trans (congrArg some (by kernel_rfl))
 f217:=func139.trans (congrArg some (by kernel_rfl))
 f218:=func184.trans (congrArg some (by kernel_rfl))
 f219:=func185.trans (congrArg some (by kernel_rfl))
 f221:=func162.trans (congrArg some (by kernel_rfl))
 f224:=func172.trans (congrArg some (by kernel_rfl))
 f225:=func173.trans (congrArg some (by kernel_rfl))
 f260:=func198.trans (congrArg some (by kernel_rfl))
 f266:=func160.trans (congrArg some (by kernel_rfl))
 f267:=func199.trans (congrArg some (by kernel_rfl))
 f268:=func175.trans (congrArg some (by kernel_rfl))
 f314:=func208.trans (congrArg some (by kernel_rfl))
 t0:=underlying0
 a0:=isAgg0
 z0:=sizeOf0
 v0:=zeroValue0
 t3:=underlying3
 a3:=isAgg3
 z3:=sizeOf3
 v3:=zeroValue3
 t4:=underlying4
 a4:=isAgg4
 z4:=sizeOf4
 v4:=zeroValue4
 t5:=underlying5
 a5:=isAgg5
 z5:=sizeOf5
 v5:=zeroValue5
 t9:=underlying9
 a9:=isAgg9
 z9:=sizeOf9
 v9:=zeroValue9
 t21:=underlying21
 a21:=isAgg21
 z21:=sizeOf21
 v21:=zeroValue21
 t31:=underlying24
 a31:=isAgg24
 z31:=sizeOf24
 v31:=zeroValue24
 t46:=underlying214
 a46:=isAgg214
 z46:=sizeOf214
 v46:=zeroValue214
 t51:=underlying181
 a51:=isAgg181
 z51:=sizeOf181
 v51:=zeroValue181
 t105:=underlying313
 a105:=isAgg313
 z105:=sizeOf313
 v105:=zeroValue313
 t119:=underlying334
 a119:=isAgg334
 z119:=sizeOf334
 t138:=underlying336
 a138:=isAgg336
 z138:=sizeOf336
 v138:=zeroValue336
 t139:=underlying337
 a139:=isAgg337
 z139:=sizeOf337
 v139:=zeroValue337
 t146:=underlying338
 a146:=isAgg338
 z146:=sizeOf338
 v146:=zeroValue338
 g1:=by kernel_rfl
 g3:=by kernel_rfl
 g4:=by kernel_rfl}
open Go.RowKit Go.Lib in
theorem mX (g:Nat) (lb:Array Value) (eg: ∀args w,(callFunc g args).run prog w=.ok (.enter g args) w) (p:Nat->Bool) (s:ByteArray) (w:World) (hp:PredGrows prog g lb p w):
 Calls prog 136 #[.string s,.func (.func g) #[] lb] w fun e w'=>e=.returned (.int .i64 (Lib.idxFunc p true s))/\Below w.heap.size w w':=Any.strings_IndexFunc_grows mO g lb eg p s w hp
def mY:Go.Shelf.Ren:=⟨fun|17=>77|n=>n,fun|24=>24|9=>9|3=>3|4=>4|0=>0|n=>n,fun|n=>n⟩
theorem kH:Go.Proofs.Lays2.n17 prog mY:={
 mixed:=by kernel_rfl
 f17:=func77.trans (congrArg some (by kernel_rfl))
 t0:=underlying0
 a0:=isAgg0
 z0:=sizeOf0
 v0:=zeroValue0
 t3:=underlying3
 a3:=isAgg3
 z3:=sizeOf3
 v3:=zeroValue3
 t4:=underlying4
 a4:=isAgg4
 z4:=sizeOf4
 v4:=zeroValue4
 t9:=underlying9
 a9:=isAgg9
 z9:=sizeOf9
 v9:=zeroValue9
 t24:=underlying24
 a24:=isAgg24
 z24:=sizeOf24
 v24:=zeroValue24}
open Go.RowKit Go.Lib Go.Sort in
theorem mZ (blk off cap:Nat) (zs:List (List UInt8)) (w:World) (hH:Holds encStr w blk off zs.toArray) (hsz:zs.length<=9223372036854775807):
 Calls prog 77 #[.slice (some ⟨blk,off,none⟩) zs.length cap] w fun e w'=>e=.returned (.tuple #[])/\ ∃n,w'=putRow encStr (Sort.ahead w n) blk off zs.reverse.toArray:=Any.slices_Reverse_string kH blk off cap zs w hH hsz
open Go.RowKit Go.Lib Go.Sort in
theorem ni (a:Option Addr) (cap:Nat) (w:World):
 Calls prog 77 #[.slice a 0 cap] w fun e w'=>e=.returned (.tuple #[])/\w'=w:=Any.slices_Reverse_string_empty kH a cap w
def ny:Go.Shelf.Ren:=⟨fun|6=>62|15=>94|14=>93|28=>129|29=>130|20=>121|21=>122|22=>123|23=>124|24=>125|25=>126|26=>127|27=>128|46=>150|47=>151|48=>152|49=>153|50=>154|57=>169|n=>n,fun|22=>65|24=>3|25=>166|3=>3|39=>214|0=>0|53=>181|55=>201|4=>4|46=>255|45=>254|50=>184|5=>5|9=>9|66=>282|70=>286|76=>304|77=>305|n=>n,fun|n=>n⟩
theorem nD:Go.Proofs.SlLaysF.n6 prog ny:={
 mixed:=by kernel_rfl
 f6:=⟨Tryz.f62.name,by decide,func62.trans (congrArg some (by kernel_rfl))⟩
 f14:=⟨Tryz.f93.name,by decide,func93.trans (congrArg some (by kernel_rfl))⟩
 f15:=func94.trans (congrArg some (by kernel_rfl))
 f20:=⟨Tryz.f121.name,by decide,func121.trans (congrArg some (by kernel_rfl))⟩
 f21:=⟨Tryz.f122.name,by decide,func122.trans (congrArg some (by kernel_rfl))⟩
 f22:=⟨Tryz.f123.name,by decide,func123.trans (congrArg some (by kernel_rfl))⟩
 f23:=⟨Tryz.f124.name,by decide,func124.trans (congrArg some (by kernel_rfl))⟩
 f24:=⟨Tryz.f125.name,by decide,func125.trans (congrArg some (by kernel_rfl))⟩
 f25:=⟨Tryz.f126.name,by decide,func126.trans (congrArg some (by kernel_rfl))⟩
 f26:=⟨Tryz.f127.name,by decide,func127.trans (congrArg some (by kernel_rfl))⟩
 f27:=⟨Tryz.f128.name,by decide,func128.trans (congrArg some (by kernel_rfl))⟩
 f28:=func129.trans (congrArg some (by kernel_rfl))
 f29:=func130.trans (congrArg some (by kernel_rfl))
 f46:=⟨Tryz.f150.name,by decide,func150.trans (congrArg some (by kernel_rfl))⟩
 f47:=func151.trans (congrArg some (by kernel_rfl))
 f48:=func152.trans (congrArg some (by kernel_rfl))
 f49:=⟨Tryz.f153.name,by decide,func153.trans (congrArg some (by kernel_rfl))⟩
 f50:=⟨Tryz.f154.name,by decide,func154.trans (congrArg some (by kernel_rfl))⟩
 f57:=⟨Tryz.f169.name,by decide,func169.trans (congrArg some (by kernel_rfl))⟩
 t0:=underlying0
 a0:=isAgg0
 z0:=sizeOf0
 v0:=zeroValue0
 t3:=underlying3
 a3:=isAgg3
 z3:=sizeOf3
 v3:=zeroValue3
 t4:=underlying4
 a4:=isAgg4
 z4:=sizeOf4
 v4:=zeroValue4
 t5:=underlying5
 a5:=isAgg5
 z5:=sizeOf5
 v5:=zeroValue5
 t9:=underlying9
 a9:=isAgg9
 z9:=sizeOf9
 v9:=zeroValue9
 t22:=underlying65
 a22:=isAgg65
 z22:=sizeOf65
 v22:=zeroValue65
 a24:=isAgg3
 z24:=sizeOf3
 t25:=underlying166
 a25:=isAgg166
 z25:=sizeOf166
 v25:=zeroValue166
 t39:=underlying214
 a39:=isAgg214
 z39:=sizeOf214
 v39:=zeroValue214
 t45:=underlying254
 a45:=isAgg254
 z45:=sizeOf254
 v45:=zeroValue254
 t46:=underlying255
 a46:=isAgg255
 z46:=sizeOf255
 v46:=zeroValue255
 t50:=underlying184
 a50:=isAgg184
 z50:=sizeOf184
 v50:=zeroValue184
 t53:=underlying181
 a53:=isAgg181
 z53:=sizeOf181
 v53:=zeroValue181
 t55:=underlying201
 a55:=isAgg201
 z55:=sizeOf201
 v55:=zeroValue201
 t66:=underlying282
 a66:=isAgg282
 z66:=sizeOf282
 v66:=zeroValue282
 t70:=underlying286
 a70:=isAgg286
 z70:=sizeOf286
 v70:=zeroValue286
 t76:=underlying304
 a76:=isAgg304
 z76:=sizeOf304
 v76:=zeroValue304
 t77:=underlying305
 a77:=isAgg305
 z77:=sizeOf305
 v77:=zeroValue305}
def nG:Go.Shelf.Ren:=⟨fun|6=>62|15=>94|14=>93|28=>129|29=>130|20=>121|21=>122|22=>123|23=>124|24=>125|25=>126|26=>127|27=>128|46=>150|47=>151|48=>152|49=>153|50=>154|57=>169|n=>n,fun|22=>65|24=>3|25=>166|3=>3|39=>214|0=>0|53=>181|55=>201|4=>4|46=>255|45=>254|50=>184|5=>5|9=>9|66=>282|70=>286|76=>304|77=>305|n=>n,fun|n=>n⟩
theorem nH:Go.Proofs.SlLaysF0.n6 prog nG:={
 mixed:=by kernel_rfl
 f6:=⟨Tryz.f62.name,by decide,func62.trans (congrArg some (by kernel_rfl))⟩
 f14:=⟨Tryz.f93.name,by decide,func93.trans (congrArg some (by kernel_rfl))⟩
 f15:=func94.trans (congrArg some (by kernel_rfl))
 f20:=⟨Tryz.f121.name,by decide,func121.trans (congrArg some (by kernel_rfl))⟩
 f21:=⟨Tryz.f122.name,by decide,func122.trans (congrArg some (by kernel_rfl))⟩
 f22:=⟨Tryz.f123.name,by decide,func123.trans (congrArg some (by kernel_rfl))⟩
 f23:=⟨Tryz.f124.name,by decide,func124.trans (congrArg some (by kernel_rfl))⟩
 f24:=⟨Tryz.f125.name,by decide,func125.trans (congrArg some (by kernel_rfl))⟩
 f25:=⟨Tryz.f126.name,by decide,func126.trans (congrArg some (by kernel_rfl))⟩
 f26:=⟨Tryz.f127.name,by decide,func127.trans (congrArg some (by kernel_rfl))⟩
 f27:=⟨Tryz.f128.name,by decide,func128.trans (congrArg some (by kernel_rfl))⟩
 f28:=func129.trans (congrArg some (by kernel_rfl))
 f29:=func130.trans (congrArg some (by kernel_rfl))
 f46:=⟨Tryz.f150.name,by decide,func150.trans (congrArg some (by kernel_rfl))⟩
 f47:=func151.trans (congrArg some (by kernel_rfl))
 f48:=func152.trans (congrArg some (by kernel_rfl))
 f49:=⟨Tryz.f153.name,by decide,func153.trans (congrArg some (by kernel_rfl))⟩
 f50:=⟨Tryz.f154.name,by decide,func154.trans (congrArg some (by kernel_rfl))⟩
 f57:=⟨Tryz.f169.name,by decide,func169.trans (congrArg some (by kernel_rfl))⟩
 t0:=underlying0
 a0:=isAgg0
 z0:=sizeOf0
 v0:=zeroValue0
 t3:=underlying3
 a3:=isAgg3
 z3:=sizeOf3
 v3:=zeroValue3
 t4:=underlying4
 a4:=isAgg4
 z4:=sizeOf4
 v4:=zeroValue4
 t5:=underlying5
 a5:=isAgg5
 z5:=sizeOf5
 v5:=zeroValue5
 t9:=underlying9
 a9:=isAgg9
 z9:=sizeOf9
 v9:=zeroValue9
 t22:=underlying65
 a22:=isAgg65
 z22:=sizeOf65
 v22:=zeroValue65
 t25:=underlying166
 a25:=isAgg166
 z25:=sizeOf166
 v25:=zeroValue166
 t39:=underlying214
 a39:=isAgg214
 z39:=sizeOf214
 v39:=zeroValue214
 t45:=underlying254
 a45:=isAgg254
 z45:=sizeOf254
 v45:=zeroValue254
 t46:=underlying255
 a46:=isAgg255
 z46:=sizeOf255
 v46:=zeroValue255
 t50:=underlying184
 a50:=isAgg184
 z50:=sizeOf184
 v50:=zeroValue184
 t53:=underlying181
 a53:=isAgg181
 z53:=sizeOf181
 v53:=zeroValue181
 t55:=underlying201
 a55:=isAgg201
 z55:=sizeOf201
 v55:=zeroValue201
 t66:=underlying282
 a66:=isAgg282
 z66:=sizeOf282
 v66:=zeroValue282
 t70:=underlying286
 a70:=isAgg286
 z70:=sizeOf286
 v70:=zeroValue286
 t76:=underlying304
 a76:=isAgg304
 z76:=sizeOf304
 v76:=zeroValue304
 t77:=underlying305
 a77:=isAgg305
 z77:=sizeOf305
 v77:=zeroValue305}
open Go.RowKit Go.Lib Go.Sort in
theorem nI {α:Type} [Inhabited α] (p:Option Addr) (cap:Nat) (fv:Value) (w:World):
 Calls prog 62 #[.slice p 0 cap,fv] w fun e w'=>e=.returned (.tuple #[])/\w'=w:=AnyF.slices_SortFunc_none nH p cap fv w
open Go.RowKit Go.Lib Go.Sort in
theorem nJ {α:Type} [Inhabited α] (enc:α->Value) (h1:OneCell enc) (cf:α->α->Int) (hO:SWO (ltOf cf)) (g:Nat) (cb:Array Value) (blk off cap:Nat) (d:Array α) (w:World) (eg: ∀args w,(callFunc g args).run prog w=.ok (.enter g args) w) (hcmp:CmpLays1 prog g cb enc cf blk off d.size w) (hH:Holds enc w blk off d) (hblk:blk<w.heap.size) (hsz:d.size<4611686018427387904) (hT: ∀x y,(ltOf cf) x y=false->(ltOf cf) y x=false->x=y):
 Calls prog 62 #[.slice (some ⟨blk,off,none⟩) d.size cap,.func (.func g) #[] cb] w fun e w'=>
  e=.returned (.tuple #[])/\ ∃n os,w'=sortWorld enc w blk off n (d.toList.mergeSort fun x y=> !(ltOf cf) y x).toArray os:=Any.slices_SortFunc_total nD enc h1 cf hO g cb blk off cap d w eg hcmp hH hblk hsz hT
end Go.Proofs
namespace Go.Proofs.YtfbnfhhmiiahnaaGreatDoor
open Go Wk
open Go.RowKit (Below)
attribute [local irreducible] Go.Calls
theorem Yf (l:List UInt8) {k:Nat} (h:k<l.length): ∃c,l[k]? =some c:=⟨l[k],adK h⟩
def signs:List UInt8:= "abcdefghijklmnopqrstuvwxyz0123456789,._+-@#?".toUTF8.data.toList
theorem EY:signs=[97,98,99,100,101,102,103,104,105,106,107,108,109,110,111,112,113,114,115,116,117,118,119,120,121,122,48,49,50,51,52,53,54,55,56,57,44,46,95,43,45,64,35,63]:=by decide
def qK (s:List UInt8):Bool:=decide (s≠ []/\s.length<=31)&&s.all fun c=>signs.contains c
theorem vY {w:World} {l:List UInt8} {c:UInt8}:Calls prog 112 #[vs l,.int .u8 c.toNat] w (Ret fun r w'=>r=vi (Lib.indexByte l c)/\w=w'):=by
 refine (l7 ⟨l.toArray⟩ c.toNat w).mono ?_;rintro e w' ⟨rfl,rfl⟩;exact ⟨_,rfl,by simp,rfl⟩
theorem LC {l:List UInt8} {c:UInt8} (h:Lib.indexByte l c<0):l.contains c=false:=by
 have hge:=Lib.indexByte_ge l c;have:=Lib.indexByte_none (show Lib.indexByte l c= -1 by omega);rw [apI];intro hc;obtain ⟨k,hk⟩:=List.mem_iff_getElem?.1 (List.contains_iff_mem.1 hc);exact this k hk
theorem VU {l:List UInt8} {c:UInt8} (h:0<=Lib.indexByte l c):l.contains c=true:=by
 obtain ⟨o,ho⟩:=aoR h;exact List.contains_iff_mem.2 (apD (Lib.indexByte_some ho).1)
theorem Yg {α:Type} {p:α->Bool} {xs:List α} {i:Nat} {x:α} (h:xs[i]? =some x) (hi:(xs.take i).all p=true) (hx:p x=true):(xs.take (i+1)).all p=true:=by
 rw [aql,h,List.all_append,hi];simp [hx]
theorem Yh {α:Type} {p:α->Bool} {xs:List α} {i:Nat} {x:α} (h:xs[i]? =some x) (hx:p x=false):xs.all p=false:=by
 rw [List.all_eq_false];exact ⟨x,apD h,by simp [hx]⟩
def Cc (s:List UInt8):Int:=if qK s=true then 0 else 10
theorem LD {w:World} {s:List UInt8}:Calls prog 101 #[vs s] w (Ret fun r w'=>r=vi (Cc s)/\New w w'):=by
 refine oI (n:=23) func101 rfl rfl rfl ?_;(repeat' (first|refine qq6 ?_|refine aW rfl rfl (fun _=>?_) (fun _=>?_)|refine fD rfl rfl (fun _=>?_) (fun _=>?_)))
 ·have e:s=[]:=by assumption
  subst e;exact ay rfl rfl ⟨_,rfl,rfl,aB _ _⟩
 ·refine ay rfl rfl ⟨_,rfl,?_,aB _ _⟩;unfold Cc qK;rw [decide_eq_false (by omega)];rfl
 ·have hne:s≠ []:=by assumption
  have hle:s.length<=31:=by omega
  refine jF rfl (by simp only [maxLen];omega) fun w1 cap C fr _ _ _ n1 _ hr=>?_;refine qq6 ?_;refine aC (σ:=Nat) (fun i=>[(13,.slice (some ⟨w.heap.size,0,none⟩) s.length cap),(14,vi s.length),(15,vi i)]) (fun i w'=>i<=s.length/\(s.take i).all (fun c=>signs.contains c)=true/\w1=w') (fun i=>s.length-i) 0 (sl rfl) ⟨aoZ _,rfl,rfl⟩ ?_;rintro i G _ ⟨hi,hall,rfl⟩;simp only [ql];(repeat' (first|refine qq2 ?_|refine aa2 (fun _=>?_) (fun _=>?_)))
  ·obtain ⟨c,hc⟩:=Yf s (k:=i) (by omega);refine bC hr rfl rfl (by omega) hc fun b o hcell=>?_;refine ah rfl hcell ?_;refine qq2 ?_;refine au (vY (l:=signs) (c:=c)) (by rw [EY];rfl) ?_;rintro _ _ ⟨rfl,rfl⟩;(repeat' (first|refine qq4 ?_|refine aa2 (fun _=>?_) (fun _=>?_)))
   ·refine ay rfl rfl ⟨_,rfl,?_,n1⟩;unfold Cc qK;rw [Yh hc (LC (by assumption)),aqy];rfl
   ·exact aA (i+1) (sl rfl) ⟨by omega,Yg hc hall (VU (by assumption)),rfl⟩ (by omega)
  ·have e:i=s.length:=by omega
   subst e;rw [apZ] at hall;refine ay rfl rfl ⟨_,rfl,?_,n1⟩;unfold Cc qK;rw [hall,decide_eq_true ⟨hne,hle⟩];rfl
abbrev Pr:=List UInt8×List UInt8
def pC (p:Pr):List Value:=[vs p.1,vs p.2]
structure Nd where
 parent:Int
 name:List UInt8
 qj:List Pr
deriving DecidableEq,Inhabited
abbrev rPr:Rel Pr:=flat pC
def rNd:Rel Nd:=fun Pb w x cs=> ∃v,cs=[vi x.parent,vs x.name,v]/\RdS rPr 2 Pb w v x.qj
theorem Js:rF rPr 2:=rC pC (fun _=>rfl) (fun x c hc=>by simp [pC] at hc;rcases hc with rfl|rfl<;>rfl)
theorem pU:Stable rNd:=fun _ _ _ _ _ hk ⟨v,e,h⟩=>⟨v,e,h.keep (pI pC) hk⟩
theorem Ce:BR rNd:=fun _ _ _ _ _ hP ⟨v,e,h⟩=>⟨v,e,h.mono (oU pC) hP⟩
theorem acw:rF rNd 3:=⟨pU,Ce,fun Pb w x cs ⟨v,e,h⟩ _ c hc=>by
 subst e;obtain ⟨a,cap,rfl,_⟩:=h.form;simp at hc;rcases hc with rfl|rfl|rfl<;>rfl⟩
def AZ (seen:List (List UInt8)):List Pr->Bool
 | []=>true
 |p::r=>qK p.1&&(decide (p.2.length<=1024)&&(!seen.contains p.1&&AZ (seen++ [p.1]) r))
def A7 (l:List Pr):Bool:=decide (l.length<=32)&&AZ [] l
theorem LG {s:List UInt8} (h:Cc s=0):qK s=true:=by
 unfold Cc at h;split at h
 ·assumption
 ·cases h
theorem Jt {s:List UInt8} (h:Cc s≠0):qK s=false:=by
 unfold Cc at h;split at h
 ·exact absurd rfl h
 ·simpa using ‹¬qK s=true›
theorem A8 {s:List UInt8} (h:qK s=true):s.length<=31:=by
 unfold qK at h;simp only [ao0,decide_eq_true_eq] at h;exact h.1.2
theorem drop_cons {α:Type} {l:List α} {i:Nat} {x:α} (h:l[i]? =some x):l.drop i=x::l.drop (i+1):=by
 obtain ⟨h1,rfl⟩:=List.getElem?_eq_some_iff.1 h;exact apd h1
theorem take_snoc {α:Type} {l:List α} {i:Nat} {x:α} (h:l[i]? =some x):l.take (i+1)=l.take i++ [x]:=by
 rw [aql,h];rfl
theorem pz {α:Type} (xs:List α) {k:Nat} (h:k<xs.length): ∃x,xs[k]? =some x:=⟨xs[k],adK h⟩
theorem yA {a b:List UInt8} (h:vs a=vs b):a=b:=by
 simp only [vs,Value.string.injEq,ByteArray.mk.injEq] at h;simpa using h
theorem Yi (s:List UInt8) (h:s.length<=31): ∃q,keyOf prog 9 (vs s)=some q:=
 ⟨_,WideMaps.keyOf_string_mk underlying9 (by simp only [ByteArray.size,ao4,maxLen];omega)⟩
abbrev VW {α:Type} (f:α->Value) (ks:List α):List (Value×Value):=ks.map fun k=>(f k,.bool true)
theorem Si {Pb:Nat->Prop} {w:World} {v:Value} {l:List Pr} (h:RdS rPr 2 Pb w v l):
 Calls prog 100 #[v] w (Ret fun r w'=>r=.bool (A7 l)/\New w w'):=by
 obtain ⟨a,cap,rfl,hc1,hc2⟩:=h.form;simp only [maxLen] at hc2;refine oI (n:=36) func100 rfl rfl rfl ?_;unfold A7;(repeat' (first|refine qq2 ?_|refine aW rfl rfl (fun _=>?_) (fun _=>?_)))
 ·rw [decide_eq_false (by omega)];exact ay rfl rfl ⟨_,rfl,rfl,aB _ _⟩
 ·rw [decide_eq_true (by omega),aqf];refine fZ (k:=9) fun w1 m1 n1 s1=>?_;generalize hbm:w.heap.size=bm at m1;refine qq4 ?_;refine aC (σ:=Nat) (fun i=>[(3,.map (some bm)),(10,.slice a l.length cap),(11,vi l.length),(12,vi i)]) (fun i w'=>i<=l.length/\AZ [] l=AZ ((l.take i).map (·.1)) (l.drop i)/\sK prog 9 w' bm (VW vs ((l.take i).map (·.1)))/\New w w') (fun i=>l.length-i) 0 (sl rfl) ⟨aoZ _,by simp,m1,n1⟩ ?_;rintro i G w2 ⟨hi,hgo,m2,n2⟩;simp only [ql];(repeat' (first|refine qq2 ?_|refine aa2 (fun _=>?_) (fun _=>?_)))
  ·obtain ⟨p,hp⟩:=pz l (k:=i) (by omega);refine aO (h.keep (pI pC) n2.keep) rfl rfl (by omega) hp fun b o cs hl hR hat=>?_;obtain rfl:cs=pC p:=hR;refine aS hat rfl rfl ?_;refine Wl.alloc fun w3 b3 n3 s3=>?_;refine aK (new:=pC p) b3 rfl rfl rfl rfl zl2 (Js.oc (fun _=>True) w p _ rfl rfl) fun w4 b4 c4 s4=>?_;have m4:=(m2.keep n3.keep (Pb:=fun _=>True) trivial).chg c4 (by have:=m2.lt;omega);have n4:New w w4:=Chg.trans (New.trans n2 n3) c4 fun k hk e=>by have:=n2.size;omega
   replace b4:Bk w4 w2.heap.size 70 (pC p):=b4;rw [drop_cons hp] at hgo;simp only [AZ] at hgo;refine qq2 ?_;refine ah rfl (b4.cell (o:=0) rfl) ?_;refine au (LD (s:=p.1)) rfl ?_;rintro _ w5 ⟨rfl,n5⟩;replace b4:=b4.keep n5.keep (Pb:=fun _=>True) trivial;replace m4:=m4.keep n5.keep (Pb:=fun _=>True) trivial;replace n5:=New.trans n4 n5;(repeat' (first|refine qq5 ?_|refine aa4 (fun _=>?_) (fun _=>?_)))
   ·rw [hgo,Jt (by assumption),aqg];exact ay rfl rfl ⟨_,rfl,rfl,n5⟩
   ·have hok:=LG (by assumption);rw [hok,aqf] at hgo;refine ah rfl (b4.cell (o:=1) rfl) ?_;(repeat' (first|refine qq5 ?_|refine aW rfl rfl (fun _=>?_) (fun _=>?_)))
    ·rw [hgo,decide_eq_false (by omega),aqg];exact ay rfl rfl ⟨_,rfl,rfl,n5⟩
    ·rw [decide_eq_true (by omega),aqf] at hgo;refine ah rfl (b4.cell (o:=0) rfl) ?_;obtain ⟨q,hq⟩:=Yi p.1 (A8 hok);refine aQ rfl rfl ?_;refine jb (Maps.string_keyed underlying9) m4 hq rfl rfl ?_;rintro r (hr|⟨rfl,hr⟩)
     ·obtain ⟨k,hk,e⟩:=List.mem_map.1 hr;simp only [Prod.mk.injEq] at e;obtain ⟨e1,rfl⟩:=e;rw [yA e1] at hk;rw [List.contains_iff_mem.2 hk,aqz,aqg] at hgo;refine qq5 ?_;rw [hgo];exact ay rfl rfl ⟨_,rfl,rfl,n5⟩
     ·have hnk:((l.take i).map (·.1)).contains p.1=false:=by rw [apI];intro hc;exact hr (vs p.1,.bool true) (List.mem_map.2 ⟨p.1,List.contains_iff_mem.1 hc,rfl⟩) rfl
      rw [hnk,aqm,aqf] at hgo;refine qq4 ?_;refine ah rfl (b4.cell (o:=0) rfl) ?_;refine iq (u:=.bool true) (Maps.string_keyed underlying9) m4 hq hr rfl rfl rfl fun w6 m6 c6 s6=>?_;refine qq4 ?_;refine aA (i+1) (sl rfl) ⟨by omega,?_,?_,Chg.trans n5 c6 fun k hk e=>by omega⟩ (by omega)
      ·rw [hgo,take_snoc hp,aqn];rfl
      ·rw [take_snoc hp,aqn];simpa [VW] using m6
  ·have e:i=l.length:=by omega
   subst e;rw [hgo,aqi];exact ay rfl rfl ⟨_,rfl,rfl,n2⟩
abbrev Kid:=Int×List UInt8
def Nj (k:Kid):Value:=.agg #[vi k.1,vs k.2]
theorem Yj {a b:Kid} (h:Nj a=Nj b):a=b:=by
 obtain ⟨a1,a2⟩:=a;obtain ⟨b1,b2⟩:=b;simp only [Nj,Value.agg.injEq] at h;have h':=congrArg Array.toList h;simp only [List.cons.injEq,and_true] at h';have e1:a1=b1:=by have:=h'.1;simpa using this
 rw [e1,yA h'.2]
theorem O4:Maps.Keyed prog 223:=
 Maps.Keyed.of_law (deep_law (m:=2) (by decide) (by kernel_rfl) (by kernel_rfl) (by rw [underlying223]))
theorem acy (p:Int) (s:List UInt8) (h0:0<=p) (h1:p<1000) (hs:s.length<=31): ∃q,keyOf prog 223 (Nj (p,s))=some q:=by
 have h1':prog.keyType 223=true:=by kernel_rfl
 have h2:(Nj (p,s)).formed prog 223=true:=by kernel_rfl
 have hc:prog.cellsOf 223=2:=by kernel_rfl
 have hi:prog.cellsOf 3=1:=by kernel_rfl
 have hst:prog.cellsOf 9=1:=by kernel_rfl
 have hw:(Lit.int .i64 p).wf=true:=by simp [Lit.wf,IntKind.min,IntKind.max,IntKind.signed,IntKind.bits];omega
 have hl:(⟨s.toArray⟩:ByteArray).size<=maxLen:=by simp only [ByteArray.size,ao4,maxLen];omega
 obtain ⟨D,hD⟩: ∃D,prog.types.size=D+1:=⟨_,show prog.types.size=(prog.types.size-1)+1 by kernel_rfl⟩;have e1:prog.keyLits (D+1) 3 [vi p]=some [.int .i64 p]:=by simp [Program.keyLits,underlying3,hw]
 have e2:prog.keyLits (D+1) 9 [vs s]=some [.string s]:=by simp [Program.keyLits,underlying9,hl]
 have h3: ∃L,prog.keyLits (prog.types.size+1) 223 [vi p,vs s]=some L:=by rw [hD];refine ⟨[.int .i64 p,.string s],?_⟩;simp [Program.keyLits,underlying223,underlying3,underlying9,hc,hi,hst,hw,hl]
 obtain ⟨L,h3⟩:=h3;unfold keyOf;rw [underlying223];simp only [h1',h2,Bool.and_self,if_true];exact ⟨_,by rw [show (Nj (p,s)).cells.toList=[vi p,vs s] from rfl,h3];rfl⟩
def xN:Nat->List Int->List Int->List Kid->List Nd->Int×Option (List Int)
 |_,dp,_,_,[]=>(0,some dp)
 |i,dp,pt,sn,x::r=>
  if 512<=i∨A7 x.qj=false then ((i:Int),none)
  else if i=0 then (if x.parent≠ -1∨x.name≠ [] then (0,none) else xN 1 (dp++ [1]) [0] sn r)
  else if qK x.name=false∨x.parent<0∨(i:Int)<=x.parent then ((i:Int),none)
  else if (pt.length:Int)<dp.getD x.parent.toNat 0∨pt.getD (dp.getD x.parent.toNat 0-1).toNat 0≠x.parent∨16<dp.getD x.parent.toNat 0+1∨sn.contains (x.parent,x.name)=true then ((i:Int),none)
  else xN (i+1) (dp++ [dp.getD x.parent.toNat 0+1]) (pt.take (dp.getD x.parent.toNat 0).toNat++ [(i:Int)]) (sn++ [(x.parent,x.name)]) r
theorem Sj {Pb:Nat->Prop} {w:World} {v:Value} {l:List Nd} (h:RdS rNd 3 Pb w v l):
 Calls prog 76 #[v] w (Ret fun r w'=>(∃u,r=.tuple #[vi (xN 0 [] [] [] l).1,u,.bool ((xN 0 [] [] [] l).2.isSome&&decide (0<l.length))])/\New w w'):=by
 obtain ⟨a,cap,rfl,hc1,hc2⟩:=h.form;simp only [maxLen] at hc2;refine oI (n:=116) func76 rfl rfl rfl ?_;refine qq2 ?_;refine Wl.ahf rfl rfl ?_;refine jC (R:=Wk.one vi) (Pe:=fun _=>False) (c:=if (512:Int)<(l.length:Int) then 512 else (l.length:Int)) rfl rfl (by split<;>omega) (by split<;>omega) (by split<;>omega) fun vd w1 od n1=>?_;refine qq1 ?_;refine fZ (k:=223) fun w2 m2 n2 s2=>?_;have od2:=(od.mono (Pb':=fun b=>w.heap.size<=b/\b≠w1.heap.size) (pq _) (fun b hb h=>⟨h,by omega⟩) (fun _ _ h=>h)).new (oJ _) n2;clear od;replace n2:=New.trans n1 n2;have hs1:=n1.size;generalize hbm:w1.heap.size=bm at m2 od2;refine qq4 ?_;refine aC (σ:=Nat×Value×Value×List Int×List Int×List Kid) (fun s=>[(0,.slice a l.length cap),(5,s.2.1),(6,s.2.2.1),(7,.map (some bm)),(17,.slice a l.length cap),(18,vi l.length),(19,vi s.1)]) (fun s w'=>s.1<=l.length/\s.1<=512/\xN 0 [] [] [] l=xN s.1 s.2.2.2.1 s.2.2.2.2.1 s.2.2.2.2.2 (l.drop s.1)/\s.2.2.2.1.length=s.1/\(∀x∈s.2.2.2.1,1<=x/\x<=16)/\s.2.2.2.2.1.length<=17/\ oP (Wk.one vi) 3 1 (fun b=>w.heap.size<=b/\b≠bm) (fun _=>False) w' s.2.1 s.2.2.2.1/\oP (Wk.one vi) 3 1 (fun b=>w.heap.size<=b/\b≠bm) (fun _=>False) w' s.2.2.1 s.2.2.2.2.1/\Sep s.2.1 s.2.2.1/\ sK prog 223 w' bm (VW Nj s.2.2.2.2.2)/\New w w') (fun s=>l.length-s.1) (0,vd,.slice none 0 0,[],[],[]) (sl rfl) ⟨aoZ _,by simp,by simp,rfl,by simp,by simp,od2,aN,fun _ _=>by simp [Value.ownBlock],m2,n2⟩ ?_;rintro ⟨i,vd,vp,dp,pt,sn⟩ G w3 ⟨hi,ajq,hgo,hdl,hd,hpl,od3,op3,hsep,m3,n3⟩;dsimp only at hi ajq hgo hdl hd hpl od3 op3 hsep m3 n3;obtain ⟨pp,cp,rfl,_,_⟩:=op3.form;simp only [ql];(repeat' (first|refine qq2 ?_|refine aa2 (fun _=>?_) (fun _=>?_)|refine aW rfl rfl (fun _=>?_) (fun _=>?_)))
 ·obtain ⟨x,hx⟩:=pz l (k:=i) (by omega);refine dF h n3.keep rfl rfl (by omega) hx fun b o cs hl hR hat=>?_;obtain ⟨pv,rfl,hpr⟩:=hR;refine aS hat rfl rfl ?_;refine Wl.alloc fun w4 b4 n4 s4=>?_;(repeat' (refine aa7 ?_));refine aK (new:=[vi x.parent,vs x.name,pv]) b4 rfl rfl rfl rfl zl3 (acw.oc Pb w x _ ⟨pv,rfl,hpr⟩ rfl) fun w5 b5 c5 s5=>?_;replace b5:Bk w5 w3.heap.size 73 [vi x.parent,vs x.name,pv]:=b5;have m5:=(m3.keep n4.keep (Pb:=fun _=>True) trivial).chg c5 (by have:=m3.lt;omega);have od5:=(od3.new (oJ _) n4).chg (oJ _) c5 (fun k hk e=>by have:=(od3.lt hk).2;omega);have op5:=(op3.new (oJ _) n4).chg (oJ _) c5 (fun k hk e=>by have:=(op3.lt hk).2;omega);have hn3:=n3.size;have n5:New w w5:=Chg.trans (New.trans n3 n4) c5 fun k hk e=>by omega
  have hbn:w3.heap.size≠bm:=by have:=m3.lt;omega
  clear m3 od3 op3 b4 c5 n4 n3;rw [drop_cons hx] at hgo;simp only [xN] at hgo;(repeat' (first|refine qq5 ?_|refine aV rfl rfl (fun _=>?_) (fun _=>?_)))
  ·rw [if_pos (.inl (by omega))] at hgo;rw [hgo];exact cZ rfl rfl rfl rfl ⟨_,rfl,⟨_,rfl⟩,n5⟩
  ·refine ah rfl (b5.cell (o:=2) rfl) ?_;refine aQ rfl rfl ?_;refine au (Si (hpr.keep (pI pC) n5.keep)) rfl ?_;rintro _ w6 ⟨rfl,n6⟩;have b6:=b5.keep n6.keep (Pb:=fun _=>True) trivial;have m6:=m5.keep n6.keep (Pb:=fun _=>True) trivial;have od6:=od5.new (oJ _) n6;have op6:=op5.new (oJ _) n6;replace n6:=New.trans n5 n6;clear b5 m5 od5 op5;cases hpo:A7 x.qj with
   |false=>refine qq5 ?_;rw [if_pos (.inr hpo)] at hgo;rw [hgo];exact cZ rfl rfl rfl rfl ⟨_,rfl,⟨_,rfl⟩,n6⟩
   |true=>
    rw [if_neg (by rw [hpo];simp;omega)] at hgo;(repeat' (first|refine qq4 ?_|refine bH rfl rfl (fun _=>?_) (fun _=>?_)))
    ·have e0:i=0:=by omega
     subst e0;rw [if_pos rfl] at hgo;refine ah rfl (b6.cell (o:=0) rfl) ?_;(repeat' (first|refine qq5 ?_|refine aa4 (fun _=>?_) (fun _=>?_)))
     ·rw [if_pos (.inl (by assumption))] at hgo;rw [hgo];exact cZ rfl rfl rfl rfl ⟨_,rfl,⟨_,rfl⟩,n6⟩
     ·refine ah rfl (b6.cell (o:=1) rfl) ?_;(repeat' (first|refine qq4 ?_|refine iI rfl rfl (fun _=>?_) (fun _=>?_)))
      ·rw [if_pos (.inr (by assumption))] at hgo;rw [hgo];exact cZ rfl rfl rfl rfl ⟨_,rfl,⟨_,rfl⟩,n6⟩
      ·rw [if_neg (by simp only [not_or,aqA];exact ⟨by assumption,by assumption⟩)] at hgo;have s6:=n6.size;refine bF (R:=Wk.one vi) (y:=0) (Pe:=fun _=>False) (uI _ fun _=>rfl) rfl rfl rfl rfl (by omega) (by omega) fun vp' w7 op7 n7 s7 hob=>?_;have od7:=od6.new (oJ _) n7;have m7:=m6.keep n7.keep (Pb:=fun _=>True) trivial;have hm7:=m6.lt;(repeat' (refine aa1 ?_));refine bZ (y:=1) (uI _ fun _=>rfl) od7 rfl rfl rfl rfl rfl (by omega) (by omega) (by simp only [maxLen];omega) (by omega) rfl rfl fun vd' w8 p od8 c8 lie=>?_;refine qq8 ?_;have hsp:Sep vp' vd:=fun k hk hk'=>by rw [hob] at hk;cases hk;have:=(od6.lt hk').2;omega
       refine aA (1,vd',vp',dp++ [1],[0],sn) (sl rfl) ⟨by dsimp only;omega,by dsimp only;omega,hgo,by simp [hdl],?_,by simp,od8.mono (pq _) (fun b hb h=>by rcases h with h|h;exact h;exact ⟨by omega,by omega⟩) (fun _ _ h=>h),
        (op7.mono (pq _) (fun b hb h=>⟨by omega,by omega⟩) (fun _ _ h=>h)).chg (oJ _) c8 hsp,(BX op7 hsp lie).symm,m7.chg c8 (fun e=>(od7.lt e).1.2 rfl),Chg.trans (New.trans n6 n7) c8 fun k hk e=>by have:=(od7.lt e).1.1;omega⟩ (by dsimp only;omega)
       intro y hy;rcases List.mem_append.1 hy with hy|hy
       ·exact hd y hy
       ·simp at hy;omega
    ·have hi0:i≠0:=by omega
     rw [if_neg hi0] at hgo;refine ah rfl (b6.cell (o:=1) rfl) ?_;refine au (LD (s:=x.name)) rfl ?_;rintro _ w7 ⟨rfl,n7⟩;have b7:=b6.keep n7.keep (Pb:=fun _=>True) trivial;have m7:=m6.keep n7.keep (Pb:=fun _=>True) trivial;have od7:=od6.new (oJ _) n7;have op7:=op6.new (oJ _) n7;replace n7:=New.trans n6 n7;clear b6 m6 od6 op6;(repeat' (first|refine qq5 ?_|refine aa4 (fun _=>?_) (fun _=>?_)))
     ·rw [if_pos (.inl (Jt (by assumption)))] at hgo;rw [hgo];exact cZ rfl rfl rfl rfl ⟨_,rfl,⟨_,rfl⟩,n7⟩
     ·have hnm:=LG (by assumption);refine ah rfl (b7.cell (o:=0) rfl) ?_;(repeat' (first|refine qq5 ?_|refine aa2 (fun _=>?_) (fun _=>?_)))
      ·rw [if_pos (.inr (.inl (by assumption)))] at hgo;rw [hgo];exact cZ rfl rfl rfl rfl ⟨_,rfl,⟨_,rfl⟩,n7⟩
      ·refine ah rfl (b7.cell (o:=0) rfl) ?_;(repeat' (first|refine qq4 ?_|refine aV rfl rfl (fun _=>?_) (fun _=>?_)))
       ·rw [if_pos (.inr (.inr (by assumption)))] at hgo;rw [hgo];exact cZ rfl rfl rfl rfl ⟨_,rfl,⟨_,rfl⟩,n7⟩
       ·rw [if_neg (by rw [hnm];simp;omega)] at hgo;obtain ⟨d,hdx⟩:=pz dp (k:=x.parent.toNat) (by omega);have hdr:=hd d (apD hdx);rw [apJ,hdx,aqB] at hgo;refine ah rfl (b7.cell (o:=0) rfl) ?_;refine bC (od7.rd (pq _)) rfl rfl (by omega) hdx fun b' o' hc=>?_;refine ah rfl hc ?_;refine qq2 ?_;refine ah rfl (b7.cell (o:=0) rfl) ?_;(repeat' (refine aa5 ?_));refine ah rfl (b7.cell (o:=1) rfl) ?_;refine bJ (ps:=[(0,.tmp 69),(1,.tmp 71)]) (parts:=[(0,vi x.parent),(1,vs x.name)]) rfl rfl (by simp [Value.cells]) ?_;refine Wl.alloc fun w8 b8 n8 s8=>?_;refine aK (new:=[vi x.parent,vs x.name]) b8 rfl rfl rfl rfl zl2 (by simp;exact ⟨rfl,rfl⟩) fun w9 b9 c9 s9=>?_;replace b9:Bk w9 w7.heap.size 223 [vi x.parent,vs x.name]:=b9;have s7:=n7.size;have m9:=(m7.keep n8.keep (Pb:=fun _=>True) trivial).chg c9 (by have:=m7.lt;omega);have od9:=(od7.new (oJ _) n8).chg (oJ _) c9 (fun k hk e=>by have:=(od7.lt hk).2;omega);have op9:=(op7.new (oJ _) n8).chg (oJ _) c9 (fun k hk e=>by have:=(op7.lt hk).2;omega);have n9:New w w9:=Chg.trans (New.trans n7 n8) c9 fun k hk e=>by omega
        have b79:=(b7.keep n8.keep (Pb:=fun _=>True) trivial).chg c9 (by have:=b7.lt;omega);clear m7 od7 op7 b8 c9 n8 b7;refine qq1 ?_;obtain ⟨q,hq⟩:=acy x.parent x.name (by omega) (by omega) (A8 hnm);refine fG rfl (by kernel_rfl) ?_;(repeat' (first|refine aa3 ?_|refine af ?_|refine bY rfl rfl ?_|refine iH rfl rfl ?_|refine dI rfl (by conv=>{lhs;whnf}) ?_|refine jD rfl ?_|refine Wq.sub rfl rfl (by omega) (by omega) ?_|refine fV rfl rfl (fun _=>?_) (fun _=>?_)))
        ·intro w10 n10;replace n10:=New.trans n9 n10;refine qq5 ?_;rw [if_pos (.inl (by omega))] at hgo;rw [hgo];exact cZ rfl rfl rfl rfl ⟨_,rfl,⟨_,rfl⟩,n10⟩
        ·obtain ⟨y,hy⟩:=pz pt (k:=(d-1).toNat) (by omega);rw [apJ,hy,aqB] at hgo;(try refine bY rfl rfl ?_);refine dD (op9.rd (pq _)) (fun w' hw=>hw.keep) rfl rfl (by omega) hy fun b2 o2 hc2=>?_;(try refine bY rfl rfl ?_);refine ax rfl hc2 ?_;(try refine bY rfl rfl ?_);refine aa6 ?_;(try refine bY rfl rfl ?_);refine ax rfl (fun w' hw=>(b79.chg hw id).cell (o:=0) rfl) ?_;(repeat' (first|refine qq7 ?_|refine fV rfl rfl (fun _=>?_) (fun _=>?_)|refine iZ rfl rfl (fun _=>?_) (fun _=>?_)))
         ·intro w10 n10;replace n10:=New.trans n9 n10;refine qq5 ?_;rw [if_pos (.inr (.inl (by assumption)))] at hgo;rw [hgo];exact cZ rfl rfl rfl rfl ⟨_,rfl,⟨_,rfl⟩,n10⟩
         ·intro w10 n10;replace n10:=New.trans n9 n10;refine qq5 ?_;rw [if_pos (.inr (.inr (.inl (by omega))))] at hgo;rw [hgo];exact cZ rfl rfl rfl rfl ⟨_,rfl,⟨_,rfl⟩,n10⟩
         ·(try refine bY rfl rfl ?_);refine bK (fun w' hw=>(b9.chg hw id).at) rfl rfl ?_;(try refine bY rfl rfl ?_);refine lN O4 m9 (u0:=.bool true) (fun p hp=>by obtain ⟨k,_,rfl⟩:=List.mem_map.1 hp;rfl) (fun w' hw=>hw.block _ m9.lt id) hq rfl rfl (fun hin=>?_) (fun hnot=>?_)
          ·have hcon:sn.contains (x.parent,x.name)=true:=by obtain ⟨k,hk,e⟩:=List.mem_map.1 hin;simp only [Prod.mk.injEq,and_true] at e;rw [Yj e] at hk;exact List.contains_iff_mem.2 hk
           refine qq7 ?_;intro w10 n10;replace n10:=New.trans n9 n10;refine qq5 ?_;rw [if_pos (.inr (.inr (.inr hcon)))] at hgo;rw [hgo];exact cZ rfl rfl rfl rfl ⟨_,rfl,⟨_,rfl⟩,n10⟩
          ·have hcon:sn.contains (x.parent,x.name)=false:=by rw [apI];intro hc;exact hnot (Nj (x.parent,x.name),.bool true) (List.mem_map.2 ⟨_,List.contains_iff_mem.1 hc,rfl⟩) rfl
           have hy':y=x.parent:=by assumption
           rw [if_neg (by rw [hcon,hy'];simp;omega)] at hgo;refine qq7 ?_;intro w10 n10;have m10:=m9.keep n10.keep (Pb:=fun _=>True) trivial;have acz:=od9.new (oJ _) n10;have acA:=op9.new (oJ _) n10;have b10:=b9.keep n10.keep (Pb:=fun _=>True) trivial;replace n10:=New.trans n9 n10;clear m9 od9 op9 b9 n9;refine qq4 ?_;refine bD b10 rfl rfl ?_;refine iq (u:=.bool true) (key:=Nj (x.parent,x.name)) O4 m10 hq hnot rfl rfl rfl fun w11 m11 c11 s11=>?_;have acB:=acz.chg (oJ _) c11 (fun k hk e=>(acz.lt hk).1.2 e);have aeu:=acA.chg (oJ _) c11 (fun k hk e=>(acA.lt hk).1.2 e);have n11:New w w11:=Chg.trans n10 c11 fun k hk e=>by omega
           have s9':=n11.size;clear m10 acz acA b10 n10;refine qq2 ?_;refine lQ aeu rfl rfl (by omega) (by omega) fun vq oq ob=>?_;(repeat' (refine aa1 ?_));refine bZ (y:=(i:Int)) (uI _ fun _=>rfl) oq rfl rfl rfl rfl rfl (by omega) (by omega) (by simp only [maxLen,apb];omega) (by simp only [apb];omega) rfl rfl fun vp' w12 p aay c12 aev=>?_;have hsq:Sep vd vq:=fun k hk hk'=>hsep k hk (ob▸hk');have acC:=acB.chg (oJ _) c12 hsq;have m12:=m11.chg c12 (fun e=>(oq.lt e).1.2 rfl);have anF:=m11.lt;have n12:New w w12:=Chg.trans n11 c12 fun k hk e=>by have:=(oq.lt e).1.1;omega
           have Yk:Sep vd vp':=BX acB hsq aev;replace aay:=aay.mono (Pb':=fun b=>w.heap.size<=b/\b≠bm) (pq _) (fun b hb h=>by rcases h with h|h;exact h;exact ⟨by omega,by omega⟩) (fun _ _ h=>h);have s12:=c12.size;clear oq aeu acB m11 c12;refine qq8 ?_;refine bZ (y:=d+1) (uI _ fun _=>rfl) acC rfl rfl rfl rfl rfl (by omega) (by omega) (by simp only [maxLen];omega) (by omega) rfl rfl fun vd' w13 p ajr c13 abV=>?_;have anG:=m12.lt;refine qq4 ?_
           refine aA (i+1,vd',vp',dp++ [d+1],pt.take d.toNat++ [(i:Int)],sn++ [(x.parent,x.name)]) (sl rfl) ⟨by dsimp only;omega,by dsimp only;omega,hgo,by simp [hdl],?_,by simp;omega,
            ajr.mono (pq _) (fun b hb h=>by rcases h with h|h;exact h;exact ⟨by omega,by omega⟩) (fun _ _ h=>h),
            aay.chg (oJ _) c13 Yk.symm,(BX aay Yk.symm abV).symm,?_,Chg.trans n12 c13 fun k hk e=>by have:=(acC.lt e).1.1;omega⟩ (by dsimp only;omega)
           ·intro z hz;rcases List.mem_append.1 hz with hz|hz
            ·exact hd z hz
            ·simp at hz;omega
           ·have:=m12.chg c13 (fun e=>(acC.lt e).1.2 rfl);simpa [VW] using this
 all_goals
  have e:i=l.length:=by omega
  subst e;rw [aqi] at hgo;simp only [xN] at hgo;obtain ⟨qd,cd,rfl,_,_⟩:=od3.form;rw [hgo];refine cZ rfl rfl rfl rfl ⟨_,rfl,⟨.slice qd dp.length cd,?_⟩,n3⟩;rw [Option.isSome_some,aqf]
  first|(rw [decide_eq_true (by omega)];rfl)|(rw [decide_eq_false (by omega)];rfl)
def zJ (c:UInt8):List UInt8->List (List UInt8)
 | []=>[[]]
 |b::l=>if b=c then []::zJ c l else (match zJ c l with|h::t=>(b::h)::t| []=>[[b]])
theorem H8 {c:UInt8}: ∀ {l:List UInt8},(∀b∈l,b≠c)->zJ c l=[l]
 | [],_=>rfl
 |b::l,h=>by rw [zJ,if_neg (h b (by simp)),H8 fun x hx=>h x (by simp [hx])]
theorem LH {c:UInt8} {r:List UInt8}: ∀ {p:List UInt8},(∀b∈p,b≠c)->zJ c (p++c::r)=p::zJ c r
 | [],_=>by simp [zJ]
 |b::l,h=>by rw [aeH,zJ,if_neg (h b (by simp)),LH fun x hx=>h x (by simp [hx])]
def pM (l:List Nd):Bool:=(xN 0 [] [] [] l).2.isSome&&decide (0<l.length)
def Yl (l:List Nd):Int:=if pM l=true then 0 else (xN 0 [] [] [] l).1
def H9 (l:List Nd):Int:=if pM l=true then 0 else 40
theorem wS {Pb:Nat->Prop} {w:World} {v:Value} {l:List Nd} (h:RdS rNd 3 Pb w v l):
 Calls prog 44 #[v] w (Ret fun r w'=>r=.tuple #[vi (Yl l),vi (H9 l)]/\New w w'):=by
 refine oI func44 rfl ntmps44 rfl ?_;refine qq2 ?_;refine au (Sj h) rfl ?_;rintro _ w1 ⟨⟨u,rfl⟩,n1⟩;unfold Yl H9;cases hok:pM l with
 |true=>have e:((xN 0 [] [] [] l).2.isSome&&decide (0<l.length))=true:=hok;rw [e];refine qq4 ?_;exact aG rfl rfl rfl ⟨_,rfl,rfl,n1⟩
 |false=>have e:((xN 0 [] [] [] l).2.isSome&&decide (0<l.length))=false:=hok;rw [e];refine qq5 ?_;exact aG rfl rfl rfl ⟨_,rfl,rfl,n1⟩
theorem uM {l:List Nd} (h:pM l=true):0<l.length:=by
 unfold pM at h;simp only [ao0,decide_eq_true_eq] at h;exact h.2
structure aew (i:Nat) (x:Nd):Prop where
 lt:i<512
 pr:A7 x.qj=true
 root:i=0->x.parent= -1/\x.name=[]
 kid:i≠0->0<=x.parent/\x.parent<i/\qK x.name=true
theorem Ju: ∀(l:List Nd) (i:Nat) (dp pt:List Int) (sn:List Kid),(xN i dp pt sn l).2.isSome=true-> ∀j x,l[j]? =some x->aew (i+j) x
 | [],_,_,_,_,_,j,x,h=>by simp at h
 |y::r,i,dp,pt,sn,h,j,x,hx=>by
  rw [xN] at h;split at h
  ·cases h
  ·rename_i h1
   simp only [not_or,Nat.not_le,aqC] at h1;split at h
   ·rename_i h0
    subst h0;split at h
    ·cases h
    ·rename_i h2
     simp only [not_or,aqA] at h2;cases j with
     |zero=>simp at hx;subst hx;exact ⟨by omega,h1.2,fun _=>h2,fun e=>absurd rfl e⟩
     |succ j=>
      have:=Ju r 1 _ _ _ h j x (by simpa using hx)
      rwa [show 0+(j+1)=1+j by omega]
   ·rename_i h0
    split at h
    ·cases h
    ·rename_i h2
     simp only [not_or,aqC,Int.not_lt,Int.not_le] at h2;split at h
     ·cases h
     ·cases j with
      |zero=>simp at hx;subst hx;exact ⟨by omega,h1.2,fun e=>absurd e h0,fun _=>⟨h2.2.1,h2.2.2,h2.1⟩⟩
      |succ j=>
       have:=Ju r (i+1) _ _ _ h j x (by simpa using hx)
       rwa [show i+(j+1)=i+1+j by omega]
theorem rQ {l:List Nd} (h:pM l=true) {j:Nat} {x:Nd} (hx:l[j]? =some x):aew j x:=by
 unfold pM at h;simp only [ao0] at h;have:=Ju l 0 [] [] [] h.1 j x hx
 rwa [acL] at this
theorem qo {l:List Nd} (h:pM l=true):l.length<=512:=by
 rcases apy l.length with h0|h0
 ·omega
 ·obtain ⟨x,hx⟩:=pz l (k:=l.length-1) (by omega);have:=(rQ h hx).lt;omega
abbrev Nm:=List UInt8
def IE (t:List Nd):Nat->Nat->List Nm
 |0,_=>[]
 |f+1,i=>if i=0 then [] else match t[i]? with|some x=>IE t f x.parent.toNat++ [x.name]|none=>[]
def zV (t:List Nd) (i:Nat):List Nm:=IE t i i
theorem aaz {t:List Nd} (ht:pM t=true): ∀(f i:Nat),i<=f->IE t f i=zV t i:=by
 have key: ∀(i f g:Nat),i<=f->i<=g->IE t f i=IE t g i:=by
  intro i;induction i using aqj with
  |ind i ih=>
   intro f g hf hg;cases f with
   |zero=>cases g with
    |zero=>rfl
    |succ g=>obtain rfl:i=0:=by omega
             simp [IE]
   |succ f=>
    cases g with
    |zero=>obtain rfl:i=0:=by omega
           simp [IE]
    |succ g=>
     simp only [IE];split
     ·rfl
     ·rename_i h0
      split
      ·rename_i x hx
       have:=(rQ ht hx).kid h0;rw [ih x.parent.toNat (by omega) f g (by omega) (by omega)]
      ·rfl
 exact fun f i h=>key i f i h (aat _)
theorem yB (t:List Nd):zV t 0=[]:=rfl
theorem uN {t:List Nd} (ht:pM t=true) {i:Nat} {x:Nd} (hx:t[i]? =some x) (h0:i≠0):zV t i=zV t x.parent.toNat++ [x.name]:=by
 obtain ⟨m,rfl⟩: ∃m,i=m+1:=⟨i-1,by omega⟩;have:=(rQ ht hx).kid h0;show IE t (m+1) (m+1)=_;rw [IE,if_neg h0,hx];dsimp only;rw [aaz ht m x.parent.toNat (by omega)]
def BJ (l:List Nm):List UInt8:=if l=[] then [47] else l.flatMap fun n=>47::n
def O5 (n:Nm):Prop:=n≠ []/\ ∀b∈n,b≠47
theorem Ia {n:Nm} (h:qK n=true):O5 n:=by
 unfold qK at h;simp only [ao0,decide_eq_true_eq] at h;refine ⟨h.1.1,fun b hb e=>?_⟩;have:=List.all_eq_true.1 h.2 b hb;subst e;rw [EY] at this;simp at this
theorem Eb: ∀(l:List Nm) (n:Nm),(∀b∈n,b≠47)->(∀m∈l, ∀b∈m,b≠47)->zJ 47 (n++l.flatMap fun n=>47::n)=n::l
 | [],n,hn,_=>by simp [H8 hn]
 |m::l,n,hn,hl=>by rw [aqh,aeH,LH hn,Eb l m (hl m (by simp)) fun x hx=>hl x (by simp [hx])]
theorem VX {l m:List Nm} (hl: ∀n∈l,O5 n) (hm: ∀n∈m,O5 n) (h:BJ l=BJ m):l=m:=by
 have key: ∀(x:Nm) (r:List Nm),O5 x->BJ (x::r)≠ [47]:=fun x r hx e=>by unfold BJ at e;rw [if_neg (by simp),aqh,aeH] at e;have:=(List.cons.inj e).2;exact hx.1 (List.append_eq_nil_iff.1 this).1
 cases l with
 |nil=>cases m with
  |nil=>rfl
  |cons x r=>exact absurd (h.symm.trans (by unfold BJ;rw [if_pos rfl])) (key x r (hm x (by simp)))
 |cons x r=>cases m with
  |nil=>exact absurd (h.trans (by unfold BJ;rw [if_pos rfl])) (key x r (hl x (by simp)))
  |cons y s=>
   unfold BJ at h;rw [if_neg (by simp),if_neg (by simp),aqh,aqh,aeH,aeH] at h;have h2:=congrArg (zJ 47) (List.cons.inj h).2
   rwa [Eb r x (hl x (by simp)).2 fun z hz=>(hl z (by simp [hz])).2,Eb s y (hm y (by simp)).2 fun z hz=>(hm z (by simp [hz])).2] at h2
theorem Ba {t:List Nd} (ht:pM t=true): ∀(i:Nat), ∀n∈zV t i,O5 n/\n.length<=31:=by
 intro i;induction i using aqj with
 |ind i ih=>
  intro n hn;by_cases h0:i=0
  ·subst h0;simp [yB] at hn
  ·by_cases hi:i<t.length
   ·obtain ⟨x,hx⟩:=pz t hi;have hk:=(rQ ht hx).kid h0;rw [uN ht hx h0] at hn;rcases List.mem_append.1 hn with hn|hn
    ·exact ih _ (by omega) n hn
    ·simp at hn;subst hn;exact ⟨Ia hk.2.2,A8 hk.2.2⟩
   ·obtain ⟨m,rfl⟩: ∃m,i=m+1:=⟨i-1,by omega⟩;unfold zV at hn;rw [IE,if_neg h0,aoS (by omega)] at hn;simp at hn
theorem VY {t:List Nd} (ht:pM t=true): ∀(i:Nat),(zV t i).length<=i:=by
 intro i;induction i using aqj with
 |ind i ih=>
  by_cases h0:i=0
  ·subst h0;simp [yB]
  ·by_cases hi:i<t.length
   ·obtain ⟨x,hx⟩:=pz t hi;have hk:=(rQ ht hx).kid h0;rw [uN ht hx h0];have:=ih x.parent.toNat (by omega);simp only [adL,apm];omega
   ·obtain ⟨m,rfl⟩: ∃m,i=m+1:=⟨i-1,by omega⟩;unfold zV;rw [IE,if_neg h0,aoS (by omega)];simp
theorem VZ {l:List Nm} (h: ∀n∈l,n.length<=31):(BJ l).length<=32*l.length+1:=by
 have key:(l.flatMap fun n=>47::n).length<=32*l.length:=by
  induction l with
  |nil=>simp
  |cons x r ih=>have h1:=ih fun n hn=>h n (by simp [hn]);have h2:=h x (by simp);simp only [aqh,adL,aph] at h1 ⊢;omega
 unfold BJ;split
 ·simp
 ·omega
def val (ps:List Pr) (nm:Nm):Option (List UInt8):=(ps.find? fun p=>decide (p.1=nm)).map (·.2)
theorem Ym {ps:List Pr} {nm:Nm}:val ps nm=none↔ ∀p∈ps,p.1≠nm:=by
 unfold val;rw [Option.map_eq_none_iff,List.find?_eq_none];simp
def Cf (l:List Nd) (i:Int):Int:=if pM l=true then (if i<0∨(l.length:Int)<=i then 1 else 0) else 40
theorem yC {Pb:Nat->Prop} {w:World} {v:Value} {l:List Nd} {i:Int} (h:RdS rNd 3 Pb w v l):
 Calls prog 47 #[v,vi i] w (Ret fun r w'=>r=vi (Cf l i)/\New w w'):=by
 obtain ⟨a,cap,rfl,hc1,hc2⟩:=h.form;simp only [maxLen] at hc2;refine oI func47 rfl ntmps47 rfl ?_;refine qq2 ?_;refine au (wS h) rfl ?_;rintro _ w1 ⟨rfl,n1⟩;unfold H9 Cf;cases hok:pM l with
 |false=>rw [if_neg (by simp),if_neg (by simp)];(repeat' (first|refine qq5 ?_|(refine aa4 (fun _=>?_) (fun _=>?_)<;>(first|(exfalso;omega)|skip))));exact ay rfl rfl ⟨_,rfl,rfl,n1⟩
 |true=>
  rw [if_pos rfl,if_pos rfl];(repeat' (first|refine qq6 ?_|refine aa2 (fun _=>?_) (fun _=>?_)|refine aV rfl rfl (fun _=>?_) (fun _=>?_)|(refine aa4 (fun _=>?_) (fun _=>?_)<;>(first|(exfalso;omega)|skip))))
  ·rw [if_pos (.inl (by omega))];exact ay rfl rfl ⟨_,rfl,rfl,n1⟩
  ·rw [if_pos (.inr (by omega))];exact ay rfl rfl ⟨_,rfl,rfl,n1⟩
  ·rw [if_neg (by omega)];exact ay rfl rfl ⟨_,rfl,rfl,n1⟩
end Go.Proofs.YtfbnfhhmiiahnaaGreatDoor
namespace Go.Proofs.YtfbnfhhmiiahnaaGreatDoor.Wk
open Go Go.RowKit
def O6:Nat->List Value->List (Nat×Value)
 |_,[]=>[]
 |k,u::us=>(k,u)::O6 (k+1) us
theorem fill_dense (sz:Nat): ∀(us:List Value) (k:Nat) (pre zs:List Value),pre.length=k*sz->zs.length=us.length*sz->(∀u∈us,u.cells.size=sz)->
 Instr.fill (fun i=>some (i*sz,sz)) (pre++zs).toArray (O6 k us)=some (pre++us.flatMap fun u=>u.cells.toList).toArray
 | [],k,pre,zs,hp,hz,_=>by have:zs=[]:=aoP (by simpa using hz);subst this;simp [O6,Instr.fill]
 |u::us,k,pre,zs,hp,hz,h=>by have hu:=h u (by simp);simp only [aph,aaJ,aqD] at hz;simp only [O6,Instr.fill,hu];rw [if_neg (by simp;omega)];have hsp:zs=zs.take sz++zs.drop sz:=(apN sz zs).symm;have h1:=D5 (k*sz) u.cells.toList 0 pre (zs.drop sz) (zs.take sz) (by simp [hu];omega) (by omega);rw [List.append_assoc, <-hsp] at h1;rw [<-Array.foldl_toList,Array.toList_zipIdx];have h2:aqE (fun (cs:Array Value) (x:Value×Nat)=>match x with|(c,j)=>cs.setIfInBounds (k*sz+j) c) (pre++zs).toArray (u.cells.toList.zipIdx)=(pre++u.cells.toList++zs.drop sz).toArray:=h1;rw [h2,fill_dense sz us (k+1) (pre++u.cells.toList) (zs.drop sz) (by simp [hu,hp,aaJ]) (by simp;omega) fun v hv=>h v (by simp [hv])];simp
def Wh {α:Type} (R:Rel α) (sz:Nat) (Pb:Nat->Prop) (w:World):List α->List Value->Prop
 | [],[]=>True
 |x::xs,u::us=>u.cells.size=sz/\R Pb w x u.cells.toList/\Wh R sz Pb w xs us
 |_,_=>False
theorem Wh.length {α:Type} {R:Rel α} {sz:Nat} {Pb:Nat->Prop} {w:World}: ∀ {xs:List α} {us:List Value},Wh R sz Pb w xs us->us.length=xs.length/\ ∀u∈us,u.cells.size=sz
 | [],[],_=>⟨rfl,by simp⟩
 |x::xs,u::us,h=>by obtain ⟨h1,_,h2⟩:=h;have:=h2.length;exact ⟨by simp [this.1],fun v hv=>by rcases List.mem_cons.1 hv with rfl|hv;exact h1;exact this.2 v hv⟩
 | [],_::_,h=>h.elim
 |_::_,[],h=>h.elim
theorem Wh.get {α:Type} {R:Rel α} {sz:Nat} {Pb:Nat->Prop} {w:World}: ∀ {xs:List α} {us:List Value} {i:Nat} {x:α},Wh R sz Pb w xs us->xs[i]? =some x->R Pb w x (((us.flatMap fun u=>u.cells.toList).drop (i*sz)).take sz)
 | [],[],i,x,_,h=>by simp at h
 |y::xs,u::us,i,x,h,hx=>by
  obtain ⟨h1,h2,h3⟩:=h;have hl:u.cells.toList.length=sz:=by simpa using h1
  cases i with
  |zero=>simp at hx;subst hx;simp only [aqh,apw,apk];rw [List.take_append_of_le_length (by omega),apl (by omega)];exact h2
  |succ i=>have:=h3.get (i:=i) (by simpa using hx);rw [aqh,List.drop_append,aqo (show u.cells.toList.length<=(i+1)*sz by rw [hl,aaJ];omega),aoQ,hl,aaJ,aqD,aqF];exact this
 | [],_::_,_,_,h,_=>h.elim
 |_::_,[],_,_,h,_=>h.elim
section
variable {P:Program} {n:Nat} {ds:List Deferred} {Q:Po} {F:Fr} {w w':World} {ops rest:List Oper} {d d1 d2:Nat} {ty ty1 ty2:TypeId} {pos pos1 pos2:String} {aft Jg Jh:Array Edge}
theorem xk {us:List Value} {sz:Nat} (h: ∀u∈us,u.cells.size=sz):(us.flatMap fun u=>u.cells.toList).length=us.length*sz:=by
 induction us with
 |nil=>simp
 |cons u us ih=>simp [ih fun v hv=>h v (by simp [hv]),h u (by simp),aaJ];omega
theorem xI {t e:TypeId} {sz bytes:Nat} {agg:Bool} {z:Value} {us:List Value} (ht:P.underlying t=some (.slice e)) (he:ElT P e sz bytes agg z) (hv: ∀u∈us,u.cells.size=sz) (hs:0<us.length*sz) (hs2:us.length*sz<=16777216):
 (Instr.buildSlice t us.length (O6 0 us).toArray).run P w=.ok (.slice (some ⟨w.heap.size,0,none⟩) us.length us.length) (w.alloc (.cells (us.flatMap fun u=>u.cells.toList).toArray e)):=by
 have hne: ¬us.length*sz=0:=by omega
 have hz:=he.hz;have e3:=fill_dense sz us 0 [] (((abS (us.length*sz)).map fun i=>z.cells[i % z.cells.size]!)) (by simp) (by simp) hv;have e4:(Array.range (us.length*sz)).map (fun i=>z.cells[i % z.cells.size]!)=(((abS (us.length*sz)).map fun i=>z.cells[i % z.cells.size]!)).toArray:=by apply Array.ext';simp [Array.toList_range]
 rw [aoQ,aoQ, <-e4] at e3;simp only [Instr.buildSlice,Sem.run_bind,run_underlying ht,Result.andThen_ok,he.sizeOf];rw [if_neg (by omega),if_neg hne];simp only [Sem.run_bind,Result.andThen_ok,he.zeroValue,Sem.run_pure,e3,newRow,run_newObj];rfl
theorem jh {α:Type} {R:Rel α} {N:Nat} {ps:List (Nat×Operand)} {t e:TypeId} {sz bytes:Nat} {agg:Bool} {z:Value} {xs:List α} {us:List Value} {Pe:Nat->Prop} (hR:rF R sz) [ht:Und P t (.slice e)] [he:ElT P e sz bytes agg z] (hN:us.length=N) (hps:ps.map (fun p=>(p.1,ev n F p.2))=O6 0 us)
 (h:Wh R sz (fun b=>Pe b/\w.heap.size≠b) w xs us) (hsz:0<us.length*sz) (hsz2:us.length*sz<=16777216)
 (c: ∀v w',oP R e sz (fun b=>b=w.heap.size) Pe w' v xs->New w w'->w'.heap.size=w.heap.size+1->v.ownBlock=some w.heap.size->Wl P n ds Q ops rest (upd F d v) w'):
 Wl P n ds Q ops (⟨some d,.buildSlice t N ps.toArray,ty,pos,aft,none⟩::rest) F w:=by
 subst hN;obtain ⟨hl,hall⟩:=h.length;have hr:=xI (P:=P) (w:=w) ht.h he hall hsz hsz2;have hn:New w (w.alloc (.cells (us.flatMap fun u=>u.cells.toList).toArray e)):=Chg.alloc _ _ _;refine Wl.val (w':=w.alloc (.cells (us.flatMap fun u=>u.cells.toList).toArray e)) ?_ (c _ _ ⟨us.flatMap fun u=>u.cells.toList,⟨by rw [xk hall,hl],.inr ⟨w.heap.size,us.length,(us.flatMap fun u=>u.cells.toList).toArray,by rw [hl],rfl,heap_alloc_new w _,by omega,?_,by simpa using xk hall,?_⟩⟩,fun i x hx=>?_⟩ hn (by simp) rfl)
 ·simp only [execOp,adM,hps,Sem.run_bind,hr,Result.andThen_ok,Sem.run_pure];rw [hl]
 ·have:0<sz:=by rcases apy sz with h0|h0;rw [h0] at hsz;simp at hsz;exact h0
  have:us.length*1<=us.length*sz:=Nat.mul_le_mul_left _ this;unfold maxLen;omega
 ·show aqs (xs.length*sz) (us.flatMap fun u=>u.cells.toList)=_;rw [<-hl, <-xk hall,apZ]
 ·have h1:=hR.st _ _ _ _ _ hn.keep (h.get hx);exact hR.mo _ _ _ _ _ (fun b _ hb=>⟨hb.1,fun e=>hb.2 (by simpa [Value.ownBlock] using e)⟩) h1
end
section
variable {P:Program} {n:Nat} {ds:List Deferred} {Q:Po} {F:Fr} {w:World} {ops rest:List Oper} {d:Nat} {ty:TypeId} {pos:String} {aft:Array Edge}
theorem Ib {t e m bytes b:Nat} {agg:Bool} {z:Value} {k:IntKind} {j:Int} (ht:P.underlying t=some (.array m e)) (he:ElT P e 1 bytes agg z) (h0:0<=j) (h1:j<m):
 (Instr.indexAt t (.pointer (some ⟨b,0,none⟩)) (.int k j)).run P w=.ok (.pointer (some ⟨b,j.toNat,none⟩)) w:=by
 simp [Instr.indexAt,asIntOf,run_underlying ht,h0,h1,he.sizeOf,Instr.sureAddr,addr_add]
theorem iM {x i:Operand} {t e m bytes b:Nat} {agg:Bool} {z:Value} {k:IntKind} {j:Int} [ht:Und P t (.array m e)] [he:ElT P e 1 bytes agg z] (hx:ev n F x=.pointer (some ⟨b,0,none⟩)) (hi:ev n F i=.int k j) (h0:0<=j) (h1:j<m)
 (c:Wl P n ds Q ops rest (upd F d (.pointer (some ⟨b,j.toNat,none⟩))) w):Wl P n ds Q ops (⟨some d,.indexAddr t x i,ty,pos,aft,none⟩::rest) F w:=
 Wl.val (by simp only [execOp,hx,hi,Sem.run_bind,Ib ht.h he h0 h1,Result.andThen_ok,Sem.run_pure]) c
end
section
variable {P:Program} {n:Nat} {ds:List Deferred} {Q:Po} {C:World->Prop} {K:Fr->Prop} {F:Fr} {w w':World} {ops rest:List Oper} {d:Nat} {ty:TypeId} {pos:String} {aft:Array Edge} {x lo hi i:Operand} {t:TypeId} {k k':IntKind} {a b j:Int} {l:List UInt8}
theorem jG {c:UInt8} [ht:Und P t .string] (hx:ev n F x=vs l) (hi:ev n F i=.int k j) (h0:0<=j) (hj:l[j.toNat]? =some c)
 (q:Wq P n ds C K ops rest (upd F d (.int .u8 c.toNat))):Wq P n ds C K ops (⟨some d,.index t x i,ty,pos,aft,none⟩::rest) F:=
 Wq.val (fun w _=>by simp only [execOp,hx,hi,Sem.run_bind,RV ht.h h0 hj,Result.andThen_ok,Sem.run_pure]) q
theorem eG {ps:List (Nat×Operand)} {parts:List (Nat×Value)} {u:Value}
 (hps:ps.map (fun p=>(p.1,ev n F p.2))=parts) (hr:(Instr.build t parts.toArray).run P w=.ok u w) (c:Wl P n ds Q ops rest (upd F d u) w):Wl P n ds Q ops (⟨some d,.build t ps.toArray,ty,pos,aft,none⟩::rest) F w:=by
 refine Wl.val ?_ c;subst hps;simp only [execOp,adM,Sem.run_bind];rw [hr];rfl
end
theorem qU:rF (Wk.one vs) 1:=uI _ fun _=>rfl
theorem w8 {k:Nat} (h:k<256):IntKind.u8.wrap (k:Int)=(k:Int):=D7 rfl (by omega) (by show (k:Int)<2^8;omega)
theorem Chg.toNew {M:Nat->Prop} {w w':World} (c:Chg M w w') (h: ∀k,k<w.heap.size-> ¬M k):New w w':=c.mono fun k hk e=>h k hk e
theorem Chg.tN {M:Nat->Prop} {w w':World} (c:Chg M w w') (h: ∀k,k<w.heap.size->¬M k:=by intro k hk e;omega):New w w':=c.toNew h
abbrev NoB:Nat->Prop:=fun _=>False
end Go.Proofs.YtfbnfhhmiiahnaaGreatDoor.Wk
namespace Go.Proofs.YtfbnfhhmiiahnaaGreatDoor.Wk
open Go Go.RowKit
open Go.Sort (Holds putRow)
theorem UL {α:Type} {enc:α->Value} {T:TypeId} {Pb Pe:Nat->Prop} {w:World} {g cap:Nat} {xs:List α} (h:oP (Wk.one enc) T 1 Pb Pe w (.slice (some ⟨g,0,none⟩) xs.length cap) xs):
 ∃cur,Pb g/\w.heap[g]? =some (.cells cur T (0,0))/\xs.length<=cap/\cap<=maxLen/\cur.size=cap/\ ∀(j:Nat) (hj:j<xs.length),cur[j]? =some (enc xs[j]):=by
 obtain ⟨hcl,h0|⟨g',cap',cur,e1,hPg,hheap,h1,h2,h3,h4⟩⟩:=h.to1
 ·cases h0.1
 cases e1;refine ⟨cur,hPg,hheap,h1,h2,by omega,fun j hj=>?_⟩;have h5:(aqs (xs.length*1) cur.toList)[j]? =(xs.map enc)[j]? :=by rw [h4]
 rw [aav,if_pos (by omega),apF,adK hj] at h5;simpa using h5
theorem LJ {α:Type} [Inhabited α] {enc:α->Value} {T:TypeId} {Pb Pe:Nat->Prop} {w:World} {g cap:Nat} {xs:List α} (h:oP (Wk.one enc) T 1 Pb Pe w (.slice (some ⟨g,0,none⟩) xs.length cap) xs):Holds enc w g 0 xs.toArray:=by
 obtain ⟨cur,_,hheap,_,_,_,hcur⟩:=UL h;intro j hj;have hj':j<xs.length:=by simpa using hj
 refine ⟨?_,?_⟩
 ·simp only [World.cell?,hheap,acL];have:xs.toArray[j]! =xs[j]:=by simp [hj']
  rw [this];simpa using hcur j hj'
 ·simp [World.frozen?,hheap]
theorem UM {α β:Type} [Inhabited β] {enc:α->Value} {O7:β->Value} {T:TypeId} {Pb Pe Pe':Nat->Prop} {w w':World} {g cap:Nat} {xs:List α} {d:List β} (h:oP (Wk.one enc) T 1 Pb Pe w (.slice (some ⟨g,0,none⟩) xs.length cap) xs)
 (hl:d.length=xs.length) (hw: ∀cs,w.heap[g]? =some (.cells cs T (0,0))->w'.heap[g]? =some (.cells (Sort.putCells O7 0 d.toArray cs) T (0,0))):oP (Wk.one O7) T 1 Pb Pe' w' (.slice (some ⟨g,0,none⟩) xs.length cap) d:=by
 obtain ⟨cur,hPg,hheap,h1,h2,h3,hcur⟩:=UL h;refine iL (m:=xs.length) hl.symm ⟨by simp [hl],.inr ⟨g,cap,_,rfl,hPg,hw _ hheap,h1,h2,by simp [Sort.putCells,h3],?_⟩⟩;apply List.ext_getElem?;intro j;rw [aav];by_cases hj:j<xs.length
 ·rw [if_pos (by omega),Array.getElem?_toList,Sort.putCells,Array.getElem?_mapIdx,hcur j hj,adJ,if_pos ⟨aoZ _,by simp;omega⟩];have hjD:j<d.length:=by omega
  rw [apF,adK hjD];simp [hjD]
 ·rw [if_neg (by omega),aoS (by simp;omega)]
theorem Sm {β:Type} [Inhabited β] {O7:β->Value} {w:World} {g n:Nat} {d:Array β}:Chg (fun k=>k=g) w (putRow O7 (Sort.ahead w n) g 0 d):=
 ⟨rfl,rfl,rfl,by simp [putRow,Sort.mapBlock,Sort.ahead],fun j hj hn=>by have: ¬g=j:=fun e=>hn e.symm;simp only [putRow,Sort.mapBlock,Sort.ahead];rw [aqp,if_neg this]⟩
theorem O8 {β:Type} [Inhabited β] {O7:β->Value} {w:World} {g n:Nat} {d:Array β} {cs:Array Value} {T:TypeId} (h:w.heap[g]? =some (.cells cs T (0,0))):
 (putRow O7 (Sort.ahead w n) g 0 d).heap[g]? =some (.cells (Sort.putCells O7 0 d cs) T (0,0)):=by
 simp only [putRow,Sort.mapBlock,Sort.ahead];rw [aqp,if_pos rfl,h];rfl
end Go.Proofs.YtfbnfhhmiiahnaaGreatDoor.Wk
namespace Go.Proofs.YtfbnfhhmiiahnaaGreatDoor
open Go Wk
open Go.RowKit (Below)
attribute [local irreducible] Go.Calls
theorem EZ {sep:List UInt8} {m:Nat}: ∀ {xs:List (List UInt8)},(∀x∈xs,x.length<=m)->(Lib.joinTail sep xs).length<=(m+sep.length)*xs.length
 | [],_=>by simp [Lib.joinTail]
 |x::xs,h=>by
  have e:Lib.joinTail sep (x::xs)=sep++x++Lib.joinTail sep xs:=by simp [Lib.joinTail]
  have h1:=EZ (sep:=sep) (m:=m) (xs:=xs) fun y hy=>h y (by simp [hy]);have h2:=h x (by simp);rw [e,adL,adL,aph,aqG];omega
theorem Yn {sep:List UInt8} {m:Nat} {xs:List (List UInt8)} (h: ∀x∈xs,x.length<=m):(Lib.join xs sep).length<=(m+sep.length)*xs.length:=by
 cases xs with
 |nil=>simp [Lib.join,List.intercalate]
 |cons x r=>rw [Lib.join_cons,adL,aph,aqG];have h1:=EZ (sep:=sep) (m:=m) (xs:=r) fun y hy=>h y (by simp [hy]);have h2:=h x (by simp);omega
theorem Wi {Pb:Nat->Prop} {w:World} {v:Value} {xs:List (List UInt8)} {sep:List UInt8} (h:RdS (Wk.one vs) 1 Pb w v xs) (hn:xs.length<=1000000000) (hl:(Lib.join xs sep).length<=100000000000):
 Calls prog 78 #[v,vs sep] w (Ret fun r w'=>r=vs (Lib.join xs sep)/\New w w'):=by
 have key: ∀a c,xs=[]->Calls prog 78 #[.slice a 0 c,vs sep] w (Ret fun r w'=>r=vs (Lib.join xs sep)/\New w w'):=by intro a c hx;refine (lT a c ⟨sep.toArray⟩ w).mono ?_;rintro e w' ⟨rfl,rfl⟩;subst hx;exact ⟨_,rfl,rfl,aB _ _⟩
 rcases h with ⟨rfl,rfl⟩|⟨a,cap,rfl,rfl,hc⟩|⟨b,off,cap,cur,e,fr,rfl,hb,hh,h1,h2,h3,h4⟩
 ·exact key none 0 rfl
 ·exact key (some a) cap rfl
 ·have em:(xs.map fun x=>(⟨x.toArray⟩:ByteArray)).map (·.data.toList)=xs:=by
   rw [aqa];conv=>rhs;rw [<-List.map_id xs]
   exact List.map_congr_left fun x _=>rfl
  have:=lU b off cap (xs.map fun x=>⟨x.toArray⟩) ⟨sep.toArray⟩ w ?_ (uT hh) (by simp;omega) (by simpa using h1) (by rw [em];show (Lib.join xs sep).length<=_;omega)
  ·rw [em,aqt] at this;refine this.mono ?_;rintro e w' ⟨rfl,hB⟩;exact ⟨_,rfl,rfl,jW hB⟩
  ·intro j x hx;rw [apF] at hx;obtain ⟨y,hy,rfl⟩:=Option.map_eq_some_iff.1 hx;have h5:=h4 j y hy;simp only [one,ao7] at h5;have h6:=congrArg (fun q=>q[0]?) h5;simp only [aav,List.getElem?_drop] at h6;simp only [World.cell?,hh];simpa using h6
theorem Wj {x:Nm} {l:List Nm}:[47]++Lib.join (x::l) [47]=BJ (x::l):=by
 unfold BJ;rw [if_neg (by simp),Lib.join_cons,aqh];have: ∀l:List Nm,Lib.joinTail [47] l=l.flatMap fun n=>47::n:=by
  intro l;induction l with
  |nil=>rfl
  |cons y l ih=>
   have e:Lib.joinTail [47] (y::l)=[47]++y++Lib.joinTail [47] l:=by simp [Lib.joinTail]
   rw [e,ih,aqh];simp
 rw [this];simp
theorem Nk {Pb:Nat->Prop} {w:World} {v:Value} {xs:List Nm} (h:oP (Wk.one vs) 9 1 Pb NoB w v xs) (hl:xs.length<=1000000000):
 Calls prog 77 #[v] w (Ret fun _ w'=>oP (Wk.one vs) 9 1 Pb NoB w' v xs.reverse/\Chg (fun k=>v.ownBlock=some k) w w'):=by
 by_cases h0:xs=[]
 ·subst h0;obtain ⟨a,cap,rfl,_,_⟩:=h.form;refine (ni a cap w).mono ?_;rintro _ w' ⟨rfl,rfl⟩;exact ⟨_,rfl,h,aB _ _⟩
 ·obtain ⟨g,cap,rfl,_,_,_⟩:=h.blk h0;refine (mZ g 0 cap xs w (LJ h) (by omega)).mono ?_;rintro _ w' ⟨rfl,n,rfl⟩;refine ⟨_,rfl,UM h (by simp) fun cs hc=>O8 hc,Sm.mono fun k _ e=>by rw [e];rfl⟩
end Go.Proofs.YtfbnfhhmiiahnaaGreatDoor
namespace Go.Proofs.YtfbnfhhmiiahnaaGreatDoor
open Go Wk
structure Cd where
 name:Nm
 family:Nm
 level:Int
 compat:List Nm
 score:Int
 wJ:Nm
 entry:Int
deriving DecidableEq,Inhabited
def abW (s:Nm):Bool:=decide (s≠ []/\s.length<=63)&& !s.contains 0
def Ec (l:List Nm):Nat->List Nm->Bool
 |_,[]=>true
 |i,s::r=>abW s&&(!(l.take i).contains s&&Ec l (i+1) r)
def Nl (c:Cd):Bool:=
 qK c.name&&(qK c.family&&((decide (c.wJ=[])||qK c.wJ)&&(decide (c.level<=4)&&(decide (-100<=c.score/\c.score<=100)&&(decide (-1<=c.entry/\c.entry<=47)&&(decide (0<c.compat.length/\c.compat.length<=8)&&Ec c.compat 0 c.compat))))))
def Bc:Nat->List Nm->List Cd->Bool
 |_,_,[]=>true
 |i,seen,c::r=>decide (i<64)&&(Nl c&&(!seen.contains c.name&&Bc (i+1) (seen++ [c.name]) r))
def vG (l:List Cd):Bool:=Bc 0 [] l
theorem Jv: ∀(l:List Cd) (i:Nat) (seen:List Nm),Bc i seen l=true->i+l.length<=64+(if l=[] then i else 0)/\(∀c∈l,Nl c=true)/\(l.map Cd.name).Nodup/\ ∀c∈l,c.name∉seen
 | [],i,seen,_=>by simp
 |c::r,i,seen,h=>by
  rw [Bc] at h;simp only [ao0,decide_eq_true_eq,aqu,List.contains_eq_mem,decide_eq_false_iff_not] at h;obtain ⟨h1,h2,h3,h4⟩:=h;obtain ⟨i1,i2,i3,i4⟩:=Jv r (i+1) _ h4;refine ⟨?_,?_,?_,?_⟩
  ·rw [if_neg (by simp)];split at i1
   ·rename_i e;subst e;simp;omega
   ·simp only [aph];omega
  ·intro x hx;rcases List.mem_cons.1 hx with rfl|hx
   ·exact h2
   ·exact i2 x hx
  ·rw [List.map_cons,List.nodup_cons];refine ⟨fun e=>?_,i3⟩;obtain ⟨x,hx,e⟩:=List.mem_map.1 e;exact i4 x hx (by rw [e];simp)
  ·intro x hx;rcases List.mem_cons.1 hx with rfl|hx
   ·exact h3
   ·exact fun e=>i4 x hx (by simp [e])
theorem O9 {l:List Cd} (h:vG l=true):l.length<=64:=by
 have:=(Jv l 0 [] h).1;split at this
 ·rename_i e;subst e;simp
 ·omega
def better (a b:Cd):Bool:=if a.score=b.score then decide (a.name<b.name) else decide (b.score<a.score)
def vZ (cs:List Cd) (s:Nm):Nat->Option Nat->List Cd->Option Nat
 |_,b,[]=>b
 |i,b,c::r=>vZ cs s (i+1) (if c.compat.contains s=true/\(∀j,b=some j->better c (cs.getD j default)=true) then some i else b) r
def UN (cs:List Cd) (s:Nm):Option Nat:=vZ cs s 0 none cs
def Ee (cs:List Cd):Nat->List Nm->Option (Nat×Nat)
 |_,[]=>none
 |k,s::r=>match UN cs s with|some i=>some (i,k)|none=>Ee cs (k+1) r
def yD (cs:List Cd) (texts:List Nm):Option (Nat×Nat):=Ee cs 0 texts
theorem LK {cs:List Cd} {s:Nm}: ∀(l:List Cd) (i:Nat) (b:Option Nat),i+l.length=cs.length->(∀j,b=some j->j<cs.length)-> ∀j,vZ cs s i b l=some j->j<cs.length
 | [],i,b,_,hb,j,h=>hb j h
 |c::r,i,b,hi,hb,j,h=>by
  simp only [aph] at hi;rw [vZ] at h;refine LK r (i+1) _ (by omega) (fun k hk=>?_) j h;split at hk
  ·cases hk;omega
  ·exact hb k hk
theorem Yo {cs:List Cd} {s:Nm} {j:Nat} (h:UN cs s=some j):j<cs.length:=LK cs 0 none (by simp) (by simp) j h
theorem Ph {cs:List Cd} {texts:List Nm} {i k:Nat} (h:yD cs texts=some (i,k)):i<cs.length/\k<texts.length:=by
 have key: ∀(l:List Nm) (m:Nat),Ee cs m l=some (i,k)->i<cs.length/\k<m+l.length:=by
  intro l;induction l with
  |nil=>intro m h;cases h
  |cons s r ih=>
   intro m h;rw [Ee] at h;cases hb:UN cs s with
   |some j=>rw [hb] at h;cases h;exact ⟨Yo hb,by simp⟩
   |none=>rw [hb] at h;have:=ih (m+1) h;simp only [aph];omega
 have:=key texts 0 h
 rwa [acL] at this
end Go.Proofs.YtfbnfhhmiiahnaaGreatDoor
namespace Go.Proofs.YtfbnfhhmiiahnaaGreatDoor
open Go Wk
open Go.RowKit (Below)
attribute [local irreducible] Go.Calls
def number (l:List UInt8):Nat:=l.foldl (fun n c=>n*256+c.toNat) 0
theorem Pj (l:List UInt8) (c:UInt8):number (l++ [c])=number l*256+c.toNat:=by simp [number]
theorem Ic {l:List UInt8} {k:Nat} {c:UInt8} (h:l[k]? =some c):number (l.take (k+1))=number (l.take k)*256+c.toNat:=by
 rw [aql,h];exact Pj _ _
theorem Pq (l:List UInt8): ∀n:Nat,l.foldl (fun n c=>n*256+c.toNat) n=n*256^l.length+number l:=by
 induction l with
 |nil=>intro n;simp [number]
 |cons c l ih=>
  intro n;have e1:number (c::l)=(0*256+c.toNat)*256^l.length+number l:=by show aqE _ (0*256+c.toNat) l=_;exact ih _
  rw [aqk,ih,e1,aph,apw,acL,aqH,aaJ,Nat.mul_assoc,Nat.mul_comm 256];omega
theorem Pv (c:UInt8) (l:List UInt8):number (c::l)=c.toNat*256^l.length+number l:=by
 have:=Pq l (0*256+c.toNat);simpa [number] using this
theorem zX (l:List UInt8):number l<256^l.length:=by
 induction l with
 |nil=>simp [number]
 |cons c l ih=>rw [Pv,aph,aqH];have h1:(c.toNat+1)*256^l.length<=256*256^l.length:=Nat.mul_le_mul_right _ (by have:=c.toNat_lt;omega);rw [aaJ] at h1;omega
theorem Jw (k m:Nat) (h:k<=m):256^k<=256^m:=Nat.pow_le_pow_right (by omega) h
theorem acD (l:List UInt8) {k:Nat} (h:k<l.length): ∃x,l[k]? =some x:=⟨l[k],adK h⟩
theorem Wp {l:List UInt8} {w:World} (hl:l.length=4):Calls prog 135 #[.agg (l.map by8).toArray] w (Ret fun r w'=>r=.int .u32 (number l)/\New w w'):=by
 refine oI (n:=18) func135 rfl rfl rfl ?_;refine qq0 ?_;refine Wl.box rfl fun w1 h1 n1 s1=>?_;have h1':Bk w1 w.heap.size 266 (l.map by8):=h1;refine qq1 ?_;refine bD h1' (by simpa using hl) rfl ?_;refine qq6 ?_;refine aC (σ:=Nat) (fun k=>[(3,.int .u32 (number (l.take k))),(6,.agg (l.map by8).toArray),(7,vi k)]) (fun k w'=>k<=4/\w1=w') (fun k=>4-k) 0 ⟨by simp [number];rfl,rfl,rfl,trivial⟩ ⟨aoZ _,rfl⟩ ?_;rintro k G _ ⟨hk,rfl⟩;simp only [ql];(repeat' (first|refine qq2 ?_|refine aa2 (fun _=>?_) (fun _=>?_)))
 ·obtain ⟨c,hc⟩:=acD l (k:=k) (by omega);have hn:=zX (l.take k);have hp:=Jw (l.take k).length 3 (by simp;omega);have hcl:=c.toNat_lt;have h3:(256:Nat)^3=16777216:=by decide
  refine kz (cs:=l.map by8) (u:=by8 c) rfl rfl (by omega) (by omega) (by simp [hc]) ?_;refine qq2 ?_;refine jV rfl rfl (by omega) ?_;refine qq8 ?_;have e1:IntKind.u32.wrap ((number (l.take k):Int)*2^(min (8:Int).toNat IntKind.u32.bits))=((number (l.take k)*2^8:Nat):Int):=by rw [show (2:Int)^(min (8:Int).toNat IntKind.u32.bits)=256 from by decide,show (2:Nat)^8=256 from by decide,D7 rfl (by omega) (by simp only [IntKind.bits];omega)];omega
  have e2:IntKind.u32.wrap (c.toNat:Int)=(c.toNat:Int):=D7 rfl (by omega) (by simp only [IntKind.bits];omega);refine Wl.orU (number (l.take k)) c.toNat 8 rfl e1 e2 (by omega) (by simp only [IntKind.bits];omega) rfl rfl ?_;refine qq4 ?_;refine aA (k+1) ⟨?_,rfl,rfl,trivial⟩ ⟨by omega,rfl⟩ (by omega);show Value.int _ _=Value.int _ _;rw [Ic hc]
 ·have:k=l.length:=by omega
  refine ay rfl rfl ⟨_,rfl,?_,n1⟩;rw [this,apZ];rfl
abbrev Be:Int->Value:=fun x=>.int .u32 x
theorem Gj:rF (Wk.one Be) 1:=uI _ fun _=>rfl
theorem I7 {x:Int} {n:Nat} (h:x=(n:Int)) (hn:n<9223372036854775808):IntKind.i64.wrap x=(n:Int):=by
 subst h;simp [IntKind.wrap,IntKind.bits,IntKind.signed];omega
def pieces (k:Nat) (l:List UInt8):List Int:=(abS (l.length / k)).map fun i=>((number ((l.drop (k*i)).take k):Nat):Int)
theorem zK (k:Nat) (l:List UInt8):(pieces k l).length=l.length / k:=by simp [pieces]
theorem Sr {k:Nat} {l:List UInt8} {i:Nat} (h:i<l.length / k):(pieces k l)[i]? =some ((number ((l.drop (k*i)).take k):Nat):Int):=by
 simp [pieces,h]
theorem Px {k:Nat} {l:List UInt8} {i:Nat} (h:i<l.length / k):(pieces k l).take (i+1)=(pieces k l).take i++ [((number ((l.drop (k*i)).take k):Nat):Int)]:=by
 rw [aql,Sr h];rfl
theorem Sv {k:Nat} {l:List UInt8} {i:Nat} (h:i=l.length / k):(pieces k l).take i=pieces k l:=by
 rw [h, <-zK,apZ]
def form (k:Nat) (l:List UInt8):Int:=if l.length % k=0 then 0 else 4
def nums (k:Nat) (l:List UInt8):List Int:=if l.length % k=0 then pieces k l else []
theorem Yp {k:Nat} {l:List UInt8} (h: ¬l.length % k=0):form k l=4/\nums k l=[]:=⟨if_neg h,if_neg h⟩
theorem aaA {k:Nat} {l:List UInt8} (h:l.length % k=0):form k l=0/\nums k l=pieces k l:=⟨if_pos h,if_pos h⟩
theorem aaB {α:Type} {f:α->Value} {Pb:Nat->Prop} {w:World} {v:Value} {xs:List α} (h:RdS (Wk.one f) 1 Pb w v xs) (h0:0<xs.length):
 ∃b o cap,v=.slice (some ⟨b,o,none⟩) xs.length cap/\ ∀(j:Nat) y,xs[j]? =some y->w.cell? ⟨b,o+j,none⟩=some (f y):=by
 obtain ⟨b,o,cap,rfl,_⟩:=h.cells (i:=0) (adK h0);refine ⟨b,o,cap,rfl,fun j y hy=>?_⟩;obtain ⟨b2,o2,cap2,e,_,cs,_,hR,hc⟩:=h.cells hy;cases e;have:=hc 0 (f y) (by rw [hR];rfl);simpa using this
theorem aex {P:Program} {n:Nat} {ds:List Deferred} {Q:Po} {F:Fr} {w:World} {ops rest:List Oper} {d:Nat} {ty:TypeId} {pos:String} {aft:Array Edge}
 {x:Operand} {e sz bytes:Nat} {z:Value} {b o:Nat} {cs:List Value} [he:ElT P e sz bytes true z] (hl:cs.length=sz) (hc: ∀j u,cs[j]? =some u->w.cell? ⟨b,o+j,none⟩=some u) (hx:ev n F x=.pointer (some ⟨b,o,none⟩))
 (c:Wl P n ds Q ops rest (upd F d (.agg cs.toArray)) w):Wl P n ds Q ops (⟨some d,.load e x,ty,pos,aft,none⟩::rest) F w:=
 Wl.val (by simp only [execOp,hx,Sem.run_bind,Dh he hl hc,Result.andThen_ok,Sem.run_pure]) c
theorem Ef {w:World} {l:List UInt8} (hl:l.length<=20000000):
 Calls prog 107 #[vs l] w (Ret fun r w'=> ∃v,r=.tuple #[v,vi (form 4 l)]/\oP (Wk.one Be) 181 1 (fun b=>w.heap.size<=b) (fun _=>False) w' v (nums 4 l)/\New w w'):=by
 refine oI (n:=29) func107 rfl rfl rfl ?_;have e4:(l.length:Int).tmod 4=((l.length % 4:Nat):Int):=rfl;have e5:IntKind.i64.wrap ((l.length:Int).tdiv 4)=((l.length / 4:Nat):Int):=I7 (show (l.length:Int).tdiv 4=((l.length / 4:Nat):Int) from rfl) (by omega);refine qq2 ?_;refine jU rfl rfl (by omega) ?_;rw [e4];(repeat' (first|refine qq2 ?_|refine aa4 (fun _=>?_) (fun _=>?_)))
 ·obtain ⟨f1,f2⟩:=Yp (k:=4) (l:=l) (by omega);rw [f1,f2];exact aG rfl rfl rfl ⟨_,rfl,_,rfl,aN,aB _ _⟩
 ·obtain ⟨f1,f2⟩:=aaA (k:=4) (l:=l) (by omega);rw [f1,f2];refine Wl.ahd rfl rfl (by omega) ?_;rw [e5];refine jC (R:=Wk.one Be) (Pe:=fun _=>False) rfl rfl (by omega) (by omega) (by omega) fun v0 w0 ho0 n0=>?_;refine qq2 ?_;refine jF (l:=l) rfl (by simp only [maxLen];omega) fun w1 cap C fr hC htk hCs n1 s1 hr1=>?_;refine qq8 ?_;refine aC (σ:=Nat×Value×Value) (fun s=>[(4,s.2.1),(5,s.2.2)]) (fun s w'=>4*s.1<=l.length/\oP (Wk.one Be) 181 1 (fun b=>w.heap.size<=b/\b≠w0.heap.size) (fun _=>False) w' s.2.1 ((pieces 4 l).take s.1)/\RdS (Wk.one by8) 1 (fun b=>b=w0.heap.size) w' s.2.2 (l.drop (4*s.1))/\w0.heap.size<w'.heap.size/\New w w') (fun s=>l.length-s.1) (0,v0,_) (sl rfl) ⟨aoZ _,(ho0.mono Gj.mo (fun b hb h=>⟨h,by omega⟩) (fun _ _ h=>h)).abR n1.keep,RdS.mono (pq _) (fun b hb h=>by omega) hr1,by omega,New.trans n0 n1⟩ ?_;rintro ⟨i,v,bv⟩ G w2 ⟨hi,ho,hb,hsz,hn⟩;simp only at hi ho hb;obtain ⟨ba,bc,rfl,_,_⟩:=hb.form;have hdl:(l.drop (4*i)).length=l.length-4*i:=List.length_drop;simp only [ql];(repeat' (first|refine qq2 ?_|refine aW rfl rfl (fun _=>?_) (fun _=>?_)))
  ·have hd:4<=(l.drop (4*i)).length:=by omega
   have hlt:((l.drop (4*i)).take 4).length=4:=by simp only [apb];omega
   have hpl:((pieces 4 l).take i).length<=20000000:=by simp only [apb,zK];omega
   obtain ⟨g,o,c2,e,hc⟩:=aaB hb (by omega);cases e;refine lJ rfl (by omega) ?_;refine aex (cs:=((l.drop (4*i)).take 4).map by8) (by simpa using hlt) (fun j u hu=>?_) rfl ?_
   ·rw [apF,aav] at hu;obtain ⟨y,hy,rfl⟩:=Option.map_eq_some_iff.1 hu;split at hy
    ·exact hc j y hy
    ·cases hy
   refine au (Wp hlt) rfl ?_;rintro _ w3 ⟨rfl,n3⟩;have ho3:=ho.abR n3.keep;refine bZ (y:=((number ((l.drop (4*i)).take 4):Nat):Int)) Gj ho3 rfl rfl rfl rfl rfl (by omega) (by omega) (by simp only [maxLen];omega) (by omega) rfl rfl fun v4 w4 p ho4 hc4 _=>?_;have hb4:=(hb.keep (pF _) n3.keep).keep (pF _) (hc4.keep fun k _ hk e=>(ho3.lt e).1.2 hk);refine qq0 ?_;refine jY hb4 rfl rfl (by omega) (by omega) fun v5 hr5=>?_;refine qq0 ?_;have s3:=n3.size;have s4:=hc4.size;refine aA (i+1,v4,v5) (sl rfl) ⟨by simp only;omega,?_,?_,by omega,Chg.trans (New.trans hn n3) hc4 fun b hb e=>by have:=(ho3.lt e).1;omega⟩ (by simp only;omega)
   ·simp only;rw [Px (by omega)];exact ho4.mono Gj.mo (fun b _ hb=>by have:=hn.size;rcases hb with hb|hb<;>omega) (fun _ _ h=>h)
   ·simp only;have:l.drop (4*(i+1))=(l.drop (4*i)).drop 4:=by rw [List.drop_drop];congr 1
    rw [this];exact hr5
  ·rw [Sv (by omega)] at ho;exact aG rfl rfl rfl ⟨_,rfl,_,rfl,ho.mono Gj.mo (fun _ _ h=>h.1) (fun _ _ h=>h),hn⟩
theorem aaC:rF (Wk.one vs) 1:=uI _ fun _=>rfl
def stp (s:List (List UInt8)×List UInt8) (c:UInt8):List (List UInt8)×List UInt8:=if c=0 then (s.1++ [s.2],[]) else (s.1,s.2++ [c])
def xq (l:List UInt8):List (List UInt8)×List UInt8:=l.foldl stp ([],[])
theorem Ws (l:List UInt8) (c:UInt8):xq (l++ [c])=stp (xq l) c:=by simp [xq]
theorem aey (l:List UInt8): ∀(xs:List (List UInt8)) (q:List UInt8),l.foldl stp (xs,q)=(xs++(l.foldl stp ([],q)).1,(l.foldl stp ([],q)).2):=by
 induction l with
 |nil=>intro xs q;simp
 |cons c l ih=>
  intro xs q;by_cases e:c=0
  ·simp only [aqk,stp,if_pos e];rw [ih (xs++ [q]) [],ih ([]++ [q]) []];simp
  ·simp only [aqk,stp,if_neg e];exact ih xs (q++ [c])
theorem LM (l:List UInt8): ∀(q:List UInt8),(∀c∈l,c≠0)->l.foldl stp ([],q)=([],q++l):=by
 induction l with
 |nil=>intro q _;simp
 |cons c l ih=>intro q h;simp only [aqk,stp,if_neg (h c (by simp))];rw [ih _ fun d hd=>h d (by simp [hd])];simp
theorem Wv {l:List UInt8} (h: ∀c∈l,c≠0):xq l=([],l):=by
 unfold xq;rw [LM l [] h];simp
theorem Wx {p:List UInt8} (h: ∀c∈p,c≠0) (r:List UInt8):xq (p++0::r)=(p::(xq r).1,(xq r).2):=by
 unfold xq;rw [List.foldl_append,LM p [] h,aqk];simp only [stp,if_pos,aoQ];rw [aey r [p] []];simp
def DR (l:List UInt8):Int:=if l=[]∨l.getLast?=some 0 then 0 else 4
def Eg (l:List UInt8):List (List UInt8):=if l=[]∨l.getLast?=some 0 then (xq l).1 else []
theorem Yq {l:List UInt8} (h: ¬(l=[]∨l.getLast?=some 0)):DR l=4/\Eg l=[]:=⟨if_neg h,if_neg h⟩
theorem acE {l:List UInt8} (h:l=[]∨l.getLast?=some 0):DR l=0/\Eg l=(xq l).1:=⟨if_pos h,if_pos h⟩
theorem LP {l:List UInt8} {c:UInt8} (h:l[l.length-1]? =some c):l.drop (l.length-1)=[c]:=by
 obtain ⟨hlt,rfl⟩:=List.getElem?_eq_some_iff.1 h;rw [apd hlt,aqo (by omega)]
theorem Wy {l:List UInt8} (h:l.getLast?=some 0):l=l.take (l.length-1)++ [0]:=by
 rw [aqI] at h;rw [<-LP h,apN]
theorem Ie: ∀(k:Nat) (l:List UInt8),l.count 0=k->Lib.splitK [0] 0 k l=(xq l).1++ [(xq l).2]
 |0,l,h=>by rw [Wv fun c hc e=>by subst e;exact absurd (List.count_pos_iff.2 hc) (by omega)];rfl
 |k+1,l,h=>by
  have hge:=Lib.indexByte_ge l 0;have hne:Lib.indexByte l 0≠ -1:=fun e=>by obtain ⟨j,hj⟩:=List.mem_iff_getElem?.1 (List.count_pos_iff.1 (show 0<l.count 0 by omega));exact Lib.indexByte_none e j hj
  obtain ⟨o,ho⟩:=aoR (show 0<=Lib.indexByte l 0 by omega);obtain ⟨h1,h2⟩:=Lib.indexByte_some ho;obtain ⟨hlt,he⟩:=List.getElem?_eq_some_iff.1 h1;have hl:l=l.take o++0::l.drop (o+1):=by conv=>lhs;rw [<-apN o l,apd hlt,he]
  have hfree: ∀c∈l.take o,c≠0:=fun c hc e=>by
   subst e;obtain ⟨j,hj⟩:=List.mem_iff_getElem?.1 hc;rw [aav] at hj;split at hj
   ·exact h2 j ‹_› hj
   ·cases hj
  have hc0:(l.take o).count 0=0:=List.count_eq_zero.2 fun hm=>hfree 0 hm rfl;have hcd:(l.drop (o+1)).count 0=k:=by rw [hl,List.count_append,hc0,List.count_cons_self] at h;omega
  have hi:(Lib.index l [0] == -1)=false:=by rw [Lib.index_one,ho];simp
  unfold Lib.splitK;rw [hi,Lib.index_one,ho];simp only [Bool.false_eq_true,if_false,ao3,Nat.add_zero,apm];rw [Ie k _ hcd];conv=>rhs;rw [hl]
  rw [Wx hfree];rfl
theorem Py {l:List UInt8} {w:World} (hl:l.length<=2000000):
 Calls prog 141 #[vs l,vs [0]] w (Ret fun r w'=>oP (Wk.one vs) 9 1 (fun b=>w.heap.size<=b) (fun _=>False) w' r ((xq l).1++ [(xq l).2])/\New w w'):=by
 refine oI (n:=8) func141 rfl rfl rfl ?_;refine qq2 ?_;have hsz:(⟨l.toArray⟩:ByteArray).size=l.length:=by simp [ByteArray.size]
 have hcnt:Lib.countB ⟨l.toArray⟩ ⟨#[0]⟩=l.count 0:=Lib.count_one 0 l;have hle:l.count 0<=l.length:=List.count_le_length;have hC:Calls prog 176 #[.string ⟨l.toArray⟩,.string ⟨#[0]⟩] w fun e w'=>e=.returned (.int .i64 (Lib.countB ⟨l.toArray⟩ ⟨#[0]⟩))/\w'=w:=by refine (mJ ⟨l.toArray⟩ 0 w).mono fun e w' h=>⟨?_,h.2⟩;rw [h.1,hcnt];rfl
 have hI: ∀(x:ByteArray) (c:Array Value),x.size<=(⟨l.toArray⟩:ByteArray).size->Calls prog 177 #[.string x,.string ⟨#[0]⟩] (w.alloc (.cells c 9)) fun e w'=>e=.returned (.int .i64 (Lib.indexB x ⟨#[0]⟩))/\w'=w.alloc (.cells c 9):=by intro x c _;refine (mD x 0 _).mono fun e w' h=>⟨?_,h.2⟩;rw [h.1];show _=Ending.returned (Value.int .i64 (Lib.index x.data.toList [0]));rw [Lib.index_one]
 have core:=Any.strings_genSplit_core mQ (by kernel_rfl) ⟨l.toArray⟩ ⟨#[0]⟩ 0 (-1) (l.count 0+1) w (by rw [hsz];omega) (aat 1) (aoZ _) hI hC (by decide) (by decide) (by rw [if_pos (by decide),hcnt,hsz];omega);have hdata:(Lib.splitB ⟨#[0]⟩ 0 (l.count 0) ⟨l.toArray⟩).map (·.data.toList)=(xq l).1++ [(xq l).2]:=by rw [Lib.splitB_data];exact Ie _ l rfl
 have hlen:=congrArg List.length hdata;simp only [aqt] at hlen;have hln:(Lib.splitB ⟨#[0]⟩ 0 (l.count 0) ⟨l.toArray⟩).length=l.count 0+1:=Lib.splitB_all ⟨#[0]⟩ (aat 1) 0 _ _ hcnt;have hcells:(Lib.cellsOf (Lib.splitB ⟨#[0]⟩ 0 (l.count 0) ⟨l.toArray⟩) (l.count 0+1))=(((xq l).1++ [(xq l).2]).map vs).toArray:=by unfold Lib.cellsOf;rw [hln,Nat.sub_self,List.replicate_zero,aqJ, <-hdata,aqa];rfl
 refine au (φ:=fun r w'=>oP (Wk.one vs) 9 1 (fun b=>w.heap.size<=b) (fun _=>False) w' r ((xq l).1++ [(xq l).2])/\New w w') (core.mono fun e w' h=>⟨_,h.1,?_,?_⟩) rfl ?_
 ·rw [h.2,aqF,hcells,hlen];refine ⟨((xq l).1++ [(xq l).2]).map vs,⟨by simp,.inr ⟨_,_,_,rfl,aat _,heap_alloc_new w _,?_,by simp only [maxLen];omega,?_,?_⟩⟩,fun i x hx=>?_⟩
  ·omega
  ·simp only [ao4,aqt];omega
  ·rw [ao7,apl (by simp)]
  ·rw [ao7];show aqs 1 (List.drop i (List.map vs _))=[vs x];obtain ⟨h1,h2⟩:=List.getElem?_eq_some_iff.1 hx;rw [apd (by simpa using h1),List.getElem_map,h2];rfl
 ·rw [h.2];exact Chg.alloc _ _ _
 ·rintro v w1 ⟨h1,n1⟩;refine qq6 ?_;exact ay rfl rfl ⟨_,rfl,h1,n1⟩
theorem IG {l:List UInt8} {w:World} (hl:l.length<=2000000):
 Calls prog 174 #[vs l,vs [0]] w (Ret fun r w'=>r=.bool (decide (l.getLast?=some 0))/\w=w'):=by
 have h1:(([0]:List UInt8).length:Int)=1:=rfl;refine oI (n:=21) func174 rfl rfl rfl ?_;(repeat' (first|refine qq6 ?_|refine aV rfl rfl (fun _=>?_) (fun _=>?_)))
 ·obtain ⟨c,hc⟩:=acD l (k:=l.length-1) (by omega);have hlast:l.getLast?=some c:=by rw [aqI];exact hc
  refine ku rfl rfl (by omega) (by omega) ?_;have e:l.drop ((l.length:Int)-(([0]:List UInt8).length:Int)).toNat=[c]:=by
   have:((l.length:Int)-(([0]:List UInt8).length:Int)).toNat=l.length-1:=by omega
   rw [this];exact LP hc
  rw [e];(repeat' (first|refine qq6 ?_|refine fD rfl rfl (fun _=>?_) (fun _=>?_)))
  ·have e2:c=0:=by have:[c]=[(0:UInt8)]:=by assumption
                   simpa using this
   subst e2;refine ay rfl rfl ⟨_,rfl,?_,rfl⟩;rw [decide_eq_true hlast];rfl
  ·have e2:c≠0:=fun e3=>by subst e3;contradiction
   refine ay rfl rfl ⟨_,rfl,?_,rfl⟩;rw [decide_eq_false (fun h=>e2 (Option.some.inj (hlast.symm.trans h)))];rfl
 ·have:l=[]:=aoP (by omega);subst this;exact ay rfl rfl ⟨_,rfl,rfl,rfl⟩
def Jy (l:List UInt8):Value:=if l.getLast?=some 0 then .tuple #[vs (l.take (l.length-1)),.bool true] else .tuple #[vs l,.bool false]
theorem Gl {l:List UInt8} {w:World} (hl:l.length<=2000000):
 Calls prog 161 #[vs l,vs [0]] w (Ret fun r w'=>r=Jy l/\w=w'):=by
 have h1:(([0]:List UInt8).length:Int)=1:=rfl;refine oI (n:=18) func161 rfl rfl rfl ?_;refine qq2 ?_;refine au (IG hl) rfl ?_;rintro r _ ⟨hr,rfl⟩;unfold Jy;by_cases h:l.getLast?=some 0
 ·rw [decide_eq_true h] at hr;subst hr;have hpos:0<l.length:=by cases l with|nil=>cases h|cons c l=>simp
  rw [if_pos h];refine qq2 ?_;refine jZ rfl rfl (by omega) (by omega) ?_;have e:l.take ((l.length:Int)-(([0]:List UInt8).length:Int)).toNat=l.take (l.length-1):=by congr 1;omega
  rw [e];refine qq6 ?_;exact aG rfl rfl rfl ⟨_,rfl,rfl,rfl⟩
 ·rw [decide_eq_false h] at hr;subst hr;rw [if_neg h];refine qq5 ?_;exact aG rfl rfl rfl ⟨_,rfl,rfl,rfl⟩
theorem II {l:List UInt8} {w:World} (hl:l.length<=2000000):
 Calls prog 140 #[vs l,vs [0]] w (Ret fun r w'=>r=Jy l/\w=w'):=by
 refine oI (n:=11) func140 rfl rfl rfl ?_;refine qq2 ?_;refine au (Gl hl) rfl ?_;rintro _ _ ⟨rfl,rfl⟩;unfold Jy;split
 ·refine qq6 ?_;exact aG rfl rfl rfl ⟨_,rfl,rfl,rfl⟩
 ·refine qq6 ?_;exact aG rfl rfl rfl ⟨_,rfl,rfl,rfl⟩
theorem Ig {w:World} {l:List UInt8} (hl:l.length<=2000000):
 Calls prog 113 #[vs l] w (Ret fun r w'=> ∃v,r=.tuple #[v,vi (DR l)]/\oP (Wk.one vs) 9 1 (fun b=>w.heap.size<=b) (fun _=>False) w' v (Eg l)/\New w w'):=by
 refine oI (n:=17) func113 rfl rfl rfl ?_;(repeat' (first|refine qq2 ?_|refine fD rfl rfl (fun _=>?_) (fun _=>?_)))
 ·have e:l=[]:=by assumption
  subst e;obtain ⟨f1,f2⟩:=acE (l:=[]) (.inl rfl);rw [f1,f2];exact aG rfl rfl rfl ⟨_,rfl,_,rfl,aN,aB _ _⟩
 ·have hne:l≠ []:=by assumption
  refine au (II hl) rfl ?_;rintro _ _ ⟨rfl,rfl⟩;unfold Jy;by_cases h:l.getLast?=some 0
  ·obtain ⟨f1,f2⟩:=acE (l:=l) (.inr h);rw [if_pos h,f1,f2];refine qq4 ?_;refine au (Py (l:=l.take (l.length-1)) (by simp only [apb];omega)) rfl ?_;rintro v w1 ⟨ho,hn⟩;refine qq6 ?_;refine aG rfl rfl rfl ⟨_,rfl,_,rfl,?_,hn⟩;have e:xq l=((xq (l.take (l.length-1))).1++ [(xq (l.take (l.length-1))).2],[]):=by
    conv=>lhs;rw [Wy h]
    rw [Ws];rfl
   rw [e];exact ho
  ·obtain ⟨f1,f2⟩:=Yq (l:=l) (fun h2=>h2.elim hne h);rw [if_neg h,f1,f2];refine qq5 ?_;exact aG rfl rfl rfl ⟨_,rfl,_,rfl,aN,aB _ _⟩
def only {α:Type} (z:α) (e:Int) (xs:List α):α×Int:=if e=0/\xs.length=1 then (xs.headD z,0) else (z,4)
theorem Gm {w:World} {l:List UInt8} (hl:l.length<=2000000):
 Calls prog 80 #[vs l] w (Ret fun r w'=>r=.tuple #[Be (only 0 (form 4 l) (nums 4 l)).1,vi (only 0 (form 4 l) (nums 4 l)).2]/\New w w'):=by
 refine oI (n:=21) func80 rfl rfl rfl ?_;refine qq2 ?_;refine au (Ef (Nat.le_trans hl (by decide))) rfl ?_;rintro _ w1 ⟨v,rfl,ho,hn⟩;obtain ⟨a,cap,rfl,_,_⟩:=ho.form;unfold only;(repeat' (first|refine qq6 ?_|refine aa4 (fun _=>?_) (fun _=>?_)))
 ·rw [if_neg (by omega)];exact aG rfl rfl rfl ⟨_,rfl,rfl,hn⟩
 ·rw [if_neg (by omega)];exact aG rfl rfl rfl ⟨_,rfl,rfl,hn⟩
 ·rw [if_pos (by omega)];obtain ⟨y,hy⟩: ∃y,(nums 4 l)[(0:Int).toNat]? =some y:=⟨(nums 4 l)[0]'(by omega),by simp⟩;refine bC (ho.rd Gj.mo) rfl rfl (by omega) hy fun b o hc=>?_;refine ah rfl hc ?_;refine qq6 ?_;refine aG rfl rfl rfl ⟨_,rfl,?_,hn⟩;have e2:(nums 4 l)[0]? =some y:=hy;rw [aqK,aqL,e2];rfl
theorem Sz {w:World} {l:List UInt8} (hl:l.length<=2000000):
 Calls prog 116 #[vs l] w (Ret fun r w'=>r=.tuple #[vs (only [] (DR l) (Eg l)).1,vi (only [] (DR l) (Eg l)).2]/\New w w'):=by
 refine oI (n:=21) func116 rfl rfl rfl ?_;refine qq2 ?_;refine au (Ig hl) rfl ?_;rintro _ w1 ⟨v,rfl,ho,hn⟩;obtain ⟨a,cap,rfl,_,_⟩:=ho.form;unfold only;(repeat' (first|refine qq6 ?_|refine aa4 (fun _=>?_) (fun _=>?_)))
 ·rw [if_neg (by omega)];exact aG rfl rfl rfl ⟨_,rfl,rfl,hn⟩
 ·rw [if_neg (by omega)];exact aG rfl rfl rfl ⟨_,rfl,rfl,hn⟩
 ·rw [if_pos (by omega)];obtain ⟨y,hy⟩: ∃y,(Eg l)[(0:Int).toNat]? =some y:=⟨(Eg l)[0]'(by omega),by simp⟩;refine bC (ho.rd aaC.mo) rfl rfl (by omega) hy fun b o hc=>?_;refine ah rfl hc ?_;refine qq6 ?_;refine aG rfl rfl rfl ⟨_,rfl,?_,hn⟩;have e2:(Eg l)[0]? =some y:=hy;rw [aqK,aqL,e2];rfl
end Go.Proofs.YtfbnfhhmiiahnaaGreatDoor
namespace Go.Proofs.YtfbnfhhmiiahnaaGreatDoor
open Go Wk
abbrev ndA (t:List Nd) (i:Nat):Nd:=t.getD i default
def par (t:List Nd) (i:Nat):Nat:=(ndA t i).parent.toNat
def uO (t:List Nd) (i:Nat) (nm:Nm):Option (List UInt8):=val (ndA t i).qj nm
def Np (t:List Nd):Nat->Nat->List Nat
 |0,_=>[]
 |f+1,i=>if i=0 then [] else i::Np t f (par t i)
def E8 (t:List Nd) (i:Nat):List Nat:=Np t i i
theorem vM {t:List Nd} (ht:pM t=true) {i:Nat} (h0:i≠0) (hi:i<t.length):par t i<i/\(ndA t i).parent=(par t i:Nat):=by
 obtain ⟨x,hx⟩:=pz t hi;have:=(rQ ht hx).kid h0;have e:ndA t i=x:=by unfold ndA;rw [apJ,hx];rfl
 unfold par;rw [e];omega
theorem aaD {t:List Nd} (ht:pM t=true): ∀(i:Nat),i<t.length-> ∀(f g:Nat),i<=f->i<=g->Np t f i=Np t g i:=by
 intro i;induction i using aqj with
 |ind i ih=>
  intro hi f g hf hg;by_cases h0:i=0
  ·subst h0;cases f<;>cases g<;>simp [Np]
  ·obtain ⟨f,rfl⟩: ∃m,f=m+1:=⟨f-1,by omega⟩;obtain ⟨g,rfl⟩: ∃m,g=m+1:=⟨g-1,by omega⟩;have hp:=(vM ht h0 hi).1;rw [Np,Np,if_neg h0,if_neg h0,ih _ hp (by omega) f g (by omega) (by omega)]
theorem Dl (t:List Nd):E8 t 0=[]:=rfl
theorem Dn {t:List Nd} (ht:pM t=true) {i:Nat} (h0:i≠0) (hi:i<t.length):E8 t i=i::E8 t (par t i):=by
 obtain ⟨m,rfl⟩: ∃m,i=m+1:=⟨i-1,by omega⟩;have hp:=(vM ht h0 hi).1;show Np t (m+1) (m+1)=_;rw [Np,if_neg h0,aaD ht _ (by omega) m (par t (m+1)) (by omega) (aat _)];rfl
theorem aaE {t:List Nd} (ht:pM t=true): ∀(i:Nat),i<t.length-> ∀k∈E8 t i,k≠0/\k<=i:=by
 intro i;induction i using aqj with
 |ind i ih=>
  intro hi k hk;by_cases h0:i=0
  ·subst h0;simp [Dl] at hk
  ·have hp:=(vM ht h0 hi).1;rw [Dn ht h0 hi] at hk;rcases List.mem_cons.1 hk with rfl|hk
   ·exact ⟨h0,aat _⟩
   ·have:=ih _ hp (by omega) k hk;omega
def okay (t:List Nd) (i:Nat):Bool:=match uO t i [115,116,97,116,117,115] with
 |none=>true
 |some v=>decide ((only [] (DR v) (Eg v)).2=0/\(only [] (DR v) (Eg v)).1=[111,107,97,121])
def onM (t:List Nd) (i:Nat):Bool:=(E8 t i).all (okay t)&&okay t 0
def qV:Nm:=[99,111,109,112,97,116,105,98,108,101]
def uj (t:List Nd) (i:Nat):List Nm:=Eg ((uO t i qV).getD [])
def Eh (t:List Nd) (i:Nat):Bool:=(uO t i qV).isNone&&onM t i
def pX (t:List Nd) (i:Nat):Nm:=BJ (zV t i)
def Jz (v:List UInt8):Option Nat:=if (only 0 (form 4 v) (nums 4 v)).2=0 then some (only 0 (form 4 v) (nums 4 v)).1.toNat else none
def Nq (ps:List Pr) (nm:Nm) (least dflt:Nat):Option Nat:=match val ps nm with
 |none=>some dflt
 |some s=>match Jz s with
  |some n=>if least<=n/\n<=2 then some n else none
  |none=>none
def Yr:Nm:=[35,97,100,100,114,101,115,115,45,99,101,108,108,115]
def UO:Nm:=[35,115,105,122,101,45,99,101,108,108,115]
def xK (ps:List Pr):Option (Nat×Nat):=match Nq ps Yr 1 2,Nq ps UO 0 1 with
 |some a,some s=>some (a,s)
 |_,_=>none
def DI:List Nat->List UInt8->Option (List Nat×List UInt8)
 | [],s=>some ([],s)
 |w::ws,s=>if s.length<4*w then none else (DI ws (s.drop (4*w))).map fun r=>(number (s.take (4*w))::r.1,r.2)
def zY (ws:List Nat):Nat->List UInt8->Option (List (List Nat))
 |0,s=>if s=[] then some [] else none
 |f+1,s=>if s=[] then some [] else match DI ws s with
  |none=>none
  |some (r,s')=>(zY ws f s').map (r:: ·)
def zZ (ws:List Nat) (s:List UInt8):Option (List (List Nat)):=zY ws s.length s
def fitsW (a size:Nat):Bool:=decide (size=0∨a+(size-1)<2^64)
abbrev Win:=Nat×Nat
def WA (t:List Nd) (i:Nat):Option (List Win):=match xK (ndA t (par t i)).qj with
 |none=>none
 |some (a,s)=>match zZ [a,s] ((uO t i [114,101,103]).getD []) with
  |none=>none
  |some rs=>if rs.all (fun r=>fitsW (r.getD 0 0) (r.getD 1 0))=true then some (rs.map fun r=>(r.getD 0 0,r.getD 1 0)) else none
def Pz (t:List Nd) (i:Nat):Option (List (Nat×Nat×Nat)×Bool):=match uO t i [114,97,110,103,101,115] with
 |none=>none
 |some text=>match xK (ndA t i).qj,xK (ndA t (par t i)).qj with
  |some (a,s),some (above,_)=>match zZ [a,above,s] text with
   |none=>none
   |some rs=>if rs.all (fun r=>fitsW (r.getD 0 0) (r.getD 2 0)&&fitsW (r.getD 1 0) (r.getD 2 0))=true then some (rs.map fun r=>(r.getD 0 0,r.getD 1 0,r.getD 2 0),decide (text=[])) else none
  |_,_=>none
def within (w:Win) (from_ size:Nat):Bool:=decide (from_<=w.1/\w.1-from_<size/\w.2<=size-(w.1-from_))
def y7 (w:Win):List (Nat×Nat×Nat)->Option Nat
 | []=>none
 |x::r=>if within w x.1 x.2.2=true then some ((x.2.1+(w.1-x.1)) % 2^64) else y7 w r
def Aa (t:List Nd) (i:Nat) (w:Win):Option Nat:=match Pz t i with
 |none=>none
 |some (m,same)=>if same=true then some w.1 else y7 w m
def tX (t:List Nd):List Nat->Win->Option Nat
 | [],w=>some w.1
 |i::r,w=>match Aa t i w with
  |none=>none
  |some b=>tX t r (b,w.2)
def vH {α β:Type} (f:α->Option β):List α->Option (List β)
 | []=>some []
 |x::r=>match f x with
  |none=>none
  |some y=>(vH f r).map (y:: ·)
def wo (t:List Nd) (i:Nat):Option (List Win):=match WA t i with
 |none=>none
 |some ws=>vH (fun w=>(tX t (E8 t (par t i)) w).map fun b=>(b,w.2)) ws
structure Clm where
 kind:Nat
 from_:Nat
 upto:Nat
deriving DecidableEq,Inhabited
def tY (a b:Clm):Int:=if a.kind<b.kind then-1 else if b.kind<a.kind then 1 else if a.from_<b.from_ then-1 else if b.from_<a.from_ then 1 else if a.upto<b.upto then-1 else if b.upto<a.upto then 1 else 0
def Bf (kind from_ size:Nat):List Clm:=if 0<size then [⟨kind,from_,(from_+(size-1)) % 2^64⟩] else []
def wK (t:List Nd) (i kind:Nat) (nm:Nm):Option (List Clm):=match uO t i nm with
 |none=>some []
 |some v=>if form 4 v=0 then some ((nums 4 v).flatMap fun n=>Bf kind n.toNat 1) else none
def aaF (t:List Nd) (i:Nat):Option (List Clm):=match wK t i 1 [112,105,110,115],wK t i 2 [108,105,110,101,115] with
 |some a,some b=>if i=0 then some (a++b) else match wo t i with
  |none=>none
  |some ws=>some (a++b++ws.flatMap fun w=>Bf 3 w.1 w.2)
 |_,_=>none
def sF:List Clm->List Clm
 | []=>[]
 |a::r=>a::vP a r
where vP:Clm->List Clm->List Clm
 |_,[]=>[]
 |a,b::r=>if b=a then vP b r else b::vP b r
def ofM (t:List Nd) (i:Nat):Option (List Clm):=match aaF t i with
 |none=>none
 |some l=>let s:=sF (l.mergeSort fun x y=> !decide (tY y x<0));if s.length<=64 then some s else none
def JA (a b:Clm):Bool:=decide (a.kind=b.kind/\a.from_<=a.upto/\b.from_<=b.upto/\a.from_<=b.upto/\b.from_<=a.upto)
abbrev Ei:=Nat×Clm
def Nr (out:List Ei):List Clm->Option (Clm×Nat)
 | []=>none
 |c::r=>match out.find? fun o=>JA o.2 c with
  |some o=>some (c,o.1)
  |none=>Nr out r
structure Rfs where
 node:Nat
 claim:Clm
 by_:Int
deriving DecidableEq,Inhabited
def vg (t:List Nd):List Ei->List Nat->List Ei×List Rfs
 |out,[]=>(out,[])
 |out,n::r=>match ofM t n with
  |none=>let q:=vg t out r;(q.1,⟨n,⟨0,0,0⟩, -1⟩::q.2)
  |some l=>match Nr out l with
   |some (c,b)=>let q:=vg t out r;(q.1,⟨n,c,b⟩::q.2)
   |none=>vg t (out++l.map fun c=>(n,c)) r
def allM (cs:List Cd) (t:List Nd):List (Option (Nat×Nat)):=(abS t.length).map fun i=>yD cs (uj t i)
def sD (cs:List Cd) (t:List Nd) (i:Nat):Option Nat:=(yD cs (uj t i)).map (·.1)
def Gn (cs:List Cd) (t:List Nd) (i:Nat):Int:=match sD cs t i with|some c=>(cs.getD c default).level|none=>0
def sH (lv:Nat->Int) (pt:Nat->Nm) (a b:Nat):Int:=if lv a<lv b then-1 else if lv b<lv a then 1 else if pt a<pt b then-1 else if pt b<pt a then 1 else 0
def E9 (cs:List Cd) (t:List Nd):List Nat:=
 ((abS t.length).filter fun i=>onM t i&&(sD cs t i).isSome).mergeSort fun x y=> !decide (sH (Gn cs t) (pX t) y x<0)
def rX (cs:List Cd) (t:List Nd):List Ei×List Rfs:=vg t [] (E9 cs t)
end Go.Proofs.YtfbnfhhmiiahnaaGreatDoor
namespace Go.Proofs.YtfbnfhhmiiahnaaGreatDoor
open Go Wk
open Go.RowKit (Below)
attribute [local irreducible] Go.Calls
theorem zM {t:List Nd} {i:Nat} {x:Nd} (h:t[i]? =some x):ndA t i=x:=by unfold ndA;rw [apJ,h];rfl
theorem Yt {t:List Nd} (ht:pM t=true) {i:Nat} (hi:i<t.length):(pX t i).length<=16400:=by
 have h1:=VZ fun n hn=>(Ba ht i n hn).2;have h2:=VY ht i;have h3:=qo ht;unfold pX;omega
theorem LQ {Pb:Nat->Prop} {w:World} {v:Value} {l:List Nd} {i:Nat} (h:RdS rNd 3 Pb w v l) (hok:pM l=true) (hi:i<l.length):
 Calls prog 45 #[v,vi i] w (Ret fun r w'=>r=vs (pX l i)/\New w w'):=by
 obtain ⟨a,cap,rfl,hc1,hc2⟩:=h.form;have hlen:=qo hok;refine oI func45 rfl ntmps45 rfl ?_;(repeat' (first|refine qq2 ?_|refine bH rfl rfl (fun _=>?_) (fun _=>?_)))
 ·obtain rfl:i=0:=by omega
  exact ay rfl rfl ⟨_,rfl,rfl,aB _ _⟩
 ·refine aC (σ:=Nat×Value×List Nm) (fun s=>[(0,.slice a l.length cap),(1,vi s.1),(5,s.2.1)]) (fun s w'=>s.1<=i/\s.2.2.length+s.1<=i/\zV l i=zV l s.1++s.2.2.reverse/\oP (Wk.one vs) 9 1 (fun b=>w.heap.size<=b) NoB w' s.2.1 s.2.2/\New w w') (fun s=>s.1) (i,.slice none 0 0,[]) (sl rfl) ⟨aat _,by simp,by simp,aN,aB _ _⟩ ?_;rintro ⟨k,u,ns⟩ G w1 ⟨hk,hkl,hnm,own,n1⟩;dsimp only at hk hkl hnm own n1;simp only [ql];obtain ⟨p,c,rfl,hp1,hp2⟩:=own.form;(repeat' (first|refine qq2 ?_|refine aW rfl rfl (fun _=>?_) (fun _=>?_)))
  ·obtain ⟨x,hx⟩:=pz l (k:=k) (by omega);have hnd:=(rQ hok hx).kid (by omega);refine dF h n1.keep rfl rfl (by omega) hx fun b o cs hl hR hat=>?_;obtain ⟨pv,rfl,_⟩:=hR;(repeat' (refine aa5 ?_));refine ah (u:=vs x.name) rfl (hat.get 1 rfl) ?_;refine bZ (y:=x.name) qU own rfl rfl rfl rfl rfl (by omega) (by omega) (by simp only [maxLen];omega) (by omega) rfl rfl fun v' w2 p tC c2 lie=>?_;have n2:New w w2:=Chg.trans n1 c2 fun k hk e=>by have:=(own.lt e).1;omega
   refine qq0 ?_;refine dF h n2.keep rfl rfl (by omega) hx fun b o cs hl hR hat=>?_;obtain ⟨pv',rfl,_⟩:=hR;(repeat' (refine aa5 ?_));refine ah (u:=vi x.parent) rfl (hat.get 0 rfl) ?_;refine qq0 ?_;have e0:x.parent=(x.parent.toNat:Int):=by omega
   refine aA (x.parent.toNat,v',ns++ [x.name]) ⟨rfl,by rw [<-e0];rfl,rfl,trivial⟩ ⟨by dsimp only;omega,by simp;omega,?_,tC.mono qU.mo (fun b hb e=>by rcases e with e|e;exact e;have:=n1.size;omega) i3,n2⟩ (by dsimp only;omega);rw [hnm,uN hok hx (by omega)];simp
  ·obtain rfl:k=0:=by omega
   refine au (Nk own (by omega)) rfl ?_;rintro _ w2 ⟨tC,c2⟩;have n2:New w w2:=Chg.trans n1 c2 fun k hk e=>by have:=(own.lt e).1;omega
   rw [yB,aoQ] at hnm;have hne:ns.reverse≠ []:=by rw [<-hnm];obtain ⟨x,hx⟩:=pz l hi;rw [uN hok hx (by omega)];simp
   have hgd: ∀x∈ns.reverse,x.length<=31:=fun x hx=>(Ba hok i x (hnm▸hx)).2;have hjl:=Yn (sep:=[47]) hgd;simp only [List.length_reverse,apm] at hjl;have hrd:=tC.rd qU.mo;refine qq4 ?_;refine au (Wi (xs:=ns.reverse) (sep:=[47]) hrd (by simp;omega) (by omega)) rfl ?_;rintro _ w3 ⟨rfl,n3⟩;refine jT rfl rfl (by simp;omega) ?_;have hfin:[47]++Lib.join ns.reverse [47]=pX l i:=by
    unfold pX;rw [hnm];obtain ⟨x,r,e⟩: ∃x r,ns.reverse=x::r:=by
     cases hh:ns.reverse with
     |nil=>exact absurd hh hne
     |cons x r=>exact ⟨x,r,rfl⟩
    rw [e,Wj]
   rw [hfin];refine qq6 ?_;exact ay rfl rfl ⟨_,rfl,rfl,New.trans n2 n3⟩
theorem LU {Pb:Nat->Prop} {w:World} {v:Value} {l:List Nd} {i:Nat} (h:RdS rNd 3 Pb w v l) (hok:pM l=true) (hi:i<l.length):
 Calls prog 143 #[v,vi i] w (Ret fun r w'=>r=.tuple #[vs (pX l i),vi 0]/\New w w'):=by
 refine oI func143 rfl ntmps143 rfl ?_;refine qq2 ?_;refine au (yC (i:=i) h) rfl ?_;rintro _ w1 ⟨rfl,n1⟩;have hp:Cf l i=0:=by unfold Cf;rw [if_pos hok,if_neg (by omega)]
 rw [hp];(repeat' (first|refine qq4 ?_|(refine aa4 (fun _=>?_) (fun _=>?_)<;>(first|(exfalso;omega)|skip))));refine au (LQ (h.keep pU n1.keep) hok hi) rfl ?_;rintro _ w2 ⟨rfl,n2⟩;refine qq6 ?_;exact aG rfl rfl rfl ⟨_,rfl,rfl,New.trans n1 n2⟩
def Ns:Option (List UInt8)->Value
 |some x=>.tuple #[vs x,.bool true]
 |none=>.tuple #[vs [],.bool false]
theorem Bg {Pb:Nat->Prop} {w:World} {pv:Value} {x:Nd} {nm:Nm} (h:RdS rPr 2 Pb w pv x.qj):
 Calls prog 48 #[.agg #[vi x.parent,vs x.name,pv],vs nm] w (Ret fun r w'=>r=Ns (val x.qj nm)/\New w w'):=by
 obtain ⟨a,cap,rfl,hc1,hc2⟩:=h.form;simp only [maxLen] at hc2;refine oI func48 rfl ntmps48 rfl ?_;refine qq0 ?_;refine Wl.box rfl fun w1 b1 n1 s1=>?_;replace b1:Bk w1 w.heap.size 73 [vi x.parent,vs x.name,.slice a x.qj.length cap]:=b1;refine qq2 ?_;refine ah (u:=.slice a x.qj.length cap) rfl (b1.cell (o:=2) rfl) ?_;refine qq6 ?_;refine aC (σ:=Nat) (fun i=>[(1,vs nm),(9,.slice a x.qj.length cap),(10,vi x.qj.length),(11,vi i)]) (fun i w'=>i<=x.qj.length/\val x.qj nm=val (x.qj.drop i) nm/\New w w') (fun i=>x.qj.length-i) 0 (sl rfl) ⟨aoZ _,by simp,n1⟩ ?_;rintro i G w2 ⟨hi,hv,n2⟩;simp only [ql];(repeat' (first|refine qq2 ?_|refine aa2 (fun _=>?_) (fun _=>?_)))
 ·obtain ⟨p,hp⟩:=pz x.qj (k:=i) (by omega);refine aO (h.keep (pI pC) n2.keep) rfl rfl (by omega) hp fun b o cs hl hR hat=>?_;obtain rfl:cs=pC p:=hR;refine aS hat rfl rfl ?_;refine Wl.alloc fun w3 b3 n3 s3=>?_;refine aK (new:=pC p) b3 rfl rfl rfl rfl zl2 (Js.oc (fun _=>True) w p _ rfl rfl) fun w4 b4 c4 s4=>?_;have hz:=n2.size;have n4:New w w4:=Chg.trans (New.trans n2 n3) c4 fun k hk e=>by omega
  replace b4:Bk w4 w2.heap.size 70 (pC p):=b4;rw [drop_cons hp] at hv;refine qq2 ?_;refine ah (u:=vs p.1) rfl (b4.cell (o:=0) rfl) ?_;(repeat' (first|refine qq4 ?_|refine fD rfl rfl (fun _=>?_) (fun _=>?_)))
  ·refine ah (u:=vs p.2) rfl (b4.cell (o:=1) rfl) ?_;refine qq1 ?_;refine aG rfl rfl rfl ⟨_,rfl,?_,n4⟩;rw [hv];unfold val;rw [aqM (by simpa using by assumption)];rfl
  ·refine aA (i+1) (sl rfl) ⟨by omega,?_,n4⟩ (by omega);rw [hv];unfold val;rw [aqv (by simpa using by assumption)]
 ·obtain rfl:i=x.qj.length:=by omega
  rw [aqi] at hv;refine aG rfl rfl rfl ⟨_,rfl,?_,n2⟩;rw [hv];rfl
def aaG:Option (List UInt8)->Value
 |some x=>.tuple #[vs x,vi 0]
 |none=>.tuple #[vs [],vi 6]
theorem JB {Pb:Nat->Prop} {w:World} {v:Value} {l:List Nd} {i:Nat} {nm:Nm} (h:RdS rNd 3 Pb w v l) (hok:pM l=true) (hi:i<l.length):
 Calls prog 24 #[v,vi i,vs nm] w (Ret fun r w'=>r=aaG (uO l i nm)/\New w w'):=by
 obtain ⟨a,cap,rfl,hc1,hc2⟩:=h.form;obtain ⟨x,hx⟩:=pz l hi;refine oI func24 rfl ntmps24 rfl ?_;refine qq2 ?_;refine au (yC (i:=i) h) rfl ?_;rintro _ w1 ⟨rfl,n1⟩;have hp:Cf l i=0:=by unfold Cf;rw [if_pos hok,if_neg (by omega)]
 rw [hp];(repeat' (first|refine qq4 ?_|(refine aa4 (fun _=>?_) (fun _=>?_)<;>(first|(exfalso;omega)|skip))));refine dF h n1.keep rfl rfl (by omega) hx fun b o cs hl hR hat=>?_;obtain ⟨pv,rfl,hpr⟩:=hR;refine aS hat rfl rfl ?_;(repeat' (refine aa1 ?_));refine au (Bg (x:=x) (nm:=nm) (hpr.keep (pI pC) n1.keep)) rfl ?_;rintro _ w2 ⟨rfl,n2⟩;have e:uO l i nm=val x.qj nm:=by unfold uO;rw [zM hx]
 rw [e];cases val x.qj nm with
 |none=>refine qq4 ?_;exact aG rfl rfl rfl ⟨_,rfl,rfl,New.trans n1 n2⟩
 |some y=>refine qq5 ?_;exact aG rfl rfl rfl ⟨_,rfl,rfl,New.trans n1 n2⟩
theorem Ci: ∀(l:List Pr) (seen:List Nm),AZ seen l=true-> ∀p∈l,qK p.1=true/\p.2.length<=1024
 | [],_,_,p,hp=>by simp at hp
 |q::r,seen,h,p,hp=>by
  rw [AZ] at h;simp only [ao0,decide_eq_true_eq] at h;rcases List.mem_cons.1 hp with rfl|hp
  ·exact ⟨h.1,h.2.1⟩
  ·exact Ci r _ h.2.2.2 p hp
theorem Bh {t:List Nd} (ht:pM t=true) {i:Nat} (hi:i<t.length) {nm v:Nm} (e:uO t i nm=some v):v.length<=1024:=by
 obtain ⟨x,hx⟩:=pz t hi;unfold uO at e;rw [zM hx] at e;unfold val at e;obtain ⟨p,hp,rfl⟩:=Option.map_eq_some_iff.1 e;have h:=(rQ ht hx).pr;unfold A7 at h;rw [ao0] at h;exact (Ci _ _ h.2 p (aqr hp)).2
theorem Ac {t:List Nd} (ht:pM t=true) {i:Nat} (hi:i<t.length) {nm:Nm}:((uO t i nm).getD []).length<=1024:=by
 cases e:uO t i nm with
 |none=>exact aoZ _
 |some v=>exact Bh ht hi e
def onK (t:List Nd) (k:Int):Bool:=if k<0 then true else onM t k.toNat
theorem Yu (t:List Nd):onM t 0=okay t 0:=by unfold onM;rw [Dl];rfl
theorem Yv {t:List Nd} (ht:pM t=true) {i:Nat} (h0:i≠0) (hi:i<t.length):onM t i=(okay t i&&onM t (par t i)):=by
 unfold onM;rw [Dn ht h0 hi,aqN,Bool.and_assoc]
theorem Yw {t:List Nd} (ht:pM t=true) {i:Nat} {x:Nd} (hx:t[i]? =some x):onK t (i:Int)=(okay t i&&onK t x.parent):=by
 have hi:=(List.getElem?_eq_some_iff.1 hx).1;unfold onK;rw [if_neg (by omega),ao3];by_cases h0:i=0
 ·subst h0;have:=(rQ ht hx).root rfl;rw [if_pos (by omega),Yu,Bool.and_true]
 ·have h1:=(rQ ht hx).kid h0;rw [if_neg (by omega),Yv ht h0 hi];unfold par;rw [zM hx]
theorem Fa {Pb:Nat->Prop} {w:World} {v:Value} {l:List Nd} {i:Nat} (h:RdS rNd 3 Pb w v l) (hok:pM l=true) (hi:i<l.length):
 Calls prog 86 #[v,vi i] w (Ret fun r w'=>r=.bool (onM l i)/\New w w'):=by
 obtain ⟨a,cap,rfl,hc1,hc2⟩:=h.form;have hlen:=qo hok;have e0:onM l i=onK l (i:Int):=by unfold onK;rw [if_neg (by omega),ao3]
 rw [e0];refine oI func86 rfl ntmps86 rfl ?_;refine qq2 ?_;refine aC (σ:=Int) (fun k=>[(0,.slice a l.length cap),(1,vi k)]) (fun k w'=> -1<=k/\k<=i/\onK l (i:Int)=onK l k/\New w w') (fun k=>(k+1).toNat) i (sl rfl) ⟨by omega,by omega,rfl,aB _ _⟩ ?_;rintro k G w1 ⟨hk1,hk2,hon,n1⟩;simp only [ql];(repeat' (first|refine qq2 ?_|refine aV rfl rfl (fun _=>?_) (fun _=>?_)))
 ·obtain ⟨j,rfl⟩:=aoR (show 0<=k by omega);obtain ⟨x,hx⟩:=pz l (k:=j) (by omega);have hj:j<l.length:=by omega
  rw [Yw hok hx] at hon;have hnd:=rQ hok hx;have hpar: -1<=x.parent/\x.parent<j:=by
   by_cases h0:j=0
   ·have:=hnd.root h0;omega
   ·have:=hnd.kid h0;omega
  refine dF h n1.keep rfl rfl (by omega) hx fun b o cs hl hR hat=>?_;obtain ⟨pv,rfl,hpr⟩:=hR;refine aS hat rfl rfl ?_;refine au (Bg (x:=x) (nm:=[115,116,97,116,117,115]) (hpr.keep (pI pC) n1.keep)) rfl ?_;rintro _ w2 ⟨rfl,n2⟩;have n02:=New.trans n1 n2;have e:uO l j [115,116,97,116,117,115]=val x.qj [115,116,97,116,117,115]:=by unfold uO;rw [zM hx]
  have Gp:okay l j=match val x.qj [115,116,97,116,117,115] with
   |none=>true
   |some v=>decide ((only [] (DR v) (Eg v)).2=0/\(only [] (DR v) (Eg v)).1=[111,107,97,121]):=by unfold okay;rw [e]<;>rfl
  cases hv:val x.qj [115,116,97,116,117,115] with
  |none=>rw [hv] at Gp;dsimp only at Gp;rw [Gp,aqf] at hon;refine qq4 ?_;refine dF h n02.keep rfl rfl (by omega) hx fun b o cs hl hR hat=>?_;obtain ⟨pv',rfl,_⟩:=hR;(repeat' (refine aa5 ?_));refine ah (u:=vi x.parent) rfl (hat.get 0 rfl) ?_;refine qq0 ?_;exact aA x.parent (sl rfl) ⟨by omega,by omega,hon,n02⟩ (by omega)
  |some y=>
   rw [hv] at Gp;dsimp only at Gp;have hyl:=Bh hok hj (e.trans hv);refine qq5 ?_;refine au (Sz (l:=y) (by omega)) rfl ?_;rintro _ w3 ⟨rfl,n3⟩;have n03:=New.trans n02 n3;generalize only [] (DR y) (Eg y)=q at Gp;obtain ⟨s,er⟩:=q;dsimp only at Gp;(repeat' (first|refine qq4 ?_|refine aa4 (fun _=>?_) (fun _=>?_)|refine iI rfl rfl (fun _=>?_) (fun _=>?_)))
   ·rw [decide_eq_false (by omega)] at Gp;rw [Gp,aqg] at hon;rw [hon];exact ay rfl rfl ⟨_,rfl,rfl,n03⟩
   ·rw [decide_eq_false (fun q=>by have:=q.2;contradiction)] at Gp;rw [Gp,aqg] at hon;rw [hon];exact ay rfl rfl ⟨_,rfl,rfl,n03⟩
   ·rw [decide_eq_true ⟨by omega,by assumption⟩] at Gp;rw [Gp,aqf] at hon;refine dF h n03.keep rfl rfl (by omega) hx fun b o cs hl hR hat=>?_;obtain ⟨pv',rfl,_⟩:=hR;(repeat' (refine aa5 ?_));refine ah (u:=vi x.parent) rfl (hat.get 0 rfl) ?_;refine qq0 ?_;exact aA x.parent (sl rfl) ⟨by omega,by omega,hon,n03⟩ (by omega)
 ·have ek:onK l k=true:=by unfold onK;rw [if_pos (by omega)]
  rw [hon,ek];exact ay rfl rfl ⟨_,rfl,rfl,n1⟩
theorem Gq {l:List Nd} {i:Nat} (hok:pM l=true) (hi:i<l.length):Cf l i=0:=by unfold Cf;rw [if_pos hok,if_neg (by omega)]
theorem Fb {Pb:Nat->Prop} {w:World} {v:Value} {l:List Nd} {i:Nat} (h:RdS rNd 3 Pb w v l) (hok:pM l=true) (hi:i<l.length):
 Calls prog 59 #[v,vi i] w (Ret fun r w'=>r=.tuple #[.bool (onM l i),vi 0]/\New w w'):=by
 refine oI func59 rfl ntmps59 rfl ?_;refine qq2 ?_;refine au (yC (i:=i) h) rfl ?_;rintro _ w1 ⟨rfl,n1⟩;rw [Gq hok hi];(repeat' (first|refine qq4 ?_|(refine aa4 (fun _=>?_) (fun _=>?_)<;>(first|(exfalso;omega)|skip))));refine au (Fa (h.keep pU n1.keep) hok hi) rfl ?_;rintro _ w2 ⟨rfl,n2⟩;refine qq6 ?_;exact aG rfl rfl rfl ⟨_,rfl,rfl,New.trans n1 n2⟩
theorem PD {Pb:Nat->Prop} {w:World} {v:Value} {l:List Nd} {i:Nat} (h:RdS rNd 3 Pb w v l) (hok:pM l=true) (hi:i<l.length):
 Calls prog 84 #[v,vi i] w (Ret fun r w'=>(∃u,r=.tuple #[u,vi 0]/\oP (Wk.one vs) 9 1 (fun b=>w.heap.size<=b) NoB w' u (uj l i))/\New w w'):=by
 obtain ⟨a,cap,rfl,hc1,hc2⟩:=h.form;obtain ⟨x,hx⟩:=pz l hi;refine oI func84 rfl ntmps84 rfl ?_;refine qq2 ?_;refine au (yC (i:=i) h) rfl ?_;rintro _ w1 ⟨rfl,n1⟩;rw [Gq hok hi];(repeat' (first|refine qq4 ?_|(refine aa4 (fun _=>?_) (fun _=>?_)<;>(first|(exfalso;omega)|skip))));refine dF h n1.keep rfl rfl (by omega) hx fun b o cs hl hR hat=>?_;obtain ⟨pv,rfl,hpr⟩:=hR;refine aS hat rfl rfl ?_;refine au (Bg (x:=x) (nm:=qV) (hpr.keep (pI pC) n1.keep)) rfl ?_;rintro _ w2 ⟨rfl,n2⟩;have n02:=New.trans n1 n2;have e:uj l i=Eg ((val x.qj qV).getD []):=by unfold uj uO;rw [zM hx]
 have hyl:((val x.qj qV).getD []).length<=1024:=by
  have:=Ac hok hi (nm:=qV);unfold uO at this
  rwa [zM hx] at this
 have ev':Ns (val x.qj qV)=.tuple #[vs ((val x.qj qV).getD []),.bool (val x.qj qV).isSome]:=by cases val x.qj qV<;>rfl
 rw [e,ev'];generalize (val x.qj qV).getD []=y at hyl ⊢;refine qq5 ?_;refine au (Ig (l:=y) (by omega)) rfl ?_;rintro _ w3 ⟨u,rfl,o3,n3⟩;have n03:=New.trans n02 n3;obtain ⟨ua,uc,rfl,_,_⟩:=o3.form;by_cases hf:y=[]∨y.getLast?=some 0
 ·rw [(acE hf).1];(repeat' (first|refine qq4 ?_|(refine aa4 (fun _=>?_) (fun _=>?_)<;>(first|(exfalso;omega)|skip))));exact aG rfl rfl rfl ⟨_,rfl,⟨_,rfl,o3.mono qU.mo (fun b _ hb=>by have:=n02.size;omega) i3⟩,n03⟩
 ·rw [(Yq hf).1,(Yq hf).2];(repeat' (first|refine qq5 ?_|(refine aa4 (fun _=>?_) (fun _=>?_)<;>(first|(exfalso;omega)|skip))));exact aG rfl rfl rfl ⟨_,rfl,⟨_,rfl,aN⟩,n03⟩
theorem SA {Pb:Nat->Prop} {w:World} {v:Value} {l:List Nd} {i:Nat} (h:RdS rNd 3 Pb w v l) (hok:pM l=true) (hi:i<l.length):
 Calls prog 60 #[v,vi i] w (Ret fun r w'=>r=.tuple #[.bool (Eh l i),vi 0]/\New w w'):=by
 obtain ⟨a,cap,rfl,hc1,hc2⟩:=h.form;obtain ⟨x,hx⟩:=pz l hi;refine oI func60 rfl ntmps60 rfl ?_;refine qq2 ?_;refine au (yC (i:=i) h) rfl ?_;rintro _ w1 ⟨rfl,n1⟩;rw [Gq hok hi];(repeat' (first|refine qq4 ?_|(refine aa4 (fun _=>?_) (fun _=>?_)<;>(first|(exfalso;omega)|skip))));refine dF h n1.keep rfl rfl (by omega) hx fun b o cs hl hR hat=>?_;obtain ⟨pv,rfl,hpr⟩:=hR;refine aS hat rfl rfl ?_;refine au (Bg (x:=x) (nm:=qV) (hpr.keep (pI pC) n1.keep)) rfl ?_;rintro _ w2 ⟨rfl,n2⟩;have n02:=New.trans n1 n2;have e:Eh l i=((val x.qj qV).isNone&&onM l i):=by unfold Eh uO;rw [zM hx]
 rw [e];cases val x.qj qV with
 |none=>refine qq5 ?_;refine au (Fa (h.keep pU n02.keep) hok hi) rfl ?_;rintro _ w3 ⟨rfl,n3⟩;refine qq6 ?_;exact aG rfl rfl rfl ⟨_,rfl,rfl,New.trans n02 n3⟩
 |some y=>refine qq5 ?_;exact aG rfl rfl rfl ⟨_,rfl,rfl,n02⟩
end Go.Proofs.YtfbnfhhmiiahnaaGreatDoor
namespace Go.Proofs.YtfbnfhhmiiahnaaGreatDoor
open Go Wk
structure Ed where
 src:Nat
 dst:Option Nat
 kind:Nat
 soft:Bool
 place:Nat
 args:List Int
deriving DecidableEq,Inhabited
def wu:Nm:=[112,104,97,110,100,108,101]
def xu (x:Nd):Nat:=(Jz ((val x.qj wu).getD [])).getD 0
def xM:List (Nat×Nat)->Nat->List Nd->List (Nat×Nat)
 |m,_,[]=>m
 |m,i,x::r=>xM (if xu x≠0/\m.all (fun p=>decide (p.1≠xu x))=true then m++ [(xu x,i)] else m) (i+1) r
def sG (t:List Nd):List (Nat×Nat):=xM [] 0 t
def Cj (t:List Nd) (h:Nat):Option Nat:=((sG t).find? fun p=>decide (p.1=h)).map (·.2)
def uq:Nat->Nm×Nm
 |1=>([99,108,111,99,107,115],[35,99,108,111,99,107,45,99,101,108,108,115])
 |2=>([115,117,112,112,108,105,101,115],[35,115,117,112,112,108,121,45,99,101,108,108,115])
 |3=>([100,111,109,97,105,110,115],[35,100,111,109,97,105,110,45,99,101,108,108,115])
 |4=>([114,101,115,101,116,115],[35,114,101,115,101,116,45,99,101,108,108,115])
 |5=>([108,105,110,107,115],[35,108,105,110,107,45,99,101,108,108,115])
 |_=>([],[])
def JC (x:Nd) (nm:Nm):Option Nat:=match val x.qj nm with
 |none=>some 0
 |some v=>match Jz v with
  |some n=>if n<=8 then some n else none
  |none=>none
def vS (t:List Nd) (i kind:Nat) (soft:Bool):Nat->Nat->List Int->List Ed
 |0,_,_=>[]
 |_,_,[]=>[]
 |f+1,place,h::c=>match Cj t h.toNat with
  |none=>[⟨i,none,kind,soft,place,[]⟩]
  |some to_=>match JC (ndA t to_) (uq kind).2 with
   |none=>[⟨i,none,kind,soft,place,[]⟩]
   |some n=>if c.length<n then [⟨i,none,kind,soft,place,[]⟩] else ⟨i,some to_,kind,soft,place,c.take n⟩::vS t i kind soft f (place+1) (c.drop n)
def yE (t:List Nd) (i kind:Nat) (soft:Bool):List Ed:=
 let v:=(uO t i ((uq kind).1++if soft=true then [63] else [])).getD []
 if form 4 v=0 then vS t i kind soft (nums 4 v).length 0 (nums 4 v) else [⟨i,none,kind,soft,0,[]⟩]
def pK (t:List Nd):List Ed:=(abS t.length).flatMap fun i=>[1,2,3,4,5].flatMap fun k=>yE t i k false++yE t i k true
def qB (t:List Nd) (i:Nat):List Nat:=(if 0<i then [par t i] else [])++(pK t).filterMap fun e=>if e.src=i/\e.soft=false then e.dst else none
inductive Rch (W:Nat->List Nat):Nat->Nat->Prop
 |one {a b:Nat}:b∈W a->Rch W a b
 |more {a b c:Nat}:Rch W a b->c∈W b->Rch W a c
theorem Rch.trans {W:Nat->List Nat} {a b c:Nat} (h:Rch W a b) (k:Rch W b c):Rch W a c:=by
 induction k with
 |one h1=>exact .more h h1
 |more _ h1 ih=>exact .more ih h1
def qw (t:List Nd):List Nat:=(abS t.length).mergeSort fun x y=> !decide (sH (fun _=>0) (pX t) y x<0)
open Classical in
noncomputable def ul (W:Nat->List Nat) (order:List Nat):List Nat->List Nat->List (List Nat)
 |_,[]=>[]
 |seen,i::r=>if i∈seen∨ ¬Rch W i i then ul W order seen r
  else (order.filter fun k=>decide (Rch W i k/\Rch W k i))::ul W order (seen++order.filter fun k=>decide (Rch W i k/\Rch W k i)) r
noncomputable def uD (t:List Nd):List (List Nat):=ul (qB t) (qw t) [] (qw t)
open Classical in
noncomputable def uP (W:Nat->List Nat):List Ed->List Ed×List Ed
 | []=>([],[])
 |e::r=>if Rch W (e.dst.getD 0) e.src then let q:=uP W r;(q.1,e::q.2)
  else let q:=uP (fun i=>if i=e.src then W i++ [e.dst.getD 0] else W i) r;(e::q.1,q.2)
def uY (there:Nat->Bool) (e:Ed):Bool:=e.soft&&(there e.src&&(match e.dst with|none=>false|some d=>there d&&decide (d≠e.src)))
theorem LV: ∀(l:List Nd) (m:List (Nat×Nat)) (i n:Nat),i+l.length=n->(∀p∈m,p.2<n)-> ∀p∈xM m i l,p.2<n
 | [],_,_,_,_,hm,p,hp=>hm p hp
 |x::r,m,i,n,hn,hm,p,hp=>by
  simp only [aph] at hn;rw [xM] at hp;refine LV r _ (i+1) n (by omega) (fun q hq=>?_) p hp;split at hq
  ·rcases List.mem_append.1 hq with hq|hq
   ·exact hm q hq
   ·simp at hq;subst hq;simp;omega
  ·exact hm q hq
theorem LW {t:List Nd} {h k:Nat} (e:Cj t h=some k):k<t.length:=by
 unfold Cj at e;obtain ⟨p,hp,rfl⟩:=Option.map_eq_some_iff.1 e;exact LV t [] 0 t.length (by simp) (by simp) p (aqr hp)
theorem PE {t:List Nd} {i kind:Nat} {soft:Bool}: ∀(f place:Nat) (c:List Int), ∀e∈vS t i kind soft f place c,e.src=i/\e.soft=soft/\e.kind=kind/\ ∀d,e.dst=some d->d<t.length
 |0,_,_,e,h=>by simp [vS] at h
 |f+1,_,[],e,h=>by simp [vS] at h
 |f+1,place,x::c,e,h=>by
  rw [vS] at h;split at h
  ·simp at h;subst h;simp
  ·rename_i to_ hto
   split at h
   ·simp at h;subst h;simp
   ·split at h
    ·simp at h;subst h;simp
    ·rcases List.mem_cons.1 h with rfl|h
     ·exact ⟨rfl,rfl,rfl,fun d hd=>by cases hd;exact LW hto⟩
     ·exact PE f _ _ e h
theorem PG {t:List Nd} {i kind:Nat} {soft:Bool}: ∀e∈yE t i kind soft,e.src=i/\e.soft=soft/\e.kind=kind/\ ∀d,e.dst=some d->d<t.length:=by
 intro e h;have key: ∀v:List UInt8,e∈(if form 4 v=0 then vS t i kind soft (nums 4 v).length 0 (nums 4 v) else [⟨i,none,kind,soft,0,[]⟩])->e.src=i/\e.soft=soft/\e.kind=kind/\ ∀d,e.dst=some d->d<t.length:=by
  intro v h;split at h
  ·exact PE _ _ _ e h
  ·rw [List.mem_singleton] at h;subst h;simp
 exact key _ h
theorem uU {t:List Nd}: ∀e∈pK t,e.src<t.length/\ ∀d,e.dst=some d->d<t.length:=by
 intro e h;unfold pK at h;obtain ⟨i,hi,h⟩:=List.mem_flatMap.1 h;obtain ⟨k,_,h⟩:=List.mem_flatMap.1 h;rcases List.mem_append.1 h with h|h
 ·have:=PG e h;exact ⟨by rw [this.1];simpa using hi,this.2.2.2⟩
 ·have:=PG e h;exact ⟨by rw [this.1];simpa using hi,this.2.2.2⟩
end Go.Proofs.YtfbnfhhmiiahnaaGreatDoor
namespace Go.Proofs.YtfbnfhhmiiahnaaGreatDoor
open Go Wk
open Go.RowKit (Below)
open Go.Sort (SWO Holds)
attribute [local irreducible] Go.Calls
def Grw (w w':World):Prop:= ∃q os,w'=Sort.grow (w.drewN q) os
theorem Grw.new {w w':World} (h:Grw w w'):New w w':=by
 obtain ⟨q,os,rfl⟩:=h;exact ⟨rfl,rfl,rfl,by simp [Sort.grow],fun k hk _=>by show (w.heap++os)[k]? =_;rw [aqw hk]⟩
theorem Gs {a b:Nm} (h: ¬a<b) (h2:a≠b):b<a:=by
 rcases Std.lt_trichotomy a b with h3|h3|h3
 ·exact absurd h3 h
 ·exact absurd h3 h2
 ·exact h3
theorem yh (lv:Nat->Int) (pt:Nat->Nm) (a b:Nat):sH lv pt a b<0↔lv a<lv b∨(lv a=lv b/\pt a<pt b):=by
 unfold sH;split
 ·rename_i h;simp [h]
 ·split
  ·rename_i h1 h2;constructor
   ·intro h;omega
   ·rintro (h|⟨h,_⟩)<;>omega
  ·rename_i h1 h2
   have e:lv a=lv b:=by omega
   split
   ·rename_i h3;simp [e,h3]
   ·rename_i h3
    have: ¬(if pt b<pt a then (1:Int) else 0)<0:=by split<;>omega
    constructor
    ·intro h;exact absurd h this
    ·rintro (h|⟨_,h⟩)
     ·omega
     ·exact absurd h h3
theorem SB (lv:Nat->Int) (pt:Nat->Nm):SWO fun a b=>decide (sH lv pt a b<0):=by
 refine ⟨fun x=>?_,fun x y z h1 h2=>?_,fun x y z h1 h2=>?_⟩
 ·refine decide_eq_false fun h=>?_;rcases (yh _ _ _ _).1 h with h|⟨_,h⟩
  ·omega
  ·exact List.lt_irrefl _ h
 ·rw [decide_eq_true_eq,yh] at h1 h2;refine decide_eq_true ((yh _ _ _ _).2 ?_);rcases h1 with h1|⟨h1,h3⟩<;>rcases h2 with h2|⟨h2,h4⟩
  ·exact .inl (by omega)
  ·exact .inl (by omega)
  ·exact .inl (by omega)
  ·exact .inr ⟨by omega,aqO h3 h4⟩
 ·rw [decide_eq_false_iff_not,yh] at h1 h2;refine decide_eq_false fun h=>?_;rw [yh] at h;have i1: ¬lv x<lv y:=fun q=>h1 (.inl q);have i2: ¬lv y<lv z:=fun q=>h2 (.inl q);rcases h with h|⟨h,h3⟩
  ·omega
  ·have e1:lv x=lv y:=by omega
   have e2:lv y=lv z:=by omega
   have h1': ¬pt x<pt y:=fun q=>h1 (.inr ⟨e1,q⟩);have h2': ¬pt y<pt z:=fun q=>h2 (.inr ⟨e2,q⟩);by_cases e:pt y=pt z
   ·rw [e] at h1';exact h1' h3
   ·exact h1' (aqO h3 (Gs h2' e))
abbrev viN:Nat->Value:=fun k=>vi k
theorem qQ:rF (Wk.one viN) 1:=uI _ fun _=>rfl
section
variable {α:Type} [Inhabited α] {enc:α->Value} {w:World} {blk n:Nat} {d:Array α} {os:Array Obj}
theorem DT (hb:blk<w.heap.size):Chg (fun j=>j=blk) w (sortWorld enc w blk 0 n d os):=
 ⟨rfl,rfl,rfl,by simp [sortWorld,Sort.grow,Sort.putRow,Sort.mapBlock,Sort.ahead],fun j hj hn=>by have: ¬blk=j:=fun e=>hn e.symm;simp only [sortWorld,Sort.grow,Sort.putRow,Sort.mapBlock,Sort.ahead];rw [aqw (by simpa using hj),aqp,if_neg this]⟩
theorem JD {cs:Array Value} {T:TypeId} (h:w.heap[blk]? =some (.cells cs T (0,0))):(sortWorld enc w blk 0 n d os).heap[blk]? =some (.cells (Sort.putCells enc 0 d cs) T (0,0)):=by
 have hb:=(Array.getElem?_eq_some_iff.1 h).1;simp only [sortWorld,Sort.grow,Sort.putRow,Sort.mapBlock,Sort.ahead];rw [aqw (by simpa using hb),aqp,if_pos rfl,h];rfl
end
theorem Ej {Pb:Nat->Prop} {w:World} {L:List Nat} {v:Value} {lv:Nat->Int} {pt:Nat->Nm} {g:FuncId} {cb:Array Value} [hg:oN prog g] (own:oP (Wk.one viN) 3 1 Pb NoB w v L) (hinj: ∀a∈L, ∀b∈L,pt a=pt b->a=b) (hlen:L.length<=2000000)
 (hcmp: ∀w',Chg (fun k=>v.ownBlock=some k) w w'-> ∀a∈L, ∀b∈L,Calls prog g (#[vi a,vi b]++cb) w' (fun e w''=>e=.returned (vi (sH lv pt a b))/\Grw w' w'')):
 Calls prog 62 #[v,.func (.func g) #[] cb] w (Ret fun _ w'=>oP (Wk.one viN) 3 1 Pb NoB w' v (L.mergeSort fun x y=> !decide (sH lv pt y x<0))/\Chg (fun k=>v.ownBlock=some k) w w'):=by
 by_cases hL:L=[]
 ·subst hL;obtain ⟨a,cap,rfl,_,_⟩:=own.form;refine (nI (α:=Nat) a cap _ w).mono ?_;rintro _ w' ⟨rfl,rfl⟩;exact ⟨_,rfl,by simpa using own,aB _ _⟩
 obtain ⟨gb,cap,rfl,_,hgb,_⟩:=own.blk hL;obtain ⟨x0,hx0⟩:=List.exists_mem_of_ne_nil _ hL
 haveI:Inhabited {x:Nat // x∈L}:=⟨⟨x0,hx0⟩⟩
 let enc:{x:Nat // x∈L}->Value:=fun x=>vi x.1;let cf:{x:Nat // x∈L}->{x:Nat // x∈L}->Int:=fun x y=>sH lv pt x.1 y.1;have hlt: ∀x y,ltOf cf x y=decide (sH lv pt x.1 y.1<0):=fun x y=>rfl;have hS:=SB lv pt;have hO:SWO (ltOf cf):=⟨fun x=>hS.irrefl x.1,fun x y z h1 h2=>hS.trans x.1 y.1 z.1 h1 h2,fun x y z h1 h2=>hS.ntrans x.1 y.1 z.1 h1 h2⟩;have hT: ∀x y,(ltOf cf) x y=false->(ltOf cf) y x=false->x=y:=by
  intro x y h1 h2;rw [hlt,decide_eq_false_iff_not,yh] at h1 h2;have i1: ¬lv x.1<lv y.1:=fun q=>h1 (.inl q);have i2: ¬lv y.1<lv x.1:=fun q=>h2 (.inl q);have e:lv x.1=lv y.1:=by omega
  have h1': ¬pt x.1<pt y.1:=fun q=>h1 (.inr ⟨e,q⟩);have h2': ¬pt y.1<pt x.1:=fun q=>h2 (.inr ⟨e.symm,q⟩);refine Subtype.ext (hinj _ x.2 _ y.2 ?_);by_cases e:pt x.1=pt y.1
  ·exact e
  ·exact absurd (Gs h1' e) h2'
 have own':oP (Wk.one enc) 3 1 Pb NoB w (.slice (some ⟨gb,0,none⟩) L.attach.length cap) L.attach:=by
  have e:L.attach.map enc=L.map viN:=by have:=congrArg (List.map viN) (aqP L);rw [aqa] at this;exact this
  have h1:=own.to1;have:vK Pb w 3 1 (.slice (some ⟨gb,0,none⟩) L.attach.length cap) L.attach.length (L.attach.map enc):=by rw [e,aqQ];exact h1
  exact iL rfl this
 have hH:=LJ own';have hds:L.attach.toArray.size=L.length:=by simp
 have hc:CmpLays1 prog g cb enc cf gb 0 L.attach.toArray.size w:=by intro m os dk hs x y;have cg:=DT (enc:=enc) (n:=m) (d:=dk) (os:=os) hgb;refine (hcmp _ (cg.mono fun k _ e=>by rw [e];rfl) x.1 x.2 y.1 y.2).mono ?_;rintro e w' ⟨rfl,q,os',rfl⟩;exact ⟨rfl,q,os',rfl⟩
 have h:=nJ enc (fun _=>rfl) cf hO g cb gb 0 cap L.attach.toArray w (fun args w=>rE hg args) hc hH hgb (by rw [hds];omega) hT;rw [hds] at h;refine h.mono ?_;rintro _ w' ⟨rfl,n,os,rfl⟩;refine ⟨_,rfl,?_,(DT hgb).mono fun k _ e=>by rw [e];rfl⟩;have hm:(L.attach.toArray.toList.mergeSort fun x y=> !(ltOf cf) y x).map (·.1)=L.mergeSort fun x y=> !decide (sH lv pt y x<0):=by have:=List.map_mergeSort (r:=fun x y:{x:Nat // x∈L}=> !(ltOf cf) y x) (s:=fun x y=> !decide (sH lv pt y x<0)) (f:=fun x=>x.1) (l:=L.attach) (fun a _ b _=>rfl);rw [aqP] at this;exact this
 generalize hD:(L.attach.toArray.toList.mergeSort fun x y=> !(ltOf cf) y x)=D at hm ⊢;have hl:D.length=L.attach.length:=by rw [<-hD,List.length_mergeSort]
 have o2:=UM (Pe':=NoB) (O7:=enc) (w':=sortWorld enc w gb 0 n D.toArray os) own' hl fun cs hcs=>JD hcs;have h2:=o2.to1;have e2:D.map enc=(D.map (·.1)).map viN:=by rw [aqa];rfl
 rw [e2,hm] at h2;rw [hl,aqQ] at h2;exact iL (by simp) h2
end Go.Proofs.YtfbnfhhmiiahnaaGreatDoor
namespace Go.Proofs.YtfbnfhhmiiahnaaGreatDoor
open Go Wk
open Go.RowKit (Below)
attribute [local irreducible] Go.Calls
def idx {α:Type} (p:α->Bool) (l:List α):Int:=match l.findIdx? p with|some i=>(i:Int)|none=> -1
theorem Fe {α:Type} {p:α->Bool} {l:List α} {i:Nat} {y:α} (hi:l[i]? =some y) (h: ∀x∈l.take i,p x=false) (hy:p y=true):idx p l=i:=by
 unfold idx;have:l.findIdx? p=some i:=by rw [List.findIdx?_eq_some_iff_getElem];obtain ⟨hlt,rfl⟩:=List.getElem?_eq_some_iff.1 hi;refine ⟨hlt,hy,fun j hj=>?_⟩;have:=h l[j] (by rw [List.mem_iff_getElem?];exact ⟨j,by rw [aav,if_pos hj,adK]⟩);simp [this]
 rw [this]
theorem Ad {α:Type} {p:α->Bool} {l:List α} (h: ∀x∈l,p x=false):idx p l= -1:=by
 unfold idx;have:l.findIdx? p=none:=by rw [List.findIdx?_eq_none_iff];exact h
 rw [this]
theorem Cm {α:Type} {p:α->Bool} {l:List α} {i:Nat} {y:α} (hi:l[i]? =some y) (h: ∀x∈l.take i,p x=false) (hy:p y=false): ∀x∈l.take (i+1),p x=false:=by
 rw [take_snoc hi];intro x hx;rcases List.mem_append.1 hx with hx|hx
 ·exact h x hx
 ·rw [List.mem_singleton.1 hx];exact hy
theorem Ae {Pb:Nat->Prop} {w:World} {v:Value} {l:List Pr} {p:Pr->Bool} {g:FuncId} {cap:Array Value} [hc:oN prog g] (h:RdS rPr 2 Pb w v l)
 (hf: ∀y w',y∈l->New w w'->Calls prog g ([Value.agg (pC y).toArray]++cap.toList).toArray w' (Ret fun r w''=>r=.bool (p y)/\New w' w'')):
 Calls prog 105 #[v,.func (.func g) #[] cap] w (Ret fun r w'=>r=vi (idx p l)/\New w w'):=by
 obtain ⟨a,cp,rfl,hc1,hc2⟩:=h.form;simp only [maxLen] at hc2;refine oI func105 rfl ntmps105 rfl ?_;refine qq4 ?_;refine aC (σ:=Nat) (fun i=>[(0,.slice a l.length cp),(1,.func (.func g) #[] cap),(7,vi l.length),(8,vi i)]) (fun i w'=>i<=l.length/\(∀x∈l.take i,p x=false)/\New w w') (fun i=>l.length-i) 0 (sl rfl) ⟨aoZ _,by simp,aB _ _⟩ ?_;rintro i G w1 ⟨hi,hall,n1⟩;simp only [ql];(repeat' (first|refine qq2 ?_|refine aa2 (fun _=>?_) (fun _=>?_)))
 ·obtain ⟨y,hy⟩:=pz l (k:=i) (by omega);refine dF h n1.keep rfl rfl (by omega) hy fun b o cs hl hR hat=>?_;obtain rfl:cs=pC y:=hR;refine aS hat rfl rfl ?_;refine bU (dst:=some 16) rfl (hf y w1 (apD hy) n1) rfl ?_;rintro _ w2 ⟨rfl,n2⟩;simp only [xH];cases hp:p y with
  |true=>refine qq5 ?_;refine ay rfl rfl ⟨_,rfl,?_,New.trans n1 n2⟩;rw [Fe hy hall hp];rfl
  |false=>refine qq3 ?_;exact aA (i+1) (sl rfl) ⟨by omega,Cm hy hall hp,New.trans n1 n2⟩ (by omega)
 ·have e:i=l.length:=by omega
  subst e;rw [apZ] at hall;refine ay rfl rfl ⟨_,rfl,?_,n1⟩;rw [Ad hall];rfl
theorem yF {α:Type} {p:α->Bool}: ∀(l:List α),match l.findIdx? p with|some i=> ∃y,l[i]? =some y/\l.find? p=some y|none=>l.find? p=none
 | []=>rfl
 |x::r=>by
  have ih:=yF (p:=p) r;rw [List.findIdx?_cons];cases hx:p x
  ·rw [if_neg (by simp)];cases hr:r.findIdx? p with
   |none=>rw [hr] at ih;simp only [Option.map_none];rw [aqv (by simp [hx])];exact ih
   |some i=>rw [hr] at ih;obtain ⟨y,h1,h2⟩:=ih;simp only [adJ];exact ⟨y,by simpa using h1,by rw [aqv (by simp [hx])];exact h2⟩
  ·rw [if_pos (by simp)];exact ⟨x,rfl,aqM (by simp [hx])⟩
theorem Nu {w:World} {b:Nat} {nm:Nm} {p:Pr} (h:Bk w b 9 [vs nm]):
 Calls prog 210 #[.agg (pC p).toArray,.pointer (some ⟨b,0,none⟩)] w (Ret fun r w'=>r=.bool (decide (p.1=nm))/\New w w'):=by
 refine oI func210 rfl ntmps210 rfl ?_;refine qq0 ?_;refine Wl.box rfl fun w1 b1 n1 s1=>?_;replace b1:Bk w1 w.heap.size 70 (pC p):=b1;replace h:=h.chg n1 id;refine qq2 ?_;refine ah (u:=vs p.1) rfl (b1.cell (o:=0) rfl) ?_;refine ah (u:=vs nm) rfl (h.cell (o:=0) rfl) ?_;(repeat' (first|refine qq6 ?_|refine fD rfl rfl (fun _=>?_) (fun _=>?_)))
 ·rw [decide_eq_true (by assumption)];exact ay rfl rfl ⟨_,rfl,rfl,n1⟩
 ·rw [decide_eq_false (by assumption)];exact ay rfl rfl ⟨_,rfl,rfl,n1⟩
theorem CB {Pb:Nat->Prop} {w:World} {pv:Value} {x:Nd} {nm:Nm} (h:RdS rPr 2 Pb w pv x.qj):
 Calls prog 201 #[.agg #[vi x.parent,vs x.name,pv],vs nm] w (Ret fun r w'=>r=Ns (val x.qj nm)/\New w w'):=by
 obtain ⟨a,cap,rfl,hc1,hc2⟩:=h.form;simp only [maxLen] at hc2;refine oI func201 rfl ntmps201 rfl ?_;refine qq0 ?_;refine Wl.box rfl fun w1 b1 n1 s1=>?_;replace b1:Bk w1 w.heap.size 73 [vi x.parent,vs x.name,.slice a x.qj.length cap]:=b1;refine Wl.box rfl fun w2 b2 n2 s2=>?_;replace b2:Bk w2 w1.heap.size 9 [vs nm]:=b2;replace b1:=b1.chg n2 id;replace n2:=New.trans n1 n2;refine qq2 ?_;refine ah (u:=.slice a x.qj.length cap) rfl (b1.cell (o:=2) rfl) ?_;refine dw (f1:=[]) (c1:=[.pointer (some ⟨w1.heap.size,0,none⟩)]) rfl rfl ?_;refine au (Ae (p:=fun p=>decide (p.1=nm)) (g:=210) (cap:= #[.pointer (some ⟨w1.heap.size,0,none⟩)]) (h.keep (pI pC) n2.keep) (fun y w' _ hw=>Nu (b2.chg hw id))) rfl ?_;rintro _ w3 ⟨rfl,n3⟩;have n03:=New.trans n2 n3;have b3:=b1.chg n3 id;have hf:=yF (p:=fun p:Pr=>decide (p.1=nm)) x.qj;unfold val idx;cases hi:x.qj.findIdx? (fun p:Pr=>decide (p.1=nm)) with
 |none=>rw [hi] at hf;dsimp only at hf ⊢;rw [hf];(repeat' (first|refine qq4 ?_|(refine aa2 (fun _=>?_) (fun _=>?_)<;>(first|(exfalso;omega)|skip))));exact aG rfl rfl rfl ⟨_,rfl,rfl,n03⟩
 |some i=>rw [hi] at hf;obtain ⟨y,h1,h2⟩:=hf;rw [h2];have hlt:=(List.getElem?_eq_some_iff.1 h1).1;dsimp only;(repeat' (first|refine qq4 ?_|(refine aa2 (fun _=>?_) (fun _=>?_)<;>(first|(exfalso;omega)|skip))));refine ah (u:=.slice a x.qj.length cap) rfl (b3.cell (o:=2) rfl) ?_;(repeat' (refine aa1 ?_));refine aO (h.keep (pI pC) n03.keep) rfl rfl (by omega) h1 fun b o cs hl hR hat=>?_;obtain rfl:cs=pC y:=hR;(repeat' (refine aa5 ?_));refine ah (u:=vs y.2) rfl (hat.get 1 rfl) ?_;refine qq6 ?_;exact aG rfl rfl rfl ⟨_,rfl,rfl,n03⟩
theorem Nv {w:World} {b:Nat} {nm:Nm} {p:Pr} (h:Bk w b 9 [vs nm]):
 Calls prog 106 #[.agg (pC p).toArray,.pointer (some ⟨b,0,none⟩)] w (Ret fun r w'=>r=.bool (decide (p.1=nm))/\New w w'):=by
 refine oI func106 rfl ntmps106 rfl ?_;refine qq0 ?_;refine Wl.box rfl fun w1 b1 n1 s1=>?_;replace b1:Bk w1 w.heap.size 70 (pC p):=b1;replace h:=h.chg n1 id;refine qq2 ?_;refine ah (u:=vs p.1) rfl (b1.cell (o:=0) rfl) ?_;refine ah (u:=vs nm) rfl (h.cell (o:=0) rfl) ?_;(repeat' (first|refine qq6 ?_|refine fD rfl rfl (fun _=>?_) (fun _=>?_)))
 ·rw [decide_eq_true (by assumption)];exact ay rfl rfl ⟨_,rfl,rfl,n1⟩
 ·rw [decide_eq_false (by assumption)];exact ay rfl rfl ⟨_,rfl,rfl,n1⟩
theorem CG {Pb:Nat->Prop} {w:World} {pv:Value} {x:Nd} {nm:Nm} (h:RdS rPr 2 Pb w pv x.qj):
 Calls prog 79 #[.agg #[vi x.parent,vs x.name,pv],vs nm] w (Ret fun r w'=>r=Ns (val x.qj nm)/\New w w'):=by
 obtain ⟨a,cap,rfl,hc1,hc2⟩:=h.form;simp only [maxLen] at hc2;refine oI func79 rfl ntmps79 rfl ?_;refine qq0 ?_;refine Wl.box rfl fun w1 b1 n1 s1=>?_;replace b1:Bk w1 w.heap.size 73 [vi x.parent,vs x.name,.slice a x.qj.length cap]:=b1;refine Wl.box rfl fun w2 b2 n2 s2=>?_;replace b2:Bk w2 w1.heap.size 9 [vs nm]:=b2;replace b1:=b1.chg n2 id;replace n2:=New.trans n1 n2;refine qq2 ?_;refine ah (u:=.slice a x.qj.length cap) rfl (b1.cell (o:=2) rfl) ?_;refine dw (f1:=[]) (c1:=[.pointer (some ⟨w1.heap.size,0,none⟩)]) rfl rfl ?_;refine au (Ae (p:=fun p=>decide (p.1=nm)) (g:=106) (cap:= #[.pointer (some ⟨w1.heap.size,0,none⟩)]) (h.keep (pI pC) n2.keep) (fun y w' _ hw=>Nv (b2.chg hw id))) rfl ?_;rintro _ w3 ⟨rfl,n3⟩;have n03:=New.trans n2 n3;have b3:=b1.chg n3 id;have hf:=yF (p:=fun p:Pr=>decide (p.1=nm)) x.qj;unfold val idx;cases hi:x.qj.findIdx? (fun p:Pr=>decide (p.1=nm)) with
 |none=>rw [hi] at hf;dsimp only at hf ⊢;rw [hf];(repeat' (first|refine qq4 ?_|(refine aa2 (fun _=>?_) (fun _=>?_)<;>(first|(exfalso;omega)|skip))));exact aG rfl rfl rfl ⟨_,rfl,rfl,n03⟩
 |some i=>rw [hi] at hf;obtain ⟨y,h1,h2⟩:=hf;rw [h2];have hlt:=(List.getElem?_eq_some_iff.1 h1).1;dsimp only;(repeat' (first|refine qq4 ?_|(refine aa2 (fun _=>?_) (fun _=>?_)<;>(first|(exfalso;omega)|skip))));refine ah (u:=.slice a x.qj.length cap) rfl (b3.cell (o:=2) rfl) ?_;(repeat' (refine aa1 ?_));refine aO (h.keep (pI pC) n03.keep) rfl rfl (by omega) h1 fun b o cs hl hR hat=>?_;obtain rfl:cs=pC y:=hR;(repeat' (refine aa5 ?_));refine ah (u:=vs y.2) rfl (hat.get 1 rfl) ?_;refine qq6 ?_;exact aG rfl rfl rfl ⟨_,rfl,rfl,n03⟩
theorem JE (v:List UInt8): ∃n:Nat,(only 0 (form 4 v) (nums 4 v)).1=(n:Int)/\n<4294967296:=by
 unfold only;split
 ·rename_i h
  cases hn:nums 4 v with
  |nil=>exact ⟨0,rfl,by decide⟩
  |cons x r=>
   have hx:x∈nums 4 v:=by rw [hn];simp
   unfold nums at hx;split at hx
   ·unfold pieces at hx;obtain ⟨i,hi,rfl⟩:=List.mem_map.1 hx;refine ⟨_,rfl,?_⟩;have h1:=zX ((v.drop (4*i)).take 4);have h2:256^((v.drop (4*i)).take 4).length<=256^4:=Jw _ _ (by simp only [apb];omega);have h3:(256:Nat)^4=4294967296:=by decide
    omega
   ·simp at hx
 ·exact ⟨0,rfl,by decide⟩
def aez:Option Nat->Value
 |some n=>.tuple #[vi n,vi 0]
 |none=>.tuple #[vi 0,vi 4]
theorem JF {Pb:Nat->Prop} {w:World} {pv:Value} {x:Nd} {nm:Nm} {least dflt:Nat} (h:RdS rPr 2 Pb w pv x.qj) (hx: ∀v,val x.qj nm=some v->v.length<=1024) (h1:least<=2) (h2:dflt<=2):
 Calls prog 209 #[.agg #[vi x.parent,vs x.name,pv],vs nm,.int .u32 least,.int .u32 dflt] w (Ret fun r w'=>r=aez (Nq x.qj nm least dflt)/\New w w'):=by
 obtain ⟨a,cap,rfl,hc1,hc2⟩:=h.form;refine oI func209 rfl ntmps209 rfl ?_;refine qq0 ?_;refine Wl.box rfl fun w1 b1 n1 s1=>?_;replace b1:Bk w1 w.heap.size 73 [vi x.parent,vs x.name,.slice a x.qj.length cap]:=b1;refine qq1 ?_;refine bD b1 rfl rfl ?_;(repeat' (refine aa1 ?_));refine au (CB (x:=x) (nm:=nm) (h.keep (pI pC) n1.keep)) rfl ?_;rintro _ w2 ⟨rfl,n2⟩;have n02:=New.trans n1 n2;unfold Nq;cases hv:val x.qj nm with
 |none=>dsimp only;refine qq5 ?_;refine aG rfl rfl rfl ⟨_,rfl,?_,n02⟩;show Value.tuple #[.int .i64 (IntKind.i64.wrap (dflt:Int)),_]=_;rw [I7 (n:=dflt) rfl (by omega)];rfl
 |some s=>
  have hsl:=hx s hv;dsimp only;refine qq4 ?_;refine au (Gm (l:=s) (by omega)) rfl ?_;rintro _ w3 ⟨rfl,n3⟩;have n03:=New.trans n02 n3;obtain ⟨n,hn,hnl⟩:=JE s;unfold Jz;rw [hn,ao3];(repeat' (first|refine qq6 ?_|refine aa2 (fun _=>?_) (fun _=>?_)|refine aW rfl rfl (fun _=>?_) (fun _=>?_)|refine aa4 (fun _=>?_) (fun _=>?_)))
  ·rw [if_neg (by omega)];exact aG rfl rfl rfl ⟨_,rfl,rfl,n03⟩
  ·rw [if_pos (by omega)];dsimp only;rw [if_neg (by omega)];exact aG rfl rfl rfl ⟨_,rfl,rfl,n03⟩
  ·rw [if_pos (by omega)];dsimp only;rw [if_neg (by omega)];exact aG rfl rfl rfl ⟨_,rfl,rfl,n03⟩
  ·rw [if_pos (by omega)];dsimp only;rw [if_pos (by omega)];refine aG rfl rfl rfl ⟨_,rfl,?_,n03⟩;show Value.tuple #[.int .i64 (IntKind.i64.wrap (n:Int)),_]=_;rw [I7 (n:=n) rfl (by omega)];rfl
def aeA:Option (Nat×Nat)->Value
 |some p=>.tuple #[vi p.1,vi p.2,vi 0]
 |none=>.tuple #[vi 0,vi 0,vi 4]
theorem Em {Pb:Nat->Prop} {w:World} {pv:Value} {x:Nd} (h:RdS rPr 2 Pb w pv x.qj) (hx: ∀nm v,val x.qj nm=some v->v.length<=1024):
 Calls prog 200 #[.agg #[vi x.parent,vs x.name,pv]] w (Ret fun r w'=>r=aeA (xK x.qj)/\New w w'):=by
 obtain ⟨a,cap,rfl,hc1,hc2⟩:=h.form;refine oI func200 rfl ntmps200 rfl ?_;refine qq0 ?_;refine Wl.box rfl fun w1 b1 n1 s1=>?_;replace b1:Bk w1 w.heap.size 73 [vi x.parent,vs x.name,.slice a x.qj.length cap]:=b1;refine qq1 ?_;refine bD b1 rfl rfl ?_;refine au (JF (x:=x) (nm:=Yr) (least:=1) (dflt:=2) (h.keep (pI pC) n1.keep) (hx _) (by decide) (by decide)) rfl ?_;rintro _ w2 ⟨rfl,n2⟩;have n02:=New.trans n1 n2;have b2:=b1.chg n2 id;have e1: ∀o:Option Nat,aez o=.tuple #[vi (o.getD 0:Nat),vi (if o.isSome then 0 else 4)]:=fun o=>by cases o<;>rfl
 rw [e1];refine qq5 ?_;refine bD b2 rfl rfl ?_;refine au (JF (x:=x) (nm:=UO) (least:=0) (dflt:=1) (h.keep (pI pC) n02.keep) (hx _) (by decide) (by decide)) rfl ?_;rintro _ w3 ⟨rfl,n3⟩;have n03:=New.trans n02 n3;rw [e1];unfold xK;cases Nq x.qj Yr 1 2 with
 |none=>(repeat' (first|refine qq5 ?_|(refine aa4 (fun _=>?_) (fun _=>?_)<;>(first|(exfalso;contradiction)|skip))));exact cZ rfl rfl rfl rfl ⟨_,rfl,by cases Nq x.qj UO 0 1<;>rfl,n03⟩
 |some p=>
  cases Nq x.qj UO 0 1 with
  |none=>(repeat' (first|refine qq4 ?_|(refine aa4 (fun _=>?_) (fun _=>?_)<;>(first|(exfalso;contradiction)|skip))));exact cZ rfl rfl rfl rfl ⟨_,rfl,rfl,n03⟩
  |some q=>(repeat' (first|refine qq4 ?_|(refine aa4 (fun _=>?_) (fun _=>?_)<;>(first|(exfalso;contradiction)|skip))));exact cZ rfl rfl rfl rfl ⟨_,rfl,rfl,n03⟩
theorem WB {Pb:Nat->Prop} {w:World} {v:Value} {l:List Nd} {i:Nat} (h:RdS rNd 3 Pb w v l) (hok:pM l=true) (hi:i<l.length):
 Calls prog 188 #[v,vi i] w (Ret fun r w'=>oP (Wk.one viN) 3 1 (fun b=>w.heap.size<=b) NoB w' r (E8 l i)/\New w w'):=by
 obtain ⟨a,cap,rfl,hc1,hc2⟩:=h.form;have hlen:=qo hok;refine oI func188 rfl ntmps188 rfl ?_;refine qq2 ?_;refine aC (σ:=Nat×Value×List Nat) (fun s=>[(0,.slice a l.length cap),(1,vi s.1),(5,s.2.1)]) (fun s w'=>s.1<=i/\s.2.2.length+s.1<=i/\E8 l i=s.2.2++E8 l s.1/\oP (Wk.one viN) 3 1 (fun b=>w.heap.size<=b) NoB w' s.2.1 s.2.2/\New w w') (fun s=>s.1) (i,.slice none 0 0,[]) (sl rfl) ⟨aat _,by simp,by simp,aN,aB _ _⟩ ?_;rintro ⟨k,u,ns⟩ G w1 ⟨hk,hkl,hnm,own,n1⟩;dsimp only at hk hkl hnm own n1;simp only [ql];obtain ⟨p,c,rfl,hp1,hp2⟩:=own.form;(repeat' (first|refine qq2 ?_|refine aW rfl rfl (fun _=>?_) (fun _=>?_)))
 ·obtain ⟨x,hx⟩:=pz l (k:=k) (by omega);have hpl:=vM hok (i:=k) (by omega) (by omega);have hxp:x.parent=(par l k:Int):=by rw [<-hpl.2,zM hx]
  refine bZ (R:=Wk.one viN) (y:=k) qQ own rfl rfl rfl rfl rfl (by omega) (by omega) (by simp only [maxLen];omega) (by omega) rfl rfl fun v' w2 p tC c2 lie=>?_;have n2:New w w2:=Chg.trans n1 c2 fun k hk e=>by have:=(own.lt e).1;omega
  refine qq0 ?_;refine dF h n2.keep rfl rfl (by omega) hx fun b o cs hl hR hat=>?_;obtain ⟨pv',rfl,_⟩:=hR;(repeat' (refine aa5 ?_));refine ah (u:=vi x.parent) rfl (hat.get 0 rfl) ?_;refine qq0 ?_;refine aA (par l k,v',ns++ [k]) ⟨rfl,by rw [hxp];rfl,rfl,trivial⟩ ⟨by dsimp only;omega,by simp;omega,?_,tC.mono qQ.mo (fun b hb e=>by rcases e with e|e;exact e;have:=n1.size;omega) i3,n2⟩ (by dsimp only;omega);rw [hnm,Dn hok (by omega) (by omega)];simp
 ·obtain rfl:k=0:=by omega
  rw [Dl,aqJ] at hnm;rw [hnm];exact ay rfl rfl ⟨_,rfl,own,n1⟩
abbrev w64:Nat->Value:=fun k=>.int .u64 k
theorem UQ {k:Nat} (h:k<18446744073709551616):IntKind.u64.wrap (k:Int)=(k:Int):=D7 rfl (by omega) (by show (k:Int)<2^64;omega)
theorem Bj {a b:Nat} (h:b<=a) (ha:a<18446744073709551616):IntKind.u64.wrap ((a:Int)-(b:Int))=((a-b:Nat):Int):=by
 rw [show (a:Int)-(b:Int)=((a-b:Nat):Int) by omega];exact UQ (by omega)
theorem En {w:World} {a s:Nat} (ha:a<18446744073709551616) (hs:s<18446744073709551616):
 Calls prog 203 #[w64 a,w64 s] w (Ret fun r w'=>r=.bool (fitsW a s)/\w=w'):=by
 unfold fitsW;refine oI func203 rfl ntmps203 rfl ?_;(repeat' (first|refine qq6 ?_|refine bH rfl rfl (fun _=>?_) (fun _=>?_)))
 ·rw [decide_eq_true (.inl (by omega))];exact ay rfl rfl ⟨_,rfl,rfl,rfl⟩
 ·refine fU rfl rfl ?_;rw [show ((s:Int)-1)=(s:Int)-((1:Nat):Int) from rfl,Bj (by omega) hs];refine aQ rfl rfl ?_;refine fU rfl rfl ?_;rw [show ((18446744073709551615:Int)-((s-1:Nat):Int))=((18446744073709551615:Nat):Int)-((s-1:Nat):Int) from rfl,Bj (by omega) (by omega)];(repeat' (first|refine qq4 ?_|refine dW rfl rfl (fun _=>?_) (fun _=>?_)))
  ·rw [decide_eq_true (.inr (by omega))];exact ay rfl rfl ⟨_,rfl,rfl,rfl⟩
  ·rw [decide_eq_false (by omega)];exact ay rfl rfl ⟨_,rfl,rfl,rfl⟩
theorem PI {w:World} {x:Win} {f s:Nat} (h1:x.1<18446744073709551616) (h2:x.2<18446744073709551616) (hf:f<18446744073709551616) (hs:s<18446744073709551616):
 Calls prog 212 #[.agg #[w64 x.1,w64 x.2],w64 f,w64 s] w (Ret fun r w'=>r=.bool (within x f s)/\New w w'):=by
 unfold within;refine oI func212 rfl ntmps212 rfl ?_;refine qq0 ?_;refine Wl.box rfl fun w1 b1 n1 s1=>?_;replace b1:Bk w1 w.heap.size 300 [w64 x.1,w64 x.2]:=b1;refine qq2 ?_;refine ah (u:=w64 x.1) rfl (b1.cell (o:=0) rfl) ?_;(repeat' (first|refine qq4 ?_|refine aV rfl rfl (fun _=>?_) (fun _=>?_)))
 ·refine ah (u:=w64 x.1) rfl (b1.cell (o:=0) rfl) ?_;refine qq5 ?_;refine fU rfl rfl ?_;rw [Bj (by omega) h1];(repeat' (first|refine qq4 ?_|refine aa2 (fun _=>?_) (fun _=>?_)))
  ·refine ah (u:=w64 x.2) rfl (b1.cell (o:=1) rfl) ?_;refine qq5 ?_;refine ah (u:=w64 x.1) rfl (b1.cell (o:=0) rfl) ?_;refine qq5 ?_;refine fU rfl rfl ?_;rw [Bj (by omega) h1];refine aQ rfl rfl ?_;refine fU rfl rfl ?_;rw [Bj (by omega) hs];(repeat' (first|refine qq6 ?_|refine dW rfl rfl (fun _=>?_) (fun _=>?_)))
   ·rw [decide_eq_true (by omega)];exact ay rfl rfl ⟨_,rfl,rfl,n1⟩
   ·rw [decide_eq_false (by omega)];exact ay rfl rfl ⟨_,rfl,rfl,n1⟩
  ·rw [decide_eq_false (by omega)];exact ay rfl rfl ⟨_,rfl,rfl,n1⟩
 ·rw [decide_eq_false (by omega)];exact ay rfl rfl ⟨_,rfl,rfl,n1⟩
end Go.Proofs.YtfbnfhhmiiahnaaGreatDoor
namespace Go.Proofs.YtfbnfhhmiiahnaaGreatDoor.Wk
open Go Go.RowKit
def Gt (ops:Array Oper) (j:Nat):List Nat:=match ops[j]? with|some o=>(o.after.toList.filter (Region.binds .any)).map (·.on)|none=>[]
def uQ (ops:Array Oper) (l:List Nat) (j:Nat):Bool:=(Gt ops j).all fun k=> !l.contains k
def nextQ (ops:Array Oper) (l:List Nat):Option Nat:=l.find? fun i=>isQ ops i&&uQ ops l i
def UR (ops:Array Oper) (i j:Nat):Bool:=(Gt ops j).contains i||(match ops[i]?,ops[j]? with|some oi,some oj=>oi.apart ops oj&&oj.apart ops oi|_,_=>false)
def okG (ops:Array Oper):Bool:=
 Region.noSelect ops&&(abS ops.size).all (fun j=>(abS j).all fun i=>UR ops i j)&&(abS ops.size).all (fun j=>(Gt ops j).all fun k=>decide (k<j))
def out (j:Nat) (l:List Nat):List Nat:=l.filter fun k=>k != j
section
variable {P:Program} {ops:Array Oper} {C:World->Prop} {Q:Exit->Act->World->Prop}
def TG (P:Program) (ops:Array Oper) (C:World->Prop) (Q:Exit->Act->World->Prop):Nat->List Nat->Act->World->Prop
 |0,_,a,w=>Q .normal a w
 |f+1,l,a,w=>match nextQ ops l with
  |some q=> ∃o v,ops[q]? =some o/\YieldsIn P ops C o v a/\TG P ops C Q f (out q l) (a.put o.dst v) w
  |none=> ∀j∈l,uQ ops l j=true->if j+1=ops.size then wpOp P ops Q j (fun a' w'=>Q .normal a' w') a w else wpOp P ops QF j (fun a' w'=>C w'/\TG P ops C Q f (out j l) a' w') a w
theorem JG (i j:Nat) (l:List Nat):out i (out j l)=out j (out i l):=by
 unfold out;rw [aqR,aqR];congr 1;funext k;rw [Bool.and_comm]
theorem xU {i j:Nat} {l:List Nat}:i∈out j l↔i∈l/\i≠j:=by unfold out;rw [aoW];simp
theorem Dp {i j:Nat} {l:List Nat} (h:uQ ops l i=true):uQ ops (out j l) i=true:=by
 unfold uQ at h ⊢;rw [aqS] at h ⊢;intro k hk;have:=h k hk;simp only [aqu,apI,ne_eq,aqT] at this ⊢;exact fun e=>this (xU.1 e).1
theorem Ff {j:Nat} {l:List Nat} (hn:l.Nodup) (hj:j∈l):(out j l).length+1=l.length:=by
 have:out j l=l.erase j:=by unfold out;rw [hn.erase_eq_filter]
 rw [this,List.length_erase_of_mem hj];have:=List.length_pos_of_mem hj;omega
structure Ap (ops:Array Oper) (i j:Nat) (oi oj:Oper):Prop where
 ij:oi.apart ops oj=true
 ji:oj.apart ops oi=true
 si: ∀cs b,oi.op≠ .select cs b
 sj: ∀cs b,oj.op≠ .select cs b
theorem PK (hok:okG ops=true) {l:List Nat} {i j:Nat} {oi oj:Oper} (hi:ops[i]? =some oi) (hj:ops[j]? =some oj) (hil:i∈l) (hjl:j∈l) (ai:uQ ops l i=true) (aj:uQ ops l j=true) (hne:i≠j):Ap ops i j oi oj:=by
 simp only [okG,ao0] at hok;obtain ⟨⟨hns,Jq⟩,_⟩:=hok;have hsel:=Region.noSelect_spec hns;have his:=(Array.getElem?_eq_some_iff.1 hi).1;have hjs:=(Array.getElem?_eq_some_iff.1 hj).1;have key: ∀ {i j:Nat} {oi oj:Oper},ops[i]? =some oi->ops[j]? =some oj->i∈l->uQ ops l j=true->i<j->oi.apart ops oj=true/\oj.apart ops oi=true:=by
  intro i j oi oj hi hj hil aj hij;have hjs:=(Array.getElem?_eq_some_iff.1 hj).1;have h3:=List.all_eq_true.1 (List.all_eq_true.1 Jq j (List.mem_range.2 hjs)) i (List.mem_range.2 hij);unfold UR at h3;simp only [hi,hj,ap6,ao0] at h3;rcases h3 with h3|h3
  ·exfalso;have:=List.all_eq_true.1 aj i (by simpa using h3);rw [List.contains_iff_mem.2 hil] at this;cases this
  ·exact h3
 have sel: ∀ {i:Nat} {o:Oper},ops[i]? =some o-> ∀cs b,o.op≠ .select cs b:=fun h cs b=>hsel _ _ cs b h;rcases Nat.lt_or_ge i j with h|h
 ·have:=key hi hj hil aj h;exact ⟨this.1,this.2,sel hi,sel hj⟩
 ·have:=key hj hi hjl ai (by omega);exact ⟨this.2,this.1,sel hi,sel hj⟩
theorem JH (hok:okG ops=true): ∀(f:Nat) (q:Nat) (oq:Oper),ops[q]? =some oq->isQ ops q=true-> ∀(l:List Nat) (a:Act) (w:World),l.length=f+1->l.Nodup->(∀i∈l,i<ops.size)->q∈l->uQ ops l q=true->
 (TG P ops C Q (f+1) l a w↔ ∃v,YieldsIn P ops C oq v a/\TG P ops C Q f (out q l) (a.put oq.dst v) w):=by
 intro f;induction f with
 |zero=>
  intro q oq hq hqq l a w hl hn hlt hm ha;obtain ⟨x,rfl⟩: ∃x,l=[x]:=by cases l with|nil=>cases hl|cons x r=>cases r with|nil=>exact ⟨x,rfl⟩|cons y s=>simp at hl
  obtain rfl:q=x:=by simpa using hm
  have hnq:nextQ ops [q]=some q:=by simp [nextQ,hqq,ha]
  rw [TG,hnq];simp only [hq,Option.some.injEq];exact ⟨fun ⟨o,v,e,h⟩=>by cases e;exact ⟨v,h⟩,fun ⟨v,h⟩=>⟨oq,v,rfl,h⟩⟩
 |succ f ih=>
  intro q oq hq hqq l a w hl hn hlt hm ha;rw [TG];cases hnq:nextQ ops l with
  |none=>exfalso;have:=List.find?_eq_none.1 hnq q hm;simp [hqq,ha] at this
  |some r=>
   have hr:=aqU hnq;have hrm:=aqr hnq;simp only [ao0] at hr;dsimp only;by_cases hrq:r=q
   ·subst hrq;simp only [hq,Option.some.injEq];exact ⟨fun ⟨o,v,e,h⟩=>by cases e;exact ⟨v,h⟩,fun ⟨v,h⟩=>⟨oq,v,rfl,h⟩⟩
   ·obtain ⟨or',hor⟩: ∃o,ops[r]? =some o:=⟨ops[r]'(hlt r hrm),aaW (hlt r hrm)⟩;have ap:=PK hok hor hq hrm hm hr.2 ha hrq;have hne:=(Oper.apart_spec ap.ij).2.1;have lr:=Ff hn hrm;have lq:=Ff hn hm;have nr:(out r l).Nodup:=hn.filter _;have nq:(out q l).Nodup:=hn.filter _;have e1:=fun a'=>ih q oq hq hqq (out r l) a' w (by omega) nr (fun i hi=>hlt i (xU.1 hi).1) (xU.2 ⟨hm,fun e=>hrq e.symm⟩) (Dp ha);have e2:=fun a'=>ih r or' hor hr.1 (out q l) a' w (by omega) nq (fun i hi=>hlt i (xU.1 hi).1) (xU.2 ⟨hrm,hrq⟩) (Dp hr.2);constructor
    ·rintro ⟨o,vr,eo,hy,ht⟩;rw [hor] at eo;cases eo;obtain ⟨vq,hyq,ht2⟩:=(e1 _).1 ht;refine ⟨vq,(qY ap.ij ap.sj).1 hyq,(e2 _).2 ⟨vr,(qY ap.ji ap.si).2 hy,?_⟩⟩;rw [JG, <-Act.put_comm a vr vq hne];exact ht2
    ·rintro ⟨vq,hyq,ht⟩;obtain ⟨vr,hyr,ht2⟩:=(e2 _).1 ht;refine ⟨or',vr,hor,(qY ap.ji ap.si).1 hyr,(e1 _).2 ⟨vq,(qY ap.ij ap.sj).2 hyq,?_⟩⟩;rw [JG,Act.put_comm a vr vq hne];exact ht2
theorem Yx (hok:okG ops=true) {j:Nat} {oj:Oper} (hj:ops[j]? =some oj) (hjq:isQ ops j=false) (hjl:j+1≠ops.size): ∀(f:Nat) (l:List Nat) (a:Act) (w:World),l.length=f+1->l.Nodup->(∀i∈l,i<ops.size)->j∈l->uQ ops l j=true->
 TG P ops C Q (f+1) l a w->wpOp P ops QF j (fun a' w'=>C w'/\TG P ops C Q f (out j l) a' w') a w:=by
 intro f;induction f with
 |zero=>
  intro l a w hl hn hlt hm ha h;obtain ⟨x,rfl⟩: ∃x,l=[x]:=by cases l with|nil=>cases hl|cons x r=>cases r with|nil=>exact ⟨x,rfl⟩|cons y s=>simp at hl
  obtain rfl:j=x:=by simpa using hm
  have hnq:nextQ ops [j]=none:=by simp [nextQ,hjq]
  rw [TG,hnq] at h;have:=h j (by simp) ha
  rwa [if_neg hjl] at this
 |succ f ih=>
  intro l a w hl hn hlt hm ha h;have h0:=h;rw [TG] at h;cases hnq:nextQ ops l with
  |none=>
   rw [hnq] at h;have:=h j hm ha
   rwa [if_neg hjl] at this
  |some r=>
   have hr:=aqU hnq;have hrm:=aqr hnq;simp only [ao0] at hr;obtain ⟨or',hor⟩: ∃o,ops[r]? =some o:=⟨ops[r]'(hlt r hrm),aaW (hlt r hrm)⟩;have hrj:r≠j:=fun e=>by rw [e,hjq] at hr;cases hr.1
   have ap:=PK hok hor hj hrm hm hr.2 ha hrj;have lr:=Ff hn hrm;have lj:=Ff hn hm;have nr:(out r l).Nodup:=hn.filter _;have nj:(out j l).Nodup:=hn.filter _;obtain ⟨v,hy,ht⟩:=(JH hok (f+1) r or' hor hr.1 l a w hl hn hlt hrm hr.2).1 h0;have hw:=ih (out r l) _ w (by omega) nr (fun i hi=>hlt i (xU.1 hi).1) (xU.2 ⟨hm,fun e=>hrj e.symm⟩) (Dp ha) ht;refine wpOp_mono (fun a' w' h'=>?_) (wpOp_put hj ap.ij ap.si ap.sj hy hw);obtain ⟨hy',hC',ht'⟩:=h';refine ⟨hC',(JH hok f r or' hor hr.1 (out j l) a' w' (by omega) nj (fun i hi=>hlt i (xU.1 hi).1) (xU.2 ⟨hrm,hrj⟩) (Dp hr.2)).2 ⟨v,hy',?_⟩⟩;rw [JG];exact ht'
def aaH (ops:Array Oper):Bool:=okG ops&&(isQ ops (ops.size-1)||(abS ops.size).all fun k=>(ahead ops ops.size [ops.size-1]).contains k)
theorem PL (hok2:aaH ops=true): ∀(fuel:Nat) (listed:Array Bool) (a:Act) (w:World),listed.size=ops.size->(left ops listed).length=fuel->zU ops listed->(fuel≠0->C w)->TG P ops C Q fuel (left ops listed) a w->wpAny P .any ops Q fuel listed a w:=by
 have hok:okG ops=true:=by unfold aaH at hok2;simp only [ao0] at hok2;exact hok2.1
 have hlast:(isQ ops (ops.size-1)||(abS ops.size).all fun k=>(ahead ops ops.size [ops.size-1]).contains k)=true:=by unfold aaH at hok2;simp only [ao0] at hok2;exact hok2.2
 have hdown: ∀(j:Nat) (o:Oper),ops[j]? =some o-> ∀e∈o.after,Region.binds .any e=true->e.on<j:=by
  intro j o ho e he hb;have:=hok;simp only [okG,ao0] at this;have h3:=List.all_eq_true.1 this.2 j (List.mem_range.2 (Array.getElem?_eq_some_iff.1 ho).1);have hm:e.on∈Gt ops j:=by unfold Gt;rw [ho];exact List.mem_map.2 ⟨e,List.mem_filter.2 ⟨by simpa using he,hb⟩,rfl⟩
  exact of_decide_eq_true (List.all_eq_true.1 h3 _ hm)
 have rdy: ∀listed:Array Bool,listed.size=ops.size-> ∀i,i∈Region.ready .any ops listed->i∈left ops listed/\uQ ops (left ops listed) i=true:=by
  intro listed hs i hi;obtain ⟨h0,o,ho,hall⟩:=mem_ready.1 hi;refine ⟨?_,?_⟩
  ·unfold left;rw [aoW,aoV];exact ⟨(Array.getElem?_eq_some_iff.1 ho).1,by simp [h0]⟩
  ·unfold uQ Gt;rw [ho,aqS];intro k hk;obtain ⟨e,he,rfl⟩:=List.mem_map.1 hk;rw [aoW] at he;have h1:=hall e (by simpa using he.1) he.2;simp only [aqu,apI,ne_eq,aqT];intro hm;unfold left at hm;rw [aoW,aoV] at hm;have hlt:e.on<listed.size:=by rw [hs];exact hm.1
   have h2:=hm.2;simp [acf,aaW hlt] at h1 h2;rw [h1] at h2;cases h2
 intro fuel;induction fuel with
 |zero=>intro listed a w hs hl hcl hC h;have hnil:left ops listed=[]:=aoP hl;refine ⟨?_,h⟩;rw [List.eq_nil_iff_forall_not_mem];intro i hi;have:=(rdy listed hs i hi).1;rw [hnil] at this;cases this
 |succ fuel ih=>
  intro listed a w hs hl hcl hC h;replace hC:=hC (by simp);have hnd:(left ops listed).Nodup:=List.Nodup.sublist ao8 List.nodup_range;have Ea: ∀i∈left ops listed,i<ops.size/\listed.getD i true=false:=fun i hi=>by unfold left at hi;rw [aoW,aoV] at hi;exact ⟨hi.1,by simpa using hi.2⟩
  refine ⟨fun h0=>?_,fun j hj=>?_⟩
  ·exfalso;cases hL:left ops listed with
   |nil=>rw [hL] at hl;cases hl
   |cons i l=>
    have hmem:i∈left ops listed:=by rw [hL];simp
    obtain ⟨his,hun⟩:=Ea i hmem;have hall: ∀k,k<i->listed.getD k false=true:=by
     intro k hk;have hks:k<ops.size:=by omega
     cases hb:listed.getD k true with
     |true=>simpa [acf,hs,hks] using hb
     |false=>
      have hkm:k∈left ops listed:=by unfold left;rw [aoW,aoV];exact ⟨hks,by simp [hb]⟩
      have hsort:(left ops listed).Pairwise (· < ·):=List.Pairwise.sublist ao8 List.pairwise_lt_range;rw [hL] at hkm hsort;rcases List.mem_cons.1 hkm with e|e
      ·omega
      ·have:=(List.pairwise_cons.1 hsort).1 k e;omega
    have:i∈Region.ready .any ops listed:=mem_ready.2 ⟨hun,ops[i],aaW his,fun e he hb=>hall e.on (hdown i _ (aaW his) e he hb)⟩;rw [h0] at this;cases this
  ·obtain ⟨hjm,hja⟩:=rdy listed hs j hj;have hjs:=(Ea j hjm).1;have hoj:ops[j]? =some ops[j]:=aaW hjs;have hset:left ops (listed.setIfInBounds j true)=out j (left ops listed):=EX hs hjs;have hlen:=Ff hnd hjm;have hcl':=hcl.set hj;have hlen':(left ops (listed.setIfInBounds j true)).length=fuel:=by rw [hset];omega
   cases hjq:isQ ops j with
   |true=>
    obtain ⟨v,hy,ht⟩:=(JH hok fuel j _ hoj hjq (left ops listed) a w hl hnd (fun i hi=>(Ea i hi).1) hjm hja).1 h;have hrj:readB ops[j].op=true:=by unfold isQ at hjq;rw [hoj] at hjq;exact hjq
    exact ig hoj hy hrj hC (ih _ _ w (by simpa using hs) hlen' hcl' (fun _=>hC) (by rw [hset];exact ht))
   |false=>
    by_cases hjl:j+1=ops.size
    ·have hj1:ops.size-1=j:=by omega
     rw [hj1,hjq,ap7] at hlast;have wX: ∀k,k∈ahead ops ops.size [j]->k=j∨listed.getD k false=true:=wR hcl hj _ _ (by simp);have all: ∀i∈left ops listed,i=j:=fun i hi=>by
      obtain ⟨his,hun⟩:=Ea i hi;rcases wX i (by simpa using List.all_eq_true.1 hlast i (List.mem_range.2 his)) with e|e
      ·exact e
      ·simp [acf,hs,his] at hun e;rw [hun] at e;cases e
     have hL:left ops listed=[j]:=by
      cases hh:left ops listed with
      |nil=>rw [hh] at hl;cases hl
      |cons x r=>
       rw [hh] at all hnd;obtain rfl:=all x (by simp);cases r with
       |nil=>rfl
       |cons y s=>have:=all y (by simp);subst this;exact absurd (by simp) (List.nodup_cons.1 hnd).1
     have hf:fuel=0:=by rw [hL] at hl;simpa using hl.symm
     subst hf;rw [hL] at h hja;have hnq:nextQ ops [j]=none:=by simp [nextQ,hjq]
     rw [TG,hnq] at h;have hw:=h j (by simp) hja;rw [if_pos hjl] at hw;exact wpOp_mono (fun a' w' h'=>ih _ a' w' (by simpa using hs) hlen' hcl' (fun hne=>absurd rfl hne) h') hw
    ·exact yw (fun a' w' h'=>ih _ a' w' (by simpa using hs) hlen' hcl' (fun _=>h'.1) (by rw [hset];exact h'.2)) (Yx hok hoj hjq hjl fuel (left ops listed) a w hl hnd (fun i hi=>(Ea i hi).1) hjm hja h)
end
section
variable {P:Program} {n:Nat} {ds:List Deferred} {Q:Po} {F:Fr} {ops:List Oper} {C:World->Prop} {w:World}
def Wg (P:Program) (n:Nat) (ds:List Deferred) (C:World->Prop) (Q:Po) (ops:List Oper):Nat->List Nat->Fr->World->Prop
 |0,_,F,w=>Q .normal F w
 |f+1,l,F,w=>match nextQ ops.toArray l with
  |some q=> ∃o,ops[q]? =some o/\Wq P n ds C (fun F'=>Wg P n ds C Q ops f (out q l) F' w) ops [o] F
  |none=> ∀j∈l,uQ ops.toArray l j=true-> ∃o,ops[j]? =some o/\(if j+1=ops.length then Wl P n ds Q ops [o] F w else Wl P n ds (fun e F' w'=>e=.normal/\C w'/\Wg P n ds C Q ops f (out j l) F' w') ops [o] F w)
theorem jH {l:List Nat} (h:Q .normal F w):Wg P n ds C Q ops 0 l F w:=h
theorem dK {f q:Nat} {l l':List Nat} {o:Oper} (h:nextQ ops.toArray l=some q) (ho:ops[q]? =some o) (hl:out q l=l') (k:Wq P n ds C (fun F'=>Wg P n ds C Q ops f l' F' w) ops [o] F):Wg P n ds C Q ops (f+1) l F w:=by
 subst hl;rw [Wg,h];exact ⟨o,ho,k⟩
theorem gu {f j:Nat} {l l':List Nat} {o:Oper} (h:nextQ ops.toArray l=none) (hr:l.filter (uQ ops.toArray l)=[j]) (ho:ops[j]? =some o) (hjl:aoX (j+1) ops.length=false) (hl:out j l=l')
 (k:Wl P n ds (fun e F' w'=>e=.normal/\C w'/\Wg P n ds C Q ops f l' F' w') ops [o] F w):Wg P n ds C Q ops (f+1) l F w:=by
 subst hl;rw [Wg,h];intro i hi ha;have hm:i∈l.filter (uQ ops.toArray l):=List.mem_filter.2 ⟨hi,ha⟩;rw [hr] at hm;obtain rfl:i=j:=by simpa using hm
 exact ⟨o,ho,by rw [if_neg (ao9 hjl)];exact k⟩
theorem Wg.two {f j1 j2:Nat} {l l1 l2:List Nat} {o1 o2:Oper} (h:nextQ ops.toArray l=none) (hr:l.filter (uQ ops.toArray l)=[j1,j2]) (ho1:ops[j1]? =some o1) (ho2:ops[j2]? =some o2)
 (ajs:aoX (j1+1) ops.length=false) (ajt:aoX (j2+1) ops.length=false) (hl1:out j1 l=l1) (hl2:out j2 l=l2)
 (k1:Wl P n ds (fun e F' w'=>e=.normal/\C w'/\Wg P n ds C Q ops f l1 F' w') ops [o1] F w) (k2:Wl P n ds (fun e F' w'=>e=.normal/\C w'/\Wg P n ds C Q ops f l2 F' w') ops [o2] F w):Wg P n ds C Q ops (f+1) l F w:=by
 subst hl1;subst hl2;rw [Wg,h];intro i hi ha;have hm:i∈l.filter (uQ ops.toArray l):=List.mem_filter.2 ⟨hi,ha⟩;rw [hr] at hm;have:i=j1∨i=j2:=by simpa using hm
 rcases this with rfl|rfl
 ·exact ⟨o1,ho1,by rw [if_neg (ao9 ajs)];exact k1⟩
 ·exact ⟨o2,ho2,by rw [if_neg (ao9 ajt)];exact k2⟩
theorem JI: ∀(f:Nat) (l:List Nat) (F:Fr) (w:World),Wg P n ds C Q ops f l F w->TG P ops.toArray C (QA n ds Q) f l (act n ds F) w
 |0,l,F,w,h=>⟨F,rfl,h⟩
 |f+1,l,F,w,h=>by
  rw [TG];rw [Wg] at h;cases hq:nextQ ops.toArray l with
  |some q=>
   rw [hq] at h;obtain ⟨o,ho,h⟩:=h;have ho':ops.toArray[q]? =some o:=by simpa using ho
   unfold Wq at h;have hst:qOp P ops.toArray C q (fun a=> ∃F',a=act n ds F'/\Wg P n ds C Q ops f (out q l) F' w) (act n ds F):=by unfold qOp;simp only [ho'];exact h
   obtain ⟨v,hy,F',hF,hw⟩:=yieldsIn_of_qOp ho' hst;refine ⟨o,v,ho',hy,?_⟩;rw [hF];exact JI f (out q l) F' w hw
  |none=>
   rw [hq] at h;intro j hj ha;obtain ⟨o,ho,h⟩:=h j hj ha;have hsz:ops.toArray.size=ops.length:=by simp
   rw [hsz];split
   ·rename_i he
    rw [if_pos he] at h;exact uK ho h
   ·rename_i he
    rw [if_neg he] at h;refine BV ?_ ?_ (uK ho h)
    ·rintro e a' w' hne ⟨F',_,h',_⟩;exact hne h'
    ·rintro a' w' ⟨F',rfl,_,hC,h'⟩;exact ⟨hC,JI f (out j l) F' w' h'⟩
theorem nK {rid m:Nat} (hm:P.follows .mixedOrders=true) (hB:aaH ops.toArray=true) (C:World->Prop) (hC:C w.drew) (hlen:ops.length=m) (h: ∀w',New w w'->Wg P n ds C Q ops m (abS m) F w'):Wc P n ds Q (.region rid ops.toArray true) F w:=by
 subst hlen;unfold Wc;refine wp_region_any hm ?_;have hleft:left ops.toArray (ao1 ops.toArray.size false)=abS ops.length:=by unfold left;simp only [ao4];refine List.filter_eq_self.2 fun k hk=>?_;have:=List.mem_range.1 hk;simp [acf,apa,this]
 have h0:zU ops.toArray (ao1 ops.toArray.size false):=by intro j o hj;exfalso;simp only [acf,apa] at hj;split at hj<;>simp at hj
 refine PL (C:=C) hB _ _ _ _ (by simp) (by rw [hleft];simp) h0 (fun _=>hC) ?_;rw [hleft];have:=JI ops.length (abS ops.length) F w.drew (h _ (Chg.drew _ _));simpa using this
end
attribute [irreducible] Wg
section
variable {P:Program} {n:Nat} {ds:List Deferred} {Q:Po} {F:Fr} {w w':World} {ops rest:List Oper} {d:Nat} {ty:TypeId} {pos:String} {aft:Array Edge}
def JJ (tmps:Array Value):ResultVar->Sem Value
 | .tmp t=>pure (tmps.getD t undef)
 | .cell a t=>do loadVar t (<-asAddr (tmps.getD a undef))
theorem qy {t:Nat} (ht:Nat.blt t n=true):(JJ (arr n F) (.tmp t)).run P w=.ok (F t) w:=by
 simp only [JJ,Sem.run_pure];rw [acf,vF,if_pos (by rwa [Nat.blt_eq] at ht)];rfl
theorem rY {a e sz bytes b:Nat} {z:Value} {T:TypeId} {cs:List Value} [he:ElT P e sz bytes true z] (ht:Nat.blt a n=true) (hF:F a=.pointer (some ⟨b,0,none⟩)) (hb:Bk w b T cs) (hl:cs.length=sz):(JJ (arr n F) (.cell a e)).run P w=.ok (.agg cs.toArray) w:=by
 have e1:(arr n F).getD a undef=.pointer (some ⟨b,0,none⟩):=by rw [acf,vF,if_pos (by rwa [Nat.blt_eq] at ht)];exact hF
 have:=run_loadCells_list (P:=P) w ⟨b,0,none⟩ cs (fun j u hu=>by rw [addr_add,acL];exact hb.cell hu);simp only [JJ,e1];simp [asAddr,loadVar,he.isAgg,he.sizeOf, <-hl,this]
theorem Eo {fn:Func} {tmps:Array Value}:results fn tmps=(do let vs<-fn.results.mapM (JJ tmps);pure (if h:vs.size=1 then vs[0] else .tuple vs)):=by
 unfold results;congr 1
theorem yG {fn:Func} {a:ResultVar} {u:Value} (h:fn.results= #[a]) (h1:(JJ (arr n F) a).run P w=.ok u w):(results fn (arr n F)).run P w=.ok u w:=by
 rw [Eo,h];simp [h1]
theorem rO {fn:Func} {a b:ResultVar} {u v:Value} (h:fn.results= #[a,b]) (h1:(JJ (arr n F) a).run P w=.ok u w) (h2:(JJ (arr n F) b).run P w=.ok v w):(results fn (arr n F)).run P w=.ok (.tuple #[u,v]) w:=by
 rw [Eo,h];simp [h1,h2]
theorem eY {fn:Func} {R:Ending->World->Prop} {v:Value} (h:(results fn (arr n F)).run P w=.ok v w) (k:R (.returned v) w):Qfn P n fn R .ret F w:=by
 unfold Qfn;exact ⟨v,h,k⟩
end
end Go.Proofs.YtfbnfhhmiiahnaaGreatDoor.Wk
namespace Go.Proofs.YtfbnfhhmiiahnaaGreatDoor
open Go Wk
open Go.RowKit (Below)
attribute [local irreducible] Go.Calls
section
variable {P:Program} {n:Nat} {ds:List Deferred} {Q:Po} {F:Fr} {w:World} {ops rest:List Oper} {d:Nat} {ty t t':TypeId} {pos:String} {aft:Array Edge} {x y:Operand} {a b:List UInt8}
theorem kJ (hx:ev n F x=vs a) (hy:ev n F y=vs b) (ht:a<b->Wl P n ds Q ops rest (upd F d (.bool true)) w) (hf: ¬a<b->Wl P n ds Q ops rest (upd F d (.bool false)) w):
 Wl P n ds Q ops (⟨some d,.binOp .lss t x y t',ty,pos,aft,none⟩::rest) F w:=by
 by_cases h:a<b
 ·exact Wl.val (by simp only [execOp,hx,hy,Sem.run_bind,qP,Result.andThen_ok,binOp_string_lss,ByteArray.toList_mk,Sem.run_pure,bytesLess_eq,decide_eq_true h]) (ht h)
 ·exact Wl.val (by simp only [execOp,hx,hy,Sem.run_bind,qP,Result.andThen_ok,binOp_string_lss,ByteArray.toList_mk,Sem.run_pure,bytesLess_eq,decide_eq_false h]) (hf h)
theorem Wk.Wl.aju (hx:ev n F x=vs a) (hy:ev n F y=vs b) (ht:b<a->Wl P n ds Q ops rest (upd F d (.bool true)) w) (hf: ¬b<a->Wl P n ds Q ops rest (upd F d (.bool false)) w):
 Wl P n ds Q ops (⟨some d,.binOp .gtr t x y t',ty,pos,aft,none⟩::rest) F w:=by
 have e:(!(decide (a<b)||a == b))=decide (b<a):=by
  by_cases h:a<b
  ·rw [decide_eq_true h,decide_eq_false (List.lt_asymm h)];rfl
  ·by_cases h2:a=b
   ·subst h2;rw [decide_eq_false h];simp
   ·rw [decide_eq_false h,decide_eq_true (Gs h h2),beq_eq_false_iff_ne.2 h2];rfl
 have r:(execOp (ev n F) ⟨some d,.binOp .gtr t x y t',ty,pos,aft,none⟩).run P w=.ok (.value (.bool (decide (b<a)))) w:=by simp only [execOp,hx,hy,Sem.run_bind,qP,Result.andThen_ok,binOp_string_gtr,ByteArray.toList_mk,Sem.run_pure,bytesLess_eq,e]
 by_cases h:b<a
 ·rw [decide_eq_true h] at r;exact Wl.val r (ht h)
 ·rw [decide_eq_false h] at r;exact Wl.val r (hf h)
end
def Fg (a b:List UInt8):Int:=if a<b then-1 else if b<a then 1 else 0
theorem JL {w:World} {a:List UInt8}:Calls prog 96 #[vs a] w (Ret fun r w'=>r=.bool false/\w=w'):=by
 refine oI func96 rfl ntmps96 rfl ?_;(repeat' (first|refine qq5 ?_|(refine iI rfl rfl (fun _=>?_) (fun _=>?_)<;>(first|(exfalso;contradiction)|skip))))
 all_goals first|contradiction|exact ay rfl rfl ⟨_,rfl,rfl,rfl⟩
theorem xW {w:World} {a b:List UInt8}:Calls prog 66 #[vs a,vs b] w (Ret fun r w'=>r=vi (Fg a b)/\w=w'):=by
 refine oI func66 rfl ntmps66 rfl ?_;refine qq2 ?_;refine au JL rfl ?_;rintro _ _ ⟨rfl,rfl⟩;refine qq2 ?_;refine au JL rfl ?_;rintro _ _ ⟨rfl,rfl⟩;refine qq4 ?_;refine kJ rfl rfl (fun h=>?_) (fun h=>?_)
 ·refine qq4 ?_;refine ay rfl rfl ⟨_,rfl,?_,rfl⟩;unfold Fg;rw [if_pos h];rfl
 ·refine qq2 ?_;refine Wk.Wl.aju rfl rfl (fun h'=>?_) (fun h'=>?_)
  ·refine qq4 ?_;refine ay rfl rfl ⟨_,rfl,?_,rfl⟩;unfold Fg;rw [if_neg h,if_pos h'];rfl
  ·refine qq4 ?_;refine ay rfl rfl ⟨_,rfl,?_,rfl⟩;unfold Fg;rw [if_neg h,if_neg h'];rfl
def zN (a b:Int):Int:=if a<b then-1 else if b<a then 1 else 0
theorem Ih {w:World} {a:Int}:Calls prog 95 #[.int .u8 a] w (Ret fun r w'=>r=.bool false/\w=w'):=by
 refine oI func95 rfl ntmps95 rfl ?_;(repeat' (first|refine qq5 ?_|(refine aa4 (fun _=>?_) (fun _=>?_)<;>(first|(exfalso;omega)|skip))));exact ay rfl rfl ⟨_,rfl,rfl,rfl⟩
theorem zO {w:World} {a b:Int}:Calls prog 65 #[.int .u8 a,.int .u8 b] w (Ret fun r w'=>r=vi (zN a b)/\w=w'):=by
 refine oI func65 rfl ntmps65 rfl ?_;refine qq2 ?_;refine au Ih rfl ?_;rintro _ _ ⟨rfl,rfl⟩;refine qq2 ?_;refine au Ih rfl ?_;rintro _ _ ⟨rfl,rfl⟩;(repeat' (first|refine qq2 ?_|refine aa2 (fun _=>?_) (fun _=>?_)|refine aW rfl rfl (fun _=>?_) (fun _=>?_)))
 ·refine ay rfl rfl ⟨_,rfl,?_,rfl⟩;unfold zN;rw [if_pos (by assumption)];rfl
 ·refine ay rfl rfl ⟨_,rfl,?_,rfl⟩;unfold zN;rw [if_neg (by omega),if_pos (by omega)];rfl
 ·refine ay rfl rfl ⟨_,rfl,?_,rfl⟩;unfold zN;rw [if_neg (by omega),if_neg (by omega)];rfl
theorem Fh {w:World} {a:Int}:Calls prog 197 #[.int .u64 a] w (Ret fun r w'=>r=.bool false/\w=w'):=by
 refine oI func197 rfl ntmps197 rfl ?_;(repeat' (first|refine qq5 ?_|(refine aa4 (fun _=>?_) (fun _=>?_)<;>(first|(exfalso;omega)|skip))));exact ay rfl rfl ⟨_,rfl,rfl,rfl⟩
theorem CJ {w:World} {a b:Int}:Calls prog 181 #[.int .u64 a,.int .u64 b] w (Ret fun r w'=>r=vi (zN a b)/\w=w'):=by
 refine oI func181 rfl ntmps181 rfl ?_;refine qq2 ?_;refine au Fh rfl ?_;rintro _ _ ⟨rfl,rfl⟩;refine qq2 ?_;refine au Fh rfl ?_;rintro _ _ ⟨rfl,rfl⟩;(repeat' (first|refine qq2 ?_|refine aa2 (fun _=>?_) (fun _=>?_)|refine aW rfl rfl (fun _=>?_) (fun _=>?_)))
 ·refine ay rfl rfl ⟨_,rfl,?_,rfl⟩;unfold zN;rw [if_pos (by assumption)];rfl
 ·refine ay rfl rfl ⟨_,rfl,?_,rfl⟩;unfold zN;rw [if_neg (by omega),if_pos (by omega)];rfl
 ·refine ay rfl rfl ⟨_,rfl,?_,rfl⟩;unfold zN;rw [if_neg (by omega),if_neg (by omega)];rfl
def orM:List Int->Int
 | []=>0
 |x::r=>if x=0 then orM r else x
theorem Nw {Pb:Nat->Prop} {w:World} {v:Value} {xs:List Int} (h:RdS (Wk.one vi) 1 Pb w v xs):
 Calls prog 64 #[v] w (Ret fun r w'=>r=vi (orM xs)/\w=w'):=by
 obtain ⟨a,cap,rfl,hc1,hc2⟩:=h.form;simp only [maxLen] at hc2;refine oI func64 rfl ntmps64 rfl ?_;refine qq4 ?_;refine aC (σ:=Nat) (fun i=>[(3,vi 0),(6,.slice a xs.length cap),(7,vi xs.length),(8,vi i)]) (fun i w'=>i<=xs.length/\orM xs=orM (xs.drop i)/\w=w') (fun i=>xs.length-i) 0 (sl rfl) ⟨aoZ _,rfl,rfl⟩ ?_;rintro i G _ ⟨hi,hgo,rfl⟩;simp only [ql];(repeat' (first|refine qq2 ?_|refine aa2 (fun _=>?_) (fun _=>?_)))
 ·obtain ⟨x,hx⟩:=pz xs (k:=i) (by omega);rw [drop_cons hx] at hgo;simp only [orM] at hgo;refine bC h rfl rfl (by omega) hx fun b o hcell=>?_;refine ah (u:=vi x) rfl hcell ?_;(repeat' (first|refine qq4 ?_|refine aa4 (fun _=>?_) (fun _=>?_)))
  ·rw [if_neg (by assumption)] at hgo;rw [hgo];exact ay rfl rfl ⟨_,rfl,rfl,rfl⟩
  ·rw [if_pos (by omega)] at hgo;exact aA (i+1) (sl rfl) ⟨by omega,hgo,rfl⟩ (by omega)
 ·obtain rfl:i=xs.length:=by omega
  rw [aqi] at hgo;rw [hgo];exact ay rfl rfl ⟨_,rfl,rfl,rfl⟩
theorem UU (lv:Nat->Int) (pt:Nat->Nm) (a b:Nat):orM [zN (lv a) (lv b),Fg (pt a) (pt b)]=sH lv pt a b:=by
 unfold sH zN Fg;simp only [orM];split
 ·rfl
 ·split
  ·rfl
  ·rw [if_pos rfl];split
   ·rfl
   ·split<;>rfl
end Go.Proofs.YtfbnfhhmiiahnaaGreatDoor
namespace Go.Proofs.YtfbnfhhmiiahnaaGreatDoor.Wk
open Go Go.RowKit
section
variable {P:Program} {n:Nat} {ds:List Deferred} {Q:Po} {F:Fr} {w w':World} {ops rest:List Oper} {d:Nat} {ty:TypeId} {pos:String} {aft:Array Edge}
theorem nM {x:Operand} {t:TypeId} {s:List UInt8} [ht:Und P t .string] (hx:ev n F x=vs s) (c: ∀w',w'.heap[w.heap.size]? =some (.stringIter ⟨s.toArray⟩ 0)->New w w'->w'.heap.size=w.heap.size+1->Wl P n ds Q ops rest (upd F d (.pointer (some ⟨w.heap.size,0,none⟩))) w'):
 Wl P n ds Q ops (⟨some d,.range t x,ty,pos,aft,none⟩::rest) F w:=by
 refine Wl.val (w':=w.alloc (.stringIter ⟨s.toArray⟩ 0)) (v:=.pointer (some ⟨w.heap.size,0,none⟩)) ?_ (c _ (heap_alloc_new w _) (Chg.alloc _ _ _) (by simp));simp [execOp,hx,Instr.range,run_underlying ht.h]
theorem Wl.aeB {x:Operand} {k q:Nat} {s:List UInt8} (hx:ev n F x=.pointer (some ⟨k,0,none⟩)) (hk:w.heap[k]? =some (.stringIter ⟨s.toArray⟩ q)) (hq:q<s.length)
 (c: ∀w',w'.heap[k]? =some (.stringIter ⟨s.toArray⟩ (q+(Utf8.decode ⟨s.toArray⟩ q).2))->Chg (fun b=>b=k) w w'->Wl P n ds Q ops rest (upd F d (.tuple #[.bool true,vi q,.int .i32 (Utf8.decode ⟨s.toArray⟩ q).1])) w'):Wl P n ds Q ops (⟨some d,.next x true,ty,pos,aft,none⟩::rest) F w:=by
 have hr:=Go.Lib.run_next_any_at (P:=P) w k ⟨s.toArray⟩ q ty hk (by simpa [ByteArray.size] using hq);refine Wl.val (w':=w.iterAt k ⟨s.toArray⟩ (q+(Utf8.decode ⟨s.toArray⟩ q).2)) (v:=.tuple #[.bool true,vi q,.int .i32 (Utf8.decode ⟨s.toArray⟩ q).1]) ?_ (c _ (Go.Lib.iterAt_heap w k _ q _ hk) ⟨rfl,rfl,rfl,by simp [World.iterAt],fun j _ hj=>Go.Lib.iterAt_other w k j _ _ hj⟩);simp only [execOp,hx,Sem.run_bind,hr,Result.andThen_ok,Sem.run_pure]
theorem Wl.aeC {x:Operand} {k q:Nat} {s:List UInt8} (hx:ev n F x=.pointer (some ⟨k,0,none⟩)) (hk:w.heap[k]? =some (.stringIter ⟨s.toArray⟩ q)) (hq:s.length<=q)
 (c:Wl P n ds Q ops rest (upd F d (.tuple #[.bool false])) w):Wl P n ds Q ops (⟨some d,.next x true,ty,pos,aft,none⟩::rest) F w:=by
 have hr:=Go.Lib.run_next_end_at (P:=P) w k ⟨s.toArray⟩ q ty hk (by simp [ByteArray.size];omega);refine Wl.val (w':=w) (v:=.tuple #[.bool false]) ?_ c;simp only [execOp,hx,Sem.run_bind,hr,Result.andThen_ok,Sem.run_pure]
theorem nN {x:Operand} {t t':TypeId} {k:IntKind} {r:Int} {u:TypeDesc} [ht:Und P t u] [ht':Und P t' .string] (hu: ∃k,u=.int k) (hx:ev n F x=.int k r)
 (c:Wl P n ds Q ops rest (upd F d (vs (Utf8.encode r).data.toList)) w):Wl P n ds Q ops (⟨some d,.convert t t' x,ty,pos,aft,none⟩::rest) F w:=by
 obtain ⟨k',rfl⟩:=hu;refine Wl.val ?_ c;have:(⟨(Utf8.encode r).data.toList.toArray⟩:ByteArray)=Utf8.encode r:=by apply ByteArray.ext;simp
 simp only [execOp,hx,Sem.run_bind,convert,run_underlying ht.h,run_underlying ht'.h,Result.andThen_ok,Conv.intToString,Sem.run_pure,vs,this]
end
end Go.Proofs.YtfbnfhhmiiahnaaGreatDoor.Wk
namespace Go.Proofs.YtfbnfhhmiiahnaaGreatDoor
open Go Wk
open Go.RowKit (Below)
attribute [local irreducible] Go.Calls
theorem Gu {l:List UInt8} {c:UInt8}:0<=Lib.indexByte l c↔l.contains c=true:=by
 constructor
 ·intro h;obtain ⟨o,ho⟩:=aoR h;exact List.contains_iff_mem.2 (apD (Lib.indexByte_some ho).1)
 ·intro h;have hge:=Lib.indexByte_ge l c;rcases aqV (Lib.indexByte l c) 0 with h0|h0
  ·obtain ⟨k,hk⟩:=List.mem_iff_getElem?.1 (List.contains_iff_mem.1 h);exact absurd hk (Lib.indexByte_none (show Lib.indexByte l c= -1 by omega) k)
  ·exact h0
def sg8:List UInt8:=[44,46,95,43,45,64,35,63]
theorem Gv:sg8=[44,46,95,43,45,64,35,63]:=rfl
theorem PN: ∀c∈signs,c.toNat<128:=by rw [EY];decide
theorem Dq: ∀c∈sg8,c.toNat<128:=by rw [Gv];decide
theorem SC: ∀q<sg8.length,Utf8.decode ⟨sg8.toArray⟩ q=((sg8.getD q 0).toNat,1):=by
 intro q hq;rw [Lib.decode_N];refine Lib.decodeN_ascii _ _ _ _ _ ?_;have:(sg8.getD q 0)∈sg8:=by rw [apJ,adK hq];exact aqW hq
 exact Dq _ this
theorem JM {w:World} {r:Int}:Calls prog 171 #[.int .i32 r] w (Ret fun v w'=>v=.bool (Lib.validRune r)/\w=w'):=by
 refine (lX r w).mono ?_;rintro e w' ⟨rfl,rfl⟩;exact ⟨_,rfl,rfl,rfl⟩
theorem WC (c:Nat) (hc:128<=c) (e:ByteArray) (he:e=if c<0x80 then ⟨#[aqe c]⟩ else if c<0x800 then ⟨#[aqe (0xC0+c / 64),aqe (0x80+c % 64)]⟩
 else if c<0x10000 then ⟨#[aqe (0xE0+c / 4096),aqe (0x80+c / 64 % 64),aqe (0x80+c % 64)]⟩ else ⟨#[aqe (0xF0+c / 262144),aqe (0x80+c / 4096 % 64),aqe (0x80+c / 64 % 64),aqe (0x80+c % 64)]⟩):
 ∃l k,e.data.toList=l++ [k]/\128<=k.toNat/\1<=l.length/\l.length<=3:=by
 have hb: ∀m,128<=(aqe (0x80+m % 64)).toNat:=fun m=>by rw [aqx];omega
 rw [if_neg (by omega)] at he;split at he
 ·exact ⟨[_],_,by rw [he];rfl,hb c,by simp,by simp⟩
 ·split at he
  ·exact ⟨[_,_],_,by rw [he];rfl,hb c,by simp,by simp⟩
  ·exact ⟨[_,_,_],_,by rw [he];rfl,hb c,by simp,by simp⟩
theorem PO {r:Nat} (h0:128<=r): ∃l c,(Utf8.encode (r:Int)).data.toList=l++ [c]/\128<=c.toNat/\1<=l.length/\l.length<=3:=by
 refine WC (if Utf8.valid (r:Int)=true then ((r:Int)).toNat else Utf8.runeError) ?_ _ rfl;split
 ·simpa using h0
 ·unfold Utf8.runeError;omega
theorem aeD {r:Nat} (h:r<256):IntKind.u8.wrap (r:Int)=((aqe r).toNat:Int):=by
 rw [aqx,IntKind.wrap_u8];omega
set_option maxRecDepth 20000 in
theorem JO {w:World} {r:Nat} (hr:r<=1114111):
 Calls prog 159 #[vs sg8,.int .i32 r] w (Ret fun v w'=>(∃k,v=vi k/\(0<=k↔r<128/\sg8.contains (aqe r)=true))/\New w w'):=by
 have hlen:sg8.length=8:=by rw [Gv];rfl
 refine oI func159 rfl ntmps159 rfl ?_;(repeat' (first|refine qq6 ?_|refine aa2 (fun _=>?_) (fun _=>?_)|(refine dW rfl rfl (fun _=>?_) (fun _=>?_)<;>(first|(exfalso;omega)|skip))|refine bH rfl rfl (fun _=>?_) (fun _=>?_)))
 ·refine au (vY (l:=sg8) (c:=aqe r)) (by rw [<-aeD (by omega)];rfl) ?_;rintro _ _ ⟨rfl,rfl⟩;refine qq1 ?_;refine ay rfl rfl ⟨_,rfl,⟨_,rfl,?_⟩,aB _ _⟩;rw [Gu];exact ⟨fun h=>⟨by omega,h⟩,fun h=>h.2⟩
 ·refine nM rfl fun w1 h1 n1 s1=>?_;refine qq8 ?_;refine aC (σ:=Nat) (fun q=>[(0,vs sg8),(1,.int .i32 r),(175,.pointer (some ⟨w.heap.size,0,none⟩))]) (fun q w'=>q<=sg8.length/\w'.heap[w.heap.size]? =some (.stringIter ⟨sg8.toArray⟩ q)/\New w w') (fun q=>sg8.length-q) 0 (sl rfl) ⟨aoZ _,h1,n1⟩ ?_;rintro q G w2 ⟨hq,h2,n2⟩;simp only [ql];by_cases hlt:q<sg8.length
  ·have hd:=SC q hlt;have ha:=Dq _ (aqW hlt);have hg:(sg8.getD q 0)=sg8[q]:=by rw [apJ,adK hlt];rfl
   refine qq0 ?_;refine Wl.aeB rfl h2 hlt fun w3 h3 c3=>?_;rw [hd,hg] at h3 ⊢;(repeat' (first|refine qq4 ?_|(refine bH rfl rfl (fun _=>?_) (fun _=>?_)<;>(first|(exfalso;omega)|skip))));exact aA (q+1) (sl rfl) ⟨by omega,h3,Chg.trans n2 c3 fun b hb e=>by omega⟩ (by omega)
  ·refine qq0 ?_;refine Wl.aeC rfl h2 (by omega) ?_;refine qq1 ?_;exact ay rfl rfl ⟨_,rfl,⟨-1,rfl,by omega⟩,n2⟩
 ·have h128:128<=r:=by omega
  refine au JM rfl ?_;rintro _ _ ⟨rfl,rfl⟩;cases hv:Lib.validRune (r:Int) with
  |false=>refine qq1 ?_;exact ay rfl rfl ⟨_,rfl,⟨-1,rfl,by omega⟩,aB _ _⟩
  |true=>
   refine qq4 ?_;refine nN ⟨_,rfl⟩ rfl ?_;obtain ⟨el,c,hel,hc,hl1,hl2⟩:=PO h128;rw [hel];clear hel hv;have hlen2:(el++ [c]).length=el.length+1:=by simp
   have hcn:(sg8.drop (el.length+1)).contains c=false:=by rw [apI];intro h;have:=Dq c (List.mem_of_mem_drop (List.contains_iff_mem.1 h));omega
   refine qq2 ?_;refine aC (σ:=Unit) (fun _=>[(0,vs sg8),(7,vs (el++ [c])),(8,vi (((el++ [c]).length:Int)-1)),(9,vi (((el++ [c]).length:Int)-1))]) (fun _ w'=>w'=w) (fun _=>0) () ⟨rfl,rfl,rfl,rfl,trivial⟩ rfl ?_;rintro _ G _ rfl;simp only [ql];obtain ⟨x,hx⟩:=pz sg8 (k:=el.length) (by omega);have hx2:=Dq x (apD hx);have hcl:(el++ [c])[el.length]? =some c:=by rw [List.getElem?_append_right (aat _)];simp
   have e1:(((el++ [c]).length:Int)-1).toNat=el.length:=by omega
   (repeat' (first|refine qq2 ?_|(refine aa2 (fun _=>?_) (fun _=>?_)<;>(first|(exfalso;omega)|skip))));refine fG rfl (by kernel_rfl) ?_;(repeat' (refine aa3 ?_));refine jG (l:=sg8) rfl rfl (by omega) (c:=x) (by rw [e1];exact hx) ?_;(repeat' (refine aa3 ?_));refine jG (l:=el++ [c]) rfl rfl (by omega) (c:=c) (by rw [e1];exact hcl) ?_;(repeat' (first|refine qq7 ?_|(refine iZ rfl rfl (fun _=>?_) (fun _=>?_)<;>(first|(exfalso;omega)|skip))));intro w1 n1;refine qq1 ?_;refine fG rfl (by kernel_rfl) ?_;(repeat' (first|refine aa3 ?_|refine Wq.add rfl rfl (by omega) (by omega) ?_));refine lM (l:=sg8) rfl rfl (by omega) (by omega) ?_;rw [show (((el++ [c]).length:Int)-1+1).toNat=el.length+1 by omega];(repeat' (refine aa3 ?_));refine jG (l:=el++ [c]) rfl rfl (by omega) (c:=c) (by rw [e1];exact hcl) ?_;refine Wq.call (v:=vi (Lib.indexByte (sg8.drop (el.length+1)) c)) (fun w' hw=>(vY (l:=sg8.drop (el.length+1)) (c:=c)).mono ?_) rfl ?_
   ·rintro _ w'' ⟨r',rfl,rfl,rfl⟩;exact ⟨rfl,hw⟩
   refine qq7 ?_;intro w2 n2;have hneg:Lib.indexByte (sg8.drop (el.length+1)) c<0:=by
    rcases aqV (Lib.indexByte (sg8.drop (el.length+1)) c) 0 with h|h
    ·exact h
    ·rw [Gu,hcn] at h;cases h
   (repeat' (first|refine qq5 ?_|(refine aa2 (fun _=>?_) (fun _=>?_)<;>(first|(exfalso;omega)|skip))));exact ay rfl rfl ⟨_,rfl,⟨-1,rfl,by omega⟩,New.trans n1 n2⟩
def KU (r:Nat):Bool:=decide (r<128)&&sg8.contains (aqe r)
theorem wz {w:World} {r:Nat} (hr:r<=1114111):
 Calls prog 138 #[vs sg8,.int .i32 r] w (Ret fun v w'=>v=.bool (KU r)/\New w w'):=by
 refine oI func138 rfl ntmps138 rfl ?_;refine qq2 ?_;refine au (JO hr) rfl ?_;rintro _ w1 ⟨⟨k,rfl,hk⟩,n1⟩;unfold KU;(repeat' (first|refine qq6 ?_|refine aV rfl rfl (fun _=>?_) (fun _=>?_)))
 ·have h:=hk.1 (by omega);refine ay rfl rfl ⟨_,rfl,?_,n1⟩;rw [decide_eq_true h.1,h.2];rfl
 ·have h: ¬(r<128/\sg8.contains (aqe r)=true):=fun e=>by have:=hk.2 e;omega
  refine ay rfl rfl ⟨_,rfl,?_,n1⟩;by_cases h1:r<128
  ·have h2:sg8.contains (aqe r)=false:=by rw [apI];exact fun e=>h ⟨h1,e⟩
   rw [h2,aqy];rfl
  ·rw [decide_eq_false h1];rfl
def sgB (r:Nat):Bool:=decide (r<128)&&signs.contains (aqe r)
theorem UW: ∀r,r<128->sgB r=(decide (97<=r/\r<=122)||decide (48<=r/\r<=57)||KU r):=by
 unfold sgB KU;rw [EY,Gv];decide+kernel
theorem UX {r:Nat} (h:128<=r):sgB r=false/\KU r=false:=by
 unfold sgB KU;rw [decide_eq_false (by omega)];exact ⟨rfl,rfl⟩
theorem Yy {r:Nat} (h:97<=r/\r<=122∨48<=r/\r<=57):sgB r=true:=by
 rw [UW r (by omega)];rcases h with h|h
 ·rw [decide_eq_true h];rfl
 ·rw [decide_eq_true h,aqX];rfl
theorem Ny {r:Nat} (h1: ¬(97<=r/\r<=122)) (h2: ¬(48<=r/\r<=57)):sgB r=KU r:=by
 by_cases h:r<128
 ·rw [UW r h,decide_eq_false h1,decide_eq_false h2];rfl
 ·rw [(UX (by omega)).1,(UX (by omega)).2]
theorem Yz {w:World} {r:Nat} (hr:r<=1114111):
 Calls prog 137 #[.int .i32 r] w (Ret fun v w'=>v=.bool (!sgB r)/\New w w'):=by
 refine oI func137 rfl ntmps137 rfl ?_;(repeat' (first|refine qq5 ?_|(refine dW rfl rfl (fun _=>?_) (fun _=>?_)<;>(first|(exfalso;omega)|skip))|(refine aV rfl rfl (fun _=>?_) (fun _=>?_)<;>(first|(exfalso;omega)|skip))))
 rotate_left 3
 ·refine au (wz hr) (by unfold vs;rw [Gv];rfl) ?_;rintro _ w1 ⟨rfl,n1⟩;rw [Ny (by omega) (by omega)];cases KU r
  all_goals
   refine qq4 ?_;exact ay rfl rfl ⟨_,rfl,rfl,n1⟩
 ·refine au (wz hr) (by unfold vs;rw [Gv];rfl) ?_;rintro _ w1 ⟨rfl,n1⟩;rw [Ny (by omega) (by omega)];cases KU r
  all_goals
   refine qq4 ?_;exact ay rfl rfl ⟨_,rfl,rfl,n1⟩
 ·exact ay rfl rfl ⟨_,rfl,by rw [Yy (.inl (by omega))];rfl,aB _ _⟩
 ·refine au (wz hr) (by unfold vs;rw [Gv];rfl) ?_;rintro _ w1 ⟨rfl,n1⟩;rw [Ny (by omega) (by omega)];cases KU r
  all_goals
   refine qq4 ?_;exact ay rfl rfl ⟨_,rfl,rfl,n1⟩
 ·exact ay rfl rfl ⟨_,rfl,by rw [Yy (.inr (by omega))];rfl,aB _ _⟩
theorem YA {n b0 b1 b2 b3:Nat} (h:128<=b0):128<=(Lib.decodeN n b0 b1 b2 b3).1:=by
 unfold Lib.decodeN;rw [if_neg (by omega)]
 repeat' split
 all_goals (dsimp only;omega)
theorem LX (s:List UInt8): ∀(f q:Nat),s.length<=q+f->(Lib.idxFuncFrom (fun r=> !sgB r) true ⟨s.toArray⟩ f q<0↔(s.drop q).all (fun c=>signs.contains c)=true)
 |0,q,h=>by rw [aqo (by omega)];simp [Lib.idxFuncFrom]
 |f+1,q,h=>by
  unfold Lib.idxFuncFrom;by_cases hq:q<s.length
  ·rw [if_pos (by simpa [ByteArray.size] using hq)];obtain ⟨c,hc⟩:=pz s hq;have hg:s.getD q 0=c:=by rw [apJ,hc];rfl
   have hd:Utf8.decode ⟨s.toArray⟩ q=Lib.decodeN (s.length-q) c.toNat (s.getD (q+1) 0).toNat (s.getD (q+2) 0).toNat (s.getD (q+3) 0).toNat:=by have:=Lib.decode_N ⟨s.toArray⟩ q;simp only [hg] at this;exact this
   rw [hd,drop_cons hc,aqN];by_cases h128:c.toNat<128
   ·rw [Lib.decodeN_ascii _ _ _ _ _ h128];have hs:sgB c.toNat=signs.contains c:=by unfold sgB;rw [decide_eq_true h128,aqf];congr 1;apply UInt8.toNat_inj.1;rw [aqx];omega
    cases hsc:signs.contains c with
    |true=>rw [if_neg (by rw [hs,hsc];simp),aqf];exact LX s f (q+1) (by omega)
    |false=>rw [if_pos (by rw [hs,hsc];rfl),aqg];exact ⟨fun e=>by omega,fun e=>by cases e⟩
   ·have hbig:=YA (n:=s.length-q) (b0:=c.toNat) (b1:=(s.getD (q+1) 0).toNat) (b2:=(s.getD (q+2) 0).toNat) (b3:=(s.getD (q+3) 0).toNat) (by omega);have hs:sgB (Lib.decodeN (s.length-q) c.toNat (s.getD (q+1) 0).toNat (s.getD (q+2) 0).toNat (s.getD (q+3) 0).toNat).1=false:=by unfold sgB;rw [decide_eq_false (by omega),aqg]
    have hsc:signs.contains c=false:=by rw [apI];intro e;exact h128 (PN c (List.contains_iff_mem.1 e))
    rw [if_pos (by rw [hs];rfl),hsc,aqg];exact ⟨fun e=>by omega,fun e=>by cases e⟩
  ·rw [if_neg (by simpa [ByteArray.size] using hq),aqo (by omega)];simp
theorem Gw {w:World} {s:List UInt8}:Calls prog 111 #[vs s] w (Ret fun r w'=>r=.bool (qK s)/\New w w'):=by
 refine oI func111 rfl ntmps111 rfl ?_;unfold qK;(repeat' (first|refine qq6 ?_|refine dW rfl rfl (fun _=>?_) (fun _=>?_)|refine iI rfl rfl (fun _=>?_) (fun _=>?_)))
 ·rename_i hne hle
  refine bU (dst:=some 12) (first:= #[]) (cap:= #[]) (vs:=[vs s,.func (.func 137) #[] #[]]) (φ:=fun r w'=>r=vi (Lib.idxFunc (fun r=> !sgB r) true ⟨s.toArray⟩)/\New w w') rfl ?_ rfl ?_
  ·have eg: ∀args w,(callFunc 137 args).run prog w=.ok (.enter 137 args) w:=fun args w=>rE inferInstance args;refine (mX 137 #[] eg (fun r=> !sgB r) ⟨s.toArray⟩ w ?_).mono ?_
   ·intro W x hx hb;refine (Yz (w:=W) hx).mono ?_;rintro e w' ⟨v,rfl,rfl,n⟩;exact ⟨rfl,n.below⟩
   ·rintro e w' ⟨rfl,hb⟩;exact ⟨_,rfl,rfl,jW hb⟩
  ·rintro _ w1 ⟨rfl,n1⟩;have hi:=LX s s.length 0 (by omega);rw [apk] at hi;have hd:decide (s≠ []/\s.length<=31)=true:=decide_eq_true ⟨hne,by omega⟩;have hf:Lib.idxFunc (fun r=> !sgB r) true ⟨s.toArray⟩=Lib.idxFuncFrom (fun r=> !sgB r) true ⟨s.toArray⟩ s.length 0:=rfl;rw [hd,aqf];rw [hf];show Wl _ _ _ _ _ _ (upd _ 12 _) _;(repeat' (first|refine qq6 ?_|refine aa2 (fun _=>?_) (fun _=>?_)))
   ·rw [hi.1 (by assumption)];exact ay rfl rfl ⟨_,rfl,rfl,n1⟩
   ·have:(s.all fun c=>signs.contains c)=false:=by rw [apI];intro e;have:=hi.2 e;omega
    rw [this];exact ay rfl rfl ⟨_,rfl,rfl,n1⟩
 ·rw [decide_eq_false (by omega)];exact ay rfl rfl ⟨_,rfl,rfl,aB _ _⟩
 ·rename_i h
  rw [decide_eq_false (by simp [h])];exact ay rfl rfl ⟨_,rfl,rfl,aB _ _⟩
def cdC (c:Cd) (v:Value):List Value:=[vs c.name,vs c.family,.int .u8 c.level,v,.int .i8 c.score,vs c.wJ,.int .i16 c.entry]
def rCd:Rel Cd:=fun Pb w c cs=> ∃v,cs=cdC c v/\RdS (Wk.one vs) 1 Pb w v c.compat
theorem rG:Stable rCd:=fun _ _ _ _ _ hk ⟨v,e,h⟩=>⟨v,e,h.keep (pF _) hk⟩
theorem SG:BR rCd:=fun _ _ _ _ _ hP ⟨v,e,h⟩=>⟨v,e,h.mono (pq _) hP⟩
theorem YB:rF rCd 7:=⟨rG,SG,fun Pb w x cs ⟨v,e,h⟩ _ c hc=>by
 subst e;obtain ⟨a,cap,rfl,_⟩:=h.form;simp [cdC] at hc;rcases hc with rfl|rfl|rfl|rfl|rfl|rfl|rfl<;>rfl⟩
theorem PS {Pb:Nat->Prop} {w:World} {v:Value} {xs:List Nm} {s:Nm} (h:RdS (Wk.one vs) 1 Pb w v xs):
 Calls prog 54 #[v,vs s] w (Ret fun r w'=>(∃k,r=vi k/\(0<=k↔xs.contains s=true))/\w=w'):=by
 obtain ⟨a,cap,rfl,hc1,hc2⟩:=h.form;simp only [maxLen] at hc2;refine oI func54 rfl ntmps54 rfl ?_;refine qq4 ?_;refine aC (σ:=Nat) (fun i=>[(0,.slice a xs.length cap),(1,vs s),(7,vi xs.length),(8,vi i)]) (fun i w'=>i<=xs.length/\xs.contains s=(xs.drop i).contains s/\w=w') (fun i=>xs.length-i) 0 (sl rfl) ⟨aoZ _,by simp,rfl⟩ ?_;rintro i G _ ⟨hi,hv,rfl⟩;simp only [ql];(repeat' (first|refine qq2 ?_|refine aa2 (fun _=>?_) (fun _=>?_)))
 ·obtain ⟨x,hx⟩:=pz xs (k:=i) (by omega);rw [drop_cons hx,List.contains_cons] at hv;refine bC h rfl rfl (by omega) hx fun b o hcell=>?_;refine ah (u:=vs x) rfl hcell ?_;(repeat' (first|refine qq4 ?_|refine fD rfl rfl (fun _=>?_) (fun _=>?_)))
  ·refine ay rfl rfl ⟨_,rfl,⟨_,rfl,?_⟩,rfl⟩
   rename_i e
   rw [hv,beq_iff_eq.2 e,Bool.true_or];exact ⟨fun _=>rfl,fun _=>by omega⟩
  ·rename_i e
   have:(s == x)=false:=beq_false_of_ne e;exact aA (i+1) (sl rfl) ⟨by omega,by rw [hv,this,ap7],rfl⟩ (by omega)
 ·obtain rfl:i=xs.length:=by omega
  rw [aqi] at hv;refine ay rfl rfl ⟨_,rfl,⟨-1,rfl,?_⟩,rfl⟩;rw [hv];exact ⟨fun e=>by omega,fun e=>by simp at e⟩
theorem yH {Pb:Nat->Prop} {w:World} {v:Value} {xs:List Nm} {s:Nm} (h:RdS (Wk.one vs) 1 Pb w v xs):
 Calls prog 34 #[v,vs s] w (Ret fun r w'=>r=.bool (xs.contains s)/\w=w'):=by
 refine oI func34 rfl ntmps34 rfl ?_;refine qq2 ?_;refine au (PS (s:=s) h) rfl ?_;rintro _ _ ⟨⟨k,rfl,hk⟩,rfl⟩;(repeat' (first|refine qq6 ?_|refine aV rfl rfl (fun _=>?_) (fun _=>?_)))
 ·rw [hk.1 (by omega)];exact ay rfl rfl ⟨_,rfl,rfl,rfl⟩
 ·have:xs.contains s=false:=by rw [apI];exact fun e=>by have:=hk.2 e;omega
  rw [this];exact ay rfl rfl ⟨_,rfl,rfl,rfl⟩
theorem PU {c:Cd} (h:Nl c=true):qK c.name=true/\qK c.family=true/\(c.wJ=[]∨qK c.wJ=true)/\c.level<=4/\ -100<=c.score/\c.score<=100/\ -1<=c.entry/\c.entry<=47/\0<c.compat.length/\c.compat.length<=8/\Ec c.compat 0 c.compat=true:=by
 unfold Nl at h;simp only [ao0,decide_eq_true_eq,ap6] at h;exact ⟨h.1,h.2.1,h.2.2.1,h.2.2.2.1,h.2.2.2.2.1.1,h.2.2.2.2.1.2,h.2.2.2.2.2.1.1,h.2.2.2.2.2.1.2,h.2.2.2.2.2.2.1.1,h.2.2.2.2.2.2.1.2,h.2.2.2.2.2.2.2⟩
theorem aaK {c:Cd} (h1:qK c.name=true) (h2:qK c.family=true) (h3:c.wJ=[]∨qK c.wJ=true) (h4:c.level<=4/\ -100<=c.score/\c.score<=100/\ -1<=c.entry/\c.entry<=47/\0<c.compat.length/\c.compat.length<=8):Nl c=Ec c.compat 0 c.compat:=by
 unfold Nl;rw [h1,h2,decide_eq_true h4.1,decide_eq_true (p:= -100<=c.score/\c.score<=100) ⟨h4.2.1,h4.2.2.1⟩,decide_eq_true (p:= -1<=c.entry/\c.entry<=47) ⟨h4.2.2.2.1,h4.2.2.2.2.1⟩,decide_eq_true (p:=0<c.compat.length/\c.compat.length<=8) h4.2.2.2.2.2];have:(decide (c.wJ=[])||qK c.wJ)=true:=by
  rcases h3 with h3|h3
  ·rw [decide_eq_true h3];rfl
  ·rw [h3,aqX]
 rw [this];rfl
theorem um {c:Cd} (h: ¬(qK c.name=true/\qK c.family=true/\(c.wJ=[]∨qK c.wJ=true)/\c.level<=4/\ -100<=c.score/\c.score<=100/\ -1<=c.entry/\c.entry<=47/\0<c.compat.length/\c.compat.length<=8)):Nl c=false:=by
 rw [apI];intro e;obtain ⟨h1,h2,h3,h4,h5,h6,h7,h8,h9,h10,_⟩:=PU e;exact h ⟨h1,h2,h3,h4,h5,h6,h7,h8,h9,h10⟩
theorem WE {Pb:Nat->Prop} {w:World} {v:Value} {c:Cd} (h:RdS (Wk.one vs) 1 Pb w v c.compat):
 Calls prog 82 #[.agg (cdC c v).toArray] w (Ret fun r w'=>r=.bool (Nl c)/\New w w'):=by
 obtain ⟨a,cap,rfl,hc1,hc2⟩:=h.form;simp only [maxLen] at hc2;refine oI func82 rfl ntmps82 rfl ?_;refine aP ?_;(repeat' (refine aU ?_));refine Wl.box rfl fun w1 b1 n1 s1=>?_;replace b1:Bk w1 w.heap.size 79 (cdC c (.slice a c.compat.length cap)):=b1;(repeat' (first|refine aa7 ?_|refine ak ?_|refine aT ?_));refine eX (fun F W=>agrees F [(1,.pointer (some ⟨w.heap.size,0,none⟩))]/\Bk W w.heap.size 79 (cdC c (.slice a c.compat.length cap))/\New w W/\qK c.name=true/\qK c.family=true/\(c.wJ=[]∨qK c.wJ=true)/\c.level<=4/\ -100<=c.score/\c.score<=100/\ -1<=c.entry/\c.entry<=47) ?_ ?_
 ·(repeat' (first|refine aP ?_|refine aU ?_|refine aa5 ?_));refine ah (u:=vs c.name) rfl (b1.cell (o:=0) rfl) ?_;refine au (Gw (s:=c.name)) rfl ?_;rintro _ w2 ⟨rfl,n2⟩;replace b1:=b1.chg n2 id;replace n2:=New.trans n1 n2;clear n1;cases h1:qK c.name
  ·(repeat' (first|refine aa1 ?_|refine aa7 ?_|refine ak ?_|refine dG rfl rfl ?_|refine iG rfl ?_|refine dN rfl (by conv=>{lhs;whnf}) ?_|refine dn rfl ?_|refine aT ?_|refine aP ?_|refine aU ?_|refine dY ?_|refine bT rfl ?_|refine fP ?_));rw [um (fun e=>by rw [h1] at e;cases e.1)];exact ay rfl rfl ⟨_,rfl,rfl,n2⟩
  (repeat' (first|refine aa1 ?_|refine aQ rfl rfl ?_|refine dn rfl ?_|refine aa5 ?_));refine ah (u:=vs c.family) rfl (b1.cell (o:=1) rfl) ?_;refine aQ rfl rfl ?_;refine au (Gw (s:=c.family)) rfl ?_;rintro _ w3 ⟨rfl,n3⟩;replace b1:=b1.chg n3 id;replace n3:=New.trans n2 n3;clear n2;cases h2:qK c.family
  ·(repeat' (first|refine aa1 ?_|refine aa7 ?_|refine ak ?_|refine aQ rfl rfl ?_|refine dG rfl rfl ?_|refine iG rfl ?_|refine dN rfl (by conv=>{lhs;whnf}) ?_|refine aa9 ?_|refine dn rfl ?_|refine aT ?_|refine aP ?_|refine aU ?_|refine dY ?_|refine bT rfl ?_|refine fP ?_));rw [um (fun e=>by rw [h2] at e;cases e.2.1)];exact ay rfl rfl ⟨_,rfl,rfl,n3⟩
  (repeat' (first|refine aa1 ?_|refine aQ rfl rfl ?_|refine aa9 ?_|refine dn rfl ?_|refine aa5 ?_));refine ah (u:=vs c.wJ) rfl (b1.cell (o:=5) rfl) ?_;(repeat' (first|refine aa1 ?_|refine aQ rfl rfl ?_|refine dG rfl rfl ?_|refine aa9 ?_|refine aa5 ?_|refine iI rfl rfl (fun _=>?_) (fun _=>?_)))
  ·refine ah (u:=vs c.wJ) rfl (b1.cell (o:=5) rfl) ?_;refine aQ rfl rfl ?_;refine au (Gw (s:=c.wJ)) rfl ?_;rintro _ w4 ⟨rfl,n4⟩;replace b1:=b1.chg n4 id;replace n4:=New.trans n3 n4;clear n3;cases h3:qK c.wJ
   ·(repeat' (first|refine aa1 ?_|refine aa7 ?_|refine ak ?_|refine aQ rfl rfl ?_|refine dG rfl rfl ?_|refine dN rfl (by conv=>{lhs;whnf}) ?_|refine aa9 ?_|refine dn rfl ?_|refine aT ?_|refine aP ?_|refine aU ?_|refine dY ?_|refine bT rfl ?_|refine fP ?_))
    rename_i hq
    rw [um (fun e=>by
     rcases e.2.2.1 with e|e
     ·exact hq e
     ·rw [h3] at e;cases e)]
    exact ay rfl rfl ⟨_,rfl,rfl,n4⟩
   (repeat' (first|refine aa1 ?_|refine aQ rfl rfl ?_|refine dN rfl (by conv=>{lhs;whnf}) ?_|refine aa9 ?_|refine dn rfl ?_|refine aa5 ?_));refine ah (u:=.int .u8 c.level) rfl (b1.cell (o:=2) rfl) ?_;(repeat' (first|refine qq9 ?_|refine aW rfl rfl (fun _=>?_) (fun _=>?_)))
   ·rw [um (fun e=>by omega)];exact ay rfl rfl ⟨_,rfl,rfl,n4⟩
   refine ah (u:=.int .i8 c.score) rfl (b1.cell (o:=4) rfl) ?_;(repeat' (first|refine qq9 ?_|refine aa2 (fun _=>?_) (fun _=>?_)))
   ·rw [um (fun e=>by omega)];exact ay rfl rfl ⟨_,rfl,rfl,n4⟩
   refine ah (u:=.int .i8 c.score) rfl (b1.cell (o:=4) rfl) ?_;(repeat' (first|refine qq9 ?_|refine aW rfl rfl (fun _=>?_) (fun _=>?_)))
   ·rw [um (fun e=>by omega)];exact ay rfl rfl ⟨_,rfl,rfl,n4⟩
   refine ah (u:=.int .i16 c.entry) rfl (b1.cell (o:=6) rfl) ?_;(repeat' (first|refine qq9 ?_|refine aa2 (fun _=>?_) (fun _=>?_)))
   ·rw [um (fun e=>by omega)];exact ay rfl rfl ⟨_,rfl,rfl,n4⟩
   refine ah (u:=.int .i16 c.entry) rfl (b1.cell (o:=6) rfl) ?_;(repeat' (first|refine aa7 ?_|refine ak ?_|refine aQ rfl rfl ?_|refine aa9 ?_|refine aT ?_|refine aP ?_|refine aU ?_|refine Wc.skip ?_|refine dY ?_|refine bT rfl ?_|refine dm rfl ?_|refine fP ?_|refine aW rfl rfl (fun _=>?_) (fun _=>?_)))
   ·rw [um (fun e=>by omega)];exact ay rfl rfl ⟨_,rfl,rfl,n4⟩
   exact cO ⟨⟨rfl,trivial⟩,b1,n4,rfl,rfl,.inr rfl,by omega,by omega,by omega,by omega,by omega⟩
  ·rename_i hq
   refine ah (u:=.int .u8 c.level) rfl (b1.cell (o:=2) rfl) ?_;(repeat' (first|refine qq9 ?_|refine aW rfl rfl (fun _=>?_) (fun _=>?_)))
   ·rw [um (fun e=>by omega)];exact ay rfl rfl ⟨_,rfl,rfl,n3⟩
   refine ah (u:=.int .i8 c.score) rfl (b1.cell (o:=4) rfl) ?_;(repeat' (first|refine qq9 ?_|refine aa2 (fun _=>?_) (fun _=>?_)))
   ·rw [um (fun e=>by omega)];exact ay rfl rfl ⟨_,rfl,rfl,n3⟩
   refine ah (u:=.int .i8 c.score) rfl (b1.cell (o:=4) rfl) ?_;(repeat' (first|refine qq9 ?_|refine aW rfl rfl (fun _=>?_) (fun _=>?_)))
   ·rw [um (fun e=>by omega)];exact ay rfl rfl ⟨_,rfl,rfl,n3⟩
   refine ah (u:=.int .i16 c.entry) rfl (b1.cell (o:=6) rfl) ?_;(repeat' (first|refine qq9 ?_|refine aa2 (fun _=>?_) (fun _=>?_)))
   ·rw [um (fun e=>by omega)];exact ay rfl rfl ⟨_,rfl,rfl,n3⟩
   refine ah (u:=.int .i16 c.entry) rfl (b1.cell (o:=6) rfl) ?_;(repeat' (first|refine aa7 ?_|refine ak ?_|refine aQ rfl rfl ?_|refine aa9 ?_|refine aT ?_|refine aP ?_|refine aU ?_|refine Wc.skip ?_|refine dY ?_|refine bT rfl ?_|refine dm rfl ?_|refine fP ?_|refine aW rfl rfl (fun _=>?_) (fun _=>?_)))
   ·rw [um (fun e=>by omega)];exact ay rfl rfl ⟨_,rfl,rfl,n3⟩
   exact cO ⟨⟨rfl,trivial⟩,b1,n3,rfl,rfl,.inl hq,by omega,by omega,by omega,by omega,by omega⟩
 rintro F w2 ⟨ag,b2,n2,h1,h2,h3,h4⟩;refine Wc.frame _ ag fun G=>?_;clear ag;simp only [ql];refine eX (fun F W=>agrees F [(1,.pointer (some ⟨w.heap.size,0,none⟩))]/\w2=W/\0<c.compat.length/\c.compat.length<=8) ?_ ?_
 ·(repeat' (first|refine aP ?_|refine aU ?_|refine aa5 ?_));refine ah (u:=.slice a c.compat.length cap) rfl (b2.cell (o:=3) rfl) ?_;(repeat' (first|refine qq9 ?_|refine bH rfl rfl (fun _=>?_) (fun _=>?_)))
  ·rw [um (fun e=>by omega)];exact ay rfl rfl ⟨_,rfl,rfl,n2⟩
  ·refine ah (u:=.slice a c.compat.length cap) rfl (b2.cell (o:=3) rfl) ?_;(repeat' (first|refine aa7 ?_|refine ak ?_|refine aQ rfl rfl ?_|refine aa9 ?_|refine cu rfl ?_|refine aT ?_|refine aP ?_|refine aU ?_|refine Wc.skip ?_|refine dY ?_|refine bT rfl ?_|refine dm rfl ?_|refine fP ?_|refine aW rfl rfl (fun _=>?_) (fun _=>?_)))
   ·rw [um (fun e=>by omega)];exact ay rfl rfl ⟨_,rfl,rfl,n2⟩
   ·exact cO ⟨⟨rfl,trivial⟩,rfl,by omega,by omega⟩
 rintro F _ ⟨ag,rfl,h5,h6⟩;refine Wc.frame _ ag fun G=>?_;clear ag;simp only [ql];rw [aaK h1 h2 h3 ⟨h4.1,h4.2.1,h4.2.2.1,h4.2.2.2.1,h4.2.2.2.2,h5,h6⟩];refine qq4 ?_;refine ah (u:=.slice a c.compat.length cap) rfl (b2.cell (o:=3) rfl) ?_;refine qq6 ?_;refine aC (σ:=Nat) (fun i=>[(1,.pointer (some ⟨w.heap.size,0,none⟩)),(62,.slice a c.compat.length cap),(63,vi c.compat.length),(64,vi i)]) (fun i w'=>i<=c.compat.length/\Ec c.compat 0 c.compat=Ec c.compat i (c.compat.drop i)/\w2=w') (fun i=>c.compat.length-i) 0 (sl rfl) ⟨aoZ _,by simp,rfl⟩ ?_;rintro i G _ ⟨hi,hgo,rfl⟩;simp only [ql];have h0:=h.keep (pF _) n2.keep;(repeat' (first|refine qq2 ?_|refine aa2 (fun _=>?_) (fun _=>?_)))
 ·obtain ⟨s,hs⟩:=pz c.compat (k:=i) (by omega);rw [drop_cons hs] at hgo;simp only [Ec,abW] at hgo;refine bC h0 rfl rfl (by omega) hs fun b o hcell=>?_;refine ah (u:=vs s) rfl hcell ?_;(repeat' (first|refine qq5 ?_|refine aW rfl rfl (fun _=>?_) (fun _=>?_)|refine fD rfl rfl (fun _=>?_) (fun _=>?_)))
  ·rw [hgo,decide_eq_false (fun e=>e.1 (by assumption))];exact ay rfl rfl ⟨_,rfl,rfl,n2⟩
  ·rw [hgo,decide_eq_false (fun e=>by omega)];exact ay rfl rfl ⟨_,rfl,rfl,n2⟩
  ·rw [decide_eq_true ⟨by assumption,by omega⟩,aqf] at hgo;refine au (vY (l:=s) (c:=0)) rfl ?_;rintro _ _ ⟨rfl,rfl⟩;(repeat' (first|refine qq5 ?_|refine aV rfl rfl (fun _=>?_) (fun _=>?_)))
   ·rw [hgo,Gu.1 (by omega)];exact ay rfl rfl ⟨_,rfl,rfl,n2⟩
   ·rw [LC (by omega),aqm,aqf] at hgo;refine ah (u:=.slice a c.compat.length cap) rfl (b2.cell (o:=3) rfl) ?_;refine qq5 ?_;refine lH (b:=(i:Int)) h0 rfl rfl (by omega) (by omega) fun v' hv'=>?_;rw [ao3] at hv';obtain ⟨pa,pc,rfl,_,_⟩:=hv'.form;refine qq5 ?_;refine au (yH (s:=s) hv') rfl ?_;rintro _ _ ⟨rfl,rfl⟩;cases hcn:(c.compat.take i).contains s
    ·rw [hcn,aqm,aqf] at hgo;refine qq3 ?_;exact aA (i+1) (sl rfl) ⟨by omega,hgo,rfl⟩ (by omega)
    ·rw [hcn] at hgo;refine qq5 ?_;rw [hgo];exact ay rfl rfl ⟨_,rfl,rfl,n2⟩
 ·obtain rfl:i=c.compat.length:=by omega
  rw [aqi] at hgo;rw [hgo];exact ay rfl rfl ⟨_,rfl,rfl,n2⟩
theorem aeE {s:Nm} (h:qK s=true): ∃q,keyOf prog 9 (vs s)=some q:=Yi s (A8 h)
def JP (l:List Cd):Int:=if vG l=true then 0 else 70
theorem Ii {Pb:Nat->Prop} {w:World} {v:Value} {l:List Cd} (h:RdS rCd 7 Pb w v l):
 Calls prog 56 #[v] w (Ret fun r w'=>(∃k,r=.tuple #[k,vi (JP l)])/\New w w'):=by
 obtain ⟨a,cap,rfl,hc1,hc2⟩:=h.form;simp only [maxLen] at hc2;unfold JP vG;refine oI func56 rfl ntmps56 rfl ?_;refine qq1 ?_;refine fZ (k:=9) fun w1 m1 n1 s1=>?_;generalize hbm:w.heap.size=bm at m1;refine qq4 ?_;refine aC (σ:=Nat) (fun i=>[(4,.map (some bm)),(8,.slice a l.length cap),(9,vi l.length),(10,vi i)]) (fun i w'=>i<=l.length/\Bc 0 [] l=Bc i ((l.take i).map Cd.name) (l.drop i)/\sK prog 9 w' bm (VW vs ((l.take i).map Cd.name))/\New w w') (fun i=>l.length-i) 0 (sl rfl) ⟨aoZ _,by simp,m1,n1⟩ ?_;rintro i G w2 ⟨hi,hgo,m2,n2⟩;simp only [ql];(repeat' (first|refine qq2 ?_|refine aa2 (fun _=>?_) (fun _=>?_)))
 ·obtain ⟨x,hx⟩:=pz l (k:=i) (by omega);refine aO (h.keep rG n2.keep) rfl rfl (by omega) hx fun b o cs hl hR hat=>?_;obtain ⟨cv,rfl,hcv⟩:=hR;refine aS hat rfl rfl ?_;refine Wl.alloc fun w3 b3 n3 s3=>?_;(repeat' (refine aa7 ?_));refine aK (new:=cdC x cv) b3 rfl rfl rfl rfl zl7 (YB.oc _ w2 x _ ⟨cv,rfl,hcv⟩ rfl) fun w4 b4 c4 s4=>?_;have hz2:=n2.size;have hlt:=m2.lt;have m4:=(m2.keep n3.keep (Pb:=fun _=>True) trivial).chg c4 (by omega);have n24:New w2 w4:=(Chg.trans n3.any c4 i3).tN
  have n4:New w w4:=New.trans n2 n24;replace b4:Bk w4 w2.heap.size 79 (cdC x cv):=b4;have aaL:=hcv.keep (pF _) n24.keep;clear m2 b3 n3 c4;rw [drop_cons hx] at hgo;simp only [Bc] at hgo;(repeat' (first|refine qq5 ?_|refine aV rfl rfl (fun _=>?_) (fun _=>?_)))
  ·rw [decide_eq_false (by omega),aqg] at hgo;rw [hgo];exact aG rfl rfl rfl ⟨_,rfl,⟨_,rfl⟩,n4⟩
  ·rw [decide_eq_true (by omega),aqf] at hgo;refine bD b4 rfl rfl ?_;refine aQ rfl rfl ?_;refine au (WE (c:=x) aaL) rfl ?_;rintro _ w5 ⟨rfl,n5⟩;replace b4:=b4.chg n5 id;replace m4:=m4.keep n5.keep (Pb:=fun _=>True) trivial;replace n5:=New.trans n4 n5;cases hmay:Nl x
   ·rw [hmay,aqg] at hgo;refine qq5 ?_;rw [hgo];exact aG rfl rfl rfl ⟨_,rfl,⟨_,rfl⟩,n5⟩
   ·rw [hmay,aqf] at hgo;refine qq5 ?_;refine ah (u:=vs x.name) rfl (b4.cell (o:=0) rfl) ?_;obtain ⟨q,hq⟩:=aeE (PU hmay).1;refine aQ rfl rfl ?_;refine jb (Maps.string_keyed underlying9) m4 hq rfl rfl ?_;rintro r (hr|⟨rfl,hr⟩)
    ·obtain ⟨k,hk,e⟩:=List.mem_map.1 hr;simp only [Prod.mk.injEq] at e;obtain ⟨e1,rfl⟩:=e;rw [yA e1] at hk;rw [List.contains_iff_mem.2 hk,aqz,aqg] at hgo;refine qq5 ?_;rw [hgo];exact aG rfl rfl rfl ⟨_,rfl,⟨_,rfl⟩,n5⟩
    ·have hnk:((l.take i).map Cd.name).contains x.name=false:=by rw [apI];intro hc;exact hr (vs x.name,.bool true) (List.mem_map.2 ⟨x.name,List.contains_iff_mem.1 hc,rfl⟩) rfl
     rw [hnk,aqm,aqf] at hgo;refine qq4 ?_;refine ah (u:=vs x.name) rfl (b4.cell (o:=0) rfl) ?_;refine iq (u:=.bool true) (Maps.string_keyed underlying9) m4 hq hr rfl rfl rfl fun w6 m6 c6 s6=>?_;refine qq4 ?_;refine aA (i+1) (sl rfl) ⟨by omega,?_,?_,Chg.trans n5 c6 fun k hk e=>by omega⟩ (by omega)
     ·rw [hgo,take_snoc hx,aqn];rfl
     ·rw [take_snoc hx,aqn];simpa [VW] using m6
 ·obtain rfl:i=l.length:=by omega
  rw [aqi] at hgo;rw [hgo];exact aG rfl rfl rfl ⟨_,rfl,⟨_,rfl⟩,n2⟩
theorem SH {Pb:Nat->Prop} {w:World} {v:Value} {l:List Cd} (h:RdS rCd 7 Pb w v l):
 Calls prog 83 #[v] w (Ret fun r w'=>r=vi (JP l)/\New w w'):=by
 refine oI func83 rfl ntmps83 rfl ?_;refine qq2 ?_;refine au (Ii h) rfl ?_;rintro _ w1 ⟨⟨k,rfl⟩,n1⟩;refine qq5 ?_;exact ay rfl rfl ⟨_,rfl,rfl,n1⟩
end Go.Proofs.YtfbnfhhmiiahnaaGreatDoor
