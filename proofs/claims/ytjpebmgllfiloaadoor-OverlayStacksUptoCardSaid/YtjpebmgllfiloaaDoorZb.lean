/-
  Texts of this claim, one behind the other: Facts, Shelf, Nm, Ta, Tb, Sp, Tc, Kg, Kn, To, Fl, Ix.
-/
import Derived.Test.YtjpebmgllfiloaaDoorZa
import Derived.Test.YtjpebmgllfiloaaDoorChecked
import Derived.Shelf.Small.Strs
import Derived.Shelf.Small.Wraps
import Derived.Shelf.Utf8.RuneCount
import Derived.Shelf.Strings.Search1
import Derived.Shelf.Strings.Search2
import Derived.Shelf.Strings.Search3
import Derived.Shelf.Strings.Count
import Derived.Shelf.LaysM
import Derived.Shelf.Strings.Shaped
import Derived.Shelf.Strings.Prefix
import Derived.Shelf.Strings.Split
import Derived.Shelf.Strings.SplitShaped
import Derived.Shelf.Unicode.Decode
import Derived.Shelf.Strings.RuneCount
import Derived.Shelf.Strings.Explode
import Derived.Shelf.Unicode.DecodeSlow
import Derived.Shelf.Unicode.DecodeAny
import Derived.Shelf.Slices.Turned
import Derived.Test.YtjpebmgllfiloaaDoorProg
import Derived.Lib.IndexLaws
import Derived.StringKeys
import Derived.DeepKeys3
namespace Go.Proofs.YtjpebmgllfiloaaDoor
open Go.Proofs.YtjpebmgllfiloaaDoor.Wk
instance elt1 : ElT Tryd.prog 1 1 8 false (.nilFunc) := ElT.mk' (by kernel_rfl) rfl (by kernel_rfl)
instance und2 : Und Tryd.prog 2 (.int .i64) := ⟨Tryd.underlying2⟩
instance elt2 : ElT Tryd.prog 2 1 8 false (.int .i64 0) := ElT.mk' (by kernel_rfl) rfl (by kernel_rfl)
instance und3 : Und Tryd.prog 3 (.int .i64) := ⟨Tryd.underlying3⟩
instance elt3 : ElT Tryd.prog 3 1 8 false (.int .i64 0) := ElT.mk' (by kernel_rfl) rfl (by kernel_rfl)
instance und4 : Und Tryd.prog 4 .bool := ⟨Tryd.underlying4⟩
instance elt4 : ElT Tryd.prog 4 1 1 false (.bool false) := ElT.mk' (by kernel_rfl) rfl (by kernel_rfl)
instance und5 : Und Tryd.prog 5 (.int .u8) := ⟨Tryd.underlying5⟩
instance elt5 : ElT Tryd.prog 5 1 1 false (.int .u8 0) := ElT.mk' (by kernel_rfl) rfl (by kernel_rfl)
instance und6 : Und Tryd.prog 6 (.int .u8) := ⟨Tryd.underlying6⟩
instance elt6 : ElT Tryd.prog 6 1 1 false (.int .u8 0) := ElT.mk' (by kernel_rfl) rfl (by kernel_rfl)
instance fld7_0 : Fld Tryd.prog 7 0 0 2 := ⟨⟨_, _, Tryd.underlying7, rfl, rfl, rfl⟩⟩
instance fld7_1 : Fld Tryd.prog 7 1 1 3 := ⟨⟨_, _, Tryd.underlying7, rfl, rfl, rfl⟩⟩
instance fld7_2 : Fld Tryd.prog 7 2 2 4 := ⟨⟨_, _, Tryd.underlying7, rfl, rfl, rfl⟩⟩
instance fld7_3 : Fld Tryd.prog 7 3 3 6 := ⟨⟨_, _, Tryd.underlying7, rfl, rfl, rfl⟩⟩
instance elt7 : ElT Tryd.prog 7 4 24 true (.agg #[.int .i64 0, .int .i64 0, .bool false, .int .u8 0]) := ElT.mk' (by kernel_rfl) rfl (by kernel_rfl)
instance fld8_0 : Fld Tryd.prog 8 0 0 2 := ⟨⟨_, _, Tryd.underlying8, rfl, rfl, rfl⟩⟩
instance fld8_1 : Fld Tryd.prog 8 1 1 3 := ⟨⟨_, _, Tryd.underlying8, rfl, rfl, rfl⟩⟩
instance fld8_2 : Fld Tryd.prog 8 2 2 4 := ⟨⟨_, _, Tryd.underlying8, rfl, rfl, rfl⟩⟩
instance fld8_3 : Fld Tryd.prog 8 3 3 6 := ⟨⟨_, _, Tryd.underlying8, rfl, rfl, rfl⟩⟩
instance elt8 : ElT Tryd.prog 8 4 24 true (.agg #[.int .i64 0, .int .i64 0, .bool false, .int .u8 0]) := ElT.mk' (by kernel_rfl) rfl (by kernel_rfl)
instance und9 : Und Tryd.prog 9 .string := ⟨Tryd.underlying9⟩
instance elt9 : ElT Tryd.prog 9 1 16 false (.string ⟨#[]⟩) := ElT.mk' (by kernel_rfl) rfl (by kernel_rfl)
instance und10 : Und Tryd.prog 10 .string := ⟨Tryd.underlying10⟩
instance elt10 : ElT Tryd.prog 10 1 16 false (.string ⟨#[]⟩) := ElT.mk' (by kernel_rfl) rfl (by kernel_rfl)
instance und11 : Und Tryd.prog 11 .string := ⟨Tryd.underlying11⟩
instance elt11 : ElT Tryd.prog 11 1 16 false (.string ⟨#[]⟩) := ElT.mk' (by kernel_rfl) rfl (by kernel_rfl)
instance und12 : Und Tryd.prog 12 (.int .u64) := ⟨Tryd.underlying12⟩
instance elt12 : ElT Tryd.prog 12 1 8 false (.int .u64 0) := ElT.mk' (by kernel_rfl) rfl (by kernel_rfl)
instance fld13_0 : Fld Tryd.prog 13 0 0 9 := ⟨⟨_, _, Tryd.underlying13, rfl, rfl, rfl⟩⟩
instance fld13_1 : Fld Tryd.prog 13 1 1 12 := ⟨⟨_, _, Tryd.underlying13, rfl, rfl, rfl⟩⟩
instance elt13 : ElT Tryd.prog 13 2 24 true (.agg #[.string ⟨#[]⟩, .int .u64 0]) := ElT.mk' (by kernel_rfl) rfl (by kernel_rfl)
instance fld14_0 : Fld Tryd.prog 14 0 0 9 := ⟨⟨_, _, Tryd.underlying14, rfl, rfl, rfl⟩⟩
instance fld14_1 : Fld Tryd.prog 14 1 1 12 := ⟨⟨_, _, Tryd.underlying14, rfl, rfl, rfl⟩⟩
instance elt14 : ElT Tryd.prog 14 2 24 true (.agg #[.string ⟨#[]⟩, .int .u64 0]) := ElT.mk' (by kernel_rfl) rfl (by kernel_rfl)
instance und15 : Und Tryd.prog 15 (.pointer 149) := ⟨Tryd.underlying15⟩
instance elt15 : ElT Tryd.prog 15 1 8 false (.pointer none) := ElT.mk' (by kernel_rfl) rfl (by kernel_rfl)
instance und16 : Und Tryd.prog 16 (.pointer 152) := ⟨Tryd.underlying16⟩
instance elt16 : ElT Tryd.prog 16 1 8 false (.pointer none) := ElT.mk' (by kernel_rfl) rfl (by kernel_rfl)
instance und17 : Und Tryd.prog 17 (.pointer 161) := ⟨Tryd.underlying17⟩
instance elt17 : ElT Tryd.prog 17 1 8 false (.pointer none) := ElT.mk' (by kernel_rfl) rfl (by kernel_rfl)
instance fld18_0 : Fld Tryd.prog 18 0 0 17 := ⟨⟨_, _, Tryd.underlying18, rfl, rfl, rfl⟩⟩
instance elt18 : ElT Tryd.prog 18 1 8 true (.agg #[.pointer none]) := ElT.mk' (by kernel_rfl) rfl (by kernel_rfl)
instance fld19_0 : Fld Tryd.prog 19 0 0 17 := ⟨⟨_, _, Tryd.underlying19, rfl, rfl, rfl⟩⟩
instance elt19 : ElT Tryd.prog 19 1 8 true (.agg #[.pointer none]) := ElT.mk' (by kernel_rfl) rfl (by kernel_rfl)
instance elt20 : ElT Tryd.prog 20 1 16 false (.nilIface) := ElT.mk' (by kernel_rfl) rfl (by kernel_rfl)
instance und21 : Und Tryd.prog 21 (.int .i32) := ⟨Tryd.underlying21⟩
instance elt21 : ElT Tryd.prog 21 1 4 false (.int .i32 0) := ElT.mk' (by kernel_rfl) rfl (by kernel_rfl)
instance und22 : Und Tryd.prog 22 (.slice 37) := ⟨Tryd.underlying22⟩
instance elt22 : ElT Tryd.prog 22 1 24 false (.slice none 0 0) := ElT.mk' (by kernel_rfl) rfl (by kernel_rfl)
instance und23 : Und Tryd.prog 23 (.slice 9) := ⟨Tryd.underlying23⟩
instance elt23 : ElT Tryd.prog 23 1 24 false (.slice none 0 0) := ElT.mk' (by kernel_rfl) rfl (by kernel_rfl)
instance fld24_0 : Fld Tryd.prog 24 0 0 9 := ⟨⟨_, _, Tryd.underlying24, rfl, rfl, rfl⟩⟩
instance fld24_1 : Fld Tryd.prog 24 1 1 22 := ⟨⟨_, _, Tryd.underlying24, rfl, rfl, rfl⟩⟩
instance fld24_2 : Fld Tryd.prog 24 2 2 23 := ⟨⟨_, _, Tryd.underlying24, rfl, rfl, rfl⟩⟩
instance elt24 : ElT Tryd.prog 24 3 64 true (.agg #[.string ⟨#[]⟩, .slice none 0 0, .slice none 0 0]) := ElT.mk' (by kernel_rfl) rfl (by kernel_rfl)
instance fld25_0 : Fld Tryd.prog 25 0 0 9 := ⟨⟨_, _, Tryd.underlying25, rfl, rfl, rfl⟩⟩
instance fld25_1 : Fld Tryd.prog 25 1 1 22 := ⟨⟨_, _, Tryd.underlying25, rfl, rfl, rfl⟩⟩
instance fld25_2 : Fld Tryd.prog 25 2 2 23 := ⟨⟨_, _, Tryd.underlying25, rfl, rfl, rfl⟩⟩
instance elt25 : ElT Tryd.prog 25 3 64 true (.agg #[.string ⟨#[]⟩, .slice none 0 0, .slice none 0 0]) := ElT.mk' (by kernel_rfl) rfl (by kernel_rfl)
instance elt26 : ElT Tryd.prog 26 1 8 false (.nilFunc) := ElT.mk' (by kernel_rfl) rfl (by kernel_rfl)
instance elt27 : ElT Tryd.prog 27 1 8 false (.nilFunc) := ElT.mk' (by kernel_rfl) rfl (by kernel_rfl)
instance und28 : Und Tryd.prog 28 (.int .i64) := ⟨Tryd.underlying28⟩
instance elt28 : ElT Tryd.prog 28 1 8 false (.int .i64 0) := ElT.mk' (by kernel_rfl) rfl (by kernel_rfl)
instance elt30 : ElT Tryd.prog 30 1 8 false (.nilFunc) := ElT.mk' (by kernel_rfl) rfl (by kernel_rfl)
instance elt31 : ElT Tryd.prog 31 1 8 false (.nilFunc) := ElT.mk' (by kernel_rfl) rfl (by kernel_rfl)
instance elt32 : ElT Tryd.prog 32 1 8 false (.nilFunc) := ElT.mk' (by kernel_rfl) rfl (by kernel_rfl)
instance elt33 : ElT Tryd.prog 33 1 8 false (.nilFunc) := ElT.mk' (by kernel_rfl) rfl (by kernel_rfl)
instance elt34 : ElT Tryd.prog 34 1 8 false (.nilFunc) := ElT.mk' (by kernel_rfl) rfl (by kernel_rfl)
instance und35 : Und Tryd.prog 35 (.slice 39) := ⟨Tryd.underlying35⟩
instance elt35 : ElT Tryd.prog 35 1 24 false (.slice none 0 0) := ElT.mk' (by kernel_rfl) rfl (by kernel_rfl)
instance fld36_0 : Fld Tryd.prog 36 0 0 3 := ⟨⟨_, _, Tryd.underlying36, rfl, rfl, rfl⟩⟩
instance fld36_1 : Fld Tryd.prog 36 1 1 9 := ⟨⟨_, _, Tryd.underlying36, rfl, rfl, rfl⟩⟩
instance fld36_2 : Fld Tryd.prog 36 2 2 35 := ⟨⟨_, _, Tryd.underlying36, rfl, rfl, rfl⟩⟩
instance elt36 : ElT Tryd.prog 36 3 48 true (.agg #[.int .i64 0, .string ⟨#[]⟩, .slice none 0 0]) := ElT.mk' (by kernel_rfl) rfl (by kernel_rfl)
instance fld37_0 : Fld Tryd.prog 37 0 0 3 := ⟨⟨_, _, Tryd.underlying37, rfl, rfl, rfl⟩⟩
instance fld37_1 : Fld Tryd.prog 37 1 1 9 := ⟨⟨_, _, Tryd.underlying37, rfl, rfl, rfl⟩⟩
instance fld37_2 : Fld Tryd.prog 37 2 2 35 := ⟨⟨_, _, Tryd.underlying37, rfl, rfl, rfl⟩⟩
instance elt37 : ElT Tryd.prog 37 3 48 true (.agg #[.int .i64 0, .string ⟨#[]⟩, .slice none 0 0]) := ElT.mk' (by kernel_rfl) rfl (by kernel_rfl)
instance fld38_0 : Fld Tryd.prog 38 0 0 9 := ⟨⟨_, _, Tryd.underlying38, rfl, rfl, rfl⟩⟩
instance fld38_1 : Fld Tryd.prog 38 1 1 9 := ⟨⟨_, _, Tryd.underlying38, rfl, rfl, rfl⟩⟩
instance elt38 : ElT Tryd.prog 38 2 32 true (.agg #[.string ⟨#[]⟩, .string ⟨#[]⟩]) := ElT.mk' (by kernel_rfl) rfl (by kernel_rfl)
instance fld39_0 : Fld Tryd.prog 39 0 0 9 := ⟨⟨_, _, Tryd.underlying39, rfl, rfl, rfl⟩⟩
instance fld39_1 : Fld Tryd.prog 39 1 1 9 := ⟨⟨_, _, Tryd.underlying39, rfl, rfl, rfl⟩⟩
instance elt39 : ElT Tryd.prog 39 2 32 true (.agg #[.string ⟨#[]⟩, .string ⟨#[]⟩]) := ElT.mk' (by kernel_rfl) rfl (by kernel_rfl)
instance elt40 : ElT Tryd.prog 40 1 8 false (.nilFunc) := ElT.mk' (by kernel_rfl) rfl (by kernel_rfl)
instance elt41 : ElT Tryd.prog 41 1 8 false (.nilFunc) := ElT.mk' (by kernel_rfl) rfl (by kernel_rfl)
instance elt42 : ElT Tryd.prog 42 1 8 false (.nilFunc) := ElT.mk' (by kernel_rfl) rfl (by kernel_rfl)
instance elt43 : ElT Tryd.prog 43 1 8 false (.nilFunc) := ElT.mk' (by kernel_rfl) rfl (by kernel_rfl)
instance elt45 : ElT Tryd.prog 45 1 8 false (.nilFunc) := ElT.mk' (by kernel_rfl) rfl (by kernel_rfl)
instance elt46 : ElT Tryd.prog 46 1 8 false (.nilFunc) := ElT.mk' (by kernel_rfl) rfl (by kernel_rfl)
instance elt47 : ElT Tryd.prog 47 1 8 false (.nilFunc) := ElT.mk' (by kernel_rfl) rfl (by kernel_rfl)
instance und48 : Und Tryd.prog 48 (.slice 25) := ⟨Tryd.underlying48⟩
instance elt48 : ElT Tryd.prog 48 1 24 false (.slice none 0 0) := ElT.mk' (by kernel_rfl) rfl (by kernel_rfl)
instance und49 : Und Tryd.prog 49 (.pointer 92) := ⟨Tryd.underlying49⟩
instance elt49 : ElT Tryd.prog 49 1 8 false (.pointer none) := ElT.mk' (by kernel_rfl) rfl (by kernel_rfl)
instance elt51 : ElT Tryd.prog 51 1 8 false (.nilFunc) := ElT.mk' (by kernel_rfl) rfl (by kernel_rfl)
instance und52 : Und Tryd.prog 52 (.slice 22) := ⟨Tryd.underlying52⟩
instance elt52 : ElT Tryd.prog 52 1 24 false (.slice none 0 0) := ElT.mk' (by kernel_rfl) rfl (by kernel_rfl)
instance und53 : Und Tryd.prog 53 (.slice 3) := ⟨Tryd.underlying53⟩
instance elt53 : ElT Tryd.prog 53 1 24 false (.slice none 0 0) := ElT.mk' (by kernel_rfl) rfl (by kernel_rfl)
instance elt54 : ElT Tryd.prog 54 1 8 false (.nilFunc) := ElT.mk' (by kernel_rfl) rfl (by kernel_rfl)
instance elt56 : ElT Tryd.prog 56 1 8 false (.nilFunc) := ElT.mk' (by kernel_rfl) rfl (by kernel_rfl)
instance elt57 : ElT Tryd.prog 57 1 8 false (.nilFunc) := ElT.mk' (by kernel_rfl) rfl (by kernel_rfl)
instance elt58 : ElT Tryd.prog 58 1 8 false (.nilFunc) := ElT.mk' (by kernel_rfl) rfl (by kernel_rfl)
instance und59 : Und Tryd.prog 59 (.slice 65) := ⟨Tryd.underlying59⟩
instance elt59 : ElT Tryd.prog 59 1 24 false (.slice none 0 0) := ElT.mk' (by kernel_rfl) rfl (by kernel_rfl)
instance elt60 : ElT Tryd.prog 60 1 8 false (.nilFunc) := ElT.mk' (by kernel_rfl) rfl (by kernel_rfl)
instance und61 : Und Tryd.prog 61 (.pointer 63) := ⟨Tryd.underlying61⟩
instance elt61 : ElT Tryd.prog 61 1 8 false (.pointer none) := ElT.mk' (by kernel_rfl) rfl (by kernel_rfl)
instance fld62_0 : Fld Tryd.prog 62 0 0 22 := ⟨⟨_, _, Tryd.underlying62, rfl, rfl, rfl⟩⟩
instance fld62_1 : Fld Tryd.prog 62 1 1 48 := ⟨⟨_, _, Tryd.underlying62, rfl, rfl, rfl⟩⟩
instance fld62_2 : Fld Tryd.prog 62 2 2 53 := ⟨⟨_, _, Tryd.underlying62, rfl, rfl, rfl⟩⟩
instance fld62_3 : Fld Tryd.prog 62 3 3 3 := ⟨⟨_, _, Tryd.underlying62, rfl, rfl, rfl⟩⟩
instance elt62 : ElT Tryd.prog 62 4 80 true (.agg #[.slice none 0 0, .slice none 0 0, .slice none 0 0, .int .i64 0]) := ElT.mk' (by kernel_rfl) rfl (by kernel_rfl)
instance fld63_0 : Fld Tryd.prog 63 0 0 22 := ⟨⟨_, _, Tryd.underlying63, rfl, rfl, rfl⟩⟩
instance fld63_1 : Fld Tryd.prog 63 1 1 48 := ⟨⟨_, _, Tryd.underlying63, rfl, rfl, rfl⟩⟩
instance fld63_2 : Fld Tryd.prog 63 2 2 53 := ⟨⟨_, _, Tryd.underlying63, rfl, rfl, rfl⟩⟩
instance fld63_3 : Fld Tryd.prog 63 3 3 3 := ⟨⟨_, _, Tryd.underlying63, rfl, rfl, rfl⟩⟩
instance elt63 : ElT Tryd.prog 63 4 80 true (.agg #[.slice none 0 0, .slice none 0 0, .slice none 0 0, .int .i64 0]) := ElT.mk' (by kernel_rfl) rfl (by kernel_rfl)
instance fld64_0 : Fld Tryd.prog 64 0 0 3 := ⟨⟨_, _, Tryd.underlying64, rfl, rfl, rfl⟩⟩
instance fld64_1 : Fld Tryd.prog 64 1 1 25 := ⟨⟨_, _, Tryd.underlying64, rfl, rfl, rfl⟩⟩
instance fld64_2 : Fld Tryd.prog 64 2 4 4 := ⟨⟨_, _, Tryd.underlying64, rfl, rfl, rfl⟩⟩
instance fld64_3 : Fld Tryd.prog 64 3 5 3 := ⟨⟨_, _, Tryd.underlying64, rfl, rfl, rfl⟩⟩
instance elt64 : ElT Tryd.prog 64 6 88 true (.agg #[.int .i64 0, .string ⟨#[]⟩, .slice none 0 0, .slice none 0 0, .bool false, .int .i64 0]) := ElT.mk' (by kernel_rfl) rfl (by kernel_rfl)
instance fld65_0 : Fld Tryd.prog 65 0 0 3 := ⟨⟨_, _, Tryd.underlying65, rfl, rfl, rfl⟩⟩
instance fld65_1 : Fld Tryd.prog 65 1 1 25 := ⟨⟨_, _, Tryd.underlying65, rfl, rfl, rfl⟩⟩
instance fld65_2 : Fld Tryd.prog 65 2 4 4 := ⟨⟨_, _, Tryd.underlying65, rfl, rfl, rfl⟩⟩
instance fld65_3 : Fld Tryd.prog 65 3 5 3 := ⟨⟨_, _, Tryd.underlying65, rfl, rfl, rfl⟩⟩
instance elt65 : ElT Tryd.prog 65 6 88 true (.agg #[.int .i64 0, .string ⟨#[]⟩, .slice none 0 0, .slice none 0 0, .bool false, .int .i64 0]) := ElT.mk' (by kernel_rfl) rfl (by kernel_rfl)
instance elt66 : ElT Tryd.prog 66 1 8 false (.nilFunc) := ElT.mk' (by kernel_rfl) rfl (by kernel_rfl)
instance elt67 : ElT Tryd.prog 67 1 8 false (.nilFunc) := ElT.mk' (by kernel_rfl) rfl (by kernel_rfl)
instance elt68 : ElT Tryd.prog 68 1 8 false (.nilFunc) := ElT.mk' (by kernel_rfl) rfl (by kernel_rfl)
instance elt69 : ElT Tryd.prog 69 1 8 false (.nilFunc) := ElT.mk' (by kernel_rfl) rfl (by kernel_rfl)
instance elt71 : ElT Tryd.prog 71 1 8 false (.nilFunc) := ElT.mk' (by kernel_rfl) rfl (by kernel_rfl)
instance elt72 : ElT Tryd.prog 72 1 8 false (.nilFunc) := ElT.mk' (by kernel_rfl) rfl (by kernel_rfl)
instance und73 : Und Tryd.prog 73 (.slice 78) := ⟨Tryd.underlying73⟩
instance elt73 : ElT Tryd.prog 73 1 24 false (.slice none 0 0) := ElT.mk' (by kernel_rfl) rfl (by kernel_rfl)
instance elt74 : ElT Tryd.prog 74 1 8 false (.nilFunc) := ElT.mk' (by kernel_rfl) rfl (by kernel_rfl)
instance elt75 : ElT Tryd.prog 75 1 8 false (.nilFunc) := ElT.mk' (by kernel_rfl) rfl (by kernel_rfl)
instance fld76_0 : Fld Tryd.prog 76 0 0 9 := ⟨⟨_, _, Tryd.underlying76, rfl, rfl, rfl⟩⟩
instance fld76_1 : Fld Tryd.prog 76 1 1 35 := ⟨⟨_, _, Tryd.underlying76, rfl, rfl, rfl⟩⟩
instance fld76_2 : Fld Tryd.prog 76 2 2 73 := ⟨⟨_, _, Tryd.underlying76, rfl, rfl, rfl⟩⟩
instance elt76 : ElT Tryd.prog 76 3 64 true (.agg #[.string ⟨#[]⟩, .slice none 0 0, .slice none 0 0]) := ElT.mk' (by kernel_rfl) rfl (by kernel_rfl)
instance fld77_0 : Fld Tryd.prog 77 0 0 9 := ⟨⟨_, _, Tryd.underlying77, rfl, rfl, rfl⟩⟩
instance fld77_1 : Fld Tryd.prog 77 1 1 35 := ⟨⟨_, _, Tryd.underlying77, rfl, rfl, rfl⟩⟩
instance fld77_2 : Fld Tryd.prog 77 2 2 73 := ⟨⟨_, _, Tryd.underlying77, rfl, rfl, rfl⟩⟩
instance elt77 : ElT Tryd.prog 77 3 64 true (.agg #[.string ⟨#[]⟩, .slice none 0 0, .slice none 0 0]) := ElT.mk' (by kernel_rfl) rfl (by kernel_rfl)
instance und78 : Und Tryd.prog 78 (.pointer 77) := ⟨Tryd.underlying78⟩
instance elt78 : ElT Tryd.prog 78 1 8 false (.pointer none) := ElT.mk' (by kernel_rfl) rfl (by kernel_rfl)
instance elt79 : ElT Tryd.prog 79 1 8 false (.nilFunc) := ElT.mk' (by kernel_rfl) rfl (by kernel_rfl)
instance elt80 : ElT Tryd.prog 80 1 8 false (.nilFunc) := ElT.mk' (by kernel_rfl) rfl (by kernel_rfl)
instance fld81_0 : Fld Tryd.prog 81 0 0 22 := ⟨⟨_, _, Tryd.underlying81, rfl, rfl, rfl⟩⟩
instance fld81_1 : Fld Tryd.prog 81 1 1 3 := ⟨⟨_, _, Tryd.underlying81, rfl, rfl, rfl⟩⟩
instance elt81 : ElT Tryd.prog 81 2 32 true (.agg #[.slice none 0 0, .int .i64 0]) := ElT.mk' (by kernel_rfl) rfl (by kernel_rfl)
instance fld82_0 : Fld Tryd.prog 82 0 0 22 := ⟨⟨_, _, Tryd.underlying82, rfl, rfl, rfl⟩⟩
instance fld82_1 : Fld Tryd.prog 82 1 1 3 := ⟨⟨_, _, Tryd.underlying82, rfl, rfl, rfl⟩⟩
instance elt82 : ElT Tryd.prog 82 2 32 true (.agg #[.slice none 0 0, .int .i64 0]) := ElT.mk' (by kernel_rfl) rfl (by kernel_rfl)
instance elt83 : ElT Tryd.prog 83 1 8 false (.nilFunc) := ElT.mk' (by kernel_rfl) rfl (by kernel_rfl)
instance elt84 : ElT Tryd.prog 84 1 8 false (.nilFunc) := ElT.mk' (by kernel_rfl) rfl (by kernel_rfl)
instance elt85 : ElT Tryd.prog 85 1 8 false (.nilFunc) := ElT.mk' (by kernel_rfl) rfl (by kernel_rfl)
instance elt86 : ElT Tryd.prog 86 1 8 false (.nilFunc) := ElT.mk' (by kernel_rfl) rfl (by kernel_rfl)
instance elt87 : ElT Tryd.prog 87 1 8 false (.nilFunc) := ElT.mk' (by kernel_rfl) rfl (by kernel_rfl)
instance elt88 : ElT Tryd.prog 88 1 8 false (.nilFunc) := ElT.mk' (by kernel_rfl) rfl (by kernel_rfl)
instance elt89 : ElT Tryd.prog 89 1 8 false (.nilFunc) := ElT.mk' (by kernel_rfl) rfl (by kernel_rfl)
instance und90 : Und Tryd.prog 90 (.slice 96) := ⟨Tryd.underlying90⟩
instance elt90 : ElT Tryd.prog 90 1 24 false (.slice none 0 0) := ElT.mk' (by kernel_rfl) rfl (by kernel_rfl)
instance fld91_0 : Fld Tryd.prog 91 0 0 22 := ⟨⟨_, _, Tryd.underlying91, rfl, rfl, rfl⟩⟩
instance fld91_1 : Fld Tryd.prog 91 1 1 90 := ⟨⟨_, _, Tryd.underlying91, rfl, rfl, rfl⟩⟩
instance fld91_2 : Fld Tryd.prog 91 2 2 3 := ⟨⟨_, _, Tryd.underlying91, rfl, rfl, rfl⟩⟩
instance elt91 : ElT Tryd.prog 91 3 56 true (.agg #[.slice none 0 0, .slice none 0 0, .int .i64 0]) := ElT.mk' (by kernel_rfl) rfl (by kernel_rfl)
instance fld92_0 : Fld Tryd.prog 92 0 0 22 := ⟨⟨_, _, Tryd.underlying92, rfl, rfl, rfl⟩⟩
instance fld92_1 : Fld Tryd.prog 92 1 1 90 := ⟨⟨_, _, Tryd.underlying92, rfl, rfl, rfl⟩⟩
instance fld92_2 : Fld Tryd.prog 92 2 2 3 := ⟨⟨_, _, Tryd.underlying92, rfl, rfl, rfl⟩⟩
instance elt92 : ElT Tryd.prog 92 3 56 true (.agg #[.slice none 0 0, .slice none 0 0, .int .i64 0]) := ElT.mk' (by kernel_rfl) rfl (by kernel_rfl)
instance elt93 : ElT Tryd.prog 93 1 8 false (.nilFunc) := ElT.mk' (by kernel_rfl) rfl (by kernel_rfl)
instance elt94 : ElT Tryd.prog 94 1 8 false (.nilFunc) := ElT.mk' (by kernel_rfl) rfl (by kernel_rfl)
instance fld95_0 : Fld Tryd.prog 95 0 0 3 := ⟨⟨_, _, Tryd.underlying95, rfl, rfl, rfl⟩⟩
instance fld95_1 : Fld Tryd.prog 95 1 1 25 := ⟨⟨_, _, Tryd.underlying95, rfl, rfl, rfl⟩⟩
instance fld95_2 : Fld Tryd.prog 95 2 4 22 := ⟨⟨_, _, Tryd.underlying95, rfl, rfl, rfl⟩⟩
instance elt95 : ElT Tryd.prog 95 5 96 true (.agg #[.int .i64 0, .string ⟨#[]⟩, .slice none 0 0, .slice none 0 0, .slice none 0 0]) := ElT.mk' (by kernel_rfl) rfl (by kernel_rfl)
instance fld96_0 : Fld Tryd.prog 96 0 0 3 := ⟨⟨_, _, Tryd.underlying96, rfl, rfl, rfl⟩⟩
instance fld96_1 : Fld Tryd.prog 96 1 1 25 := ⟨⟨_, _, Tryd.underlying96, rfl, rfl, rfl⟩⟩
instance fld96_2 : Fld Tryd.prog 96 2 4 22 := ⟨⟨_, _, Tryd.underlying96, rfl, rfl, rfl⟩⟩
instance elt96 : ElT Tryd.prog 96 5 96 true (.agg #[.int .i64 0, .string ⟨#[]⟩, .slice none 0 0, .slice none 0 0, .slice none 0 0]) := ElT.mk' (by kernel_rfl) rfl (by kernel_rfl)
instance elt97 : ElT Tryd.prog 97 1 8 false (.nilFunc) := ElT.mk' (by kernel_rfl) rfl (by kernel_rfl)
instance elt98 : ElT Tryd.prog 98 1 8 false (.nilFunc) := ElT.mk' (by kernel_rfl) rfl (by kernel_rfl)
instance elt99 : ElT Tryd.prog 99 1 8 false (.nilFunc) := ElT.mk' (by kernel_rfl) rfl (by kernel_rfl)
instance elt100 : ElT Tryd.prog 100 1 8 false (.nilFunc) := ElT.mk' (by kernel_rfl) rfl (by kernel_rfl)
instance elt101 : ElT Tryd.prog 101 1 8 false (.nilFunc) := ElT.mk' (by kernel_rfl) rfl (by kernel_rfl)
instance elt102 : ElT Tryd.prog 102 1 8 false (.nilFunc) := ElT.mk' (by kernel_rfl) rfl (by kernel_rfl)
instance elt103 : ElT Tryd.prog 103 1 8 false (.nilFunc) := ElT.mk' (by kernel_rfl) rfl (by kernel_rfl)
instance elt104 : ElT Tryd.prog 104 1 8 false (.nilFunc) := ElT.mk' (by kernel_rfl) rfl (by kernel_rfl)
instance elt106 : ElT Tryd.prog 106 1 8 false (.nilFunc) := ElT.mk' (by kernel_rfl) rfl (by kernel_rfl)
instance elt108 : ElT Tryd.prog 108 1 8 false (.nilFunc) := ElT.mk' (by kernel_rfl) rfl (by kernel_rfl)
instance elt109 : ElT Tryd.prog 109 1 8 false (.nilFunc) := ElT.mk' (by kernel_rfl) rfl (by kernel_rfl)
instance elt110 : ElT Tryd.prog 110 1 8 false (.nilFunc) := ElT.mk' (by kernel_rfl) rfl (by kernel_rfl)
instance elt111 : ElT Tryd.prog 111 1 8 false (.nilFunc) := ElT.mk' (by kernel_rfl) rfl (by kernel_rfl)
instance und112 : Und Tryd.prog 112 (.pointer 82) := ⟨Tryd.underlying112⟩
instance elt112 : ElT Tryd.prog 112 1 8 false (.pointer none) := ElT.mk' (by kernel_rfl) rfl (by kernel_rfl)
instance elt113 : ElT Tryd.prog 113 1 8 false (.nilFunc) := ElT.mk' (by kernel_rfl) rfl (by kernel_rfl)
instance elt114 : ElT Tryd.prog 114 1 8 false (.nilFunc) := ElT.mk' (by kernel_rfl) rfl (by kernel_rfl)
instance elt115 : ElT Tryd.prog 115 1 8 false (.nilFunc) := ElT.mk' (by kernel_rfl) rfl (by kernel_rfl)
instance und116 : Und Tryd.prog 116 (.slice 5) := ⟨Tryd.underlying116⟩
instance elt116 : ElT Tryd.prog 116 1 24 false (.slice none 0 0) := ElT.mk' (by kernel_rfl) rfl (by kernel_rfl)
instance elt117 : ElT Tryd.prog 117 1 8 false (.nilFunc) := ElT.mk' (by kernel_rfl) rfl (by kernel_rfl)
instance elt118 : ElT Tryd.prog 118 1 8 false (.nilFunc) := ElT.mk' (by kernel_rfl) rfl (by kernel_rfl)
instance elt119 : ElT Tryd.prog 119 1 8 false (.nilFunc) := ElT.mk' (by kernel_rfl) rfl (by kernel_rfl)
instance elt121 : ElT Tryd.prog 121 1 8 false (.nilFunc) := ElT.mk' (by kernel_rfl) rfl (by kernel_rfl)
instance elt122 : ElT Tryd.prog 122 1 8 false (.nilFunc) := ElT.mk' (by kernel_rfl) rfl (by kernel_rfl)
instance elt123 : ElT Tryd.prog 123 1 8 false (.nilFunc) := ElT.mk' (by kernel_rfl) rfl (by kernel_rfl)
instance elt124 : ElT Tryd.prog 124 1 8 false (.nilFunc) := ElT.mk' (by kernel_rfl) rfl (by kernel_rfl)
instance elt125 : ElT Tryd.prog 125 1 8 false (.nilFunc) := ElT.mk' (by kernel_rfl) rfl (by kernel_rfl)
instance elt126 : ElT Tryd.prog 126 1 8 false (.nilFunc) := ElT.mk' (by kernel_rfl) rfl (by kernel_rfl)
instance und127 : Und Tryd.prog 127 (.map 129 4) := ⟨Tryd.underlying127⟩
instance elt127 : ElT Tryd.prog 127 1 8 false (.map none) := ElT.mk' (by kernel_rfl) rfl (by kernel_rfl)
instance fld128_0 : Fld Tryd.prog 128 0 0 3 := ⟨⟨_, _, Tryd.underlying128, rfl, rfl, rfl⟩⟩
instance fld128_1 : Fld Tryd.prog 128 1 1 9 := ⟨⟨_, _, Tryd.underlying128, rfl, rfl, rfl⟩⟩
instance elt128 : ElT Tryd.prog 128 2 24 true (.agg #[.int .i64 0, .string ⟨#[]⟩]) := ElT.mk' (by kernel_rfl) rfl (by kernel_rfl)
instance fld129_0 : Fld Tryd.prog 129 0 0 3 := ⟨⟨_, _, Tryd.underlying129, rfl, rfl, rfl⟩⟩
instance fld129_1 : Fld Tryd.prog 129 1 1 9 := ⟨⟨_, _, Tryd.underlying129, rfl, rfl, rfl⟩⟩
instance elt129 : ElT Tryd.prog 129 2 24 true (.agg #[.int .i64 0, .string ⟨#[]⟩]) := ElT.mk' (by kernel_rfl) rfl (by kernel_rfl)
instance elt130 : ElT Tryd.prog 130 1 8 false (.nilFunc) := ElT.mk' (by kernel_rfl) rfl (by kernel_rfl)
instance und131 : Und Tryd.prog 131 (.map 9 4) := ⟨Tryd.underlying131⟩
instance elt131 : ElT Tryd.prog 131 1 8 false (.map none) := ElT.mk' (by kernel_rfl) rfl (by kernel_rfl)
instance elt132 : ElT Tryd.prog 132 1 8 false (.nilFunc) := ElT.mk' (by kernel_rfl) rfl (by kernel_rfl)
instance elt133 : ElT Tryd.prog 133 1 8 false (.nilFunc) := ElT.mk' (by kernel_rfl) rfl (by kernel_rfl)
instance elt134 : ElT Tryd.prog 134 1 8 false (.nilFunc) := ElT.mk' (by kernel_rfl) rfl (by kernel_rfl)
instance elt135 : ElT Tryd.prog 135 1 8 false (.nilFunc) := ElT.mk' (by kernel_rfl) rfl (by kernel_rfl)
instance elt137 : ElT Tryd.prog 137 1 8 false (.nilFunc) := ElT.mk' (by kernel_rfl) rfl (by kernel_rfl)
instance elt138 : ElT Tryd.prog 138 1 8 false (.nilFunc) := ElT.mk' (by kernel_rfl) rfl (by kernel_rfl)
instance und139 : Und Tryd.prog 139 (.int .u64) := ⟨Tryd.underlying139⟩
instance elt139 : ElT Tryd.prog 139 1 8 false (.int .u64 0) := ElT.mk' (by kernel_rfl) rfl (by kernel_rfl)
instance fld141_0 : Fld Tryd.prog 141 0 0 5 := ⟨⟨_, _, Tryd.underlying141, rfl, rfl, rfl⟩⟩
instance fld141_1 : Fld Tryd.prog 141 1 1 5 := ⟨⟨_, _, Tryd.underlying141, rfl, rfl, rfl⟩⟩
instance elt141 : ElT Tryd.prog 141 2 2 true (.agg #[.int .u8 0, .int .u8 0]) := ElT.mk' (by kernel_rfl) rfl (by kernel_rfl)
instance fld142_0 : Fld Tryd.prog 142 0 0 5 := ⟨⟨_, _, Tryd.underlying142, rfl, rfl, rfl⟩⟩
instance fld142_1 : Fld Tryd.prog 142 1 1 5 := ⟨⟨_, _, Tryd.underlying142, rfl, rfl, rfl⟩⟩
instance elt142 : ElT Tryd.prog 142 2 2 true (.agg #[.int .u8 0, .int .u8 0]) := ElT.mk' (by kernel_rfl) rfl (by kernel_rfl)
instance und143 : Und Tryd.prog 143 (.array 16 142) := ⟨Tryd.underlying143⟩
instance elt143 : ElT Tryd.prog 143 32 32 true (.agg #[.int .u8 0, .int .u8 0, .int .u8 0, .int .u8 0, .int .u8 0, .int .u8 0, .int .u8 0, .int .u8 0, .int .u8 0, .int .u8 0, .int .u8 0, .int .u8 0, .int .u8 0, .int .u8 0, .int .u8 0, .int .u8 0, .int .u8 0, .int .u8 0, .int .u8 0, .int .u8 0, .int .u8 0, .int .u8 0, .int .u8 0, .int .u8 0, .int .u8 0, .int .u8 0, .int .u8 0, .int .u8 0, .int .u8 0, .int .u8 0, .int .u8 0, .int .u8 0]) := ElT.mk' (by kernel_rfl) rfl (by kernel_rfl)
instance und144 : Und Tryd.prog 144 (.int .u32) := ⟨Tryd.underlying144⟩
instance elt144 : ElT Tryd.prog 144 1 4 false (.int .u32 0) := ElT.mk' (by kernel_rfl) rfl (by kernel_rfl)
instance elt146 : ElT Tryd.prog 146 1 8 false (.nilFunc) := ElT.mk' (by kernel_rfl) rfl (by kernel_rfl)
instance elt147 : ElT Tryd.prog 147 1 8 false (.nilFunc) := ElT.mk' (by kernel_rfl) rfl (by kernel_rfl)
instance fld148_0 : Fld Tryd.prog 148 0 0 17 := ⟨⟨_, _, Tryd.underlying148, rfl, rfl, rfl⟩⟩
instance fld148_1 : Fld Tryd.prog 148 1 1 17 := ⟨⟨_, _, Tryd.underlying148, rfl, rfl, rfl⟩⟩
instance fld148_2 : Fld Tryd.prog 148 2 2 17 := ⟨⟨_, _, Tryd.underlying148, rfl, rfl, rfl⟩⟩
instance fld148_3 : Fld Tryd.prog 148 3 3 9 := ⟨⟨_, _, Tryd.underlying148, rfl, rfl, rfl⟩⟩
instance elt148 : ElT Tryd.prog 148 4 40 true (.agg #[.pointer none, .pointer none, .pointer none, .string ⟨#[]⟩]) := ElT.mk' (by kernel_rfl) rfl (by kernel_rfl)
instance fld149_0 : Fld Tryd.prog 149 0 0 17 := ⟨⟨_, _, Tryd.underlying149, rfl, rfl, rfl⟩⟩
instance fld149_1 : Fld Tryd.prog 149 1 1 17 := ⟨⟨_, _, Tryd.underlying149, rfl, rfl, rfl⟩⟩
instance fld149_2 : Fld Tryd.prog 149 2 2 17 := ⟨⟨_, _, Tryd.underlying149, rfl, rfl, rfl⟩⟩
instance fld149_3 : Fld Tryd.prog 149 3 3 9 := ⟨⟨_, _, Tryd.underlying149, rfl, rfl, rfl⟩⟩
instance elt149 : ElT Tryd.prog 149 4 40 true (.agg #[.pointer none, .pointer none, .pointer none, .string ⟨#[]⟩]) := ElT.mk' (by kernel_rfl) rfl (by kernel_rfl)
instance und150 : Und Tryd.prog 150 (.array 0 16) := ⟨Tryd.underlying150⟩
instance elt150 : ElT Tryd.prog 150 0 0 true (.agg #[]) := ElT.mk' (by kernel_rfl) rfl (by kernel_rfl)
instance fld151_0 : Fld Tryd.prog 151 0 0 150 := ⟨⟨_, _, Tryd.underlying151, rfl, rfl, rfl⟩⟩
instance elt151 : ElT Tryd.prog 151 0 0 true (.agg #[]) := ElT.mk' (by kernel_rfl) rfl (by kernel_rfl)
instance fld152_0 : Fld Tryd.prog 152 0 0 150 := ⟨⟨_, _, Tryd.underlying152, rfl, rfl, rfl⟩⟩
instance elt152 : ElT Tryd.prog 152 0 0 true (.agg #[]) := ElT.mk' (by kernel_rfl) rfl (by kernel_rfl)
instance elt153 : ElT Tryd.prog 153 1 8 false (.nilFunc) := ElT.mk' (by kernel_rfl) rfl (by kernel_rfl)
instance und154 : Und Tryd.prog 154 (.int .u8) := ⟨Tryd.underlying154⟩
instance elt154 : ElT Tryd.prog 154 1 1 false (.int .u8 0) := ElT.mk' (by kernel_rfl) rfl (by kernel_rfl)
instance und155 : Und Tryd.prog 155 (.int .u8) := ⟨Tryd.underlying155⟩
instance elt155 : ElT Tryd.prog 155 1 1 false (.int .u8 0) := ElT.mk' (by kernel_rfl) rfl (by kernel_rfl)
instance elt156 : ElT Tryd.prog 156 1 8 false (.nilFunc) := ElT.mk' (by kernel_rfl) rfl (by kernel_rfl)
instance und157 : Und Tryd.prog 157 (.pointer 5) := ⟨Tryd.underlying157⟩
instance elt157 : ElT Tryd.prog 157 1 8 false (.pointer none) := ElT.mk' (by kernel_rfl) rfl (by kernel_rfl)
instance und158 : Und Tryd.prog 158 (.int .i32) := ⟨Tryd.underlying158⟩
instance elt158 : ElT Tryd.prog 158 1 4 false (.int .i32 0) := ElT.mk' (by kernel_rfl) rfl (by kernel_rfl)
instance und159 : Und Tryd.prog 159 (.int .i32) := ⟨Tryd.underlying159⟩
instance elt159 : ElT Tryd.prog 159 1 4 false (.int .i32 0) := ElT.mk' (by kernel_rfl) rfl (by kernel_rfl)
instance fld160_0 : Fld Tryd.prog 160 0 0 12 := ⟨⟨_, _, Tryd.underlying160, rfl, rfl, rfl⟩⟩
instance fld160_1 : Fld Tryd.prog 160 1 1 12 := ⟨⟨_, _, Tryd.underlying160, rfl, rfl, rfl⟩⟩
instance fld160_2 : Fld Tryd.prog 160 2 2 144 := ⟨⟨_, _, Tryd.underlying160, rfl, rfl, rfl⟩⟩
instance fld160_3 : Fld Tryd.prog 160 3 3 154 := ⟨⟨_, _, Tryd.underlying160, rfl, rfl, rfl⟩⟩
instance fld160_4 : Fld Tryd.prog 160 4 4 5 := ⟨⟨_, _, Tryd.underlying160, rfl, rfl, rfl⟩⟩
instance fld160_5 : Fld Tryd.prog 160 5 5 5 := ⟨⟨_, _, Tryd.underlying160, rfl, rfl, rfl⟩⟩
instance fld160_6 : Fld Tryd.prog 160 6 6 155 := ⟨⟨_, _, Tryd.underlying160, rfl, rfl, rfl⟩⟩
instance fld160_7 : Fld Tryd.prog 160 7 7 156 := ⟨⟨_, _, Tryd.underlying160, rfl, rfl, rfl⟩⟩
instance fld160_8 : Fld Tryd.prog 160 8 8 157 := ⟨⟨_, _, Tryd.underlying160, rfl, rfl, rfl⟩⟩
instance fld160_9 : Fld Tryd.prog 160 9 9 158 := ⟨⟨_, _, Tryd.underlying160, rfl, rfl, rfl⟩⟩
instance fld160_10 : Fld Tryd.prog 160 10 10 159 := ⟨⟨_, _, Tryd.underlying160, rfl, rfl, rfl⟩⟩
instance elt160 : ElT Tryd.prog 160 11 48 true (.agg #[.int .u64 0, .int .u64 0, .int .u32 0, .int .u8 0, .int .u8 0, .int .u8 0, .int .u8 0, .nilFunc, .pointer none, .int .i32 0, .int .i32 0]) := ElT.mk' (by kernel_rfl) rfl (by kernel_rfl)
instance fld161_0 : Fld Tryd.prog 161 0 0 12 := ⟨⟨_, _, Tryd.underlying161, rfl, rfl, rfl⟩⟩
instance fld161_1 : Fld Tryd.prog 161 1 1 12 := ⟨⟨_, _, Tryd.underlying161, rfl, rfl, rfl⟩⟩
instance fld161_2 : Fld Tryd.prog 161 2 2 144 := ⟨⟨_, _, Tryd.underlying161, rfl, rfl, rfl⟩⟩
instance fld161_3 : Fld Tryd.prog 161 3 3 154 := ⟨⟨_, _, Tryd.underlying161, rfl, rfl, rfl⟩⟩
instance fld161_4 : Fld Tryd.prog 161 4 4 5 := ⟨⟨_, _, Tryd.underlying161, rfl, rfl, rfl⟩⟩
instance fld161_5 : Fld Tryd.prog 161 5 5 5 := ⟨⟨_, _, Tryd.underlying161, rfl, rfl, rfl⟩⟩
instance fld161_6 : Fld Tryd.prog 161 6 6 155 := ⟨⟨_, _, Tryd.underlying161, rfl, rfl, rfl⟩⟩
instance fld161_7 : Fld Tryd.prog 161 7 7 156 := ⟨⟨_, _, Tryd.underlying161, rfl, rfl, rfl⟩⟩
instance fld161_8 : Fld Tryd.prog 161 8 8 157 := ⟨⟨_, _, Tryd.underlying161, rfl, rfl, rfl⟩⟩
instance fld161_9 : Fld Tryd.prog 161 9 9 158 := ⟨⟨_, _, Tryd.underlying161, rfl, rfl, rfl⟩⟩
instance fld161_10 : Fld Tryd.prog 161 10 10 159 := ⟨⟨_, _, Tryd.underlying161, rfl, rfl, rfl⟩⟩
instance elt161 : ElT Tryd.prog 161 11 48 true (.agg #[.int .u64 0, .int .u64 0, .int .u32 0, .int .u8 0, .int .u8 0, .int .u8 0, .int .u8 0, .nilFunc, .pointer none, .int .i32 0, .int .i32 0]) := ElT.mk' (by kernel_rfl) rfl (by kernel_rfl)
instance und162 : Und Tryd.prog 162 .unsafePointer := ⟨Tryd.underlying162⟩
instance elt162 : ElT Tryd.prog 162 1 8 false (.pointer none) := ElT.mk' (by kernel_rfl) rfl (by kernel_rfl)
instance cal2 : Callable Tryd.prog 2 := ⟨⟨_, Tryd.func2, by kernel_rfl, rfl⟩⟩
instance cal3 : Callable Tryd.prog 3 := ⟨⟨_, Tryd.func3, by kernel_rfl, rfl⟩⟩
instance cal4 : Callable Tryd.prog 4 := ⟨⟨_, Tryd.func4, by kernel_rfl, rfl⟩⟩
instance cal5 : Callable Tryd.prog 5 := ⟨⟨_, Tryd.func5, by kernel_rfl, rfl⟩⟩
instance cal6 : Callable Tryd.prog 6 := ⟨⟨_, Tryd.func6, by kernel_rfl, rfl⟩⟩
instance cal7 : Callable Tryd.prog 7 := ⟨⟨_, Tryd.func7, by kernel_rfl, rfl⟩⟩
instance cal8 : Callable Tryd.prog 8 := ⟨⟨_, Tryd.func8, by kernel_rfl, rfl⟩⟩
instance cal9 : Callable Tryd.prog 9 := ⟨⟨_, Tryd.func9, by kernel_rfl, rfl⟩⟩
instance cal10 : Callable Tryd.prog 10 := ⟨⟨_, Tryd.func10, by kernel_rfl, rfl⟩⟩
instance cal11 : Callable Tryd.prog 11 := ⟨⟨_, Tryd.func11, by kernel_rfl, rfl⟩⟩
instance cal12 : Callable Tryd.prog 12 := ⟨⟨_, Tryd.func12, by kernel_rfl, rfl⟩⟩
instance cal13 : Callable Tryd.prog 13 := ⟨⟨_, Tryd.func13, by kernel_rfl, rfl⟩⟩
instance cal14 : Callable Tryd.prog 14 := ⟨⟨_, Tryd.func14, by kernel_rfl, rfl⟩⟩
instance cal15 : Callable Tryd.prog 15 := ⟨⟨_, Tryd.func15, by kernel_rfl, rfl⟩⟩
instance cal16 : Callable Tryd.prog 16 := ⟨⟨_, Tryd.func16, by kernel_rfl, rfl⟩⟩
instance cal17 : Callable Tryd.prog 17 := ⟨⟨_, Tryd.func17, by kernel_rfl, rfl⟩⟩
instance cal18 : Callable Tryd.prog 18 := ⟨⟨_, Tryd.func18, by kernel_rfl, rfl⟩⟩
instance cal19 : Callable Tryd.prog 19 := ⟨⟨_, Tryd.func19, by kernel_rfl, rfl⟩⟩
instance cal20 : Callable Tryd.prog 20 := ⟨⟨_, Tryd.func20, by kernel_rfl, rfl⟩⟩
instance cal21 : Callable Tryd.prog 21 := ⟨⟨_, Tryd.func21, by kernel_rfl, rfl⟩⟩
instance cal22 : Callable Tryd.prog 22 := ⟨⟨_, Tryd.func22, by kernel_rfl, rfl⟩⟩
instance cal23 : Callable Tryd.prog 23 := ⟨⟨_, Tryd.func23, by kernel_rfl, rfl⟩⟩
instance cal24 : Callable Tryd.prog 24 := ⟨⟨_, Tryd.func24, by kernel_rfl, rfl⟩⟩
instance cal25 : Callable Tryd.prog 25 := ⟨⟨_, Tryd.func25, by kernel_rfl, rfl⟩⟩
instance cal26 : Callable Tryd.prog 26 := ⟨⟨_, Tryd.func26, by kernel_rfl, rfl⟩⟩
instance cal27 : Callable Tryd.prog 27 := ⟨⟨_, Tryd.func27, by kernel_rfl, rfl⟩⟩
instance cal28 : Callable Tryd.prog 28 := ⟨⟨_, Tryd.func28, by kernel_rfl, rfl⟩⟩
instance cal29 : Callable Tryd.prog 29 := ⟨⟨_, Tryd.func29, by kernel_rfl, rfl⟩⟩
instance cal30 : Callable Tryd.prog 30 := ⟨⟨_, Tryd.func30, by kernel_rfl, rfl⟩⟩
instance cal31 : Callable Tryd.prog 31 := ⟨⟨_, Tryd.func31, by kernel_rfl, rfl⟩⟩
instance cal32 : Callable Tryd.prog 32 := ⟨⟨_, Tryd.func32, by kernel_rfl, rfl⟩⟩
instance cal33 : Callable Tryd.prog 33 := ⟨⟨_, Tryd.func33, by kernel_rfl, rfl⟩⟩
instance cal34 : Callable Tryd.prog 34 := ⟨⟨_, Tryd.func34, by kernel_rfl, rfl⟩⟩
instance cal35 : Callable Tryd.prog 35 := ⟨⟨_, Tryd.func35, by kernel_rfl, rfl⟩⟩
instance cal36 : Callable Tryd.prog 36 := ⟨⟨_, Tryd.func36, by kernel_rfl, rfl⟩⟩
instance cal37 : Callable Tryd.prog 37 := ⟨⟨_, Tryd.func37, by kernel_rfl, rfl⟩⟩
instance cal38 : Callable Tryd.prog 38 := ⟨⟨_, Tryd.func38, by kernel_rfl, rfl⟩⟩
instance cal39 : Callable Tryd.prog 39 := ⟨⟨_, Tryd.func39, by kernel_rfl, rfl⟩⟩
instance cal40 : Callable Tryd.prog 40 := ⟨⟨_, Tryd.func40, by kernel_rfl, rfl⟩⟩
instance cal41 : Callable Tryd.prog 41 := ⟨⟨_, Tryd.func41, by kernel_rfl, rfl⟩⟩
instance cal42 : Callable Tryd.prog 42 := ⟨⟨_, Tryd.func42, by kernel_rfl, rfl⟩⟩
instance cal43 : Callable Tryd.prog 43 := ⟨⟨_, Tryd.func43, by kernel_rfl, rfl⟩⟩
instance cal44 : Callable Tryd.prog 44 := ⟨⟨_, Tryd.func44, by kernel_rfl, rfl⟩⟩
instance cal45 : Callable Tryd.prog 45 := ⟨⟨_, Tryd.func45, by kernel_rfl, rfl⟩⟩
instance cal46 : Callable Tryd.prog 46 := ⟨⟨_, Tryd.func46, by kernel_rfl, rfl⟩⟩
instance cal47 : Callable Tryd.prog 47 := ⟨⟨_, Tryd.func47, by kernel_rfl, rfl⟩⟩
instance cal48 : Callable Tryd.prog 48 := ⟨⟨_, Tryd.func48, by kernel_rfl, rfl⟩⟩
instance cal49 : Callable Tryd.prog 49 := ⟨⟨_, Tryd.func49, by kernel_rfl, rfl⟩⟩
instance cal50 : Callable Tryd.prog 50 := ⟨⟨_, Tryd.func50, by kernel_rfl, rfl⟩⟩
instance cal51 : Callable Tryd.prog 51 := ⟨⟨_, Tryd.func51, by kernel_rfl, rfl⟩⟩
instance cal52 : Callable Tryd.prog 52 := ⟨⟨_, Tryd.func52, by kernel_rfl, rfl⟩⟩
instance cal53 : Callable Tryd.prog 53 := ⟨⟨_, Tryd.func53, by kernel_rfl, rfl⟩⟩
instance cal54 : Callable Tryd.prog 54 := ⟨⟨_, Tryd.func54, by kernel_rfl, rfl⟩⟩
instance cal55 : Callable Tryd.prog 55 := ⟨⟨_, Tryd.func55, by kernel_rfl, rfl⟩⟩
instance cal56 : Callable Tryd.prog 56 := ⟨⟨_, Tryd.func56, by kernel_rfl, rfl⟩⟩
instance cal57 : Callable Tryd.prog 57 := ⟨⟨_, Tryd.func57, by kernel_rfl, rfl⟩⟩
instance cal58 : Callable Tryd.prog 58 := ⟨⟨_, Tryd.func58, by kernel_rfl, rfl⟩⟩
instance cal59 : Callable Tryd.prog 59 := ⟨⟨_, Tryd.func59, by kernel_rfl, rfl⟩⟩
instance cal60 : Callable Tryd.prog 60 := ⟨⟨_, Tryd.func60, by kernel_rfl, rfl⟩⟩
instance cal61 : Callable Tryd.prog 61 := ⟨⟨_, Tryd.func61, by kernel_rfl, rfl⟩⟩
instance cal62 : Callable Tryd.prog 62 := ⟨⟨_, Tryd.func62, by kernel_rfl, rfl⟩⟩
instance cal63 : Callable Tryd.prog 63 := ⟨⟨_, Tryd.func63, by kernel_rfl, rfl⟩⟩
instance cal64 : Callable Tryd.prog 64 := ⟨⟨_, Tryd.func64, by kernel_rfl, rfl⟩⟩
instance cal65 : Callable Tryd.prog 65 := ⟨⟨_, Tryd.func65, by kernel_rfl, rfl⟩⟩
instance cal66 : Callable Tryd.prog 66 := ⟨⟨_, Tryd.func66, by kernel_rfl, rfl⟩⟩
instance cal67 : Callable Tryd.prog 67 := ⟨⟨_, Tryd.func67, by kernel_rfl, rfl⟩⟩
instance cal68 : Callable Tryd.prog 68 := ⟨⟨_, Tryd.func68, by kernel_rfl, rfl⟩⟩
instance cal69 : Callable Tryd.prog 69 := ⟨⟨_, Tryd.func69, by kernel_rfl, rfl⟩⟩
instance cal70 : Callable Tryd.prog 70 := ⟨⟨_, Tryd.func70, by kernel_rfl, rfl⟩⟩
instance cal71 : Callable Tryd.prog 71 := ⟨⟨_, Tryd.func71, by kernel_rfl, rfl⟩⟩
instance cal72 : Callable Tryd.prog 72 := ⟨⟨_, Tryd.func72, by kernel_rfl, rfl⟩⟩
instance cal73 : Callable Tryd.prog 73 := ⟨⟨_, Tryd.func73, by kernel_rfl, rfl⟩⟩
instance cal74 : Callable Tryd.prog 74 := ⟨⟨_, Tryd.func74, by kernel_rfl, rfl⟩⟩
instance cal75 : Callable Tryd.prog 75 := ⟨⟨_, Tryd.func75, by kernel_rfl, rfl⟩⟩
instance cal76 : Callable Tryd.prog 76 := ⟨⟨_, Tryd.func76, by kernel_rfl, rfl⟩⟩
instance cal77 : Callable Tryd.prog 77 := ⟨⟨_, Tryd.func77, by kernel_rfl, rfl⟩⟩
instance cal78 : Callable Tryd.prog 78 := ⟨⟨_, Tryd.func78, by kernel_rfl, rfl⟩⟩
instance cal79 : Callable Tryd.prog 79 := ⟨⟨_, Tryd.func79, by kernel_rfl, rfl⟩⟩
instance cal80 : Callable Tryd.prog 80 := ⟨⟨_, Tryd.func80, by kernel_rfl, rfl⟩⟩
instance cal81 : Callable Tryd.prog 81 := ⟨⟨_, Tryd.func81, by kernel_rfl, rfl⟩⟩
instance cal82 : Callable Tryd.prog 82 := ⟨⟨_, Tryd.func82, by kernel_rfl, rfl⟩⟩
instance cal83 : Callable Tryd.prog 83 := ⟨⟨_, Tryd.func83, by kernel_rfl, rfl⟩⟩
instance cal84 : Callable Tryd.prog 84 := ⟨⟨_, Tryd.func84, by kernel_rfl, rfl⟩⟩
instance cal85 : Callable Tryd.prog 85 := ⟨⟨_, Tryd.func85, by kernel_rfl, rfl⟩⟩
instance cal86 : Callable Tryd.prog 86 := ⟨⟨_, Tryd.func86, by kernel_rfl, rfl⟩⟩
instance cal88 : Callable Tryd.prog 88 := ⟨⟨_, Tryd.func88, by kernel_rfl, rfl⟩⟩
instance cal89 : Callable Tryd.prog 89 := ⟨⟨_, Tryd.func89, by kernel_rfl, rfl⟩⟩
instance cal90 : Callable Tryd.prog 90 := ⟨⟨_, Tryd.func90, by kernel_rfl, rfl⟩⟩
instance cal91 : Callable Tryd.prog 91 := ⟨⟨_, Tryd.func91, by kernel_rfl, rfl⟩⟩
instance cal92 : Callable Tryd.prog 92 := ⟨⟨_, Tryd.func92, by kernel_rfl, rfl⟩⟩
instance cal93 : Callable Tryd.prog 93 := ⟨⟨_, Tryd.func93, by kernel_rfl, rfl⟩⟩
instance cal95 : Callable Tryd.prog 95 := ⟨⟨_, Tryd.func95, by kernel_rfl, rfl⟩⟩
instance cal96 : Callable Tryd.prog 96 := ⟨⟨_, Tryd.func96, by kernel_rfl, rfl⟩⟩
instance cal98 : Callable Tryd.prog 98 := ⟨⟨_, Tryd.func98, by kernel_rfl, rfl⟩⟩
instance cal99 : Callable Tryd.prog 99 := ⟨⟨_, Tryd.func99, by kernel_rfl, rfl⟩⟩
instance cal100 : Callable Tryd.prog 100 := ⟨⟨_, Tryd.func100, by kernel_rfl, rfl⟩⟩
instance cal122 : Callable Tryd.prog 122 := ⟨⟨_, Tryd.func122, by kernel_rfl, rfl⟩⟩
instance flat7 : Flat Tryd.prog 7 4 := ⟨⟨_, Tryd.underlying7, rfl, by kernel_rfl⟩⟩
instance flat8 : Flat Tryd.prog 8 4 := ⟨⟨_, Tryd.underlying8, rfl, by kernel_rfl⟩⟩
instance flat13 : Flat Tryd.prog 13 2 := ⟨⟨_, Tryd.underlying13, rfl, by kernel_rfl⟩⟩
instance flat14 : Flat Tryd.prog 14 2 := ⟨⟨_, Tryd.underlying14, rfl, by kernel_rfl⟩⟩
instance flat18 : Flat Tryd.prog 18 1 := ⟨⟨_, Tryd.underlying18, rfl, by kernel_rfl⟩⟩
instance flat19 : Flat Tryd.prog 19 1 := ⟨⟨_, Tryd.underlying19, rfl, by kernel_rfl⟩⟩
instance flat24 : Flat Tryd.prog 24 3 := ⟨⟨_, Tryd.underlying24, rfl, by kernel_rfl⟩⟩
instance flat25 : Flat Tryd.prog 25 3 := ⟨⟨_, Tryd.underlying25, rfl, by kernel_rfl⟩⟩
instance flat36 : Flat Tryd.prog 36 3 := ⟨⟨_, Tryd.underlying36, rfl, by kernel_rfl⟩⟩
instance flat37 : Flat Tryd.prog 37 3 := ⟨⟨_, Tryd.underlying37, rfl, by kernel_rfl⟩⟩
instance flat38 : Flat Tryd.prog 38 2 := ⟨⟨_, Tryd.underlying38, rfl, by kernel_rfl⟩⟩
instance flat39 : Flat Tryd.prog 39 2 := ⟨⟨_, Tryd.underlying39, rfl, by kernel_rfl⟩⟩
instance flat62 : Flat Tryd.prog 62 4 := ⟨⟨_, Tryd.underlying62, rfl, by kernel_rfl⟩⟩
instance flat63 : Flat Tryd.prog 63 4 := ⟨⟨_, Tryd.underlying63, rfl, by kernel_rfl⟩⟩
instance flat76 : Flat Tryd.prog 76 3 := ⟨⟨_, Tryd.underlying76, rfl, by kernel_rfl⟩⟩
instance flat77 : Flat Tryd.prog 77 3 := ⟨⟨_, Tryd.underlying77, rfl, by kernel_rfl⟩⟩
instance flat81 : Flat Tryd.prog 81 2 := ⟨⟨_, Tryd.underlying81, rfl, by kernel_rfl⟩⟩
instance flat82 : Flat Tryd.prog 82 2 := ⟨⟨_, Tryd.underlying82, rfl, by kernel_rfl⟩⟩
instance flat91 : Flat Tryd.prog 91 3 := ⟨⟨_, Tryd.underlying91, rfl, by kernel_rfl⟩⟩
instance flat92 : Flat Tryd.prog 92 3 := ⟨⟨_, Tryd.underlying92, rfl, by kernel_rfl⟩⟩
instance flat128 : Flat Tryd.prog 128 2 := ⟨⟨_, Tryd.underlying128, rfl, by kernel_rfl⟩⟩
instance flat129 : Flat Tryd.prog 129 2 := ⟨⟨_, Tryd.underlying129, rfl, by kernel_rfl⟩⟩
instance flat141 : Flat Tryd.prog 141 2 := ⟨⟨_, Tryd.underlying141, rfl, by kernel_rfl⟩⟩
instance flat142 : Flat Tryd.prog 142 2 := ⟨⟨_, Tryd.underlying142, rfl, by kernel_rfl⟩⟩
instance flat148 : Flat Tryd.prog 148 4 := ⟨⟨_, Tryd.underlying148, rfl, by kernel_rfl⟩⟩
instance flat149 : Flat Tryd.prog 149 4 := ⟨⟨_, Tryd.underlying149, rfl, by kernel_rfl⟩⟩
instance flat160 : Flat Tryd.prog 160 11 := ⟨⟨_, Tryd.underlying160, rfl, by kernel_rfl⟩⟩
instance flat161 : Flat Tryd.prog 161 11 := ⟨⟨_, Tryd.underlying161, rfl, by kernel_rfl⟩⟩
end Go.Proofs.YtjpebmgllfiloaaDoor

namespace Go.Proofs
open Go.Shelf
def Tryd.lays137_ren : Go.Shelf.Ren := ⟨fun | 137 => 73 | 217 => 80 | 266 => 87 | n => n, fun | 9 => 9 | 5 => 5 | 3 => 3 | n => n, fun | n => n⟩
theorem Tryd.lays137 : Go.Proofs.Lays.n137 Tryd.prog Tryd.lays137_ren := {
  mixed := by kernel_rfl
  f137 := Tryd.func73.trans (congrArg some (by kernel_rfl))
  f217 := Tryd.func80.trans (congrArg some (by kernel_rfl))
  f266 := Tryd.func87.trans (congrArg some (by kernel_rfl))
  t3 := Tryd.underlying3
  a3 := Tryd.isAgg3
  z3 := Tryd.sizeOf3
  v3 := Tryd.zeroValue3
  t5 := Tryd.underlying5
  a5 := Tryd.isAgg5
  z5 := Tryd.sizeOf5
  v5 := Tryd.zeroValue5
  t9 := Tryd.underlying9
  a9 := Tryd.isAgg9
  z9 := Tryd.sizeOf9
  v9 := Tryd.zeroValue9 }
open Go.RowKit in
theorem Tryd.strings_IndexByte (s : ByteArray) (c : Int) (w : World) :
    Calls Tryd.prog 73 #[.string s, .int .u8 c] w fun e w' => e = .returned (.int .i64 (Lib.indexByte s.data.toList c.toNat.toUInt8)) ∧ w' = w := Any.strings_IndexByte Tryd.lays137 s c w
def Tryd.lays210_ren : Go.Shelf.Ren := ⟨fun | 210 => 85 | 206 => 88 | n => n, fun | 9 => 9 | 4 => 4 | 3 => 3 | n => n, fun | n => n⟩
theorem Tryd.lays210 : Go.Proofs.Lays.n210 Tryd.prog Tryd.lays210_ren := {
  mixed := by kernel_rfl
  f206 := Tryd.func88.trans (congrArg some (by kernel_rfl))
  f210 := Tryd.func85.trans (congrArg some (by kernel_rfl))
  t3 := Tryd.underlying3
  a3 := Tryd.isAgg3
  z3 := Tryd.sizeOf3
  v3 := Tryd.zeroValue3
  t4 := Tryd.underlying4
  a4 := Tryd.isAgg4
  z4 := Tryd.sizeOf4
  v4 := Tryd.zeroValue4
  t9 := Tryd.underlying9
  a9 := Tryd.isAgg9
  z9 := Tryd.sizeOf9
  v9 := Tryd.zeroValue9 }
open Go.RowKit in
theorem Tryd.stringslite_CutPrefix (s p : ByteArray) (w : World) :
    Calls Tryd.prog 85 #[.string s, .string p] w fun e w' => e = .returned (.tuple #[.string ⟨(Lib.trimPrefix s.data.toList p.data.toList).toArray⟩, .bool (Lib.hasPrefix s.data.toList p.data.toList)]) ∧ w' = w := Any.stringslite_CutPrefix Tryd.lays210 s p w
def Tryd.lays103_ren : Go.Shelf.Ren := ⟨fun | 103 => 78 | 210 => 85 | 206 => 88 | n => n, fun | 9 => 9 | 4 => 4 | 24 => 44 | 3 => 3 | n => n, fun | n => n⟩
theorem Tryd.lays103 : Go.Proofs.Lays.n103 Tryd.prog Tryd.lays103_ren := {
  mixed := by kernel_rfl
  f103 := Tryd.func78.trans (congrArg some (by kernel_rfl))
  f206 := Tryd.func88.trans (congrArg some (by kernel_rfl))
  f210 := Tryd.func85.trans (congrArg some (by kernel_rfl))
  t3 := Tryd.underlying3
  a3 := Tryd.isAgg3
  z3 := Tryd.sizeOf3
  v3 := Tryd.zeroValue3
  t4 := Tryd.underlying4
  a4 := Tryd.isAgg4
  z4 := Tryd.sizeOf4
  v4 := Tryd.zeroValue4
  t9 := Tryd.underlying9
  a9 := Tryd.isAgg9
  z9 := Tryd.sizeOf9
  v9 := Tryd.zeroValue9
  t24 := Tryd.underlying44
  a24 := Tryd.isAgg44
  z24 := Tryd.sizeOf44
  v24 := Tryd.zeroValue44 }
open Go.RowKit in
theorem Tryd.strings_CutPrefix (s p : ByteArray) (w : World) :
    Calls Tryd.prog 78 #[.string s, .string p] w fun e w' => e = .returned (.tuple #[.string ⟨(Lib.trimPrefix s.data.toList p.data.toList).toArray⟩, .bool (Lib.hasPrefix s.data.toList p.data.toList)]) ∧ w' = w := Any.strings_CutPrefix Tryd.lays103 s p w
def Tryd.lays195_ren : Go.Shelf.Ren := ⟨fun | 195 => 92 | n => n, fun | 9 => 9 | 3 => 3 | 0 => 0 | 4 => 4 | n => n, fun | n => n⟩
theorem Tryd.lays195 : Go.Proofs.Lays.n195 Tryd.prog Tryd.lays195_ren := {
  mixed := by kernel_rfl
  f195 := Tryd.func92.trans (congrArg some (by kernel_rfl))
  t0 := Tryd.underlying0
  a0 := Tryd.isAgg0
  z0 := Tryd.sizeOf0
  v0 := Tryd.zeroValue0
  t3 := Tryd.underlying3
  a3 := Tryd.isAgg3
  z3 := Tryd.sizeOf3
  v3 := Tryd.zeroValue3
  t4 := Tryd.underlying4
  a4 := Tryd.isAgg4
  z4 := Tryd.sizeOf4
  v4 := Tryd.zeroValue4
  t9 := Tryd.underlying9
  a9 := Tryd.isAgg9
  z9 := Tryd.sizeOf9
  v9 := Tryd.zeroValue9 }
open Go.RowKit in
theorem Tryd.utf8_RuneCountInString (s : ByteArray) (w : World) (hs : s.size < 9223372036854775807) :
    Calls Tryd.prog 92 #[.string s] w fun e w' => e = .returned (.int .i64 (Lib.runeCount s)) ∧ ∃ pos, w' = w.iter s pos := Any.utf8_RuneCountInString Tryd.lays195 s w hs
def Tryd.lays217_ren : Go.Shelf.Ren := ⟨fun | 217 => 80 | 266 => 87 | n => n, fun | 9 => 9 | 5 => 5 | 3 => 3 | n => n, fun | n => n⟩
theorem Tryd.lays217 : Go.Proofs.Lays.n217 Tryd.prog Tryd.lays217_ren := {
  mixed := by kernel_rfl
  f217 := Tryd.func80.trans (congrArg some (by kernel_rfl))
  f266 := Tryd.func87.trans (congrArg some (by kernel_rfl))
  t3 := Tryd.underlying3
  a3 := Tryd.isAgg3
  z3 := Tryd.sizeOf3
  v3 := Tryd.zeroValue3
  t5 := Tryd.underlying5
  a5 := Tryd.isAgg5
  z5 := Tryd.sizeOf5
  v5 := Tryd.zeroValue5
  t9 := Tryd.underlying9
  a9 := Tryd.isAgg9
  z9 := Tryd.sizeOf9
  v9 := Tryd.zeroValue9 }
open Go.RowKit Go.Lib in
theorem Tryd.stringslite_IndexByte (s : ByteArray) (c : Int) (w : World) :
    Calls Tryd.prog 80 #[.string s, .int .u8 c] w fun e w' => e = .returned (.int .i64 (Lib.indexByte s.data.toList c.toNat.toUInt8)) ∧ w' = w := Any.stringslite_IndexByte Tryd.lays217 s c w
def Tryd.lays224_ren : Go.Shelf.Ren := ⟨fun | 224 => 98 | n => n, fun | 3 => 3 | n => n, fun | n => n⟩
theorem Tryd.lays224 : Go.Proofs.Lays.n224 Tryd.prog Tryd.lays224_ren := {
  mixed := by kernel_rfl
  f224 := Tryd.func98.trans (congrArg some (by kernel_rfl))
  t3 := Tryd.underlying3
  a3 := Tryd.isAgg3
  z3 := Tryd.sizeOf3
  v3 := Tryd.zeroValue3 }
open Go.RowKit Go.Lib in
theorem Tryd.bytealg_Cutover (n : Int) (h0 : 0 ≤ n) (h1 : n < 4611686018427387904) (w : World) :
    Calls Tryd.prog 98 #[.int .i64 n] w fun e w' => e = .returned (.int .i64 ((n + 16) / 8)) ∧ w' = w := Any.bytealg_Cutover Tryd.lays224 n h0 h1 w
def Tryd.lays314_ren : Go.Shelf.Ren := ⟨fun | 314 => 100 | n => n, fun | 9 => 9 | 51 => 144 | 3 => 3 | 4 => 4 | 5 => 5 | 46 => 139 | n => n, fun | n => n⟩
theorem Tryd.lays314 : Go.Proofs.Lays.n314 Tryd.prog Tryd.lays314_ren := {
  mixed := by kernel_rfl
  f314 := Tryd.func100.trans (congrArg some (by kernel_rfl))
  t3 := Tryd.underlying3
  a3 := Tryd.isAgg3
  z3 := Tryd.sizeOf3
  v3 := Tryd.zeroValue3
  t4 := Tryd.underlying4
  a4 := Tryd.isAgg4
  z4 := Tryd.sizeOf4
  v4 := Tryd.zeroValue4
  t5 := Tryd.underlying5
  a5 := Tryd.isAgg5
  z5 := Tryd.sizeOf5
  v5 := Tryd.zeroValue5
  t9 := Tryd.underlying9
  a9 := Tryd.isAgg9
  z9 := Tryd.sizeOf9
  v9 := Tryd.zeroValue9
  t46 := Tryd.underlying139
  a46 := Tryd.isAgg139
  z46 := Tryd.sizeOf139
  v46 := Tryd.zeroValue139
  t51 := Tryd.underlying144
  a51 := Tryd.isAgg144
  z51 := Tryd.sizeOf144
  v51 := Tryd.zeroValue144 }
open Go.RowKit Go.Lib in
theorem Tryd.bytealg_hashStr (sep : ByteArray) (hs : sep.size < 4294967281) (w : World) :
    Calls Tryd.prog 100 #[.string sep] w fun e w' => e = .returned (.tuple #[.int .u32 (RK.H sep.data.toList % 4294967296), .int .u32 (16777619 ^ sep.size % 4294967296)]) ∧ w' = w := Any.bytealg_hashStr Tryd.lays314 sep hs w
def Tryd.lays267_ren : Go.Shelf.Ren := ⟨fun | 267 => 99 | 314 => 100 | n => n, fun | 9 => 9 | 3 => 3 | 146 => 145 | 51 => 144 | 4 => 4 | 5 => 5 | 46 => 139 | n => n, fun | n => n⟩
theorem Tryd.lays267 : Go.Proofs.Lays.n267 Tryd.prog Tryd.lays267_ren := {
  mixed := by kernel_rfl
  f267 := Tryd.func99.trans (congrArg some (by kernel_rfl))
  f314 := Tryd.func100.trans (congrArg some (by kernel_rfl))
  t3 := Tryd.underlying3
  a3 := Tryd.isAgg3
  z3 := Tryd.sizeOf3
  v3 := Tryd.zeroValue3
  t4 := Tryd.underlying4
  a4 := Tryd.isAgg4
  z4 := Tryd.sizeOf4
  v4 := Tryd.zeroValue4
  t5 := Tryd.underlying5
  a5 := Tryd.isAgg5
  z5 := Tryd.sizeOf5
  v5 := Tryd.zeroValue5
  t9 := Tryd.underlying9
  a9 := Tryd.isAgg9
  z9 := Tryd.sizeOf9
  v9 := Tryd.zeroValue9
  t46 := Tryd.underlying139
  a46 := Tryd.isAgg139
  z46 := Tryd.sizeOf139
  v46 := Tryd.zeroValue139
  t51 := Tryd.underlying144
  a51 := Tryd.isAgg144
  z51 := Tryd.sizeOf144
  v51 := Tryd.zeroValue144
  t146 := Tryd.underlying145
  a146 := Tryd.isAgg145
  z146 := Tryd.sizeOf145
  v146 := Tryd.zeroValue145 }
open Go.RowKit Go.Lib in
theorem Tryd.bytealg_IndexRabinKarp (s sep : ByteArray) (h1 : 1 ≤ sep.size) (h2 : sep.size ≤ s.size) (hs : s.size < 4294967281) (w : World) :
    Calls Tryd.prog 99 #[.string s, .string sep] w fun e w' => e = .returned (.int .i64 (Lib.index s.data.toList sep.data.toList)) ∧ w' = w := Any.bytealg_IndexRabinKarp Tryd.lays267 s sep h1 h2 hs w
def Tryd.lays219_ren : Go.Shelf.Ren := ⟨fun | 219 => 95 | 217 => 80 | 225 => 97 | 224 => 98 | 267 => 99 | 266 => 87 | 314 => 100 | n => n, fun | 9 => 9 | 3 => 3 | 4 => 4 | 5 => 5 | 46 => 139 | 146 => 145 | 51 => 144 | n => n, fun | 1 => 0 | n => n⟩
theorem Tryd.lays219 : Go.Proofs.Lays.n219 Tryd.prog Tryd.lays219_ren := {
  mixed := by kernel_rfl
  f217 := Tryd.func80.trans (congrArg some (by kernel_rfl))
  f219 := Tryd.func95.trans (congrArg some (by kernel_rfl))
  f224 := Tryd.func98.trans (congrArg some (by kernel_rfl))
  f225 := Tryd.func97.trans (congrArg some (by kernel_rfl))
  f266 := Tryd.func87.trans (congrArg some (by kernel_rfl))
  f267 := Tryd.func99.trans (congrArg some (by kernel_rfl))
  f314 := Tryd.func100.trans (congrArg some (by kernel_rfl))
  t3 := Tryd.underlying3
  a3 := Tryd.isAgg3
  z3 := Tryd.sizeOf3
  v3 := Tryd.zeroValue3
  t4 := Tryd.underlying4
  a4 := Tryd.isAgg4
  z4 := Tryd.sizeOf4
  v4 := Tryd.zeroValue4
  t5 := Tryd.underlying5
  a5 := Tryd.isAgg5
  z5 := Tryd.sizeOf5
  v5 := Tryd.zeroValue5
  t9 := Tryd.underlying9
  a9 := Tryd.isAgg9
  z9 := Tryd.sizeOf9
  v9 := Tryd.zeroValue9
  t46 := Tryd.underlying139
  a46 := Tryd.isAgg139
  z46 := Tryd.sizeOf139
  v46 := Tryd.zeroValue139
  t51 := Tryd.underlying144
  a51 := Tryd.isAgg144
  z51 := Tryd.sizeOf144
  v51 := Tryd.zeroValue144
  t146 := Tryd.underlying145
  a146 := Tryd.isAgg145
  z146 := Tryd.sizeOf145
  v146 := Tryd.zeroValue145
  g1 := by kernel_rfl }
open Go.RowKit Go.Lib in
theorem Tryd.stringslite_Index_one (s : ByteArray) (c : UInt8) (w : World) :
    Calls Tryd.prog 95 #[.string s, .string ⟨#[c]⟩] w fun e w' => e = .returned (.int .i64 (Lib.indexByte s.data.toList c)) ∧ w' = w := Any.stringslite_Index_one Tryd.lays219 s c w
open Go.RowKit Go.Lib in
theorem Tryd.stringslite_Index (s sub : ByteArray) (m : Int) (w : World) (hs : s.size < 4294967281) (hm : w.cell? ⟨0, 0, none⟩ = some (.int .i64 m)) :
    Calls Tryd.prog 95 #[.string s, .string sub] w fun e w' => e = .returned (.int .i64 (Lib.index s.data.toList sub.data.toList)) ∧ w' = w := Any.stringslite_Index Tryd.lays219 s sub m w hs hm
def Tryd.lays143_ren : Go.Shelf.Ren := ⟨fun | 143 => 91 | 219 => 95 | 217 => 80 | 225 => 97 | 224 => 98 | 267 => 99 | 266 => 87 | 314 => 100 | n => n, fun | 9 => 9 | 3 => 3 | 4 => 4 | 5 => 5 | 46 => 139 | 146 => 145 | 51 => 144 | n => n, fun | 1 => 0 | n => n⟩
theorem Tryd.lays143 : Go.Proofs.Lays.n143 Tryd.prog Tryd.lays143_ren := {
  mixed := by kernel_rfl
  f143 := Tryd.func91.trans (congrArg some (by kernel_rfl))
  f217 := Tryd.func80.trans (congrArg some (by kernel_rfl))
  f219 := Tryd.func95.trans (congrArg some (by kernel_rfl))
  f224 := Tryd.func98.trans (congrArg some (by kernel_rfl))
  f225 := Tryd.func97.trans (congrArg some (by kernel_rfl))
  f266 := Tryd.func87.trans (congrArg some (by kernel_rfl))
  f267 := Tryd.func99.trans (congrArg some (by kernel_rfl))
  f314 := Tryd.func100.trans (congrArg some (by kernel_rfl))
  t3 := Tryd.underlying3
  a3 := Tryd.isAgg3
  z3 := Tryd.sizeOf3
  v3 := Tryd.zeroValue3
  t4 := Tryd.underlying4
  a4 := Tryd.isAgg4
  z4 := Tryd.sizeOf4
  v4 := Tryd.zeroValue4
  t5 := Tryd.underlying5
  a5 := Tryd.isAgg5
  z5 := Tryd.sizeOf5
  v5 := Tryd.zeroValue5
  t9 := Tryd.underlying9
  a9 := Tryd.isAgg9
  z9 := Tryd.sizeOf9
  v9 := Tryd.zeroValue9
  t46 := Tryd.underlying139
  a46 := Tryd.isAgg139
  z46 := Tryd.sizeOf139
  v46 := Tryd.zeroValue139
  t51 := Tryd.underlying144
  a51 := Tryd.isAgg144
  z51 := Tryd.sizeOf144
  v51 := Tryd.zeroValue144
  t146 := Tryd.underlying145
  a146 := Tryd.isAgg145
  z146 := Tryd.sizeOf145
  v146 := Tryd.zeroValue145
  g1 := by kernel_rfl }
open Go.RowKit Go.Lib in
theorem Tryd.strings_Index_one (s : ByteArray) (c : UInt8) (w : World) :
    Calls Tryd.prog 91 #[.string s, .string ⟨#[c]⟩] w fun e w' => e = .returned (.int .i64 (Lib.indexByte s.data.toList c)) ∧ w' = w := Any.strings_Index_one Tryd.lays143 s c w
open Go.RowKit Go.Lib in
theorem Tryd.strings_Index (s sub : ByteArray) (m : Int) (w : World) (hs : s.size < 4294967281) (hm : w.cell? ⟨0, 0, none⟩ = some (.int .i64 m)) :
    Calls Tryd.prog 91 #[.string s, .string sub] w fun e w' => e = .returned (.int .i64 (Lib.index s.data.toList sub.data.toList)) ∧ w' = w := Any.strings_Index Tryd.lays143 s sub m w hs hm
def Tryd.lays138_ren : Go.Shelf.Ren := ⟨fun | 138 => 90 | 195 => 92 | 218 => 94 | 143 => 91 | 219 => 95 | 217 => 80 | 225 => 97 | 224 => 98 | 267 => 99 | 266 => 87 | 314 => 100 | n => n, fun | 9 => 9 | 3 => 3 | 4 => 4 | 5 => 5 | 0 => 0 | 46 => 139 | 146 => 145 | 51 => 144 | n => n, fun | 1 => 0 | n => n⟩
theorem Tryd.lays138 : Go.Proofs.Lays.n138 Tryd.prog Tryd.lays138_ren := {
  mixed := by kernel_rfl
  f138 := Tryd.func90.trans (congrArg some (by kernel_rfl))
  f143 := Tryd.func91.trans (congrArg some (by kernel_rfl))
  f195 := Tryd.func92.trans (congrArg some (by kernel_rfl))
  f217 := Tryd.func80.trans (congrArg some (by kernel_rfl))
  f218 := Tryd.func94.trans (congrArg some (by kernel_rfl))
  f219 := Tryd.func95.trans (congrArg some (by kernel_rfl))
  f224 := Tryd.func98.trans (congrArg some (by kernel_rfl))
  f225 := Tryd.func97.trans (congrArg some (by kernel_rfl))
  f266 := Tryd.func87.trans (congrArg some (by kernel_rfl))
  f267 := Tryd.func99.trans (congrArg some (by kernel_rfl))
  f314 := Tryd.func100.trans (congrArg some (by kernel_rfl))
  t0 := Tryd.underlying0
  a0 := Tryd.isAgg0
  z0 := Tryd.sizeOf0
  v0 := Tryd.zeroValue0
  t3 := Tryd.underlying3
  a3 := Tryd.isAgg3
  z3 := Tryd.sizeOf3
  v3 := Tryd.zeroValue3
  t4 := Tryd.underlying4
  a4 := Tryd.isAgg4
  z4 := Tryd.sizeOf4
  v4 := Tryd.zeroValue4
  t5 := Tryd.underlying5
  a5 := Tryd.isAgg5
  z5 := Tryd.sizeOf5
  v5 := Tryd.zeroValue5
  t9 := Tryd.underlying9
  a9 := Tryd.isAgg9
  z9 := Tryd.sizeOf9
  v9 := Tryd.zeroValue9
  t46 := Tryd.underlying139
  a46 := Tryd.isAgg139
  z46 := Tryd.sizeOf139
  v46 := Tryd.zeroValue139
  t51 := Tryd.underlying144
  a51 := Tryd.isAgg144
  z51 := Tryd.sizeOf144
  v51 := Tryd.zeroValue144
  t146 := Tryd.underlying145
  a146 := Tryd.isAgg145
  z146 := Tryd.sizeOf145
  v146 := Tryd.zeroValue145
  g1 := by kernel_rfl }
open Go.RowKit Go.Lib in
theorem Tryd.strings_Count_one (s : ByteArray) (c : UInt8) (w : World) :
    Calls Tryd.prog 90 #[.string s, .string ⟨#[c]⟩] w fun e w' => e = .returned (.int .i64 (Lib.countByte s.data.toList c)) ∧ w' = w := Any.strings_Count_one Tryd.lays138 s c w
open Go.RowKit Go.Lib in
theorem Tryd.strings_Count (s sub : ByteArray) (m : Int) (w : World) (hs : s.size < 4294967281) (hm : w.cell? ⟨0, 0, none⟩ = some (.int .i64 m)) (h2 : 2 ≤ sub.size) :
    Calls Tryd.prog 90 #[.string s, .string sub] w fun e w' => e = .returned (.int .i64 (Lib.countB s sub)) ∧ w' = w := Any.strings_Count Tryd.lays138 s sub m w hs hm h2
def Tryd.laysM219_ren : Go.Shelf.Ren := ⟨fun | 219 => 95 | 217 => 80 | 225 => 97 | 224 => 98 | 267 => 99 | 266 => 87 | 314 => 100 | n => n, fun | 9 => 9 | 3 => 3 | 4 => 4 | 5 => 5 | 46 => 139 | 146 => 145 | 51 => 144 | n => n, fun | 1 => 0 | n => n⟩
theorem Tryd.laysM219 : Go.Proofs.LaysM.n219 Tryd.prog Tryd.laysM219_ren := {
  mixed := by kernel_rfl
  f217 := Tryd.func80.trans (congrArg some (by kernel_rfl))
  f219 := Tryd.func95.trans (congrArg some (by kernel_rfl))
  f224 := Tryd.func98.trans (congrArg some (by kernel_rfl))
  f225 := Tryd.func97.trans (congrArg some (by kernel_rfl))
  f266 := Tryd.func87.trans (congrArg some (by kernel_rfl))
  f267 := Tryd.func99.trans (congrArg some (by kernel_rfl))
  f314 := Tryd.func100.trans (congrArg some (by kernel_rfl))
  t3 := Tryd.underlying3
  a3 := Tryd.isAgg3
  z3 := Tryd.sizeOf3
  v3 := Tryd.zeroValue3
  t4 := Tryd.underlying4
  a4 := Tryd.isAgg4
  z4 := Tryd.sizeOf4
  v4 := Tryd.zeroValue4
  t5 := Tryd.underlying5
  a5 := Tryd.isAgg5
  z5 := Tryd.sizeOf5
  v5 := Tryd.zeroValue5
  t9 := Tryd.underlying9
  a9 := Tryd.isAgg9
  z9 := Tryd.sizeOf9
  v9 := Tryd.zeroValue9
  t46 := Tryd.underlying139
  a46 := Tryd.isAgg139
  z46 := Tryd.sizeOf139
  v46 := Tryd.zeroValue139
  t51 := Tryd.underlying144
  a51 := Tryd.isAgg144
  z51 := Tryd.sizeOf144
  v51 := Tryd.zeroValue144
  t146 := Tryd.underlying145
  a146 := Tryd.isAgg145
  z146 := Tryd.sizeOf145
  v146 := Tryd.zeroValue145
  g1 := by kernel_rfl
  i3 := by kernel_rfl
  i4 := by kernel_rfl
  i5 := by kernel_rfl
  i9 := by kernel_rfl
  i46 := by kernel_rfl
  i51 := by kernel_rfl
  i146 := by kernel_rfl
  m1 := by kernel_rfl
  s1_3 := fun w h => Go.Proofs.cell_of_shapedOpen_int (zero := #[.int .i64 0]) (t := 3) h (of_decide_eq_true (by kernel_rfl)) (by kernel_rfl) rfl (by kernel_rfl) (by kernel_rfl) Tryd.underlying3 }
open Go.RowKit Go.Lib in
theorem Tryd.stringslite_Index_shaped (s sub : ByteArray) (w : World) (h : w.ShapedOpen Tryd.prog) (hs : s.size < 4294967281) :
    Calls Tryd.prog 95 #[.string s, .string sub] w fun e w' => e = .returned (.int .i64 (Lib.index s.data.toList sub.data.toList)) ∧ w' = w := Any.stringslite_Index_shaped Tryd.laysM219 s sub w h hs
def Tryd.laysM143_ren : Go.Shelf.Ren := ⟨fun | 143 => 91 | 219 => 95 | 217 => 80 | 225 => 97 | 224 => 98 | 267 => 99 | 266 => 87 | 314 => 100 | n => n, fun | 9 => 9 | 3 => 3 | 4 => 4 | 5 => 5 | 46 => 139 | 146 => 145 | 51 => 144 | n => n, fun | 1 => 0 | n => n⟩
theorem Tryd.laysM143 : Go.Proofs.LaysM.n143 Tryd.prog Tryd.laysM143_ren := {
  mixed := by kernel_rfl
  f143 := Tryd.func91.trans (congrArg some (by kernel_rfl))
  f217 := Tryd.func80.trans (congrArg some (by kernel_rfl))
  f219 := Tryd.func95.trans (congrArg some (by kernel_rfl))
  f224 := Tryd.func98.trans (congrArg some (by kernel_rfl))
  f225 := Tryd.func97.trans (congrArg some (by kernel_rfl))
  f266 := Tryd.func87.trans (congrArg some (by kernel_rfl))
  f267 := Tryd.func99.trans (congrArg some (by kernel_rfl))
  f314 := Tryd.func100.trans (congrArg some (by kernel_rfl))
  t3 := Tryd.underlying3
  a3 := Tryd.isAgg3
  z3 := Tryd.sizeOf3
  v3 := Tryd.zeroValue3
  t4 := Tryd.underlying4
  a4 := Tryd.isAgg4
  z4 := Tryd.sizeOf4
  v4 := Tryd.zeroValue4
  t5 := Tryd.underlying5
  a5 := Tryd.isAgg5
  z5 := Tryd.sizeOf5
  v5 := Tryd.zeroValue5
  t9 := Tryd.underlying9
  a9 := Tryd.isAgg9
  z9 := Tryd.sizeOf9
  v9 := Tryd.zeroValue9
  t46 := Tryd.underlying139
  a46 := Tryd.isAgg139
  z46 := Tryd.sizeOf139
  v46 := Tryd.zeroValue139
  t51 := Tryd.underlying144
  a51 := Tryd.isAgg144
  z51 := Tryd.sizeOf144
  v51 := Tryd.zeroValue144
  t146 := Tryd.underlying145
  a146 := Tryd.isAgg145
  z146 := Tryd.sizeOf145
  v146 := Tryd.zeroValue145
  g1 := by kernel_rfl
  i3 := by kernel_rfl
  i4 := by kernel_rfl
  i5 := by kernel_rfl
  i9 := by kernel_rfl
  i46 := by kernel_rfl
  i51 := by kernel_rfl
  i146 := by kernel_rfl
  m1 := by kernel_rfl
  s1_3 := fun w h => Go.Proofs.cell_of_shapedOpen_int (zero := #[.int .i64 0]) (t := 3) h (of_decide_eq_true (by kernel_rfl)) (by kernel_rfl) rfl (by kernel_rfl) (by kernel_rfl) Tryd.underlying3 }
open Go.RowKit Go.Lib in
theorem Tryd.strings_Index_shaped (s sub : ByteArray) (w : World) (h : w.ShapedOpen Tryd.prog) (hs : s.size < 4294967281) :
    Calls Tryd.prog 91 #[.string s, .string sub] w fun e w' => e = .returned (.int .i64 (Lib.index s.data.toList sub.data.toList)) ∧ w' = w := Any.strings_Index_shaped Tryd.laysM143 s sub w h hs
def Tryd.laysM138_ren : Go.Shelf.Ren := ⟨fun | 138 => 90 | 195 => 92 | 218 => 94 | 143 => 91 | 219 => 95 | 217 => 80 | 225 => 97 | 224 => 98 | 267 => 99 | 266 => 87 | 314 => 100 | n => n, fun | 9 => 9 | 3 => 3 | 4 => 4 | 5 => 5 | 0 => 0 | 46 => 139 | 146 => 145 | 51 => 144 | n => n, fun | 1 => 0 | n => n⟩
theorem Tryd.laysM138 : Go.Proofs.LaysM.n138 Tryd.prog Tryd.laysM138_ren := {
  mixed := by kernel_rfl
  f138 := Tryd.func90.trans (congrArg some (by kernel_rfl))
  f143 := Tryd.func91.trans (congrArg some (by kernel_rfl))
  f195 := Tryd.func92.trans (congrArg some (by kernel_rfl))
  f217 := Tryd.func80.trans (congrArg some (by kernel_rfl))
  f218 := Tryd.func94.trans (congrArg some (by kernel_rfl))
  f219 := Tryd.func95.trans (congrArg some (by kernel_rfl))
  f224 := Tryd.func98.trans (congrArg some (by kernel_rfl))
  f225 := Tryd.func97.trans (congrArg some (by kernel_rfl))
  f266 := Tryd.func87.trans (congrArg some (by kernel_rfl))
  f267 := Tryd.func99.trans (congrArg some (by kernel_rfl))
  f314 := Tryd.func100.trans (congrArg some (by kernel_rfl))
  t0 := Tryd.underlying0
  a0 := Tryd.isAgg0
  z0 := Tryd.sizeOf0
  v0 := Tryd.zeroValue0
  t3 := Tryd.underlying3
  a3 := Tryd.isAgg3
  z3 := Tryd.sizeOf3
  v3 := Tryd.zeroValue3
  t4 := Tryd.underlying4
  a4 := Tryd.isAgg4
  z4 := Tryd.sizeOf4
  v4 := Tryd.zeroValue4
  t5 := Tryd.underlying5
  a5 := Tryd.isAgg5
  z5 := Tryd.sizeOf5
  v5 := Tryd.zeroValue5
  t9 := Tryd.underlying9
  a9 := Tryd.isAgg9
  z9 := Tryd.sizeOf9
  v9 := Tryd.zeroValue9
  t46 := Tryd.underlying139
  a46 := Tryd.isAgg139
  z46 := Tryd.sizeOf139
  v46 := Tryd.zeroValue139
  t51 := Tryd.underlying144
  a51 := Tryd.isAgg144
  z51 := Tryd.sizeOf144
  v51 := Tryd.zeroValue144
  t146 := Tryd.underlying145
  a146 := Tryd.isAgg145
  z146 := Tryd.sizeOf145
  v146 := Tryd.zeroValue145
  g1 := by kernel_rfl
  i0 := by kernel_rfl
  i3 := by kernel_rfl
  i4 := by kernel_rfl
  i5 := by kernel_rfl
  i9 := by kernel_rfl
  i46 := by kernel_rfl
  i51 := by kernel_rfl
  i146 := by kernel_rfl
  m1 := by kernel_rfl
  s1_3 := fun w h => Go.Proofs.cell_of_shapedOpen_int (zero := #[.int .i64 0]) (t := 3) h (of_decide_eq_true (by kernel_rfl)) (by kernel_rfl) rfl (by kernel_rfl) (by kernel_rfl) Tryd.underlying3 }
open Go.RowKit Go.Lib in
theorem Tryd.strings_Count_shaped (s sub : ByteArray) (w : World) (h : w.ShapedOpen Tryd.prog) (hs : s.size < 4294967281) (h2 : 2 ≤ sub.size) :
    Calls Tryd.prog 90 #[.string s, .string sub] w fun e w' => e = .returned (.int .i64 (Lib.countB s sub)) ∧ w' = w := Any.strings_Count_shaped Tryd.laysM138 s sub w h hs h2
def Tryd.lays206_ren : Go.Shelf.Ren := ⟨fun | 206 => 88 | n => n, fun | 9 => 9 | 4 => 4 | 3 => 3 | n => n, fun | n => n⟩
theorem Tryd.lays206 : Go.Proofs.Lays.n206 Tryd.prog Tryd.lays206_ren := {
  mixed := by kernel_rfl
  f206 := Tryd.func88.trans (congrArg some (by kernel_rfl))
  t3 := Tryd.underlying3
  a3 := Tryd.isAgg3
  z3 := Tryd.sizeOf3
  v3 := Tryd.zeroValue3
  t4 := Tryd.underlying4
  a4 := Tryd.isAgg4
  z4 := Tryd.sizeOf4
  v4 := Tryd.zeroValue4
  t9 := Tryd.underlying9
  a9 := Tryd.isAgg9
  z9 := Tryd.sizeOf9
  v9 := Tryd.zeroValue9 }
open Go.RowKit Go.Lib in
theorem Tryd.stringslite_HasPrefix (s p : ByteArray) (w : World) :
    Calls Tryd.prog 88 #[.string s, .string p] w fun e w' => e = .returned (.bool (Lib.hasPrefix s.data.toList p.data.toList)) ∧ w' = w := Any.stringslite_HasPrefix Tryd.lays206 s p w
open Go.RowKit Go.Lib in
theorem Tryd.strings_Count_any (s sep : ByteArray) (m : Int) (w : World) (hs : s.size < 4294967281) (hm : w.cell? ⟨0, 0, none⟩ = some (.int .i64 m)) (h1 : 1 ≤ sep.size) :
    Calls Tryd.prog 90 #[.string s, .string sep] w fun e w' => e = .returned (.int .i64 (Lib.countB s sep)) ∧ w' = w := Any.strings_Count_any Tryd.lays138 s sep m w hs hm h1
def Tryd.lays221_ren : Go.Shelf.Ren := ⟨fun | 221 => 86 | 268 => 89 | 138 => 90 | 143 => 91 | 195 => 92 | 197 => 93 | 218 => 94 | 219 => 95 | 260 => 96 | 217 => 80 | 225 => 97 | 224 => 98 | 267 => 99 | 266 => 87 | 314 => 100 | n => n, fun | 9 => 9 | 3 => 3 | 31 => 23 | 4 => 4 | 0 => 0 | 105 => 136 | 21 => 21 | 5 => 5 | 46 => 139 | 119 => 140 | 139 => 143 | 138 => 142 | 146 => 145 | 51 => 144 | n => n, fun | 1 => 0 | 3 => 1 | 4 => 2 | n => n⟩
theorem Tryd.lays221 : Go.Proofs.Lays.n221 Tryd.prog Tryd.lays221_ren := {
  mixed := by kernel_rfl
  f138 := Tryd.func90.trans (congrArg some (by kernel_rfl))
  f143 := Tryd.func91.trans (congrArg some (by kernel_rfl))
  f195 := Tryd.func92.trans (congrArg some (by kernel_rfl))
  f197 := Tryd.func93.trans (congrArg some (by kernel_rfl))
  f217 := Tryd.func80.trans (congrArg some (by kernel_rfl))
  f218 := Tryd.func94.trans (congrArg some (by kernel_rfl))
  f219 := Tryd.func95.trans (congrArg some (by kernel_rfl))
  f221 := Tryd.func86.trans (congrArg some (by kernel_rfl))
  f224 := Tryd.func98.trans (congrArg some (by kernel_rfl))
  f225 := Tryd.func97.trans (congrArg some (by kernel_rfl))
  f260 := Tryd.func96.trans (congrArg some (by kernel_rfl))
  f266 := Tryd.func87.trans (congrArg some (by kernel_rfl))
  f267 := Tryd.func99.trans (congrArg some (by kernel_rfl))
  f268 := Tryd.func89.trans (congrArg some (by kernel_rfl))
  f314 := Tryd.func100.trans (congrArg some (by kernel_rfl))
  t0 := Tryd.underlying0
  a0 := Tryd.isAgg0
  z0 := Tryd.sizeOf0
  v0 := Tryd.zeroValue0
  t3 := Tryd.underlying3
  a3 := Tryd.isAgg3
  z3 := Tryd.sizeOf3
  v3 := Tryd.zeroValue3
  t4 := Tryd.underlying4
  a4 := Tryd.isAgg4
  z4 := Tryd.sizeOf4
  v4 := Tryd.zeroValue4
  t5 := Tryd.underlying5
  a5 := Tryd.isAgg5
  z5 := Tryd.sizeOf5
  v5 := Tryd.zeroValue5
  t9 := Tryd.underlying9
  a9 := Tryd.isAgg9
  z9 := Tryd.sizeOf9
  v9 := Tryd.zeroValue9
  t21 := Tryd.underlying21
  a21 := Tryd.isAgg21
  z21 := Tryd.sizeOf21
  v21 := Tryd.zeroValue21
  t31 := Tryd.underlying23
  a31 := Tryd.isAgg23
  z31 := Tryd.sizeOf23
  v31 := Tryd.zeroValue23
  t46 := Tryd.underlying139
  a46 := Tryd.isAgg139
  z46 := Tryd.sizeOf139
  v46 := Tryd.zeroValue139
  t51 := Tryd.underlying144
  a51 := Tryd.isAgg144
  z51 := Tryd.sizeOf144
  v51 := Tryd.zeroValue144
  t105 := Tryd.underlying136
  a105 := Tryd.isAgg136
  z105 := Tryd.sizeOf136
  v105 := Tryd.zeroValue136
  t119 := Tryd.underlying140
  a119 := Tryd.isAgg140
  z119 := Tryd.sizeOf140
  t138 := Tryd.underlying142
  a138 := Tryd.isAgg142
  z138 := Tryd.sizeOf142
  v138 := Tryd.zeroValue142
  t139 := Tryd.underlying143
  a139 := Tryd.isAgg143
  z139 := Tryd.sizeOf143
  v139 := Tryd.zeroValue143
  t146 := Tryd.underlying145
  a146 := Tryd.isAgg145
  z146 := Tryd.sizeOf145
  v146 := Tryd.zeroValue145
  g1 := by kernel_rfl
  g3 := by kernel_rfl
  g4 := by kernel_rfl }
open Go.RowKit Go.Lib in
theorem Tryd.strings_genSplit (s sep : ByteArray) (sv : Nat) (n : Int) (N : Nat) (m : Int) (w : World) (hs : s.size < 4294967281) (hm : w.cell? ⟨0, 0, none⟩ = some (.int .i64 m)) (h1 : 1 ≤ sep.size) (hsv : sv ≤ sep.size) (hn0 : n ≠ 0) (hn63 : n ≤ 9223372036854775807) (hN : (N : Int) = min (if n < 0 then (Lib.countB s sep : Int) + 1 else n) ((s.size : Int) + 1)) :
    Calls Tryd.prog 86 #[.string s, .string sep, .int .i64 sv, .int .i64 n] w fun e w' =>
      e = .returned (.slice (some ⟨w.heap.size, 0, none⟩) (Lib.splitB sep sv (N - 1) s).length N) ∧ w' = w.alloc (.cells (Lib.cellsOf (Lib.splitB sep sv (N - 1) s) N) 9) := Any.strings_genSplit Tryd.lays221 (by kernel_rfl) s sep sv n N m w hs hm h1 hsv hn0 hn63 hN
def Tryd.lays146_ren : Go.Shelf.Ren := ⟨fun | 146 => 79 | 221 => 86 | 268 => 89 | 138 => 90 | 143 => 91 | 195 => 92 | 197 => 93 | 218 => 94 | 219 => 95 | 260 => 96 | 217 => 80 | 225 => 97 | 224 => 98 | 267 => 99 | 266 => 87 | 314 => 100 | n => n, fun | 9 => 9 | 31 => 23 | 3 => 3 | 4 => 4 | 0 => 0 | 105 => 136 | 21 => 21 | 5 => 5 | 46 => 139 | 119 => 140 | 139 => 143 | 138 => 142 | 146 => 145 | 51 => 144 | n => n, fun | 1 => 0 | 3 => 1 | 4 => 2 | n => n⟩
theorem Tryd.lays146 : Go.Proofs.Lays.n146 Tryd.prog Tryd.lays146_ren := {
  mixed := by kernel_rfl
  f138 := Tryd.func90.trans (congrArg some (by kernel_rfl))
  f143 := Tryd.func91.trans (congrArg some (by kernel_rfl))
  f146 := Tryd.func79.trans (congrArg some (by kernel_rfl))
  f195 := Tryd.func92.trans (congrArg some (by kernel_rfl))
  f197 := Tryd.func93.trans (congrArg some (by kernel_rfl))
  f217 := Tryd.func80.trans (congrArg some (by kernel_rfl))
  f218 := Tryd.func94.trans (congrArg some (by kernel_rfl))
  f219 := Tryd.func95.trans (congrArg some (by kernel_rfl))
  f221 := Tryd.func86.trans (congrArg some (by kernel_rfl))
  f224 := Tryd.func98.trans (congrArg some (by kernel_rfl))
  f225 := Tryd.func97.trans (congrArg some (by kernel_rfl))
  f260 := Tryd.func96.trans (congrArg some (by kernel_rfl))
  f266 := Tryd.func87.trans (congrArg some (by kernel_rfl))
  f267 := Tryd.func99.trans (congrArg some (by kernel_rfl))
  f268 := Tryd.func89.trans (congrArg some (by kernel_rfl))
  f314 := Tryd.func100.trans (congrArg some (by kernel_rfl))
  t0 := Tryd.underlying0
  a0 := Tryd.isAgg0
  z0 := Tryd.sizeOf0
  v0 := Tryd.zeroValue0
  t3 := Tryd.underlying3
  a3 := Tryd.isAgg3
  z3 := Tryd.sizeOf3
  v3 := Tryd.zeroValue3
  t4 := Tryd.underlying4
  a4 := Tryd.isAgg4
  z4 := Tryd.sizeOf4
  v4 := Tryd.zeroValue4
  t5 := Tryd.underlying5
  a5 := Tryd.isAgg5
  z5 := Tryd.sizeOf5
  v5 := Tryd.zeroValue5
  t9 := Tryd.underlying9
  a9 := Tryd.isAgg9
  z9 := Tryd.sizeOf9
  v9 := Tryd.zeroValue9
  t21 := Tryd.underlying21
  a21 := Tryd.isAgg21
  z21 := Tryd.sizeOf21
  v21 := Tryd.zeroValue21
  t31 := Tryd.underlying23
  a31 := Tryd.isAgg23
  z31 := Tryd.sizeOf23
  v31 := Tryd.zeroValue23
  t46 := Tryd.underlying139
  a46 := Tryd.isAgg139
  z46 := Tryd.sizeOf139
  v46 := Tryd.zeroValue139
  t51 := Tryd.underlying144
  a51 := Tryd.isAgg144
  z51 := Tryd.sizeOf144
  v51 := Tryd.zeroValue144
  t105 := Tryd.underlying136
  a105 := Tryd.isAgg136
  z105 := Tryd.sizeOf136
  v105 := Tryd.zeroValue136
  t119 := Tryd.underlying140
  a119 := Tryd.isAgg140
  z119 := Tryd.sizeOf140
  t138 := Tryd.underlying142
  a138 := Tryd.isAgg142
  z138 := Tryd.sizeOf142
  v138 := Tryd.zeroValue142
  t139 := Tryd.underlying143
  a139 := Tryd.isAgg143
  z139 := Tryd.sizeOf143
  v139 := Tryd.zeroValue143
  t146 := Tryd.underlying145
  a146 := Tryd.isAgg145
  z146 := Tryd.sizeOf145
  v146 := Tryd.zeroValue145
  g1 := by kernel_rfl
  g3 := by kernel_rfl
  g4 := by kernel_rfl }
open Go.RowKit Go.Lib in
theorem Tryd.strings_Split (s sep : ByteArray) (m : Int) (w : World) (hs : s.size < 4294967281) (hm : w.cell? ⟨0, 0, none⟩ = some (.int .i64 m)) (h1 : 1 ≤ sep.size) :
    Calls Tryd.prog 79 #[.string s, .string sep] w fun e w' =>
      e = .returned (.slice (some ⟨w.heap.size, 0, none⟩) (Lib.countB s sep + 1) (Lib.countB s sep + 1)) ∧ w' = w.alloc (.cells ((Lib.splitB sep 0 (Lib.countB s sep) s).map Value.string).toArray 9) := Any.strings_Split Tryd.lays146 (by kernel_rfl) s sep m w hs hm h1
def Tryd.laysM146_ren : Go.Shelf.Ren := ⟨fun | 146 => 79 | 221 => 86 | 268 => 89 | 138 => 90 | 143 => 91 | 195 => 92 | 197 => 93 | 218 => 94 | 219 => 95 | 260 => 96 | 217 => 80 | 225 => 97 | 224 => 98 | 267 => 99 | 266 => 87 | 314 => 100 | n => n, fun | 9 => 9 | 31 => 23 | 3 => 3 | 4 => 4 | 0 => 0 | 105 => 136 | 21 => 21 | 5 => 5 | 46 => 139 | 119 => 140 | 139 => 143 | 138 => 142 | 146 => 145 | 51 => 144 | n => n, fun | 1 => 0 | 3 => 1 | 4 => 2 | n => n⟩
theorem Tryd.laysM146 : Go.Proofs.LaysM.n146 Tryd.prog Tryd.laysM146_ren := {
  mixed := by kernel_rfl
  f138 := Tryd.func90.trans (congrArg some (by kernel_rfl))
  f143 := Tryd.func91.trans (congrArg some (by kernel_rfl))
  f146 := Tryd.func79.trans (congrArg some (by kernel_rfl))
  f195 := Tryd.func92.trans (congrArg some (by kernel_rfl))
  f197 := Tryd.func93.trans (congrArg some (by kernel_rfl))
  f217 := Tryd.func80.trans (congrArg some (by kernel_rfl))
  f218 := Tryd.func94.trans (congrArg some (by kernel_rfl))
  f219 := Tryd.func95.trans (congrArg some (by kernel_rfl))
  f221 := Tryd.func86.trans (congrArg some (by kernel_rfl))
  f224 := Tryd.func98.trans (congrArg some (by kernel_rfl))
  f225 := Tryd.func97.trans (congrArg some (by kernel_rfl))
  f260 := Tryd.func96.trans (congrArg some (by kernel_rfl))
  f266 := Tryd.func87.trans (congrArg some (by kernel_rfl))
  f267 := Tryd.func99.trans (congrArg some (by kernel_rfl))
  f268 := Tryd.func89.trans (congrArg some (by kernel_rfl))
  f314 := Tryd.func100.trans (congrArg some (by kernel_rfl))
  t0 := Tryd.underlying0
  a0 := Tryd.isAgg0
  z0 := Tryd.sizeOf0
  v0 := Tryd.zeroValue0
  t3 := Tryd.underlying3
  a3 := Tryd.isAgg3
  z3 := Tryd.sizeOf3
  v3 := Tryd.zeroValue3
  t4 := Tryd.underlying4
  a4 := Tryd.isAgg4
  z4 := Tryd.sizeOf4
  v4 := Tryd.zeroValue4
  t5 := Tryd.underlying5
  a5 := Tryd.isAgg5
  z5 := Tryd.sizeOf5
  v5 := Tryd.zeroValue5
  t9 := Tryd.underlying9
  a9 := Tryd.isAgg9
  z9 := Tryd.sizeOf9
  v9 := Tryd.zeroValue9
  t21 := Tryd.underlying21
  a21 := Tryd.isAgg21
  z21 := Tryd.sizeOf21
  v21 := Tryd.zeroValue21
  t31 := Tryd.underlying23
  a31 := Tryd.isAgg23
  z31 := Tryd.sizeOf23
  v31 := Tryd.zeroValue23
  t46 := Tryd.underlying139
  a46 := Tryd.isAgg139
  z46 := Tryd.sizeOf139
  v46 := Tryd.zeroValue139
  t51 := Tryd.underlying144
  a51 := Tryd.isAgg144
  z51 := Tryd.sizeOf144
  v51 := Tryd.zeroValue144
  t105 := Tryd.underlying136
  a105 := Tryd.isAgg136
  z105 := Tryd.sizeOf136
  v105 := Tryd.zeroValue136
  t119 := Tryd.underlying140
  a119 := Tryd.isAgg140
  z119 := Tryd.sizeOf140
  t138 := Tryd.underlying142
  a138 := Tryd.isAgg142
  z138 := Tryd.sizeOf142
  v138 := Tryd.zeroValue142
  t139 := Tryd.underlying143
  a139 := Tryd.isAgg143
  z139 := Tryd.sizeOf143
  v139 := Tryd.zeroValue143
  t146 := Tryd.underlying145
  a146 := Tryd.isAgg145
  z146 := Tryd.sizeOf145
  v146 := Tryd.zeroValue145
  g1 := by kernel_rfl
  g3 := by kernel_rfl
  g4 := by kernel_rfl
  i0 := by kernel_rfl
  i3 := by kernel_rfl
  i4 := by kernel_rfl
  i5 := by kernel_rfl
  i9 := by kernel_rfl
  i21 := by kernel_rfl
  i31 := by kernel_rfl
  i46 := by kernel_rfl
  i51 := by kernel_rfl
  i105 := by kernel_rfl
  i138 := by kernel_rfl
  i139 := by kernel_rfl
  i146 := by kernel_rfl
  m1 := by kernel_rfl
  s1_3 := fun w h => Go.Proofs.cell_of_shapedOpen_int (zero := #[.int .i64 0]) (t := 3) h (of_decide_eq_true (by kernel_rfl)) (by kernel_rfl) rfl (by kernel_rfl) (by kernel_rfl) Tryd.underlying3
  m3 := by kernel_rfl
  m4 := by kernel_rfl }
open Go.RowKit Go.Lib in
theorem Tryd.strings_Split_shaped (s sep : ByteArray) (w : World) (h : w.ShapedOpen Tryd.prog) (hs : s.size < 4294967281) (h1 : 1 ≤ sep.size) :
    Calls Tryd.prog 79 #[.string s, .string sep] w fun e w' =>
      e = .returned (.slice (some ⟨w.heap.size, 0, none⟩) (Lib.countB s sep + 1) (Lib.countB s sep + 1)) ∧ w' = w.alloc (.cells ((Lib.splitB sep 0 (Lib.countB s sep) s).map Value.string).toArray 9) := Any.strings_Split_shaped Tryd.laysM146 s sep w h hs h1
def Tryd.lays197_ren : Go.Shelf.Ren := ⟨fun | 197 => 93 | 260 => 96 | n => n, fun | 9 => 9 | 21 => 21 | 3 => 3 | 4 => 4 | 5 => 5 | 105 => 136 | 119 => 140 | 0 => 0 | 46 => 139 | 139 => 143 | 138 => 142 | n => n, fun | 3 => 1 | 4 => 2 | n => n⟩
theorem Tryd.lays197 : Go.Proofs.Lays.n197 Tryd.prog Tryd.lays197_ren := {
  mixed := by kernel_rfl
  f197 := Tryd.func93.trans (congrArg some (by kernel_rfl))
  f260 := Tryd.func96.trans (congrArg some (by kernel_rfl))
  t0 := Tryd.underlying0
  a0 := Tryd.isAgg0
  z0 := Tryd.sizeOf0
  v0 := Tryd.zeroValue0
  t3 := Tryd.underlying3
  a3 := Tryd.isAgg3
  z3 := Tryd.sizeOf3
  v3 := Tryd.zeroValue3
  t4 := Tryd.underlying4
  a4 := Tryd.isAgg4
  z4 := Tryd.sizeOf4
  v4 := Tryd.zeroValue4
  t5 := Tryd.underlying5
  a5 := Tryd.isAgg5
  z5 := Tryd.sizeOf5
  v5 := Tryd.zeroValue5
  t9 := Tryd.underlying9
  a9 := Tryd.isAgg9
  z9 := Tryd.sizeOf9
  v9 := Tryd.zeroValue9
  t21 := Tryd.underlying21
  a21 := Tryd.isAgg21
  z21 := Tryd.sizeOf21
  v21 := Tryd.zeroValue21
  t46 := Tryd.underlying139
  a46 := Tryd.isAgg139
  z46 := Tryd.sizeOf139
  v46 := Tryd.zeroValue139
  t105 := Tryd.underlying136
  a105 := Tryd.isAgg136
  z105 := Tryd.sizeOf136
  v105 := Tryd.zeroValue136
  t119 := Tryd.underlying140
  a119 := Tryd.isAgg140
  z119 := Tryd.sizeOf140
  t138 := Tryd.underlying142
  a138 := Tryd.isAgg142
  z138 := Tryd.sizeOf142
  v138 := Tryd.zeroValue142
  t139 := Tryd.underlying143
  a139 := Tryd.isAgg143
  z139 := Tryd.sizeOf143
  v139 := Tryd.zeroValue143
  g3 := by kernel_rfl
  g4 := by kernel_rfl }
open Go.RowKit Go.Lib in
theorem Tryd.utf8_DecodeRuneInString_ascii (s : ByteArray) (x : UInt8) (w : World) (h0 : s.data.toList[0]? = some x) (hx : x.toNat < 128) :
    Calls Tryd.prog 93 #[.string s] w fun e w' => e = .returned (.tuple #[.int .i32 x.toNat, .int .i64 1]) ∧ w' = w := Any.utf8_DecodeRuneInString_ascii Tryd.lays197 s x w h0 hx
open Go.RowKit Go.Lib in
theorem Tryd.utf8_RuneCountInString_ascii (s : ByteArray) (w : World) (hs : s.size < 4294967281) (hascii : ∀ (j : Nat) b, s.data.toList[j]? = some b → b.toNat < 128) :
    Calls Tryd.prog 92 #[.string s] w fun e w' => e = .returned (.int .i64 s.size) ∧ w' = w.iter s s.size := Any.utf8_RuneCountInString_ascii Tryd.lays195 s w hs hascii
def Tryd.lays268_ren : Go.Shelf.Ren := ⟨fun | 268 => 89 | 195 => 92 | 197 => 93 | 260 => 96 | n => n, fun | 9 => 9 | 3 => 3 | 31 => 23 | 4 => 4 | 105 => 136 | 21 => 21 | 0 => 0 | 5 => 5 | 119 => 140 | 46 => 139 | 139 => 143 | 138 => 142 | n => n, fun | 3 => 1 | 4 => 2 | n => n⟩
theorem Tryd.lays268 : Go.Proofs.Lays.n268 Tryd.prog Tryd.lays268_ren := {
  mixed := by kernel_rfl
  f195 := Tryd.func92.trans (congrArg some (by kernel_rfl))
  f197 := Tryd.func93.trans (congrArg some (by kernel_rfl))
  f260 := Tryd.func96.trans (congrArg some (by kernel_rfl))
  f268 := Tryd.func89.trans (congrArg some (by kernel_rfl))
  t0 := Tryd.underlying0
  a0 := Tryd.isAgg0
  z0 := Tryd.sizeOf0
  v0 := Tryd.zeroValue0
  t3 := Tryd.underlying3
  a3 := Tryd.isAgg3
  z3 := Tryd.sizeOf3
  v3 := Tryd.zeroValue3
  t4 := Tryd.underlying4
  a4 := Tryd.isAgg4
  z4 := Tryd.sizeOf4
  v4 := Tryd.zeroValue4
  t5 := Tryd.underlying5
  a5 := Tryd.isAgg5
  z5 := Tryd.sizeOf5
  v5 := Tryd.zeroValue5
  t9 := Tryd.underlying9
  a9 := Tryd.isAgg9
  z9 := Tryd.sizeOf9
  v9 := Tryd.zeroValue9
  t21 := Tryd.underlying21
  a21 := Tryd.isAgg21
  z21 := Tryd.sizeOf21
  v21 := Tryd.zeroValue21
  t31 := Tryd.underlying23
  a31 := Tryd.isAgg23
  z31 := Tryd.sizeOf23
  v31 := Tryd.zeroValue23
  t46 := Tryd.underlying139
  a46 := Tryd.isAgg139
  z46 := Tryd.sizeOf139
  v46 := Tryd.zeroValue139
  t105 := Tryd.underlying136
  a105 := Tryd.isAgg136
  z105 := Tryd.sizeOf136
  v105 := Tryd.zeroValue136
  t119 := Tryd.underlying140
  a119 := Tryd.isAgg140
  z119 := Tryd.sizeOf140
  t138 := Tryd.underlying142
  a138 := Tryd.isAgg142
  z138 := Tryd.sizeOf142
  v138 := Tryd.zeroValue142
  t139 := Tryd.underlying143
  a139 := Tryd.isAgg143
  z139 := Tryd.sizeOf143
  v139 := Tryd.zeroValue143
  g3 := by kernel_rfl
  g4 := by kernel_rfl }
open Go.RowKit Go.Lib in
theorem Tryd.strings_explode_all (s : ByteArray) (n : Int) (w : World) (hn : n < 0) (hs : s.size < 4294967281) (hascii : ∀ (j : Nat) b, s.data.toList[j]? = some b → b.toNat < 128) :
    Calls Tryd.prog 89 #[.string s, .int .i64 n] w fun e w' =>
      e = .returned (.slice (some ⟨(w.iter s s.size).heap.size, 0, none⟩) s.size s.size) ∧ w' = (w.iter s s.size).alloc (.cells ((Lib.charsB s).map Value.string).toArray 9) := Any.strings_explode_all Tryd.lays268 (by kernel_rfl) s n w hn hs hascii
open Go.RowKit Go.Lib in
theorem Tryd.strings_genSplit_chars (s sep : ByteArray) (sv n : Int) (w : World) (h0 : sep.size = 0) (hn : n < 0) (hs : s.size < 4294967281) (hascii : ∀ (j : Nat) b, s.data.toList[j]? = some b → b.toNat < 128) :
    Calls Tryd.prog 86 #[.string s, .string sep, .int .i64 sv, .int .i64 n] w fun e w' =>
      e = .returned (.slice (some ⟨(w.iter s s.size).heap.size, 0, none⟩) s.size s.size) ∧ w' = (w.iter s s.size).alloc (.cells ((Lib.charsB s).map Value.string).toArray 9) := Any.strings_genSplit_chars Tryd.lays221 (by kernel_rfl) s sep sv n w h0 hn hs hascii
open Go.RowKit Go.Lib in
theorem Tryd.strings_Split_chars (s sep : ByteArray) (w : World) (h0 : sep.size = 0) (hs : s.size < 4294967281) (hascii : ∀ (j : Nat) b, s.data.toList[j]? = some b → b.toNat < 128) :
    Calls Tryd.prog 79 #[.string s, .string sep] w fun e w' =>
      e = .returned (.slice (some ⟨(w.iter s s.size).heap.size, 0, none⟩) s.size s.size) ∧ w' = (w.iter s s.size).alloc (.cells ((Lib.charsB s).map Value.string).toArray 9) := Any.strings_Split_chars Tryd.lays146 (by kernel_rfl) s sep w h0 hs hascii
def Tryd.lays260_ren : Go.Shelf.Ren := ⟨fun | 260 => 96 | n => n, fun | 9 => 9 | 21 => 21 | 3 => 3 | 4 => 4 | 5 => 5 | 119 => 140 | 0 => 0 | 46 => 139 | 139 => 143 | 138 => 142 | n => n, fun | 3 => 1 | 4 => 2 | n => n⟩
theorem Tryd.lays260 : Go.Proofs.Lays.n260 Tryd.prog Tryd.lays260_ren := {
  mixed := by kernel_rfl
  f260 := Tryd.func96.trans (congrArg some (by kernel_rfl))
  t0 := Tryd.underlying0
  a0 := Tryd.isAgg0
  z0 := Tryd.sizeOf0
  v0 := Tryd.zeroValue0
  t3 := Tryd.underlying3
  a3 := Tryd.isAgg3
  z3 := Tryd.sizeOf3
  v3 := Tryd.zeroValue3
  t4 := Tryd.underlying4
  a4 := Tryd.isAgg4
  z4 := Tryd.sizeOf4
  v4 := Tryd.zeroValue4
  t5 := Tryd.underlying5
  a5 := Tryd.isAgg5
  z5 := Tryd.sizeOf5
  v5 := Tryd.zeroValue5
  t9 := Tryd.underlying9
  a9 := Tryd.isAgg9
  z9 := Tryd.sizeOf9
  v9 := Tryd.zeroValue9
  t21 := Tryd.underlying21
  a21 := Tryd.isAgg21
  z21 := Tryd.sizeOf21
  v21 := Tryd.zeroValue21
  t46 := Tryd.underlying139
  a46 := Tryd.isAgg139
  z46 := Tryd.sizeOf139
  v46 := Tryd.zeroValue139
  t119 := Tryd.underlying140
  a119 := Tryd.isAgg140
  z119 := Tryd.sizeOf140
  t138 := Tryd.underlying142
  a138 := Tryd.isAgg142
  z138 := Tryd.sizeOf142
  v138 := Tryd.zeroValue142
  t139 := Tryd.underlying143
  a139 := Tryd.isAgg143
  z139 := Tryd.sizeOf143
  v139 := Tryd.zeroValue143
  g3 := by kernel_rfl
  g4 := by kernel_rfl }
open Go.RowKit Go.Lib in
theorem Tryd.utf8_decodeRuneInStringSlow (s : ByteArray) (w : World) (hT : Lib.Utf8Tabs 1 2 w) :
    Calls Tryd.prog 96 #[.string s] w fun e w' => e = .returned (.tuple #[.int .i32 (Lib.decodeGo s).1, .int .i64 (Lib.decodeGo s).2]) ∧ Below w.heap.size w w' := Any.utf8_decodeRuneInStringSlow Tryd.lays260 s w hT
open Go.RowKit Go.Lib in
theorem Tryd.utf8_DecodeRuneInString (s : ByteArray) (w : World) (hT : Lib.Utf8Tabs 1 2 w) :
    Calls Tryd.prog 93 #[.string s] w fun e w' => e = .returned (.tuple #[.int .i32 (Lib.decodeGo s).1, .int .i64 (Lib.decodeGo s).2]) ∧ Below w.heap.size w w' := Any.utf8_DecodeRuneInString Tryd.lays197 s w hT
def Tryd.lays109_ren : Go.Shelf.Ren := ⟨fun | 109 => 69 | n => n, fun | 31 => 23 | 9 => 9 | 3 => 3 | 0 => 0 | 4 => 4 | n => n, fun | n => n⟩
theorem Tryd.lays109 : Go.Proofs.Lays.n109 Tryd.prog Tryd.lays109_ren := {
  mixed := by kernel_rfl
  f109 := Tryd.func69.trans (congrArg some (by kernel_rfl))
  t0 := Tryd.underlying0
  a0 := Tryd.isAgg0
  z0 := Tryd.sizeOf0
  v0 := Tryd.zeroValue0
  t3 := Tryd.underlying3
  a3 := Tryd.isAgg3
  z3 := Tryd.sizeOf3
  v3 := Tryd.zeroValue3
  t4 := Tryd.underlying4
  a4 := Tryd.isAgg4
  z4 := Tryd.sizeOf4
  v4 := Tryd.zeroValue4
  t9 := Tryd.underlying9
  a9 := Tryd.isAgg9
  z9 := Tryd.sizeOf9
  v9 := Tryd.zeroValue9
  t31 := Tryd.underlying23
  a31 := Tryd.isAgg23
  z31 := Tryd.sizeOf23
  v31 := Tryd.zeroValue23 }
open Go.Lib in
theorem Tryd.slices_Index_string (b off n c : Nat) (zs : List ByteArray) (x : ByteArray) (w : World) (hz : n ≤ zs.length) (hbig : n ≤ 9223372036854775807) (hc : ∀ j, j < zs.length → w.cell? ⟨b, off + j, none⟩ = some (.string (zs.getD j ByteArray.empty))) :
    Calls Tryd.prog 69 #[.slice (some ⟨b, off, none⟩) n c, .string x] w fun e w' => e = .returned (.int .i64 (Lib.idxOfS (zs.take n) x)) ∧ w' = w := Any.slices_Index_string Tryd.lays109 b off n c zs x w hz hbig hc
open Go.Lib in
theorem Tryd.slices_Index_string_empty (a : Option Addr) (c : Nat) (x : ByteArray) (w : World) :
    Calls Tryd.prog 69 #[.slice a 0 c, .string x] w fun e w' => e = .returned (.int .i64 (Lib.idxOfS [] x)) ∧ w' = w := Any.slices_Index_string_empty Tryd.lays109 a c x w
def Tryd.lays110_ren : Go.Shelf.Ren := ⟨fun | 110 => 44 | 109 => 69 | n => n, fun | 31 => 23 | 9 => 9 | 4 => 4 | 3 => 3 | 0 => 0 | n => n, fun | n => n⟩
theorem Tryd.lays110 : Go.Proofs.Lays.n110 Tryd.prog Tryd.lays110_ren := {
  mixed := by kernel_rfl
  f109 := Tryd.func69.trans (congrArg some (by kernel_rfl))
  f110 := Tryd.func44.trans (congrArg some (by kernel_rfl))
  t0 := Tryd.underlying0
  a0 := Tryd.isAgg0
  z0 := Tryd.sizeOf0
  v0 := Tryd.zeroValue0
  t3 := Tryd.underlying3
  a3 := Tryd.isAgg3
  z3 := Tryd.sizeOf3
  v3 := Tryd.zeroValue3
  t4 := Tryd.underlying4
  a4 := Tryd.isAgg4
  z4 := Tryd.sizeOf4
  v4 := Tryd.zeroValue4
  t9 := Tryd.underlying9
  a9 := Tryd.isAgg9
  z9 := Tryd.sizeOf9
  v9 := Tryd.zeroValue9
  t31 := Tryd.underlying23
  a31 := Tryd.isAgg23
  z31 := Tryd.sizeOf23
  v31 := Tryd.zeroValue23 }
open Go.Lib in
theorem Tryd.slices_Contains_string (b off n c : Nat) (zs : List ByteArray) (x : ByteArray) (w : World) (hz : n ≤ zs.length) (hbig : n ≤ 9223372036854775807) (hc : ∀ j, j < zs.length → w.cell? ⟨b, off + j, none⟩ = some (.string (zs.getD j ByteArray.empty))) :
    Calls Tryd.prog 44 #[.slice (some ⟨b, off, none⟩) n c, .string x] w fun e w' => e = .returned (.bool (Lib.containsS (zs.take n) x)) ∧ w' = w := Any.slices_Contains_string Tryd.lays110 b off n c zs x w hz hbig hc
open Go.Lib in
theorem Tryd.slices_Contains_string_empty (a : Option Addr) (c : Nat) (x : ByteArray) (w : World) :
    Calls Tryd.prog 44 #[.slice a 0 c, .string x] w fun e w' => e = .returned (.bool false) ∧ w' = w := Any.slices_Contains_string_empty Tryd.lays110 a c x w
end Go.Proofs

namespace Go.Proofs.YtjpebmgllfiloaaDoor
open Go Wk
open Go.RowKit (Below)
attribute [local irreducible] Go.Calls

theorem get_byte (l : List UInt8) {k : Nat} (h : k < l.length) : ∃ c, l[k]? = some c := ⟨l[k], List.getElem?_eq_getElem h⟩
def signs : List UInt8 := "abcdefghijklmnopqrstuvwxyz0123456789,._+-@#?".toUTF8.data.toList
theorem signs_eq : signs = [97, 98, 99, 100, 101, 102, 103, 104, 105, 106, 107, 108, 109, 110, 111, 112, 113, 114, 115, 116, 117, 118, 119, 120, 121, 122, 48, 49, 50, 51, 52, 53, 54, 55, 56, 57, 44, 46, 95, 43, 45, 64, 35, 63] := by decide
def nameOk (s : List UInt8) : Bool := decide (s ≠ [] ∧ s.length ≤ 31) && s.all fun c => signs.contains c
theorem IndexByte_spec {w : World} {l : List UInt8} {c : UInt8} : Calls Tryd.prog 73 #[vs l, .int .u8 c.toNat] w (Ret fun r w' => r = vi (Lib.indexByte l c) ∧ w = w') := by
  refine (Tryd.strings_IndexByte ⟨l.toArray⟩ c.toNat w).mono ?_
  rintro e w' ⟨rfl, rfl⟩
  exact ⟨_, rfl, by simp, rfl⟩
theorem index_neg {l : List UInt8} {c : UInt8} (h : Lib.indexByte l c < 0) : l.contains c = false := by
  have hge := Lib.indexByte_ge l c
  have := Lib.indexByte_none (show Lib.indexByte l c = -1 by omega)
  rw [Bool.eq_false_iff]
  intro hc
  obtain ⟨k, hk⟩ := List.mem_iff_getElem?.1 (List.contains_iff_mem.1 hc)
  exact this k hk
theorem index_pos {l : List UInt8} {c : UInt8} (h : 0 ≤ Lib.indexByte l c) : l.contains c = true := by
  obtain ⟨o, ho⟩ := Int.eq_ofNat_of_zero_le h
  exact List.contains_iff_mem.2 (List.mem_of_getElem? (Lib.indexByte_some ho).1)
theorem all_step {α : Type} {p : α → Bool} {xs : List α} {i : Nat} {x : α} (h : xs[i]? = some x) (hi : (xs.take i).all p = true) (hx : p x = true) : (xs.take (i + 1)).all p = true := by
  rw [List.take_add_one, h, List.all_append, hi]; simp [hx]
theorem all_fail {α : Type} {p : α → Bool} {xs : List α} {i : Nat} {x : α} (h : xs[i]? = some x) (hx : p x = false) : xs.all p = false := by
  rw [List.all_eq_false]
  exact ⟨x, List.mem_of_getElem? h, by simp [hx]⟩
def nameNo (s : List UInt8) : Int := if nameOk s = true then 0 else 10
theorem Name_spec {w : World} {s : List UInt8} : Calls Tryd.prog 47 #[vs s] w (Ret fun r w' => r = vi (nameNo s) ∧ New w w') := by
  refine calls_of_Wc (n := 23) Tryd.func47 rfl rfl rfl ?_
  (repeat' (first | refine Wl.moveE (by conv => { lhs; whnf }) ?_ | refine Wl.assignE (by conv => { lhs; whnf }) ?_ | refine Wl.nil ?_ | refine Wl.guardY rfl rfl ?_ | refine Wl.guardN rfl rfl ?_ | refine Wl.pickTE rfl (by conv => { lhs; whnf }) ?_ | refine Wl.pickFE rfl (by conv => { lhs; whnf }) ?_ | refine Wl.lenStr rfl ?_ | refine Qseq.normal ?_ | refine Wc.seq ?_ | refine Wc.region ?_ | refine Wc.skip ?_ | refine Wc.ret ?_ | refine Qseq.ret ?_ | refine Wc.condT rfl ?_ | refine Wc.condF rfl ?_ | refine Wl.gtr rfl rfl (fun _ => ?_) (fun _ => ?_) | refine Wl.seql rfl rfl (fun _ => ?_) (fun _ => ?_)))
  · have e : s = [] := by assumption
    subst e
    exact Qfn.ret1 rfl rfl ⟨_, rfl, rfl, Chg.refl _ _⟩
  · refine Qfn.ret1 rfl rfl ⟨_, rfl, ?_, Chg.refl _ _⟩
    unfold nameNo nameOk
    rw [decide_eq_false (by omega)]; rfl
  · have hne : s ≠ [] := by assumption
    have hle : s.length ≤ 31 := by omega
    refine Wl.strBytes rfl (by simp only [maxLen]; omega) fun w1 cap C fr _ _ _ n1 _ hr => ?_
    (repeat' (first | refine Wl.moveE (by conv => { lhs; whnf }) ?_ | refine Wl.nil ?_ | refine Wl.lenS rfl ?_ | refine Qseq.normal ?_ | refine Wc.block ?_))
    refine Wc.loop (σ := Nat) (fun i => [(13, .slice (some ⟨w.heap.size, 0, none⟩) s.length cap), (14, vi s.length), (15, vi i)]) (fun i w' => i ≤ s.length ∧ (s.take i).all (fun c => signs.contains c) = true ∧ w1 = w') (fun i => s.length - i) 0 ⟨rfl, rfl, rfl, trivial⟩ ⟨Nat.zero_le _, rfl, rfl⟩ ?_
    rintro i G _ ⟨hi, hall, rfl⟩
    simp only [upds]
    (repeat' (first | refine Wl.assignE (by conv => { lhs; whnf }) ?_ | refine Wl.nil ?_ | refine Qseq.normal ?_ | refine Wc.seq ?_ | refine Wc.region ?_ | refine Wc.block ?_ | refine Wc.skip ?_ | refine Wc.exit ?_ | refine Wc.ret ?_ | refine Qseq.exit ?_ | refine Qblk.hit ?_ | refine Qloop.exit ?_ | refine Wc.condT rfl ?_ | refine Wc.condF rfl ?_ | refine Wl.lss rfl rfl (fun _ => ?_) (fun _ => ?_)))
    · obtain ⟨c, hc⟩ := get_byte s (k := i) (by omega)
      refine Wl.idxAddrV hr rfl rfl (by omega) hc fun b o hcell => ?_
      refine Wl.load1 rfl hcell ?_
      (repeat' (first | refine Wl.moveE (by conv => { lhs; whnf }) ?_ | refine Wl.assignE (by conv => { lhs; whnf }) ?_ | refine Wl.nil ?_ | refine Qseq.normal ?_ | refine Wc.seq ?_ | refine Wc.region ?_))
      refine Wl.call (IndexByte_spec (l := signs) (c := c)) (by rw [signs_eq]; rfl) ?_
      rintro _ _ ⟨rfl, rfl⟩
      (repeat' (first | refine Wl.moveE (by conv => { lhs; whnf }) ?_ | refine Wl.assignE (by conv => { lhs; whnf }) ?_ | refine Wl.nil ?_ | refine Qseq.normal ?_ | refine Wc.seq ?_ | refine Wc.region ?_ | refine Wc.skip ?_ | refine Wc.ret ?_ | refine Qseq.ret ?_ | refine Qblk.normal ?_ | refine Qblk.ret ?_ | refine Qloop.ret ?_ | refine Wc.condT rfl ?_ | refine Wc.condF rfl ?_ | refine Wl.add rfl rfl (by omega) (by omega) ?_ | refine Wl.lss rfl rfl (fun _ => ?_) (fun _ => ?_)))
      · refine Qfn.ret1 rfl rfl ⟨_, rfl, ?_, n1⟩
        unfold nameNo nameOk
        rw [all_fail hc (index_neg (by assumption)), Bool.and_false]
        rfl
      · exact Qloop.normal (i + 1) ⟨rfl, rfl, rfl, trivial⟩ ⟨by omega, all_step hc hall (index_pos (by assumption)), rfl⟩ (by omega)
    · have e : i = s.length := by omega
      subst e
      rw [List.take_length] at hall
      refine Qfn.ret1 rfl rfl ⟨_, rfl, ?_, n1⟩
      unfold nameNo nameOk
      rw [hall, decide_eq_true ⟨hne, hle⟩]; rfl
end Go.Proofs.YtjpebmgllfiloaaDoor

namespace Go.Proofs.YtjpebmgllfiloaaDoor
open Go Wk
open Go.RowKit (Below)
attribute [local irreducible] Go.Calls

abbrev Pr := List UInt8 × List UInt8
def pC (p : Pr) : List Value := [vs p.1, vs p.2]
structure Nd where
  parent : Int
  name : List UInt8
  props : List Pr
deriving DecidableEq, Inhabited
abbrev rPr : Rel Pr := flat pC
def rNd : Rel Nd := fun Pb w x cs => ∃ v, cs = [vi x.parent, vs x.name, v] ∧ RdS rPr 2 Pb w v x.props
theorem goodPr : GoodR rPr 2 := good_flat pC (fun _ => rfl) (fun x c hc => by simp [pC] at hc; rcases hc with rfl | rfl <;> rfl)
theorem plainPr : Plain rPr := plain_flat pC
theorem stableNd : Stable rNd := fun _ _ _ _ _ hk ⟨v, e, h⟩ => ⟨v, e, h.keep (stable_flat pC) hk⟩
theorem monoNd : Mono rNd := fun _ _ _ _ _ hP ⟨v, e, h⟩ => ⟨v, e, h.mono (mono_flat pC) hP⟩
theorem goodNd : GoodR rNd 3 := ⟨stableNd, monoNd, fun Pb w x cs ⟨v, e, h⟩ _ c hc => by
  subst e
  obtain ⟨a, cap, rfl, _⟩ := h.form
  simp at hc
  rcases hc with rfl | rfl | rfl <;> rfl⟩

/-! When props may be. -/
def propsGo (seen : List (List UInt8)) : List Pr → Bool
  | [] => true
  | p :: r => nameOk p.1 && (decide (p.2.length ≤ 1024) && (!seen.contains p.1 && propsGo (seen ++ [p.1]) r))
def propsOk (l : List Pr) : Bool := decide (l.length ≤ 32) && propsGo [] l
theorem nameNo_ok {s : List UInt8} (h : nameNo s = 0) : nameOk s = true := by
  unfold nameNo at h; split at h
  · assumption
  · cases h
theorem nameNo_bad {s : List UInt8} (h : nameNo s ≠ 0) : nameOk s = false := by
  unfold nameNo at h; split at h
  · exact absurd rfl h
  · simpa using ‹¬ nameOk s = true›
theorem nameOk_len {s : List UInt8} (h : nameOk s = true) : s.length ≤ 31 := by
  unfold nameOk at h
  simp only [Bool.and_eq_true, decide_eq_true_eq] at h
  exact h.1.2
theorem drop_cons {α : Type} {l : List α} {i : Nat} {x : α} (h : l[i]? = some x) : l.drop i = x :: l.drop (i + 1) := by
  obtain ⟨h1, rfl⟩ := List.getElem?_eq_some_iff.1 h
  exact List.drop_eq_getElem_cons h1
theorem take_snoc {α : Type} {l : List α} {i : Nat} {x : α} (h : l[i]? = some x) : l.take (i + 1) = l.take i ++ [x] := by
  rw [List.take_add_one, h]; rfl
theorem get_lt {α : Type} (xs : List α) {k : Nat} (h : k < xs.length) : ∃ x, xs[k]? = some x := ⟨xs[k], List.getElem?_eq_getElem h⟩
theorem vs_inj {a b : List UInt8} (h : vs a = vs b) : a = b := by
  simp only [vs, Value.string.injEq, ByteArray.mk.injEq] at h
  simpa using h
theorem keyStr (s : List UInt8) (h : s.length ≤ 31) : ∃ q, keyOf Tryd.prog 9 (vs s) = some q :=
  ⟨_, WideMaps.keyOf_string_mk Tryd.underlying9 (by simp only [ByteArray.size, List.size_toArray, maxLen]; omega)⟩
abbrev setV {α : Type} (f : α → Value) (ks : List α) : List (Value × Value) := ks.map fun k => (f k, .bool true)

set_option maxRecDepth 4000 in
theorem props_spec {Pb : Nat → Prop} {w : World} {v : Value} {l : List Pr} (h : RdS rPr 2 Pb w v l) :
    Calls Tryd.prog 84 #[v] w (Ret fun r w' => r = .bool (propsOk l) ∧ New w w') := by
  obtain ⟨a, cap, rfl, hc1, hc2⟩ := h.form
  simp only [maxLen] at hc2
  refine calls_of_Wc (n := 36) Tryd.func84 rfl rfl rfl ?_
  unfold propsOk
  (repeat' (first | refine Wl.moveE (by conv => { lhs; whnf }) ?_ | refine Wl.assignE (by conv => { lhs; whnf }) ?_ | refine Wl.nil ?_ | refine Wl.lenS rfl ?_ | refine Qseq.normal ?_ | refine Wc.seq ?_ | refine Wc.region ?_ | refine Wc.skip ?_ | refine Wc.ret ?_ | refine Qseq.ret ?_ | refine Wc.condT rfl ?_ | refine Wc.condF rfl ?_ | refine Wl.gtr rfl rfl (fun _ => ?_) (fun _ => ?_)))
  · rw [decide_eq_false (by omega)]
    exact Qfn.ret1 rfl rfl ⟨_, rfl, rfl, Chg.refl _ _⟩
  · rw [decide_eq_true (by omega), Bool.true_and]
    refine Wl.makeMap (k := 9) fun w1 m1 n1 s1 => ?_
    generalize hbm : w.heap.size = bm at m1
    (repeat' (first | refine Wl.moveE (by conv => { lhs; whnf }) ?_ | refine Wl.assignE (by conv => { lhs; whnf }) ?_ | refine Wl.nil ?_ | refine Wl.lenS rfl ?_ | refine Qseq.normal ?_ | refine Wc.seq ?_ | refine Wc.region ?_ | refine Wc.block ?_))
    refine Wc.loop (σ := Nat) (fun i => [(3, .map (some bm)), (10, .slice a l.length cap), (11, vi l.length), (12, vi i)]) (fun i w' => i ≤ l.length ∧ propsGo [] l = propsGo ((l.take i).map (·.1)) (l.drop i) ∧ MapL Tryd.prog 9 w' bm (setV vs ((l.take i).map (·.1))) ∧ New w w') (fun i => l.length - i) 0 ⟨rfl, rfl, rfl, rfl, trivial⟩ ⟨Nat.zero_le _, by simp, m1, n1⟩ ?_
    rintro i G w2 ⟨hi, hgo, m2, n2⟩
    simp only [upds]
    (repeat' (first | refine Wl.assignE (by conv => { lhs; whnf }) ?_ | refine Wl.nil ?_ | refine Qseq.normal ?_ | refine Wc.seq ?_ | refine Wc.region ?_ | refine Wc.block ?_ | refine Wc.skip ?_ | refine Wc.exit ?_ | refine Wc.ret ?_ | refine Qseq.exit ?_ | refine Qblk.hit ?_ | refine Qloop.exit ?_ | refine Wc.condT rfl ?_ | refine Wc.condF rfl ?_ | refine Wl.lss rfl rfl (fun _ => ?_) (fun _ => ?_)))
    · obtain ⟨p, hp⟩ := get_lt l (k := i) (by omega)
      refine Wl.idxAddr (h.keep (stable_flat pC) n2.keep) rfl rfl (by omega) hp fun b o cs hl hR hat => ?_
      obtain rfl : cs = pC p := hR
      refine Wl.loadAt hat rfl rfl ?_
      refine Wl.alloc fun w3 b3 n3 s3 => ?_
      refine Wl.storeB (new := pC p) b3 rfl rfl rfl rfl (show (2 : Nat) ≤ 2 from Nat.le_refl 2) (goodPr.oc (fun _ => True) w p _ rfl rfl) fun w4 b4 c4 s4 => ?_
      have m4 := (m2.keep n3.keep (Pb := fun _ => True) trivial).chg c4 (by have := m2.lt; omega)
      have n4 : New w w4 := Chg.trans (New.trans n2 n3) c4 fun k hk e => by have := n2.size; omega
      replace b4 : Bk w4 w2.heap.size 39 (pC p) := b4
      rw [drop_cons hp] at hgo
      simp only [propsGo] at hgo
      (repeat' (first | refine Wl.nil ?_ | refine Qseq.normal ?_ | refine Wc.seq ?_ | refine Wc.region ?_ | refine Wl.fieldAddr rfl rfl ?_))
      refine Wl.load1 rfl (b4.cell (o := 0) rfl) ?_
      refine Wl.call (Name_spec (s := p.1)) rfl ?_
      rintro _ w5 ⟨rfl, n5⟩
      replace b4 := b4.keep n5.keep (Pb := fun _ => True) trivial
      replace m4 := m4.keep n5.keep (Pb := fun _ => True) trivial
      replace n5 := New.trans n4 n5
      (repeat' (first | refine Wl.moveE (by conv => { lhs; whnf }) ?_ | refine Wl.assignE (by conv => { lhs; whnf }) ?_ | refine Wl.nil ?_ | refine Wl.guardY rfl rfl ?_ | refine Wl.guardN rfl rfl ?_ | refine Wl.pickTE rfl (by conv => { lhs; whnf }) ?_ | refine Qseq.normal ?_ | refine Wc.seq ?_ | refine Wc.region ?_ | refine Wc.ret ?_ | refine Qseq.ret ?_ | refine Qblk.ret ?_ | refine Qloop.ret ?_ | refine Wc.condT rfl ?_ | refine Wl.fieldAddr rfl rfl ?_ | refine Wl.neq rfl rfl (fun _ => ?_) (fun _ => ?_)))
      · rw [hgo, nameNo_bad (by assumption), Bool.false_and]
        exact Qfn.ret1 rfl rfl ⟨_, rfl, rfl, n5⟩
      · have hok := nameNo_ok (by assumption)
        rw [hok, Bool.true_and] at hgo
        refine Wl.load1 rfl (b4.cell (o := 1) rfl) ?_
        (repeat' (first | refine Wl.moveE (by conv => { lhs; whnf }) ?_ | refine Wl.assignE (by conv => { lhs; whnf }) ?_ | refine Wl.nil ?_ | refine Wl.guardY rfl rfl ?_ | refine Wl.guardN rfl rfl ?_ | refine Wl.pickTE rfl (by conv => { lhs; whnf }) ?_ | refine Wl.pickFE rfl (by conv => { lhs; whnf }) ?_ | refine Wl.lenStr rfl ?_ | refine Qseq.normal ?_ | refine Wc.seq ?_ | refine Wc.region ?_ | refine Wc.ret ?_ | refine Qseq.ret ?_ | refine Qblk.ret ?_ | refine Qloop.ret ?_ | refine Wc.condT rfl ?_ | refine Wl.fieldAddr rfl rfl ?_ | refine Wl.gtr rfl rfl (fun _ => ?_) (fun _ => ?_)))
        · rw [hgo, decide_eq_false (by omega), Bool.false_and]
          exact Qfn.ret1 rfl rfl ⟨_, rfl, rfl, n5⟩
        · rw [decide_eq_true (by omega), Bool.true_and] at hgo
          refine Wl.load1 rfl (b4.cell (o := 0) rfl) ?_
          obtain ⟨q, hq⟩ := keyStr p.1 (nameOk_len hok)
          refine Wl.guardY rfl rfl ?_
          refine Wl.lookup (Maps.string_keyed Tryd.underlying9) m4 hq rfl rfl ?_
          rintro r (hr | ⟨rfl, hr⟩)
          · obtain ⟨k, hk, e⟩ := List.mem_map.1 hr
            simp only [Prod.mk.injEq] at e
            obtain ⟨e1, rfl⟩ := e
            rw [vs_inj e1] at hk
            rw [List.contains_iff_mem.2 hk, Bool.not_true, Bool.false_and] at hgo
            (repeat' (first | refine Wl.assignE (by conv => { lhs; whnf }) ?_ | refine Wl.nil ?_ | refine Wl.pickFE rfl (by conv => { lhs; whnf }) ?_ | refine Qseq.normal ?_ | refine Wc.seq ?_ | refine Wc.region ?_ | refine Wc.ret ?_ | refine Qseq.ret ?_ | refine Qblk.ret ?_ | refine Qloop.ret ?_ | refine Wc.condT rfl ?_))
            rw [hgo]
            exact Qfn.ret1 rfl rfl ⟨_, rfl, rfl, n5⟩
          · have hnk : ((l.take i).map (·.1)).contains p.1 = false := by
              rw [Bool.eq_false_iff]; intro hc
              exact hr (vs p.1, .bool true) (List.mem_map.2 ⟨p.1, List.contains_iff_mem.1 hc, rfl⟩) rfl
            rw [hnk, Bool.not_false, Bool.true_and] at hgo
            (repeat' (first | refine Wl.moveE (by conv => { lhs; whnf }) ?_ | refine Wl.nil ?_ | refine Wl.pickFE rfl (by conv => { lhs; whnf }) ?_ | refine Qseq.normal ?_ | refine Wc.region ?_ | refine Wc.skip ?_ | refine Wc.condF rfl ?_ | refine Wl.fieldAddr rfl rfl ?_))
            refine Wl.load1 rfl (b4.cell (o := 0) rfl) ?_
            refine Wl.mapPut (u := .bool true) (Maps.string_keyed Tryd.underlying9) m4 hq hr rfl rfl rfl fun w6 m6 c6 s6 => ?_
            (repeat' (first | refine Wl.moveE (by conv => { lhs; whnf }) ?_ | refine Wl.nil ?_ | refine Qseq.normal ?_ | refine Wc.region ?_ | refine Qblk.normal ?_ | refine Wl.add rfl rfl (by omega) (by omega) ?_))
            refine Qloop.normal (i + 1) ⟨rfl, rfl, rfl, rfl, trivial⟩ ⟨by omega, ?_, ?_, Chg.trans n5 c6 fun k hk e => by omega⟩ (by omega)
            · rw [hgo, take_snoc hp, List.map_append]; rfl
            · rw [take_snoc hp, List.map_append]
              simpa [setV] using m6
    · have e : i = l.length := by omega
      subst e
      rw [hgo, List.drop_length]
      exact Qfn.ret1 rfl rfl ⟨_, rfl, rfl, n2⟩
end Go.Proofs.YtjpebmgllfiloaaDoor

namespace Go.Proofs.YtjpebmgllfiloaaDoor
open Go Wk
open Go.RowKit (Below)
attribute [local irreducible] Go.Calls

theorem nameOk_no {s : List UInt8} (h : nameOk s = false) : nameNo s ≠ 0 := by unfold nameNo; rw [h]; decide
abbrev Kid := Int × List UInt8
def kidV (k : Kid) : Value := .agg #[vi k.1, vs k.2]
theorem kidV_inj {a b : Kid} (h : kidV a = kidV b) : a = b := by
  obtain ⟨a1, a2⟩ := a
  obtain ⟨b1, b2⟩ := b
  simp only [kidV, Value.agg.injEq] at h
  have h' := congrArg Array.toList h
  simp only [List.cons.injEq, and_true] at h'
  have e1 : a1 = b1 := by have := h'.1; simpa using this
  rw [e1, vs_inj h'.2]
theorem kidKeyed : Maps.Keyed Tryd.prog 129 :=
  Maps.Keyed.of_law (deep_law (m := 2) (by decide) (by kernel_rfl) (by kernel_rfl) (by rw [Tryd.underlying129]))
theorem keyKid (p : Int) (s : List UInt8) (h0 : 0 ≤ p) (h1 : p < 1000) (hs : s.length ≤ 31) : ∃ q, keyOf Tryd.prog 129 (kidV (p, s)) = some q := by
  have h1' : Tryd.prog.keyType 129 = true := by kernel_rfl
  have h2 : (kidV (p, s)).formed Tryd.prog 129 = true := by kernel_rfl
  have hc : Tryd.prog.cellsOf 129 = 2 := by kernel_rfl
  have hi : Tryd.prog.cellsOf 3 = 1 := by kernel_rfl
  have hst : Tryd.prog.cellsOf 9 = 1 := by kernel_rfl
  have hw : (Lit.int .i64 p).wf = true := by simp [Lit.wf, IntKind.min, IntKind.max, IntKind.signed, IntKind.bits]; omega
  have hl : (⟨s.toArray⟩ : ByteArray).size ≤ maxLen := by simp only [ByteArray.size, List.size_toArray, maxLen]; omega
  obtain ⟨D, hD⟩ : ∃ D, Tryd.prog.types.size = D + 1 := ⟨_, show Tryd.prog.types.size = (Tryd.prog.types.size - 1) + 1 by kernel_rfl⟩
  have e1 : Tryd.prog.keyLits (D + 1) 3 [vi p] = some [.int .i64 p] := by
    simp [Program.keyLits, Tryd.underlying3, hw]
  have e2 : Tryd.prog.keyLits (D + 1) 9 [vs s] = some [.string s] := by
    simp [Program.keyLits, Tryd.underlying9, hl]
  have h3 : ∃ L, Tryd.prog.keyLits (Tryd.prog.types.size + 1) 129 [vi p, vs s] = some L := by
    rw [hD]
    refine ⟨[.int .i64 p, .string s], ?_⟩
    simp [Program.keyLits, Tryd.underlying129, Tryd.underlying3, Tryd.underlying9, hc, hi, hst, hw, hl]
  obtain ⟨L, h3⟩ := h3
  unfold keyOf
  rw [Tryd.underlying129]
  simp only [h1', h2, Bool.and_self, if_true]
  exact ⟨_, by rw [show (kidV (p, s)).cells.toList = [vi p, vs s] from rfl, h3]; rfl⟩

/-- Where nodes are no tree, or the depths. -/
def chkGo : Nat → List Int → List Int → List Kid → List Nd → Int × Option (List Int)
  | _, dp, _, _, [] => (0, some dp)
  | i, dp, pt, sn, x :: r =>
    if 512 ≤ i ∨ propsOk x.props = false then ((i : Int), none)
    else if i = 0 then (if x.parent ≠ -1 ∨ x.name ≠ [] then (0, none) else chkGo 1 (dp ++ [1]) [0] sn r)
    else if nameOk x.name = false ∨ x.parent < 0 ∨ (i : Int) ≤ x.parent then ((i : Int), none)
    else if (pt.length : Int) < dp.getD x.parent.toNat 0 ∨ pt.getD (dp.getD x.parent.toNat 0 - 1).toNat 0 ≠ x.parent ∨ 16 < dp.getD x.parent.toNat 0 + 1 ∨ sn.contains (x.parent, x.name) = true then ((i : Int), none)
    else chkGo (i + 1) (dp ++ [dp.getD x.parent.toNat 0 + 1]) (pt.take (dp.getD x.parent.toNat 0).toNat ++ [(i : Int)]) (sn ++ [(x.parent, x.name)]) r
def ndC (x : Nd) (v : Value) : List Value := [vi x.parent, vs x.name, v]

set_option maxRecDepth 4000 in
set_option maxHeartbeats 1000000 in
theorem check_spec {Pb : Nat → Prop} {w : World} {v : Value} {l : List Nd} (h : RdS rNd 3 Pb w v l) :
    Calls Tryd.prog 77 #[v] w (Ret fun r w' => (∃ u, r = .tuple #[vi (chkGo 0 [] [] [] l).1, u, .bool ((chkGo 0 [] [] [] l).2.isSome && decide (0 < l.length))]) ∧ New w w') := by
  obtain ⟨a, cap, rfl, hc1, hc2⟩ := h.form
  simp only [maxLen] at hc2
  refine calls_of_Wc (n := 116) Tryd.func77 rfl rfl rfl ?_
  (repeat' (first | refine Wl.moveE (by conv => { lhs; whnf }) ?_ | refine Wl.assignE (by conv => { lhs; whnf }) ?_ | refine Wl.nil ?_ | refine Wl.lenS rfl ?_ | refine Qseq.normal ?_ | refine Wc.seq ?_ | refine Wc.region ?_))
  refine Wl.minI rfl rfl ?_
  refine Wl.make0 (R := one vi) (Pe := fun _ => False) (c := if (512 : Int) < (l.length : Int) then 512 else (l.length : Int)) rfl rfl (by split <;> omega) (by split <;> omega) (by split <;> omega) fun vd w1 od n1 => ?_
  (repeat' (first | refine Wl.assignE (by conv => { lhs; whnf }) ?_ | refine Wl.nil ?_ | refine Qseq.normal ?_ | refine Wc.seq ?_ | refine Wc.region ?_))
  refine Wl.makeMap (k := 129) fun w2 m2 n2 s2 => ?_
  have od2 := (od.mono (Pb' := fun b => w.heap.size ≤ b ∧ b ≠ w1.heap.size) (mono_one _) (fun b hb h => ⟨h, by omega⟩) (fun _ _ h => h)).new (plain_one _) n2
  clear od
  replace n2 := New.trans n1 n2
  have hs1 := n1.size
  generalize hbm : w1.heap.size = bm at m2 od2
  (repeat' (first | refine Wl.moveE (by conv => { lhs; whnf }) ?_ | refine Wl.assignE (by conv => { lhs; whnf }) ?_ | refine Wl.nil ?_ | refine Wl.lenS rfl ?_ | refine Qseq.normal ?_ | refine Wc.seq ?_ | refine Wc.region ?_ | refine Wc.block ?_))
  refine Wc.loop (σ := Nat × Value × Value × List Int × List Int × List Kid) (fun s => [(0, .slice a l.length cap), (5, s.2.1), (6, s.2.2.1), (7, .map (some bm)), (17, .slice a l.length cap), (18, vi l.length), (19, vi s.1)])
    (fun s w' => s.1 ≤ l.length ∧ s.1 ≤ 512 ∧ chkGo 0 [] [] [] l = chkGo s.1 s.2.2.2.1 s.2.2.2.2.1 s.2.2.2.2.2 (l.drop s.1) ∧ s.2.2.2.1.length = s.1 ∧ (∀ x ∈ s.2.2.2.1, 1 ≤ x ∧ x ≤ 16) ∧ s.2.2.2.2.1.length ≤ 17 ∧
      OwnS (one vi) 3 1 (fun b => w.heap.size ≤ b ∧ b ≠ bm) (fun _ => False) w' s.2.1 s.2.2.2.1 ∧ OwnS (one vi) 3 1 (fun b => w.heap.size ≤ b ∧ b ≠ bm) (fun _ => False) w' s.2.2.1 s.2.2.2.2.1 ∧ Sep s.2.1 s.2.2.1 ∧
      MapL Tryd.prog 129 w' bm (setV kidV s.2.2.2.2.2) ∧ New w w') (fun s => l.length - s.1) (0, vd, .slice none 0 0, [], [], []) ⟨rfl, rfl, rfl, rfl, rfl, rfl, rfl, trivial⟩
    ⟨Nat.zero_le _, by simp, by simp, rfl, by simp, by simp, od2, OwnS.nil, fun _ _ => by simp [Value.ownBlock], m2, n2⟩ ?_
  rintro ⟨i, vd, vp, dp, pt, sn⟩ G w3 ⟨hi, h512, hgo, hdl, hd, hpl, od3, op3, hsep, m3, n3⟩
  dsimp only at hi h512 hgo hdl hd hpl od3 op3 hsep m3 n3
  obtain ⟨pp, cp, rfl, _, _⟩ := op3.form
  simp only [upds]
  (repeat' (first | refine Wl.moveE (by conv => { lhs; whnf }) ?_ | refine Wl.assignE (by conv => { lhs; whnf }) ?_ | refine Wl.nil ?_ | refine Wl.lenS rfl ?_ | refine Qseq.normal ?_ | refine Wc.seq ?_ | refine Wc.region ?_ | refine Wc.block ?_ | refine Wc.skip ?_ | refine Wc.exit ?_ | refine Wc.ret ?_ | refine Qseq.exit ?_ | refine Qblk.hit ?_ | refine Qloop.exit ?_ | refine Wc.condT rfl ?_ | refine Wc.condF rfl ?_ | refine Wl.lss rfl rfl (fun _ => ?_) (fun _ => ?_) | refine Wl.gtr rfl rfl (fun _ => ?_) (fun _ => ?_)))
  · obtain ⟨x, hx⟩ := get_lt l (k := i) (by omega)
    refine Wl.idxAddrK h n3.keep rfl rfl (by omega) hx fun b o cs hl hR hat => ?_
    obtain ⟨pv, rfl, hpr⟩ := hR
    refine Wl.loadAt hat rfl rfl ?_
    refine Wl.alloc fun w4 b4 n4 s4 => ?_
    (repeat' (refine Wl.assignE (by conv => { lhs; whnf }) ?_))
    refine Wl.storeB (new := [vi x.parent, vs x.name, pv]) b4 rfl rfl rfl rfl (show (3 : Nat) ≤ 3 from Nat.le_refl 3) (goodNd.oc Pb w x _ ⟨pv, rfl, hpr⟩ rfl) fun w5 b5 c5 s5 => ?_
    replace b5 : Bk w5 w3.heap.size 37 [vi x.parent, vs x.name, pv] := b5
    have m5 := (m3.keep n4.keep (Pb := fun _ => True) trivial).chg c5 (by have := m3.lt; omega)
    have od5 := (od3.new (plain_one _) n4).chg (plain_one _) c5 (fun k hk e => by have := (od3.lt hk).2; omega)
    have op5 := (op3.new (plain_one _) n4).chg (plain_one _) c5 (fun k hk e => by have := (op3.lt hk).2; omega)
    have hn3 := n3.size
    have n5 : New w w5 := Chg.trans (New.trans n3 n4) c5 fun k hk e => by omega
    have hbn : w3.heap.size ≠ bm := by have := m3.lt; omega
    clear m3 od3 op3 b4 c5 n4 n3
    rw [drop_cons hx] at hgo
    simp only [chkGo] at hgo
    (repeat' (first | refine Wl.moveE (by conv => { lhs; whnf }) ?_ | refine Wl.assignE (by conv => { lhs; whnf }) ?_ | refine Wl.nil ?_ | refine Wl.guardY rfl rfl ?_ | refine Wl.guardN rfl rfl ?_ | refine Wl.pickTE rfl (by conv => { lhs; whnf }) ?_ | refine Qseq.normal ?_ | refine Wc.seq ?_ | refine Wc.region ?_ | refine Wc.ret ?_ | refine Qseq.ret ?_ | refine Qblk.ret ?_ | refine Qloop.ret ?_ | refine Wc.condT rfl ?_ | refine Wl.fieldAddr rfl rfl ?_ | refine Wl.geq rfl rfl (fun _ => ?_) (fun _ => ?_)))
    · rw [if_pos (.inl (by omega))] at hgo
      rw [hgo]
      exact Qfn.ret3 rfl rfl rfl rfl ⟨_, rfl, ⟨_, rfl⟩, n5⟩
    · refine Wl.load1 rfl (b5.cell (o := 2) rfl) ?_
      refine Wl.guardY rfl rfl ?_
      refine Wl.call (props_spec (hpr.keep (stable_flat pC) n5.keep)) rfl ?_
      rintro _ w6 ⟨rfl, n6⟩
      have b6 := b5.keep n6.keep (Pb := fun _ => True) trivial
      have m6 := m5.keep n6.keep (Pb := fun _ => True) trivial
      have od6 := od5.new (plain_one _) n6
      have op6 := op5.new (plain_one _) n6
      replace n6 := New.trans n5 n6
      clear b5 m5 od5 op5
      cases hpo : propsOk x.props with
      | false =>
        (repeat' (first | refine Wl.moveE (by conv => { lhs; whnf }) ?_ | refine Wl.assignE (by conv => { lhs; whnf }) ?_ | refine Wl.nil ?_ | refine Wl.guardY rfl rfl ?_ | refine Wl.pickFE rfl (by conv => { lhs; whnf }) ?_ | refine Wl.notB rfl ?_ | refine Qseq.normal ?_ | refine Wc.seq ?_ | refine Wc.region ?_ | refine Wc.ret ?_ | refine Qseq.ret ?_ | refine Qblk.ret ?_ | refine Qloop.ret ?_ | refine Wc.condT rfl ?_))
        rw [if_pos (.inr hpo)] at hgo
        rw [hgo]
        exact Qfn.ret3 rfl rfl rfl rfl ⟨_, rfl, ⟨_, rfl⟩, n6⟩
      | true =>
        rw [if_neg (by rw [hpo]; simp; omega)] at hgo
        (repeat' (first | refine Wl.moveE (by conv => { lhs; whnf }) ?_ | refine Wl.nil ?_ | refine Wl.guardY rfl rfl ?_ | refine Wl.pickFE rfl (by conv => { lhs; whnf }) ?_ | refine Wl.notB rfl ?_ | refine Qseq.normal ?_ | refine Wc.seq ?_ | refine Wc.region ?_ | refine Wc.skip ?_ | refine Wc.condT rfl ?_ | refine Wc.condF rfl ?_ | refine Wl.fieldAddr rfl rfl ?_ | refine Wl.eql rfl rfl (fun _ => ?_) (fun _ => ?_)))
        · have e0 : i = 0 := by omega
          subst e0
          rw [if_pos rfl] at hgo
          refine Wl.load1 rfl (b6.cell (o := 0) rfl) ?_
          (repeat' (first | refine Wl.moveE (by conv => { lhs; whnf }) ?_ | refine Wl.assignE (by conv => { lhs; whnf }) ?_ | refine Wl.nil ?_ | refine Wl.guardY rfl rfl ?_ | refine Wl.guardN rfl rfl ?_ | refine Wl.pickTE rfl (by conv => { lhs; whnf }) ?_ | refine Qseq.normal ?_ | refine Wc.seq ?_ | refine Wc.region ?_ | refine Wc.ret ?_ | refine Qseq.ret ?_ | refine Qblk.ret ?_ | refine Qloop.ret ?_ | refine Wc.condT rfl ?_ | refine Wl.fieldAddr rfl rfl ?_ | refine Wl.neq rfl rfl (fun _ => ?_) (fun _ => ?_)))
          · rw [if_pos (.inl (by assumption))] at hgo
            rw [hgo]
            exact Qfn.ret3 rfl rfl rfl rfl ⟨_, rfl, ⟨_, rfl⟩, n6⟩
          · refine Wl.load1 rfl (b6.cell (o := 1) rfl) ?_
            (repeat' (first | refine Wl.assignE (by conv => { lhs; whnf }) ?_ | refine Wl.nil ?_ | refine Wl.guardY rfl rfl ?_ | refine Wl.pickFE rfl (by conv => { lhs; whnf }) ?_ | refine Qseq.normal ?_ | refine Wc.seq ?_ | refine Wc.region ?_ | refine Wc.skip ?_ | refine Wc.ret ?_ | refine Qseq.ret ?_ | refine Qblk.ret ?_ | refine Qloop.ret ?_ | refine Wc.condT rfl ?_ | refine Wc.condF rfl ?_ | refine Wl.sneq rfl rfl (fun _ => ?_) (fun _ => ?_)))
            · rw [if_pos (.inr (by assumption))] at hgo
              rw [hgo]
              exact Qfn.ret3 rfl rfl rfl rfl ⟨_, rfl, ⟨_, rfl⟩, n6⟩
            · rw [if_neg (by simp only [not_or, Decidable.not_not]; exact ⟨by assumption, by assumption⟩)] at hgo
              have s6 := n6.size
              refine Wl.buildSlice1 (R := one vi) (y := 0) (Pe := fun _ => False) (good_one _ fun _ => rfl) rfl rfl rfl rfl (by omega) (by omega) fun vp' w7 op7 n7 s7 hob => ?_
              have od7 := od6.new (plain_one _) n7
              have m7 := m6.keep n7.keep (Pb := fun _ => True) trivial
              have hm7 := m6.lt
              (repeat' (refine Wl.moveE (by conv => { lhs; whnf }) ?_))
              refine Wl.append1 (y := 1) (good_one _ fun _ => rfl) od7 rfl rfl rfl rfl rfl (by omega) (by omega) (by simp only [maxLen]; omega) (by omega) rfl rfl fun vd' w8 p od8 c8 lie => ?_
              (repeat' (first | refine Wl.moveE (by conv => { lhs; whnf }) ?_ | refine Wl.assignE (by conv => { lhs; whnf }) ?_ | refine Wl.nil ?_ | refine Qseq.normal ?_ | refine Wc.region ?_ | refine Wc.exit ?_ | refine Qseq.exit ?_ | refine Qblk.hit ?_ | refine Wl.add rfl rfl (by omega) (by omega) ?_))
              have hsp : Sep vp' vd := fun k hk hk' => by rw [hob] at hk; cases hk; have := (od6.lt hk').2; omega
              refine Qloop.normal (1, vd', vp', dp ++ [1], [0], sn) ⟨rfl, rfl, rfl, rfl, rfl, rfl, rfl, trivial⟩ ⟨by dsimp only; omega, by dsimp only; omega, hgo, by simp [hdl], ?_, by simp, od8.mono (mono_one _) (fun b hb h => by rcases h with h | h; exact h; exact ⟨by omega, by omega⟩) (fun _ _ h => h),
                (op7.mono (mono_one _) (fun b hb h => ⟨by omega, by omega⟩) (fun _ _ h => h)).chg (plain_one _) c8 hsp, (sepGrown op7 hsp lie).symm, m7.chg c8 (fun e => (od7.lt e).1.2 rfl), Chg.trans (New.trans n6 n7) c8 fun k hk e => by have := (od7.lt e).1.1; omega⟩ (by dsimp only; omega)
              intro y hy
              rcases List.mem_append.1 hy with hy | hy
              · exact hd y hy
              · simp at hy; omega
        · have hi0 : i ≠ 0 := by omega
          rw [if_neg hi0] at hgo
          refine Wl.load1 rfl (b6.cell (o := 1) rfl) ?_
          refine Wl.call (Name_spec (s := x.name)) rfl ?_
          rintro _ w7 ⟨rfl, n7⟩
          have b7 := b6.keep n7.keep (Pb := fun _ => True) trivial
          have m7 := m6.keep n7.keep (Pb := fun _ => True) trivial
          have od7 := od6.new (plain_one _) n7
          have op7 := op6.new (plain_one _) n7
          replace n7 := New.trans n6 n7
          clear b6 m6 od6 op6
          (repeat' (first | refine Wl.moveE (by conv => { lhs; whnf }) ?_ | refine Wl.assignE (by conv => { lhs; whnf }) ?_ | refine Wl.nil ?_ | refine Wl.guardY rfl rfl ?_ | refine Wl.guardN rfl rfl ?_ | refine Wl.pickTE rfl (by conv => { lhs; whnf }) ?_ | refine Qseq.normal ?_ | refine Wc.seq ?_ | refine Wc.region ?_ | refine Wc.ret ?_ | refine Qseq.ret ?_ | refine Qblk.ret ?_ | refine Qloop.ret ?_ | refine Wc.condT rfl ?_ | refine Wl.fieldAddr rfl rfl ?_ | refine Wl.neq rfl rfl (fun _ => ?_) (fun _ => ?_)))
          · rw [if_pos (.inl (nameNo_bad (by assumption)))] at hgo
            rw [hgo]
            exact Qfn.ret3 rfl rfl rfl rfl ⟨_, rfl, ⟨_, rfl⟩, n7⟩
          · have hnm := nameNo_ok (by assumption)
            refine Wl.load1 rfl (b7.cell (o := 0) rfl) ?_
            (repeat' (first | refine Wl.moveE (by conv => { lhs; whnf }) ?_ | refine Wl.assignE (by conv => { lhs; whnf }) ?_ | refine Wl.nil ?_ | refine Wl.guardY rfl rfl ?_ | refine Wl.guardN rfl rfl ?_ | refine Wl.pickTE rfl (by conv => { lhs; whnf }) ?_ | refine Wl.pickFE rfl (by conv => { lhs; whnf }) ?_ | refine Qseq.normal ?_ | refine Wc.seq ?_ | refine Wc.region ?_ | refine Wc.ret ?_ | refine Qseq.ret ?_ | refine Qblk.ret ?_ | refine Qloop.ret ?_ | refine Wc.condT rfl ?_ | refine Wl.fieldAddr rfl rfl ?_ | refine Wl.lss rfl rfl (fun _ => ?_) (fun _ => ?_)))
            · rw [if_pos (.inr (.inl (by assumption)))] at hgo
              rw [hgo]
              exact Qfn.ret3 rfl rfl rfl rfl ⟨_, rfl, ⟨_, rfl⟩, n7⟩
            · refine Wl.load1 rfl (b7.cell (o := 0) rfl) ?_
              (repeat' (first | refine Wl.moveE (by conv => { lhs; whnf }) ?_ | refine Wl.assignE (by conv => { lhs; whnf }) ?_ | refine Wl.nil ?_ | refine Wl.guardY rfl rfl ?_ | refine Wl.pickFE rfl (by conv => { lhs; whnf }) ?_ | refine Qseq.normal ?_ | refine Wc.seq ?_ | refine Wc.region ?_ | refine Wc.skip ?_ | refine Wc.ret ?_ | refine Qseq.ret ?_ | refine Qblk.ret ?_ | refine Qloop.ret ?_ | refine Wc.condT rfl ?_ | refine Wc.condF rfl ?_ | refine Wl.fieldAddr rfl rfl ?_ | refine Wl.geq rfl rfl (fun _ => ?_) (fun _ => ?_)))
              · rw [if_pos (.inr (.inr (by assumption)))] at hgo
                rw [hgo]
                exact Qfn.ret3 rfl rfl rfl rfl ⟨_, rfl, ⟨_, rfl⟩, n7⟩
              · rw [if_neg (by rw [hnm]; simp; omega)] at hgo
                obtain ⟨d, hdx⟩ := get_lt dp (k := x.parent.toNat) (by omega)
                have hdr := hd d (List.mem_of_getElem? hdx)
                rw [List.getD_eq_getElem?_getD, hdx, Option.getD_some] at hgo
                refine Wl.load1 rfl (b7.cell (o := 0) rfl) ?_
                refine Wl.idxAddrV (od7.rd (mono_one _)) rfl rfl (by omega) hdx fun b' o' hc => ?_
                refine Wl.load1 rfl hc ?_
                (repeat' (first | refine Wl.assignE (by conv => { lhs; whnf }) ?_ | refine Wl.nil ?_ | refine Qseq.normal ?_ | refine Wc.seq ?_ | refine Wc.region ?_ | refine Wl.fieldAddr rfl rfl ?_))
                refine Wl.load1 rfl (b7.cell (o := 0) rfl) ?_
                (repeat' (refine Wl.fieldAddr rfl rfl ?_))
                refine Wl.load1 rfl (b7.cell (o := 1) rfl) ?_
                refine Wl.buildF (ps := [(0, .tmp 69), (1, .tmp 71)]) (parts := [(0, vi x.parent), (1, vs x.name)]) rfl rfl (by simp [Value.cells]) ?_
                refine Wl.alloc fun w8 b8 n8 s8 => ?_
                refine Wl.storeB (new := [vi x.parent, vs x.name]) b8 rfl rfl rfl rfl (show (2 : Nat) ≤ 2 from Nat.le_refl 2) (by simp; exact ⟨rfl, rfl⟩) fun w9 b9 c9 s9 => ?_
                replace b9 : Bk w9 w7.heap.size 129 [vi x.parent, vs x.name] := b9
                have s7 := n7.size
                have m9 := (m7.keep n8.keep (Pb := fun _ => True) trivial).chg c9 (by have := m7.lt; omega)
                have od9 := (od7.new (plain_one _) n8).chg (plain_one _) c9 (fun k hk e => by have := (od7.lt hk).2; omega)
                have op9 := (op7.new (plain_one _) n8).chg (plain_one _) c9 (fun k hk e => by have := (op7.lt hk).2; omega)
                have n9 : New w w9 := Chg.trans (New.trans n7 n8) c9 fun k hk e => by omega
                have b79 := (b7.keep n8.keep (Pb := fun _ => True) trivial).chg c9 (by have := b7.lt; omega)
                clear m7 od7 op7 b8 c9 n8 b7
                (repeat' (first | refine Wl.nil ?_ | refine Qseq.normal ?_ | refine Wc.seq ?_))
                obtain ⟨q, hq⟩ := keyKid x.parent x.name (by omega) (by omega) (nameOk_len hnm)
                refine Wc.regionN rfl (by kernel_rfl) ?_
                (repeat' (first | refine Wq.moveE (by conv => { lhs; whnf }) ?_ | refine Wq.nil ?_ | refine Wq.guardY rfl rfl ?_ | refine Wq.guardN rfl rfl ?_ | refine Wq.pickTE rfl (by conv => { lhs; whnf }) ?_ | refine Wq.lenS rfl ?_ | refine Wq.sub rfl rfl (by omega) (by omega) ?_ | refine Wq.gtr rfl rfl (fun _ => ?_) (fun _ => ?_)))
                · intro w10 n10
                  replace n10 := New.trans n9 n10
                  (repeat' (first | refine Wl.moveE (by conv => { lhs; whnf }) ?_ | refine Wl.assignE (by conv => { lhs; whnf }) ?_ | refine Wl.nil ?_ | refine Qseq.normal ?_ | refine Wc.seq ?_ | refine Wc.region ?_ | refine Wc.ret ?_ | refine Qseq.ret ?_ | refine Qblk.ret ?_ | refine Qloop.ret ?_ | refine Wc.condT rfl ?_))
                  rw [if_pos (.inl (by omega))] at hgo
                  rw [hgo]
                  exact Qfn.ret3 rfl rfl rfl rfl ⟨_, rfl, ⟨_, rfl⟩, n10⟩
                · obtain ⟨y, hy⟩ := get_lt pt (k := (d - 1).toNat) (by omega)
                  rw [List.getD_eq_getElem?_getD, hy, Option.getD_some] at hgo
                  (try refine Wq.guardY rfl rfl ?_)
                  refine Wq.idxAddrV (op9.rd (mono_one _)) (fun w' hw => hw.keep) rfl rfl (by omega) hy fun b2 o2 hc2 => ?_
                  (try refine Wq.guardY rfl rfl ?_)
                  refine Wq.load1 rfl hc2 ?_
                  (try refine Wq.guardY rfl rfl ?_)
                  refine Wq.fieldAddr rfl rfl ?_
                  (try refine Wq.guardY rfl rfl ?_)
                  refine Wq.load1 rfl (fun w' hw => (b79.chg hw id).cell (o := 0) rfl) ?_
                  (repeat' (first | refine Wq.moveE (by conv => { lhs; whnf }) ?_ | refine Wq.nil ?_ | refine Wq.guardY rfl rfl ?_ | refine Wq.guardN rfl rfl ?_ | refine Wq.pickTE rfl (by conv => { lhs; whnf }) ?_ | refine Wq.pickFE rfl (by conv => { lhs; whnf }) ?_ | refine Wq.add rfl rfl (by omega) (by omega) ?_ | refine Wq.gtr rfl rfl (fun _ => ?_) (fun _ => ?_) | refine Wq.neq rfl rfl (fun _ => ?_) (fun _ => ?_)))
                  · intro w10 n10
                    replace n10 := New.trans n9 n10
                    (repeat' (first | refine Wl.moveE (by conv => { lhs; whnf }) ?_ | refine Wl.assignE (by conv => { lhs; whnf }) ?_ | refine Wl.nil ?_ | refine Qseq.normal ?_ | refine Wc.seq ?_ | refine Wc.region ?_ | refine Wc.ret ?_ | refine Qseq.ret ?_ | refine Qblk.ret ?_ | refine Qloop.ret ?_ | refine Wc.condT rfl ?_))
                    rw [if_pos (.inr (.inl (by assumption)))] at hgo
                    rw [hgo]
                    exact Qfn.ret3 rfl rfl rfl rfl ⟨_, rfl, ⟨_, rfl⟩, n10⟩
                  · intro w10 n10
                    replace n10 := New.trans n9 n10
                    (repeat' (first | refine Wl.moveE (by conv => { lhs; whnf }) ?_ | refine Wl.assignE (by conv => { lhs; whnf }) ?_ | refine Wl.nil ?_ | refine Qseq.normal ?_ | refine Wc.seq ?_ | refine Wc.region ?_ | refine Wc.ret ?_ | refine Qseq.ret ?_ | refine Qblk.ret ?_ | refine Qloop.ret ?_ | refine Wc.condT rfl ?_))
                    rw [if_pos (.inr (.inr (.inl (by omega))))] at hgo
                    rw [hgo]
                    exact Qfn.ret3 rfl rfl rfl rfl ⟨_, rfl, ⟨_, rfl⟩, n10⟩
                  · (try refine Wq.guardY rfl rfl ?_)
                    refine Wq.loadAt (fun w' hw => (b9.chg hw id).at) rfl rfl ?_
                    (try refine Wq.guardY rfl rfl ?_)
                    refine Wq.lookup kidKeyed m9 (u0 := .bool true) (fun p hp => by obtain ⟨k, _, rfl⟩ := List.mem_map.1 hp; rfl) (fun w' hw => hw.block _ m9.lt id) hq rfl rfl (fun hin => ?_) (fun hnot => ?_)
                    · have hcon : sn.contains (x.parent, x.name) = true := by
                        obtain ⟨k, hk, e⟩ := List.mem_map.1 hin
                        simp only [Prod.mk.injEq, and_true] at e
                        rw [kidV_inj e] at hk
                        exact List.contains_iff_mem.2 hk
                      (repeat' (first | refine Wq.nil ?_ | refine Wq.pickFE rfl (by conv => { lhs; whnf }) ?_))
                      intro w10 n10
                      replace n10 := New.trans n9 n10
                      (repeat' (first | refine Wl.moveE (by conv => { lhs; whnf }) ?_ | refine Wl.assignE (by conv => { lhs; whnf }) ?_ | refine Wl.nil ?_ | refine Qseq.normal ?_ | refine Wc.seq ?_ | refine Wc.region ?_ | refine Wc.ret ?_ | refine Qseq.ret ?_ | refine Qblk.ret ?_ | refine Qloop.ret ?_ | refine Wc.condT rfl ?_))
                      rw [if_pos (.inr (.inr (.inr hcon)))] at hgo
                      rw [hgo]
                      exact Qfn.ret3 rfl rfl rfl rfl ⟨_, rfl, ⟨_, rfl⟩, n10⟩
                    · have hcon : sn.contains (x.parent, x.name) = false := by
                        rw [Bool.eq_false_iff]; intro hc
                        exact hnot (kidV (x.parent, x.name), .bool true) (List.mem_map.2 ⟨_, List.contains_iff_mem.1 hc, rfl⟩) rfl
                      have hy' : y = x.parent := by assumption
                      rw [if_neg (by rw [hcon, hy']; simp; omega)] at hgo
                      (repeat' (first | refine Wq.nil ?_ | refine Wq.pickFE rfl (by conv => { lhs; whnf }) ?_))
                      intro w10 n10
                      have m10 := m9.keep n10.keep (Pb := fun _ => True) trivial
                      have od10 := od9.new (plain_one _) n10
                      have op10 := op9.new (plain_one _) n10
                      have b10 := b9.keep n10.keep (Pb := fun _ => True) trivial
                      replace n10 := New.trans n9 n10
                      clear m9 od9 op9 b9 n9
                      (repeat' (first | refine Wl.moveE (by conv => { lhs; whnf }) ?_ | refine Qseq.normal ?_ | refine Wc.seq ?_ | refine Wc.region ?_ | refine Wc.skip ?_ | refine Wc.condF rfl ?_))
                      refine Wl.loadB b10 rfl rfl ?_
                      refine Wl.mapPut (u := .bool true) (key := kidV (x.parent, x.name)) kidKeyed m10 hq hnot rfl rfl rfl fun w11 m11 c11 s11 => ?_
                      have od11 := od10.chg (plain_one _) c11 (fun k hk e => (od10.lt hk).1.2 e)
                      have op11 := op10.chg (plain_one _) c11 (fun k hk e => (op10.lt hk).1.2 e)
                      have n11 : New w w11 := Chg.trans n10 c11 fun k hk e => by omega
                      have s9' := n11.size
                      clear m10 od10 op10 b10 n10
                      (repeat' (first | refine Wl.moveE (by conv => { lhs; whnf }) ?_ | refine Wl.nil ?_ | refine Qseq.normal ?_ | refine Wc.region ?_))
                      refine Wl.sliceOwn op11 rfl rfl (by omega) (by omega) fun vq oq ob => ?_
                      (repeat' (refine Wl.moveE (by conv => { lhs; whnf }) ?_))
                      refine Wl.append1 (y := (i : Int)) (good_one _ fun _ => rfl) oq rfl rfl rfl rfl rfl (by omega) (by omega) (by simp only [maxLen, List.length_take]; omega) (by simp only [List.length_take]; omega) rfl rfl fun vp' w12 p op12 c12 lie12 => ?_
                      have hsq : Sep vd vq := fun k hk hk' => hsep k hk (ob ▸ hk')
                      have od12 := od11.chg (plain_one _) c12 hsq
                      have m12 := m11.chg c12 (fun e => (oq.lt e).1.2 rfl)
                      have hm12 := m11.lt
                      have n12 : New w w12 := Chg.trans n11 c12 fun k hk e => by have := (oq.lt e).1.1; omega
                      have hsep12 : Sep vd vp' := sepGrown od11 hsq lie12
                      replace op12 := op12.mono (Pb' := fun b => w.heap.size ≤ b ∧ b ≠ bm) (mono_one _) (fun b hb h => by rcases h with h | h; exact h; exact ⟨by omega, by omega⟩) (fun _ _ h => h)
                      have s12 := c12.size
                      clear oq op11 od11 m11 c12
                      (repeat' (first | refine Wl.moveE (by conv => { lhs; whnf }) ?_ | refine Wl.add rfl rfl (by omega) (by omega) ?_))
                      refine Wl.append1 (y := d + 1) (good_one _ fun _ => rfl) od12 rfl rfl rfl rfl rfl (by omega) (by omega) (by simp only [maxLen]; omega) (by omega) rfl rfl fun vd' w13 p od13 c13 lie13 => ?_
                      have hm13 := m12.lt
                      (repeat' (first | refine Wl.moveE (by conv => { lhs; whnf }) ?_ | refine Wl.assignE (by conv => { lhs; whnf }) ?_ | refine Wl.nil ?_ | refine Qseq.normal ?_ | refine Wc.region ?_ | refine Qblk.normal ?_ | refine Wl.add rfl rfl (by omega) (by omega) ?_))
                      refine Qloop.normal (i + 1, vd', vp', dp ++ [d + 1], pt.take d.toNat ++ [(i : Int)], sn ++ [(x.parent, x.name)]) ⟨rfl, rfl, rfl, rfl, rfl, rfl, rfl, trivial⟩ ⟨by dsimp only; omega, by dsimp only; omega, hgo, by simp [hdl], ?_, by simp; omega,
                        od13.mono (mono_one _) (fun b hb h => by rcases h with h | h; exact h; exact ⟨by omega, by omega⟩) (fun _ _ h => h),
                        op12.chg (plain_one _) c13 hsep12.symm, (sepGrown op12 hsep12.symm lie13).symm, ?_, Chg.trans n12 c13 fun k hk e => by have := (od12.lt e).1.1; omega⟩ (by dsimp only; omega)
                      · intro z hz
                        rcases List.mem_append.1 hz with hz | hz
                        · exact hd z hz
                        · simp at hz; omega
                      · have := m12.chg c13 (fun e => (od12.lt e).1.2 rfl)
                        simpa [setV] using this
  all_goals
    have e : i = l.length := by omega
    subst e
    rw [List.drop_length] at hgo
    simp only [chkGo] at hgo
    obtain ⟨qd, cd, rfl, _, _⟩ := od3.form
    rw [hgo]
    refine Qfn.ret3 rfl rfl rfl rfl ⟨_, rfl, ⟨.slice qd dp.length cd, ?_⟩, n3⟩
    rw [Option.isSome_some, Bool.true_and]
    first | (rw [decide_eq_true (by omega)]; rfl) | (rw [decide_eq_false (by omega)]; rfl)
end Go.Proofs.YtjpebmgllfiloaaDoor

namespace Go.Proofs.YtjpebmgllfiloaaDoor
open Go Wk
open Go.RowKit (Below)
attribute [local irreducible] Go.Calls

def splitR (c : UInt8) : List UInt8 → List (List UInt8)
  | [] => [[]]
  | b :: l => if b = c then [] :: splitR c l else (match splitR c l with | h :: t => (b :: h) :: t | [] => [[b]])
theorem splitR_free {c : UInt8} : ∀ {l : List UInt8}, (∀ b ∈ l, b ≠ c) → splitR c l = [l]
  | [], _ => rfl
  | b :: l, h => by
    rw [splitR, if_neg (h b (by simp)), splitR_free fun x hx => h x (by simp [hx])]
theorem splitR_at {c : UInt8} {r : List UInt8} : ∀ {p : List UInt8}, (∀ b ∈ p, b ≠ c) → splitR c (p ++ c :: r) = p :: splitR c r
  | [], _ => by simp [splitR]
  | b :: l, h => by
    rw [List.cons_append, splitR, if_neg (h b (by simp)), splitR_at fun x hx => h x (by simp [hx])]
theorem splitR_ne (c : UInt8) : ∀ l : List UInt8, splitR c l ≠ []
  | [] => by simp [splitR]
  | b :: l => by rw [splitR]; split; simp; split <;> simp
theorem splitR_length (c : UInt8) : ∀ l : List UInt8, (splitR c l).length = l.count c + 1
  | [] => rfl
  | b :: l => by
    have ih := splitR_length c l
    rw [splitR, List.count_cons]
    split
    · rename_i e; simp [ih, e]
    · rename_i e
      have hne := splitR_ne c l
      revert ih hne
      generalize splitR c l = q
      intro ih hne
      cases q with
      | nil => exact absurd rfl hne
      | cons h t => simp only [List.length_cons] at ih ⊢; simp [e]; omega
theorem splitK_splitR (c : UInt8) : ∀ (k : Nat) (l : List UInt8), l.count c = k → Lib.splitK [c] 0 k l = splitR c l
  | 0, l, h => by
    rw [splitR_free fun b hb e => by subst e; exact absurd (List.count_pos_iff.2 hb) (by omega)]
    rfl
  | k + 1, l, h => by
    have hge := Lib.indexByte_ge l c
    have hne : Lib.indexByte l c ≠ -1 := fun e => by
      obtain ⟨j, hj⟩ := List.mem_iff_getElem?.1 (List.count_pos_iff.1 (show 0 < l.count c by omega))
      exact Lib.indexByte_none e j hj
    obtain ⟨o, ho⟩ := Int.eq_ofNat_of_zero_le (show 0 ≤ Lib.indexByte l c by omega)
    obtain ⟨h1, h2⟩ := Lib.indexByte_some ho
    obtain ⟨hlt, he⟩ := List.getElem?_eq_some_iff.1 h1
    have hl : l = l.take o ++ c :: l.drop (o + 1) := by
      conv => lhs; rw [← List.take_append_drop o l, List.drop_eq_getElem_cons hlt, he]
    have hfree : ∀ b ∈ l.take o, b ≠ c := fun b hb e => by
      subst e
      obtain ⟨j, hj⟩ := List.mem_iff_getElem?.1 hb
      rw [List.getElem?_take] at hj
      split at hj
      · exact h2 j ‹_› hj
      · cases hj
    have hc0 : (l.take o).count c = 0 := List.count_eq_zero.2 fun hm => hfree c hm rfl
    have hcd : (l.drop (o + 1)).count c = k := by
      rw [hl, List.count_append, hc0, List.count_cons_self] at h
      omega
    have hi : (Lib.index l [c] == -1) = false := by rw [Lib.index_one, ho]; simp
    unfold Lib.splitK
    rw [hi, Lib.index_one, ho]
    simp only [Bool.false_eq_true, if_false, Int.toNat_natCast, Nat.add_zero, List.length_singleton]
    rw [splitK_splitR c k _ hcd]
    conv => rhs; rw [hl]
    rw [splitR_at hfree]

theorem Split_spec {l : List UInt8} {w : World} (hl : l.length ≤ 2000000) :
    Calls Tryd.prog 79 #[vs l, vs [47]] w (Ret fun r w' => OwnS (one vs) 9 1 (fun b => w.heap.size ≤ b) (fun _ => False) w' r (splitR 47 l) ∧ New w w') := by
  refine calls_of_Wc (n := 8) Tryd.func79 rfl rfl rfl ?_
  (repeat' (first | refine Wl.moveE (by conv => { lhs; whnf }) ?_ | refine Wl.assignE (by conv => { lhs; whnf }) ?_ | refine Wl.nil ?_ | refine Qseq.normal ?_ | refine Wc.seq ?_ | refine Wc.region ?_))
  have hsz : (⟨l.toArray⟩ : ByteArray).size = l.length := by simp [ByteArray.size]
  have hcnt : Lib.countB ⟨l.toArray⟩ ⟨#[47]⟩ = l.count 47 := Lib.count_one 47 l
  have hle : l.count 47 ≤ l.length := List.count_le_length
  have hC : Calls Tryd.prog 90 #[.string ⟨l.toArray⟩, .string ⟨#[47]⟩] w fun e w' => e = .returned (.int .i64 (Lib.countB ⟨l.toArray⟩ ⟨#[47]⟩)) ∧ w' = w := by
    refine (Tryd.strings_Count_one ⟨l.toArray⟩ 47 w).mono fun e w' h => ⟨?_, h.2⟩
    rw [h.1, hcnt]; rfl
  have hI : ∀ (x : ByteArray) (c : Array Value), x.size ≤ (⟨l.toArray⟩ : ByteArray).size → Calls Tryd.prog 91 #[.string x, .string ⟨#[47]⟩] (w.alloc (.cells c 9)) fun e w' => e = .returned (.int .i64 (Lib.indexB x ⟨#[47]⟩)) ∧ w' = w.alloc (.cells c 9) := by
    intro x c _
    refine (Tryd.strings_Index_one x 47 _).mono fun e w' h => ⟨?_, h.2⟩
    rw [h.1]
    show _ = Ending.returned (Value.int .i64 (Lib.index x.data.toList [47]))
    rw [Lib.index_one]
  have core := Any.strings_genSplit_core Tryd.lays221 (by kernel_rfl) ⟨l.toArray⟩ ⟨#[47]⟩ 0 (-1) (l.count 47 + 1) w (by rw [hsz]; omega) (Nat.le_refl 1) (Nat.zero_le _) hI hC (by decide) (by decide) (by rw [if_pos (by decide), hcnt, hsz]; omega)
  have hdata : (Lib.splitB ⟨#[47]⟩ 0 (l.count 47) ⟨l.toArray⟩).map (·.data.toList) = splitR 47 l := by
    rw [Lib.splitB_data]; exact splitK_splitR 47 _ l rfl
  have hlen := congrArg List.length hdata
  simp only [List.length_map] at hlen
  have hln : (Lib.splitB ⟨#[47]⟩ 0 (l.count 47) ⟨l.toArray⟩).length = l.count 47 + 1 := Lib.splitB_all ⟨#[47]⟩ (Nat.le_refl 1) 0 _ _ hcnt
  have hcells : (Lib.cellsOf (Lib.splitB ⟨#[47]⟩ 0 (l.count 47) ⟨l.toArray⟩) (l.count 47 + 1)) = ((splitR 47 l).map vs).toArray := by
    unfold Lib.cellsOf
    rw [hln, Nat.sub_self, List.replicate_zero, List.append_nil, ← hdata, List.map_map]
    rfl
  refine Wl.call (φ := fun r w' => OwnS (one vs) 9 1 (fun b => w.heap.size ≤ b) (fun _ => False) w' r (splitR 47 l) ∧ New w w') (core.mono fun e w' h => ⟨_, h.1, ?_, ?_⟩) rfl ?_
  · rw [h.2, Nat.add_sub_cancel, hcells, hlen]
    refine ⟨(splitR 47 l).map vs, ⟨by simp, .inr ⟨_, _, _, rfl, Nat.le_refl _, heap_alloc_new w _, ?_, by simp only [maxLen]; omega, ?_, ?_⟩⟩, fun i x hx => ?_⟩
    · omega
    · simp only [List.size_toArray, List.length_map]; omega
    · rw [Nat.mul_one, List.take_of_length_le (by simp)]
    · rw [Nat.mul_one]
      show List.take 1 (List.drop i (List.map vs _)) = [vs x]
      obtain ⟨h1, h2⟩ := List.getElem?_eq_some_iff.1 hx
      rw [List.drop_eq_getElem_cons (by simpa using h1), List.getElem_map, h2]; rfl
  · rw [h.2]; exact Chg.alloc _ _ _
  · rintro v w1 ⟨h1, n1⟩
    (repeat' (first | refine Wl.assignE (by conv => { lhs; whnf }) ?_ | refine Wl.nil ?_ | refine Qseq.normal ?_ | refine Wc.ret ?_))
    exact Qfn.ret1 rfl rfl ⟨_, rfl, h1, n1⟩
end Go.Proofs.YtjpebmgllfiloaaDoor

namespace Go.Proofs.YtjpebmgllfiloaaDoor
open Go Wk
open Go.RowKit (Below)
attribute [local irreducible] Go.Calls

def treeOk (l : List Nd) : Bool := (chkGo 0 [] [] [] l).2.isSome && decide (0 < l.length)
def treeAt (l : List Nd) : Int := if treeOk l = true then 0 else (chkGo 0 [] [] [] l).1
def treeE (l : List Nd) : Int := if treeOk l = true then 0 else 40
theorem Check_spec {Pb : Nat → Prop} {w : World} {v : Value} {l : List Nd} (h : RdS rNd 3 Pb w v l) :
    Calls Tryd.prog 65 #[v] w (Ret fun r w' => r = .tuple #[vi (treeAt l), vi (treeE l)] ∧ New w w') := by
  refine calls_of_Wc Tryd.func65 rfl Tryd.ntmps65 rfl ?_
  (repeat' (first | refine Wl.moveE (by conv => { lhs; whnf }) ?_ | refine Wl.assignE (by conv => { lhs; whnf }) ?_ | refine Wl.nil ?_ | refine Qseq.normal ?_ | refine Wc.seq ?_ | refine Wc.region ?_))
  refine Wl.call (check_spec h) rfl ?_
  rintro _ w1 ⟨⟨u, rfl⟩, n1⟩
  unfold treeAt treeE
  cases hok : treeOk l with
  | true =>
    have e : ((chkGo 0 [] [] [] l).2.isSome && decide (0 < l.length)) = true := hok
    rw [e]
    (repeat' (first | refine Wl.moveE (by conv => { lhs; whnf }) ?_ | refine Wl.assignE (by conv => { lhs; whnf }) ?_ | refine Wl.nil ?_ | refine Wl.extract rfl rfl ?_ | refine Wl.notB rfl ?_ | refine Qseq.normal ?_ | refine Wc.seq ?_ | refine Wc.region ?_ | refine Wc.skip ?_ | refine Wc.ret ?_ | refine Wc.condF rfl ?_))
    exact Qfn.ret2 rfl rfl rfl ⟨_, rfl, rfl, n1⟩
  | false =>
    have e : ((chkGo 0 [] [] [] l).2.isSome && decide (0 < l.length)) = false := hok
    rw [e]
    (repeat' (first | refine Wl.moveE (by conv => { lhs; whnf }) ?_ | refine Wl.assignE (by conv => { lhs; whnf }) ?_ | refine Wl.nil ?_ | refine Wl.extract rfl rfl ?_ | refine Wl.notB rfl ?_ | refine Qseq.normal ?_ | refine Wc.seq ?_ | refine Wc.region ?_ | refine Wc.ret ?_ | refine Qseq.ret ?_ | refine Wc.condT rfl ?_))
    exact Qfn.ret2 rfl rfl rfl ⟨_, rfl, rfl, n1⟩
theorem may_spec {Pb : Nat → Prop} {w : World} {v : Value} {l : List Nd} (h : RdS rNd 3 Pb w v l) :
    Calls Tryd.prog 39 #[v] w (Ret fun r w' => r = .bool (treeOk l) ∧ New w w') := by
  refine calls_of_Wc Tryd.func39 rfl Tryd.ntmps39 rfl ?_
  (repeat' (first | refine Wl.moveE (by conv => { lhs; whnf }) ?_ | refine Wl.assignE (by conv => { lhs; whnf }) ?_ | refine Wl.nil ?_ | refine Qseq.normal ?_ | refine Wc.seq ?_ | refine Wc.region ?_))
  refine Wl.call (Check_spec h) rfl ?_
  rintro _ w1 ⟨rfl, n1⟩
  unfold treeE
  cases hok : treeOk l with
  | true =>
    rw [if_pos rfl]
    (repeat' (first | refine Wl.moveE (by conv => { lhs; whnf }) ?_ | refine Wl.assignE (by conv => { lhs; whnf }) ?_ | refine Wl.nil ?_ | refine Wl.extract rfl rfl ?_ | refine Qseq.normal ?_ | refine Wc.seq ?_ | refine Wc.region ?_ | refine Wc.ret ?_ | (refine Wl.eql rfl rfl (fun _ => ?_) (fun _ => ?_) <;> (first | (exfalso; omega) | skip))))
    exact Qfn.ret1 rfl rfl ⟨_, rfl, rfl, n1⟩
  | false =>
    rw [if_neg (by simp)]
    (repeat' (first | refine Wl.moveE (by conv => { lhs; whnf }) ?_ | refine Wl.assignE (by conv => { lhs; whnf }) ?_ | refine Wl.nil ?_ | refine Wl.extract rfl rfl ?_ | refine Qseq.normal ?_ | refine Wc.seq ?_ | refine Wc.region ?_ | refine Wc.ret ?_ | (refine Wl.eql rfl rfl (fun _ => ?_) (fun _ => ?_) <;> (first | (exfalso; omega) | skip))))
    exact Qfn.ret1 rfl rfl ⟨_, rfl, rfl, n1⟩
theorem CutPrefix_spec {s : List UInt8} {w : World} : Calls Tryd.prog 78 #[vs s, vs [47]] w (Ret fun r w' => r = .tuple #[vs (Lib.trimPrefix s [47]), .bool (Lib.hasPrefix s [47])] ∧ w = w') := by
  refine (Tryd.strings_CutPrefix ⟨s.toArray⟩ ⟨#[47]⟩ w).mono ?_
  rintro e w' ⟨rfl, rfl⟩
  exact ⟨_, rfl, rfl, rfl⟩
/-- The first kid of a node with this name, from a place on. -/
def kidIn (at_ : Int) (nm : List UInt8) : Nat → List Nd → Option Nat
  | _, [] => none
  | i, x :: r => if x.parent = at_ ∧ x.name = nm then some i else kidIn at_ nm (i + 1) r
def findGo (t : List Nd) : Nat → List (List UInt8) → Option Nat
  | a, [] => some a
  | a, nm :: r => match kidIn a nm (a + 1) (t.drop (a + 1)) with | some i => findGo t i r | none => none
/-- The node of a path. -/
def findM (t : List Nd) (s : List UInt8) : Option Nat :=
  if Lib.hasPrefix s [47] = true then (if Lib.trimPrefix s [47] = [] then some 0 else findGo t 0 (splitR 47 (Lib.trimPrefix s [47]))) else none
theorem kidIn_lt {at_ : Int} {nm : List UInt8} : ∀ {l : List Nd} {i k : Nat}, kidIn at_ nm i l = some k → i ≤ k ∧ k < i + l.length
  | [], i, k, h => by cases h
  | x :: r, i, k, h => by
    rw [kidIn] at h
    split at h
    · cases h; simp
    · have := kidIn_lt h; simp only [List.length_cons]; omega
def findV : Option Nat → List Value
  | some i => [vi i, .bool true]
  | none => [vi 0, .bool false]
set_option maxHeartbeats 1000000 in
theorem find_spec {Pb : Nat → Prop} {w : World} {v : Value} {l : List Nd} {s : List UInt8} (h : RdS rNd 3 Pb w v l) (h0 : 0 < l.length) (hs : s.length ≤ 2000000) :
    Calls Tryd.prog 66 #[v, vs s] w (Ret fun r w' => r = .tuple (findV (findM l s)).toArray ∧ New w w') := by
  obtain ⟨a, cap, rfl, hc1, hc2⟩ := h.form
  simp only [maxLen] at hc2
  have hts : (Lib.trimPrefix s [47]).length ≤ s.length := by unfold Lib.trimPrefix; split <;> simp
  refine calls_of_Wc Tryd.func66 rfl Tryd.ntmps66 rfl ?_
  (repeat' (first | refine Wl.moveE (by conv => { lhs; whnf }) ?_ | refine Wl.assignE (by conv => { lhs; whnf }) ?_ | refine Wl.nil ?_ | refine Qseq.normal ?_ | refine Wc.seq ?_ | refine Wc.region ?_ | refine Wc.scope ?_))
  refine Wl.call (CutPrefix_spec (s := s)) rfl ?_
  rintro _ _ ⟨rfl, rfl⟩
  unfold findM
  cases hp : Lib.hasPrefix s [47] with
  | false =>
    rw [if_neg (by simp)]
    (repeat' (first | refine Wl.moveE (by conv => { lhs; whnf }) ?_ | refine Wl.assignE (by conv => { lhs; whnf }) ?_ | refine Wl.nil ?_ | refine Wl.extract rfl rfl ?_ | refine Wl.notB rfl ?_ | refine Qseq.normal ?_ | refine Wc.seq ?_ | refine Wc.region ?_ | refine Wc.ret ?_ | refine Qseq.ret ?_ | refine Qsc.ret ?_ | refine Wc.condT rfl ?_))
    exact Qfn.ret2 rfl rfl rfl ⟨_, rfl, rfl, Chg.refl _ _⟩
  | true =>
    rw [if_pos rfl]
    generalize Lib.trimPrefix s [47] = rest at hts ⊢
    (repeat' (first | refine Wl.moveE (by conv => { lhs; whnf }) ?_ | refine Wl.assignE (by conv => { lhs; whnf }) ?_ | refine Wl.nil ?_ | refine Wl.extract rfl rfl ?_ | refine Wl.notB rfl ?_ | refine Qseq.normal ?_ | refine Wc.seq ?_ | refine Wc.region ?_ | refine Wc.skip ?_ | refine Wc.ret ?_ | refine Qseq.ret ?_ | refine Wc.label ?_ | refine Qsc.ret ?_ | refine Wc.condT rfl ?_ | refine Wc.condF rfl ?_ | refine Wl.seql rfl rfl (fun _ => ?_) (fun _ => ?_)))
    · rw [if_pos (by assumption)]
      exact Qfn.ret2 rfl rfl rfl ⟨_, rfl, rfl, Chg.refl _ _⟩
    · rw [if_neg (by assumption)]
      refine Wl.call (Split_spec (l := rest) (by omega)) rfl ?_
      rintro _ w1 ⟨o1, n1⟩
      have hq := o1.rd (mono_one _)
      generalize splitR 47 rest = q at hq ⊢
      clear o1
      obtain ⟨aq, cq, rfl, hq1, hq2⟩ := hq.form
      simp only [maxLen] at hq2
      (repeat' (first | refine Wl.moveE (by conv => { lhs; whnf }) ?_ | refine Wl.nil ?_ | refine Wl.lenS rfl ?_ | refine Qseq.normal ?_ | refine Wc.block ?_))
      refine Wc.loop (σ := Nat × Nat) (fun s => [(0, .slice a l.length cap), (8, vi s.2), (23, .slice aq q.length cq), (24, vi q.length), (25, vi s.1)]) (fun s w' => s.1 ≤ q.length ∧ s.2 < l.length ∧ findGo l 0 q = findGo l s.2 (q.drop s.1) ∧ w1 = w') (fun s => q.length - s.1) (0, 0) ⟨rfl, rfl, rfl, rfl, rfl, trivial⟩ ⟨Nat.zero_le _, h0, rfl, rfl⟩ ?_
      rintro ⟨i, c⟩ G _ ⟨hi, hc, hgo, rfl⟩
      dsimp only at hi hc hgo
      simp only [upds]
      (repeat' (first | refine Wl.moveE (by conv => { lhs; whnf }) ?_ | refine Wl.assignE (by conv => { lhs; whnf }) ?_ | refine Wl.nil ?_ | refine Qseq.normal ?_ | refine Wc.seq ?_ | refine Wc.region ?_ | refine Wc.block ?_ | refine Wc.skip ?_ | refine Wc.exit ?_ | refine Wc.ret ?_ | refine Qseq.exit ?_ | refine Qsc.ret ?_ | refine Qblk.hit ?_ | refine Qloop.exit ?_ | refine Wc.condT rfl ?_ | refine Wc.condF rfl ?_ | refine Wl.lss rfl rfl (fun _ => ?_) (fun _ => ?_)))
      · obtain ⟨nm, hnm⟩ := get_lt q (k := i) (by omega)
        refine Wl.idxAddrV hq rfl rfl (by omega) hnm fun b o hcell => ?_
        refine Wl.load1 rfl hcell ?_
        (repeat' (first | refine Wl.moveE (by conv => { lhs; whnf }) ?_ | refine Wl.assignE (by conv => { lhs; whnf }) ?_ | refine Wl.nil ?_ | refine Qseq.normal ?_ | refine Wc.seq ?_ | refine Wc.region ?_ | refine Wc.block ?_ | refine Wl.add rfl rfl (by omega) (by omega) ?_))
        rw [drop_cons hnm] at hgo
        simp only [findGo] at hgo
        refine Wc.loop (σ := Nat) (fun k => [(0, .slice a l.length cap), (8, vi c), (10, vs nm), (11, vi k), (23, .slice aq q.length cq), (24, vi q.length), (25, vi i)]) (fun k w' => k ≤ l.length ∧ kidIn c nm (c + 1) (l.drop (c + 1)) = kidIn c nm k (l.drop k) ∧ w1 = w') (fun k => l.length - k) (c + 1) ⟨rfl, rfl, rfl, rfl, rfl, rfl, rfl, trivial⟩ ⟨by omega, rfl, rfl⟩ ?_
        rintro k G2 _ ⟨hk, hkid, rfl⟩
        simp only [upds]
        (repeat' (first | refine Wl.moveE (by conv => { lhs; whnf }) ?_ | refine Wl.assignE (by conv => { lhs; whnf }) ?_ | refine Wl.nil ?_ | refine Wl.lenS rfl ?_ | refine Qseq.normal ?_ | refine Wc.seq ?_ | refine Wc.region ?_ | refine Wc.block ?_ | refine Wc.skip ?_ | refine Wc.exit ?_ | refine Wc.ret ?_ | refine Qseq.exit ?_ | refine Qseq.ret ?_ | refine Qsc.ret ?_ | refine Qblk.ret ?_ | refine Qblk.hit ?_ | refine Qloop.exit ?_ | refine Qloop.ret ?_ | refine Wc.condT rfl ?_ | refine Wc.condF rfl ?_ | refine Wl.lss rfl rfl (fun _ => ?_) (fun _ => ?_)))
        · obtain ⟨x, hx⟩ := get_lt l (k := k) (by omega)
          rw [drop_cons hx] at hkid
          simp only [kidIn] at hkid
          refine Wl.idxAddrK h n1.keep rfl rfl (by omega) hx fun b' o' cs hl hR hat => ?_
          obtain ⟨pv, rfl, _⟩ := hR
          (repeat' (refine Wl.fieldAddr rfl rfl ?_))
          refine Wl.load1 rfl (hat.get 0 rfl) ?_
          (repeat' (first | refine Wl.moveE (by conv => { lhs; whnf }) ?_ | refine Wl.assignE (by conv => { lhs; whnf }) ?_ | refine Wl.nil ?_ | refine Wl.guardY rfl rfl ?_ | refine Wl.guardN rfl rfl ?_ | refine Wl.pickFE rfl (by conv => { lhs; whnf }) ?_ | refine Qseq.normal ?_ | refine Wc.region ?_ | refine Wc.skip ?_ | refine Qblk.normal ?_ | refine Wc.condF rfl ?_ | refine Wl.add rfl rfl (by omega) (by omega) ?_ | refine Wl.eql rfl rfl (fun _ => ?_) (fun _ => ?_)))
          · refine Wl.idxAddrK h n1.keep rfl rfl (by omega) hx fun b' o' cs hl hR hat => ?_
            obtain ⟨pv', rfl, _⟩ := hR
            (repeat' (first | refine Wl.guardY rfl rfl ?_ | refine Wl.fieldAddr rfl rfl ?_))
            refine Wl.load1 rfl (hat.get 1 rfl) ?_
            (repeat' (first | refine Wl.moveE (by conv => { lhs; whnf }) ?_ | refine Wl.assignE (by conv => { lhs; whnf }) ?_ | refine Wl.nil ?_ | refine Wl.guardY rfl rfl ?_ | refine Wl.pickTE rfl (by conv => { lhs; whnf }) ?_ | refine Qseq.normal ?_ | refine Wc.seq ?_ | refine Wc.region ?_ | refine Wc.skip ?_ | refine Wc.exit ?_ | refine Qseq.exit ?_ | refine Qblk.normal ?_ | refine Qblk.hit ?_ | refine Qblk.miss rfl ?_ | refine Qloop.exit ?_ | refine Wc.condT rfl ?_ | refine Wc.condF rfl ?_ | refine Wl.add rfl rfl (by omega) (by omega) ?_ | refine Wl.seql rfl rfl (fun _ => ?_) (fun _ => ?_)))
            · rw [if_pos ⟨by assumption, by assumption⟩] at hkid
              rw [hkid] at hgo
              refine Qloop.normal (i + 1, k) ⟨rfl, rfl, rfl, rfl, rfl, trivial⟩ ⟨by dsimp only; omega, by dsimp only; omega, hgo, rfl⟩ (by dsimp only; omega)
            · rw [if_neg (fun e => by have := e.2; contradiction)] at hkid
              exact Qloop.normal (k + 1) ⟨rfl, rfl, rfl, rfl, rfl, rfl, rfl, trivial⟩ ⟨by omega, hkid, rfl⟩ (by omega)
          · rw [if_neg (fun e => by have := e.1; contradiction)] at hkid
            exact Qloop.normal (k + 1) ⟨rfl, rfl, rfl, rfl, rfl, rfl, rfl, trivial⟩ ⟨by omega, hkid, rfl⟩ (by omega)
        · have e : k = l.length := by omega
          subst e
          rw [List.drop_length] at hkid
          simp only [kidIn] at hkid
          rw [hkid] at hgo
          simp only at hgo
          rw [hgo]
          exact Qfn.ret2 rfl rfl rfl ⟨_, rfl, rfl, n1⟩
      · have e : i = q.length := by omega
        subst e
        rw [List.drop_length] at hgo
        simp only [findGo] at hgo
        rw [hgo]
        exact Qfn.ret2 rfl rfl rfl ⟨_, rfl, rfl, n1⟩
theorem treeOk_pos {l : List Nd} (h : treeOk l = true) : 0 < l.length := by
  unfold treeOk at h
  simp only [Bool.and_eq_true, decide_eq_true_eq] at h
  exact h.2
/-- What tree.Find hands back. -/
def findR (l : List Nd) (s : List UInt8) : Int × Int := if treeOk l = true then (match findM l s with | some i => (i, 0) | none => (0, 6)) else (0, 40)
theorem Find_spec {Pb : Nat → Prop} {w : World} {v : Value} {l : List Nd} {s : List UInt8} (h : RdS rNd 3 Pb w v l) (hs : s.length ≤ 2000000) :
    Calls Tryd.prog 40 #[v, vs s] w (Ret fun r w' => r = .tuple #[vi (findR l s).1, vi (findR l s).2] ∧ New w w') := by
  refine calls_of_Wc Tryd.func40 rfl Tryd.ntmps40 rfl ?_
  (repeat' (first | refine Wl.moveE (by conv => { lhs; whnf }) ?_ | refine Wl.assignE (by conv => { lhs; whnf }) ?_ | refine Wl.nil ?_ | refine Qseq.normal ?_ | refine Wc.seq ?_ | refine Wc.region ?_))
  refine Wl.call (Check_spec h) rfl ?_
  rintro _ w1 ⟨rfl, n1⟩
  unfold treeE findR
  cases hok : treeOk l with
  | false =>
    rw [if_neg (by simp), if_neg (by simp)]
    (repeat' (first | refine Wl.moveE (by conv => { lhs; whnf }) ?_ | refine Wl.assignE (by conv => { lhs; whnf }) ?_ | refine Wl.nil ?_ | refine Wl.extract rfl rfl ?_ | refine Qseq.normal ?_ | refine Wc.seq ?_ | refine Wc.region ?_ | refine Wc.ret ?_ | refine Qseq.ret ?_ | refine Wc.condT rfl ?_ | (refine Wl.neq rfl rfl (fun _ => ?_) (fun _ => ?_) <;> (first | (exfalso; omega) | skip))))
    exact Qfn.ret2 rfl rfl rfl ⟨_, rfl, rfl, n1⟩
  | true =>
    rw [if_pos rfl, if_pos rfl]
    (repeat' (first | refine Wl.moveE (by conv => { lhs; whnf }) ?_ | refine Wl.assignE (by conv => { lhs; whnf }) ?_ | refine Wl.nil ?_ | refine Wl.extract rfl rfl ?_ | refine Qseq.normal ?_ | refine Wc.seq ?_ | refine Wc.region ?_ | refine Wc.skip ?_ | refine Wc.condF rfl ?_ | (refine Wl.neq rfl rfl (fun _ => ?_) (fun _ => ?_) <;> (first | (exfalso; omega) | skip))))
    refine Wl.call (find_spec (h.keep stableNd n1.keep) (treeOk_pos hok) hs) rfl ?_
    rintro _ w2 ⟨rfl, n2⟩
    cases findM l s with
    | none =>
      (repeat' (first | refine Wl.moveE (by conv => { lhs; whnf }) ?_ | refine Wl.assignE (by conv => { lhs; whnf }) ?_ | refine Wl.nil ?_ | refine Wl.extract rfl rfl ?_ | refine Qseq.normal ?_ | refine Wc.seq ?_ | refine Wc.region ?_ | refine Wc.skip ?_ | refine Wc.ret ?_ | refine Wc.condF rfl ?_))
      exact Qfn.ret2 rfl rfl rfl ⟨_, rfl, rfl, New.trans n1 n2⟩
    | some i =>
      (repeat' (first | refine Wl.moveE (by conv => { lhs; whnf }) ?_ | refine Wl.assignE (by conv => { lhs; whnf }) ?_ | refine Wl.nil ?_ | refine Wl.extract rfl rfl ?_ | refine Qseq.normal ?_ | refine Wc.seq ?_ | refine Wc.region ?_ | refine Wc.ret ?_ | refine Qseq.ret ?_ | refine Wc.condT rfl ?_))
      exact Qfn.ret2 rfl rfl rfl ⟨_, rfl, rfl, New.trans n1 n2⟩
end Go.Proofs.YtjpebmgllfiloaaDoor

namespace Go.Proofs.YtjpebmgllfiloaaDoor
open Go Wk
open Go.RowKit (Below)
attribute [local irreducible] Go.Calls

abbrev ptrV : Nat → Value := fun b => .pointer (some ⟨b, 0, none⟩)
structure Kn where
  name : List UInt8
  props : List Pr
  kids : List Nat
deriving Inhabited
abbrev Lab := Nat → Option (Nat × Nat)
abbrev No : Nat → Prop := fun _ => False
abbrev OwnPr (Pb : Nat → Prop) (w : World) (v : Value) (l : List Pr) : Prop := OwnS rPr 39 2 Pb No w v l
abbrev OwnKids (Pb : Nat → Prop) (w : World) (v : Value) (l : List Nat) : Prop := OwnS (one ptrV) 78 1 Pb No w v l
abbrev tKn : TypeId := 77
structure KnAt (lab : Lab) (w : World) (bs : List Nat) (i : Nat) (k : Kn) (pv kv : Value) : Prop where
  lb : lab (bs.getD i 0) = some (i, 0)
  bk : Bk w (bs.getD i 0) tKn [vs k.name, pv, kv]
  pr : OwnPr (fun x => lab x = some (i, 1)) w pv k.props
  kd : OwnKids (fun x => lab x = some (i, 2)) w kv (k.kids.map fun j => bs.getD j 0)
structure KG (lo : Nat) (lab : Lab) (w : World) (bs : List Nat) (G : List Kn) : Prop where
  len : bs.length = G.length
  low : ∀ b c, lab b = some c → lo ≤ b ∧ b < w.heap.size ∧ c.1 < G.length
  at' : ∀ i k, G[i]? = some k → ∃ pv kv, KnAt lab w bs i k pv kv
  kid : ∀ i k, G[i]? = some k → ∀ j ∈ k.kids, i < j ∧ j < G.length
  nd : ∀ (i : Nat) (k : Kn), G[i]? = some k → k.kids.Nodup
section
variable {lo : Nat} {lab lab' : Lab} {w w' : World} {bs : List Nat} {G : List Kn} {M : Nat → Prop}
theorem KnAt.chg {i : Nat} {k : Kn} {pv kv : Value} (h : KnAt lab w bs i k pv kv) (c : Chg M w w') (hM : ∀ b, M b → ∀ q, lab b ≠ some (i, q)) : KnAt lab w' bs i k pv kv :=
  ⟨h.lb, h.bk.chg c fun e => hM _ e _ h.lb, h.pr.chg plainPr c fun b hb e => hM _ e _ (h.pr.lt hb).1, h.kd.chg (plain_one _) c fun b hb e => hM _ e _ (h.kd.lt hb).1⟩
theorem KnAt.relab {i : Nat} {k : Kn} {pv kv : Value} (h : KnAt lab w bs i k pv kv) (hl : ∀ b, b < w.heap.size → lab' b = lab b) : KnAt lab' w bs i k pv kv :=
  ⟨(hl _ h.bk.lt).trans h.lb, h.bk, h.pr.mono (mono_flat pC) (fun b hb e => (hl b hb).trans e) (fun _ _ e => e), h.kd.mono (mono_one _) (fun b hb e => (hl b hb).trans e) (fun _ _ e => e)⟩
theorem KG.chg (h : KG lo lab w bs G) (c : Chg M w w') (hM : ∀ b, b < w.heap.size → M b → lab b = none) : KG lo lab w' bs G := by
  have c' : Chg (fun b => M b ∧ b < w.heap.size) w w' := c.mono fun k hk e => ⟨e, hk⟩
  refine ⟨h.len, fun b q e => ⟨(h.low b q e).1, Nat.lt_of_lt_of_le (h.low b q e).2.1 c.size, (h.low b q e).2.2⟩, fun i k hk => ?_, h.kid, h.nd⟩
  obtain ⟨pv, kv, ha⟩ := h.at' i k hk
  exact ⟨pv, kv, ha.chg c' fun b hb q e => by rw [hM b hb.2 hb.1] at e; cases e⟩
theorem KG.new (h : KG lo lab w bs G) (c : New w w') : KG lo lab w' bs G := h.chg c fun _ _ e => e.elim
theorem KG.lab_none (h : KG lo lab w bs G) {b : Nat} (hb : w.heap.size ≤ b ∨ b < lo) : lab b = none := by
  cases e : lab b with
  | none => rfl
  | some c => have := h.low b c e; omega
/-- A knot gets another content. -/
theorem KG.set (h : KG lo lab w bs G) (hlo : lo ≤ w.heap.size) {i : Nat} {k k' : Kn} {pv' kv' : Value} (hi : G[i]? = some k) (c : Chg (fun b => ∃ q, lab b = some (i, q)) w w')
    (hb : Bk w' (bs.getD i 0) tKn [vs k'.name, pv', kv']) (hp : OwnPr (fun x => lab x = some (i, 1) ∨ w.heap.size ≤ x) w' pv' k'.props) (hk : OwnKids (fun x => lab x = some (i, 2) ∨ w.heap.size ≤ x) w' kv' (k'.kids.map fun j => bs.getD j 0))
    (hs : Sep pv' kv') (hkid : ∀ j ∈ k'.kids, i < j ∧ j < G.length) (hnd : k'.kids.Nodup) :
    ∃ lab', KG lo lab' w' bs (G.set i k') ∧ ∀ b, b < w.heap.size → lab' b = lab b := by
  have hil : i < G.length := (List.getElem?_eq_some_iff.1 hi).1
  obtain ⟨pv, kv, ha⟩ := h.at' i k hi
  let lab' : Lab := fun b => if b < w.heap.size then lab b else if b < w'.heap.size then (if pv'.ownBlock = some b then some (i, 1) else some (i, 2)) else none
  have hold : ∀ b, b < w.heap.size → lab' b = lab b := fun b hb => if_pos hb
  refine ⟨lab', ⟨by simp [h.len], fun b q e => ?_, fun j y hy => ?_, fun j y hy => ?_, fun j y hy => ?_⟩, hold⟩
  · by_cases hb : b < w.heap.size
    · rw [hold b hb] at e
      have := h.low b q e
      have := c.size
      simp only [List.length_set]; omega
    · simp only [lab', if_neg hb] at e
      split at e
      · simp only [List.length_set]
        split at e <;> cases e <;> exact ⟨by omega, by assumption, hil⟩
      · cases e
  · rw [List.getElem?_set] at hy
    split at hy
    · rename_i e
      subst e
      simp only [hil, if_true, Option.some.injEq] at hy
      subst hy
      refine ⟨pv', kv', (hold _ ha.bk.lt).trans ha.lb, hb, ?_, ?_⟩
      · obtain ⟨cs, hoc, he⟩ := hp
        refine ⟨cs, ⟨hoc.1, ?_⟩, fun i x hx => plainPr _ _ _ _ _ _ (he i x hx)⟩
        rcases hoc.2 with e | ⟨g, cap, cur, hv, hg, hh, r⟩
        · exact .inl e
        · refine .inr ⟨g, cap, cur, hv, ?_, hh, r⟩
          show lab' g = some (i, 1)
          rcases hg with hg | hg
          · rw [hold g (h.low _ _ hg).2.1]; exact hg
          · simp only [lab', if_neg (Nat.not_lt.2 hg), if_pos (heap_lt hh), hv, Value.ownBlock, if_true]
      · obtain ⟨cs, hoc, he⟩ := hk
        refine ⟨cs, ⟨hoc.1, ?_⟩, fun i x hx => plain_one _ _ _ _ _ _ _ (he i x hx)⟩
        rcases hoc.2 with e | ⟨g, cap, cur, hv, hg, hh, r⟩
        · exact .inl e
        · refine .inr ⟨g, cap, cur, hv, ?_, hh, r⟩
          show lab' g = some (i, 2)
          rcases hg with hg | hg
          · rw [hold g (h.low _ _ hg).2.1]; exact hg
          · have : pv'.ownBlock ≠ some g := fun e => hs g e (by rw [hv]; rfl)
            simp only [lab', if_neg (Nat.not_lt.2 hg), if_pos (heap_lt hh), if_neg this]
    · rename_i hne
      obtain ⟨pv, kv, hj⟩ := h.at' j y hy
      have hj' := hj.relab (lab' := lab') hold
      refine ⟨pv, kv, (hj'.chg (M := fun b => (∃ q, lab b = some (i, q)) ∧ b < w.heap.size) (c.mono fun b hb e => ⟨e, hb⟩) fun b ⟨⟨q, e⟩, hb⟩ q' e' => ?_)⟩
      rw [hold b hb, e] at e'
      simp only [Option.some.injEq, Prod.mk.injEq] at e'
      exact hne e'.1
  · rw [List.getElem?_set] at hy
    split at hy
    · rename_i e
      subst e
      simp only [hil, if_true, Option.some.injEq] at hy
      subst hy
      simpa using hkid
    · simpa using h.kid j y hy
  · rw [List.getElem?_set] at hy
    split at hy
    · rename_i e
      subst e
      simp only [hil, if_true, Option.some.injEq] at hy
      subst hy
      exact hnd
    · exact h.nd j y hy
/-- A new knot. -/
theorem KG.push (h : KG lo lab w bs G) (hlo : lo ≤ w.heap.size) {nb : Nat} {name : List UInt8} {props : List Pr} {pv : Value} (c : New w w') (hnb : w.heap.size ≤ nb)
    (hb : Bk w' nb tKn [vs name, pv, .slice none 0 0]) (hp : OwnPr (fun x => w.heap.size ≤ x ∧ x ≠ nb) w' pv props) :
    ∃ lab', KG lo lab' w' (bs ++ [nb]) (G ++ [⟨name, props, []⟩]) ∧ ∀ b, b < w.heap.size → lab' b = lab b := by
  let lab' : Lab := fun b => if b < w.heap.size then lab b else if b < w'.heap.size then (if b = nb then some (G.length, 0) else some (G.length, 1)) else none
  have hold : ∀ b, b < w.heap.size → lab' b = lab b := fun b hb => if_pos hb
  have hget : ∀ j, j < G.length → (bs ++ [nb]).getD j 0 = bs.getD j 0 := fun j hj => by
    simp only [List.getD_eq_getElem?_getD]
    rw [List.getElem?_append_left (by rw [h.len]; exact hj)]
  have hlast : (bs ++ [nb]).getD G.length 0 = nb := by
    simp only [List.getD_eq_getElem?_getD]
    rw [List.getElem?_append_right (by rw [h.len]; omega), h.len]; simp
  refine ⟨lab', ⟨by simp [h.len], fun b q e => ?_, fun j y hy => ?_, fun j y hy => ?_, fun j y hy => ?_⟩, hold⟩
  · by_cases hb : b < w.heap.size
    · rw [hold b hb] at e
      have := h.low b q e
      have := c.size
      simp only [List.length_append, List.length_singleton]; omega
    · simp only [lab', if_neg hb] at e
      split at e
      · simp only [List.length_append, List.length_singleton]
        split at e <;> cases e <;> exact ⟨by omega, by assumption, Nat.lt_succ_self _⟩
      · cases e
  · rw [List.getElem?_append] at hy
    split at hy
    · rename_i hj
      obtain ⟨pv, kv, ha⟩ := h.at' j y hy
      have ha' := (ha.relab (lab' := lab') hold).chg c (fun b e => e.elim)
      have e1 := hget j hj
      have e2 : (y.kids.map fun q => (bs ++ [nb]).getD q 0) = y.kids.map fun q => bs.getD q 0 := List.map_congr_left fun q hq => hget q (h.kid j y hy q hq).2
      exact ⟨pv, kv, ⟨by rw [e1]; exact ha'.lb, by rw [e1]; exact ha'.bk, ha'.pr, by rw [e2]; exact ha'.kd⟩⟩
    · rename_i hj
      have hj0 : j = G.length := by
        have := (List.getElem?_eq_some_iff.1 hy).1
        simp at this; omega
      subst hj0
      simp at hy
      subst hy
      refine ⟨pv, .slice none 0 0, ⟨?_, by rw [hlast]; exact hb, hp.mono (mono_flat pC) (fun b hb' e => ?_) (fun _ _ e => e), OwnS.nil⟩⟩
      · rw [hlast]
        simp only [lab', if_neg (Nat.not_lt.2 hnb), if_pos hb.lt, if_true]
      · simp only [lab', if_neg (Nat.not_lt.2 e.1), if_pos hb', if_neg e.2]
  · rw [List.getElem?_append] at hy
    split at hy
    · intro q hq
      have := h.kid j y hy q hq
      simp only [List.length_append, List.length_singleton]; omega
    · rename_i hj
      have hj0 : j = G.length := by
        have := (List.getElem?_eq_some_iff.1 hy).1
        simp at this; omega
      subst hj0
      simp at hy
      subst hy
      intro q hq; simp at hq
  · rw [List.getElem?_append] at hy
    split at hy
    · exact h.nd j y hy
    · rename_i hj
      have hj0 : j = G.length := by
        have := (List.getElem?_eq_some_iff.1 hy).1
        simp at this; omega
      subst hj0
      simp at hy
      subst hy
      exact List.nodup_nil
theorem nodup_bound : ∀ {m : Nat} {l : List Nat}, l.Nodup → (∀ j ∈ l, j < m) → l.length ≤ m
  | 0, l, _, hl => by
    cases l with
    | nil => simp
    | cons a r => have := hl a (by simp); omega
  | m + 1, l, h, hl => by
    by_cases hm : m ∈ l
    · have ih := nodup_bound (m := m) (h.erase m) fun j hj => by
        have h1 := (h.mem_erase_iff).1 hj
        have := hl j h1.2
        have := h1.1
        omega
      rw [List.length_erase_of_mem hm] at ih
      omega
    · have := nodup_bound (m := m) h fun j hj => by
        have := hl j hj
        have : j ≠ m := fun e => hm (e ▸ hj)
        omega
      omega
theorem KG.kids_le (h : KG lo lab w bs G) {i : Nat} {k : Kn} (hk : G[i]? = some k) : k.kids.length ≤ G.length := nodup_bound (h.nd i k hk) fun j hj => (h.kid i k hk j hj).2
end
end Go.Proofs.YtjpebmgllfiloaaDoor

namespace Go.Proofs.YtjpebmgllfiloaaDoor
open Go Wk
open Go.RowKit (Below)
attribute [local irreducible] Go.Calls

theorem ClonePr_spec {Pb : Nat → Prop} {w : World} {v : Value} {l : List Pr} (h : RdS rPr 2 Pb w v l) (hl : l.length ≤ 2000000) :
    Calls Tryd.prog 67 #[v] w (Ret fun r w' => OwnPr (fun b => w.heap.size ≤ b) w' r l ∧ New w w') := by
  obtain ⟨a, cap, rfl, hc1, hc2⟩ := h.form
  refine calls_of_Wc Tryd.func67 rfl Tryd.ntmps67 rfl ?_
  (repeat' (first | refine Wl.moveE (by conv => { lhs; whnf }) ?_ | refine Wl.assignE (by conv => { lhs; whnf }) ?_ | refine Wl.nil ?_ | refine Qseq.normal ?_ | refine Wc.seq ?_ | refine Wc.region ?_))
  refine Wl.slNil rfl rfl ?_
  cases a with
  | none =>
    have e : l = [] := by
      rcases h with ⟨_, rfl⟩ | ⟨_, _, e, _⟩ | ⟨_, _, _, _, _, _, e, _⟩
      · rfl
      · cases e
      · cases e
    subst e
    (repeat' (first | refine Wl.assignE (by conv => { lhs; whnf }) ?_ | refine Wl.nil ?_ | refine Qseq.normal ?_ | refine Wc.seq ?_ | refine Wc.region ?_ | refine Wc.ret ?_ | refine Qseq.ret ?_ | refine Wc.condT rfl ?_))
    exact Qfn.ret1 rfl rfl ⟨_, rfl, OwnS.nil, Chg.refl _ _⟩
  | some a =>
    (repeat' (first | refine Wl.nil ?_ | refine Qseq.normal ?_ | refine Wc.seq ?_ | refine Wc.region ?_ | refine Wc.skip ?_ | refine Wc.condF rfl ?_))
    refine Wl.buildSlice0 (R := rPr) (Pe := No) fun v1 w1 o1 n1 => ?_
    (repeat' (refine Wl.moveE (by conv => { lhs; whnf }) ?_))
    refine Wl.appendAll goodPr o1 (h.keep (stable_flat pC) n1.keep) (fun y cs hy => hy) rfl rfl (by omega) (by simp only [maxLen, List.length_nil]; omega) (by simp only [List.length_nil]; omega) fun v2 w2 o2 c2 lie _ => ?_
    (repeat' (first | refine Wl.assignE (by conv => { lhs; whnf }) ?_ | refine Wl.nil ?_ | refine Qseq.normal ?_ | refine Wc.ret ?_))
    refine Qfn.ret1 rfl rfl ⟨_, rfl, ?_, Chg.trans n1 c2 fun k hk e => by have := (o1.lt e).1; omega⟩
    have hs := n1.size
    exact o2.mono (mono_flat pC) (fun b _ hb => by rcases hb with hb | hb; exact hb; omega) (fun _ _ e => e)
/-! What a tree that may be says of its nodes. -/
structure NdOk (i : Nat) (x : Nd) : Prop where
  lt : i < 512
  pr : propsOk x.props = true
  root : i = 0 → x.parent = -1 ∧ x.name = []
  kid : i ≠ 0 → 0 ≤ x.parent ∧ x.parent < i ∧ nameOk x.name = true
theorem chkGo_ok : ∀ (l : List Nd) (i : Nat) (dp pt : List Int) (sn : List Kid), (chkGo i dp pt sn l).2.isSome = true → ∀ j x, l[j]? = some x → NdOk (i + j) x
  | [], _, _, _, _, _, j, x, h => by simp at h
  | y :: r, i, dp, pt, sn, h, j, x, hx => by
    rw [chkGo] at h
    split at h
    · cases h
    · rename_i h1
      simp only [not_or, Nat.not_le, Bool.not_eq_false] at h1
      split at h
      · rename_i h0
        subst h0
        split at h
        · cases h
        · rename_i h2
          simp only [not_or, Decidable.not_not] at h2
          cases j with
          | zero =>
            simp at hx; subst hx
            exact ⟨by omega, h1.2, fun _ => h2, fun e => absurd rfl e⟩
          | succ j =>
            have := chkGo_ok r 1 _ _ _ h j x (by simpa using hx)
            rwa [show 0 + (j + 1) = 1 + j by omega]
      · rename_i h0
        split at h
        · cases h
        · rename_i h2
          simp only [not_or, Bool.not_eq_false, Int.not_lt, Int.not_le] at h2
          split at h
          · cases h
          · cases j with
            | zero =>
              simp at hx; subst hx
              exact ⟨by omega, h1.2, fun e => absurd e h0, fun _ => ⟨h2.2.1, h2.2.2, h2.1⟩⟩
            | succ j =>
              have := chkGo_ok r (i + 1) _ _ _ h j x (by simpa using hx)
              rwa [show i + (j + 1) = i + 1 + j by omega]
theorem treeOk_nd {l : List Nd} (h : treeOk l = true) {j : Nat} {x : Nd} (hx : l[j]? = some x) : NdOk j x := by
  unfold treeOk at h
  simp only [Bool.and_eq_true] at h
  have := chkGo_ok l 0 [] [] [] h.1 j x hx
  rwa [Nat.zero_add] at this
theorem treeOk_len {l : List Nd} (h : treeOk l = true) : l.length ≤ 512 := by
  rcases Nat.eq_zero_or_pos l.length with h0 | h0
  · omega
  · obtain ⟨x, hx⟩ := get_lt l (k := l.length - 1) (by omega)
    have := (treeOk_nd h hx).lt
    omega
theorem propsOk_len {l : List Pr} (h : propsOk l = true) : l.length ≤ 32 := by
  unfold propsOk at h
  simp only [Bool.and_eq_true, decide_eq_true_eq] at h
  exact h.1

/-! The knots of a tree. -/
def addKid (G : List Kn) (p j : Nat) : List Kn := match G[p]? with | some k => G.set p { k with kids := k.kids ++ [j] } | none => G
def addN (G : List Kn) (x : Nd) : List Kn := if G.length = 0 then G ++ [⟨x.name, x.props, []⟩] else addKid (G ++ [⟨x.name, x.props, []⟩]) x.parent.toNat G.length
def knotsM (t : List Nd) : List Kn := t.foldl addN []
theorem addKid_length (G : List Kn) (p j : Nat) : (addKid G p j).length = G.length := by unfold addKid; split <;> simp
theorem addN_length (G : List Kn) (x : Nd) : (addN G x).length = G.length + 1 := by unfold addN; split <;> simp [addKid_length]
theorem foldl_addN_length : ∀ (t : List Nd) (G : List Kn), (t.foldl addN G).length = G.length + t.length
  | [], G => by simp
  | x :: r, G => by rw [List.foldl_cons, foldl_addN_length r, addN_length]; simp; omega
theorem knotsM_length (t : List Nd) : (knotsM t).length = t.length := by unfold knotsM; rw [foldl_addN_length]; simp
theorem knotsM_take {t : List Nd} {i : Nat} {x : Nd} (h : t[i]? = some x) : knotsM (t.take (i + 1)) = addN (knotsM (t.take i)) x := by
  unfold knotsM; rw [take_snoc h, List.foldl_append]; rfl
abbrev optV : Option Nat → Value := fun o => .pointer (o.map fun b => ⟨b, 0, none⟩)

set_option maxHeartbeats 2000000 in
set_option maxRecDepth 4000 in
theorem knots_spec {Pb : Nat → Prop} {w : World} {v : Value} {l : List Nd} (h : RdS rNd 3 Pb w v l) (hok : treeOk l = true) :
    Calls Tryd.prog 41 #[v] w (Ret fun r w' => ∃ bs lab, KG w.heap.size lab w' bs (knotsM l) ∧ OwnS (one optV) 78 1 (fun b => w.heap.size ≤ b ∧ lab b = none) No w' r (bs.map some) ∧ New w w') := by
  obtain ⟨a, cap, rfl, hc1, hc2⟩ := h.form
  have hlen := treeOk_len hok
  refine calls_of_Wc Tryd.func41 rfl Tryd.ntmps41 rfl ?_
  (repeat' (first | refine Wl.moveE (by conv => { lhs; whnf }) ?_ | refine Wl.assignE (by conv => { lhs; whnf }) ?_ | refine Wl.nil ?_ | refine Wl.lenS rfl ?_ | refine Qseq.normal ?_ | refine Wc.seq ?_ | refine Wc.region ?_))
  refine Wl.makeN (f := optV) (y0 := none) (Pe := No) rfl rfl rfl (by omega) (by omega) (by omega) fun vl w1 o1 n1 => ?_
  rw [Int.toNat_natCast] at o1
  have hg0 : KG w.heap.size (fun _ => none) w1 [] (knotsM (l.take 0)) := ⟨rfl, fun b c e => (by cases e), fun i k hk => (by simp [knotsM] at hk), fun i k hk => (by simp [knotsM] at hk), fun i k hk => (by simp [knotsM] at hk)⟩
  obtain ⟨ap, ac, hvl, _, _⟩ := o1.form
  rw [List.length_replicate] at hvl
  have hlp := treeOk_pos hok
  obtain ⟨g, gc, hvg, hgb, hgl, hown⟩ := o1.blk (by intro e; rw [List.replicate_eq_nil_iff] at e; omega)
  rw [List.length_replicate] at hvg
  subst hvg
  clear hvl
  (repeat' (first | refine Wl.moveE (by conv => { lhs; whnf }) ?_ | refine Wl.assignE (by conv => { lhs; whnf }) ?_ | refine Wl.nil ?_ | refine Wl.lenS rfl ?_ | refine Qseq.normal ?_ | refine Wc.seq ?_ | refine Wc.region ?_ | refine Wc.block ?_))
  refine Wc.loop (σ := Nat × List Nat × Lab) (fun s => [(3, .slice (some ⟨g, 0, none⟩) l.length gc), (9, .slice a l.length cap), (10, vi l.length), (11, vi s.1)])
    (fun s w' => s.1 ≤ l.length ∧ KG w.heap.size s.2.2 w' s.2.1 (knotsM (l.take s.1)) ∧ s.2.2 g = none ∧ OwnS (one optV) 78 1 (fun b => w.heap.size ≤ b) No w' (.slice (some ⟨g, 0, none⟩) l.length gc) (s.2.1.map some ++ List.replicate (l.length - s.1) none) ∧ New w w') (fun s => l.length - s.1) (0, [], fun _ => none)
    ⟨rfl, rfl, rfl, rfl, trivial⟩ ⟨Nat.zero_le _, hg0, rfl, by simpa using o1, n1⟩ ?_
  rintro ⟨i, bs, lab⟩ G w2 ⟨hi, kg, hlg, ol, n2⟩
  dsimp only at hi kg hlg ol n2
  simp only [upds]
  (repeat' (first | refine Wl.moveE (by conv => { lhs; whnf }) ?_ | refine Wl.assignE (by conv => { lhs; whnf }) ?_ | refine Wl.nil ?_ | refine Qseq.normal ?_ | refine Wc.seq ?_ | refine Wc.region ?_ | refine Wc.block ?_ | refine Wc.skip ?_ | refine Wc.exit ?_ | refine Wc.ret ?_ | refine Qseq.exit ?_ | refine Qblk.hit ?_ | refine Qloop.exit ?_ | refine Wc.condT rfl ?_ | refine Wc.condF rfl ?_ | refine Wl.lss rfl rfl (fun _ => ?_) (fun _ => ?_)))
  · obtain ⟨x, hx⟩ := get_lt l (k := i) (by omega)
    have hnd := treeOk_nd hok hx
    refine Wl.idxAddrK h n2.keep rfl rfl (by omega) hx fun b o cs hl hR hat => ?_
    obtain ⟨pv, rfl, hpr⟩ := hR
    refine Wl.loadAt hat rfl rfl ?_
    refine Wl.alloc fun w3 b3 n3 s3 => ?_
    (repeat' (refine Wl.assignE (by conv => { lhs; whnf }) ?_))
    refine Wl.storeB (new := [vi x.parent, vs x.name, pv]) b3 rfl rfl rfl rfl (show (3 : Nat) ≤ 3 from Nat.le_refl 3) (goodNd.oc Pb w x _ ⟨pv, rfl, hpr⟩ rfl) fun w4 b4 c4 s4 => ?_
    replace b4 : Bk w4 w2.heap.size 37 [vi x.parent, vs x.name, pv] := b4
    have sz2 := n2.size
    have hgl2 : g < w2.heap.size := (ol.lt rfl).2
    have kg4 := (kg.new n3).chg c4 (fun b hb e => by rw [e]; exact kg.lab_none (.inl (Nat.le_refl _)))
    have ol4 := (ol.new (plain_one _) n3).chg (plain_one _) c4 (fun k hk e => by have := (ol.lt hk).2; omega)
    have n4 : New w w4 := Chg.trans (New.trans n2 n3) c4 fun k hk e => by omega
    have hlx : lab w2.heap.size = none := kg.lab_none (.inl (Nat.le_refl _))
    clear kg ol b3 c4 n3
    (repeat' (first | refine Wl.nil ?_ | refine Qseq.normal ?_ | refine Wc.seq ?_))
    refine Wc.regionM [0, 1, 2, 3, 4, 5] [6, 7, 8, 9, 10] rfl (by kernel_rfl) (by simp only [pick, List.getElem?_cons_succ, List.getElem?_cons_zero]; rfl) (by simp only [pick, List.getElem?_cons_succ, List.getElem?_cons_zero]; rfl) (New w4) (Chg.drew _ _) ?_
    (repeat' (first | refine Wq.moveE (by conv => { lhs; whnf }) ?_ | refine Wq.fieldAddr rfl rfl ?_))
    refine Wq.load1 rfl (fun w' hw => (b4.chg hw id).cell (o := 1) rfl) ?_
    (repeat' (refine Wq.fieldAddr rfl rfl ?_))
    refine Wq.load1 rfl (fun w' hw => (b4.chg hw id).cell (o := 2) rfl) ?_
    (repeat' (refine Wq.nil ?_))
    intro w5 n5
    have b5 := b4.chg n5 id
    have kg5 := kg4.new n5
    have ol5 := ol4.new (plain_one _) n5
    have n45 := n5
    replace n5 := New.trans n4 n5
    clear b4 kg4 ol4 n4
    refine Wch.cons ?_
    refine Wl.call (ClonePr_spec (hpr.keep (stable_flat pC) n5.keep) (by have := propsOk_len hnd.pr; omega)) rfl ?_
    rintro qv w6 ⟨oq, n6⟩
    refine Wl.nil ⟨rfl, New.trans n45 n6, ?_⟩
    refine Wch.cons ?_
    obtain ⟨qa, qc, rfl, _, _⟩ := oq.form
    refine Wl.buildF (ps := [(0, .tmp 19), (1, .tmp 22)]) (parts := [(0, vs x.name), (1, .slice qa x.props.length qc)]) rfl rfl (by simp [Value.cells]) ?_
    refine Wl.nil ⟨rfl, New.trans n45 n6, ?_⟩
    refine Wch.cons ?_
    refine Wl.box rfl fun w7 b7 n7 s7 => ?_
    refine Wl.nil ⟨rfl, New.trans (New.trans n45 n6) n7, ?_⟩
    refine Wch.cons ?_
    have hbl : bs.length = i := by rw [kg5.len, knotsM_length]; simp; omega
    refine Wl.idxP rfl rfl (by omega) (by omega) ?_
    refine Wl.nil ⟨rfl, New.trans (New.trans n45 n6) n7, ?_⟩
    refine Wch.last ?_
    have ol7 := (ol5.new (plain_one _) n6).new (plain_one _) n7
    have hlen2 : (bs.map some ++ List.replicate (l.length - i) none).length = l.length := by simp; omega
    refine Wl.storeOwn (q := some w6.heap.size) (j := i) ol7 (by rw [hlen2]) (by omega) (by show Value.pointer (some ⟨g, 0 + (i : Int).toNat * 1, none⟩) = _; simp) rfl rfl rfl fun w8 ol8 c8 => ?_
    have ex : (bs.map some ++ List.replicate (l.length - i) none).set i (some w6.heap.size) = (bs ++ [w6.heap.size]).map some ++ List.replicate (l.length - (i + 1)) none := by
      rw [show l.length - i = (l.length - (i + 1)) + 1 by omega, List.replicate_succ, List.set_append_right _ _ (by simp; omega)]
      simp [hbl]
    rw [ex] at ol8
    have sz5 := n5.size
    have sz6 := n6.size
    have hg5 : g < w5.heap.size := (ol5.lt rfl).2
    obtain ⟨lab7, kg7, hl7⟩ := kg5.push sz5 (New.trans n6 n7) sz6 b7 ((oq.mono (Pb' := fun b => w5.heap.size ≤ b ∧ b ≠ w6.heap.size) (mono_flat pC) (fun b hb h => ⟨h, by omega⟩) (fun _ _ e => e)).new plainPr n7)
    have hlg7 : lab7 g = none := (hl7 g hg5).trans hlg
    have hlx7 : lab7 w2.heap.size = none := (hl7 _ b5.lt).trans hlx
    have hob : (Value.slice (some (⟨g, 0, none⟩ : Addr)) l.length gc).ownBlock = some g := rfl
    have kg8 := kg7.chg c8 (fun b hb e => by rw [hob, Option.some.injEq] at e; rw [← e]; exact hlg7)
    have b8 := ((b5.chg n6 id).chg n7 id).chg c8 (fun e => by rw [hob, Option.some.injEq] at e; omega)
    have n8 : New w w8 := Chg.trans (New.trans (New.trans n5 n6) n7) c8 fun k hk e => by have := (ol7.lt e).1; omega
    have hG : (knotsM (l.take i) ++ [(⟨x.name, x.props, []⟩ : Kn)]).length = i + 1 := by simp [knotsM_length]; omega
    have hkt := knotsM_take hx
    unfold addN at hkt
    rw [knotsM_length, List.length_take, Nat.min_eq_left hi] at hkt
    have hkold : ∀ (p : Nat) (k : Kn), (knotsM (l.take i))[p]? = some k → ∀ j ∈ k.kids, j < i := fun p k hk j hj => by have := (kg5.kid p k hk j hj).2; rw [knotsM_length] at this; simp at this; omega
    clear ol5 ol7 kg5 kg7 b5 b7 c8 oq
    (repeat' (first | refine Wl.moveE (by conv => { lhs; whnf }) ?_ | refine Wl.nil ?_ | refine Qseq.normal ?_ | refine Wc.seq ?_ | refine Wc.region ?_ | refine Wc.skip ?_ | refine Qblk.normal ?_ | refine Wc.condT rfl ?_ | refine Wc.condF rfl ?_ | refine Wl.add rfl rfl (by omega) (by omega) ?_ | refine Wl.gtr rfl rfl (fun _ => ?_) (fun _ => ?_)))
    · rw [if_neg (by omega)] at hkt
      obtain ⟨hp0, hp1, _⟩ := hnd.kid (by omega)
      obtain ⟨k, hk⟩ := get_lt (knotsM (l.take i) ++ [⟨x.name, x.props, []⟩]) (k := x.parent.toNat) (by omega)
      obtain ⟨pv2, kv2, ka⟩ := kg8.at' _ k hk
      have hkq : ∀ j ∈ k.kids, j < i := hkold x.parent.toNat k (by rw [List.getElem?_append_left (by rw [knotsM_length]; simp; omega)] at hk; exact hk)
      generalize hG8 : knotsM (l.take i) ++ [⟨x.name, x.props, []⟩] = G8 at kg8 hk hG hkt
      unfold addKid at hkt
      rw [hk] at hkt
      simp only at hkt
      have hblen : (bs ++ [w6.heap.size]).length = i + 1 := by simp [hbl]
      generalize hbs : bs ++ [w6.heap.size] = bs8 at kg8 ka ol8 hblen
      have hlast : bs8.getD i 0 = w6.heap.size := by rw [← hbs, List.getD_eq_getElem?_getD, List.getElem?_append_right (by omega), hbl]; simp
      have hgp : ∀ q, q < i + 1 → (bs8.map some ++ List.replicate (l.length - (i + 1)) none)[q]? = some (some (bs8.getD q 0)) := fun q hq => by
        rw [List.getElem?_append_left (by simp; omega), List.getElem?_map, List.getD_eq_getElem?_getD, List.getElem?_eq_getElem (by omega)]; rfl
      have hpn : x.parent = ((x.parent.toNat : Nat) : Int) := by omega
      refine Wc.regionM [0, 1, 2, 3, 4, 5, 6, 7, 8, 9, 10, 11, 12, 13, 14, 15, 16] [17, 18, 19, 20, 21] rfl (by kernel_rfl) (by simp only [pick, List.getElem?_cons_succ, List.getElem?_cons_zero]; rfl) (by simp only [pick, List.getElem?_cons_succ, List.getElem?_cons_zero]; rfl) (Chg (fun b => lab7 b = some (x.parent.toNat, 2)) w8) (Chg.drew _ _) ?_
      have bq : ∀ w', Chg (fun b => lab7 b = some (x.parent.toNat, 2)) w8 w' → Bk w' w2.heap.size 37 [vi x.parent, vs x.name, pv] := fun w' hw => b8.chg hw (fun e => by rw [hlx7] at e; cases e)
      have oq : ∀ w', Chg (fun b => lab7 b = some (x.parent.toNat, 2)) w8 w' → OwnS (one optV) 78 1 (fun b => w.heap.size ≤ b) No w' (.slice (some ⟨g, 0, none⟩) l.length gc) (bs8.map some ++ List.replicate (l.length - (i + 1)) none) := fun w' hw => ol8.chg (plain_one _) hw (fun b hb e => by rw [hob, Option.some.injEq] at hb; rw [← hb, hlg7] at e; cases e)
      have kq : ∀ w', Chg (fun b => lab7 b = some (x.parent.toNat, 2)) w8 w' → Bk w' (bs8.getD x.parent.toNat 0) tKn [vs k.name, pv2, kv2] := fun w' hw => ka.bk.chg hw (fun e => by rw [ka.lb] at e; cases e)
      (repeat' (first | refine Wq.moveE (by conv => { lhs; whnf }) ?_ | refine Wq.fieldAddr rfl rfl ?_))
      refine Wq.load1 rfl (fun w' hw => (bq w' hw).cell (o := 0) rfl) ?_
      refine Wq.idxP rfl rfl hp0 (by omega) ?_
      refine Wq.load1 rfl (fun w' hw => by rw [Nat.zero_add, Nat.mul_one]; exact (oq w' hw).cell1 rfl (hgp _ (by omega))) ?_
      (repeat' (first | refine Wq.moveE (by conv => { lhs; whnf }) ?_ | refine Wq.fieldAddr rfl rfl ?_))
      refine Wq.load1 rfl (fun w' hw => (bq w' hw).cell (o := 0) rfl) ?_
      refine Wq.idxP rfl rfl hp0 (by omega) ?_
      refine Wq.load1 rfl (fun w' hw => by rw [Nat.zero_add, Nat.mul_one]; exact (oq w' hw).cell1 rfl (hgp _ (by omega))) ?_
      (repeat' (first | refine Wq.nilP rfl ?_ | refine Wq.fieldAddr rfl rfl ?_))
      refine Wq.load1 rfl (fun w' hw => (kq w' hw).cell (o := 2) rfl) ?_
      (repeat' (refine Wq.moveE (by conv => { lhs; whnf }) ?_))
      refine Wq.idxP rfl rfl (by omega) (by omega) ?_
      refine Wq.load1 rfl (fun w' hw => by rw [Nat.zero_add, Nat.mul_one]; exact (oq w' hw).cell1 rfl (hgp _ (by omega))) ?_
      rw [Int.toNat_natCast, hlast]
      (repeat' (refine Wq.nil ?_))
      intro w9 n9
      have ol9 := ol8.new (plain_one _) n9
      have kb9 := ka.bk.chg n9 id
      have kp9 := ka.pr.new plainPr n9
      have kk9 := ka.kd.new (plain_one _) n9
      have kg9 := kg8.new n9
      have nw9 := New.trans n8 n9
      refine Wch.cons ?_
      refine Wl.buildSlice1 (R := one ptrV) (y := w6.heap.size) (Pe := No) (good_one _ fun _ => rfl) rfl rfl rfl rfl (by omega) (by omega) fun vt w10 ot n10 s10 hobt => ?_
      refine Wl.nil ⟨rfl, (New.trans n9 n10).any, ?_⟩
      refine Wch.cons ?_
      have kb10 := kb9.chg n10 id
      have kp10 := kp9.new plainPr n10
      have kk10 := kk9.new (plain_one _) n10
      have kg10 := kg9.new n10
      have ol10 := ol9.new (plain_one _) n10
      have nw10 := New.trans nw9 n10
      have hkl : (k.kids.map fun j => bs8.getD j 0).length ≤ 513 := by rw [List.length_map]; have := kg10.kids_le hk; omega
      refine Wl.appendAll (good_one _ fun _ => rfl) kk10 (ot.rd (mono_one _)) (fun y cs hy => hy) rfl rfl (by omega) (by simp only [maxLen, List.length_singleton]; omega) (by simp only [List.length_singleton]; omega) fun kv3 w11 ok11 c11 lie _ => ?_
      have cM : Chg (fun b => lab7 b = some (x.parent.toNat, 2)) w8 w11 := Chg.trans (New.trans n9 n10).any c11 (fun b hb e => (ka.kd.lt e).1)
      refine Wl.nil ⟨rfl, cM, ?_⟩
      refine Wch.cons ?_
      refine Wl.nilP rfl ?_
      refine Wl.nil ⟨rfl, cM, ?_⟩
      refine Wch.cons ?_
      refine Wl.fieldAddr rfl rfl ?_
      refine Wl.nil ⟨rfl, cM, ?_⟩
      refine Wch.last ?_
      have kb11 := kb10.chg c11 (fun e => by have := (ka.kd.lt e).1; rw [ka.lb] at this; cases this)
      have hk3 : kv3.oneCell' = true := by obtain ⟨_, _, rfl, _⟩ := ok11.form; rfl
      refine Wl.store1 kb11 rfl (show (2 : Nat) < 3 by omega) rfl hk3 fun w12 b12 c12 => ?_
      replace b12 : Bk w12 (bs8.getD x.parent.toNat 0) tKn [vs k.name, pv2, kv3] := b12
      have c10 : Chg (fun b => ∃ q, lab7 b = some (x.parent.toNat, q)) w10 w12 := Chg.trans (c11.mono fun b hb e => ⟨2, (ka.kd.lt e).1⟩) c12 fun b hb e => ⟨0, by rw [e]; exact ka.lb⟩
      have sp : Sep pv2 kv3 := fun b e1 e2 => by
        rcases lie with lie | lie
        · rw [lie] at e2
          have h1 := (ka.pr.lt e1).1
          rw [(ka.kd.lt e2).1] at h1; cases h1
        · have := lie b e2
          have := (kp10.lt e1).2
          omega
      have kp12 := (kp10.chg plainPr c11 (fun b e1 e2 => by have h1 := (ka.pr.lt e1).1; rw [(ka.kd.lt e2).1] at h1; cases h1)).chg plainPr c12 (fun b e1 e2 => by have h1 := (ka.pr.lt e1).1; rw [e2, ka.lb] at h1; cases h1)
      have ok12 := ok11.chg (plain_one _) c12 (fun b e1 e2 => by
        rcases (ok11.lt e1).1 with h1 | h1
        · rw [e2, ka.lb] at h1; cases h1
        · have := kb10.lt; omega)
      have sz10 := nw10.size
      obtain ⟨lab12, kg12, hl12⟩ := kg10.set (k' := { k with kids := k.kids ++ [i] }) sz10 hk c10 b12 (kp12.mono (mono_flat pC) (fun _ _ e => .inl e) (fun _ _ e => e)) (by rw [List.map_append, List.map_singleton, hlast]; exact ok12) sp
        (fun j hj => by
          rcases List.mem_append.1 hj with hj | hj
          · exact kg10.kid _ k hk j hj
          · rw [List.mem_singleton.1 hj]; omega)
        (List.nodup_append.2 ⟨kg10.nd _ k hk, by simp, fun a ha b hb e => by have := hkq a ha; simp at hb; omega⟩)
      have ol12 := (ol10.chg (plain_one _) c11 (fun b e1 e2 => by rw [hob, Option.some.injEq] at e1; have := (ka.kd.lt e2).1; rw [← e1, hlg7] at this; cases this)).chg (plain_one _) c12 (fun b e1 e2 => by rw [hob, Option.some.injEq] at e1; have := ka.lb; rw [← e2, ← e1, hlg7] at this; cases this)
      (repeat' (first | refine Wl.moveE (by conv => { lhs; whnf }) ?_ | refine Wl.nil ?_ | refine Qseq.normal ?_ | refine Wc.region ?_ | refine Qblk.normal ?_ | refine Wl.add rfl rfl (by omega) (by omega) ?_))
      refine Qloop.normal (i + 1, bs8, lab12) ⟨rfl, rfl, rfl, rfl, trivial⟩ ⟨by dsimp only; omega, by dsimp only; rw [hkt]; exact kg12, (hl12 g (ol10.lt rfl).2).trans hlg7, ol12, Chg.trans nw10 c10 fun b hb ⟨q, e⟩ => by have := (kg8.low b _ e).1; omega⟩ (by dsimp only; omega)
    · rw [if_pos (by omega)] at hkt
      refine Qloop.normal (i + 1, bs ++ [w6.heap.size], lab7) ⟨rfl, rfl, rfl, rfl, trivial⟩ ⟨by dsimp only; omega, by dsimp only; rw [hkt]; exact kg8, hlg7, ol8, n8⟩ (by dsimp only; omega)
  · have e : i = l.length := by omega
    subst e
    rw [List.take_length] at kg
    rw [Nat.sub_self, List.replicate_zero, List.append_nil] at ol
    refine Qfn.ret1 rfl rfl ⟨_, rfl, bs, lab, kg, ?_, n2⟩
    exact ol.reblk fun b e h => ⟨h, by cases e; exact hlg⟩
end Go.Proofs.YtjpebmgllfiloaaDoor

namespace Go.Proofs.YtjpebmgllfiloaaDoor
open Go Wk
open Go.RowKit (Below)
attribute [local irreducible] Go.Calls

abbrev Sl := Option Addr × Nat × Nat
abbrev slV (s : Sl) : Value := .slice s.1 s.2.1 s.2.2
def ndV (x : Nd × Sl) : List Value := [vi x.1.parent, vs x.1.name, slV x.2]
abbrev tNd : TypeId := 37
abbrev Lb := Nat → Option Nat
structure TrOwn (lo : Nat) (lab : Lb) (w : World) (v : Value) (t : List Nd) (pvs : List Sl) : Prop where
  len : pvs.length = t.length
  low : ∀ b c, lab b = some c → lo ≤ b ∧ b < w.heap.size
  arr : OwnS (flat ndV) tNd 3 (fun b => lab b = some 0) No w v (t.zip pvs)
  pr : ∀ i x pv, t[i]? = some x → pvs[i]? = some pv → OwnPr (fun b => lab b = some (i + 1)) w (slV pv) x.props
theorem goodNdV : GoodR (flat ndV) 3 := good_flat ndV (fun _ => rfl) fun x c hc => by
  simp [ndV] at hc
  rcases hc with rfl | rfl | rfl <;> rfl
section
variable {lo : Nat} {lab lab' : Lb} {w w' : World} {v : Value} {t : List Nd} {pvs : List Sl} {M : Nat → Prop}
theorem TrOwn.nil {lo : Nat} {w : World} : TrOwn lo (fun _ => none) w (.slice none 0 0) [] [] :=
  ⟨rfl, fun b c e => (by cases e), OwnS.nil, fun i x pv h => by simp at h⟩
theorem TrOwn.chg (h : TrOwn lo lab w v t pvs) (c : Chg M w w') (hM : ∀ b, b < w.heap.size → M b → lab b = none) : TrOwn lo lab w' v t pvs := by
  have c' : Chg (fun b => M b ∧ b < w.heap.size) w w' := c.mono fun k hk e => ⟨e, hk⟩
  exact ⟨h.len, fun b q e => ⟨(h.low b q e).1, Nat.lt_of_lt_of_le (h.low b q e).2 c.size⟩, h.arr.chg (plain_flat ndV) c' (fun b hb e => by have := (h.arr.lt hb).1; rw [hM b e.2 e.1] at this; cases this),
    fun i x pv hx hp => (h.pr i x pv hx hp).chg plainPr c' (fun b hb e => by have := ((h.pr i x pv hx hp).lt hb).1; rw [hM b e.2 e.1] at this; cases this)⟩
theorem TrOwn.new (h : TrOwn lo lab w v t pvs) (c : New w w') : TrOwn lo lab w' v t pvs := h.chg c fun _ _ e => e.elim
/-- It can be read. -/
theorem TrOwn.rd (h : TrOwn lo lab w v t pvs) : RdS rNd 3 (fun b => lo ≤ b) w v t := by
  have hr := h.arr.rd (mono_flat ndV)
  have hl : (t.zip pvs).length = t.length := by simp [h.len]
  rcases hr with ⟨rfl, e⟩ | ⟨a, cap, rfl, e, hc⟩ | ⟨b, off, cap, cur, e, fr, rfl, hb, hh, h1, h2, h3, h4⟩
  · refine .inl ⟨rfl, List.eq_nil_of_length_eq_zero ?_⟩
    rw [← hl, e]; rfl
  · have ht : t = [] := List.eq_nil_of_length_eq_zero (by rw [← hl, e]; rfl)
    exact .inr (.inl ⟨a, cap, rfl, ht, hc⟩)
  · rw [hl] at *
    refine .inr (.inr ⟨b, off, cap, cur, e, fr, rfl, ?_, hh, h1, h2, h3, fun i x hx => ?_⟩)
    · rcases hb with hb | hb
      · exact (h.low b 0 hb).1
      · exact hb.elim
    · have hi : i < t.length := (List.getElem?_eq_some_iff.1 hx).1
      obtain ⟨pv, hpv⟩ := get_lt pvs (k := i) (by rw [h.len]; exact hi)
      have hz : (t.zip pvs)[i]? = some (x, pv) := by simp [List.getElem?_zip_eq_some, hx, hpv]
      have := h4 i (x, pv) hz
      refine ⟨slV pv, this, ?_⟩
      have hp := (h.pr i x pv hx hpv).rd (mono_flat pC)
      exact hp.mono (mono_flat pC) fun b _ hb => by
        rcases hb with hb | hb
        · exact (h.low b _ hb).1
        · exact hb.elim
/-- A node behind the others. -/
theorem TrOwn.snoc {w2 w3 : World} (h : TrOwn lo lab w v t pvs) (hlo : lo ≤ w.heap.size) {x : Nd} {pv : Sl} {v' : Value} (n : New w w2) (hp : OwnPr (fun b => w.heap.size ≤ b) w2 (slV pv) x.props)
    (ha : OwnS (flat ndV) tNd 3 (fun b => lab b = some 0 ∨ w2.heap.size ≤ b) No w3 v' (t.zip pvs ++ [(x, pv)])) (c : Chg (fun b => v.ownBlock = some b) w2 w3) :
    ∃ lab', TrOwn lo lab' w3 v' (t ++ [x]) (pvs ++ [pv]) := by
  let lab' : Lb := fun b => if b < w.heap.size then lab b else if b < w2.heap.size then some (t.length + 1) else if b < w3.heap.size then some 0 else none
  have hold : ∀ b, b < w.heap.size → lab' b = lab b := fun b hb => if_pos hb
  have hpl : t.length = pvs.length := h.len.symm
  refine ⟨lab', ⟨by simp [h.len], fun b q e => ?_, ?_, fun i y qv hy hq => ?_⟩⟩
  · have := n.size
    have := c.size
    by_cases hb : b < w.heap.size
    · rw [hold b hb] at e; have := h.low b q e; omega
    · simp only [lab', if_neg hb] at e
      split at e
      · omega
      · split at e
        · omega
        · cases e
  · rw [List.zip_append hpl]
    refine ha.reblk fun b hb e => ?_
    have hlt := (ha.lt hb).2
    rcases e with e | e
    · exact (hold b (h.low b _ e).2).trans e
    · have := n.size
      simp only [lab', if_neg (show ¬ b < w.heap.size by omega), if_neg (show ¬ b < w2.heap.size by omega), if_pos hlt]
  · rw [List.getElem?_append] at hy hq
    have nv : ∀ b, v.ownBlock = some b → lab b = some 0 := fun b hb => (h.arr.lt hb).1
    split at hy
    · rename_i hi
      rw [if_pos (by omega)] at hq
      have h1 := ((h.pr i y qv hy hq).new plainPr n).chg plainPr c fun b hb e => by have := ((h.pr i y qv hy hq).lt hb).1; rw [nv b e] at this; cases this
      exact h1.reblk fun b hb e => (hold b (h.low b _ e).2).trans e
    · rename_i hi
      rw [if_neg (by omega)] at hq
      have hi0 : i = t.length := by
        have := (List.getElem?_eq_some_iff.1 hy).1
        simp at this; omega
      subst hi0
      simp at hy
      rw [hpl] at hq
      simp at hq
      subst hy
      subst hq
      have h1 := hp.chg plainPr c fun b hb e => by
        have h2 := (hp.lt hb).1
        have := (h.low b _ (nv b e)).2
        omega
      refine h1.reblk fun b hb e => ?_
      have := (hp.lt hb).2
      simp only [lab', if_neg (show ¬ b < w.heap.size by omega), if_pos this]
end
end Go.Proofs.YtjpebmgllfiloaaDoor

namespace Go.Proofs.YtjpebmgllfiloaaDoor
open Go Wk
open Go.RowKit (Below)
attribute [local irreducible] Go.Calls

def flatG (G : List Kn) : Nat → Nat → Int → List Nd → List Nd
  | 0, _, _, acc => acc
  | f + 1, i, up, acc => match G[i]? with
    | none => acc
    | some k => k.kids.foldl (fun a j => flatG G f j (acc.length : Int) a) (acc ++ [⟨up, k.name, k.props⟩])
theorem flatG_ext (G : List Kn) : ∀ (f i : Nat) (up : Int) (acc : List Nd), ∃ r, flatG G f i up acc = acc ++ r
  | 0, _, _, acc => ⟨[], by simp [flatG]⟩
  | f + 1, i, up, acc => by
    rw [flatG]
    split
    · exact ⟨[], by simp⟩
    · rename_i k _
      have : ∀ (l : List Nat) (a : List Nd), ∃ r, l.foldl (fun a j => flatG G f j (acc.length : Int) a) a = a ++ r := by
        intro l
        induction l with
        | nil => exact fun a => ⟨[], by simp⟩
        | cons j l ih =>
          intro a
          obtain ⟨r1, h1⟩ := flatG_ext G f j (acc.length : Int) a
          obtain ⟨r2, h2⟩ := ih (flatG G f j (acc.length : Int) a)
          exact ⟨r1 ++ r2, by rw [List.foldl_cons, h2, h1, List.append_assoc]⟩
      obtain ⟨r, h⟩ := this k.kids (acc ++ [⟨up, k.name, k.props⟩])
      exact ⟨[⟨up, k.name, k.props⟩] ++ r, by rw [h, List.append_assoc]⟩
theorem foldl_ext (G : List Kn) (f : Nat) (u : Int) : ∀ (l : List Nat) (a : List Nd), a.length ≤ (l.foldl (fun a j => flatG G f j u a) a).length
  | [], a => by simp
  | j :: l, a => by
    obtain ⟨r, h⟩ := flatG_ext G f j u a
    have := foldl_ext G f u l (flatG G f j u a)
    rw [List.foldl_cons]
    rw [h] at this ⊢
    simp only [List.length_append] at this
    omega
abbrev visitV (tb vb : Nat) : Value := .func (.func 72) #[] #[ptrV tb, ptrV vb]
/-- What visit needs, and keeps. -/
structure Vis (lo lo2 tb vb : Nat) (lab : Lab) (w : World) (bs : List Nat) (G : List Kn) : Prop where
  kg : KG lo lab w bs G
  up : ∀ b, lo2 ≤ b → lab b = none
  tbl : tb < lo2 ∧ lab tb = none
  vbl : vb < lo2 ∧ vb ≠ tb ∧ lab vb = none
  fv : Bk w vb 115 [visitV tb vb]
  prl : ∀ (i : Nat) (k : Kn), G[i]? = some k → k.props.length ≤ 1000
  sz : lo2 ≤ w.heap.size
  gl : G.length ≤ 100000
theorem Vis.chg {lo lo2 tb vb : Nat} {lab : Lab} {w w' : World} {bs : List Nat} {G : List Kn} (h : Vis lo lo2 tb vb lab w bs G) (c : Chg (fun b => b = tb ∨ lo2 ≤ b) w w') : Vis lo lo2 tb vb lab w' bs G :=
  ⟨h.kg.chg c fun b _ e => by rcases e with rfl | e; exact h.tbl.2; exact h.up b e, h.up, h.tbl, h.vbl, h.fv.chg c fun e => by rcases e with e | e; exact h.vbl.2.1 e; have := h.vbl.1; omega, h.prl, Nat.le_trans h.sz c.size, h.gl⟩

set_option maxHeartbeats 2000000 in
set_option maxRecDepth 4000 in
theorem visit_spec {lo lo2 tb vb : Nat} {lab : Lab} {bs : List Nat} {G : List Kn} : ∀ (f i : Nat) (up : Int) (w : World) (acc : List Nd) (tv : Value) (lab2 : Lb) (pvs : List Sl),
    i < G.length → G.length - i ≤ f → Vis lo lo2 tb vb lab w bs G → Bk w tb 22 [tv] → TrOwn lo2 lab2 w tv acc pvs → (flatG G f i up acc).length ≤ 100000 →
    Calls Tryd.prog 72 #[ptrV (bs.getD i 0), vi up, ptrV tb, ptrV vb] w (Ret fun r w' => r = .tuple #[] ∧ ∃ tv' lab' pvs', Bk w' tb 22 [tv'] ∧ TrOwn lo2 lab' w' tv' (flatG G f i up acc) pvs' ∧ Chg (fun b => b = tb ∨ lo2 ≤ b) w w') := by
  intro f
  induction f with
  | zero => intro i _ _ _ _ _ _ hi hf; omega
  | succ f ih =>
    intro i up w acc tv lab2 pvs hi hf hv hb ht hB
    obtain ⟨k, hk⟩ := get_lt G hi
    obtain ⟨pv, kv, ka⟩ := hv.kg.at' i k hk
    rw [flatG, hk] at hB
    rw [flatG, hk]
    simp only at hB ⊢
    have hacc : acc.length + 1 ≤ 100000 := by
      have := foldl_ext G f (acc.length : Int) k.kids (acc ++ [⟨up, k.name, k.props⟩])
      simp only [List.length_append, List.length_singleton] at this
      omega
    have hzl : (acc.zip pvs).length = acc.length := by simp [ht.len]
    obtain ⟨ta, tc, htv, _, _⟩ := ht.arr.form
    rw [hzl] at htv
    subst htv
    refine calls_of_Wc Tryd.func72 rfl Tryd.ntmps72 rfl ?_
    (repeat' (first | refine Wc.seq ?_ | refine Wc.region ?_))
    refine Wl.load1 rfl (hb.cell (o := 0) rfl) ?_
    (repeat' (first | refine Wl.assignE (by conv => { lhs; whnf }) ?_ | refine Wl.nil ?_ | refine Wl.lenS rfl ?_ | refine Qseq.normal ?_ | refine Wc.seq ?_))
    refine Wc.regionM [0, 1, 2, 3, 4, 5, 6, 7, 8, 9] [10, 11, 12, 13, 14] rfl (by kernel_rfl) (by simp only [pick, List.getElem?_cons_succ, List.getElem?_cons_zero]; rfl) (by simp only [pick, List.getElem?_cons_succ, List.getElem?_cons_zero]; rfl) (fun w' => Chg (fun b => lo2 ≤ b) w w') (Chg.drew _ _) ?_
    have tq : ∀ w', Chg (fun b => lo2 ≤ b) w w' → Bk w' tb 22 [.slice ta acc.length tc] := fun w' hw => hb.chg hw (fun e => by have := hv.tbl.1; omega)
    have kq : ∀ w', Chg (fun b => lo2 ≤ b) w w' → Bk w' (bs.getD i 0) tKn [vs k.name, pv, kv] := fun w' hw => ka.bk.chg hw (fun e => by have := hv.up _ e; rw [ka.lb] at this; cases this)
    refine Wq.load1 rfl (fun w' hw => (tq w' hw).cell (o := 0) rfl) ?_
    (repeat' (first | refine Wq.moveE (by conv => { lhs; whnf }) ?_ | refine Wq.nilP rfl ?_ | refine Wq.fieldAddr rfl rfl ?_))
    refine Wq.load1 rfl (fun w' hw => (kq w' hw).cell (o := 0) rfl) ?_
    (repeat' (first | refine Wq.moveE (by conv => { lhs; whnf }) ?_ | refine Wq.nilP rfl ?_ | refine Wq.fieldAddr rfl rfl ?_))
    refine Wq.load1 rfl (fun w' hw => (kq w' hw).cell (o := 1) rfl) ?_
    (repeat' (refine Wq.nil ?_))
    intro w1 n1
    refine Wch.cons ?_
    refine Wl.call (ClonePr_spec ((ka.pr.new plainPr n1).rd (mono_flat pC)) (by have := hv.prl i k hk; omega)) rfl ?_
    rintro qv w2 ⟨oq, n2⟩
    obtain ⟨qa, qc, rfl, _, _⟩ := oq.form
    have n12 := New.trans n1 n2
    refine Wl.nil ⟨rfl, n12.any, ?_⟩
    refine Wch.cons ?_
    refine Wl.buildF (ps := [(0, .tmp 12), (1, .tmp 16), (2, .tmp 21)]) (parts := [(0, vi up), (1, vs k.name), (2, .slice qa k.props.length qc)]) rfl rfl (by simp [Value.cells]) ?_
    refine Wl.nil ⟨rfl, n12.any, ?_⟩
    refine Wch.cons ?_
    refine Wl.buildSlice1 (R := flat ndV) (y := (⟨up, k.name, k.props⟩, (qa, k.props.length, qc))) (Pe := No) goodNdV rfl rfl rfl rfl (by omega) (by omega) fun vt w3 ot n3 s3 hobt => ?_
    have n13 := New.trans n12 n3
    refine Wl.nil ⟨rfl, n13.any, ?_⟩
    refine Wch.cons ?_
    have ht3 := ht.new n13
    refine Wl.appendAll goodNdV ht3.arr (ot.rd (mono_flat ndV)) (fun y cs hy => hy) rfl rfl (by omega) (by simp only [maxLen, List.length_singleton]; omega) (by simp only [List.length_singleton]; omega) fun tv4 w4 o4 c4 lie _ => ?_
    have c04 : Chg (fun b => lo2 ≤ b) w w4 := Chg.trans n13.any c4 fun b hb e => (ht.low b _ (ht.arr.lt e).1).1
    refine Wl.nil ⟨rfl, c04, ?_⟩
    refine Wch.last ?_
    have hb4 := hb.chg c04 (fun e => by have := hv.tbl.1; omega)
    have h4 : tv4.oneCell' = true := by obtain ⟨_, _, rfl, _⟩ := o4.form; rfl
    refine Wl.store1 hb4 rfl (show (0 : Nat) < 1 by omega) rfl h4 fun w5 b5 c5 => ?_
    replace b5 : Bk w5 tb 22 [tv4] := b5
    have s01 := n1.size
    obtain ⟨lab4, t4⟩ := ht.snoc hv.sz n13 ((oq.mono (Pb' := fun b => w.heap.size ≤ b) (mono_flat pC) (fun b _ h => by omega) (fun _ _ e => e)).new plainPr n3) o4 c4
    have t5 := t4.chg c5 (fun b _ e => by
      cases e' : lab4 b with
      | none => rfl
      | some q => have := (t4.low b q e').1; have := hv.tbl.1; omega)
    have c05 : Chg (fun b => b = tb ∨ lo2 ≤ b) w w5 := Chg.trans (c04.mono fun b _ e => .inr e) c5 fun b _ e => .inl e
    have hv5 := hv.chg c05
    have ka5 := ka.chg c05 (fun b e q e' => by
      rcases e with rfl | e
      · rw [hv.tbl.2] at e'; cases e'
      · rw [hv.up b e] at e'; cases e')
    clear ht ht3 hb4 c04 c4 c5 o4 t4 oq ot n1 n2 n3 n12 n13
    generalize hRES : k.kids.foldl (fun a j => flatG G f j (acc.length : Int) a) (acc ++ [⟨up, k.name, k.props⟩]) = RES at hB ⊢
    (repeat' (first | refine Wl.moveE (by conv => { lhs; whnf }) ?_ | refine Wl.nil ?_ | refine Qseq.normal ?_ | refine Wc.seq ?_ | refine Wc.region ?_ | refine Wl.nilP rfl ?_ | refine Wl.fieldAddr rfl rfl ?_))
    refine Wl.load1 rfl (ka5.bk.cell (o := 2) rfl) ?_
    obtain ⟨kp, kc, hkv, _, _⟩ := ka5.kd.form
    rw [List.length_map] at hkv
    subst hkv
    have hkl := hv5.kg.kids_le hk
    have hgl := hv.gl
    (repeat' (first | refine Wl.moveE (by conv => { lhs; whnf }) ?_ | refine Wl.nil ?_ | refine Wl.lenS rfl ?_ | refine Qseq.normal ?_ | refine Wc.block ?_))
    refine Wc.loop (σ := Nat × List Nd × Value × Lb × List Sl) (fun s => [(2, ptrV tb), (3, ptrV vb), (6, vi acc.length), (28, .slice kp k.kids.length kc), (29, vi k.kids.length), (30, vi s.1)])
      (fun s w' => s.1 ≤ k.kids.length ∧ (k.kids.drop s.1).foldl (fun a j => flatG G f j (acc.length : Int) a) s.2.1 = RES ∧ Bk w' tb 22 [s.2.2.1] ∧ TrOwn lo2 s.2.2.2.1 w' s.2.2.1 s.2.1 s.2.2.2.2 ∧ Chg (fun b => b = tb ∨ lo2 ≤ b) w w') (fun s => k.kids.length - s.1)
      (0, acc ++ [⟨up, k.name, k.props⟩], tv4, lab4, pvs ++ [(qa, k.props.length, qc)]) ⟨rfl, rfl, rfl, rfl, rfl, rfl, trivial⟩ ⟨Nat.zero_le _, hRES, b5, t5, c05⟩ ?_
    rintro ⟨q, a, tvq, labq, pvq⟩ G6 w6 ⟨hq, hfold, b6, t6, c6⟩
    dsimp only at hq hfold b6 t6 c6
    simp only [upds]
    (repeat' (first | refine Wl.nil ?_ | refine Qseq.normal ?_ | refine Wc.seq ?_ | refine Wc.region ?_ | refine Wc.block ?_ | refine Wc.skip ?_ | refine Wc.exit ?_ | refine Qseq.exit ?_ | refine Qblk.hit ?_ | refine Qloop.exit ?_ | refine Wc.condT rfl ?_ | refine Wc.condF rfl ?_ | refine Wl.lss rfl rfl (fun _ => ?_) (fun _ => ?_)))
    · obtain ⟨j, hj⟩ := get_lt k.kids (k := q) (by omega)
      have ka6 := ka.chg c6 (fun b e q e' => by
        rcases e with rfl | e
        · rw [hv.tbl.2] at e'; cases e'
        · rw [hv.up b e] at e'; cases e')
      have hv6 := hv.chg c6
      have hjk := hv.kg.kid i k hk j (List.mem_of_getElem? hj)
      have hkd : OwnKids (fun x => lab x = some (i, 2)) w6 (.slice kp k.kids.length kc) (k.kids.map fun j => bs.getD j 0) := ka6.kd
      refine Wl.idxAddrV (hkd.rd (mono_one _)) rfl rfl (by omega) (y := bs.getD j 0) (by rw [List.getElem?_map]; show Option.map _ k.kids[q]? = _; rw [hj]; rfl) fun b o hc => ?_
      refine Wl.load1 rfl hc ?_
      (repeat' (first | refine Wl.assignE (by conv => { lhs; whnf }) ?_ | refine Wl.nil ?_ | refine Qseq.normal ?_ | refine Wc.region ?_))
      refine Wl.load1 rfl (hv6.fv.cell (o := 0) rfl) ?_
      (repeat' (refine Wl.moveE (by conv => { lhs; whnf }) ?_))
      rw [drop_cons hj, List.foldl_cons] at hfold
      have hBj : (flatG G f j (acc.length : Int) a).length ≤ 100000 := by
        have := foldl_ext G f (acc.length : Int) (k.kids.drop (q + 1)) (flatG G f j (acc.length : Int) a)
        rw [hfold] at this
        omega
      refine Wl.callV (dst := some 37) (first := #[]) (cap := #[ptrV tb, ptrV vb]) rfl (ih j (acc.length : Int) w6 a tvq labq pvq hjk.2 (by omega) hv6 b6 t6 hBj) rfl ?_
      rintro _ w7 ⟨rfl, tv7, lab7, pvs7, b7, t7, c7⟩
      simp only [updO]
      (repeat' (first | refine Wl.moveE (by conv => { lhs; whnf }) ?_ | refine Wl.nil ?_ | refine Qseq.normal ?_ | refine Wc.region ?_ | refine Qblk.normal ?_ | refine Wl.add rfl rfl (by omega) (by omega) ?_))
      exact Qloop.normal (q + 1, flatG G f j (acc.length : Int) a, tv7, lab7, pvs7) ⟨rfl, rfl, rfl, rfl, rfl, rfl, trivial⟩ ⟨by dsimp only; omega, hfold, b7, t7, Chg.trans c6 c7 fun _ _ e => e⟩ (by dsimp only; omega)
    · have e : q = k.kids.length := by omega
      subst e
      rw [List.drop_length] at hfold
      simp only [List.foldl_nil] at hfold
      subst hfold
      exact Qfn.end0 rfl ⟨_, rfl, rfl, tvq, labq, pvq, b6, t6, c6⟩

set_option maxHeartbeats 1000000 in
theorem flat_spec {lo : Nat} {lab : Lab} {w : World} {bs : List Nat} {G : List Kn} (kg : KG lo lab w bs G) {i : Nat} (hi : i < G.length) (hp : ∀ (i : Nat) (k : Kn), G[i]? = some k → k.props.length ≤ 1000) (hg : G.length ≤ 100000) (hB : (flatG G G.length i (-1) []).length ≤ 100000) :
    Calls Tryd.prog 46 #[ptrV (bs.getD i 0)] w (Ret fun r w' => ∃ lab' pvs, TrOwn w.heap.size lab' w' r (flatG G G.length i (-1) []) pvs ∧ New w w') := by
  refine calls_of_Wc Tryd.func46 rfl Tryd.ntmps46 rfl ?_
  (repeat' (first | refine Wl.assignE (by conv => { lhs; whnf }) ?_ | refine Wl.nil ?_ | refine Qseq.normal ?_ | refine Wc.seq ?_ | refine Wc.region ?_))
  refine Wl.alloc fun w1 b1 n1 s1 => ?_
  (repeat' (first | refine Wl.nil ?_ | refine Qseq.normal ?_ | refine Wc.seq ?_ | refine Wc.region ?_))
  refine Wl.alloc fun w2 b2 n2 s2 => ?_
  (repeat' (first | refine Wl.nil ?_ | refine Qseq.normal ?_ | refine Wc.seq ?_ | refine Wc.region ?_))
  refine Wl.makeFunc (first := []) (cap := [.tmp 3, .tmp 4]) rfl rfl ?_
  refine Wl.store1 (u := visitV w.heap.size w1.heap.size) b2 rfl (show (0 : Nat) < 1 by omega) rfl rfl fun w3 b3 c3 => ?_
  have n3 : New w w3 := Chg.trans (New.trans n1 n2) c3 fun b hb e => by omega
  have b13 : Bk w3 w.heap.size 22 [.slice none 0 0] := (b1.chg n2 id).chg c3 (fun e => by omega)
  have sz3 := c3.size
  have hv : Vis lo (w1.heap.size + 1) w.heap.size w1.heap.size lab w3 bs G :=
    ⟨kg.new n3, fun b hb => kg.lab_none (.inl (by omega)), ⟨by omega, kg.lab_none (.inl (by omega))⟩, ⟨by omega, by omega, kg.lab_none (.inl (by omega))⟩, b3, hp, by omega, hg⟩
  (repeat' (first | refine Wl.nil ?_ | refine Qseq.normal ?_ | refine Wc.seq ?_ | refine Wc.region ?_))
  refine Wl.load1 rfl (hv.fv.cell (o := 0) rfl) ?_
  (repeat' (refine Wl.moveE (by conv => { lhs; whnf }) ?_))
  refine Wl.callV (dst := some 8) (first := #[]) (cap := #[ptrV w.heap.size, ptrV w1.heap.size]) rfl (visit_spec G.length i (-1) w3 [] (.slice none 0 0) _ [] hi (by omega) hv b13 TrOwn.nil hB) rfl ?_
  rintro _ w4 ⟨rfl, tv, lab', pvs, b4, t4, c4⟩
  simp only [updO]
  (repeat' (first | refine Wl.nil ?_ | refine Qseq.normal ?_ | refine Wc.seq ?_ | refine Wc.region ?_))
  refine Wl.load1 rfl (b4.cell (o := 0) rfl) ?_
  (repeat' (first | refine Wl.assignE (by conv => { lhs; whnf }) ?_ | refine Wl.nil ?_ | refine Qseq.normal ?_ | refine Wc.ret ?_))
  refine Qfn.ret1 rfl rfl ⟨_, rfl, lab', pvs, ⟨t4.len, fun b c e => ?_, t4.arr, t4.pr⟩, Chg.trans n3 c4 fun b hb e => by omega⟩
  have := t4.low b c e
  omega
end Go.Proofs.YtjpebmgllfiloaaDoor

namespace Go.Proofs.YtjpebmgllfiloaaDoor
open Go Wk
open Go.RowKit (Below)
attribute [local irreducible] Go.Calls

def idx {α : Type} (p : α → Bool) (l : List α) : Int := match l.findIdx? p with | some i => (i : Int) | none => -1
theorem idx_hit {α : Type} {p : α → Bool} {l : List α} {i : Nat} {y : α} (hi : l[i]? = some y) (h : ∀ x ∈ l.take i, p x = false) (hy : p y = true) : idx p l = i := by
  unfold idx
  have : l.findIdx? p = some i := by
    rw [List.findIdx?_eq_some_iff_getElem]
    obtain ⟨hlt, rfl⟩ := List.getElem?_eq_some_iff.1 hi
    refine ⟨hlt, hy, fun j hj => ?_⟩
    have := h l[j] (by rw [List.mem_iff_getElem?]; exact ⟨j, by rw [List.getElem?_take, if_pos hj, List.getElem?_eq_getElem]⟩)
    simp [this]
  rw [this]
theorem idx_miss {α : Type} {p : α → Bool} {l : List α} (h : ∀ x ∈ l, p x = false) : idx p l = -1 := by
  unfold idx
  have : l.findIdx? p = none := by rw [List.findIdx?_eq_none_iff]; exact h
  rw [this]
theorem take_all {α : Type} {p : α → Bool} {l : List α} {i : Nat} {y : α} (hi : l[i]? = some y) (h : ∀ x ∈ l.take i, p x = false) (hy : p y = false) : ∀ x ∈ l.take (i + 1), p x = false := by
  rw [take_snoc hi]
  intro x hx
  rcases List.mem_append.1 hx with hx | hx
  · exact h x hx
  · rw [List.mem_singleton.1 hx]; exact hy

theorem IndexFuncPr_spec {Pb : Nat → Prop} {w : World} {v : Value} {l : List Pr} {p : Pr → Bool} {g : FuncId} {cap : Array Value} [hc : Callable Tryd.prog g] (h : RdS rPr 2 Pb w v l)
    (hf : ∀ y w', y ∈ l → New w w' → Calls Tryd.prog g ([Value.agg (pC y).toArray] ++ cap.toList).toArray w' (Ret fun r w'' => r = .bool (p y) ∧ New w' w'')) :
    Calls Tryd.prog 68 #[v, .func (.func g) #[] cap] w (Ret fun r w' => r = vi (idx p l) ∧ New w w') := by
  obtain ⟨a, cp, rfl, hc1, hc2⟩ := h.form
  simp only [maxLen] at hc2
  refine calls_of_Wc Tryd.func68 rfl Tryd.ntmps68 rfl ?_
  (repeat' (first | refine Wl.moveE (by conv => { lhs; whnf }) ?_ | refine Wl.assignE (by conv => { lhs; whnf }) ?_ | refine Wl.nil ?_ | refine Wl.lenS rfl ?_ | refine Qseq.normal ?_ | refine Wc.seq ?_ | refine Wc.region ?_ | refine Wc.block ?_))
  refine Wc.loop (σ := Nat) (fun i => [(0, .slice a l.length cp), (1, .func (.func g) #[] cap), (7, vi l.length), (8, vi i)]) (fun i w' => i ≤ l.length ∧ (∀ x ∈ l.take i, p x = false) ∧ New w w') (fun i => l.length - i) 0 ⟨rfl, rfl, rfl, rfl, trivial⟩ ⟨Nat.zero_le _, by simp, Chg.refl _ _⟩ ?_
  rintro i G w1 ⟨hi, hall, n1⟩
  simp only [upds]
  (repeat' (first | refine Wl.moveE (by conv => { lhs; whnf }) ?_ | refine Wl.assignE (by conv => { lhs; whnf }) ?_ | refine Wl.nil ?_ | refine Qseq.normal ?_ | refine Wc.seq ?_ | refine Wc.region ?_ | refine Wc.block ?_ | refine Wc.skip ?_ | refine Wc.exit ?_ | refine Wc.ret ?_ | refine Qseq.exit ?_ | refine Qblk.hit ?_ | refine Qloop.exit ?_ | refine Wc.condT rfl ?_ | refine Wc.condF rfl ?_ | refine Wl.lss rfl rfl (fun _ => ?_) (fun _ => ?_)))
  · obtain ⟨y, hy⟩ := get_lt l (k := i) (by omega)
    refine Wl.idxAddrK h n1.keep rfl rfl (by omega) hy fun b o cs hl hR hat => ?_
    obtain rfl : cs = pC y := hR
    refine Wl.loadAt hat rfl rfl ?_
    refine Wl.callV (dst := some 16) rfl (hf y w1 (List.mem_of_getElem? hy) n1) rfl ?_
    rintro _ w2 ⟨rfl, n2⟩
    simp only [updO]
    cases hp : p y with
    | true =>
      (repeat' (first | refine Wl.moveE (by conv => { lhs; whnf }) ?_ | refine Wl.assignE (by conv => { lhs; whnf }) ?_ | refine Wl.nil ?_ | refine Qseq.normal ?_ | refine Wc.seq ?_ | refine Wc.region ?_ | refine Wc.ret ?_ | refine Qseq.ret ?_ | refine Qblk.ret ?_ | refine Qloop.ret ?_ | refine Wc.condT rfl ?_))
      refine Qfn.ret1 rfl rfl ⟨_, rfl, ?_, New.trans n1 n2⟩
      rw [idx_hit hy hall hp]; rfl
    | false =>
      (repeat' (first | refine Wl.moveE (by conv => { lhs; whnf }) ?_ | refine Wl.nil ?_ | refine Qseq.normal ?_ | refine Wc.region ?_ | refine Wc.skip ?_ | refine Qblk.normal ?_ | refine Wc.condF rfl ?_ | refine Wl.add rfl rfl (by omega) (by omega) ?_))
      exact Qloop.normal (i + 1) ⟨rfl, rfl, rfl, rfl, trivial⟩ ⟨by omega, take_all hy hall hp, New.trans n1 n2⟩ (by omega)
  · have e : i = l.length := by omega
    subst e
    rw [List.take_length] at hall
    refine Qfn.ret1 rfl rfl ⟨_, rfl, ?_, n1⟩
    rw [idx_miss hall]; rfl
theorem ContainsFuncPr_spec {Pb : Nat → Prop} {w : World} {v : Value} {l : List Pr} {p : Pr → Bool} {g : FuncId} {cap : Array Value} [hc : Callable Tryd.prog g] (h : RdS rPr 2 Pb w v l)
    (hf : ∀ y w', y ∈ l → New w w' → Calls Tryd.prog g ([Value.agg (pC y).toArray] ++ cap.toList).toArray w' (Ret fun r w'' => r = .bool (p y) ∧ New w' w'')) :
    Calls Tryd.prog 48 #[v, .func (.func g) #[] cap] w (Ret fun r w' => r = .bool (l.any p) ∧ New w w') := by
  refine calls_of_Wc Tryd.func48 rfl Tryd.ntmps48 rfl ?_
  (repeat' (first | refine Wl.moveE (by conv => { lhs; whnf }) ?_ | refine Wl.assignE (by conv => { lhs; whnf }) ?_ | refine Wl.nil ?_ | refine Qseq.normal ?_ | refine Wc.seq ?_ | refine Wc.region ?_))
  refine Wl.call (IndexFuncPr_spec h hf) rfl ?_
  rintro _ w1 ⟨rfl, n1⟩
  unfold idx
  cases hx : l.findIdx? p with
  | some i =>
    have : l.any p = true := by
      have := (List.findIdx?_eq_some_iff_getElem.1 hx)
      obtain ⟨hlt, hp, _⟩ := this
      exact List.any_eq_true.2 ⟨l[i], by simp, hp⟩
    (repeat' (first | refine Wl.assignE (by conv => { lhs; whnf }) ?_ | refine Wl.nil ?_ | refine Qseq.normal ?_ | refine Wc.ret ?_ | (refine Wl.geq rfl rfl (fun _ => ?_) (fun _ => ?_) <;> (first | (exfalso; contradiction) | skip))))
    refine Qfn.ret1 rfl rfl ⟨_, rfl, ?_, n1⟩
    rw [this]; rfl
  | none =>
    have : l.any p = false := by
      rw [List.any_eq_false]
      intro x hx'
      have := List.findIdx?_eq_none_iff.1 hx x hx'
      simp [this]
    (repeat' (first | refine Wl.assignE (by conv => { lhs; whnf }) ?_ | refine Wl.nil ?_ | refine Qseq.normal ?_ | refine Wc.ret ?_ | (refine Wl.geq rfl rfl (fun _ => ?_) (fun _ => ?_) <;> (first | (exfalso; contradiction) | skip))))
    refine Qfn.ret1 rfl rfl ⟨_, rfl, ?_, n1⟩
    rw [this]; rfl
theorem IndexStr_spec {Pb : Nat → Prop} {w : World} {v : Value} {l : List (List UInt8)} {s : List UInt8} (h : RdS (one vs) 1 Pb w v l) :
    Calls Tryd.prog 69 #[v, vs s] w (Ret fun r w' => r = vi (idx (fun x => decide (s = x)) l) ∧ New w w') := by
  obtain ⟨a, cp, rfl, hc1, hc2⟩ := h.form
  simp only [maxLen] at hc2
  refine calls_of_Wc Tryd.func69 rfl Tryd.ntmps69 rfl ?_
  (repeat' (first | refine Wl.moveE (by conv => { lhs; whnf }) ?_ | refine Wl.assignE (by conv => { lhs; whnf }) ?_ | refine Wl.nil ?_ | refine Wl.lenS rfl ?_ | refine Qseq.normal ?_ | refine Wc.seq ?_ | refine Wc.region ?_ | refine Wc.block ?_))
  refine Wc.loop (σ := Nat) (fun i => [(0, .slice a l.length cp), (1, vs s), (7, vi l.length), (8, vi i)]) (fun i w' => i ≤ l.length ∧ (∀ x ∈ l.take i, decide (s = x) = false) ∧ New w w') (fun i => l.length - i) 0 ⟨rfl, rfl, rfl, rfl, trivial⟩ ⟨Nat.zero_le _, by simp, Chg.refl _ _⟩ ?_
  rintro i G w1 ⟨hi, hall, n1⟩
  simp only [upds]
  (repeat' (first | refine Wl.moveE (by conv => { lhs; whnf }) ?_ | refine Wl.assignE (by conv => { lhs; whnf }) ?_ | refine Wl.nil ?_ | refine Qseq.normal ?_ | refine Wc.seq ?_ | refine Wc.region ?_ | refine Wc.block ?_ | refine Wc.skip ?_ | refine Wc.exit ?_ | refine Wc.ret ?_ | refine Qseq.exit ?_ | refine Qblk.hit ?_ | refine Qloop.exit ?_ | refine Wc.condT rfl ?_ | refine Wc.condF rfl ?_ | refine Wl.lss rfl rfl (fun _ => ?_) (fun _ => ?_)))
  · obtain ⟨y, hy⟩ := get_lt l (k := i) (by omega)
    refine Wl.idxAddrV (h.keep (stable_one _) n1.keep) rfl rfl (by omega) hy fun b o hc => ?_
    refine Wl.load1 rfl hc ?_
    (repeat' (first | refine Wl.moveE (by conv => { lhs; whnf }) ?_ | refine Wl.assignE (by conv => { lhs; whnf }) ?_ | refine Wl.nil ?_ | refine Qseq.normal ?_ | refine Wc.seq ?_ | refine Wc.region ?_ | refine Wc.skip ?_ | refine Wc.ret ?_ | refine Qseq.ret ?_ | refine Qblk.normal ?_ | refine Qblk.ret ?_ | refine Qloop.ret ?_ | refine Wc.condT rfl ?_ | refine Wc.condF rfl ?_ | refine Wl.add rfl rfl (by omega) (by omega) ?_ | refine Wl.seql rfl rfl (fun _ => ?_) (fun _ => ?_)))
    · refine Qfn.ret1 rfl rfl ⟨_, rfl, ?_, n1⟩
      rw [idx_hit hy hall (decide_eq_true (by assumption))]; rfl
    · exact Qloop.normal (i + 1) ⟨rfl, rfl, rfl, rfl, trivial⟩ ⟨by omega, take_all hy hall (decide_eq_false (by assumption)), n1⟩ (by omega)
  · have e : i = l.length := by omega
    subst e
    rw [List.take_length] at hall
    refine Qfn.ret1 rfl rfl ⟨_, rfl, ?_, n1⟩
    rw [idx_miss hall]; rfl
theorem idx_contains {s : List UInt8} {l : List (List UInt8)} : (0 ≤ idx (fun x => decide (s = x)) l ↔ l.contains s = true) := by
  unfold idx
  cases hx : l.findIdx? fun x => decide (s = x) with
  | some i =>
    obtain ⟨hlt, hp, _⟩ := List.findIdx?_eq_some_iff_getElem.1 hx
    have : s = l[i] := of_decide_eq_true hp
    simp only [Int.natCast_nonneg, true_iff]
    rw [this]; simp
  | none =>
    have h := List.findIdx?_eq_none_iff.1 hx
    constructor
    · intro h'; simp at h'
    · intro h'
      have := h s (List.contains_iff_mem.1 h')
      simp at this
theorem ContainsStr_spec {Pb : Nat → Prop} {w : World} {v : Value} {l : List (List UInt8)} {s : List UInt8} (h : RdS (one vs) 1 Pb w v l) :
    Calls Tryd.prog 44 #[v, vs s] w (Ret fun r w' => r = .bool (l.contains s) ∧ New w w') := by
  refine calls_of_Wc Tryd.func44 rfl Tryd.ntmps44 rfl ?_
  (repeat' (first | refine Wl.moveE (by conv => { lhs; whnf }) ?_ | refine Wl.assignE (by conv => { lhs; whnf }) ?_ | refine Wl.nil ?_ | refine Qseq.normal ?_ | refine Wc.seq ?_ | refine Wc.region ?_))
  refine Wl.call (IndexStr_spec h) rfl ?_
  rintro _ w1 ⟨rfl, n1⟩
  have hi := idx_contains (s := s) (l := l)
  generalize idx (fun x => decide (s = x)) l = q at hi ⊢
  (repeat' (first | refine Wl.assignE (by conv => { lhs; whnf }) ?_ | refine Wl.nil ?_ | refine Qseq.normal ?_ | refine Wc.ret ?_ | refine Wl.geq rfl rfl (fun _ => ?_) (fun _ => ?_)))
  · refine Qfn.ret1 rfl rfl ⟨_, rfl, ?_, n1⟩
    rw [hi.1 (by assumption)]; rfl
  · refine Qfn.ret1 rfl rfl ⟨_, rfl, ?_, n1⟩
    have : l.contains s = false := by
      rw [Bool.eq_false_iff]; intro e
      have := hi.2 e
      omega
    rw [this]; rfl

/-! The closures. -/
theorem named1_spec {w : World} {b : Nat} {name : List UInt8} {y : Pr} (hb : Bk w b 9 [vs name]) :
    Calls Tryd.prog 74 #[.agg (pC y).toArray, ptrV b] w (Ret fun r w' => r = .bool (decide (y.1 = name)) ∧ New w w') := by
  refine calls_of_Wc Tryd.func74 rfl Tryd.ntmps74 rfl ?_
  (repeat' (first | refine Wc.seq ?_ | refine Wc.region ?_))
  refine Wl.box rfl fun w1 b1 n1 s1 => ?_
  replace b1 : Bk w1 w.heap.size 39 (pC y) := b1
  (repeat' (first | refine Wl.assignE (by conv => { lhs; whnf }) ?_ | refine Wl.nil ?_ | refine Qseq.normal ?_ | refine Wc.seq ?_ | refine Wc.region ?_ | refine Wl.fieldAddr rfl rfl ?_))
  refine Wl.load1 rfl (b1.cell (o := 0) rfl) ?_
  refine Wl.load1 rfl ((hb.chg n1 id).cell (o := 0) rfl) ?_
  (repeat' (first | refine Wl.assignE (by conv => { lhs; whnf }) ?_ | refine Wl.nil ?_ | refine Qseq.normal ?_ | refine Wc.ret ?_ | refine Wl.seql rfl rfl (fun _ => ?_) (fun _ => ?_)))
  · refine Qfn.ret1 rfl rfl ⟨_, rfl, ?_, n1⟩
    rw [decide_eq_true (by assumption)]; rfl
  · refine Qfn.ret1 rfl rfl ⟨_, rfl, ?_, n1⟩
    rw [decide_eq_false (by assumption)]; rfl
theorem named_spec {w : World} {name : List UInt8} :
    Calls Tryd.prog 49 #[vs name] w (Ret fun r w' => ∃ b, r = .func (.func 74) #[] #[ptrV b] ∧ Bk w' b 9 [vs name] ∧ New w w') := by
  refine calls_of_Wc Tryd.func49 rfl Tryd.ntmps49 rfl ?_
  (repeat' (first | refine Wc.seq ?_ | refine Wc.region ?_))
  refine Wl.box rfl fun w1 b1 n1 s1 => ?_
  (repeat' (first | refine Wl.assignE (by conv => { lhs; whnf }) ?_ | refine Wl.nil ?_ | refine Qseq.normal ?_ | refine Wc.seq ?_ | refine Wc.region ?_))
  refine Wl.makeFunc (first := []) (cap := [.tmp 1]) rfl rfl ?_
  (repeat' (first | refine Wl.assignE (by conv => { lhs; whnf }) ?_ | refine Wl.nil ?_ | refine Qseq.normal ?_ | refine Wc.ret ?_))
  exact Qfn.ret1 rfl rfl ⟨_, rfl, _, rfl, b1, n1⟩
end Go.Proofs.YtjpebmgllfiloaaDoor
