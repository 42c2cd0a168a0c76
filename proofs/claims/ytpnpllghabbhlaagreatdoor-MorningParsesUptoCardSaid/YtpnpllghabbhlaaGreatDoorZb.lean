/-
  Texts of this claim, one behind the other: Shelf, Qptr, Mix, Nav, M1, M2, M3.
-/
import Derived.Test.YtpnpllghabbhlaaGreatDoorZa
import Derived.Shelf.Strings.Builder1
import Derived.Shelf.Small.Utf8
import Derived.Shelf.Small.Strs
import Derived.Shelf.Small.Wraps
import Derived.Shelf.Strings.BuilderF
import Derived.Shelf.Strings.BuilderK
import Derived.Shelf.Strconv.Itoa0
import Derived.Shelf.Strconv.Itoa1
import Derived.Shelf.LaysM
import Derived.Shelf.Strconv.Itoa2
import Derived.Shelf.Strconv.Itoa3
import Derived.Shelf.Strconv.Itoa4
import Derived.Shelf.Strconv.ParseIntEmpty
import Derived.Shelf.Strconv.Clone
import Derived.Shelf.Strconv.SyntaxError
import Derived.Shelf.LaysC
import Derived.Shelf.Strconv.ToError
import Derived.Shelf.Strconv.Lower
import Derived.Shelf.Strconv.ParseUint10
import Derived.Shelf.Strconv.ParseUint10Empty
import Derived.Shelf.Strconv.ParseUint10Any
import Derived.Shelf.Strconv.ParseInt10
import Derived.Shelf.Strconv.RangeError
import Derived.Shelf.Strconv.ToErrorRange
import Derived.Shelf.Strconv.ParseUintEmpty
import Derived.Shelf.Strconv.ParseUint10b64
import Derived.Shelf.Strconv.ParseUint10b32
import Derived.Shelf.Strconv.ParseUint10b16
import Derived.Shelf.Strconv.ParseUint10b8
import Derived.Shelf.Strconv.ParseUint10At
import Derived.Shelf.Strconv.ParseInt10At64
import Derived.Shelf.Strconv.ParseInt10At32
import Derived.Shelf.Strconv.ParseInt10At16
import Derived.Shelf.Strconv.ParseInt10At8
import Derived.Shelf.Strconv.ParseInt10All
import Derived.Shelf.Strconv.ParseIntPublic10
import Derived.Shelf.Strconv.ErrVarParseInt
import Derived.Ground.MpProg
import Derived.Shelf.Pu.ParseUintPublic10
import Derived.Shelf.Pu.ErrVarParseUint
import Derived.Shelf.Strings.Search1
import Derived.Shelf.Strings.Prefix
import Derived.Shelf.Unicode.Decode
import Derived.Shelf.Strings.Runes
import Derived.Shelf.Strings.AsciiSet
import Derived.Shelf.Unicode.DecodeSlow
import Derived.Shelf.Strings.BuilderCap
import Derived.Test.YtpnpllghabbhlaaGreatDoorProg
import Derived.Maps.Keyed
import Derived.Lib.DecodeN
namespace Go.Proofs
open Go.Shelf
def Tryz.lays169_ren : Go.Shelf.Ren := ⟨fun | 169 => 37 | n => n, fun | 70 => 60 | 9 => 9 | 0 => 0 | 72 => 62 | 37 => 57 | 127 => 78 | 3 => 3 | 5 => 5 | n => n, fun | n => n⟩
theorem Tryz.lays169 : Go.Proofs.Lays.n169 Tryz.prog Tryz.lays169_ren := {
  mixed := by kernel_rfl
  f169 := Tryz.func37.trans (congrArg some (by kernel_rfl))
  t0 := Tryz.underlying0
  a0 := Tryz.isAgg0
  z0 := Tryz.sizeOf0
  v0 := Tryz.zeroValue0
  t3 := Tryz.underlying3
  a3 := Tryz.isAgg3
  z3 := Tryz.sizeOf3
  v3 := Tryz.zeroValue3
  t9 := Tryz.underlying9
  a9 := Tryz.isAgg9
  z9 := Tryz.sizeOf9
  v9 := Tryz.zeroValue9
  t37 := Tryz.underlying57
  a37 := Tryz.isAgg57
  z37 := Tryz.sizeOf57
  v37 := Tryz.zeroValue57
  t70 := Tryz.underlying60
  a70 := Tryz.isAgg60
  z70 := Tryz.sizeOf60
  v70 := Tryz.zeroValue60
  t72 := Tryz.underlying62
  a72 := Tryz.isAgg62
  z72 := Tryz.sizeOf62
  v72 := Tryz.zeroValue62
  t127 := Tryz.underlying78
  a127 := Tryz.isAgg78
  z127 := Tryz.sizeOf78
  v127 := Tryz.zeroValue78 }
theorem Tryz.Builder_Extra_169 : Builder.Extra Tryz.prog Tryz.lays169_ren := {
  sizeBuilder := by kernel_rfl
  liesBuilder := by kernel_rfl
  t5 := Tryz.underlying5
  a5 := Tryz.isAgg5
  z5 := Tryz.sizeOf5
  v5 := Tryz.zeroValue5
  infoByte := by kernel_rfl
  cellsByte := by kernel_rfl
  sizeByte := by kernel_rfl
  neB5 := by decide }
open Go.RowKit in
theorem Tryz.Builder_String (B b : Nat) (l : List UInt8) (w : World) (h : Lib.IsBuilder 62 5 B b (Lib.byteCells l) w) (h0 : l ≠ []) :
    Calls Tryz.prog 37 #[.pointer (some ⟨b, 0, none⟩)] w fun e w' => e = .returned (.string ⟨l.toArray⟩) ∧ Below B w w' := Any.Builder_String Tryz.lays169 Tryz.Builder_Extra_169 B b l w h h0
open Go.RowKit in
theorem Tryz.Builder_String_empty (B b : Nat) (w : World) (h : Lib.IsBuilder 62 5 B b [] w) (hBw : B ≤ w.heap.size) :
    Calls Tryz.prog 37 #[.pointer (some ⟨b, 0, none⟩)] w fun e w' => e = .returned (.string ⟨#[]⟩) ∧ Below B w w' := Any.Builder_String_empty Tryz.lays169 Tryz.Builder_Extra_169 B b w h hBw
open Go.RowKit in
theorem Tryz.Builder_String_any (B b : Nat) (l : List UInt8) (w : World) (h : Lib.IsBuilder 62 5 B b (Lib.byteCells l) w) (hBw : B ≤ w.heap.size) :
    Calls Tryz.prog 37 #[.pointer (some ⟨b, 0, none⟩)] w fun e w' => e = .returned (.string ⟨l.toArray⟩) ∧ Below B w w' := Any.Builder_String_any Tryz.lays169 Tryz.Builder_Extra_169 B b l w h hBw
def Tryz.lays118_ren : Go.Shelf.Ren := ⟨fun | 118 => 84 | n => n, fun | 21 => 21 | 3 => 3 | 4 => 4 | n => n, fun | n => n⟩
theorem Tryz.lays118 : Go.Proofs.Lays.n118 Tryz.prog Tryz.lays118_ren := {
  mixed := by kernel_rfl
  f118 := Tryz.func84.trans (congrArg some (by kernel_rfl))
  t3 := Tryz.underlying3
  a3 := Tryz.isAgg3
  z3 := Tryz.sizeOf3
  v3 := Tryz.zeroValue3
  t4 := Tryz.underlying4
  a4 := Tryz.isAgg4
  z4 := Tryz.sizeOf4
  v4 := Tryz.zeroValue4
  t21 := Tryz.underlying21
  a21 := Tryz.isAgg21
  z21 := Tryz.sizeOf21
  v21 := Tryz.zeroValue21 }
theorem Tryz.utf8_RuneLen (r : Int) (w : World) :
    Calls Tryz.prog 84 #[.int .i32 r] w fun e w' => e = .returned (.int .i64 (Lib.runeLen r)) ∧ w' = w := Any.utf8_RuneLen Tryz.lays118 r w
def Tryz.lays119_ren : Go.Shelf.Ren := ⟨fun | 119 => 102 | n => n, fun | 21 => 21 | 4 => 4 | n => n, fun | n => n⟩
theorem Tryz.lays119 : Go.Proofs.Lays.n119 Tryz.prog Tryz.lays119_ren := {
  mixed := by kernel_rfl
  f119 := Tryz.func102.trans (congrArg some (by kernel_rfl))
  t4 := Tryz.underlying4
  a4 := Tryz.isAgg4
  z4 := Tryz.sizeOf4
  v4 := Tryz.zeroValue4
  t21 := Tryz.underlying21
  a21 := Tryz.isAgg21
  z21 := Tryz.sizeOf21
  v21 := Tryz.zeroValue21 }
theorem Tryz.utf8_ValidRune (r : Int) (w : World) :
    Calls Tryz.prog 102 #[.int .i32 r] w fun e w' => e = .returned (.bool (Lib.validRune r)) ∧ w' = w := Any.utf8_ValidRune Tryz.lays119 r w
def Tryz.lays120_ren : Go.Shelf.Ren := ⟨fun | 120 => 94 | n => n, fun | 5 => 5 | 4 => 4 | n => n, fun | n => n⟩
theorem Tryz.lays120 : Go.Proofs.Lays.n120 Tryz.prog Tryz.lays120_ren := {
  mixed := by kernel_rfl
  f120 := Tryz.func94.trans (congrArg some (by kernel_rfl))
  t4 := Tryz.underlying4
  a4 := Tryz.isAgg4
  z4 := Tryz.sizeOf4
  v4 := Tryz.zeroValue4
  t5 := Tryz.underlying5
  a5 := Tryz.isAgg5
  z5 := Tryz.sizeOf5
  v5 := Tryz.zeroValue5 }
theorem Tryz.utf8_RuneStart (b : Int) (w : World) (h0 : 0 ≤ b) (h1 : b < 256) :
    Calls Tryz.prog 94 #[.int .u8 b] w fun e w' => e = .returned (.bool (Lib.runeStart b)) ∧ w' = w := Any.utf8_RuneStart Tryz.lays120 b w h0 h1
def Tryz.lays137_ren : Go.Shelf.Ren := ⟨fun | 137 => 26 | 217 => 42 | 266 => 56 | n => n, fun | 9 => 9 | 5 => 5 | 3 => 3 | n => n, fun | n => n⟩
theorem Tryz.lays137 : Go.Proofs.Lays.n137 Tryz.prog Tryz.lays137_ren := {
  mixed := by kernel_rfl
  f137 := Tryz.func26.trans (congrArg some (by kernel_rfl))
  f217 := Tryz.func42.trans (congrArg some (by kernel_rfl))
  f266 := Tryz.func56.trans (congrArg some (by kernel_rfl))
  t3 := Tryz.underlying3
  a3 := Tryz.isAgg3
  z3 := Tryz.sizeOf3
  v3 := Tryz.zeroValue3
  t5 := Tryz.underlying5
  a5 := Tryz.isAgg5
  z5 := Tryz.sizeOf5
  v5 := Tryz.zeroValue5
  t9 := Tryz.underlying9
  a9 := Tryz.isAgg9
  z9 := Tryz.sizeOf9
  v9 := Tryz.zeroValue9 }
open Go.RowKit in
theorem Tryz.strings_IndexByte (s : ByteArray) (c : Int) (w : World) :
    Calls Tryz.prog 26 #[.string s, .int .u8 c] w fun e w' => e = .returned (.int .i64 (Lib.indexByte s.data.toList c.toNat.toUInt8)) ∧ w' = w := Any.strings_IndexByte Tryz.lays137 s c w
def Tryz.lays211_ren : Go.Shelf.Ren := ⟨fun | 211 => 44 | 207 => 58 | n => n, fun | 9 => 9 | 4 => 4 | 3 => 3 | n => n, fun | n => n⟩
theorem Tryz.lays211 : Go.Proofs.Lays.n211 Tryz.prog Tryz.lays211_ren := {
  mixed := by kernel_rfl
  f207 := Tryz.func58.trans (congrArg some (by kernel_rfl))
  f211 := Tryz.func44.trans (congrArg some (by kernel_rfl))
  t3 := Tryz.underlying3
  a3 := Tryz.isAgg3
  z3 := Tryz.sizeOf3
  v3 := Tryz.zeroValue3
  t4 := Tryz.underlying4
  a4 := Tryz.isAgg4
  z4 := Tryz.sizeOf4
  v4 := Tryz.zeroValue4
  t9 := Tryz.underlying9
  a9 := Tryz.isAgg9
  z9 := Tryz.sizeOf9
  v9 := Tryz.zeroValue9 }
open Go.RowKit in
theorem Tryz.stringslite_CutSuffix (s p : ByteArray) (w : World) (hs : s.size ≤ 9223372036854775807) :
    Calls Tryz.prog 44 #[.string s, .string p] w fun e w' => e = .returned (.tuple #[.string ⟨(Lib.trimSuffix s.data.toList p.data.toList).toArray⟩, .bool (Lib.hasSuffix s.data.toList p.data.toList)]) ∧ w' = w := Any.stringslite_CutSuffix Tryz.lays211 s p w hs
def Tryz.lays104_ren : Go.Shelf.Ren := ⟨fun | 104 => 29 | 211 => 44 | 207 => 58 | n => n, fun | 9 => 9 | 4 => 4 | 24 => 47 | 3 => 3 | n => n, fun | n => n⟩
theorem Tryz.lays104 : Go.Proofs.Lays.n104 Tryz.prog Tryz.lays104_ren := {
  mixed := by kernel_rfl
  f104 := Tryz.func29.trans (congrArg some (by kernel_rfl))
  f207 := Tryz.func58.trans (congrArg some (by kernel_rfl))
  f211 := Tryz.func44.trans (congrArg some (by kernel_rfl))
  t3 := Tryz.underlying3
  a3 := Tryz.isAgg3
  z3 := Tryz.sizeOf3
  v3 := Tryz.zeroValue3
  t4 := Tryz.underlying4
  a4 := Tryz.isAgg4
  z4 := Tryz.sizeOf4
  v4 := Tryz.zeroValue4
  t9 := Tryz.underlying9
  a9 := Tryz.isAgg9
  z9 := Tryz.sizeOf9
  v9 := Tryz.zeroValue9
  t24 := Tryz.underlying47
  a24 := Tryz.isAgg47
  z24 := Tryz.sizeOf47
  v24 := Tryz.zeroValue47 }
open Go.RowKit in
theorem Tryz.strings_CutSuffix (s p : ByteArray) (w : World) (hs : s.size ≤ 9223372036854775807) :
    Calls Tryz.prog 29 #[.string s, .string p] w fun e w' => e = .returned (.tuple #[.string ⟨(Lib.trimSuffix s.data.toList p.data.toList).toArray⟩, .bool (Lib.hasSuffix s.data.toList p.data.toList)]) ∧ w' = w := Any.strings_CutSuffix Tryz.lays104 s p w hs
open Go.RowKit in
theorem Tryz.Builder_String_f (B b : Nat) (l : List UInt8) (w : World) (h : Lib.IsBuilderF 62 5 B b (Lib.byteCells l) w) (h0 : l ≠ []) :
    Calls Tryz.prog 37 #[.pointer (some ⟨b, 0, none⟩)] w fun e w' => e = .returned (.string ⟨l.toArray⟩) ∧ (Lib.IsBuilderF 62 5 B b (Lib.byteCells l) w' ∧ Below B w w') := Any.Builder_String_f Tryz.lays169 Tryz.Builder_Extra_169 B b l w h h0
open Go.RowKit in
theorem Tryz.Builder_String_empty_f (B b : Nat) (w : World) (h : Lib.IsBuilderF 62 5 B b [] w) (hBw : B ≤ w.heap.size) :
    Calls Tryz.prog 37 #[.pointer (some ⟨b, 0, none⟩)] w fun e w' => e = .returned (.string ⟨#[]⟩) ∧ (Lib.IsBuilderF 62 5 B b [] w' ∧ Below B w w') := Any.Builder_String_empty_f Tryz.lays169 Tryz.Builder_Extra_169 B b w h hBw
open Go.RowKit in
theorem Tryz.Builder_String_any_f (B b : Nat) (l : List UInt8) (w : World) (h : Lib.IsBuilderF 62 5 B b (Lib.byteCells l) w) (hBw : B ≤ w.heap.size) :
    Calls Tryz.prog 37 #[.pointer (some ⟨b, 0, none⟩)] w fun e w' => e = .returned (.string ⟨l.toArray⟩) ∧ (Lib.IsBuilderF 62 5 B b (Lib.byteCells l) w' ∧ Below B w w') := Any.Builder_String_any_f Tryz.lays169 Tryz.Builder_Extra_169 B b l w h hBw
open Go.RowKit in
theorem Tryz.Builder_String_k (B b : Nat) (l : List UInt8) (w : World) (h : Lib.IsBuilderF 62 5 B b (Lib.byteCells l) w) (h0 : l ≠ []) :
    Calls Tryz.prog 37 #[.pointer (some ⟨b, 0, none⟩)] w fun e w' => e = .returned (.string ⟨l.toArray⟩) ∧ (Lib.IsBuilderF 62 5 B b (Lib.byteCells l) w' ∧ Below B w w' ∧ Lib.OthersKept 5 (some b) w w') := Any.Builder_String_k Tryz.lays169 Tryz.Builder_Extra_169 B b l w h h0
open Go.RowKit in
theorem Tryz.Builder_String_empty_k (B b : Nat) (w : World) (h : Lib.IsBuilderF 62 5 B b [] w) (hBw : B ≤ w.heap.size) :
    Calls Tryz.prog 37 #[.pointer (some ⟨b, 0, none⟩)] w fun e w' => e = .returned (.string ⟨#[]⟩) ∧ (Lib.IsBuilderF 62 5 B b [] w' ∧ Below B w w' ∧ Lib.OthersKept 5 (some b) w w') := Any.Builder_String_empty_k Tryz.lays169 Tryz.Builder_Extra_169 B b w h hBw
open Go.RowKit in
theorem Tryz.Builder_String_any_k (B b : Nat) (l : List UInt8) (w : World) (h : Lib.IsBuilderF 62 5 B b (Lib.byteCells l) w) (hBw : B ≤ w.heap.size) :
    Calls Tryz.prog 37 #[.pointer (some ⟨b, 0, none⟩)] w fun e w' => e = .returned (.string ⟨l.toArray⟩) ∧ (Lib.IsBuilderF 62 5 B b (Lib.byteCells l) w' ∧ Below B w w' ∧ Lib.OthersKept 5 (some b) w w') := Any.Builder_String_any_k Tryz.lays169 Tryz.Builder_Extra_169 B b l w h hBw
def Tryz.lays129_ren : Go.Shelf.Ren := ⟨fun | 129 => 97 | n => n, fun | 53 => 72 | 3 => 3 | 4 => 4 | 46 => 101 | 5 => 5 | 9 => 9 | n => n, fun | n => n⟩
theorem Tryz.lays129 : Go.Proofs.Lays.n129 Tryz.prog Tryz.lays129_ren := {
  mixed := by kernel_rfl
  f129 := Tryz.func97.trans (congrArg some (by kernel_rfl))
  t3 := Tryz.underlying3
  a3 := Tryz.isAgg3
  z3 := Tryz.sizeOf3
  v3 := Tryz.zeroValue3
  t4 := Tryz.underlying4
  a4 := Tryz.isAgg4
  z4 := Tryz.sizeOf4
  v4 := Tryz.zeroValue4
  t5 := Tryz.underlying5
  a5 := Tryz.isAgg5
  z5 := Tryz.sizeOf5
  v5 := Tryz.zeroValue5
  t9 := Tryz.underlying9
  a9 := Tryz.isAgg9
  z9 := Tryz.sizeOf9
  v9 := Tryz.zeroValue9
  t46 := Tryz.underlying101
  a46 := Tryz.isAgg101
  z46 := Tryz.sizeOf101
  v46 := Tryz.zeroValue101
  t53 := Tryz.underlying72
  a53 := Tryz.isAgg72
  z53 := Tryz.sizeOf72
  v53 := Tryz.zeroValue72 }
theorem Tryz.bits_Len64 (x : Int) (w : World) (h0 : 0 ≤ x) (h1 : x ≤ 18446744073709551615) :
    Calls Tryz.prog 97 #[.int .u64 x] w fun e w' => e = .returned (.int .i64 (Lib.bitLen x.toNat)) ∧ w' = w := Any.bits_Len64 Tryz.lays129 x w h0 h1
def Tryz.lays317_ren : Go.Shelf.Ren := ⟨fun | 317 => 96 | n => n, fun | 3 => 3 | 46 => 101 | n => n, fun | n => n⟩
theorem Tryz.lays317 : Go.Proofs.Lays.n317 Tryz.prog Tryz.lays317_ren := {
  mixed := by kernel_rfl
  f317 := Tryz.func96.trans (congrArg some (by kernel_rfl))
  t3 := Tryz.underlying3
  a3 := Tryz.isAgg3
  z3 := Tryz.sizeOf3
  v3 := Tryz.zeroValue3
  t46 := Tryz.underlying101
  a46 := Tryz.isAgg101
  z46 := Tryz.sizeOf101
  v46 := Tryz.zeroValue101 }
open Go.Lib in
theorem Tryz.internal_strconv_log10Pow2 (x : Nat) (h : x ≤ 64) (w : World) :
    Calls Tryz.prog 96 #[.int .i64 x] w fun e w' => e = .returned (.int .i64 (Lib.l10 x)) ∧ w' = w := Any.internal_strconv_log10Pow2 Tryz.lays317 x h w
def Tryz.lays318_ren : Go.Shelf.Ren := ⟨fun | 318 => 98 | n => n, fun | 3 => 3 | 4 => 4 | n => n, fun | n => n⟩
theorem Tryz.lays318 : Go.Proofs.Lays.n318 Tryz.prog Tryz.lays318_ren := {
  mixed := by kernel_rfl
  f318 := Tryz.func98.trans (congrArg some (by kernel_rfl))
  t3 := Tryz.underlying3
  a3 := Tryz.isAgg3
  z3 := Tryz.sizeOf3
  v3 := Tryz.zeroValue3
  t4 := Tryz.underlying4
  a4 := Tryz.isAgg4
  z4 := Tryz.sizeOf4
  v4 := Tryz.zeroValue4 }
open Go.Lib in
theorem Tryz.internal_strconv_bool2_int (b : Bool) (w : World) :
    Calls Tryz.prog 98 #[.bool b] w fun e w' => e = .returned (.int .i64 (if b then 1 else 0)) ∧ w' = w := Any.internal_strconv_bool2_int Tryz.lays318 b w
def Tryz.lays283_ren : Go.Shelf.Ren := ⟨fun | 283 => 85 | n => n, fun | 3 => 3 | 9 => 9 | 4 => 4 | n => n, fun | n => n⟩
theorem Tryz.lays283 : Go.Proofs.Lays.n283 Tryz.prog Tryz.lays283_ren := {
  mixed := by kernel_rfl
  f283 := Tryz.func85.trans (congrArg some (by kernel_rfl))
  t3 := Tryz.underlying3
  a3 := Tryz.isAgg3
  z3 := Tryz.sizeOf3
  v3 := Tryz.zeroValue3
  t4 := Tryz.underlying4
  a4 := Tryz.isAgg4
  z4 := Tryz.sizeOf4
  v4 := Tryz.zeroValue4
  t9 := Tryz.underlying9
  a9 := Tryz.isAgg9
  z9 := Tryz.sizeOf9
  v9 := Tryz.zeroValue9 }
open Go.Lib in
theorem Tryz.internal_strconv_small (i : Nat) (h : i < 100) (w : World) :
    Calls Tryz.prog 85 #[.int .i64 i] w fun e w' => e = .returned (.string ⟨(Lib.decDigits i).toArray⟩) ∧ w' = w := Any.internal_strconv_small Tryz.lays283 i h w
def Tryz.laysM284_ren : Go.Shelf.Ren := ⟨fun | 284 => 86 | 129 => 97 | 317 => 96 | 318 => 98 | n => n, fun | 53 => 72 | 3 => 3 | 212 => 123 | 0 => 0 | 4 => 4 | 46 => 101 | 5 => 5 | 9 => 9 | n => n, fun | 17 => 3 | n => n⟩
theorem Tryz.laysM284 : Go.Proofs.LaysM.n284 Tryz.prog Tryz.laysM284_ren := {
  mixed := by kernel_rfl
  f129 := Tryz.func97.trans (congrArg some (by kernel_rfl))
  f284 := Tryz.func86.trans (congrArg some (by kernel_rfl))
  f317 := Tryz.func96.trans (congrArg some (by kernel_rfl))
  f318 := Tryz.func98.trans (congrArg some (by kernel_rfl))
  t0 := Tryz.underlying0
  a0 := Tryz.isAgg0
  z0 := Tryz.sizeOf0
  v0 := Tryz.zeroValue0
  t3 := Tryz.underlying3
  a3 := Tryz.isAgg3
  z3 := Tryz.sizeOf3
  v3 := Tryz.zeroValue3
  t4 := Tryz.underlying4
  a4 := Tryz.isAgg4
  z4 := Tryz.sizeOf4
  v4 := Tryz.zeroValue4
  t5 := Tryz.underlying5
  a5 := Tryz.isAgg5
  z5 := Tryz.sizeOf5
  v5 := Tryz.zeroValue5
  t9 := Tryz.underlying9
  a9 := Tryz.isAgg9
  z9 := Tryz.sizeOf9
  v9 := Tryz.zeroValue9
  t46 := Tryz.underlying101
  a46 := Tryz.isAgg101
  z46 := Tryz.sizeOf101
  v46 := Tryz.zeroValue101
  t53 := Tryz.underlying72
  a53 := Tryz.isAgg72
  z53 := Tryz.sizeOf72
  v53 := Tryz.zeroValue72
  t212 := Tryz.underlying123
  a212 := Tryz.isAgg123
  z212 := Tryz.sizeOf123
  v212 := Tryz.zeroValue123
  g17 := by kernel_rfl
  i0 := by kernel_rfl
  i3 := by kernel_rfl
  i4 := by kernel_rfl
  i5 := by kernel_rfl
  i9 := by kernel_rfl
  i46 := by kernel_rfl
  i53 := by kernel_rfl
  i212 := by kernel_rfl
  m17 := by kernel_rfl }
open Go.Lib in
theorem Tryz.internal_strconv_numDigits (u : Nat) (h1 : 1 ≤ u) (h2 : u < 18446744073709551616) (w : World) (htab : Lib.TabIs Tryz.prog w "internal/strconv.uint64pow10" .u64 Lib.pow10Tab) :
    Calls Tryz.prog 86 #[.int .u64 u] w fun e w' => e = .returned (.int .i64 (Lib.nDigits u)) ∧ w' = w := Any.internal_strconv_numDigits Tryz.laysM284 u h1 h2 w htab
def Tryz.lays285_ren : Go.Shelf.Ren := ⟨fun | 285 => 87 | n => n, fun | 37 => 57 | 53 => 72 | 3 => 3 | 4 => 4 | 51 => 124 | 9 => 9 | 5 => 5 | 0 => 0 | n => n, fun | n => n⟩
theorem Tryz.lays285 : Go.Proofs.Lays.n285 Tryz.prog Tryz.lays285_ren := {
  mixed := by kernel_rfl
  f285 := Tryz.func87.trans (congrArg some (by kernel_rfl))
  t0 := Tryz.underlying0
  a0 := Tryz.isAgg0
  z0 := Tryz.sizeOf0
  v0 := Tryz.zeroValue0
  t3 := Tryz.underlying3
  a3 := Tryz.isAgg3
  z3 := Tryz.sizeOf3
  v3 := Tryz.zeroValue3
  t4 := Tryz.underlying4
  a4 := Tryz.isAgg4
  z4 := Tryz.sizeOf4
  v4 := Tryz.zeroValue4
  t5 := Tryz.underlying5
  a5 := Tryz.isAgg5
  z5 := Tryz.sizeOf5
  v5 := Tryz.zeroValue5
  t9 := Tryz.underlying9
  a9 := Tryz.isAgg9
  z9 := Tryz.sizeOf9
  v9 := Tryz.zeroValue9
  t37 := Tryz.underlying57
  a37 := Tryz.isAgg57
  z37 := Tryz.sizeOf57
  v37 := Tryz.zeroValue57
  t51 := Tryz.underlying124
  a51 := Tryz.isAgg124
  z51 := Tryz.sizeOf124
  v51 := Tryz.zeroValue124
  t53 := Tryz.underlying72
  a53 := Tryz.isAgg72
  z53 := Tryz.sizeOf72
  v53 := Tryz.zeroValue72 }
open Go.RowKit Go.Sort Go.Lib in
theorem Tryz.internal_strconv_formatBase10 (blk off cap : Nat) (u : Nat) (d : Array UInt8) (w : World) (hH : Holds (fun (b : UInt8) => Value.int .u8 (b.toNat : Int)) w blk off d) (hu : u < 10 ^ d.size) (hu64 : u < 18446744073709551616) (hsz : d.size < 4611686018427387904) :
    Calls Tryz.prog 87 #[.slice (some ⟨blk, off, none⟩) d.size cap, .int .u64 u] w fun e w' =>
      e = .returned (.tuple #[]) ∧ ∃ (n v' : Nat) (dk : Array UInt8), w' = (putRow (fun (b : UInt8) => Value.int .u8 (b.toNat : Int)) w blk off dk).drewN n ∧ FmtInv d.size u 0 v' dk := Any.internal_strconv_formatBase10 Tryz.lays285 blk off cap u d w hH hu hu64 hsz
def Tryz.laysM246_ren : Go.Shelf.Ren := ⟨fun | 246 => 71 | 283 => 85 | 284 => 86 | 285 => 87 | 286 => 88 | 129 => 97 | 317 => 96 | 318 => 98 | 319 => 99 | 320 => 100 | 337 => 105 | 338 => 106 | n => n, fun | 2 => 2 | 3 => 3 | 9 => 9 | 4 => 4 | 171 => 111 | 0 => 0 | 53 => 72 | 37 => 57 | 5 => 5 | 173 => 114 | 212 => 123 | 51 => 124 | 20 => 20 | 213 => 125 | 46 => 101 | 232 => 138 | 233 => 139 | n => n, fun | 17 => 3 | 18 => 6 | 19 => 7 | n => n⟩
theorem Tryz.laysM246 : Go.Proofs.LaysM.n246 Tryz.prog Tryz.laysM246_ren := {
  mixed := by kernel_rfl
  f129 := Tryz.func97.trans (congrArg some (by kernel_rfl))
  f246 := Tryz.func71.trans (congrArg some (by kernel_rfl))
  f283 := Tryz.func85.trans (congrArg some (by kernel_rfl))
  f284 := Tryz.func86.trans (congrArg some (by kernel_rfl))
  f285 := Tryz.func87.trans (congrArg some (by kernel_rfl))
  f286 := Tryz.func88.trans (congrArg some (by kernel_rfl))
  f317 := Tryz.func96.trans (congrArg some (by kernel_rfl))
  f318 := Tryz.func98.trans (congrArg some (by kernel_rfl))
  f319 := Tryz.func99.trans (congrArg some (by kernel_rfl))
  f320 := Tryz.func100.trans (congrArg some (by kernel_rfl))
  f337 := Tryz.func105.trans (congrArg some (by kernel_rfl))
  f338 := Tryz.func106.trans (congrArg some (by kernel_rfl))
  t0 := Tryz.underlying0
  a0 := Tryz.isAgg0
  z0 := Tryz.sizeOf0
  v0 := Tryz.zeroValue0
  t2 := Tryz.underlying2
  a2 := Tryz.isAgg2
  z2 := Tryz.sizeOf2
  v2 := Tryz.zeroValue2
  t3 := Tryz.underlying3
  a3 := Tryz.isAgg3
  z3 := Tryz.sizeOf3
  v3 := Tryz.zeroValue3
  t4 := Tryz.underlying4
  a4 := Tryz.isAgg4
  z4 := Tryz.sizeOf4
  v4 := Tryz.zeroValue4
  t5 := Tryz.underlying5
  a5 := Tryz.isAgg5
  z5 := Tryz.sizeOf5
  v5 := Tryz.zeroValue5
  t9 := Tryz.underlying9
  a9 := Tryz.isAgg9
  z9 := Tryz.sizeOf9
  v9 := Tryz.zeroValue9
  t20 := Tryz.underlying20
  a20 := Tryz.isAgg20
  z20 := Tryz.sizeOf20
  v20 := Tryz.zeroValue20
  t37 := Tryz.underlying57
  a37 := Tryz.isAgg57
  z37 := Tryz.sizeOf57
  v37 := Tryz.zeroValue57
  t46 := Tryz.underlying101
  a46 := Tryz.isAgg101
  z46 := Tryz.sizeOf101
  v46 := Tryz.zeroValue101
  t51 := Tryz.underlying124
  a51 := Tryz.isAgg124
  z51 := Tryz.sizeOf124
  v51 := Tryz.zeroValue124
  t53 := Tryz.underlying72
  a53 := Tryz.isAgg72
  z53 := Tryz.sizeOf72
  v53 := Tryz.zeroValue72
  t171 := Tryz.underlying111
  a171 := Tryz.isAgg111
  z171 := Tryz.sizeOf111
  v171 := Tryz.zeroValue111
  t173 := Tryz.underlying114
  a173 := Tryz.isAgg114
  z173 := Tryz.sizeOf114
  v173 := Tryz.zeroValue114
  t212 := Tryz.underlying123
  a212 := Tryz.isAgg123
  z212 := Tryz.sizeOf123
  v212 := Tryz.zeroValue123
  t213 := Tryz.underlying125
  a213 := Tryz.isAgg125
  z213 := Tryz.sizeOf125
  t232 := Tryz.underlying138
  a232 := Tryz.isAgg138
  z232 := Tryz.sizeOf138
  v232 := Tryz.zeroValue138
  t233 := Tryz.underlying139
  a233 := Tryz.isAgg139
  z233 := Tryz.sizeOf139
  v233 := Tryz.zeroValue139
  g17 := by kernel_rfl
  g18 := by kernel_rfl
  g19 := by kernel_rfl
  i0 := by kernel_rfl
  i2 := by kernel_rfl
  i3 := by kernel_rfl
  i4 := by kernel_rfl
  i5 := by kernel_rfl
  i9 := by kernel_rfl
  i20 := by kernel_rfl
  i37 := by kernel_rfl
  i46 := by kernel_rfl
  i51 := by kernel_rfl
  i53 := by kernel_rfl
  i171 := by kernel_rfl
  i173 := by kernel_rfl
  i212 := by kernel_rfl
  i232 := by kernel_rfl
  i233 := by kernel_rfl
  m17 := by kernel_rfl
  m18 := by kernel_rfl
  m19 := by kernel_rfl }
open Go.RowKit Go.Sort Go.Lib in
theorem Tryz.internal_strconv_FormatInt_10 (n : Int) (h0 : -9223372036854775808 ≤ n) (h1 : n ≤ 9223372036854775807) (w : World) (htab : Lib.TabIs Tryz.prog w "internal/strconv.uint64pow10" .u64 Lib.pow10Tab) :
    Calls Tryz.prog 71 #[.int .i64 n, .int .i64 10] w fun e w' => e = .returned (.string ⟨(Lib.itoa n).toArray⟩) ∧ ∃ k os, w' = grow (w.drewN k) os := Any.internal_strconv_FormatInt_10 Tryz.laysM246 n h0 h1 w htab
def Tryz.lays246_ren : Go.Shelf.Ren := ⟨fun | 246 => 71 | 283 => 85 | 284 => 86 | 285 => 87 | 286 => 88 | 129 => 97 | 317 => 96 | 318 => 98 | 319 => 99 | 320 => 100 | 337 => 105 | 338 => 106 | n => n, fun | 2 => 2 | 3 => 3 | 9 => 9 | 4 => 4 | 171 => 111 | 0 => 0 | 53 => 72 | 37 => 57 | 5 => 5 | 173 => 114 | 212 => 123 | 51 => 124 | 20 => 20 | 213 => 125 | 46 => 101 | 232 => 138 | 233 => 139 | n => n, fun | 17 => 3 | 18 => 6 | 19 => 7 | n => n⟩
theorem Tryz.lays246 : Go.Proofs.Lays.n246 Tryz.prog Tryz.lays246_ren := {
  mixed := by kernel_rfl
  f129 := Tryz.func97.trans (congrArg some (by kernel_rfl))
  f246 := Tryz.func71.trans (congrArg some (by kernel_rfl))
  f283 := Tryz.func85.trans (congrArg some (by kernel_rfl))
  f284 := Tryz.func86.trans (congrArg some (by kernel_rfl))
  f285 := Tryz.func87.trans (congrArg some (by kernel_rfl))
  f286 := Tryz.func88.trans (congrArg some (by kernel_rfl))
  f317 := Tryz.func96.trans (congrArg some (by kernel_rfl))
  f318 := Tryz.func98.trans (congrArg some (by kernel_rfl))
  f319 := Tryz.func99.trans (congrArg some (by kernel_rfl))
  f320 := Tryz.func100.trans (congrArg some (by kernel_rfl))
  f337 := Tryz.func105.trans (congrArg some (by kernel_rfl))
  f338 := Tryz.func106.trans (congrArg some (by kernel_rfl))
  t0 := Tryz.underlying0
  a0 := Tryz.isAgg0
  z0 := Tryz.sizeOf0
  v0 := Tryz.zeroValue0
  t2 := Tryz.underlying2
  a2 := Tryz.isAgg2
  z2 := Tryz.sizeOf2
  v2 := Tryz.zeroValue2
  t3 := Tryz.underlying3
  a3 := Tryz.isAgg3
  z3 := Tryz.sizeOf3
  v3 := Tryz.zeroValue3
  t4 := Tryz.underlying4
  a4 := Tryz.isAgg4
  z4 := Tryz.sizeOf4
  v4 := Tryz.zeroValue4
  t5 := Tryz.underlying5
  a5 := Tryz.isAgg5
  z5 := Tryz.sizeOf5
  v5 := Tryz.zeroValue5
  t9 := Tryz.underlying9
  a9 := Tryz.isAgg9
  z9 := Tryz.sizeOf9
  v9 := Tryz.zeroValue9
  t20 := Tryz.underlying20
  a20 := Tryz.isAgg20
  z20 := Tryz.sizeOf20
  v20 := Tryz.zeroValue20
  t37 := Tryz.underlying57
  a37 := Tryz.isAgg57
  z37 := Tryz.sizeOf57
  v37 := Tryz.zeroValue57
  t46 := Tryz.underlying101
  a46 := Tryz.isAgg101
  z46 := Tryz.sizeOf101
  v46 := Tryz.zeroValue101
  t51 := Tryz.underlying124
  a51 := Tryz.isAgg124
  z51 := Tryz.sizeOf124
  v51 := Tryz.zeroValue124
  t53 := Tryz.underlying72
  a53 := Tryz.isAgg72
  z53 := Tryz.sizeOf72
  v53 := Tryz.zeroValue72
  t171 := Tryz.underlying111
  a171 := Tryz.isAgg111
  z171 := Tryz.sizeOf111
  v171 := Tryz.zeroValue111
  t173 := Tryz.underlying114
  a173 := Tryz.isAgg114
  z173 := Tryz.sizeOf114
  v173 := Tryz.zeroValue114
  t212 := Tryz.underlying123
  a212 := Tryz.isAgg123
  z212 := Tryz.sizeOf123
  v212 := Tryz.zeroValue123
  t213 := Tryz.underlying125
  a213 := Tryz.isAgg125
  z213 := Tryz.sizeOf125
  t232 := Tryz.underlying138
  a232 := Tryz.isAgg138
  z232 := Tryz.sizeOf138
  v232 := Tryz.zeroValue138
  t233 := Tryz.underlying139
  a233 := Tryz.isAgg139
  z233 := Tryz.sizeOf139
  v233 := Tryz.zeroValue139
  g17 := by kernel_rfl
  g18 := by kernel_rfl
  g19 := by kernel_rfl }
open Go.RowKit Go.Sort Go.Lib in
theorem Tryz.internal_strconv_FormatInt_10_small (i : Nat) (hi : i < 100) (w : World) :
    Calls Tryz.prog 71 #[.int .i64 i, .int .i64 10] w fun e w' => e = .returned (.string ⟨(Lib.decDigits i).toArray⟩) ∧ w' = w := Any.internal_strconv_FormatInt_10_small Tryz.lays246 i hi w
def Tryz.laysM243_ren : Go.Shelf.Ren := ⟨fun | 243 => 101 | 246 => 71 | 283 => 85 | 284 => 86 | 285 => 87 | 286 => 88 | 129 => 97 | 317 => 96 | 318 => 98 | 319 => 99 | 320 => 100 | 337 => 105 | 338 => 106 | n => n, fun | 3 => 3 | 9 => 9 | 2 => 2 | 4 => 4 | 171 => 111 | 0 => 0 | 53 => 72 | 37 => 57 | 5 => 5 | 173 => 114 | 212 => 123 | 51 => 124 | 20 => 20 | 213 => 125 | 46 => 101 | 232 => 138 | 233 => 139 | n => n, fun | 17 => 3 | 18 => 6 | 19 => 7 | n => n⟩
theorem Tryz.laysM243 : Go.Proofs.LaysM.n243 Tryz.prog Tryz.laysM243_ren := {
  mixed := by kernel_rfl
  f129 := Tryz.func97.trans (congrArg some (by kernel_rfl))
  f243 := Tryz.func101.trans (congrArg some (by kernel_rfl))
  f246 := Tryz.func71.trans (congrArg some (by kernel_rfl))
  f283 := Tryz.func85.trans (congrArg some (by kernel_rfl))
  f284 := Tryz.func86.trans (congrArg some (by kernel_rfl))
  f285 := Tryz.func87.trans (congrArg some (by kernel_rfl))
  f286 := Tryz.func88.trans (congrArg some (by kernel_rfl))
  f317 := Tryz.func96.trans (congrArg some (by kernel_rfl))
  f318 := Tryz.func98.trans (congrArg some (by kernel_rfl))
  f319 := Tryz.func99.trans (congrArg some (by kernel_rfl))
  f320 := Tryz.func100.trans (congrArg some (by kernel_rfl))
  f337 := Tryz.func105.trans (congrArg some (by kernel_rfl))
  f338 := Tryz.func106.trans (congrArg some (by kernel_rfl))
  t0 := Tryz.underlying0
  a0 := Tryz.isAgg0
  z0 := Tryz.sizeOf0
  v0 := Tryz.zeroValue0
  t2 := Tryz.underlying2
  a2 := Tryz.isAgg2
  z2 := Tryz.sizeOf2
  v2 := Tryz.zeroValue2
  t3 := Tryz.underlying3
  a3 := Tryz.isAgg3
  z3 := Tryz.sizeOf3
  v3 := Tryz.zeroValue3
  t4 := Tryz.underlying4
  a4 := Tryz.isAgg4
  z4 := Tryz.sizeOf4
  v4 := Tryz.zeroValue4
  t5 := Tryz.underlying5
  a5 := Tryz.isAgg5
  z5 := Tryz.sizeOf5
  v5 := Tryz.zeroValue5
  t9 := Tryz.underlying9
  a9 := Tryz.isAgg9
  z9 := Tryz.sizeOf9
  v9 := Tryz.zeroValue9
  t20 := Tryz.underlying20
  a20 := Tryz.isAgg20
  z20 := Tryz.sizeOf20
  v20 := Tryz.zeroValue20
  t37 := Tryz.underlying57
  a37 := Tryz.isAgg57
  z37 := Tryz.sizeOf57
  v37 := Tryz.zeroValue57
  t46 := Tryz.underlying101
  a46 := Tryz.isAgg101
  z46 := Tryz.sizeOf101
  v46 := Tryz.zeroValue101
  t51 := Tryz.underlying124
  a51 := Tryz.isAgg124
  z51 := Tryz.sizeOf124
  v51 := Tryz.zeroValue124
  t53 := Tryz.underlying72
  a53 := Tryz.isAgg72
  z53 := Tryz.sizeOf72
  v53 := Tryz.zeroValue72
  t171 := Tryz.underlying111
  a171 := Tryz.isAgg111
  z171 := Tryz.sizeOf111
  v171 := Tryz.zeroValue111
  t173 := Tryz.underlying114
  a173 := Tryz.isAgg114
  z173 := Tryz.sizeOf114
  v173 := Tryz.zeroValue114
  t212 := Tryz.underlying123
  a212 := Tryz.isAgg123
  z212 := Tryz.sizeOf123
  v212 := Tryz.zeroValue123
  t213 := Tryz.underlying125
  a213 := Tryz.isAgg125
  z213 := Tryz.sizeOf125
  t232 := Tryz.underlying138
  a232 := Tryz.isAgg138
  z232 := Tryz.sizeOf138
  v232 := Tryz.zeroValue138
  t233 := Tryz.underlying139
  a233 := Tryz.isAgg139
  z233 := Tryz.sizeOf139
  v233 := Tryz.zeroValue139
  g17 := by kernel_rfl
  g18 := by kernel_rfl
  g19 := by kernel_rfl
  i0 := by kernel_rfl
  i2 := by kernel_rfl
  i3 := by kernel_rfl
  i4 := by kernel_rfl
  i5 := by kernel_rfl
  i9 := by kernel_rfl
  i20 := by kernel_rfl
  i37 := by kernel_rfl
  i46 := by kernel_rfl
  i51 := by kernel_rfl
  i53 := by kernel_rfl
  i171 := by kernel_rfl
  i173 := by kernel_rfl
  i212 := by kernel_rfl
  i232 := by kernel_rfl
  i233 := by kernel_rfl
  m17 := by kernel_rfl
  m18 := by kernel_rfl
  m19 := by kernel_rfl }
open Go.RowKit Go.Sort Go.Lib in
theorem Tryz.internal_strconv_Itoa (n : Int) (h0 : -9223372036854775808 ≤ n) (h1 : n ≤ 9223372036854775807) (w : World) (htab : Lib.TabIs Tryz.prog w "internal/strconv.uint64pow10" .u64 Lib.pow10Tab) :
    Calls Tryz.prog 101 #[.int .i64 n] w fun e w' => e = .returned (.string ⟨(Lib.itoa n).toArray⟩) ∧ ∃ k os, w' = grow (w.drewN k) os := Any.internal_strconv_Itoa Tryz.laysM243 n h0 h1 w htab
def Tryz.lays243_ren : Go.Shelf.Ren := ⟨fun | 243 => 101 | 246 => 71 | 283 => 85 | 284 => 86 | 285 => 87 | 286 => 88 | 129 => 97 | 317 => 96 | 318 => 98 | 319 => 99 | 320 => 100 | 337 => 105 | 338 => 106 | n => n, fun | 3 => 3 | 9 => 9 | 2 => 2 | 4 => 4 | 171 => 111 | 0 => 0 | 53 => 72 | 37 => 57 | 5 => 5 | 173 => 114 | 212 => 123 | 51 => 124 | 20 => 20 | 213 => 125 | 46 => 101 | 232 => 138 | 233 => 139 | n => n, fun | 17 => 3 | 18 => 6 | 19 => 7 | n => n⟩
theorem Tryz.lays243 : Go.Proofs.Lays.n243 Tryz.prog Tryz.lays243_ren := {
  mixed := by kernel_rfl
  f129 := Tryz.func97.trans (congrArg some (by kernel_rfl))
  f243 := Tryz.func101.trans (congrArg some (by kernel_rfl))
  f246 := Tryz.func71.trans (congrArg some (by kernel_rfl))
  f283 := Tryz.func85.trans (congrArg some (by kernel_rfl))
  f284 := Tryz.func86.trans (congrArg some (by kernel_rfl))
  f285 := Tryz.func87.trans (congrArg some (by kernel_rfl))
  f286 := Tryz.func88.trans (congrArg some (by kernel_rfl))
  f317 := Tryz.func96.trans (congrArg some (by kernel_rfl))
  f318 := Tryz.func98.trans (congrArg some (by kernel_rfl))
  f319 := Tryz.func99.trans (congrArg some (by kernel_rfl))
  f320 := Tryz.func100.trans (congrArg some (by kernel_rfl))
  f337 := Tryz.func105.trans (congrArg some (by kernel_rfl))
  f338 := Tryz.func106.trans (congrArg some (by kernel_rfl))
  t0 := Tryz.underlying0
  a0 := Tryz.isAgg0
  z0 := Tryz.sizeOf0
  v0 := Tryz.zeroValue0
  t2 := Tryz.underlying2
  a2 := Tryz.isAgg2
  z2 := Tryz.sizeOf2
  v2 := Tryz.zeroValue2
  t3 := Tryz.underlying3
  a3 := Tryz.isAgg3
  z3 := Tryz.sizeOf3
  v3 := Tryz.zeroValue3
  t4 := Tryz.underlying4
  a4 := Tryz.isAgg4
  z4 := Tryz.sizeOf4
  v4 := Tryz.zeroValue4
  t5 := Tryz.underlying5
  a5 := Tryz.isAgg5
  z5 := Tryz.sizeOf5
  v5 := Tryz.zeroValue5
  t9 := Tryz.underlying9
  a9 := Tryz.isAgg9
  z9 := Tryz.sizeOf9
  v9 := Tryz.zeroValue9
  t20 := Tryz.underlying20
  a20 := Tryz.isAgg20
  z20 := Tryz.sizeOf20
  v20 := Tryz.zeroValue20
  t37 := Tryz.underlying57
  a37 := Tryz.isAgg57
  z37 := Tryz.sizeOf57
  v37 := Tryz.zeroValue57
  t46 := Tryz.underlying101
  a46 := Tryz.isAgg101
  z46 := Tryz.sizeOf101
  v46 := Tryz.zeroValue101
  t51 := Tryz.underlying124
  a51 := Tryz.isAgg124
  z51 := Tryz.sizeOf124
  v51 := Tryz.zeroValue124
  t53 := Tryz.underlying72
  a53 := Tryz.isAgg72
  z53 := Tryz.sizeOf72
  v53 := Tryz.zeroValue72
  t171 := Tryz.underlying111
  a171 := Tryz.isAgg111
  z171 := Tryz.sizeOf111
  v171 := Tryz.zeroValue111
  t173 := Tryz.underlying114
  a173 := Tryz.isAgg114
  z173 := Tryz.sizeOf114
  v173 := Tryz.zeroValue114
  t212 := Tryz.underlying123
  a212 := Tryz.isAgg123
  z212 := Tryz.sizeOf123
  v212 := Tryz.zeroValue123
  t213 := Tryz.underlying125
  a213 := Tryz.isAgg125
  z213 := Tryz.sizeOf125
  t232 := Tryz.underlying138
  a232 := Tryz.isAgg138
  z232 := Tryz.sizeOf138
  v232 := Tryz.zeroValue138
  t233 := Tryz.underlying139
  a233 := Tryz.isAgg139
  z233 := Tryz.sizeOf139
  v233 := Tryz.zeroValue139
  g17 := by kernel_rfl
  g18 := by kernel_rfl
  g19 := by kernel_rfl }
open Go.RowKit Go.Sort Go.Lib in
theorem Tryz.internal_strconv_Itoa_small (i : Nat) (hi : i < 100) (w : World) :
    Calls Tryz.prog 101 #[.int .i64 i] w fun e w' => e = .returned (.string ⟨(Lib.decDigits i).toArray⟩) ∧ w' = w := Any.internal_strconv_Itoa_small Tryz.lays243 i hi w
def Tryz.laysM171_ren : Go.Shelf.Ren := ⟨fun | 171 => 91 | 243 => 101 | 246 => 71 | 283 => 85 | 284 => 86 | 285 => 87 | 286 => 88 | 129 => 97 | 317 => 96 | 318 => 98 | 319 => 99 | 320 => 100 | 337 => 105 | 338 => 106 | n => n, fun | 3 => 3 | 9 => 9 | 2 => 2 | 4 => 4 | 171 => 111 | 0 => 0 | 53 => 72 | 37 => 57 | 5 => 5 | 173 => 114 | 212 => 123 | 51 => 124 | 20 => 20 | 213 => 125 | 46 => 101 | 232 => 138 | 233 => 139 | n => n, fun | 17 => 3 | 18 => 6 | 19 => 7 | n => n⟩
theorem Tryz.laysM171 : Go.Proofs.LaysM.n171 Tryz.prog Tryz.laysM171_ren := {
  mixed := by kernel_rfl
  f129 := Tryz.func97.trans (congrArg some (by kernel_rfl))
  f171 := Tryz.func91.trans (congrArg some (by kernel_rfl))
  f243 := Tryz.func101.trans (congrArg some (by kernel_rfl))
  f246 := Tryz.func71.trans (congrArg some (by kernel_rfl))
  f283 := Tryz.func85.trans (congrArg some (by kernel_rfl))
  f284 := Tryz.func86.trans (congrArg some (by kernel_rfl))
  f285 := Tryz.func87.trans (congrArg some (by kernel_rfl))
  f286 := Tryz.func88.trans (congrArg some (by kernel_rfl))
  f317 := Tryz.func96.trans (congrArg some (by kernel_rfl))
  f318 := Tryz.func98.trans (congrArg some (by kernel_rfl))
  f319 := Tryz.func99.trans (congrArg some (by kernel_rfl))
  f320 := Tryz.func100.trans (congrArg some (by kernel_rfl))
  f337 := Tryz.func105.trans (congrArg some (by kernel_rfl))
  f338 := Tryz.func106.trans (congrArg some (by kernel_rfl))
  t0 := Tryz.underlying0
  a0 := Tryz.isAgg0
  z0 := Tryz.sizeOf0
  v0 := Tryz.zeroValue0
  t2 := Tryz.underlying2
  a2 := Tryz.isAgg2
  z2 := Tryz.sizeOf2
  v2 := Tryz.zeroValue2
  t3 := Tryz.underlying3
  a3 := Tryz.isAgg3
  z3 := Tryz.sizeOf3
  v3 := Tryz.zeroValue3
  t4 := Tryz.underlying4
  a4 := Tryz.isAgg4
  z4 := Tryz.sizeOf4
  v4 := Tryz.zeroValue4
  t5 := Tryz.underlying5
  a5 := Tryz.isAgg5
  z5 := Tryz.sizeOf5
  v5 := Tryz.zeroValue5
  t9 := Tryz.underlying9
  a9 := Tryz.isAgg9
  z9 := Tryz.sizeOf9
  v9 := Tryz.zeroValue9
  t20 := Tryz.underlying20
  a20 := Tryz.isAgg20
  z20 := Tryz.sizeOf20
  v20 := Tryz.zeroValue20
  t37 := Tryz.underlying57
  a37 := Tryz.isAgg57
  z37 := Tryz.sizeOf57
  v37 := Tryz.zeroValue57
  t46 := Tryz.underlying101
  a46 := Tryz.isAgg101
  z46 := Tryz.sizeOf101
  v46 := Tryz.zeroValue101
  t51 := Tryz.underlying124
  a51 := Tryz.isAgg124
  z51 := Tryz.sizeOf124
  v51 := Tryz.zeroValue124
  t53 := Tryz.underlying72
  a53 := Tryz.isAgg72
  z53 := Tryz.sizeOf72
  v53 := Tryz.zeroValue72
  t171 := Tryz.underlying111
  a171 := Tryz.isAgg111
  z171 := Tryz.sizeOf111
  v171 := Tryz.zeroValue111
  t173 := Tryz.underlying114
  a173 := Tryz.isAgg114
  z173 := Tryz.sizeOf114
  v173 := Tryz.zeroValue114
  t212 := Tryz.underlying123
  a212 := Tryz.isAgg123
  z212 := Tryz.sizeOf123
  v212 := Tryz.zeroValue123
  t213 := Tryz.underlying125
  a213 := Tryz.isAgg125
  z213 := Tryz.sizeOf125
  t232 := Tryz.underlying138
  a232 := Tryz.isAgg138
  z232 := Tryz.sizeOf138
  v232 := Tryz.zeroValue138
  t233 := Tryz.underlying139
  a233 := Tryz.isAgg139
  z233 := Tryz.sizeOf139
  v233 := Tryz.zeroValue139
  g17 := by kernel_rfl
  g18 := by kernel_rfl
  g19 := by kernel_rfl
  i0 := by kernel_rfl
  i2 := by kernel_rfl
  i3 := by kernel_rfl
  i4 := by kernel_rfl
  i5 := by kernel_rfl
  i9 := by kernel_rfl
  i20 := by kernel_rfl
  i37 := by kernel_rfl
  i46 := by kernel_rfl
  i51 := by kernel_rfl
  i53 := by kernel_rfl
  i171 := by kernel_rfl
  i173 := by kernel_rfl
  i212 := by kernel_rfl
  i232 := by kernel_rfl
  i233 := by kernel_rfl
  m17 := by kernel_rfl
  m18 := by kernel_rfl
  m19 := by kernel_rfl }
open Go.RowKit Go.Sort Go.Lib in
theorem Tryz.strconv_Itoa (n : Int) (h0 : -9223372036854775808 ≤ n) (h1 : n ≤ 9223372036854775807) (w : World) (htab : Lib.TabIs Tryz.prog w "internal/strconv.uint64pow10" .u64 Lib.pow10Tab) :
    Calls Tryz.prog 91 #[.int .i64 n] w fun e w' => e = .returned (.string ⟨(Lib.itoa n).toArray⟩) ∧ ∃ k os, w' = grow (w.drewN k) os := Any.strconv_Itoa Tryz.laysM171 n h0 h1 w htab
def Tryz.lays171_ren : Go.Shelf.Ren := ⟨fun | 171 => 91 | 243 => 101 | 246 => 71 | 283 => 85 | 284 => 86 | 285 => 87 | 286 => 88 | 129 => 97 | 317 => 96 | 318 => 98 | 319 => 99 | 320 => 100 | 337 => 105 | 338 => 106 | n => n, fun | 3 => 3 | 9 => 9 | 2 => 2 | 4 => 4 | 171 => 111 | 0 => 0 | 53 => 72 | 37 => 57 | 5 => 5 | 173 => 114 | 212 => 123 | 51 => 124 | 20 => 20 | 213 => 125 | 46 => 101 | 232 => 138 | 233 => 139 | n => n, fun | 17 => 3 | 18 => 6 | 19 => 7 | n => n⟩
theorem Tryz.lays171 : Go.Proofs.Lays.n171 Tryz.prog Tryz.lays171_ren := {
  mixed := by kernel_rfl
  f129 := Tryz.func97.trans (congrArg some (by kernel_rfl))
  f171 := Tryz.func91.trans (congrArg some (by kernel_rfl))
  f243 := Tryz.func101.trans (congrArg some (by kernel_rfl))
  f246 := Tryz.func71.trans (congrArg some (by kernel_rfl))
  f283 := Tryz.func85.trans (congrArg some (by kernel_rfl))
  f284 := Tryz.func86.trans (congrArg some (by kernel_rfl))
  f285 := Tryz.func87.trans (congrArg some (by kernel_rfl))
  f286 := Tryz.func88.trans (congrArg some (by kernel_rfl))
  f317 := Tryz.func96.trans (congrArg some (by kernel_rfl))
  f318 := Tryz.func98.trans (congrArg some (by kernel_rfl))
  f319 := Tryz.func99.trans (congrArg some (by kernel_rfl))
  f320 := Tryz.func100.trans (congrArg some (by kernel_rfl))
  f337 := Tryz.func105.trans (congrArg some (by kernel_rfl))
  f338 := Tryz.func106.trans (congrArg some (by kernel_rfl))
  t0 := Tryz.underlying0
  a0 := Tryz.isAgg0
  z0 := Tryz.sizeOf0
  v0 := Tryz.zeroValue0
  t2 := Tryz.underlying2
  a2 := Tryz.isAgg2
  z2 := Tryz.sizeOf2
  v2 := Tryz.zeroValue2
  t3 := Tryz.underlying3
  a3 := Tryz.isAgg3
  z3 := Tryz.sizeOf3
  v3 := Tryz.zeroValue3
  t4 := Tryz.underlying4
  a4 := Tryz.isAgg4
  z4 := Tryz.sizeOf4
  v4 := Tryz.zeroValue4
  t5 := Tryz.underlying5
  a5 := Tryz.isAgg5
  z5 := Tryz.sizeOf5
  v5 := Tryz.zeroValue5
  t9 := Tryz.underlying9
  a9 := Tryz.isAgg9
  z9 := Tryz.sizeOf9
  v9 := Tryz.zeroValue9
  t20 := Tryz.underlying20
  a20 := Tryz.isAgg20
  z20 := Tryz.sizeOf20
  v20 := Tryz.zeroValue20
  t37 := Tryz.underlying57
  a37 := Tryz.isAgg57
  z37 := Tryz.sizeOf57
  v37 := Tryz.zeroValue57
  t46 := Tryz.underlying101
  a46 := Tryz.isAgg101
  z46 := Tryz.sizeOf101
  v46 := Tryz.zeroValue101
  t51 := Tryz.underlying124
  a51 := Tryz.isAgg124
  z51 := Tryz.sizeOf124
  v51 := Tryz.zeroValue124
  t53 := Tryz.underlying72
  a53 := Tryz.isAgg72
  z53 := Tryz.sizeOf72
  v53 := Tryz.zeroValue72
  t171 := Tryz.underlying111
  a171 := Tryz.isAgg111
  z171 := Tryz.sizeOf111
  v171 := Tryz.zeroValue111
  t173 := Tryz.underlying114
  a173 := Tryz.isAgg114
  z173 := Tryz.sizeOf114
  v173 := Tryz.zeroValue114
  t212 := Tryz.underlying123
  a212 := Tryz.isAgg123
  z212 := Tryz.sizeOf123
  v212 := Tryz.zeroValue123
  t213 := Tryz.underlying125
  a213 := Tryz.isAgg125
  z213 := Tryz.sizeOf125
  t232 := Tryz.underlying138
  a232 := Tryz.isAgg138
  z232 := Tryz.sizeOf138
  v232 := Tryz.zeroValue138
  t233 := Tryz.underlying139
  a233 := Tryz.isAgg139
  z233 := Tryz.sizeOf139
  v233 := Tryz.zeroValue139
  g17 := by kernel_rfl
  g18 := by kernel_rfl
  g19 := by kernel_rfl }
open Go.RowKit Go.Sort Go.Lib in
theorem Tryz.strconv_Itoa_small (i : Nat) (hi : i < 100) (w : World) :
    Calls Tryz.prog 91 #[.int .i64 i] w fun e w' => e = .returned (.string ⟨(Lib.decDigits i).toArray⟩) ∧ w' = w := Any.strconv_Itoa_small Tryz.lays171 i hi w
def Tryz.laysM173_ren : Go.Shelf.Ren := ⟨fun | 173 => 52 | 246 => 71 | 283 => 85 | 284 => 86 | 285 => 87 | 286 => 88 | 129 => 97 | 317 => 96 | 318 => 98 | 319 => 99 | 320 => 100 | 337 => 105 | 338 => 106 | n => n, fun | 2 => 2 | 3 => 3 | 9 => 9 | 4 => 4 | 171 => 111 | 0 => 0 | 53 => 72 | 37 => 57 | 5 => 5 | 173 => 114 | 212 => 123 | 51 => 124 | 20 => 20 | 213 => 125 | 46 => 101 | 232 => 138 | 233 => 139 | n => n, fun | 17 => 3 | 18 => 6 | 19 => 7 | n => n⟩
theorem Tryz.laysM173 : Go.Proofs.LaysM.n173 Tryz.prog Tryz.laysM173_ren := {
  mixed := by kernel_rfl
  f129 := Tryz.func97.trans (congrArg some (by kernel_rfl))
  f173 := Tryz.func52.trans (congrArg some (by kernel_rfl))
  f246 := Tryz.func71.trans (congrArg some (by kernel_rfl))
  f283 := Tryz.func85.trans (congrArg some (by kernel_rfl))
  f284 := Tryz.func86.trans (congrArg some (by kernel_rfl))
  f285 := Tryz.func87.trans (congrArg some (by kernel_rfl))
  f286 := Tryz.func88.trans (congrArg some (by kernel_rfl))
  f317 := Tryz.func96.trans (congrArg some (by kernel_rfl))
  f318 := Tryz.func98.trans (congrArg some (by kernel_rfl))
  f319 := Tryz.func99.trans (congrArg some (by kernel_rfl))
  f320 := Tryz.func100.trans (congrArg some (by kernel_rfl))
  f337 := Tryz.func105.trans (congrArg some (by kernel_rfl))
  f338 := Tryz.func106.trans (congrArg some (by kernel_rfl))
  t0 := Tryz.underlying0
  a0 := Tryz.isAgg0
  z0 := Tryz.sizeOf0
  v0 := Tryz.zeroValue0
  t2 := Tryz.underlying2
  a2 := Tryz.isAgg2
  z2 := Tryz.sizeOf2
  v2 := Tryz.zeroValue2
  t3 := Tryz.underlying3
  a3 := Tryz.isAgg3
  z3 := Tryz.sizeOf3
  v3 := Tryz.zeroValue3
  t4 := Tryz.underlying4
  a4 := Tryz.isAgg4
  z4 := Tryz.sizeOf4
  v4 := Tryz.zeroValue4
  t5 := Tryz.underlying5
  a5 := Tryz.isAgg5
  z5 := Tryz.sizeOf5
  v5 := Tryz.zeroValue5
  t9 := Tryz.underlying9
  a9 := Tryz.isAgg9
  z9 := Tryz.sizeOf9
  v9 := Tryz.zeroValue9
  t20 := Tryz.underlying20
  a20 := Tryz.isAgg20
  z20 := Tryz.sizeOf20
  v20 := Tryz.zeroValue20
  t37 := Tryz.underlying57
  a37 := Tryz.isAgg57
  z37 := Tryz.sizeOf57
  v37 := Tryz.zeroValue57
  t46 := Tryz.underlying101
  a46 := Tryz.isAgg101
  z46 := Tryz.sizeOf101
  v46 := Tryz.zeroValue101
  t51 := Tryz.underlying124
  a51 := Tryz.isAgg124
  z51 := Tryz.sizeOf124
  v51 := Tryz.zeroValue124
  t53 := Tryz.underlying72
  a53 := Tryz.isAgg72
  z53 := Tryz.sizeOf72
  v53 := Tryz.zeroValue72
  t171 := Tryz.underlying111
  a171 := Tryz.isAgg111
  z171 := Tryz.sizeOf111
  v171 := Tryz.zeroValue111
  t173 := Tryz.underlying114
  a173 := Tryz.isAgg114
  z173 := Tryz.sizeOf114
  v173 := Tryz.zeroValue114
  t212 := Tryz.underlying123
  a212 := Tryz.isAgg123
  z212 := Tryz.sizeOf123
  v212 := Tryz.zeroValue123
  t213 := Tryz.underlying125
  a213 := Tryz.isAgg125
  z213 := Tryz.sizeOf125
  t232 := Tryz.underlying138
  a232 := Tryz.isAgg138
  z232 := Tryz.sizeOf138
  v232 := Tryz.zeroValue138
  t233 := Tryz.underlying139
  a233 := Tryz.isAgg139
  z233 := Tryz.sizeOf139
  v233 := Tryz.zeroValue139
  g17 := by kernel_rfl
  g18 := by kernel_rfl
  g19 := by kernel_rfl
  i0 := by kernel_rfl
  i2 := by kernel_rfl
  i3 := by kernel_rfl
  i4 := by kernel_rfl
  i5 := by kernel_rfl
  i9 := by kernel_rfl
  i20 := by kernel_rfl
  i37 := by kernel_rfl
  i46 := by kernel_rfl
  i51 := by kernel_rfl
  i53 := by kernel_rfl
  i171 := by kernel_rfl
  i173 := by kernel_rfl
  i212 := by kernel_rfl
  i232 := by kernel_rfl
  i233 := by kernel_rfl
  m17 := by kernel_rfl
  m18 := by kernel_rfl
  m19 := by kernel_rfl }
open Go.RowKit Go.Sort Go.Lib in
theorem Tryz.strconv_FormatInt_10 (n : Int) (h0 : -9223372036854775808 ≤ n) (h1 : n ≤ 9223372036854775807) (w : World) (htab : Lib.TabIs Tryz.prog w "internal/strconv.uint64pow10" .u64 Lib.pow10Tab) :
    Calls Tryz.prog 52 #[.int .i64 n, .int .i64 10] w fun e w' => e = .returned (.string ⟨(Lib.itoa n).toArray⟩) ∧ ∃ k os, w' = grow (w.drewN k) os := Any.strconv_FormatInt_10 Tryz.laysM173 n h0 h1 w htab
def Tryz.lays173_ren : Go.Shelf.Ren := ⟨fun | 173 => 52 | 246 => 71 | 283 => 85 | 284 => 86 | 285 => 87 | 286 => 88 | 129 => 97 | 317 => 96 | 318 => 98 | 319 => 99 | 320 => 100 | 337 => 105 | 338 => 106 | n => n, fun | 2 => 2 | 3 => 3 | 9 => 9 | 4 => 4 | 171 => 111 | 0 => 0 | 53 => 72 | 37 => 57 | 5 => 5 | 173 => 114 | 212 => 123 | 51 => 124 | 20 => 20 | 213 => 125 | 46 => 101 | 232 => 138 | 233 => 139 | n => n, fun | 17 => 3 | 18 => 6 | 19 => 7 | n => n⟩
theorem Tryz.lays173 : Go.Proofs.Lays.n173 Tryz.prog Tryz.lays173_ren := {
  mixed := by kernel_rfl
  f129 := Tryz.func97.trans (congrArg some (by kernel_rfl))
  f173 := Tryz.func52.trans (congrArg some (by kernel_rfl))
  f246 := Tryz.func71.trans (congrArg some (by kernel_rfl))
  f283 := Tryz.func85.trans (congrArg some (by kernel_rfl))
  f284 := Tryz.func86.trans (congrArg some (by kernel_rfl))
  f285 := Tryz.func87.trans (congrArg some (by kernel_rfl))
  f286 := Tryz.func88.trans (congrArg some (by kernel_rfl))
  f317 := Tryz.func96.trans (congrArg some (by kernel_rfl))
  f318 := Tryz.func98.trans (congrArg some (by kernel_rfl))
  f319 := Tryz.func99.trans (congrArg some (by kernel_rfl))
  f320 := Tryz.func100.trans (congrArg some (by kernel_rfl))
  f337 := Tryz.func105.trans (congrArg some (by kernel_rfl))
  f338 := Tryz.func106.trans (congrArg some (by kernel_rfl))
  t0 := Tryz.underlying0
  a0 := Tryz.isAgg0
  z0 := Tryz.sizeOf0
  v0 := Tryz.zeroValue0
  t2 := Tryz.underlying2
  a2 := Tryz.isAgg2
  z2 := Tryz.sizeOf2
  v2 := Tryz.zeroValue2
  t3 := Tryz.underlying3
  a3 := Tryz.isAgg3
  z3 := Tryz.sizeOf3
  v3 := Tryz.zeroValue3
  t4 := Tryz.underlying4
  a4 := Tryz.isAgg4
  z4 := Tryz.sizeOf4
  v4 := Tryz.zeroValue4
  t5 := Tryz.underlying5
  a5 := Tryz.isAgg5
  z5 := Tryz.sizeOf5
  v5 := Tryz.zeroValue5
  t9 := Tryz.underlying9
  a9 := Tryz.isAgg9
  z9 := Tryz.sizeOf9
  v9 := Tryz.zeroValue9
  t20 := Tryz.underlying20
  a20 := Tryz.isAgg20
  z20 := Tryz.sizeOf20
  v20 := Tryz.zeroValue20
  t37 := Tryz.underlying57
  a37 := Tryz.isAgg57
  z37 := Tryz.sizeOf57
  v37 := Tryz.zeroValue57
  t46 := Tryz.underlying101
  a46 := Tryz.isAgg101
  z46 := Tryz.sizeOf101
  v46 := Tryz.zeroValue101
  t51 := Tryz.underlying124
  a51 := Tryz.isAgg124
  z51 := Tryz.sizeOf124
  v51 := Tryz.zeroValue124
  t53 := Tryz.underlying72
  a53 := Tryz.isAgg72
  z53 := Tryz.sizeOf72
  v53 := Tryz.zeroValue72
  t171 := Tryz.underlying111
  a171 := Tryz.isAgg111
  z171 := Tryz.sizeOf111
  v171 := Tryz.zeroValue111
  t173 := Tryz.underlying114
  a173 := Tryz.isAgg114
  z173 := Tryz.sizeOf114
  v173 := Tryz.zeroValue114
  t212 := Tryz.underlying123
  a212 := Tryz.isAgg123
  z212 := Tryz.sizeOf123
  v212 := Tryz.zeroValue123
  t213 := Tryz.underlying125
  a213 := Tryz.isAgg125
  z213 := Tryz.sizeOf125
  t232 := Tryz.underlying138
  a232 := Tryz.isAgg138
  z232 := Tryz.sizeOf138
  v232 := Tryz.zeroValue138
  t233 := Tryz.underlying139
  a233 := Tryz.isAgg139
  z233 := Tryz.sizeOf139
  v233 := Tryz.zeroValue139
  g17 := by kernel_rfl
  g18 := by kernel_rfl
  g19 := by kernel_rfl }
open Go.RowKit Go.Sort Go.Lib in
theorem Tryz.strconv_FormatInt_10_small (i : Nat) (hi : i < 100) (w : World) :
    Calls Tryz.prog 52 #[.int .i64 i, .int .i64 10] w fun e w' => e = .returned (.string ⟨(Lib.decDigits i).toArray⟩) ∧ w' = w := Any.strconv_FormatInt_10_small Tryz.lays173 i hi w
def Tryz.lays247_ren : Go.Shelf.Ren := ⟨fun | 247 => 70 | 287 => 54 | 321 => 72 | 322 => 73 | n => n, fun | 9 => 9 | 3 => 3 | 2 => 2 | 75 => 64 | 4 => 4 | 167 => 99 | 5 => 5 | 53 => 72 | 175 => 73 | 46 => 101 | 37 => 57 | 0 => 0 | 21 => 21 | 80 => 68 | n => n, fun | n => n⟩
theorem Tryz.lays247 : Go.Proofs.Lays.n247 Tryz.prog Tryz.lays247_ren := {
  mixed := by kernel_rfl
  f247 := Tryz.func70.trans (congrArg some (by kernel_rfl))
  f287 := Tryz.func54.trans (congrArg some (by kernel_rfl))
  f321 := Tryz.func72.trans (congrArg some (by kernel_rfl))
  f322 := Tryz.func73.trans (congrArg some (by kernel_rfl))
  t0 := Tryz.underlying0
  a0 := Tryz.isAgg0
  z0 := Tryz.sizeOf0
  v0 := Tryz.zeroValue0
  t2 := Tryz.underlying2
  a2 := Tryz.isAgg2
  z2 := Tryz.sizeOf2
  v2 := Tryz.zeroValue2
  t3 := Tryz.underlying3
  a3 := Tryz.isAgg3
  z3 := Tryz.sizeOf3
  v3 := Tryz.zeroValue3
  t4 := Tryz.underlying4
  a4 := Tryz.isAgg4
  z4 := Tryz.sizeOf4
  v4 := Tryz.zeroValue4
  t5 := Tryz.underlying5
  a5 := Tryz.isAgg5
  z5 := Tryz.sizeOf5
  v5 := Tryz.zeroValue5
  t9 := Tryz.underlying9
  a9 := Tryz.isAgg9
  z9 := Tryz.sizeOf9
  v9 := Tryz.zeroValue9
  t21 := Tryz.underlying21
  a21 := Tryz.isAgg21
  z21 := Tryz.sizeOf21
  v21 := Tryz.zeroValue21
  t37 := Tryz.underlying57
  a37 := Tryz.isAgg57
  z37 := Tryz.sizeOf57
  v37 := Tryz.zeroValue57
  t46 := Tryz.underlying101
  a46 := Tryz.isAgg101
  z46 := Tryz.sizeOf101
  v46 := Tryz.zeroValue101
  t53 := Tryz.underlying72
  a53 := Tryz.isAgg72
  z53 := Tryz.sizeOf72
  v53 := Tryz.zeroValue72
  t75 := Tryz.underlying64
  a75 := Tryz.isAgg64
  z75 := Tryz.sizeOf64
  v75 := Tryz.zeroValue64
  t167 := Tryz.underlying99
  a167 := Tryz.isAgg99
  z167 := Tryz.sizeOf99
  v167 := Tryz.zeroValue99
  t175 := Tryz.underlying73
  a175 := Tryz.isAgg73
  z175 := Tryz.sizeOf73
  v175 := Tryz.zeroValue73 }
open Go.RowKit in
theorem Tryz.internal_strconv_ParseInt_empty (base bits : Int) (w : World) :
    Calls Tryz.prog 70 #[.string ⟨#[]⟩, .int .i64 base, .int .i64 bits] w fun e w' => e = .returned (.tuple #[.int .i64 0, (.iface 99 (.int .i64 2))]) ∧ w' = w := Any.internal_strconv_ParseInt_empty Tryz.lays247 base bits w
def Tryz.laysM316_ren : Go.Shelf.Ren := ⟨fun | 316 => 89 | n => n, fun | 9 => 9 | 3 => 3 | 4 => 4 | 37 => 57 | 0 => 0 | 127 => 78 | 5 => 5 | n => n, fun | n => n⟩
theorem Tryz.laysM316 : Go.Proofs.LaysM.n316 Tryz.prog Tryz.laysM316_ren := {
  mixed := by kernel_rfl
  f316 := Tryz.func89.trans (congrArg some (by kernel_rfl))
  t0 := Tryz.underlying0
  a0 := Tryz.isAgg0
  z0 := Tryz.sizeOf0
  v0 := Tryz.zeroValue0
  t3 := Tryz.underlying3
  a3 := Tryz.isAgg3
  z3 := Tryz.sizeOf3
  v3 := Tryz.zeroValue3
  t4 := Tryz.underlying4
  a4 := Tryz.isAgg4
  z4 := Tryz.sizeOf4
  v4 := Tryz.zeroValue4
  t9 := Tryz.underlying9
  a9 := Tryz.isAgg9
  z9 := Tryz.sizeOf9
  v9 := Tryz.zeroValue9
  t37 := Tryz.underlying57
  a37 := Tryz.isAgg57
  z37 := Tryz.sizeOf57
  v37 := Tryz.zeroValue57
  t127 := Tryz.underlying78
  a127 := Tryz.isAgg78
  z127 := Tryz.sizeOf78
  v127 := Tryz.zeroValue78
  t5 := Tryz.underlying5
  a5 := Tryz.isAgg5
  z5 := Tryz.sizeOf5
  v5 := Tryz.zeroValue5
  i0 := by kernel_rfl
  i3 := by kernel_rfl
  i4 := by kernel_rfl
  i5 := by kernel_rfl
  i9 := by kernel_rfl
  i37 := by kernel_rfl
  i127 := by kernel_rfl }
open Go.RowKit in
theorem Tryz.stringslite_Clone (s : ByteArray) (w : World) (hlim : s.size ≤ 281474976710656) :
    Calls Tryz.prog 89 #[.string s] w fun e w' => e = .returned (.string s) ∧ Below w.heap.size w w' := Any.stringslite_Clone Tryz.laysM316 s w hlim
def Tryz.laysM279_ren : Go.Shelf.Ren := ⟨fun | 279 => 74 | 316 => 89 | n => n, fun | 9 => 9 | 168 => 102 | 75 => 64 | 210 => 117 | 3 => 3 | 4 => 4 | 37 => 57 | 0 => 0 | 127 => 78 | 80 => 68 | 5 => 5 | n => n, fun | 15 => 1 | n => n⟩
theorem Tryz.laysM279 : Go.Proofs.LaysM.n279 Tryz.prog Tryz.laysM279_ren := {
  mixed := by kernel_rfl
  f279 := Tryz.func74.trans (congrArg some (by kernel_rfl))
  f316 := Tryz.func89.trans (congrArg some (by kernel_rfl))
  t0 := Tryz.underlying0
  a0 := Tryz.isAgg0
  z0 := Tryz.sizeOf0
  v0 := Tryz.zeroValue0
  t3 := Tryz.underlying3
  a3 := Tryz.isAgg3
  z3 := Tryz.sizeOf3
  v3 := Tryz.zeroValue3
  t4 := Tryz.underlying4
  a4 := Tryz.isAgg4
  z4 := Tryz.sizeOf4
  v4 := Tryz.zeroValue4
  t9 := Tryz.underlying9
  a9 := Tryz.isAgg9
  z9 := Tryz.sizeOf9
  v9 := Tryz.zeroValue9
  t37 := Tryz.underlying57
  a37 := Tryz.isAgg57
  z37 := Tryz.sizeOf57
  v37 := Tryz.zeroValue57
  t75 := Tryz.underlying64
  a75 := Tryz.isAgg64
  z75 := Tryz.sizeOf64
  v75 := Tryz.zeroValue64
  t127 := Tryz.underlying78
  a127 := Tryz.isAgg78
  z127 := Tryz.sizeOf78
  v127 := Tryz.zeroValue78
  t168 := Tryz.underlying102
  a168 := Tryz.isAgg102
  z168 := Tryz.sizeOf102
  v168 := Tryz.zeroValue102
  t210 := Tryz.underlying117
  a210 := Tryz.isAgg117
  z210 := Tryz.sizeOf117
  v210 := Tryz.zeroValue117
  g15 := by kernel_rfl
  t5 := Tryz.underlying5
  a5 := Tryz.isAgg5
  z5 := Tryz.sizeOf5
  v5 := Tryz.zeroValue5
  t80 := Tryz.underlying68
  a80 := Tryz.isAgg68
  z80 := Tryz.sizeOf68
  v80 := Tryz.zeroValue68
  i0 := by kernel_rfl
  i3 := by kernel_rfl
  i4 := by kernel_rfl
  i5 := by kernel_rfl
  i9 := by kernel_rfl
  i37 := by kernel_rfl
  i75 := by kernel_rfl
  i80 := by kernel_rfl
  i127 := by kernel_rfl
  i168 := by kernel_rfl
  i210 := by kernel_rfl
  m15 := by kernel_rfl }
open Go.RowKit in
theorem Tryz.strconv_syntaxError (fn s : ByteArray) (ev : Value) (w : World) (hlim : s.size ≤ 281474976710656) (hv : w.cell? ⟨1, 0, none⟩ = some ev) (hev : ev = .nilIface ∨ ∃ te pe, ev = .iface te pe) :
    Calls Tryz.prog 74 #[.string fn, .string s] w fun e w' => ∃ N, e = .returned (.pointer (some ⟨N, 0, none⟩)) ∧ w.heap.size ≤ N ∧ w'.heap[N]? = some (.cells #[.string fn, .string s, ev] 117 (0, 0)) ∧ Below w.heap.size w w' := Any.strconv_syntaxError Tryz.laysM279 fn s ev w hlim hv hev
def Tryz.laysC245_ren : Go.Shelf.Ren := ⟨fun | 245 => 55 | 279 => 74 | 280 => 75 | 281 => 76 | 282 => 77 | 316 => 89 | 171 => 91 | 205 => 90 | 243 => 101 | 246 => 71 | 283 => 85 | 284 => 86 | 285 => 87 | 286 => 88 | 129 => 97 | 317 => 96 | 318 => 98 | 319 => 99 | 320 => 100 | 337 => 105 | 338 => 106 | n => n, fun | 9 => 9 | 3 => 3 | 75 => 64 | 167 => 99 | 4 => 4 | 168 => 102 | 210 => 117 | 37 => 57 | 0 => 0 | 127 => 78 | 145 => 130 | 143 => 128 | 2 => 2 | 171 => 111 | 53 => 72 | 5 => 5 | 173 => 114 | 212 => 123 | 51 => 124 | 20 => 20 | 213 => 125 | 46 => 101 | 232 => 138 | 233 => 139 | 80 => 68 | n => n, fun | 15 => 1 | 16 => 2 | 17 => 3 | 18 => 6 | 19 => 7 | n => n⟩
theorem Tryz.laysC245 : Go.Proofs.LaysC.n245 Tryz.prog Tryz.laysC245_ren := {
  mixed := by kernel_rfl
  f129 := Tryz.func97.trans (congrArg some (by kernel_rfl))
  f171 := Tryz.func91.trans (congrArg some (by kernel_rfl))
  f205 := Tryz.func90.trans (congrArg some (by kernel_rfl))
  f243 := Tryz.func101.trans (congrArg some (by kernel_rfl))
  f245 := Tryz.func55.trans (congrArg some (by kernel_rfl))
  f246 := Tryz.func71.trans (congrArg some (by kernel_rfl))
  f279 := Tryz.func74.trans (congrArg some (by kernel_rfl))
  f280 := Tryz.func75.trans (congrArg some (by kernel_rfl))
  f281 := Tryz.func76.trans (congrArg some (by kernel_rfl))
  f282 := Tryz.func77.trans (congrArg some (by kernel_rfl))
  f283 := Tryz.func85.trans (congrArg some (by kernel_rfl))
  f284 := Tryz.func86.trans (congrArg some (by kernel_rfl))
  f285 := Tryz.func87.trans (congrArg some (by kernel_rfl))
  f286 := Tryz.func88.trans (congrArg some (by kernel_rfl))
  f316 := Tryz.func89.trans (congrArg some (by kernel_rfl))
  f317 := Tryz.func96.trans (congrArg some (by kernel_rfl))
  f318 := Tryz.func98.trans (congrArg some (by kernel_rfl))
  f319 := Tryz.func99.trans (congrArg some (by kernel_rfl))
  f320 := Tryz.func100.trans (congrArg some (by kernel_rfl))
  f337 := Tryz.func105.trans (congrArg some (by kernel_rfl))
  f338 := Tryz.func106.trans (congrArg some (by kernel_rfl))
  t0 := Tryz.underlying0
  a0 := Tryz.isAgg0
  z0 := Tryz.sizeOf0
  v0 := Tryz.zeroValue0
  t2 := Tryz.underlying2
  a2 := Tryz.isAgg2
  z2 := Tryz.sizeOf2
  v2 := Tryz.zeroValue2
  t3 := Tryz.underlying3
  a3 := Tryz.isAgg3
  z3 := Tryz.sizeOf3
  v3 := Tryz.zeroValue3
  t4 := Tryz.underlying4
  a4 := Tryz.isAgg4
  z4 := Tryz.sizeOf4
  v4 := Tryz.zeroValue4
  t5 := Tryz.underlying5
  a5 := Tryz.isAgg5
  z5 := Tryz.sizeOf5
  v5 := Tryz.zeroValue5
  t9 := Tryz.underlying9
  a9 := Tryz.isAgg9
  z9 := Tryz.sizeOf9
  v9 := Tryz.zeroValue9
  t20 := Tryz.underlying20
  a20 := Tryz.isAgg20
  z20 := Tryz.sizeOf20
  v20 := Tryz.zeroValue20
  t37 := Tryz.underlying57
  a37 := Tryz.isAgg57
  z37 := Tryz.sizeOf57
  v37 := Tryz.zeroValue57
  t46 := Tryz.underlying101
  a46 := Tryz.isAgg101
  z46 := Tryz.sizeOf101
  v46 := Tryz.zeroValue101
  t51 := Tryz.underlying124
  a51 := Tryz.isAgg124
  z51 := Tryz.sizeOf124
  v51 := Tryz.zeroValue124
  t53 := Tryz.underlying72
  a53 := Tryz.isAgg72
  z53 := Tryz.sizeOf72
  v53 := Tryz.zeroValue72
  t75 := Tryz.underlying64
  a75 := Tryz.isAgg64
  z75 := Tryz.sizeOf64
  v75 := Tryz.zeroValue64
  t127 := Tryz.underlying78
  a127 := Tryz.isAgg78
  z127 := Tryz.sizeOf78
  v127 := Tryz.zeroValue78
  t143 := Tryz.underlying128
  a143 := Tryz.isAgg128
  z143 := Tryz.sizeOf128
  v143 := Tryz.zeroValue128
  t145 := Tryz.underlying130
  a145 := Tryz.isAgg130
  z145 := Tryz.sizeOf130
  v145 := Tryz.zeroValue130
  t167 := Tryz.underlying99
  a167 := Tryz.isAgg99
  z167 := Tryz.sizeOf99
  v167 := Tryz.zeroValue99
  t168 := Tryz.underlying102
  a168 := Tryz.isAgg102
  z168 := Tryz.sizeOf102
  v168 := Tryz.zeroValue102
  t171 := Tryz.underlying111
  a171 := Tryz.isAgg111
  z171 := Tryz.sizeOf111
  v171 := Tryz.zeroValue111
  t173 := Tryz.underlying114
  a173 := Tryz.isAgg114
  z173 := Tryz.sizeOf114
  v173 := Tryz.zeroValue114
  t210 := Tryz.underlying117
  a210 := Tryz.isAgg117
  z210 := Tryz.sizeOf117
  v210 := Tryz.zeroValue117
  t212 := Tryz.underlying123
  a212 := Tryz.isAgg123
  z212 := Tryz.sizeOf123
  v212 := Tryz.zeroValue123
  t213 := Tryz.underlying125
  a213 := Tryz.isAgg125
  z213 := Tryz.sizeOf125
  t232 := Tryz.underlying138
  a232 := Tryz.isAgg138
  z232 := Tryz.sizeOf138
  v232 := Tryz.zeroValue138
  t233 := Tryz.underlying139
  a233 := Tryz.isAgg139
  z233 := Tryz.sizeOf139
  v233 := Tryz.zeroValue139
  g15 := by kernel_rfl
  g16 := by kernel_rfl
  g17 := by kernel_rfl
  g18 := by kernel_rfl
  g19 := by kernel_rfl
  t80 := Tryz.underlying68
  a80 := Tryz.isAgg68
  z80 := Tryz.sizeOf68
  v80 := Tryz.zeroValue68
  i0 := by kernel_rfl
  i2 := by kernel_rfl
  i3 := by kernel_rfl
  i4 := by kernel_rfl
  i5 := by kernel_rfl
  i9 := by kernel_rfl
  i20 := by kernel_rfl
  i37 := by kernel_rfl
  i46 := by kernel_rfl
  i51 := by kernel_rfl
  i53 := by kernel_rfl
  i75 := by kernel_rfl
  i80 := by kernel_rfl
  i127 := by kernel_rfl
  i143 := by kernel_rfl
  i145 := by kernel_rfl
  i167 := by kernel_rfl
  i168 := by kernel_rfl
  i171 := by kernel_rfl
  i173 := by kernel_rfl
  i210 := by kernel_rfl
  i212 := by kernel_rfl
  i232 := by kernel_rfl
  i233 := by kernel_rfl
  m15 := by kernel_rfl
  m16 := by kernel_rfl
  m17 := by kernel_rfl
  m18 := by kernel_rfl
  m19 := by kernel_rfl
  c0 := by kernel_rfl
  c2 := by kernel_rfl
  c3 := by kernel_rfl
  c4 := by kernel_rfl
  c5 := by kernel_rfl
  c9 := by kernel_rfl
  c20 := by kernel_rfl
  c37 := by kernel_rfl
  c46 := by kernel_rfl
  c51 := by kernel_rfl
  c53 := by kernel_rfl
  c75 := by kernel_rfl
  c80 := by kernel_rfl
  c127 := by kernel_rfl
  c143 := by kernel_rfl
  c145 := by kernel_rfl
  c167 := by kernel_rfl
  c168 := by kernel_rfl
  c171 := by kernel_rfl
  c173 := by kernel_rfl
  c210 := by kernel_rfl
  c212 := by kernel_rfl
  c213 := by kernel_rfl
  c232 := by kernel_rfl
  c233 := by kernel_rfl }
open Go.RowKit in
theorem Tryz.strconv_toError_syntax (fn s : ByteArray) (base bits : Int) (ev : Value) (w : World) (hlim : s.size ≤ 281474976710656) (hv : w.cell? ⟨1, 0, none⟩ = some ev) (hev : ev = .nilIface ∨ ∃ te pe, ev = .iface te pe) :
    Calls Tryz.prog 55 #[.string fn, .string s, .int .i64 base, .int .i64 bits, .iface 99 (.int .i64 2)] w fun e w' => ∃ N, e = .returned (.iface 102 (.pointer (some ⟨N, 0, none⟩))) ∧ w.heap.size ≤ N ∧ w'.heap[N]? = some (.cells #[.string fn, .string s, ev] 117 (0, 0)) ∧ Below w.heap.size w w' := Any.strconv_toError_syntax Tryz.laysC245 fn s base bits ev w hlim hv hev
def Tryz.lays321_ren : Go.Shelf.Ren := ⟨fun | 321 => 72 | n => n, fun | 5 => 5 | n => n, fun | n => n⟩
theorem Tryz.lays321 : Go.Proofs.Lays.n321 Tryz.prog Tryz.lays321_ren := {
  mixed := by kernel_rfl
  f321 := Tryz.func72.trans (congrArg some (by kernel_rfl))
  t5 := Tryz.underlying5
  a5 := Tryz.isAgg5
  z5 := Tryz.sizeOf5
  v5 := Tryz.zeroValue5 }
open Go.RowKit in
theorem Tryz.internal_strconv_lower (c : Int) (w : World) :
    Calls Tryz.prog 72 #[.int .u8 c] w fun e w' => e = .returned (.int .u8 (bits .or .u8 c 32)) ∧ w' = w := Any.internal_strconv_lower Tryz.lays321 c w
def Tryz.lays287_ren : Go.Shelf.Ren := ⟨fun | 287 => 54 | 321 => 72 | 322 => 73 | n => n, fun | 9 => 9 | 3 => 3 | 53 => 72 | 75 => 64 | 4 => 4 | 167 => 99 | 5 => 5 | 46 => 101 | 37 => 57 | 0 => 0 | 21 => 21 | 80 => 68 | n => n, fun | n => n⟩
theorem Tryz.lays287 : Go.Proofs.Lays.n287 Tryz.prog Tryz.lays287_ren := {
  mixed := by kernel_rfl
  f287 := Tryz.func54.trans (congrArg some (by kernel_rfl))
  f321 := Tryz.func72.trans (congrArg some (by kernel_rfl))
  f322 := Tryz.func73.trans (congrArg some (by kernel_rfl))
  t0 := Tryz.underlying0
  a0 := Tryz.isAgg0
  z0 := Tryz.sizeOf0
  v0 := Tryz.zeroValue0
  t3 := Tryz.underlying3
  a3 := Tryz.isAgg3
  z3 := Tryz.sizeOf3
  v3 := Tryz.zeroValue3
  t4 := Tryz.underlying4
  a4 := Tryz.isAgg4
  z4 := Tryz.sizeOf4
  v4 := Tryz.zeroValue4
  t5 := Tryz.underlying5
  a5 := Tryz.isAgg5
  z5 := Tryz.sizeOf5
  v5 := Tryz.zeroValue5
  t9 := Tryz.underlying9
  a9 := Tryz.isAgg9
  z9 := Tryz.sizeOf9
  v9 := Tryz.zeroValue9
  t21 := Tryz.underlying21
  a21 := Tryz.isAgg21
  z21 := Tryz.sizeOf21
  v21 := Tryz.zeroValue21
  t37 := Tryz.underlying57
  a37 := Tryz.isAgg57
  z37 := Tryz.sizeOf57
  v37 := Tryz.zeroValue57
  t46 := Tryz.underlying101
  a46 := Tryz.isAgg101
  z46 := Tryz.sizeOf101
  v46 := Tryz.zeroValue101
  t53 := Tryz.underlying72
  a53 := Tryz.isAgg72
  z53 := Tryz.sizeOf72
  v53 := Tryz.zeroValue72
  t75 := Tryz.underlying64
  a75 := Tryz.isAgg64
  z75 := Tryz.sizeOf64
  v75 := Tryz.zeroValue64
  t167 := Tryz.underlying99
  a167 := Tryz.isAgg99
  z167 := Tryz.sizeOf99
  v167 := Tryz.zeroValue99 }
open Go.RowKit in
theorem Tryz.internal_strconv_ParseUint_10 (t : ByteArray) (hne : t.size ≠ 0) (hmax : t.size ≤ 9223372036854775806) (w : World) :
    Calls Tryz.prog 54 #[.string t, .int .i64 10, .int .i64 0] w fun e w' => e = .returned (Lib.uintTuple 99 (Lib.parseUint10 0 t.data.toList)) ∧ w' = Lib.bytesWorld w 5 t := Any.internal_strconv_ParseUint_10 Tryz.lays287 t hne hmax w
open Go.RowKit in
theorem Tryz.internal_strconv_ParseUint_10_empty (w : World) :
    Calls Tryz.prog 54 #[.string ⟨#[]⟩, .int .i64 10, .int .i64 0] w fun e w' => e = .returned (Lib.uintTuple 99 .syntax) ∧ w' = w := Any.internal_strconv_ParseUint_10_empty Tryz.lays287 w
open Go.RowKit in
theorem Tryz.internal_strconv_ParseUint_10_any (t : ByteArray) (hmax : t.size ≤ 9223372036854775806) (w : World) :
    Calls Tryz.prog 54 #[.string t, .int .i64 10, .int .i64 0] w fun e w' => e = .returned (Lib.uintTuple 99 (Lib.parseMag t.data.toList)) ∧ (w' = w ∨ w' = Lib.bytesWorld w 5 t) := Any.internal_strconv_ParseUint_10_any Tryz.lays287 t hmax w
def Tryz.laysC247_ren : Go.Shelf.Ren := ⟨fun | 247 => 70 | 287 => 54 | 321 => 72 | 322 => 73 | n => n, fun | 9 => 9 | 3 => 3 | 2 => 2 | 75 => 64 | 4 => 4 | 167 => 99 | 5 => 5 | 53 => 72 | 175 => 73 | 46 => 101 | 37 => 57 | 0 => 0 | 21 => 21 | 80 => 68 | n => n, fun | n => n⟩
theorem Tryz.laysC247 : Go.Proofs.LaysC.n247 Tryz.prog Tryz.laysC247_ren := {
  mixed := by kernel_rfl
  f247 := Tryz.func70.trans (congrArg some (by kernel_rfl))
  f287 := Tryz.func54.trans (congrArg some (by kernel_rfl))
  f321 := Tryz.func72.trans (congrArg some (by kernel_rfl))
  f322 := Tryz.func73.trans (congrArg some (by kernel_rfl))
  t0 := Tryz.underlying0
  a0 := Tryz.isAgg0
  z0 := Tryz.sizeOf0
  v0 := Tryz.zeroValue0
  t2 := Tryz.underlying2
  a2 := Tryz.isAgg2
  z2 := Tryz.sizeOf2
  v2 := Tryz.zeroValue2
  t3 := Tryz.underlying3
  a3 := Tryz.isAgg3
  z3 := Tryz.sizeOf3
  v3 := Tryz.zeroValue3
  t4 := Tryz.underlying4
  a4 := Tryz.isAgg4
  z4 := Tryz.sizeOf4
  v4 := Tryz.zeroValue4
  t5 := Tryz.underlying5
  a5 := Tryz.isAgg5
  z5 := Tryz.sizeOf5
  v5 := Tryz.zeroValue5
  t9 := Tryz.underlying9
  a9 := Tryz.isAgg9
  z9 := Tryz.sizeOf9
  v9 := Tryz.zeroValue9
  t21 := Tryz.underlying21
  a21 := Tryz.isAgg21
  z21 := Tryz.sizeOf21
  v21 := Tryz.zeroValue21
  t37 := Tryz.underlying57
  a37 := Tryz.isAgg57
  z37 := Tryz.sizeOf57
  v37 := Tryz.zeroValue57
  t46 := Tryz.underlying101
  a46 := Tryz.isAgg101
  z46 := Tryz.sizeOf101
  v46 := Tryz.zeroValue101
  t53 := Tryz.underlying72
  a53 := Tryz.isAgg72
  z53 := Tryz.sizeOf72
  v53 := Tryz.zeroValue72
  t75 := Tryz.underlying64
  a75 := Tryz.isAgg64
  z75 := Tryz.sizeOf64
  v75 := Tryz.zeroValue64
  t167 := Tryz.underlying99
  a167 := Tryz.isAgg99
  z167 := Tryz.sizeOf99
  v167 := Tryz.zeroValue99
  t175 := Tryz.underlying73
  a175 := Tryz.isAgg73
  z175 := Tryz.sizeOf73
  v175 := Tryz.zeroValue73
  t80 := Tryz.underlying68
  a80 := Tryz.isAgg68
  z80 := Tryz.sizeOf68
  v80 := Tryz.zeroValue68
  i0 := by kernel_rfl
  i2 := by kernel_rfl
  i3 := by kernel_rfl
  i4 := by kernel_rfl
  i5 := by kernel_rfl
  i9 := by kernel_rfl
  i21 := by kernel_rfl
  i37 := by kernel_rfl
  i46 := by kernel_rfl
  i53 := by kernel_rfl
  i75 := by kernel_rfl
  i80 := by kernel_rfl
  i167 := by kernel_rfl
  i175 := by kernel_rfl
  c0 := by kernel_rfl
  c2 := by kernel_rfl
  c3 := by kernel_rfl
  c4 := by kernel_rfl
  c5 := by kernel_rfl
  c9 := by kernel_rfl
  c21 := by kernel_rfl
  c37 := by kernel_rfl
  c46 := by kernel_rfl
  c53 := by kernel_rfl
  c75 := by kernel_rfl
  c80 := by kernel_rfl
  c167 := by kernel_rfl
  c175 := by kernel_rfl }
open Go.RowKit in
theorem Tryz.internal_strconv_ParseInt_10 (s : ByteArray) (hne : s.size ≠ 0) (hmax : s.size ≤ 9223372036854775806) (w : World) :
    Calls Tryz.prog 70 #[.string s, .int .i64 10, .int .i64 0] w fun e w' => e = .returned (Lib.intTuple 99 (Lib.atoiSat s.data.toList) (Lib.atoiAll s.data.toList)) ∧ (w' = w ∨ ∃ t, w' = Lib.bytesWorld w 5 t) := Any.internal_strconv_ParseInt_10 Tryz.laysC247 s hne hmax w
def Tryz.laysM280_ren : Go.Shelf.Ren := ⟨fun | 280 => 75 | 316 => 89 | n => n, fun | 9 => 9 | 168 => 102 | 75 => 64 | 210 => 117 | 3 => 3 | 4 => 4 | 37 => 57 | 0 => 0 | 127 => 78 | 80 => 68 | 5 => 5 | n => n, fun | 16 => 2 | n => n⟩
theorem Tryz.laysM280 : Go.Proofs.LaysM.n280 Tryz.prog Tryz.laysM280_ren := {
  mixed := by kernel_rfl
  f280 := Tryz.func75.trans (congrArg some (by kernel_rfl))
  f316 := Tryz.func89.trans (congrArg some (by kernel_rfl))
  t0 := Tryz.underlying0
  a0 := Tryz.isAgg0
  z0 := Tryz.sizeOf0
  v0 := Tryz.zeroValue0
  t3 := Tryz.underlying3
  a3 := Tryz.isAgg3
  z3 := Tryz.sizeOf3
  v3 := Tryz.zeroValue3
  t4 := Tryz.underlying4
  a4 := Tryz.isAgg4
  z4 := Tryz.sizeOf4
  v4 := Tryz.zeroValue4
  t9 := Tryz.underlying9
  a9 := Tryz.isAgg9
  z9 := Tryz.sizeOf9
  v9 := Tryz.zeroValue9
  t37 := Tryz.underlying57
  a37 := Tryz.isAgg57
  z37 := Tryz.sizeOf57
  v37 := Tryz.zeroValue57
  t75 := Tryz.underlying64
  a75 := Tryz.isAgg64
  z75 := Tryz.sizeOf64
  v75 := Tryz.zeroValue64
  t127 := Tryz.underlying78
  a127 := Tryz.isAgg78
  z127 := Tryz.sizeOf78
  v127 := Tryz.zeroValue78
  t168 := Tryz.underlying102
  a168 := Tryz.isAgg102
  z168 := Tryz.sizeOf102
  v168 := Tryz.zeroValue102
  t210 := Tryz.underlying117
  a210 := Tryz.isAgg117
  z210 := Tryz.sizeOf117
  v210 := Tryz.zeroValue117
  g16 := by kernel_rfl
  t5 := Tryz.underlying5
  a5 := Tryz.isAgg5
  z5 := Tryz.sizeOf5
  v5 := Tryz.zeroValue5
  t80 := Tryz.underlying68
  a80 := Tryz.isAgg68
  z80 := Tryz.sizeOf68
  v80 := Tryz.zeroValue68
  i0 := by kernel_rfl
  i3 := by kernel_rfl
  i4 := by kernel_rfl
  i5 := by kernel_rfl
  i9 := by kernel_rfl
  i37 := by kernel_rfl
  i75 := by kernel_rfl
  i80 := by kernel_rfl
  i127 := by kernel_rfl
  i168 := by kernel_rfl
  i210 := by kernel_rfl
  m16 := by kernel_rfl }
open Go.RowKit in
theorem Tryz.strconv_rangeError (fn s : ByteArray) (ev : Value) (w : World) (hlim : s.size ≤ 281474976710656) (hv : w.cell? ⟨2, 0, none⟩ = some ev) (hev : ev = .nilIface ∨ ∃ te pe, ev = .iface te pe) :
    Calls Tryz.prog 75 #[.string fn, .string s] w fun e w' => ∃ N, e = .returned (.pointer (some ⟨N, 0, none⟩)) ∧ w.heap.size ≤ N ∧ w'.heap[N]? = some (.cells #[.string fn, .string s, ev] 117 (0, 0)) ∧ Below w.heap.size w w' := Any.strconv_rangeError Tryz.laysM280 fn s ev w hlim hv hev
open Go.RowKit in
theorem Tryz.strconv_toError_range (fn s : ByteArray) (base bits : Int) (ev : Value) (w : World) (hlim : s.size ≤ 281474976710656) (hv : w.cell? ⟨2, 0, none⟩ = some ev) (hev : ev = .nilIface ∨ ∃ te pe, ev = .iface te pe) :
    Calls Tryz.prog 55 #[.string fn, .string s, .int .i64 base, .int .i64 bits, .iface 99 (.int .i64 1)] w fun e w' => ∃ N, e = .returned (.iface 102 (.pointer (some ⟨N, 0, none⟩))) ∧ w.heap.size ≤ N ∧ w'.heap[N]? = some (.cells #[.string fn, .string s, ev] 117 (0, 0)) ∧ Below w.heap.size w w' := Any.strconv_toError_range Tryz.laysC245 fn s base bits ev w hlim hv hev
open Go.RowKit in
theorem Tryz.internal_strconv_ParseUint_empty (base bits : Int) (w : World) :
    Calls Tryz.prog 54 #[.string ⟨#[]⟩, .int .i64 base, .int .i64 bits] w fun e w' => e = .returned (.tuple #[.int .u64 0, .iface 99 (.int .i64 2)]) ∧ w' = w := Any.internal_strconv_ParseUint_empty Tryz.lays287 base bits w
open Go.RowKit in
theorem Tryz.internal_strconv_ParseUint_10_b64 (t : ByteArray) (hne : t.size ≠ 0) (hmax : t.size ≤ 9223372036854775806) (w : World) :
    Calls Tryz.prog 54 #[.string t, .int .i64 10, .int .i64 64] w fun e w' => e = .returned (Lib.uintTuple 99 (Lib.parseUint10 0 t.data.toList)) ∧ w' = Lib.bytesWorld w 5 t := Any.internal_strconv_ParseUint_10_b64 Tryz.lays287 t hne hmax w
open Go.RowKit in
theorem Tryz.internal_strconv_ParseUint_10_b32 (t : ByteArray) (hne : t.size ≠ 0) (hmax : t.size ≤ 9223372036854775806) (w : World) :
    Calls Tryz.prog 54 #[.string t, .int .i64 10, .int .i64 32] w fun e w' => e = .returned (Lib.uintTupleM 99 4294967295 (Lib.parseUintM 4294967295 0 t.data.toList)) ∧ w' = Lib.bytesWorld w 5 t := Any.internal_strconv_ParseUint_10_b32 Tryz.lays287 t hne hmax w
open Go.RowKit in
theorem Tryz.internal_strconv_ParseUint_10_b16 (t : ByteArray) (hne : t.size ≠ 0) (hmax : t.size ≤ 9223372036854775806) (w : World) :
    Calls Tryz.prog 54 #[.string t, .int .i64 10, .int .i64 16] w fun e w' => e = .returned (Lib.uintTupleM 99 65535 (Lib.parseUintM 65535 0 t.data.toList)) ∧ w' = Lib.bytesWorld w 5 t := Any.internal_strconv_ParseUint_10_b16 Tryz.lays287 t hne hmax w
open Go.RowKit in
theorem Tryz.internal_strconv_ParseUint_10_b8 (t : ByteArray) (hne : t.size ≠ 0) (hmax : t.size ≤ 9223372036854775806) (w : World) :
    Calls Tryz.prog 54 #[.string t, .int .i64 10, .int .i64 8] w fun e w' => e = .returned (Lib.uintTupleM 99 255 (Lib.parseUintM 255 0 t.data.toList)) ∧ w' = Lib.bytesWorld w 5 t := Any.internal_strconv_ParseUint_10_b8 Tryz.lays287 t hne hmax w
open Go.RowKit in
theorem Tryz.internal_strconv_ParseUint_10_at0 (t : ByteArray) (hmax : t.size ≤ 9223372036854775806) (w : World) :
    Calls Tryz.prog 54 #[.string t, .int .i64 10, .int .i64 0] w fun e w' => e = .returned (Lib.uintTupleM 99 18446744073709551615 (Lib.parseUintB 64 t.data.toList)) ∧ (w' = w ∨ w' = Lib.bytesWorld w 5 t) := Any.internal_strconv_ParseUint_10_at0 Tryz.lays287 t hmax w
open Go.RowKit in
theorem Tryz.internal_strconv_ParseUint_10_at64 (t : ByteArray) (hmax : t.size ≤ 9223372036854775806) (w : World) :
    Calls Tryz.prog 54 #[.string t, .int .i64 10, .int .i64 64] w fun e w' => e = .returned (Lib.uintTupleM 99 18446744073709551615 (Lib.parseUintB 64 t.data.toList)) ∧ (w' = w ∨ w' = Lib.bytesWorld w 5 t) := Any.internal_strconv_ParseUint_10_at64 Tryz.lays287 t hmax w
open Go.RowKit in
theorem Tryz.internal_strconv_ParseUint_10_at32 (t : ByteArray) (hmax : t.size ≤ 9223372036854775806) (w : World) :
    Calls Tryz.prog 54 #[.string t, .int .i64 10, .int .i64 32] w fun e w' => e = .returned (Lib.uintTupleM 99 4294967295 (Lib.parseUintB 32 t.data.toList)) ∧ (w' = w ∨ w' = Lib.bytesWorld w 5 t) := Any.internal_strconv_ParseUint_10_at32 Tryz.lays287 t hmax w
open Go.RowKit in
theorem Tryz.internal_strconv_ParseUint_10_at16 (t : ByteArray) (hmax : t.size ≤ 9223372036854775806) (w : World) :
    Calls Tryz.prog 54 #[.string t, .int .i64 10, .int .i64 16] w fun e w' => e = .returned (Lib.uintTupleM 99 65535 (Lib.parseUintB 16 t.data.toList)) ∧ (w' = w ∨ w' = Lib.bytesWorld w 5 t) := Any.internal_strconv_ParseUint_10_at16 Tryz.lays287 t hmax w
open Go.RowKit in
theorem Tryz.internal_strconv_ParseUint_10_at8 (t : ByteArray) (hmax : t.size ≤ 9223372036854775806) (w : World) :
    Calls Tryz.prog 54 #[.string t, .int .i64 10, .int .i64 8] w fun e w' => e = .returned (Lib.uintTupleM 99 255 (Lib.parseUintB 8 t.data.toList)) ∧ (w' = w ∨ w' = Lib.bytesWorld w 5 t) := Any.internal_strconv_ParseUint_10_at8 Tryz.lays287 t hmax w
open Go.RowKit in
theorem Tryz.internal_strconv_ParseInt_10_at64 (s : ByteArray) (hne : s.size ≠ 0) (hmax : s.size ≤ 9223372036854775806) (w : World) :
    Calls Tryz.prog 70 #[.string s, .int .i64 10, .int .i64 64] w fun e w' => e = .returned (Lib.intTuple 99 (Lib.intSat 64 s.data.toList) (Lib.parseIntB 64 s.data.toList)) ∧ (w' = w ∨ ∃ t, w' = Lib.bytesWorld w 5 t) := Any.internal_strconv_ParseInt_10_at64 Tryz.laysC247 s hne hmax w
open Go.RowKit in
theorem Tryz.internal_strconv_ParseInt_10_at32 (s : ByteArray) (hne : s.size ≠ 0) (hmax : s.size ≤ 9223372036854775806) (w : World) :
    Calls Tryz.prog 70 #[.string s, .int .i64 10, .int .i64 32] w fun e w' => e = .returned (Lib.intTuple 99 (Lib.intSat 32 s.data.toList) (Lib.parseIntB 32 s.data.toList)) ∧ (w' = w ∨ ∃ t, w' = Lib.bytesWorld w 5 t) := Any.internal_strconv_ParseInt_10_at32 Tryz.laysC247 s hne hmax w
open Go.RowKit in
theorem Tryz.internal_strconv_ParseInt_10_at16 (s : ByteArray) (hne : s.size ≠ 0) (hmax : s.size ≤ 9223372036854775806) (w : World) :
    Calls Tryz.prog 70 #[.string s, .int .i64 10, .int .i64 16] w fun e w' => e = .returned (Lib.intTuple 99 (Lib.intSat 16 s.data.toList) (Lib.parseIntB 16 s.data.toList)) ∧ (w' = w ∨ ∃ t, w' = Lib.bytesWorld w 5 t) := Any.internal_strconv_ParseInt_10_at16 Tryz.laysC247 s hne hmax w
open Go.RowKit in
theorem Tryz.internal_strconv_ParseInt_10_at8 (s : ByteArray) (hne : s.size ≠ 0) (hmax : s.size ≤ 9223372036854775806) (w : World) :
    Calls Tryz.prog 70 #[.string s, .int .i64 10, .int .i64 8] w fun e w' => e = .returned (Lib.intTuple 99 (Lib.intSat 8 s.data.toList) (Lib.parseIntB 8 s.data.toList)) ∧ (w' = w ∨ ∃ t, w' = Lib.bytesWorld w 5 t) := Any.internal_strconv_ParseInt_10_at8 Tryz.laysC247 s hne hmax w
open Go.RowKit in
theorem Tryz.internal_strconv_ParseInt_10_all0 (s : ByteArray) (hmax : s.size ≤ 9223372036854775806) (w : World) :
    Calls Tryz.prog 70 #[.string s, .int .i64 10, .int .i64 0] w fun e w' => e = .returned (Lib.intTuple 99 (Lib.intSat 64 s.data.toList) (Lib.parseIntB 64 s.data.toList)) ∧ (w' = w ∨ ∃ t, w' = Lib.bytesWorld w 5 t) := Any.internal_strconv_ParseInt_10_all0 Tryz.laysC247 s hmax w
open Go.RowKit in
theorem Tryz.internal_strconv_ParseInt_10_all64 (s : ByteArray) (hmax : s.size ≤ 9223372036854775806) (w : World) :
    Calls Tryz.prog 70 #[.string s, .int .i64 10, .int .i64 64] w fun e w' => e = .returned (Lib.intTuple 99 (Lib.intSat 64 s.data.toList) (Lib.parseIntB 64 s.data.toList)) ∧ (w' = w ∨ ∃ t, w' = Lib.bytesWorld w 5 t) := Any.internal_strconv_ParseInt_10_all64 Tryz.laysC247 s hmax w
open Go.RowKit in
theorem Tryz.internal_strconv_ParseInt_10_all32 (s : ByteArray) (hmax : s.size ≤ 9223372036854775806) (w : World) :
    Calls Tryz.prog 70 #[.string s, .int .i64 10, .int .i64 32] w fun e w' => e = .returned (Lib.intTuple 99 (Lib.intSat 32 s.data.toList) (Lib.parseIntB 32 s.data.toList)) ∧ (w' = w ∨ ∃ t, w' = Lib.bytesWorld w 5 t) := Any.internal_strconv_ParseInt_10_all32 Tryz.laysC247 s hmax w
open Go.RowKit in
theorem Tryz.internal_strconv_ParseInt_10_all16 (s : ByteArray) (hmax : s.size ≤ 9223372036854775806) (w : World) :
    Calls Tryz.prog 70 #[.string s, .int .i64 10, .int .i64 16] w fun e w' => e = .returned (Lib.intTuple 99 (Lib.intSat 16 s.data.toList) (Lib.parseIntB 16 s.data.toList)) ∧ (w' = w ∨ ∃ t, w' = Lib.bytesWorld w 5 t) := Any.internal_strconv_ParseInt_10_all16 Tryz.laysC247 s hmax w
open Go.RowKit in
theorem Tryz.internal_strconv_ParseInt_10_all8 (s : ByteArray) (hmax : s.size ≤ 9223372036854775806) (w : World) :
    Calls Tryz.prog 70 #[.string s, .int .i64 10, .int .i64 8] w fun e w' => e = .returned (Lib.intTuple 99 (Lib.intSat 8 s.data.toList) (Lib.parseIntB 8 s.data.toList)) ∧ (w' = w ∨ ∃ t, w' = Lib.bytesWorld w 5 t) := Any.internal_strconv_ParseInt_10_all8 Tryz.laysC247 s hmax w
def Tryz.laysC174_ren : Go.Shelf.Ren := ⟨fun | 174 => 51 | 247 => 70 | 245 => 55 | 287 => 54 | 279 => 74 | 280 => 75 | 281 => 76 | 282 => 77 | 321 => 72 | 322 => 73 | 316 => 89 | 171 => 91 | 205 => 90 | 243 => 101 | 246 => 71 | 283 => 85 | 284 => 86 | 285 => 87 | 286 => 88 | 129 => 97 | 317 => 96 | 318 => 98 | 319 => 99 | 320 => 100 | 337 => 105 | 338 => 106 | n => n, fun | 9 => 9 | 3 => 3 | 2 => 2 | 75 => 64 | 85 => 79 | 4 => 4 | 167 => 99 | 5 => 5 | 53 => 72 | 175 => 73 | 46 => 101 | 168 => 102 | 37 => 57 | 0 => 0 | 210 => 117 | 21 => 21 | 127 => 78 | 145 => 130 | 143 => 128 | 171 => 111 | 173 => 114 | 212 => 123 | 51 => 124 | 20 => 20 | 213 => 125 | 232 => 138 | 233 => 139 | 80 => 68 | n => n, fun | 15 => 1 | 16 => 2 | 17 => 3 | 18 => 6 | 19 => 7 | n => n⟩
theorem Tryz.laysC174 : Go.Proofs.LaysC.n174 Tryz.prog Tryz.laysC174_ren := {
  mixed := by kernel_rfl
  f129 := Tryz.func97.trans (congrArg some (by kernel_rfl))
  f171 := Tryz.func91.trans (congrArg some (by kernel_rfl))
  f174 := Tryz.func51.trans (congrArg some (by kernel_rfl))
  f205 := Tryz.func90.trans (congrArg some (by kernel_rfl))
  f243 := Tryz.func101.trans (congrArg some (by kernel_rfl))
  f245 := Tryz.func55.trans (congrArg some (by kernel_rfl))
  f246 := Tryz.func71.trans (congrArg some (by kernel_rfl))
  f247 := Tryz.func70.trans (congrArg some (by kernel_rfl))
  f279 := Tryz.func74.trans (congrArg some (by kernel_rfl))
  f280 := Tryz.func75.trans (congrArg some (by kernel_rfl))
  f281 := Tryz.func76.trans (congrArg some (by kernel_rfl))
  f282 := Tryz.func77.trans (congrArg some (by kernel_rfl))
  f283 := Tryz.func85.trans (congrArg some (by kernel_rfl))
  f284 := Tryz.func86.trans (congrArg some (by kernel_rfl))
  f285 := Tryz.func87.trans (congrArg some (by kernel_rfl))
  f286 := Tryz.func88.trans (congrArg some (by kernel_rfl))
  f287 := Tryz.func54.trans (congrArg some (by kernel_rfl))
  f316 := Tryz.func89.trans (congrArg some (by kernel_rfl))
  f317 := Tryz.func96.trans (congrArg some (by kernel_rfl))
  f318 := Tryz.func98.trans (congrArg some (by kernel_rfl))
  f319 := Tryz.func99.trans (congrArg some (by kernel_rfl))
  f320 := Tryz.func100.trans (congrArg some (by kernel_rfl))
  f321 := Tryz.func72.trans (congrArg some (by kernel_rfl))
  f322 := Tryz.func73.trans (congrArg some (by kernel_rfl))
  f337 := Tryz.func105.trans (congrArg some (by kernel_rfl))
  f338 := Tryz.func106.trans (congrArg some (by kernel_rfl))
  t0 := Tryz.underlying0
  a0 := Tryz.isAgg0
  z0 := Tryz.sizeOf0
  v0 := Tryz.zeroValue0
  t2 := Tryz.underlying2
  a2 := Tryz.isAgg2
  z2 := Tryz.sizeOf2
  v2 := Tryz.zeroValue2
  t3 := Tryz.underlying3
  a3 := Tryz.isAgg3
  z3 := Tryz.sizeOf3
  v3 := Tryz.zeroValue3
  t4 := Tryz.underlying4
  a4 := Tryz.isAgg4
  z4 := Tryz.sizeOf4
  v4 := Tryz.zeroValue4
  t5 := Tryz.underlying5
  a5 := Tryz.isAgg5
  z5 := Tryz.sizeOf5
  v5 := Tryz.zeroValue5
  t9 := Tryz.underlying9
  a9 := Tryz.isAgg9
  z9 := Tryz.sizeOf9
  v9 := Tryz.zeroValue9
  t20 := Tryz.underlying20
  a20 := Tryz.isAgg20
  z20 := Tryz.sizeOf20
  v20 := Tryz.zeroValue20
  t21 := Tryz.underlying21
  a21 := Tryz.isAgg21
  z21 := Tryz.sizeOf21
  v21 := Tryz.zeroValue21
  t37 := Tryz.underlying57
  a37 := Tryz.isAgg57
  z37 := Tryz.sizeOf57
  v37 := Tryz.zeroValue57
  t46 := Tryz.underlying101
  a46 := Tryz.isAgg101
  z46 := Tryz.sizeOf101
  v46 := Tryz.zeroValue101
  t51 := Tryz.underlying124
  a51 := Tryz.isAgg124
  z51 := Tryz.sizeOf124
  v51 := Tryz.zeroValue124
  t53 := Tryz.underlying72
  a53 := Tryz.isAgg72
  z53 := Tryz.sizeOf72
  v53 := Tryz.zeroValue72
  t75 := Tryz.underlying64
  a75 := Tryz.isAgg64
  z75 := Tryz.sizeOf64
  v75 := Tryz.zeroValue64
  t85 := Tryz.underlying79
  a85 := Tryz.isAgg79
  z85 := Tryz.sizeOf79
  v85 := Tryz.zeroValue79
  t127 := Tryz.underlying78
  a127 := Tryz.isAgg78
  z127 := Tryz.sizeOf78
  v127 := Tryz.zeroValue78
  t143 := Tryz.underlying128
  a143 := Tryz.isAgg128
  z143 := Tryz.sizeOf128
  v143 := Tryz.zeroValue128
  t145 := Tryz.underlying130
  a145 := Tryz.isAgg130
  z145 := Tryz.sizeOf130
  v145 := Tryz.zeroValue130
  t167 := Tryz.underlying99
  a167 := Tryz.isAgg99
  z167 := Tryz.sizeOf99
  v167 := Tryz.zeroValue99
  t168 := Tryz.underlying102
  a168 := Tryz.isAgg102
  z168 := Tryz.sizeOf102
  v168 := Tryz.zeroValue102
  t171 := Tryz.underlying111
  a171 := Tryz.isAgg111
  z171 := Tryz.sizeOf111
  v171 := Tryz.zeroValue111
  t173 := Tryz.underlying114
  a173 := Tryz.isAgg114
  z173 := Tryz.sizeOf114
  v173 := Tryz.zeroValue114
  t175 := Tryz.underlying73
  a175 := Tryz.isAgg73
  z175 := Tryz.sizeOf73
  v175 := Tryz.zeroValue73
  t210 := Tryz.underlying117
  a210 := Tryz.isAgg117
  z210 := Tryz.sizeOf117
  v210 := Tryz.zeroValue117
  t212 := Tryz.underlying123
  a212 := Tryz.isAgg123
  z212 := Tryz.sizeOf123
  v212 := Tryz.zeroValue123
  t213 := Tryz.underlying125
  a213 := Tryz.isAgg125
  z213 := Tryz.sizeOf125
  t232 := Tryz.underlying138
  a232 := Tryz.isAgg138
  z232 := Tryz.sizeOf138
  v232 := Tryz.zeroValue138
  t233 := Tryz.underlying139
  a233 := Tryz.isAgg139
  z233 := Tryz.sizeOf139
  v233 := Tryz.zeroValue139
  g15 := by kernel_rfl
  g16 := by kernel_rfl
  g17 := by kernel_rfl
  g18 := by kernel_rfl
  g19 := by kernel_rfl
  t80 := Tryz.underlying68
  a80 := Tryz.isAgg68
  z80 := Tryz.sizeOf68
  v80 := Tryz.zeroValue68
  i0 := by kernel_rfl
  i2 := by kernel_rfl
  i3 := by kernel_rfl
  i4 := by kernel_rfl
  i5 := by kernel_rfl
  i9 := by kernel_rfl
  i20 := by kernel_rfl
  i21 := by kernel_rfl
  i37 := by kernel_rfl
  i46 := by kernel_rfl
  i51 := by kernel_rfl
  i53 := by kernel_rfl
  i75 := by kernel_rfl
  i80 := by kernel_rfl
  i85 := by kernel_rfl
  i127 := by kernel_rfl
  i143 := by kernel_rfl
  i145 := by kernel_rfl
  i167 := by kernel_rfl
  i168 := by kernel_rfl
  i171 := by kernel_rfl
  i173 := by kernel_rfl
  i175 := by kernel_rfl
  i210 := by kernel_rfl
  i212 := by kernel_rfl
  i232 := by kernel_rfl
  i233 := by kernel_rfl
  m15 := by kernel_rfl
  m16 := by kernel_rfl
  m17 := by kernel_rfl
  m18 := by kernel_rfl
  m19 := by kernel_rfl
  c0 := by kernel_rfl
  c2 := by kernel_rfl
  c3 := by kernel_rfl
  c4 := by kernel_rfl
  c5 := by kernel_rfl
  c9 := by kernel_rfl
  c20 := by kernel_rfl
  c21 := by kernel_rfl
  c37 := by kernel_rfl
  c46 := by kernel_rfl
  c51 := by kernel_rfl
  c53 := by kernel_rfl
  c75 := by kernel_rfl
  c80 := by kernel_rfl
  c85 := by kernel_rfl
  c127 := by kernel_rfl
  c143 := by kernel_rfl
  c145 := by kernel_rfl
  c167 := by kernel_rfl
  c168 := by kernel_rfl
  c171 := by kernel_rfl
  c173 := by kernel_rfl
  c175 := by kernel_rfl
  c210 := by kernel_rfl
  c212 := by kernel_rfl
  c213 := by kernel_rfl
  c232 := by kernel_rfl
  c233 := by kernel_rfl }
open Go.RowKit in
theorem Tryz.strconv_ParseInt_10_at0_ok (s : ByteArray) (hmax : s.size ≤ 9223372036854775806) (v : Int) (h : Lib.parseIntB 64 s.data.toList = .ok v) (w : World) :
    Calls Tryz.prog 51 #[.string s, .int .i64 10, .int .i64 0] w fun e w' => e = .returned (.tuple #[.int .i64 v, .nilIface]) ∧ (w' = w ∨ ∃ t, w' = Lib.bytesWorld w 5 t) := Any.strconv_ParseInt_10_at0_ok Tryz.laysC174 s hmax v h w
open Go.RowKit in
theorem Tryz.strconv_ParseInt_10_at0_syntax (s : ByteArray) (hlim : s.size ≤ 281474976710656) (h : Lib.parseIntB 64 s.data.toList = .«syntax») (ev : Value) (w : World) (hv : w.cell? ⟨1, 0, none⟩ = some ev) (hev : ev = .nilIface ∨ ∃ te pe, ev = .iface te pe) :
    Calls Tryz.prog 51 #[.string s, .int .i64 10, .int .i64 0] w fun e w' => ∃ N, e = .returned (.tuple #[.int .i64 (0), .iface 102 (.pointer (some ⟨N, 0, none⟩))]) ∧ w.heap.size ≤ N ∧ w'.heap[N]? = some (.cells #[.string ⟨#[80, 97, 114, 115, 101, 73, 110, 116]⟩, .string s, ev] 117 (0, 0)) ∧ Below w.heap.size w w' := Any.strconv_ParseInt_10_at0_syntax Tryz.laysC174 s hlim h ev w hv hev
open Go.RowKit in
theorem Tryz.strconv_ParseInt_10_at0_range (s : ByteArray) (hlim : s.size ≤ 281474976710656) (h : Lib.parseIntB 64 s.data.toList = .range) (ev : Value) (w : World) (hv : w.cell? ⟨2, 0, none⟩ = some ev) (hev : ev = .nilIface ∨ ∃ te pe, ev = .iface te pe) :
    Calls Tryz.prog 51 #[.string s, .int .i64 10, .int .i64 0] w fun e w' => ∃ N, e = .returned (.tuple #[.int .i64 (Lib.intSat 64 s.data.toList), .iface 102 (.pointer (some ⟨N, 0, none⟩))]) ∧ w.heap.size ≤ N ∧ w'.heap[N]? = some (.cells #[.string ⟨#[80, 97, 114, 115, 101, 73, 110, 116]⟩, .string s, ev] 117 (0, 0)) ∧ Below w.heap.size w w' := Any.strconv_ParseInt_10_at0_range Tryz.laysC174 s hlim h ev w hv hev
open Go.RowKit in
theorem Tryz.strconv_ParseInt_10_at64_ok (s : ByteArray) (hmax : s.size ≤ 9223372036854775806) (v : Int) (h : Lib.parseIntB 64 s.data.toList = .ok v) (w : World) :
    Calls Tryz.prog 51 #[.string s, .int .i64 10, .int .i64 64] w fun e w' => e = .returned (.tuple #[.int .i64 v, .nilIface]) ∧ (w' = w ∨ ∃ t, w' = Lib.bytesWorld w 5 t) := Any.strconv_ParseInt_10_at64_ok Tryz.laysC174 s hmax v h w
open Go.RowKit in
theorem Tryz.strconv_ParseInt_10_at64_syntax (s : ByteArray) (hlim : s.size ≤ 281474976710656) (h : Lib.parseIntB 64 s.data.toList = .«syntax») (ev : Value) (w : World) (hv : w.cell? ⟨1, 0, none⟩ = some ev) (hev : ev = .nilIface ∨ ∃ te pe, ev = .iface te pe) :
    Calls Tryz.prog 51 #[.string s, .int .i64 10, .int .i64 64] w fun e w' => ∃ N, e = .returned (.tuple #[.int .i64 (0), .iface 102 (.pointer (some ⟨N, 0, none⟩))]) ∧ w.heap.size ≤ N ∧ w'.heap[N]? = some (.cells #[.string ⟨#[80, 97, 114, 115, 101, 73, 110, 116]⟩, .string s, ev] 117 (0, 0)) ∧ Below w.heap.size w w' := Any.strconv_ParseInt_10_at64_syntax Tryz.laysC174 s hlim h ev w hv hev
open Go.RowKit in
theorem Tryz.strconv_ParseInt_10_at64_range (s : ByteArray) (hlim : s.size ≤ 281474976710656) (h : Lib.parseIntB 64 s.data.toList = .range) (ev : Value) (w : World) (hv : w.cell? ⟨2, 0, none⟩ = some ev) (hev : ev = .nilIface ∨ ∃ te pe, ev = .iface te pe) :
    Calls Tryz.prog 51 #[.string s, .int .i64 10, .int .i64 64] w fun e w' => ∃ N, e = .returned (.tuple #[.int .i64 (Lib.intSat 64 s.data.toList), .iface 102 (.pointer (some ⟨N, 0, none⟩))]) ∧ w.heap.size ≤ N ∧ w'.heap[N]? = some (.cells #[.string ⟨#[80, 97, 114, 115, 101, 73, 110, 116]⟩, .string s, ev] 117 (0, 0)) ∧ Below w.heap.size w w' := Any.strconv_ParseInt_10_at64_range Tryz.laysC174 s hlim h ev w hv hev
open Go.RowKit in
theorem Tryz.strconv_ParseInt_10_at32_ok (s : ByteArray) (hmax : s.size ≤ 9223372036854775806) (v : Int) (h : Lib.parseIntB 32 s.data.toList = .ok v) (w : World) :
    Calls Tryz.prog 51 #[.string s, .int .i64 10, .int .i64 32] w fun e w' => e = .returned (.tuple #[.int .i64 v, .nilIface]) ∧ (w' = w ∨ ∃ t, w' = Lib.bytesWorld w 5 t) := Any.strconv_ParseInt_10_at32_ok Tryz.laysC174 s hmax v h w
open Go.RowKit in
theorem Tryz.strconv_ParseInt_10_at32_syntax (s : ByteArray) (hlim : s.size ≤ 281474976710656) (h : Lib.parseIntB 32 s.data.toList = .«syntax») (ev : Value) (w : World) (hv : w.cell? ⟨1, 0, none⟩ = some ev) (hev : ev = .nilIface ∨ ∃ te pe, ev = .iface te pe) :
    Calls Tryz.prog 51 #[.string s, .int .i64 10, .int .i64 32] w fun e w' => ∃ N, e = .returned (.tuple #[.int .i64 (0), .iface 102 (.pointer (some ⟨N, 0, none⟩))]) ∧ w.heap.size ≤ N ∧ w'.heap[N]? = some (.cells #[.string ⟨#[80, 97, 114, 115, 101, 73, 110, 116]⟩, .string s, ev] 117 (0, 0)) ∧ Below w.heap.size w w' := Any.strconv_ParseInt_10_at32_syntax Tryz.laysC174 s hlim h ev w hv hev
open Go.RowKit in
theorem Tryz.strconv_ParseInt_10_at32_range (s : ByteArray) (hlim : s.size ≤ 281474976710656) (h : Lib.parseIntB 32 s.data.toList = .range) (ev : Value) (w : World) (hv : w.cell? ⟨2, 0, none⟩ = some ev) (hev : ev = .nilIface ∨ ∃ te pe, ev = .iface te pe) :
    Calls Tryz.prog 51 #[.string s, .int .i64 10, .int .i64 32] w fun e w' => ∃ N, e = .returned (.tuple #[.int .i64 (Lib.intSat 32 s.data.toList), .iface 102 (.pointer (some ⟨N, 0, none⟩))]) ∧ w.heap.size ≤ N ∧ w'.heap[N]? = some (.cells #[.string ⟨#[80, 97, 114, 115, 101, 73, 110, 116]⟩, .string s, ev] 117 (0, 0)) ∧ Below w.heap.size w w' := Any.strconv_ParseInt_10_at32_range Tryz.laysC174 s hlim h ev w hv hev
open Go.RowKit in
theorem Tryz.strconv_ParseInt_10_at16_ok (s : ByteArray) (hmax : s.size ≤ 9223372036854775806) (v : Int) (h : Lib.parseIntB 16 s.data.toList = .ok v) (w : World) :
    Calls Tryz.prog 51 #[.string s, .int .i64 10, .int .i64 16] w fun e w' => e = .returned (.tuple #[.int .i64 v, .nilIface]) ∧ (w' = w ∨ ∃ t, w' = Lib.bytesWorld w 5 t) := Any.strconv_ParseInt_10_at16_ok Tryz.laysC174 s hmax v h w
open Go.RowKit in
theorem Tryz.strconv_ParseInt_10_at16_syntax (s : ByteArray) (hlim : s.size ≤ 281474976710656) (h : Lib.parseIntB 16 s.data.toList = .«syntax») (ev : Value) (w : World) (hv : w.cell? ⟨1, 0, none⟩ = some ev) (hev : ev = .nilIface ∨ ∃ te pe, ev = .iface te pe) :
    Calls Tryz.prog 51 #[.string s, .int .i64 10, .int .i64 16] w fun e w' => ∃ N, e = .returned (.tuple #[.int .i64 (0), .iface 102 (.pointer (some ⟨N, 0, none⟩))]) ∧ w.heap.size ≤ N ∧ w'.heap[N]? = some (.cells #[.string ⟨#[80, 97, 114, 115, 101, 73, 110, 116]⟩, .string s, ev] 117 (0, 0)) ∧ Below w.heap.size w w' := Any.strconv_ParseInt_10_at16_syntax Tryz.laysC174 s hlim h ev w hv hev
open Go.RowKit in
theorem Tryz.strconv_ParseInt_10_at16_range (s : ByteArray) (hlim : s.size ≤ 281474976710656) (h : Lib.parseIntB 16 s.data.toList = .range) (ev : Value) (w : World) (hv : w.cell? ⟨2, 0, none⟩ = some ev) (hev : ev = .nilIface ∨ ∃ te pe, ev = .iface te pe) :
    Calls Tryz.prog 51 #[.string s, .int .i64 10, .int .i64 16] w fun e w' => ∃ N, e = .returned (.tuple #[.int .i64 (Lib.intSat 16 s.data.toList), .iface 102 (.pointer (some ⟨N, 0, none⟩))]) ∧ w.heap.size ≤ N ∧ w'.heap[N]? = some (.cells #[.string ⟨#[80, 97, 114, 115, 101, 73, 110, 116]⟩, .string s, ev] 117 (0, 0)) ∧ Below w.heap.size w w' := Any.strconv_ParseInt_10_at16_range Tryz.laysC174 s hlim h ev w hv hev
open Go.RowKit in
theorem Tryz.strconv_ParseInt_10_at8_ok (s : ByteArray) (hmax : s.size ≤ 9223372036854775806) (v : Int) (h : Lib.parseIntB 8 s.data.toList = .ok v) (w : World) :
    Calls Tryz.prog 51 #[.string s, .int .i64 10, .int .i64 8] w fun e w' => e = .returned (.tuple #[.int .i64 v, .nilIface]) ∧ (w' = w ∨ ∃ t, w' = Lib.bytesWorld w 5 t) := Any.strconv_ParseInt_10_at8_ok Tryz.laysC174 s hmax v h w
open Go.RowKit in
theorem Tryz.strconv_ParseInt_10_at8_syntax (s : ByteArray) (hlim : s.size ≤ 281474976710656) (h : Lib.parseIntB 8 s.data.toList = .«syntax») (ev : Value) (w : World) (hv : w.cell? ⟨1, 0, none⟩ = some ev) (hev : ev = .nilIface ∨ ∃ te pe, ev = .iface te pe) :
    Calls Tryz.prog 51 #[.string s, .int .i64 10, .int .i64 8] w fun e w' => ∃ N, e = .returned (.tuple #[.int .i64 (0), .iface 102 (.pointer (some ⟨N, 0, none⟩))]) ∧ w.heap.size ≤ N ∧ w'.heap[N]? = some (.cells #[.string ⟨#[80, 97, 114, 115, 101, 73, 110, 116]⟩, .string s, ev] 117 (0, 0)) ∧ Below w.heap.size w w' := Any.strconv_ParseInt_10_at8_syntax Tryz.laysC174 s hlim h ev w hv hev
open Go.RowKit in
theorem Tryz.strconv_ParseInt_10_at8_range (s : ByteArray) (hlim : s.size ≤ 281474976710656) (h : Lib.parseIntB 8 s.data.toList = .range) (ev : Value) (w : World) (hv : w.cell? ⟨2, 0, none⟩ = some ev) (hev : ev = .nilIface ∨ ∃ te pe, ev = .iface te pe) :
    Calls Tryz.prog 51 #[.string s, .int .i64 10, .int .i64 8] w fun e w' => ∃ N, e = .returned (.tuple #[.int .i64 (Lib.intSat 8 s.data.toList), .iface 102 (.pointer (some ⟨N, 0, none⟩))]) ∧ w.heap.size ≤ N ∧ w'.heap[N]? = some (.cells #[.string ⟨#[80, 97, 114, 115, 101, 73, 110, 116]⟩, .string s, ev] 117 (0, 0)) ∧ Below w.heap.size w w' := Any.strconv_ParseInt_10_at8_range Tryz.laysC174 s hlim h ev w hv hev
open Go.RowKit in
theorem Tryz.strconv_ParseInt_10_at0_syntax_var (s : ByteArray) (hlim : s.size ≤ 281474976710656) (h : Lib.parseIntB 64 s.data.toList = .«syntax») (tp : TypeId) (p : Value) (w : World) (hvar : w.var? Tryz.prog "strconv.ErrSyntax" = some #[.iface tp p]) :
    Calls Tryz.prog 51 #[.string s, .int .i64 10, .int .i64 0] w fun e w' => ∃ N, e = .returned (.tuple #[.int .i64 (0), .iface 102 (.pointer (some ⟨N, 0, none⟩))]) ∧ w.heap.size ≤ N ∧ w'.heap[N]? = some (.cells #[.string ⟨#[80, 97, 114, 115, 101, 73, 110, 116]⟩, .string s, .iface tp p] 117 (0, 0)) ∧ Below w.heap.size w w' := Any.strconv_ParseInt_10_at0_syntax_var Tryz.laysC174 s hlim h tp p w hvar
open Go.RowKit in
theorem Tryz.strconv_ParseInt_10_at0_range_var (s : ByteArray) (hlim : s.size ≤ 281474976710656) (h : Lib.parseIntB 64 s.data.toList = .range) (tp : TypeId) (p : Value) (w : World) (hvar : w.var? Tryz.prog "strconv.ErrRange" = some #[.iface tp p]) :
    Calls Tryz.prog 51 #[.string s, .int .i64 10, .int .i64 0] w fun e w' => ∃ N, e = .returned (.tuple #[.int .i64 (Lib.intSat 64 s.data.toList), .iface 102 (.pointer (some ⟨N, 0, none⟩))]) ∧ w.heap.size ≤ N ∧ w'.heap[N]? = some (.cells #[.string ⟨#[80, 97, 114, 115, 101, 73, 110, 116]⟩, .string s, .iface tp p] 117 (0, 0)) ∧ Below w.heap.size w w' := Any.strconv_ParseInt_10_at0_range_var Tryz.laysC174 s hlim h tp p w hvar
open Go.RowKit in
theorem Tryz.strconv_ParseInt_10_at64_syntax_var (s : ByteArray) (hlim : s.size ≤ 281474976710656) (h : Lib.parseIntB 64 s.data.toList = .«syntax») (tp : TypeId) (p : Value) (w : World) (hvar : w.var? Tryz.prog "strconv.ErrSyntax" = some #[.iface tp p]) :
    Calls Tryz.prog 51 #[.string s, .int .i64 10, .int .i64 64] w fun e w' => ∃ N, e = .returned (.tuple #[.int .i64 (0), .iface 102 (.pointer (some ⟨N, 0, none⟩))]) ∧ w.heap.size ≤ N ∧ w'.heap[N]? = some (.cells #[.string ⟨#[80, 97, 114, 115, 101, 73, 110, 116]⟩, .string s, .iface tp p] 117 (0, 0)) ∧ Below w.heap.size w w' := Any.strconv_ParseInt_10_at64_syntax_var Tryz.laysC174 s hlim h tp p w hvar
open Go.RowKit in
theorem Tryz.strconv_ParseInt_10_at64_range_var (s : ByteArray) (hlim : s.size ≤ 281474976710656) (h : Lib.parseIntB 64 s.data.toList = .range) (tp : TypeId) (p : Value) (w : World) (hvar : w.var? Tryz.prog "strconv.ErrRange" = some #[.iface tp p]) :
    Calls Tryz.prog 51 #[.string s, .int .i64 10, .int .i64 64] w fun e w' => ∃ N, e = .returned (.tuple #[.int .i64 (Lib.intSat 64 s.data.toList), .iface 102 (.pointer (some ⟨N, 0, none⟩))]) ∧ w.heap.size ≤ N ∧ w'.heap[N]? = some (.cells #[.string ⟨#[80, 97, 114, 115, 101, 73, 110, 116]⟩, .string s, .iface tp p] 117 (0, 0)) ∧ Below w.heap.size w w' := Any.strconv_ParseInt_10_at64_range_var Tryz.laysC174 s hlim h tp p w hvar
open Go.RowKit in
theorem Tryz.strconv_ParseInt_10_at32_syntax_var (s : ByteArray) (hlim : s.size ≤ 281474976710656) (h : Lib.parseIntB 32 s.data.toList = .«syntax») (tp : TypeId) (p : Value) (w : World) (hvar : w.var? Tryz.prog "strconv.ErrSyntax" = some #[.iface tp p]) :
    Calls Tryz.prog 51 #[.string s, .int .i64 10, .int .i64 32] w fun e w' => ∃ N, e = .returned (.tuple #[.int .i64 (0), .iface 102 (.pointer (some ⟨N, 0, none⟩))]) ∧ w.heap.size ≤ N ∧ w'.heap[N]? = some (.cells #[.string ⟨#[80, 97, 114, 115, 101, 73, 110, 116]⟩, .string s, .iface tp p] 117 (0, 0)) ∧ Below w.heap.size w w' := Any.strconv_ParseInt_10_at32_syntax_var Tryz.laysC174 s hlim h tp p w hvar
open Go.RowKit in
theorem Tryz.strconv_ParseInt_10_at32_range_var (s : ByteArray) (hlim : s.size ≤ 281474976710656) (h : Lib.parseIntB 32 s.data.toList = .range) (tp : TypeId) (p : Value) (w : World) (hvar : w.var? Tryz.prog "strconv.ErrRange" = some #[.iface tp p]) :
    Calls Tryz.prog 51 #[.string s, .int .i64 10, .int .i64 32] w fun e w' => ∃ N, e = .returned (.tuple #[.int .i64 (Lib.intSat 32 s.data.toList), .iface 102 (.pointer (some ⟨N, 0, none⟩))]) ∧ w.heap.size ≤ N ∧ w'.heap[N]? = some (.cells #[.string ⟨#[80, 97, 114, 115, 101, 73, 110, 116]⟩, .string s, .iface tp p] 117 (0, 0)) ∧ Below w.heap.size w w' := Any.strconv_ParseInt_10_at32_range_var Tryz.laysC174 s hlim h tp p w hvar
open Go.RowKit in
theorem Tryz.strconv_ParseInt_10_at16_syntax_var (s : ByteArray) (hlim : s.size ≤ 281474976710656) (h : Lib.parseIntB 16 s.data.toList = .«syntax») (tp : TypeId) (p : Value) (w : World) (hvar : w.var? Tryz.prog "strconv.ErrSyntax" = some #[.iface tp p]) :
    Calls Tryz.prog 51 #[.string s, .int .i64 10, .int .i64 16] w fun e w' => ∃ N, e = .returned (.tuple #[.int .i64 (0), .iface 102 (.pointer (some ⟨N, 0, none⟩))]) ∧ w.heap.size ≤ N ∧ w'.heap[N]? = some (.cells #[.string ⟨#[80, 97, 114, 115, 101, 73, 110, 116]⟩, .string s, .iface tp p] 117 (0, 0)) ∧ Below w.heap.size w w' := Any.strconv_ParseInt_10_at16_syntax_var Tryz.laysC174 s hlim h tp p w hvar
open Go.RowKit in
theorem Tryz.strconv_ParseInt_10_at16_range_var (s : ByteArray) (hlim : s.size ≤ 281474976710656) (h : Lib.parseIntB 16 s.data.toList = .range) (tp : TypeId) (p : Value) (w : World) (hvar : w.var? Tryz.prog "strconv.ErrRange" = some #[.iface tp p]) :
    Calls Tryz.prog 51 #[.string s, .int .i64 10, .int .i64 16] w fun e w' => ∃ N, e = .returned (.tuple #[.int .i64 (Lib.intSat 16 s.data.toList), .iface 102 (.pointer (some ⟨N, 0, none⟩))]) ∧ w.heap.size ≤ N ∧ w'.heap[N]? = some (.cells #[.string ⟨#[80, 97, 114, 115, 101, 73, 110, 116]⟩, .string s, .iface tp p] 117 (0, 0)) ∧ Below w.heap.size w w' := Any.strconv_ParseInt_10_at16_range_var Tryz.laysC174 s hlim h tp p w hvar
open Go.RowKit in
theorem Tryz.strconv_ParseInt_10_at8_syntax_var (s : ByteArray) (hlim : s.size ≤ 281474976710656) (h : Lib.parseIntB 8 s.data.toList = .«syntax») (tp : TypeId) (p : Value) (w : World) (hvar : w.var? Tryz.prog "strconv.ErrSyntax" = some #[.iface tp p]) :
    Calls Tryz.prog 51 #[.string s, .int .i64 10, .int .i64 8] w fun e w' => ∃ N, e = .returned (.tuple #[.int .i64 (0), .iface 102 (.pointer (some ⟨N, 0, none⟩))]) ∧ w.heap.size ≤ N ∧ w'.heap[N]? = some (.cells #[.string ⟨#[80, 97, 114, 115, 101, 73, 110, 116]⟩, .string s, .iface tp p] 117 (0, 0)) ∧ Below w.heap.size w w' := Any.strconv_ParseInt_10_at8_syntax_var Tryz.laysC174 s hlim h tp p w hvar
open Go.RowKit in
theorem Tryz.strconv_ParseInt_10_at8_range_var (s : ByteArray) (hlim : s.size ≤ 281474976710656) (h : Lib.parseIntB 8 s.data.toList = .range) (tp : TypeId) (p : Value) (w : World) (hvar : w.var? Tryz.prog "strconv.ErrRange" = some #[.iface tp p]) :
    Calls Tryz.prog 51 #[.string s, .int .i64 10, .int .i64 8] w fun e w' => ∃ N, e = .returned (.tuple #[.int .i64 (Lib.intSat 8 s.data.toList), .iface 102 (.pointer (some ⟨N, 0, none⟩))]) ∧ w.heap.size ≤ N ∧ w'.heap[N]? = some (.cells #[.string ⟨#[80, 97, 114, 115, 101, 73, 110, 116]⟩, .string s, .iface tp p] 117 (0, 0)) ∧ Below w.heap.size w w' := Any.strconv_ParseInt_10_at8_range_var Tryz.laysC174 s hlim h tp p w hvar
def Tryz.laysPu14_ren : Go.Shelf.Ren := ⟨fun | 14 => 41 | 16 => 54 | 17 => 55 | 19 => 72 | 20 => 73 | 21 => 74 | 22 => 75 | 23 => 76 | 24 => 77 | 25 => 89 | 27 => 91 | 26 => 90 | 28 => 101 | 29 => 71 | 30 => 85 | 31 => 86 | 32 => 87 | 33 => 88 | 35 => 97 | 34 => 96 | 36 => 98 | 37 => 99 | 38 => 100 | 39 => 105 | 40 => 106 | n => n, fun | 9 => 9 | 3 => 3 | 22 => 72 | 24 => 64 | 25 => 73 | 4 => 4 | 34 => 99 | 5 => 5 | 36 => 101 | 37 => 57 | 0 => 0 | 39 => 102 | 21 => 21 | 44 => 117 | 47 => 78 | 50 => 130 | 48 => 128 | 2 => 2 | 52 => 111 | 55 => 114 | 59 => 123 | 60 => 124 | 20 => 20 | 61 => 125 | 65 => 138 | 66 => 139 | 67 => 68 | n => n, fun | 0 => 1 | 1 => 2 | 2 => 3 | 3 => 6 | 4 => 7 | n => n⟩
theorem Tryz.laysPu14 : Go.Proofs.LaysPu.n14 Tryz.prog Tryz.laysPu14_ren := {
  mixed := by kernel_rfl
  f14 := Tryz.func41.trans (congrArg some (by kernel_rfl))
  f16 := Tryz.func54.trans (congrArg some (by kernel_rfl))
  f17 := Tryz.func55.trans (congrArg some (by kernel_rfl))
  f19 := Tryz.func72.trans (congrArg some (by kernel_rfl))
  f20 := Tryz.func73.trans (congrArg some (by kernel_rfl))
  f21 := Tryz.func74.trans (congrArg some (by kernel_rfl))
  f22 := Tryz.func75.trans (congrArg some (by kernel_rfl))
  f23 := Tryz.func76.trans (congrArg some (by kernel_rfl))
  f24 := Tryz.func77.trans (congrArg some (by kernel_rfl))
  f25 := Tryz.func89.trans (congrArg some (by kernel_rfl))
  f26 := Tryz.func90.trans (congrArg some (by kernel_rfl))
  f27 := Tryz.func91.trans (congrArg some (by kernel_rfl))
  f28 := Tryz.func101.trans (congrArg some (by kernel_rfl))
  f29 := Tryz.func71.trans (congrArg some (by kernel_rfl))
  f30 := Tryz.func85.trans (congrArg some (by kernel_rfl))
  f31 := Tryz.func86.trans (congrArg some (by kernel_rfl))
  f32 := Tryz.func87.trans (congrArg some (by kernel_rfl))
  f33 := Tryz.func88.trans (congrArg some (by kernel_rfl))
  f34 := Tryz.func96.trans (congrArg some (by kernel_rfl))
  f35 := Tryz.func97.trans (congrArg some (by kernel_rfl))
  f36 := Tryz.func98.trans (congrArg some (by kernel_rfl))
  f37 := Tryz.func99.trans (congrArg some (by kernel_rfl))
  f38 := Tryz.func100.trans (congrArg some (by kernel_rfl))
  f39 := Tryz.func105.trans (congrArg some (by kernel_rfl))
  f40 := Tryz.func106.trans (congrArg some (by kernel_rfl))
  t0 := Tryz.underlying0
  a0 := Tryz.isAgg0
  z0 := Tryz.sizeOf0
  v0 := Tryz.zeroValue0
  i0 := by kernel_rfl
  t2 := Tryz.underlying2
  a2 := Tryz.isAgg2
  z2 := Tryz.sizeOf2
  v2 := Tryz.zeroValue2
  i2 := by kernel_rfl
  t3 := Tryz.underlying3
  a3 := Tryz.isAgg3
  z3 := Tryz.sizeOf3
  v3 := Tryz.zeroValue3
  i3 := by kernel_rfl
  t4 := Tryz.underlying4
  a4 := Tryz.isAgg4
  z4 := Tryz.sizeOf4
  v4 := Tryz.zeroValue4
  i4 := by kernel_rfl
  t5 := Tryz.underlying5
  a5 := Tryz.isAgg5
  z5 := Tryz.sizeOf5
  v5 := Tryz.zeroValue5
  i5 := by kernel_rfl
  t9 := Tryz.underlying9
  a9 := Tryz.isAgg9
  z9 := Tryz.sizeOf9
  v9 := Tryz.zeroValue9
  i9 := by kernel_rfl
  t20 := Tryz.underlying20
  a20 := Tryz.isAgg20
  z20 := Tryz.sizeOf20
  v20 := Tryz.zeroValue20
  i20 := by kernel_rfl
  t21 := Tryz.underlying21
  a21 := Tryz.isAgg21
  z21 := Tryz.sizeOf21
  v21 := Tryz.zeroValue21
  i21 := by kernel_rfl
  t22 := Tryz.underlying72
  a22 := Tryz.isAgg72
  z22 := Tryz.sizeOf72
  v22 := Tryz.zeroValue72
  i22 := by kernel_rfl
  t24 := Tryz.underlying64
  a24 := Tryz.isAgg64
  z24 := Tryz.sizeOf64
  v24 := Tryz.zeroValue64
  i24 := by kernel_rfl
  t25 := Tryz.underlying73
  a25 := Tryz.isAgg73
  z25 := Tryz.sizeOf73
  v25 := Tryz.zeroValue73
  i25 := by kernel_rfl
  t34 := Tryz.underlying99
  a34 := Tryz.isAgg99
  z34 := Tryz.sizeOf99
  v34 := Tryz.zeroValue99
  i34 := by kernel_rfl
  c34 := by kernel_rfl
  t36 := Tryz.underlying101
  a36 := Tryz.isAgg101
  z36 := Tryz.sizeOf101
  v36 := Tryz.zeroValue101
  i36 := by kernel_rfl
  t37 := Tryz.underlying57
  a37 := Tryz.isAgg57
  z37 := Tryz.sizeOf57
  v37 := Tryz.zeroValue57
  i37 := by kernel_rfl
  t39 := Tryz.underlying102
  a39 := Tryz.isAgg102
  z39 := Tryz.sizeOf102
  v39 := Tryz.zeroValue102
  i39 := by kernel_rfl
  t44 := Tryz.underlying117
  a44 := Tryz.isAgg117
  z44 := Tryz.sizeOf117
  v44 := Tryz.zeroValue117
  i44 := by kernel_rfl
  t47 := Tryz.underlying78
  a47 := Tryz.isAgg78
  z47 := Tryz.sizeOf78
  v47 := Tryz.zeroValue78
  i47 := by kernel_rfl
  t48 := Tryz.underlying128
  a48 := Tryz.isAgg128
  z48 := Tryz.sizeOf128
  v48 := Tryz.zeroValue128
  i48 := by kernel_rfl
  t50 := Tryz.underlying130
  a50 := Tryz.isAgg130
  z50 := Tryz.sizeOf130
  v50 := Tryz.zeroValue130
  i50 := by kernel_rfl
  t52 := Tryz.underlying111
  a52 := Tryz.isAgg111
  z52 := Tryz.sizeOf111
  v52 := Tryz.zeroValue111
  i52 := by kernel_rfl
  t55 := Tryz.underlying114
  a55 := Tryz.isAgg114
  z55 := Tryz.sizeOf114
  v55 := Tryz.zeroValue114
  i55 := by kernel_rfl
  t59 := Tryz.underlying123
  a59 := Tryz.isAgg123
  z59 := Tryz.sizeOf123
  v59 := Tryz.zeroValue123
  i59 := by kernel_rfl
  t60 := Tryz.underlying124
  a60 := Tryz.isAgg124
  z60 := Tryz.sizeOf124
  v60 := Tryz.zeroValue124
  i60 := by kernel_rfl
  t61 := Tryz.underlying125
  a61 := Tryz.isAgg125
  z61 := Tryz.sizeOf125
  t65 := Tryz.underlying138
  a65 := Tryz.isAgg138
  z65 := Tryz.sizeOf138
  v65 := Tryz.zeroValue138
  i65 := by kernel_rfl
  t66 := Tryz.underlying139
  a66 := Tryz.isAgg139
  z66 := Tryz.sizeOf139
  v66 := Tryz.zeroValue139
  i66 := by kernel_rfl
  t67 := Tryz.underlying68
  a67 := Tryz.isAgg68
  z67 := Tryz.sizeOf68
  v67 := Tryz.zeroValue68
  i67 := by kernel_rfl
  g0 := by kernel_rfl
  m0 := by kernel_rfl
  g1 := by kernel_rfl
  m1 := by kernel_rfl
  g2 := by kernel_rfl
  m2 := by kernel_rfl
  g3 := by kernel_rfl
  m3 := by kernel_rfl
  g4 := by kernel_rfl
  m4 := by kernel_rfl }
open Go.RowKit in
theorem Tryz.strconv_ParseUint_10_at0_ok (s : ByteArray) (hmax : s.size ≤ 9223372036854775806) (u : Nat) (h : Lib.parseUintB 64 s.data.toList = .ok u) (w : World) :
    Calls Tryz.prog 41 #[.string s, .int .i64 10, .int .i64 0] w fun e w' => e = .returned (.tuple #[.int .u64 u, .nilIface]) ∧ (w' = w ∨ w' = Lib.bytesWorld w 5 s) := Any.strconv_ParseUint_10_at0_ok Tryz.laysPu14 s hmax u h w
open Go.RowKit in
theorem Tryz.strconv_ParseUint_10_at0_syntax (s : ByteArray) (hlim : s.size ≤ 281474976710656) (h : Lib.parseUintB 64 s.data.toList = .«syntax») (ev : Value) (w : World) (hv : w.cell? ⟨1, 0, none⟩ = some ev) (hev : ev = .nilIface ∨ ∃ te pe, ev = .iface te pe) :
    Calls Tryz.prog 41 #[.string s, .int .i64 10, .int .i64 0] w fun e w' => ∃ N, e = .returned (.tuple #[.int .u64 0, .iface 102 (.pointer (some ⟨N, 0, none⟩))]) ∧ w.heap.size ≤ N ∧ w'.heap[N]? = some (.cells #[.string ⟨#[80, 97, 114, 115, 101, 85, 105, 110, 116]⟩, .string s, ev] 117 (0, 0)) ∧ Below w.heap.size w w' := Any.strconv_ParseUint_10_at0_syntax Tryz.laysPu14 s hlim h ev w hv hev
open Go.RowKit in
theorem Tryz.strconv_ParseUint_10_at0_range (s : ByteArray) (hlim : s.size ≤ 281474976710656) (h : Lib.parseUintB 64 s.data.toList = .range) (ev : Value) (w : World) (hv : w.cell? ⟨2, 0, none⟩ = some ev) (hev : ev = .nilIface ∨ ∃ te pe, ev = .iface te pe) :
    Calls Tryz.prog 41 #[.string s, .int .i64 10, .int .i64 0] w fun e w' => ∃ N, e = .returned (.tuple #[.int .u64 18446744073709551615, .iface 102 (.pointer (some ⟨N, 0, none⟩))]) ∧ w.heap.size ≤ N ∧ w'.heap[N]? = some (.cells #[.string ⟨#[80, 97, 114, 115, 101, 85, 105, 110, 116]⟩, .string s, ev] 117 (0, 0)) ∧ Below w.heap.size w w' := Any.strconv_ParseUint_10_at0_range Tryz.laysPu14 s hlim h ev w hv hev
open Go.RowKit in
theorem Tryz.strconv_ParseUint_10_at64_ok (s : ByteArray) (hmax : s.size ≤ 9223372036854775806) (u : Nat) (h : Lib.parseUintB 64 s.data.toList = .ok u) (w : World) :
    Calls Tryz.prog 41 #[.string s, .int .i64 10, .int .i64 64] w fun e w' => e = .returned (.tuple #[.int .u64 u, .nilIface]) ∧ (w' = w ∨ w' = Lib.bytesWorld w 5 s) := Any.strconv_ParseUint_10_at64_ok Tryz.laysPu14 s hmax u h w
open Go.RowKit in
theorem Tryz.strconv_ParseUint_10_at64_syntax (s : ByteArray) (hlim : s.size ≤ 281474976710656) (h : Lib.parseUintB 64 s.data.toList = .«syntax») (ev : Value) (w : World) (hv : w.cell? ⟨1, 0, none⟩ = some ev) (hev : ev = .nilIface ∨ ∃ te pe, ev = .iface te pe) :
    Calls Tryz.prog 41 #[.string s, .int .i64 10, .int .i64 64] w fun e w' => ∃ N, e = .returned (.tuple #[.int .u64 0, .iface 102 (.pointer (some ⟨N, 0, none⟩))]) ∧ w.heap.size ≤ N ∧ w'.heap[N]? = some (.cells #[.string ⟨#[80, 97, 114, 115, 101, 85, 105, 110, 116]⟩, .string s, ev] 117 (0, 0)) ∧ Below w.heap.size w w' := Any.strconv_ParseUint_10_at64_syntax Tryz.laysPu14 s hlim h ev w hv hev
open Go.RowKit in
theorem Tryz.strconv_ParseUint_10_at64_range (s : ByteArray) (hlim : s.size ≤ 281474976710656) (h : Lib.parseUintB 64 s.data.toList = .range) (ev : Value) (w : World) (hv : w.cell? ⟨2, 0, none⟩ = some ev) (hev : ev = .nilIface ∨ ∃ te pe, ev = .iface te pe) :
    Calls Tryz.prog 41 #[.string s, .int .i64 10, .int .i64 64] w fun e w' => ∃ N, e = .returned (.tuple #[.int .u64 18446744073709551615, .iface 102 (.pointer (some ⟨N, 0, none⟩))]) ∧ w.heap.size ≤ N ∧ w'.heap[N]? = some (.cells #[.string ⟨#[80, 97, 114, 115, 101, 85, 105, 110, 116]⟩, .string s, ev] 117 (0, 0)) ∧ Below w.heap.size w w' := Any.strconv_ParseUint_10_at64_range Tryz.laysPu14 s hlim h ev w hv hev
open Go.RowKit in
theorem Tryz.strconv_ParseUint_10_at32_ok (s : ByteArray) (hmax : s.size ≤ 9223372036854775806) (u : Nat) (h : Lib.parseUintB 32 s.data.toList = .ok u) (w : World) :
    Calls Tryz.prog 41 #[.string s, .int .i64 10, .int .i64 32] w fun e w' => e = .returned (.tuple #[.int .u64 u, .nilIface]) ∧ (w' = w ∨ w' = Lib.bytesWorld w 5 s) := Any.strconv_ParseUint_10_at32_ok Tryz.laysPu14 s hmax u h w
open Go.RowKit in
theorem Tryz.strconv_ParseUint_10_at32_syntax (s : ByteArray) (hlim : s.size ≤ 281474976710656) (h : Lib.parseUintB 32 s.data.toList = .«syntax») (ev : Value) (w : World) (hv : w.cell? ⟨1, 0, none⟩ = some ev) (hev : ev = .nilIface ∨ ∃ te pe, ev = .iface te pe) :
    Calls Tryz.prog 41 #[.string s, .int .i64 10, .int .i64 32] w fun e w' => ∃ N, e = .returned (.tuple #[.int .u64 0, .iface 102 (.pointer (some ⟨N, 0, none⟩))]) ∧ w.heap.size ≤ N ∧ w'.heap[N]? = some (.cells #[.string ⟨#[80, 97, 114, 115, 101, 85, 105, 110, 116]⟩, .string s, ev] 117 (0, 0)) ∧ Below w.heap.size w w' := Any.strconv_ParseUint_10_at32_syntax Tryz.laysPu14 s hlim h ev w hv hev
open Go.RowKit in
theorem Tryz.strconv_ParseUint_10_at32_range (s : ByteArray) (hlim : s.size ≤ 281474976710656) (h : Lib.parseUintB 32 s.data.toList = .range) (ev : Value) (w : World) (hv : w.cell? ⟨2, 0, none⟩ = some ev) (hev : ev = .nilIface ∨ ∃ te pe, ev = .iface te pe) :
    Calls Tryz.prog 41 #[.string s, .int .i64 10, .int .i64 32] w fun e w' => ∃ N, e = .returned (.tuple #[.int .u64 4294967295, .iface 102 (.pointer (some ⟨N, 0, none⟩))]) ∧ w.heap.size ≤ N ∧ w'.heap[N]? = some (.cells #[.string ⟨#[80, 97, 114, 115, 101, 85, 105, 110, 116]⟩, .string s, ev] 117 (0, 0)) ∧ Below w.heap.size w w' := Any.strconv_ParseUint_10_at32_range Tryz.laysPu14 s hlim h ev w hv hev
open Go.RowKit in
theorem Tryz.strconv_ParseUint_10_at16_ok (s : ByteArray) (hmax : s.size ≤ 9223372036854775806) (u : Nat) (h : Lib.parseUintB 16 s.data.toList = .ok u) (w : World) :
    Calls Tryz.prog 41 #[.string s, .int .i64 10, .int .i64 16] w fun e w' => e = .returned (.tuple #[.int .u64 u, .nilIface]) ∧ (w' = w ∨ w' = Lib.bytesWorld w 5 s) := Any.strconv_ParseUint_10_at16_ok Tryz.laysPu14 s hmax u h w
open Go.RowKit in
theorem Tryz.strconv_ParseUint_10_at16_syntax (s : ByteArray) (hlim : s.size ≤ 281474976710656) (h : Lib.parseUintB 16 s.data.toList = .«syntax») (ev : Value) (w : World) (hv : w.cell? ⟨1, 0, none⟩ = some ev) (hev : ev = .nilIface ∨ ∃ te pe, ev = .iface te pe) :
    Calls Tryz.prog 41 #[.string s, .int .i64 10, .int .i64 16] w fun e w' => ∃ N, e = .returned (.tuple #[.int .u64 0, .iface 102 (.pointer (some ⟨N, 0, none⟩))]) ∧ w.heap.size ≤ N ∧ w'.heap[N]? = some (.cells #[.string ⟨#[80, 97, 114, 115, 101, 85, 105, 110, 116]⟩, .string s, ev] 117 (0, 0)) ∧ Below w.heap.size w w' := Any.strconv_ParseUint_10_at16_syntax Tryz.laysPu14 s hlim h ev w hv hev
open Go.RowKit in
theorem Tryz.strconv_ParseUint_10_at16_range (s : ByteArray) (hlim : s.size ≤ 281474976710656) (h : Lib.parseUintB 16 s.data.toList = .range) (ev : Value) (w : World) (hv : w.cell? ⟨2, 0, none⟩ = some ev) (hev : ev = .nilIface ∨ ∃ te pe, ev = .iface te pe) :
    Calls Tryz.prog 41 #[.string s, .int .i64 10, .int .i64 16] w fun e w' => ∃ N, e = .returned (.tuple #[.int .u64 65535, .iface 102 (.pointer (some ⟨N, 0, none⟩))]) ∧ w.heap.size ≤ N ∧ w'.heap[N]? = some (.cells #[.string ⟨#[80, 97, 114, 115, 101, 85, 105, 110, 116]⟩, .string s, ev] 117 (0, 0)) ∧ Below w.heap.size w w' := Any.strconv_ParseUint_10_at16_range Tryz.laysPu14 s hlim h ev w hv hev
open Go.RowKit in
theorem Tryz.strconv_ParseUint_10_at8_ok (s : ByteArray) (hmax : s.size ≤ 9223372036854775806) (u : Nat) (h : Lib.parseUintB 8 s.data.toList = .ok u) (w : World) :
    Calls Tryz.prog 41 #[.string s, .int .i64 10, .int .i64 8] w fun e w' => e = .returned (.tuple #[.int .u64 u, .nilIface]) ∧ (w' = w ∨ w' = Lib.bytesWorld w 5 s) := Any.strconv_ParseUint_10_at8_ok Tryz.laysPu14 s hmax u h w
open Go.RowKit in
theorem Tryz.strconv_ParseUint_10_at8_syntax (s : ByteArray) (hlim : s.size ≤ 281474976710656) (h : Lib.parseUintB 8 s.data.toList = .«syntax») (ev : Value) (w : World) (hv : w.cell? ⟨1, 0, none⟩ = some ev) (hev : ev = .nilIface ∨ ∃ te pe, ev = .iface te pe) :
    Calls Tryz.prog 41 #[.string s, .int .i64 10, .int .i64 8] w fun e w' => ∃ N, e = .returned (.tuple #[.int .u64 0, .iface 102 (.pointer (some ⟨N, 0, none⟩))]) ∧ w.heap.size ≤ N ∧ w'.heap[N]? = some (.cells #[.string ⟨#[80, 97, 114, 115, 101, 85, 105, 110, 116]⟩, .string s, ev] 117 (0, 0)) ∧ Below w.heap.size w w' := Any.strconv_ParseUint_10_at8_syntax Tryz.laysPu14 s hlim h ev w hv hev
open Go.RowKit in
theorem Tryz.strconv_ParseUint_10_at8_range (s : ByteArray) (hlim : s.size ≤ 281474976710656) (h : Lib.parseUintB 8 s.data.toList = .range) (ev : Value) (w : World) (hv : w.cell? ⟨2, 0, none⟩ = some ev) (hev : ev = .nilIface ∨ ∃ te pe, ev = .iface te pe) :
    Calls Tryz.prog 41 #[.string s, .int .i64 10, .int .i64 8] w fun e w' => ∃ N, e = .returned (.tuple #[.int .u64 255, .iface 102 (.pointer (some ⟨N, 0, none⟩))]) ∧ w.heap.size ≤ N ∧ w'.heap[N]? = some (.cells #[.string ⟨#[80, 97, 114, 115, 101, 85, 105, 110, 116]⟩, .string s, ev] 117 (0, 0)) ∧ Below w.heap.size w w' := Any.strconv_ParseUint_10_at8_range Tryz.laysPu14 s hlim h ev w hv hev
open Go.RowKit in
theorem Tryz.strconv_ParseUint_10_at0_syntax_var (s : ByteArray) (hlim : s.size ≤ 281474976710656) (h : Lib.parseUintB 64 s.data.toList = .«syntax») (tp : TypeId) (p : Value) (w : World) (hvar : w.var? Tryz.prog "strconv.ErrSyntax" = some #[.iface tp p]) :
    Calls Tryz.prog 41 #[.string s, .int .i64 10, .int .i64 0] w fun e w' => ∃ N, e = .returned (.tuple #[.int .u64 0, .iface 102 (.pointer (some ⟨N, 0, none⟩))]) ∧ w.heap.size ≤ N ∧ w'.heap[N]? = some (.cells #[.string ⟨#[80, 97, 114, 115, 101, 85, 105, 110, 116]⟩, .string s, .iface tp p] 117 (0, 0)) ∧ Below w.heap.size w w' := Any.strconv_ParseUint_10_at0_syntax_var Tryz.laysPu14 s hlim h tp p w hvar
open Go.RowKit in
theorem Tryz.strconv_ParseUint_10_at0_range_var (s : ByteArray) (hlim : s.size ≤ 281474976710656) (h : Lib.parseUintB 64 s.data.toList = .range) (tp : TypeId) (p : Value) (w : World) (hvar : w.var? Tryz.prog "strconv.ErrRange" = some #[.iface tp p]) :
    Calls Tryz.prog 41 #[.string s, .int .i64 10, .int .i64 0] w fun e w' => ∃ N, e = .returned (.tuple #[.int .u64 18446744073709551615, .iface 102 (.pointer (some ⟨N, 0, none⟩))]) ∧ w.heap.size ≤ N ∧ w'.heap[N]? = some (.cells #[.string ⟨#[80, 97, 114, 115, 101, 85, 105, 110, 116]⟩, .string s, .iface tp p] 117 (0, 0)) ∧ Below w.heap.size w w' := Any.strconv_ParseUint_10_at0_range_var Tryz.laysPu14 s hlim h tp p w hvar
open Go.RowKit in
theorem Tryz.strconv_ParseUint_10_at64_syntax_var (s : ByteArray) (hlim : s.size ≤ 281474976710656) (h : Lib.parseUintB 64 s.data.toList = .«syntax») (tp : TypeId) (p : Value) (w : World) (hvar : w.var? Tryz.prog "strconv.ErrSyntax" = some #[.iface tp p]) :
    Calls Tryz.prog 41 #[.string s, .int .i64 10, .int .i64 64] w fun e w' => ∃ N, e = .returned (.tuple #[.int .u64 0, .iface 102 (.pointer (some ⟨N, 0, none⟩))]) ∧ w.heap.size ≤ N ∧ w'.heap[N]? = some (.cells #[.string ⟨#[80, 97, 114, 115, 101, 85, 105, 110, 116]⟩, .string s, .iface tp p] 117 (0, 0)) ∧ Below w.heap.size w w' := Any.strconv_ParseUint_10_at64_syntax_var Tryz.laysPu14 s hlim h tp p w hvar
open Go.RowKit in
theorem Tryz.strconv_ParseUint_10_at64_range_var (s : ByteArray) (hlim : s.size ≤ 281474976710656) (h : Lib.parseUintB 64 s.data.toList = .range) (tp : TypeId) (p : Value) (w : World) (hvar : w.var? Tryz.prog "strconv.ErrRange" = some #[.iface tp p]) :
    Calls Tryz.prog 41 #[.string s, .int .i64 10, .int .i64 64] w fun e w' => ∃ N, e = .returned (.tuple #[.int .u64 18446744073709551615, .iface 102 (.pointer (some ⟨N, 0, none⟩))]) ∧ w.heap.size ≤ N ∧ w'.heap[N]? = some (.cells #[.string ⟨#[80, 97, 114, 115, 101, 85, 105, 110, 116]⟩, .string s, .iface tp p] 117 (0, 0)) ∧ Below w.heap.size w w' := Any.strconv_ParseUint_10_at64_range_var Tryz.laysPu14 s hlim h tp p w hvar
open Go.RowKit in
theorem Tryz.strconv_ParseUint_10_at32_syntax_var (s : ByteArray) (hlim : s.size ≤ 281474976710656) (h : Lib.parseUintB 32 s.data.toList = .«syntax») (tp : TypeId) (p : Value) (w : World) (hvar : w.var? Tryz.prog "strconv.ErrSyntax" = some #[.iface tp p]) :
    Calls Tryz.prog 41 #[.string s, .int .i64 10, .int .i64 32] w fun e w' => ∃ N, e = .returned (.tuple #[.int .u64 0, .iface 102 (.pointer (some ⟨N, 0, none⟩))]) ∧ w.heap.size ≤ N ∧ w'.heap[N]? = some (.cells #[.string ⟨#[80, 97, 114, 115, 101, 85, 105, 110, 116]⟩, .string s, .iface tp p] 117 (0, 0)) ∧ Below w.heap.size w w' := Any.strconv_ParseUint_10_at32_syntax_var Tryz.laysPu14 s hlim h tp p w hvar
open Go.RowKit in
theorem Tryz.strconv_ParseUint_10_at32_range_var (s : ByteArray) (hlim : s.size ≤ 281474976710656) (h : Lib.parseUintB 32 s.data.toList = .range) (tp : TypeId) (p : Value) (w : World) (hvar : w.var? Tryz.prog "strconv.ErrRange" = some #[.iface tp p]) :
    Calls Tryz.prog 41 #[.string s, .int .i64 10, .int .i64 32] w fun e w' => ∃ N, e = .returned (.tuple #[.int .u64 4294967295, .iface 102 (.pointer (some ⟨N, 0, none⟩))]) ∧ w.heap.size ≤ N ∧ w'.heap[N]? = some (.cells #[.string ⟨#[80, 97, 114, 115, 101, 85, 105, 110, 116]⟩, .string s, .iface tp p] 117 (0, 0)) ∧ Below w.heap.size w w' := Any.strconv_ParseUint_10_at32_range_var Tryz.laysPu14 s hlim h tp p w hvar
open Go.RowKit in
theorem Tryz.strconv_ParseUint_10_at16_syntax_var (s : ByteArray) (hlim : s.size ≤ 281474976710656) (h : Lib.parseUintB 16 s.data.toList = .«syntax») (tp : TypeId) (p : Value) (w : World) (hvar : w.var? Tryz.prog "strconv.ErrSyntax" = some #[.iface tp p]) :
    Calls Tryz.prog 41 #[.string s, .int .i64 10, .int .i64 16] w fun e w' => ∃ N, e = .returned (.tuple #[.int .u64 0, .iface 102 (.pointer (some ⟨N, 0, none⟩))]) ∧ w.heap.size ≤ N ∧ w'.heap[N]? = some (.cells #[.string ⟨#[80, 97, 114, 115, 101, 85, 105, 110, 116]⟩, .string s, .iface tp p] 117 (0, 0)) ∧ Below w.heap.size w w' := Any.strconv_ParseUint_10_at16_syntax_var Tryz.laysPu14 s hlim h tp p w hvar
open Go.RowKit in
theorem Tryz.strconv_ParseUint_10_at16_range_var (s : ByteArray) (hlim : s.size ≤ 281474976710656) (h : Lib.parseUintB 16 s.data.toList = .range) (tp : TypeId) (p : Value) (w : World) (hvar : w.var? Tryz.prog "strconv.ErrRange" = some #[.iface tp p]) :
    Calls Tryz.prog 41 #[.string s, .int .i64 10, .int .i64 16] w fun e w' => ∃ N, e = .returned (.tuple #[.int .u64 65535, .iface 102 (.pointer (some ⟨N, 0, none⟩))]) ∧ w.heap.size ≤ N ∧ w'.heap[N]? = some (.cells #[.string ⟨#[80, 97, 114, 115, 101, 85, 105, 110, 116]⟩, .string s, .iface tp p] 117 (0, 0)) ∧ Below w.heap.size w w' := Any.strconv_ParseUint_10_at16_range_var Tryz.laysPu14 s hlim h tp p w hvar
open Go.RowKit in
theorem Tryz.strconv_ParseUint_10_at8_syntax_var (s : ByteArray) (hlim : s.size ≤ 281474976710656) (h : Lib.parseUintB 8 s.data.toList = .«syntax») (tp : TypeId) (p : Value) (w : World) (hvar : w.var? Tryz.prog "strconv.ErrSyntax" = some #[.iface tp p]) :
    Calls Tryz.prog 41 #[.string s, .int .i64 10, .int .i64 8] w fun e w' => ∃ N, e = .returned (.tuple #[.int .u64 0, .iface 102 (.pointer (some ⟨N, 0, none⟩))]) ∧ w.heap.size ≤ N ∧ w'.heap[N]? = some (.cells #[.string ⟨#[80, 97, 114, 115, 101, 85, 105, 110, 116]⟩, .string s, .iface tp p] 117 (0, 0)) ∧ Below w.heap.size w w' := Any.strconv_ParseUint_10_at8_syntax_var Tryz.laysPu14 s hlim h tp p w hvar
open Go.RowKit in
theorem Tryz.strconv_ParseUint_10_at8_range_var (s : ByteArray) (hlim : s.size ≤ 281474976710656) (h : Lib.parseUintB 8 s.data.toList = .range) (tp : TypeId) (p : Value) (w : World) (hvar : w.var? Tryz.prog "strconv.ErrRange" = some #[.iface tp p]) :
    Calls Tryz.prog 41 #[.string s, .int .i64 10, .int .i64 8] w fun e w' => ∃ N, e = .returned (.tuple #[.int .u64 255, .iface 102 (.pointer (some ⟨N, 0, none⟩))]) ∧ w.heap.size ≤ N ∧ w'.heap[N]? = some (.cells #[.string ⟨#[80, 97, 114, 115, 101, 85, 105, 110, 116]⟩, .string s, .iface tp p] 117 (0, 0)) ∧ Below w.heap.size w w' := Any.strconv_ParseUint_10_at8_range_var Tryz.laysPu14 s hlim h tp p w hvar
def Tryz.lays217_ren : Go.Shelf.Ren := ⟨fun | 217 => 42 | 266 => 56 | n => n, fun | 9 => 9 | 5 => 5 | 3 => 3 | n => n, fun | n => n⟩
theorem Tryz.lays217 : Go.Proofs.Lays.n217 Tryz.prog Tryz.lays217_ren := {
  mixed := by kernel_rfl
  f217 := Tryz.func42.trans (congrArg some (by kernel_rfl))
  f266 := Tryz.func56.trans (congrArg some (by kernel_rfl))
  t3 := Tryz.underlying3
  a3 := Tryz.isAgg3
  z3 := Tryz.sizeOf3
  v3 := Tryz.zeroValue3
  t5 := Tryz.underlying5
  a5 := Tryz.isAgg5
  z5 := Tryz.sizeOf5
  v5 := Tryz.zeroValue5
  t9 := Tryz.underlying9
  a9 := Tryz.isAgg9
  z9 := Tryz.sizeOf9
  v9 := Tryz.zeroValue9 }
open Go.RowKit Go.Lib in
theorem Tryz.stringslite_IndexByte (s : ByteArray) (c : Int) (w : World) :
    Calls Tryz.prog 42 #[.string s, .int .u8 c] w fun e w' => e = .returned (.int .i64 (Lib.indexByte s.data.toList c.toNat.toUInt8)) ∧ w' = w := Any.stringslite_IndexByte Tryz.lays217 s c w
def Tryz.lays224_ren : Go.Shelf.Ren := ⟨fun | 224 => 103 | n => n, fun | 3 => 3 | n => n, fun | n => n⟩
theorem Tryz.lays224 : Go.Proofs.Lays.n224 Tryz.prog Tryz.lays224_ren := {
  mixed := by kernel_rfl
  f224 := Tryz.func103.trans (congrArg some (by kernel_rfl))
  t3 := Tryz.underlying3
  a3 := Tryz.isAgg3
  z3 := Tryz.sizeOf3
  v3 := Tryz.zeroValue3 }
open Go.RowKit Go.Lib in
theorem Tryz.bytealg_Cutover (n : Int) (h0 : 0 ≤ n) (h1 : n < 4611686018427387904) (w : World) :
    Calls Tryz.prog 103 #[.int .i64 n] w fun e w' => e = .returned (.int .i64 ((n + 16) / 8)) ∧ w' = w := Any.bytealg_Cutover Tryz.lays224 n h0 h1 w
def Tryz.lays206_ren : Go.Shelf.Ren := ⟨fun | 206 => 57 | n => n, fun | 9 => 9 | 4 => 4 | 3 => 3 | n => n, fun | n => n⟩
theorem Tryz.lays206 : Go.Proofs.Lays.n206 Tryz.prog Tryz.lays206_ren := {
  mixed := by kernel_rfl
  f206 := Tryz.func57.trans (congrArg some (by kernel_rfl))
  t3 := Tryz.underlying3
  a3 := Tryz.isAgg3
  z3 := Tryz.sizeOf3
  v3 := Tryz.zeroValue3
  t4 := Tryz.underlying4
  a4 := Tryz.isAgg4
  z4 := Tryz.sizeOf4
  v4 := Tryz.zeroValue4
  t9 := Tryz.underlying9
  a9 := Tryz.isAgg9
  z9 := Tryz.sizeOf9
  v9 := Tryz.zeroValue9 }
open Go.RowKit Go.Lib in
theorem Tryz.stringslite_HasPrefix (s p : ByteArray) (w : World) :
    Calls Tryz.prog 57 #[.string s, .string p] w fun e w' => e = .returned (.bool (Lib.hasPrefix s.data.toList p.data.toList)) ∧ w' = w := Any.stringslite_HasPrefix Tryz.lays206 s p w
def Tryz.lays99_ren : Go.Shelf.Ren := ⟨fun | 99 => 83 | 206 => 57 | n => n, fun | 9 => 9 | 4 => 4 | 3 => 3 | n => n, fun | n => n⟩
theorem Tryz.lays99 : Go.Proofs.Lays.n99 Tryz.prog Tryz.lays99_ren := {
  mixed := by kernel_rfl
  f99 := Tryz.func83.trans (congrArg some (by kernel_rfl))
  f206 := Tryz.func57.trans (congrArg some (by kernel_rfl))
  t3 := Tryz.underlying3
  a3 := Tryz.isAgg3
  z3 := Tryz.sizeOf3
  v3 := Tryz.zeroValue3
  t4 := Tryz.underlying4
  a4 := Tryz.isAgg4
  z4 := Tryz.sizeOf4
  v4 := Tryz.zeroValue4
  t9 := Tryz.underlying9
  a9 := Tryz.isAgg9
  z9 := Tryz.sizeOf9
  v9 := Tryz.zeroValue9 }
open Go.RowKit Go.Lib in
theorem Tryz.strings_HasPrefix (s p : ByteArray) (w : World) :
    Calls Tryz.prog 83 #[.string s, .string p] w fun e w' => e = .returned (.bool (Lib.hasPrefix s.data.toList p.data.toList)) ∧ w' = w := Any.strings_HasPrefix Tryz.lays99 s p w
def Tryz.lays207_ren : Go.Shelf.Ren := ⟨fun | 207 => 58 | n => n, fun | 9 => 9 | 4 => 4 | 3 => 3 | n => n, fun | n => n⟩
theorem Tryz.lays207 : Go.Proofs.Lays.n207 Tryz.prog Tryz.lays207_ren := {
  mixed := by kernel_rfl
  f207 := Tryz.func58.trans (congrArg some (by kernel_rfl))
  t3 := Tryz.underlying3
  a3 := Tryz.isAgg3
  z3 := Tryz.sizeOf3
  v3 := Tryz.zeroValue3
  t4 := Tryz.underlying4
  a4 := Tryz.isAgg4
  z4 := Tryz.sizeOf4
  v4 := Tryz.zeroValue4
  t9 := Tryz.underlying9
  a9 := Tryz.isAgg9
  z9 := Tryz.sizeOf9
  v9 := Tryz.zeroValue9 }
open Go.RowKit Go.Lib in
theorem Tryz.stringslite_HasSuffix (s p : ByteArray) (w : World) (hs : s.size ≤ 9223372036854775807) :
    Calls Tryz.prog 58 #[.string s, .string p] w fun e w' => e = .returned (.bool (Lib.hasSuffix s.data.toList p.data.toList)) ∧ w' = w := Any.stringslite_HasSuffix Tryz.lays207 s p w hs
def Tryz.lays208_ren : Go.Shelf.Ren := ⟨fun | 208 => 43 | 206 => 57 | n => n, fun | 9 => 9 | 4 => 4 | 3 => 3 | n => n, fun | n => n⟩
theorem Tryz.lays208 : Go.Proofs.Lays.n208 Tryz.prog Tryz.lays208_ren := {
  mixed := by kernel_rfl
  f206 := Tryz.func57.trans (congrArg some (by kernel_rfl))
  f208 := Tryz.func43.trans (congrArg some (by kernel_rfl))
  t3 := Tryz.underlying3
  a3 := Tryz.isAgg3
  z3 := Tryz.sizeOf3
  v3 := Tryz.zeroValue3
  t4 := Tryz.underlying4
  a4 := Tryz.isAgg4
  z4 := Tryz.sizeOf4
  v4 := Tryz.zeroValue4
  t9 := Tryz.underlying9
  a9 := Tryz.isAgg9
  z9 := Tryz.sizeOf9
  v9 := Tryz.zeroValue9 }
open Go.RowKit Go.Lib in
theorem Tryz.stringslite_TrimPrefix (s p : ByteArray) (w : World) :
    Calls Tryz.prog 43 #[.string s, .string p] w fun e w' => e = .returned (.string ⟨(Lib.trimPrefix s.data.toList p.data.toList).toArray⟩) ∧ w' = w := Any.stringslite_TrimPrefix Tryz.lays208 s p w
def Tryz.lays101_ren : Go.Shelf.Ren := ⟨fun | 101 => 27 | 208 => 43 | 206 => 57 | n => n, fun | 9 => 9 | 4 => 4 | 3 => 3 | n => n, fun | n => n⟩
theorem Tryz.lays101 : Go.Proofs.Lays.n101 Tryz.prog Tryz.lays101_ren := {
  mixed := by kernel_rfl
  f101 := Tryz.func27.trans (congrArg some (by kernel_rfl))
  f206 := Tryz.func57.trans (congrArg some (by kernel_rfl))
  f208 := Tryz.func43.trans (congrArg some (by kernel_rfl))
  t3 := Tryz.underlying3
  a3 := Tryz.isAgg3
  z3 := Tryz.sizeOf3
  v3 := Tryz.zeroValue3
  t4 := Tryz.underlying4
  a4 := Tryz.isAgg4
  z4 := Tryz.sizeOf4
  v4 := Tryz.zeroValue4
  t9 := Tryz.underlying9
  a9 := Tryz.isAgg9
  z9 := Tryz.sizeOf9
  v9 := Tryz.zeroValue9 }
open Go.RowKit Go.Lib in
theorem Tryz.strings_TrimPrefix (s p : ByteArray) (w : World) :
    Calls Tryz.prog 27 #[.string s, .string p] w fun e w' => e = .returned (.string ⟨(Lib.trimPrefix s.data.toList p.data.toList).toArray⟩) ∧ w' = w := Any.strings_TrimPrefix Tryz.lays101 s p w
def Tryz.lays197_ren : Go.Shelf.Ren := ⟨fun | 197 => 79 | 260 => 92 | n => n, fun | 9 => 9 | 21 => 21 | 3 => 3 | 4 => 4 | 5 => 5 | 105 => 106 | 119 => 131 | 0 => 0 | 46 => 101 | 139 => 134 | 138 => 133 | n => n, fun | 3 => 4 | 4 => 5 | n => n⟩
theorem Tryz.lays197 : Go.Proofs.Lays.n197 Tryz.prog Tryz.lays197_ren := {
  mixed := by kernel_rfl
  f197 := Tryz.func79.trans (congrArg some (by kernel_rfl))
  f260 := Tryz.func92.trans (congrArg some (by kernel_rfl))
  t0 := Tryz.underlying0
  a0 := Tryz.isAgg0
  z0 := Tryz.sizeOf0
  v0 := Tryz.zeroValue0
  t3 := Tryz.underlying3
  a3 := Tryz.isAgg3
  z3 := Tryz.sizeOf3
  v3 := Tryz.zeroValue3
  t4 := Tryz.underlying4
  a4 := Tryz.isAgg4
  z4 := Tryz.sizeOf4
  v4 := Tryz.zeroValue4
  t5 := Tryz.underlying5
  a5 := Tryz.isAgg5
  z5 := Tryz.sizeOf5
  v5 := Tryz.zeroValue5
  t9 := Tryz.underlying9
  a9 := Tryz.isAgg9
  z9 := Tryz.sizeOf9
  v9 := Tryz.zeroValue9
  t21 := Tryz.underlying21
  a21 := Tryz.isAgg21
  z21 := Tryz.sizeOf21
  v21 := Tryz.zeroValue21
  t46 := Tryz.underlying101
  a46 := Tryz.isAgg101
  z46 := Tryz.sizeOf101
  v46 := Tryz.zeroValue101
  t105 := Tryz.underlying106
  a105 := Tryz.isAgg106
  z105 := Tryz.sizeOf106
  v105 := Tryz.zeroValue106
  t119 := Tryz.underlying131
  a119 := Tryz.isAgg131
  z119 := Tryz.sizeOf131
  t138 := Tryz.underlying133
  a138 := Tryz.isAgg133
  z138 := Tryz.sizeOf133
  v138 := Tryz.zeroValue133
  t139 := Tryz.underlying134
  a139 := Tryz.isAgg134
  z139 := Tryz.sizeOf134
  v139 := Tryz.zeroValue134
  g3 := by kernel_rfl
  g4 := by kernel_rfl }
open Go.RowKit Go.Lib in
theorem Tryz.utf8_DecodeRuneInString_ascii (s : ByteArray) (x : UInt8) (w : World) (h0 : s.data.toList[0]? = some x) (hx : x.toNat < 128) :
    Calls Tryz.prog 79 #[.string s] w fun e w' => e = .returned (.tuple #[.int .i32 x.toNat, .int .i64 1]) ∧ w' = w := Any.utf8_DecodeRuneInString_ascii Tryz.lays197 s x w h0 hx
def Tryz.lays152_ren : Go.Shelf.Ren := ⟨fun | 152 => 93 | 137 => 26 | 119 => 102 | 224 => 103 | 225 => 104 | 217 => 42 | 266 => 56 | n => n, fun | 9 => 9 | 21 => 21 | 3 => 3 | 4 => 4 | 5 => 5 | 0 => 0 | 46 => 101 | n => n, fun | n => n⟩
theorem Tryz.lays152 : Go.Proofs.Lays.n152 Tryz.prog Tryz.lays152_ren := {
  mixed := by kernel_rfl
  f119 := Tryz.func102.trans (congrArg some (by kernel_rfl))
  f137 := Tryz.func26.trans (congrArg some (by kernel_rfl))
  f152 := Tryz.func93.trans (congrArg some (by kernel_rfl))
  f217 := Tryz.func42.trans (congrArg some (by kernel_rfl))
  f224 := Tryz.func103.trans (congrArg some (by kernel_rfl))
  f225 := Tryz.func104.trans (congrArg some (by kernel_rfl))
  f266 := Tryz.func56.trans (congrArg some (by kernel_rfl))
  t0 := Tryz.underlying0
  a0 := Tryz.isAgg0
  z0 := Tryz.sizeOf0
  v0 := Tryz.zeroValue0
  t3 := Tryz.underlying3
  a3 := Tryz.isAgg3
  z3 := Tryz.sizeOf3
  v3 := Tryz.zeroValue3
  t4 := Tryz.underlying4
  a4 := Tryz.isAgg4
  z4 := Tryz.sizeOf4
  v4 := Tryz.zeroValue4
  t5 := Tryz.underlying5
  a5 := Tryz.isAgg5
  z5 := Tryz.sizeOf5
  v5 := Tryz.zeroValue5
  t9 := Tryz.underlying9
  a9 := Tryz.isAgg9
  z9 := Tryz.sizeOf9
  v9 := Tryz.zeroValue9
  t21 := Tryz.underlying21
  a21 := Tryz.isAgg21
  z21 := Tryz.sizeOf21
  v21 := Tryz.zeroValue21
  t46 := Tryz.underlying101
  a46 := Tryz.isAgg101
  z46 := Tryz.sizeOf101
  v46 := Tryz.zeroValue101 }
open Go.RowKit Go.Lib in
theorem Tryz.strings_IndexRune_ascii (s : ByteArray) (r : Int) (w : World) (h0 : 0 ≤ r) (h1 : r < 128) :
    Calls Tryz.prog 93 #[.string s, .int .i32 r] w fun e w' => e = .returned (.int .i64 (Lib.indexByte s.data.toList r.toNat.toUInt8)) ∧ w' = w := Any.strings_IndexRune_ascii Tryz.lays152 s r w h0 h1
def Tryz.lays151_ren : Go.Shelf.Ren := ⟨fun | 151 => 80 | 152 => 93 | 137 => 26 | 119 => 102 | 224 => 103 | 225 => 104 | 217 => 42 | 266 => 56 | n => n, fun | 9 => 9 | 21 => 21 | 4 => 4 | 3 => 3 | 5 => 5 | 0 => 0 | 46 => 101 | n => n, fun | n => n⟩
theorem Tryz.lays151 : Go.Proofs.Lays.n151 Tryz.prog Tryz.lays151_ren := {
  mixed := by kernel_rfl
  f119 := Tryz.func102.trans (congrArg some (by kernel_rfl))
  f137 := Tryz.func26.trans (congrArg some (by kernel_rfl))
  f151 := Tryz.func80.trans (congrArg some (by kernel_rfl))
  f152 := Tryz.func93.trans (congrArg some (by kernel_rfl))
  f217 := Tryz.func42.trans (congrArg some (by kernel_rfl))
  f224 := Tryz.func103.trans (congrArg some (by kernel_rfl))
  f225 := Tryz.func104.trans (congrArg some (by kernel_rfl))
  f266 := Tryz.func56.trans (congrArg some (by kernel_rfl))
  t0 := Tryz.underlying0
  a0 := Tryz.isAgg0
  z0 := Tryz.sizeOf0
  v0 := Tryz.zeroValue0
  t3 := Tryz.underlying3
  a3 := Tryz.isAgg3
  z3 := Tryz.sizeOf3
  v3 := Tryz.zeroValue3
  t4 := Tryz.underlying4
  a4 := Tryz.isAgg4
  z4 := Tryz.sizeOf4
  v4 := Tryz.zeroValue4
  t5 := Tryz.underlying5
  a5 := Tryz.isAgg5
  z5 := Tryz.sizeOf5
  v5 := Tryz.zeroValue5
  t9 := Tryz.underlying9
  a9 := Tryz.isAgg9
  z9 := Tryz.sizeOf9
  v9 := Tryz.zeroValue9
  t21 := Tryz.underlying21
  a21 := Tryz.isAgg21
  z21 := Tryz.sizeOf21
  v21 := Tryz.zeroValue21
  t46 := Tryz.underlying101
  a46 := Tryz.isAgg101
  z46 := Tryz.sizeOf101
  v46 := Tryz.zeroValue101 }
open Go.RowKit Go.Lib in
theorem Tryz.strings_ContainsRune_ascii (s : ByteArray) (r : Int) (w : World) (h0 : 0 ≤ r) (h1 : r < 128) :
    Calls Tryz.prog 80 #[.string s, .int .i32 r] w fun e w' => e = .returned (.bool (decide (0 ≤ Lib.indexByte s.data.toList r.toNat.toUInt8))) ∧ w' = w := Any.strings_ContainsRune_ascii Tryz.lays151 s r w h0 h1
def Tryz.lays227_ren : Go.Shelf.Ren := ⟨fun | 227 => 61 | n => n, fun | 9 => 9 | 116 => 86 | 4 => 4 | 0 => 0 | 3 => 3 | 5 => 5 | n => n, fun | n => n⟩
theorem Tryz.lays227 : Go.Proofs.Lays.n227 Tryz.prog Tryz.lays227_ren := {
  mixed := by kernel_rfl
  f227 := Tryz.func61.trans (congrArg some (by kernel_rfl))
  t0 := Tryz.underlying0
  a0 := Tryz.isAgg0
  z0 := Tryz.sizeOf0
  v0 := Tryz.zeroValue0
  t3 := Tryz.underlying3
  a3 := Tryz.isAgg3
  z3 := Tryz.sizeOf3
  v3 := Tryz.zeroValue3
  t4 := Tryz.underlying4
  a4 := Tryz.isAgg4
  z4 := Tryz.sizeOf4
  v4 := Tryz.zeroValue4
  t5 := Tryz.underlying5
  a5 := Tryz.isAgg5
  z5 := Tryz.sizeOf5
  v5 := Tryz.zeroValue5
  t9 := Tryz.underlying9
  a9 := Tryz.isAgg9
  z9 := Tryz.sizeOf9
  v9 := Tryz.zeroValue9
  t116 := Tryz.underlying86
  a116 := Tryz.isAgg86
  z116 := Tryz.sizeOf86 }
open Go.RowKit Go.Lib in
theorem Tryz.strings_makeASCIISet (hv116 : ∀ w, (zeroValue 86).run Tryz.prog w = .ok (.agg (Array.replicate 256 (.bool false))) w) (chars : ByteArray) (w : World) (hs : chars.size < 4294967281) (hascii : ∀ (j : Nat) b, chars.data.toList[j]? = some b → b.toNat < 128) :
    Calls Tryz.prog 61 #[.string chars] w fun e w' => e = .returned (.tuple #[.agg (Lib.setCells chars.data.toList), .bool true]) ∧ w' = w.alloc (.cells (Lib.setCells chars.data.toList) 86) := Any.strings_makeASCIISet Tryz.lays227 hv116 (by kernel_rfl) chars w hs hascii
def Tryz.lays228_ren : Go.Shelf.Ren := ⟨fun | 228 => 78 | n => n, fun | 124 => 90 | 5 => 5 | 4 => 4 | 0 => 0 | 116 => 86 | n => n, fun | n => n⟩
theorem Tryz.lays228 : Go.Proofs.Lays.n228 Tryz.prog Tryz.lays228_ren := {
  mixed := by kernel_rfl
  f228 := Tryz.func78.trans (congrArg some (by kernel_rfl))
  t0 := Tryz.underlying0
  a0 := Tryz.isAgg0
  z0 := Tryz.sizeOf0
  v0 := Tryz.zeroValue0
  t4 := Tryz.underlying4
  a4 := Tryz.isAgg4
  z4 := Tryz.sizeOf4
  v4 := Tryz.zeroValue4
  t5 := Tryz.underlying5
  a5 := Tryz.isAgg5
  z5 := Tryz.sizeOf5
  v5 := Tryz.zeroValue5
  t116 := Tryz.underlying86
  a116 := Tryz.isAgg86
  z116 := Tryz.sizeOf86
  t124 := Tryz.underlying90
  a124 := Tryz.isAgg90
  z124 := Tryz.sizeOf90
  v124 := Tryz.zeroValue90 }
open Go.RowKit Go.Lib in
theorem Tryz.asciiSet_contains (b : Nat) (x : UInt8) (v : Bool) (w : World) (hc : w.cell? ⟨b, x.toNat, none⟩ = some (.bool v)) :
    Calls Tryz.prog 78 #[.pointer (some ⟨b, 0, none⟩), .int .u8 x.toNat] w fun e w' => e = .returned (.bool v) ∧ w' = w := Any.asciiSet_contains Tryz.lays228 b x v w hc
def Tryz.lays260_ren : Go.Shelf.Ren := ⟨fun | 260 => 92 | n => n, fun | 9 => 9 | 21 => 21 | 3 => 3 | 4 => 4 | 5 => 5 | 119 => 131 | 0 => 0 | 46 => 101 | 139 => 134 | 138 => 133 | n => n, fun | 3 => 4 | 4 => 5 | n => n⟩
theorem Tryz.lays260 : Go.Proofs.Lays.n260 Tryz.prog Tryz.lays260_ren := {
  mixed := by kernel_rfl
  f260 := Tryz.func92.trans (congrArg some (by kernel_rfl))
  t0 := Tryz.underlying0
  a0 := Tryz.isAgg0
  z0 := Tryz.sizeOf0
  v0 := Tryz.zeroValue0
  t3 := Tryz.underlying3
  a3 := Tryz.isAgg3
  z3 := Tryz.sizeOf3
  v3 := Tryz.zeroValue3
  t4 := Tryz.underlying4
  a4 := Tryz.isAgg4
  z4 := Tryz.sizeOf4
  v4 := Tryz.zeroValue4
  t5 := Tryz.underlying5
  a5 := Tryz.isAgg5
  z5 := Tryz.sizeOf5
  v5 := Tryz.zeroValue5
  t9 := Tryz.underlying9
  a9 := Tryz.isAgg9
  z9 := Tryz.sizeOf9
  v9 := Tryz.zeroValue9
  t21 := Tryz.underlying21
  a21 := Tryz.isAgg21
  z21 := Tryz.sizeOf21
  v21 := Tryz.zeroValue21
  t46 := Tryz.underlying101
  a46 := Tryz.isAgg101
  z46 := Tryz.sizeOf101
  v46 := Tryz.zeroValue101
  t119 := Tryz.underlying131
  a119 := Tryz.isAgg131
  z119 := Tryz.sizeOf131
  t138 := Tryz.underlying133
  a138 := Tryz.isAgg133
  z138 := Tryz.sizeOf133
  v138 := Tryz.zeroValue133
  t139 := Tryz.underlying134
  a139 := Tryz.isAgg134
  z139 := Tryz.sizeOf134
  v139 := Tryz.zeroValue134
  g3 := by kernel_rfl
  g4 := by kernel_rfl }
open Go.RowKit Go.Lib in
theorem Tryz.utf8_decodeRuneInStringSlow (s : ByteArray) (w : World) (hT : Lib.Utf8Tabs 4 5 w) :
    Calls Tryz.prog 92 #[.string s] w fun e w' => e = .returned (.tuple #[.int .i32 (Lib.decodeGo s).1, .int .i64 (Lib.decodeGo s).2]) ∧ Below w.heap.size w w' := Any.utf8_decodeRuneInStringSlow Tryz.lays260 s w hT
end Go.Proofs

namespace Go.Proofs.YtpnpllghabbhlaaGreatDoor.Wk
open Go Go.RowKit
section
variable {P : Program} {n : Nat} {ds : List Deferred} {C : World → Prop} {K : Fr → Prop} {F : Fr} {ops rest : List Oper} {d : Nat} {ty : TypeId} {pos : String} {aft : Array Edge}
theorem Wq.nilP {x : Operand} {a : Addr} (hx : ev n F x = .pointer (some a)) (c : Wq P n ds C K ops rest (upd F d (.pointer (some a)))) :
    Wq P n ds C K ops (⟨some d, .nilCheck x, ty, pos, aft, none⟩ :: rest) F :=
  Wq.val (fun w _ => by simp only [execOp, hx, Sem.run_pure]) c
theorem Wq.fieldAddr {x : Operand} {T i off fty : Nat} {sz bytes : Nat} {agg : Bool} {z : Value} {b o : Nat} [hf : Fld P T i off fty] [he : ElT P fty sz bytes agg z] (hx : ev n F x = .pointer (some ⟨b, o, none⟩)) (hz : Nat.beq sz 0 = false)
    (c : Wq P n ds C K ops rest (upd F d (.pointer (some ⟨b, o + off, none⟩)))) : Wq P n ds C K ops (⟨some d, .fieldAddr T x i, ty, pos, aft, none⟩ :: rest) F :=
  Wq.val (fun w _ => by simp only [execOp, hx, Sem.run_bind, run_fieldAt hf he (Nat.ne_of_beq_eq_false hz), Result.andThen_ok, Sem.run_pure]) c
theorem Wq.load1 {x : Operand} {e bytes : Nat} {z u : Value} {b o : Nat} [he : ElT P e 1 bytes false z] (hx : ev n F x = .pointer (some ⟨b, o, none⟩)) (hc : ∀ w, C w → w.cell? ⟨b, o, none⟩ = some u)
    (c : Wq P n ds C K ops rest (upd F d u)) : Wq P n ds C K ops (⟨some d, .load e x, ty, pos, aft, none⟩ :: rest) F :=
  Wq.val (fun w hw => by simp only [execOp, hx, Sem.run_bind, run_load1 he (hc w hw), Result.andThen_ok, Sem.run_pure]) c
section
variable {x lo hi : Operand} {t : TypeId} {k : IntKind} {a b : Int} {l : List UInt8}
theorem Wq.strTo [ht : Und P t .string] (hx : ev n F x = vs l) (hh : ev n F hi = .int k b) (h0 : 0 ≤ b) (h1 : b ≤ l.length)
    (c : Wq P n ds C K ops rest (upd F d (vs (l.take b.toNat)))) : Wq P n ds C K ops (⟨some d, .slice t x none (some hi) none, ty, pos, aft, none⟩ :: rest) F := by
  obtain ⟨b, rfl⟩ := Int.eq_ofNat_of_zero_le h0
  refine Wq.val (fun w _ => ?_) c
  have := run_sliceStr (P := P) (w := w) (l := l) (lo := none) (hi := some (.int k b)) (a := 0) (b := b) ht.h (.inl ⟨rfl, rfl⟩) (.inr ⟨k, rfl⟩) (Nat.zero_le _) (by omega)
  simp only [execOp, hx, hh, Option.map_none, Option.map_some, Sem.run_bind, this, Result.andThen_ok, Sem.run_pure, List.drop_zero, Int.toNat_natCast]
theorem Wq.strFrom [ht : Und P t .string] (hx : ev n F x = vs l) (hl : ev n F lo = .int k a) (h0 : 0 ≤ a) (h1 : a ≤ l.length)
    (c : Wq P n ds C K ops rest (upd F d (vs (l.drop a.toNat)))) : Wq P n ds C K ops (⟨some d, .slice t x (some lo) none none, ty, pos, aft, none⟩ :: rest) F := by
  obtain ⟨a, rfl⟩ := Int.eq_ofNat_of_zero_le h0
  refine Wq.val (fun w _ => ?_) c
  have := run_sliceStr (P := P) (w := w) (l := l) (lo := some (.int k a)) (hi := none) (a := a) (b := l.length) ht.h (.inr ⟨k, rfl⟩) (.inl ⟨rfl, rfl⟩) (by omega) (Nat.le_refl _)
  simp only [execOp, hx, hl, Option.map_none, Option.map_some, Sem.run_bind, this, Result.andThen_ok, Sem.run_pure, List.take_length, Int.toNat_natCast]
end
end
end Go.Proofs.YtpnpllghabbhlaaGreatDoor.Wk

namespace Go.Proofs.YtpnpllghabbhlaaGreatDoor.Wk
open Go Go.RowKit

def QF : Exit → Act → World → Prop := fun _ _ _ => False
/-- Whatever order is picked; every operation but 'last' leaves a world of the class. -/
def wpAnyM (P : Program) (ops : Array Oper) (C : World → Prop) (last : Nat) (Q : Exit → Act → World → Prop) : Nat → Array Bool → Act → World → Prop
  | 0, listed, a, w => Region.ready .any ops listed = [] ∧ Q .normal a w
  | fuel + 1, listed, a, w =>
    (Region.ready .any ops listed = [] → Q .normal a w) ∧
    ∀ i ∈ Region.ready .any ops listed, (i ≠ last → wpOp P ops QF i (fun a' w' => C w' ∧ wpAnyM P ops C last Q fuel (listed.setIfInBounds i true) a' w') a w) ∧
      (i = last → wpOp P ops Q i (wpAnyM P ops C last Q fuel (listed.setIfInBounds i true)) a w)
section
variable {P : Program} {ops : Array Oper} {C : World → Prop} {last : Nat} {Q : Exit → Act → World → Prop}

theorem wpOp_of_QF {i : Nat} {K K' : Act → World → Prop} {a : Act} {w : World} (hK : ∀ a w, K a w → K' a w) (h : wpOp P ops QF i K a w) : wpOp P ops Q i K' a w := by
  unfold wpOp at h ⊢
  split
  · rename_i ho; simp only [ho] at h; exact hK _ _ h
  · rename_i o ho
    simp only [ho] at h
    split
    · rename_i hw
      simp only [hw, if_true] at h
      rcases h with h | ⟨_, a₀, w₀, hq⟩
      · refine .inl ?_
        unfold Oper.wp at *
        generalize (execOp a.eval o).run P w = r at *
        cases r with
        | ok nx w' =>
          cases nx <;> simp only [Oper.upon] at h ⊢ <;>
            first
              | exact hK _ _ h
              | exact Calls.mono h (fun e w'' he => by cases e <;> first | exact hK _ _ he | exact he.elim | (obtain ⟨a₀, w₀, hq⟩ := he; exact hq.elim))
              | exact Rows.mono h (fun _ _ he => hK _ _ he)
        | halt x w' => cases x <;> simp only [Oper.upon] at h ⊢ <;> exact h.elim
      · exact hq.elim
    · rename_i hw
      simp only [hw] at h
      exact hK _ _ h
theorem wpAny_of_M : ∀ (fuel : Nat) (listed : Array Bool) (a : Act) (w : World), wpAnyM P ops C last Q fuel listed a w → wpAny P .any ops Q fuel listed a w
  | 0, _, _, _, h => h
  | fuel + 1, listed, a, w, h => ⟨h.1, fun i hi => by
      by_cases hil : i = last
      · have := (h.2 i hi).2 hil
        refine wpOp_mono (fun a' w' h' => wpAny_of_M fuel _ a' w' h') this
      · exact wpOp_of_QF (fun a' w' h' => wpAny_of_M fuel _ a' w' h'.2) ((h.2 i hi).1 hil)⟩
/-- An operation apart from a quiet one. -/
theorem wpOp_put {j : Nat} {oi oj : Oper} {v : Value} (hj : ops[j]? = some oj) (hap : oi.apart ops oj = true)
    (hsi : ∀ cs b, oi.op ≠ .select cs b) (hsj : ∀ cs b, oj.op ≠ .select cs b) {K : Act → World → Prop} {a : Act} {w : World} (hy : YieldsIn P ops C oi v a) (h : wpOp P ops QF j K (a.put oi.dst v) w) :
    wpOp P ops QF j (fun a' w' => YieldsIn P ops C oi v a' ∧ K (a'.put oi.dst v) w') a w := by
  obtain ⟨h1, h2, h3⟩ := Oper.apart_spec hap
  have keep : ∀ (a : Act), YieldsIn P ops C oi v a → ∀ u, YieldsIn P ops C oi v (a.put oj.dst u) := fun a hy u =>
    hy.of_same (execOp_put oi hsi a oj.dst u h3) (wanted_put oi a oj.dst u h3)
  have both : ∀ u w', K ((a.put oi.dst v).put oj.dst u) w' → YieldsIn P ops C oi v (a.put oj.dst u) ∧ K ((a.put oj.dst u).put oi.dst v) w' := fun u w' hk => ⟨keep a hy u, by rw [← Act.put_comm a v u h2]; exact hk⟩
  unfold wpOp at *
  simp only [hj] at *
  rw [wanted_put oj a oi.dst v h1] at h
  split
  · rename_i hw
    simp only [hw, if_true] at h
    rcases h with h | ⟨_, a₀, w₀, hq⟩
    · refine .inl ?_
      unfold Oper.wp at *
      rw [execOp_put oj hsj a oi.dst v h1] at h
      generalize (execOp a.eval oj).run P w = r at *
      cases r with
      | ok nx w' =>
        cases nx with
        | value u => exact both _ _ h
        | skip => exact both _ _ h
        | enter f args => exact Calls.mono h (fun e w'' he => by cases e with | returned u => exact both _ _ he | panicked c => exact he.elim | outgrown => obtain ⟨a₀, w₀, hq⟩ := he; exact hq.elim)
        | row r' args => exact Rows.mono h (fun _ _ he => both _ _ he)
        | defer d =>
          simp only [Oper.upon] at h ⊢
          refine ⟨?_, ?_⟩
          · have h5 : ∀ u, YieldsIn P ops C oi v (({ a with defers := d :: a.defers } : Act).put oj.dst u) := by
              intro u
              have h6 := keep a hy u
              exact h6.of_same (by congr 1; funext x; cases oj.dst <;> cases x <;> rfl) (by cases oj.dst <;> rfl)
            exact h5 _
          · have : ({ (a.put oi.dst v) with defers := d :: (a.put oi.dst v).defers } : Act).put oj.dst undef = (({ a with defers := d :: a.defers } : Act).put oj.dst undef).put oi.dst v := by
              rw [← Act.put_comm _ v undef h2]; cases oi.dst <;> rfl
            rw [← this]; exact h
        | _ => exact h.elim
      | halt x w' => cases x <;> exact h.elim
    · exact hq.elim
  · rename_i hw
    simp only [hw] at h
    exact both _ _ h

def Clos (ops : Array Oper) (listed : Array Bool) : Prop := ∀ (j : Nat) (o : Oper), listed.getD j false = true → ops[j]? = some o → ∀ e ∈ o.after, Region.binds .any e = true → listed.getD e.on false = true
theorem Clos.set {listed : Array Bool} (h : Clos ops listed) {i : Nat} (hi : i ∈ Region.ready .any ops listed) : Clos ops (listed.setIfInBounds i true) := by
  intro j o hj ho e he hb
  obtain ⟨_, oi, hoi, hall⟩ := mem_ready.1 hi
  by_cases hji : i = j
  · subst hji; rw [hoi] at ho; cases ho; exact getD_set_true (hall e he hb)
  · rw [getD_set_ne false hji] at hj; exact getD_set_true (h j o hj ho e he hb)

/-! An operation that enters no function: one that is quiet leaves the very world. -/
def readB : Op → Bool
  | .move _ | .assign _ | .pick .. | .load .. | .binOp .. | .unOp .. | .convert .. | .slice .. | .fieldAddr .. | .field .. | .indexAddr .. | .index .. | .lookup .. | .extract .. | .nilCheck _ => true
  | .call c => match c.callee with | .builtin .len => true | _ => false
  | _ => false
theorem run_v_ne {s : Sem Value} {w w' : World} {f : FuncId} {args : Array Value} : (do pure (Next.value (← s)) : Sem Next).run P w ≠ .ok (.enter f args) w' := by
  simp only [Sem.run_bind]
  cases s.run P w with
  | ok v w1 => simp
  | halt x w1 => simp [Result.andThen]
theorem run_bind_ne {α : Type} {s : Sem α} {k : α → Sem Next} {w w' : World} {f : FuncId} {args : Array Value} (h : ∀ x w1, (k x).run P w1 ≠ .ok (.enter f args) w') : (s >>= k).run P w ≠ .ok (.enter f args) w' := by
  simp only [Sem.run_bind]
  cases s.run P w with
  | ok v w1 => exact h v w1
  | halt x w1 => simp [Result.andThen]
theorem panic_ne {w w' : World} {f : FuncId} {args : Array Value} : (runtimePanic .nilDeref : Sem Next).run P w ≠ .ok (.enter f args) w' := by
  unfold runtimePanic
  exact run_bind_ne fun x w1 => by simp [goPanic]
theorem noEnter {o : Oper} (h : readB o.op = true) {ρ : Operand → Value} {w w' : World} {f : FuncId} {args : Array Value} : (execOp ρ o).run P w ≠ .ok (.enter f args) w' := by
  obtain ⟨dst, op, ty, pos, after, guard⟩ := o
  cases op <;> simp only [readB] at h <;> first | (cases h; done) | skip
  case call c =>
    obtain ⟨callee, cargs, ats⟩ := c
    cases callee with
    | builtin b =>
      cases b <;> simp only at h <;> first | (cases h; done) | skip
      simp only [execOp, resolve, Sem.run_bind, Sem.run_pure, Result.andThen_ok, invoke, builtin]
      generalize Sem.run P _ w = r
      cases r <;> simp [Result.andThen]
    | _ => cases h
  all_goals simp only [execOp]
  all_goals first | exact run_v_ne | skip
  · simp
  · simp
  · simp only [Sem.run_bind]
    generalize (asBool _).run P w = r
    cases r <;> simp [Result.andThen]
  · split
    · exact panic_ne
    · exact panic_ne
    · exact panic_ne
    · split
      · exact panic_ne
      · refine run_bind_ne fun x w1 => run_bind_ne fun y w2 => ?_
        split
        · exact run_bind_ne fun x w1 => by simp
        · simp
      · simp
    · simp

/-- The quiet operation leaves the very world. -/
def YieldsS (P : Program) (ops : Array Oper) (C : World → Prop) (o : Oper) (v : Value) (a : Act) : Prop := YieldsIn P ops C o v a ∧ readB o.op = true
theorem YieldsS.wpOp {i : Nat} {o : Oper} {v : Value} {a : Act} {w : World} (hi : ops[i]? = some o) (hy : YieldsIn P ops C o v a) (hr : readB o.op = true) (hC : C w) {K : Act → World → Prop} (h : K (a.put o.dst v) w) : wpOp P ops Q i K a w := by
  unfold Go.wpOp
  simp only [hi]
  rcases hy with ⟨hw, hv⟩ | ⟨hw, rfl⟩
  · simp only [hw, if_true]
    refine .inl ?_
    have h3 := hv w hC
    unfold Oper.quietAt at h3
    unfold Oper.wp
    have hne := @noEnter P o hr a.eval w
    generalize (execOp a.eval o).run P w = r at *
    cases r with
    | ok n w' =>
      cases n <;> simp only [Oper.quietUpon] at h3 <;> simp only [Oper.upon]
      case value u =>
        obtain ⟨e1, e2⟩ := h3
        rw [e1, e2]
        exact h
      case skip =>
        obtain ⟨e1, e2⟩ := h3
        rw [e1, ← e2]
        exact h
      case enter f args => exact (hne rfl).elim
    | halt x w' => simp only [Oper.quietUpon] at h3
  · simp only [hw, Bool.false_eq_true, if_false]; exact h

theorem wpAnyM_first {i : Nat} {oi : Oper} {v : Value} (hi : ops[i]? = some oi) (hr : readB oi.op = true) (hsel : ∀ (j : Nat) (o : Oper) cs b, ops[j]? = some o → o.op ≠ .select cs b) (hil : i ≠ last)
    (HL : ∀ listed : Array Bool, Clos ops listed → last ∈ Region.ready .any ops listed → listed.getD i true = true) :
    ∀ (fuel : Nat) (listed : Array Bool) (a : Act) (w : World), Clos ops listed → C w →
      (∀ j oj, ops[j]? = some oj → j ≠ i → listed.getD j true = false → (∀ e ∈ oj.after, Region.binds .any e = true → e.on ≠ i) → oi.apart ops oj = true) →
      i ∈ Region.ready .any ops listed → YieldsIn P ops C oi v a →
      wpAnyM P ops C last Q fuel (listed.setIfInBounds i true) (a.put oi.dst v) w → wpAnyM P ops C last Q (fuel + 1) listed a w := by
  intro fuel
  have notLast : ∀ listed : Array Bool, Clos ops listed → i ∈ Region.ready .any ops listed → ∀ j, j ∈ Region.ready .any ops listed → j ≠ last := by
    intro listed hc hr j hj e
    subst e
    have := HL listed hc hj
    rw [(mem_ready.1 hr).1] at this
    cases this
  induction fuel with
  | zero =>
    intro listed a w hc hC _ hrd hy H
    refine ⟨fun h => (by rw [h] at hrd; cases hrd), fun j hj => ⟨fun _ => ?_, fun e => absurd e (notLast listed hc hrd j hj)⟩⟩
    by_cases hji : j = i
    · subst hji; exact YieldsS.wpOp hi hy hr hC ⟨hC, H⟩
    · have := ready_mono hj hji
      rw [H.1] at this
      cases this
  | succ fuel ih =>
    intro listed a w hc hC hfree hrd hy H
    refine ⟨fun h => (by rw [h] at hrd; cases hrd), fun j hj => ⟨fun hjl => ?_, fun e => absurd e (notLast listed hc hrd j hj)⟩⟩
    by_cases hji : j = i
    · subst hji; exact YieldsS.wpOp hi hy hr hC ⟨hC, H⟩
    · have h1 := (H.2 j (ready_mono hj hji)).1 hjl
      obtain ⟨hjun, oj, hoj, hall⟩ := mem_ready.1 hj
      have hnot : ∀ e ∈ oj.after, Region.binds .any e = true → e.on ≠ i := fun e he hb heq => by
        have h1 := hall e he hb
        have h0 := (mem_ready.1 hrd).1
        rw [heq] at h1
        rcases Nat.lt_or_ge i listed.size with h' | h'
        · simp [h'] at h0 h1; rw [h0] at h1; cases h1
        · simp [Array.getElem?_eq_none h'] at h1
      have h2 := wpOp_put hoj (hfree j oj hoj hji hjun hnot) (fun cs b => hsel i oi cs b hi) (fun cs b => hsel j oj cs b hoj) hy h1
      have hfree' : ∀ k ok, ops[k]? = some ok → k ≠ i → (listed.setIfInBounds j true).getD k true = false →
          (∀ e ∈ ok.after, Region.binds .any e = true → e.on ≠ i) → oi.apart ops ok = true := fun k ok hk hki hun hno => by
        refine hfree k ok hk hki ?_ hno
        by_cases hjk : j = k
        · subst hjk; exact hjun
        · rw [getD_set_ne true hjk] at hun; exact hun
      refine wpOp_mono (fun a' w' h3 => ⟨h3.2.1, ih (listed.setIfInBounds j true) a' w' (hc.set hj) h3.2.1 hfree' (ready_mono hrd (Ne.symm hji)) h3.1 ?_⟩) h2
      rw [Array.setIfInBounds_comm _ _ hji]
      exact h3.2.2

/-! The quiet ones, in the text's order, then the chain. -/
def quietOk (ops : Array Oper) (last : Nat) : List Nat → Array Bool → Bool
  | [], _ => true
  | k :: r, listed => (Region.ready .any ops listed).contains k && Region.free .any ops listed k && k != last && (match ops[k]? with | some o => readB o.op | none => false) && quietOk ops last r (listed.setIfInBounds k true)
def setAllB : List Nat → Array Bool → Array Bool
  | [], l => l
  | k :: r, l => setAllB r (l.setIfInBounds k true)
theorem clos_setAll : ∀ (qs : List Nat) (listed : Array Bool), Clos ops listed → quietOk ops last qs listed = true → Clos ops (setAllB qs listed)
  | [], _, h, _ => h
  | k :: r, listed, h, hq => by
    simp only [quietOk, Bool.and_eq_true] at hq
    exact clos_setAll r _ (h.set (by simpa using hq.1.1.1.1)) hq.2
theorem wpAnyM_quiet (hsel : ∀ (j : Nat) (o : Oper) cs b, ops[j]? = some o → o.op ≠ .select cs b)
    (HL : ∀ listed : Array Bool, Clos ops listed → last ∈ Region.ready .any ops listed → ∀ i, i ≠ last → i < ops.size → listed.getD i true = true) (m : Nat) :
    ∀ (qs : List Nat) (lq : List Oper) (listed : Array Bool) (a : Act) (w : World), qs.map (fun k => ops[k]?) = lq.map some → quietOk ops last qs listed = true → Clos ops listed → C w →
      wpQuiet P ops C (fun a' => wpAnyM P ops C last Q m (setAllB qs listed) a' w) lq a → wpAnyM P ops C last Q (qs.length + m) listed a w
  | [], [], listed, a, w, _, _, _, hC, h => by simpa [setAllB, wpQuiet] using h
  | [], _ :: _, _, _, _, h, _, _, _, _ => by simp at h
  | _ :: _, [], _, _, _, h, _, _, _, _ => by simp at h
  | k :: r, o :: lq, listed, a, w, hm, hq, hc, hC, h => by
    simp only [List.map_cons, List.cons.injEq] at hm
    simp only [quietOk, Bool.and_eq_true, hm.1] at hq
    obtain ⟨⟨⟨⟨h1, h2⟩, h3⟩, h4⟩, h5⟩ := hq
    have hrd : k ∈ Region.ready .any ops listed := by simpa using h1
    have hkl : k ≠ last := by simpa using h3
    have hst : qOp P ops C k (wpQuiet P ops C (fun a' => wpAnyM P ops C last Q m (setAllB r (listed.setIfInBounds k true)) a' w) lq) a := by unfold qOp; simp only [hm.1]; exact h
    obtain ⟨v, hy, hK⟩ := yieldsIn_of_qOp hm.1 hst
    have e : (k :: r).length + m = (r.length + m) + 1 := by simp; omega
    rw [e]
    exact wpAnyM_first hm.1 h4 hsel hkl (fun l hl hr => HL l hl hr k hkl (Array.getElem?_eq_some_iff.1 hm.1).1) _ listed a w hc hC (Region.free_spec hm.1 h2) hrd hy
      (wpAnyM_quiet hsel HL m r lq _ _ w hm.2 h5 (hc.set hrd) hC hK)

def chainOk (ops : Array Oper) (last : Nat) : List Nat → Array Bool → Bool
  | [], listed => (Region.ready .any ops listed).isEmpty
  | k :: r, listed => Region.ready .any ops listed == [k] && (k == last) == r.isEmpty && chainOk ops last r (listed.setIfInBounds k true)
/-- Whoever must come ahead of the last. -/
def ahead (ops : Array Oper) : Nat → List Nat → List Nat
  | 0, S => S
  | f + 1, S => ahead ops f (S ++ (S.flatMap fun k => match ops[k]? with | some o => (o.after.toList.filter fun e => Region.binds .any e).map (·.on) | none => []).eraseDups)
theorem ahead_spec {listed : Array Bool} (hc : Clos ops listed) (hr : last ∈ Region.ready .any ops listed) : ∀ (f : Nat) (S : List Nat), (∀ k ∈ S, k = last ∨ listed.getD k false = true) → ∀ k ∈ ahead ops f S, k = last ∨ listed.getD k false = true
  | 0, S, h, k, hk => h k hk
  | f + 1, S, h, k, hk => by
    refine ahead_spec hc hr f _ ?_ k hk
    intro j hj
    rcases List.mem_append.1 hj with hj | hj
    · exact h j hj
    · rw [List.mem_eraseDups, List.mem_flatMap] at hj
      obtain ⟨i, hi, hj⟩ := hj
      cases ho : ops[i]? with
      | none => rw [ho] at hj; cases hj
      | some o =>
        rw [ho] at hj
        simp only [List.mem_map, List.mem_filter] at hj
        obtain ⟨e, ⟨he, hb⟩, rfl⟩ := hj
        right
        rcases h i hi with rfl | hl
        · obtain ⟨_, o', ho', hall⟩ := mem_ready.1 hr
          rw [ho] at ho'; cases ho'
          exact hall e (by simpa using he) hb
        · exact hc i o hl ho e (by simpa using he) hb
def mixOk (ops : List Oper) (qs cs : List Nat) : Bool :=
  let a := ops.toArray; let l0 := Array.replicate a.size false; let last := cs.getLast?.getD 0
  Region.noSelect a && quietOk a last qs l0 && chainOk a last cs (setAllB qs l0) && qs.length + cs.length == a.size && (let S := ahead a a.size [last]; (List.range a.size).all fun k => S.contains k)
end

section
variable {P : Program} {n : Nat} {ds : List Deferred} {Q : Po} {F : Fr} {ops : List Oper} {C : World → Prop}
/-- The chain, one behind another: each leaves a world of the class, but for the last. -/
def Wch (P : Program) (n : Nat) (ds : List Deferred) (C : World → Prop) (Q : Po) (ops : List Oper) : List Oper → Fr → World → Prop
  | [], F, w => Q .normal F w
  | o :: r, F, w => if r.isEmpty then Wl P n ds Q ops [o] F w else Wl P n ds (fun e F' w' => e = .normal ∧ C w' ∧ Wch P n ds C Q ops r F' w') ops [o] F w
theorem Wch.cons {o o2 : Oper} {r : List Oper} {w : World} (h : Wl P n ds (fun e F' w' => e = .normal ∧ C w' ∧ Wch P n ds C Q ops (o2 :: r) F' w') ops [o] F w) : Wch P n ds C Q ops (o :: o2 :: r) F w := h
theorem Wch.last {o : Oper} {w : World} (h : Wl P n ds Q ops [o] F w) : Wch P n ds C Q ops [o] F w := h
theorem wpOp_noQ {a₁ : Array Oper} {Qx : Exit → Act → World → Prop} {i : Nat} {K K' : Act → World → Prop} {a : Act} {w : World} (noQ : ∀ e a w, e ≠ .normal → ¬ Qx e a w) (hK : ∀ a w, K a w → K' a w) (h : wpOp P a₁ Qx i K a w) : wpOp P a₁ QF i K' a w := by
  unfold wpOp at h ⊢
  split
  · rename_i ho; simp only [ho] at h; exact hK _ _ h
  · rename_i o ho
    simp only [ho] at h
    split
    · rename_i hw
      simp only [hw, if_true] at h
      rcases h with h | ⟨_, a₀, w₀, hq⟩
      · refine .inl ?_
        unfold Oper.wp at *
        generalize (execOp a.eval o).run P w = r at *
        cases r with
        | ok nx w' =>
          cases nx <;> simp only [Oper.upon] at h ⊢ <;>
            first
              | exact hK _ _ h
              | exact Calls.mono h (fun e w'' he => by cases e <;> first | exact hK _ _ he | exact absurd he (noQ _ _ _ (by simp)) | (obtain ⟨a₀, w₀, hq⟩ := he; exact absurd hq (noQ _ _ _ (by simp))))
              | exact Rows.mono h (fun _ _ he => hK _ _ he)
        | halt x w' => cases x <;> simp only [Oper.upon] at h ⊢ <;> first | exact h.elim | exact absurd h (noQ _ _ _ (by simp))
      · exact absurd hq (noQ _ _ _ (by simp))
    · rename_i hw
      simp only [hw] at h
      exact hK _ _ h
theorem wpOp_of_Wl {Q' : Po} {k : Nat} {o : Oper} {w : World} (ho : ops[k]? = some o) (h : Wl P n ds Q' ops [o] F w) : wpOp P ops.toArray (QA n ds Q') k (fun a w' => QA n ds Q' .normal a w') (act n ds F) w := by
  unfold Wl wpList at h
  unfold wpOp
  simp only [List.getElem?_toArray, ho]
  exact h
theorem wpAnyM_chain {last : Nat} : ∀ (cs : List Nat) (lc : List Oper) (listed : Array Bool) (F : Fr) (w : World), cs.map (fun k => ops[k]?) = lc.map some → chainOk ops.toArray last cs listed = true → lc ≠ [] → Wch P n ds C Q ops lc F w →
    wpAnyM P ops.toArray C last (QA n ds Q) cs.length listed (act n ds F) w
  | _, [], _, _, _, _, _, h, _ => absurd rfl h
  | [], _ :: _, _, _, _, h, _, _, _ => by simp at h
  | k :: r, o :: lc, listed, F, w, hm, hc, _, h => by
    simp only [List.map_cons, List.cons.injEq] at hm
    simp only [chainOk, Bool.and_eq_true, beq_iff_eq] at hc
    obtain ⟨⟨h1, h2⟩, h3⟩ := hc
    have hlen : r.length = lc.length := by have := congrArg List.length hm.2; simpa using this
    have hrd : ∀ i, i ∈ Region.ready .any ops.toArray listed → i = k := fun i hi => by rw [h1] at hi; simpa using hi
    refine ⟨fun h0 => (by rw [h0] at h1; cases h1), fun i hi => ?_⟩
    obtain rfl := hrd i hi
    cases lc with
    | nil =>
      have hr : r = [] := List.eq_nil_of_length_eq_zero (by simpa using hlen)
      subst hr
      have hl : i = last := by simpa using h2
      refine ⟨fun e => absurd hl e, fun _ => ?_⟩
      simp only [Wch, List.isEmpty_nil, if_true] at h
      refine wpOp_mono (fun a' w' h' => ⟨?_, h'⟩) (wpOp_of_Wl hm.1 h)
      simpa [chainOk] using h3
    | cons o2 lc =>
      have hr : r.isEmpty = false := by cases r with | nil => simp at hlen | cons => rfl
      rw [hr] at h2
      have hl : i ≠ last := by simpa using h2
      refine ⟨fun _ => ?_, fun e => absurd e hl⟩
      simp only [Wch, List.isEmpty_cons, Bool.false_eq_true, if_false] at h
      refine wpOp_noQ ?_ ?_ (wpOp_of_Wl hm.1 h)
      · rintro e a' w' he ⟨F', _, h', _⟩; exact he h'
      · rintro a' w' ⟨F', rfl, _, hC, h'⟩
        refine ⟨hC, wpAnyM_chain r (o2 :: lc) _ F' w' hm.2 h3 (by simp) ?_⟩
        simpa only [Wch] using h'

theorem wpQuiet_mono {a₁ : Array Oper} {K K' : Act → Prop} (hK : ∀ a, K a → K' a) : ∀ (l : List Oper) (a : Act), wpQuiet P a₁ C K l a → wpQuiet P a₁ C K' l a
  | [], a, h => hK a h
  | o :: l, a, h => by
    unfold wpQuiet at h ⊢
    split
    · rename_i hw; rw [if_pos hw] at h; exact Oper.quiet_mono (fun a' => wpQuiet_mono hK l a') h
    · rename_i hw; rw [if_neg hw] at h; exact wpQuiet_mono hK l _ h
/-- Some of a region's operations. -/
def pick (ops : List Oper) : List Nat → List Oper
  | [] => []
  | k :: r => match ops[k]? with | some o => o :: pick ops r | none => pick ops r
theorem pick_map {ops : List Oper} : ∀ {qs : List Nat}, qs.all (fun k => decide (k < ops.length)) = true → qs.map (fun k => ops[k]?) = (pick ops qs).map some
  | [], _ => rfl
  | k :: r, h => by
    simp only [List.all_cons, Bool.and_eq_true, decide_eq_true_eq] at h
    have := List.getElem?_eq_getElem h.1
    simp only [List.map_cons, pick, this, pick_map h.2]
/-- A region of quiet operations and a chain. -/
theorem Wc.regionM {w : World} {id : Nat} (qs cs : List Nat) {lq lc : List Oper} (hm : P.follows .mixedOrders = true) (hB : (mixOk ops qs cs && (qs.all (fun k => decide (k < ops.length)) && (cs.all (fun k => decide (k < ops.length)) && !(pick ops cs).isEmpty))) = true) (hq' : pick ops qs = lq) (hc' : pick ops cs = lc)
    (C : World → Prop) (hC : C w.drew) (h : Wq P n ds C (fun F' => ∀ w', New w w' → Wch P n ds C Q ops lc F' w') ops lq F) : Wc P n ds Q (.region id ops.toArray true) F w := by
  unfold Wc
  subst hq'
  subst hc'
  simp only [Bool.and_eq_true] at hB
  obtain ⟨hB, hq, hc, hne⟩ := hB
  replace hq := pick_map hq
  replace hc := pick_map hc
  simp only [mixOk, Bool.and_eq_true, beq_iff_eq] at hB
  obtain ⟨⟨⟨⟨h1, h2⟩, h3⟩, h4⟩, h5⟩ := hB
  refine wp_region_any hm ?_
  refine wpAny_of_M (last := cs.getLast?.getD 0) (C := C) _ _ _ _ ?_
  have h0 : Clos ops.toArray (Array.replicate ops.toArray.size false) := by
    intro j o hj
    exfalso
    simp only [Array.getD_eq_getD_getElem?, Array.getElem?_replicate] at hj
    split at hj <;> simp at hj
  have HL : ∀ listed : Array Bool, Clos ops.toArray listed → cs.getLast?.getD 0 ∈ Region.ready .any ops.toArray listed → ∀ i, i ≠ cs.getLast?.getD 0 → i < ops.toArray.size → listed.getD i true = true := by
    intro listed hcl hr i hil hi2
    by_cases hi : i < listed.size
    · have := List.all_eq_true.1 h5 i (List.mem_range.2 hi2)
      have hmem : i ∈ ahead ops.toArray ops.toArray.size [cs.getLast?.getD 0] := by simpa using this
      rcases ahead_spec hcl hr _ _ (by simp) i hmem with e | e
      · exact absurd e hil
      · simpa [Array.getD_eq_getD_getElem?, Array.getElem?_eq_getElem hi] using e
    · simp [Array.getD_eq_getD_getElem?, Array.getElem?_eq_none (Nat.not_lt.1 hi)]
  have := wpAnyM_quiet (P := P) (C := C) (Q := QA n ds Q) (Region.noSelect_spec h1) HL cs.length qs _ (Array.replicate ops.toArray.size false) (act n ds F) w.drew (by simpa using hq) h2 h0 hC ?_
  · rw [h4] at this; exact this
  · unfold Wq at h
    refine wpQuiet_mono (fun a' ha => ?_) _ _ h
    obtain ⟨F', rfl, hk⟩ := ha
    exact wpAnyM_chain cs _ _ F' _ hc h3 (by intro e; rw [e] at hne; cases hne) (hk _ (Chg.drew _ _))
end
end Go.Proofs.YtpnpllghabbhlaaGreatDoor.Wk

namespace Go.Proofs.YtpnpllghabbhlaaGreatDoor.Wk
open Go Go.RowKit

section
variable {P : Program} {n : Nat} {ds : List Deferred} {Q : Po} {F : Fr} {w w' : World} {ops rest : List Oper} {d d1 d2 : Nat} {ty ty1 ty2 : TypeId} {pos pos1 pos2 : String} {aft aft1 aft2 : Array Edge}
variable {C : World → Prop} {K : Fr → Prop}
/-- The cells cs lie from (b, o) on. -/
def At (w : World) (b o : Nat) (cs : List Value) : Prop := ∀ (i : Nat) (u : Value), cs[i]? = some u → w.cell? ⟨b, o + i, none⟩ = some u
theorem At.get {b o : Nat} {cs : List Value} (h : At w b o cs) (i : Nat) {u : Value} (hu : cs[i]? = some u) : w.cell? ⟨b, o + i, none⟩ = some u := h i u hu
theorem Bk.at {b : Nat} {T : TypeId} {cs : List Value} (h : Bk w b T cs) : At w b 0 cs := fun i u hu => by rw [Nat.zero_add]; exact h.cell hu
theorem At.keep {Pb : Nat → Prop} {b o : Nat} {cs : List Value} (h : At w b o cs) (hk : Keep Pb w w') (hb : Pb b) (hl : b < w.heap.size) : At w' b o cs := fun i u hu => by
  have := h i u hu
  simp only [World.cell?] at this ⊢
  rw [hk b hb hl]; exact this

/-- &xs[j]. -/
theorem Wl.idxAddr {α : Type} {R : Rel α} {sz : Nat} {Pb : Nat → Prop} {xs : List α} {x i : Operand} {t e bytes : Nat} {agg : Bool} {z v : Value} {k : IntKind} {j : Int} {y : α}
    [ht : Und P t (.slice e)] [he : ElT P e sz bytes agg z] (h : RdS R sz Pb w v xs) (hx : ev n F x = v) (hi : ev n F i = .int k j) (h0 : 0 ≤ j) (hy : xs[j.toNat]? = some y)
    (c : ∀ b o cs, cs.length = sz → R Pb w y cs → At w b o cs → Wl P n ds Q ops rest (upd F d (.pointer (some ⟨b, o, none⟩))) w) :
    Wl P n ds Q ops (⟨some d, .indexAddr t x i, ty, pos, aft, none⟩ :: rest) F w := by
  obtain ⟨b, off, cap, rfl, hlt, cs, hl, hR, hc⟩ := h.cells hy
  refine Wl.val (w' := w) (v := .pointer (some ((⟨b, off, none⟩ : Addr).add (j.toNat * sz)))) ?_ ?_
  · simp only [execOp, hx, hi, Sem.run_bind, run_indexAt ht.h he h0 (by omega : j < xs.length), Result.andThen_ok, Sem.run_pure]
  · rw [addr_add]; exact c _ _ cs hl hR hc
/-- The same in a region that draws: in every world of the class the list reads so. -/
theorem Wq.idxAddr {α : Type} {R : Rel α} {sz : Nat} {Pb : Nat → Prop} {xs : List α} {x i : Operand} {t e bytes : Nat} {agg : Bool} {z v : Value} {k : IntKind} {j : Int} {y : α} {w : World}
    [ht : Und P t (.slice e)] [he : ElT P e sz bytes agg z] (h : RdS R sz Pb w v xs) (hC : ∀ w', C w' → Keep Pb w w') (hx : ev n F x = v) (hi : ev n F i = .int k j) (h0 : 0 ≤ j) (hy : xs[j.toNat]? = some y)
    (c : ∀ b o cs, cs.length = sz → R Pb w y cs → (∀ w', C w' → At w' b o cs) → Wq P n ds C K ops rest (upd F d (.pointer (some ⟨b, o, none⟩)))) :
    Wq P n ds C K ops (⟨some d, .indexAddr t x i, ty, pos, aft, none⟩ :: rest) F := by
  have hlt' : ∃ b off cap, v = .slice (some ⟨b, off, none⟩) xs.length cap ∧ ((0 < sz) → Pb b ∧ b < w.heap.size) ∧ j.toNat < xs.length ∧ ∃ cs : List Value, cs.length = sz ∧ R Pb w y cs ∧ At w b (off + j.toNat * sz) cs := by
    rcases h with ⟨rfl, rfl⟩ | ⟨a, cap, rfl, rfl, hc⟩ | ⟨b, off, cap, cur, e', fr, rfl, hb, hh, h1, h2, h3, h4⟩
    · simp at hy
    · simp at hy
    · have h' : RdS R sz Pb w (.slice (some ⟨b, off, none⟩) xs.length cap) xs := .inr (.inr ⟨b, off, cap, cur, e', fr, rfl, hb, hh, h1, h2, h3, h4⟩)
      obtain ⟨b', off', cap', e1, hlt, cs, hl, hR, hc⟩ := h'.cells hy
      cases e1
      exact ⟨b, off, cap, rfl, fun _ => ⟨hb, heap_lt hh⟩, hlt, cs, hl, hR, hc⟩
  obtain ⟨b, off, cap, rfl, hb, hlt, cs, hl, hR, hc⟩ := hlt'
  refine Wq.val (v := .pointer (some ((⟨b, off, none⟩ : Addr).add (j.toNat * sz)))) (fun w1 _ => ?_) ?_
  · simp only [execOp, hx, hi, Sem.run_bind, run_indexAt ht.h he h0 (by omega : j < xs.length), Result.andThen_ok, Sem.run_pure]
  · rw [addr_add]
    refine c _ _ cs hl hR fun w' hw' => ?_
    rcases Nat.eq_zero_or_pos sz with hz | hz
    · intro i u hu; rw [List.eq_nil_of_length_eq_zero (hl.trans hz)] at hu; simp at hu
    · exact hc.keep (hC w' hw') (hb hz).1 (hb hz).2
/-- The same, of a list that was read in an earlier world. -/
theorem Wl.idxAddrK {α : Type} {R : Rel α} {sz : Nat} {Pb : Nat → Prop} {xs : List α} {x i : Operand} {t e bytes : Nat} {agg : Bool} {z v : Value} {k : IntKind} {j : Int} {y : α} {w0 : World}
    [ht : Und P t (.slice e)] [he : ElT P e sz bytes agg z] (h : RdS R sz Pb w0 v xs) (hk : Keep Pb w0 w) (hx : ev n F x = v) (hi : ev n F i = .int k j) (h0 : 0 ≤ j) (hy : xs[j.toNat]? = some y)
    (c : ∀ b o cs, cs.length = sz → R Pb w0 y cs → At w b o cs → Wl P n ds Q ops rest (upd F d (.pointer (some ⟨b, o, none⟩))) w) :
    Wl P n ds Q ops (⟨some d, .indexAddr t x i, ty, pos, aft, none⟩ :: rest) F w := by
  rcases h with ⟨rfl, rfl⟩ | ⟨a, cap, rfl, rfl, hc⟩ | ⟨b, off, cap, cur, e', fr, rfl, hb, hh, h1, h2, h3, h4⟩
  · simp at hy
  · simp at hy
  · have h' : RdS R sz Pb w0 (.slice (some ⟨b, off, none⟩) xs.length cap) xs := .inr (.inr ⟨b, off, cap, cur, e', fr, rfl, hb, hh, h1, h2, h3, h4⟩)
    obtain ⟨b', off', cap', e1, hlt, cs, hl, hR, hc⟩ := h'.cells hy
    cases e1
    refine Wl.val (w' := w) (v := .pointer (some ((⟨b, off, none⟩ : Addr).add (j.toNat * sz)))) ?_ ?_
    · simp only [execOp, hx, hi, Sem.run_bind, run_indexAt ht.h he h0 (by omega : j < xs.length), Result.andThen_ok, Sem.run_pure]
    · rw [addr_add]; exact c _ _ cs hl hR (At.keep (w := w0) hc hk hb (heap_lt hh))
/-- xs[j] in a region that draws, an element of one cell. -/
theorem Wq.idxAddrV {α : Type} {f : α → Value} {Pb : Nat → Prop} {xs : List α} {x i : Operand} {t e bytes : Nat} {agg : Bool} {z v : Value} {k : IntKind} {j : Int} {y : α} {w : World}
    [ht : Und P t (.slice e)] [he : ElT P e 1 bytes agg z] (h : RdS (one f) 1 Pb w v xs) (hC : ∀ w', C w' → Keep Pb w w') (hx : ev n F x = v) (hi : ev n F i = .int k j) (h0 : 0 ≤ j) (hy : xs[j.toNat]? = some y)
    (c : ∀ b o, (∀ w', C w' → w'.cell? ⟨b, o, none⟩ = some (f y)) → Wq P n ds C K ops rest (upd F d (.pointer (some ⟨b, o, none⟩)))) :
    Wq P n ds C K ops (⟨some d, .indexAddr t x i, ty, pos, aft, none⟩ :: rest) F :=
  Wq.idxAddr h hC hx hi h0 hy fun b o cs _ hR hat => c b o fun w' hw' => by
    cases hR
    exact hat w' hw' 0 (f y) rfl
theorem Wl.loadAt {x : Operand} {e sz bytes : Nat} {z : Value} {b o : Nat} {cs : List Value} [he : ElT P e sz bytes true z] (h : At w b o cs) (hl : cs.length = sz) (hx : ev n F x = .pointer (some ⟨b, o, none⟩))
    (c : Wl P n ds Q ops rest (upd F d (.agg cs.toArray)) w) : Wl P n ds Q ops (⟨some d, .load e x, ty, pos, aft, none⟩ :: rest) F w :=
  Wl.val (by simp only [execOp, hx, Sem.run_bind, run_loadA he hl h, Result.andThen_ok, Sem.run_pure]) c
theorem Wq.loadAt {x : Operand} {e sz bytes : Nat} {z : Value} {b o : Nat} {cs : List Value} [he : ElT P e sz bytes true z] (h : ∀ w, C w → At w b o cs) (hl : cs.length = sz) (hx : ev n F x = .pointer (some ⟨b, o, none⟩))
    (c : Wq P n ds C K ops rest (upd F d (.agg cs.toArray))) : Wq P n ds C K ops (⟨some d, .load e x, ty, pos, aft, none⟩ :: rest) F :=
  Wq.val (fun w hw => by simp only [execOp, hx, Sem.run_bind, run_loadA he hl (h w hw), Result.andThen_ok, Sem.run_pure]) c

/-! Variables of several cells. -/
def setRange (cs : List Value) (o : Nat) (new : List Value) : List Value := cs.take o ++ new ++ cs.drop (o + new.length)
theorem run_storeAgg {e sz bytes : Nat} {agg : Bool} {z : Value} {b o : Nat} {T : TypeId} {cs new : List Value} {u : Value} (he : ElT P e sz bytes agg z) (h : Bk w b T cs) (hn : new.length = sz) (ho : o + sz ≤ cs.length) (hu : u.cells = new.toArray) (h1 : ∀ c ∈ new, c.oneCell' = true) :
    (Instr.storeAt e (.pointer (some ⟨b, o, none⟩)) u).run P w = .ok () (w.setRow b (setRange cs o new).toArray) := by
  have hr := run_storeCells_at P b o T new 0 cs.toArray w h (by simp; omega) (by intro c hc; exact h1 c hc)
  simp only [Instr.storeAt, Instr.sureAddr, storeVar, Sem.run_bind, Sem.run_pure, Result.andThen_ok, he.sizeOf, hu]
  rw [if_neg (by simp [hn])]
  simpa [setRange] using hr
theorem Bk.setRow {b : Nat} {T : TypeId} {cs new : List Value} (h : Bk w b T cs) : Bk (w.setRow b new.toArray) b T new := setRow_heap w b _ _ T _ h
/-- A struct is stored into a variable, or into a part of one. -/
theorem Wl.storeB {x y : Operand} {e sz bytes : Nat} {agg : Bool} {z u : Value} {b o : Nat} {T : TypeId} {cs new : List Value} [he : ElT P e sz bytes agg z] (h : Bk w b T cs) (hx : ev n F x = .pointer (some ⟨b, o, none⟩)) (hy : ev n F y = u) (hu : u.cells = new.toArray) (hn : new.length = sz) (ho : o + sz ≤ cs.length) (h1 : ∀ c ∈ new, c.oneCell' = true)
    (c : ∀ w', Bk w' b T (setRange cs o new) → Chg (fun k => k = b) w w' → w'.heap.size = w.heap.size → Wl P n ds Q ops rest F w') : Wl P n ds Q ops (⟨none, .store e x y, ty, pos, aft, none⟩ :: rest) F w :=
  Wl.unit (by simp only [execOp, hx, hy, Sem.run_bind, run_storeAgg he h hn ho hu h1, Result.andThen_ok, Sem.run_pure]) (c _ h.setRow (Chg.setRow rfl) (by simp))

/-! Maps of the call's own. -/
def MapL (P : Program) (k : TypeId) (w : World) (b : Nat) (l : List (Value × Value)) : Prop :=
  ∃ es clock, w.heap[b]? = some (.map es clock) ∧ es.toList.map (fun e => (e.key, e.val)) = l ∧ ∀ e ∈ es.toList, ∃ q, keyOf P k e.key = some q
theorem MapL.lt {k : TypeId} {b : Nat} {l : List (Value × Value)} (h : MapL P k w b l) : b < w.heap.size := by obtain ⟨_, _, h, _⟩ := h; exact (Array.getElem?_eq_some_iff.1 h).1
theorem MapL.keep {Pb : Nat → Prop} {k : TypeId} {b : Nat} {l : List (Value × Value)} (h : MapL P k w b l) (hk : Keep Pb w w') (hb : Pb b) : MapL P k w' b l := by
  have hl := h.lt
  obtain ⟨es, clock, h, r⟩ := h
  exact ⟨es, clock, (hk b hb hl).trans h, r⟩
theorem MapL.chg {M : Nat → Prop} {k : TypeId} {b : Nat} {l : List (Value × Value)} (h : MapL P k w b l) (hc : Chg M w w') (hb : ¬ M b) : MapL P k w' b l := by
  have hl := h.lt
  obtain ⟨es, clock, h, r⟩ := h
  exact ⟨es, clock, (hc.block b hl hb).trans h, r⟩
theorem Wl.makeMap {t : TypeId} {k : TypeId} (c : ∀ w', MapL P k w' w.heap.size [] → New w w' → w'.heap.size = w.heap.size + 1 → Wl P n ds Q ops rest (upd F d (.map (some w.heap.size))) w') :
    Wl P n ds Q ops (⟨some d, .makeMap t none, ty, pos, aft, none⟩ :: rest) F w := by
  refine Wl.val (w' := w.alloc (.map #[] 0)) (v := .map (some w.heap.size)) ?_ (c _ ⟨#[], 0, heap_alloc_new w _, by simp, by simp⟩ (Chg.alloc _ _ _) (by simp))
  simp [execOp, Instr.makeMap]
theorem run_lookup {t k e : TypeId} {sz bytes : Nat} {agg : Bool} {z : Value} {b : Nat} {l : List (Value × Value)} {key : Value} {q : Lit} (ht : P.underlying t = some (.map k e)) (he : ElT P e sz bytes agg z) (Kd : Maps.Keyed P k) (h : MapL P k w b l) (hq : keyOf P k key = some q) :
    ∃ r, (Instr.lookup t (.map (some b)) key false).run P w = .ok r w ∧ ((key, r) ∈ l ∨ r = z ∧ ∀ p ∈ l, p.1 ≠ key) := by
  obtain ⟨es, clock, hh, rfl, hk⟩ := h
  have hg := run_getObj_map (P := P) w b es clock hh
  rcases Kd.find w hq es.toList hk with ⟨hf, hn⟩ | ⟨j, e0, hf, hj, rfl⟩
  · refine ⟨z, ?_, .inr ⟨rfl, fun p hp => ?_⟩⟩
    · simp [Instr.lookup, run_underlying ht, hg, Kd.check w _ hq, hf, he.zeroValue]
    · obtain ⟨e1, he1, rfl⟩ := List.mem_map.1 hp; exact hn e1 he1
  · refine ⟨e0.val, ?_, .inl (List.mem_map.2 ⟨e0, List.mem_of_getElem? hj, rfl⟩)⟩
    simp [Instr.lookup, run_underlying ht, hg, Kd.check w _ hq, hf]
theorem Wl.lookup {x i : Operand} {t k e : TypeId} {sz bytes : Nat} {agg : Bool} {z : Value} {b : Nat} {l : List (Value × Value)} {key : Value} {q : Lit} [ht : Und P t (.map k e)] [he : ElT P e sz bytes agg z] (Kd : Maps.Keyed P k) (h : MapL P k w b l) (hq : keyOf P k key = some q)
    (hx : ev n F x = .map (some b)) (hi : ev n F i = key) (c : ∀ r, ((key, r) ∈ l ∨ r = z ∧ ∀ p ∈ l, p.1 ≠ key) → Wl P n ds Q ops rest (upd F d r) w) :
    Wl P n ds Q ops (⟨some d, .lookup t x i false, ty, pos, aft, none⟩ :: rest) F w := by
  obtain ⟨r, hr, hp⟩ := run_lookup ht.h he Kd h hq
  exact Wl.val (by simp only [execOp, hx, hi, Sem.run_bind, hr, Result.andThen_ok, Sem.run_pure]) (c r hp)
theorem Wq.lookup {x i : Operand} {t k e : TypeId} {sz bytes : Nat} {agg : Bool} {z u0 : Value} {b : Nat} {l : List (Value × Value)} {key : Value} {q : Lit} {w : World} [ht : Und P t (.map k e)] [he : ElT P e sz bytes agg z] (Kd : Maps.Keyed P k) (h : MapL P k w b l) (hall : ∀ p ∈ l, p.2 = u0) (hC : ∀ w', C w' → w'.heap[b]? = w.heap[b]?) (hq : keyOf P k key = some q)
    (hx : ev n F x = .map (some b)) (hi : ev n F i = key) (c1 : (key, u0) ∈ l → Wq P n ds C K ops rest (upd F d u0)) (c2 : (∀ p ∈ l, p.1 ≠ key) → Wq P n ds C K ops rest (upd F d z)) :
    Wq P n ds C K ops (⟨some d, .lookup t x i false, ty, pos, aft, none⟩ :: rest) F := by
  have hM : ∀ w', C w' → MapL P k w' b l := fun w' hw' => by obtain ⟨es, clock, hh, r⟩ := h; exact ⟨es, clock, (hC w' hw').trans hh, r⟩
  have run : ∀ w', C w' → ∃ r, (Instr.lookup t (.map (some b)) key false).run P w' = .ok r w' ∧ ((key, r) ∈ l ∨ r = z ∧ ∀ p ∈ l, p.1 ≠ key) := fun w' hw' => run_lookup ht.h he Kd (hM w' hw') hq
  by_cases hin : (key, u0) ∈ l
  · refine Wq.val (v := u0) (fun w' hw' => ?_) (c1 hin)
    obtain ⟨r, hr, hp⟩ := run w' hw'
    obtain rfl : r = u0 := by
      rcases hp with hp | ⟨_, hp⟩
      · exact hall _ hp
      · exact absurd rfl (hp _ hin)
    simp only [execOp, hx, hi, Sem.run_bind, hr, Result.andThen_ok, Sem.run_pure]
  · have hn : ∀ p ∈ l, p.1 ≠ key := fun p hp e => hin (by
      have h2 := hall p hp
      obtain ⟨p1, p2⟩ := p
      simp only at e h2
      subst e
      subst h2
      exact hp)
    refine Wq.val (v := z) (fun w' hw' => ?_) (c2 hn)
    obtain ⟨r, hr, hp⟩ := run w' hw'
    obtain rfl : r = z := by
      rcases hp with hp | ⟨hz, _⟩
      · exact absurd rfl (hn _ hp)
      · exact hz
    simp only [execOp, hx, hi, Sem.run_bind, hr, Result.andThen_ok, Sem.run_pure]
/-- A key that was not there. -/
theorem Wl.mapPut {x i y : Operand} {t k e : TypeId} {b : Nat} {l : List (Value × Value)} {key u : Value} {q : Lit} [ht : Und P t (.map k e)] (Kd : Maps.Keyed P k) (h : MapL P k w b l) (hq : keyOf P k key = some q) (hn : ∀ p ∈ l, p.1 ≠ key)
    (hx : ev n F x = .map (some b)) (hi : ev n F i = key) (hy : ev n F y = u) (c : ∀ w', MapL P k w' b (l ++ [(key, u)]) → Chg (fun j => j = b) w w' → w'.heap.size = w.heap.size → Wl P n ds Q ops rest F w') :
    Wl P n ds Q ops (⟨none, .mapUpdate t x i y, ty, pos, aft, none⟩ :: rest) F w := by
  have hlt := h.lt
  obtain ⟨es, clock, hh, rfl, hk⟩ := h
  have hg := run_getObj_map (P := P) w b es clock hh
  rcases Kd.find w hq es.toList hk with ⟨hf, _⟩ | ⟨j, e0, hf, hj, rfl⟩
  · have h1 : (w.heap.setIfInBounds b (.map (es.push { key, val := u, born := clock }) (clock + 1)))[b]? = some (.map (es.push { key, val := u, born := clock }) (clock + 1)) := by simp [Array.getElem?_setIfInBounds, hlt]
    have hset : (setObj b (.map (es.push { key, val := u, born := clock }) (clock + 1))).run P w = .ok () { w with heap := w.heap.setIfInBounds b (.map (es.push { key, val := u, born := clock }) (clock + 1)) } := by simp [setObj, Sem.run, hh]
    refine Wl.unit (w' := { w with heap := w.heap.setIfInBounds b (.map (es.push { key, val := u, born := clock }) (clock + 1)) }) ?_ (c _ ⟨_, _, h1, by simp, fun e he => ?_⟩ ⟨rfl, rfl, rfl, by simp, fun j _ hj => Array.getElem?_setIfInBounds_ne (Ne.symm hj)⟩ (by simp))
    · simp [execOp, hx, hi, hy, Instr.mapUpdate, run_underlying ht.h, hg, Kd.check w _ hq, hf, hset]
    · simp only [Array.toList_push, List.mem_append, List.mem_singleton] at he
      rcases he with he | rfl
      · exact hk e he
      · exact ⟨q, hq⟩
  · exact absurd rfl (hn (e0.key, e0.val) (List.mem_map.2 ⟨e0, List.mem_of_getElem? hj, rfl⟩))
end

/-! Lists of the call's own, beside one another. -/
def Plain {α : Type} (R : Rel α) : Prop := ∀ Pb Pb' w w' x cs, R Pb w x cs → R Pb' w' x cs
theorem plain_one {α : Type} (f : α → Value) : Plain (one f) := fun _ _ _ _ _ _ h => h
theorem plain_flat {α : Type} (f : α → List Value) : Plain (flat f) := fun _ _ _ _ _ _ h => h
theorem good_flat {α : Type} {sz : Nat} (f : α → List Value) (hl : ∀ x, (f x).length = sz) (h : ∀ x, ∀ c ∈ f x, c.oneCell' = true) : GoodR (flat f) sz :=
  ⟨stable_flat f, mono_flat f, fun _ _ x cs e _ c hc => by cases e; exact h x c hc⟩
/-- No block of v is u's. -/
def Sep (v u : Value) : Prop := ∀ k, v.ownBlock = some k → u.ownBlock ≠ some k
theorem Sep.symm {v u : Value} (h : Sep v u) : Sep u v := fun k h1 h2 => h k h2 h1
section
variable {α β : Type} {R : Rel α} {R' : Rel β} {e e' : TypeId} {sz sz' : Nat} {Pb Pe Qb Qe M : Nat → Prop} {w w' : World} {v u u' : Value} {xs : List α} {ys : List β}
theorem OwnS.chg (hR : Plain R) (h : OwnS R e sz Pb Pe w v xs) (c : Chg M w w') (s : ∀ k, v.ownBlock = some k → ¬ M k) : OwnS R e sz Pb Pe w' v xs := by
  obtain ⟨cs, ⟨hl, hoc⟩, he⟩ := h
  refine ⟨cs, ⟨hl, ?_⟩, fun i x hx => hR _ _ _ _ _ _ (he i x hx)⟩
  rcases hoc with hoc | ⟨b, cap, cur, rfl, hb, hg, r⟩
  · exact .inl hoc
  · exact .inr ⟨b, cap, cur, rfl, hb, (c.block b (heap_lt hg) (s b rfl)).trans hg, r⟩
theorem OwnS.keepSep (hR : Plain R) (h : OwnS R e sz Pb Pe w v xs) (c : Chg (fun k => u.ownBlock = some k) w w') (s : Sep v u) : OwnS R e sz Pb Pe w' v xs := h.chg hR c s
theorem OwnS.new (hR : Plain R) (h : OwnS R e sz Pb Pe w v xs) (c : New w w') : OwnS R e sz Pb Pe w' v xs := h.chg hR c fun _ _ e => e
theorem sepGrown (h : OwnS R e sz Pb Pe w v xs) (s : Sep v u) (lie : u'.ownBlock = u.ownBlock ∨ ∀ b, u'.ownBlock = some b → w.heap.size ≤ b) : Sep v u' := by
  intro k hk hk'
  rcases lie with lie | lie
  · exact s k hk (lie ▸ hk')
  · have := (h.lt hk).2
    have := lie k hk'
    omega
theorem sepOf (h : OwnS R e sz Pb Pe w v xs) (h' : OwnS R' e' sz' Qb Qe w u ys) (d : ∀ k, Pb k → ¬ Qb k) : Sep v u :=
  fun k hk hk' => d k (h.lt hk).1 (h'.lt hk').1
theorem OwnS.take (h : OwnS R e sz Pb Pe w v xs) {m : Nat} (hm : m ≤ xs.length) {a : Option Addr} {l cap : Nat} (hv : v = .slice a l cap) (hz : a = none → m = 0) : OwnS R e sz Pb Pe w (.slice a m cap) (xs.take m) := by
  obtain ⟨cs, ⟨hl, hoc⟩, he⟩ := h
  have hlen : (xs.take m).length = m := by simp; omega
  have hle : m * sz ≤ xs.length * sz := Nat.mul_le_mul_right _ hm
  refine ⟨cs.take (m * sz), ⟨by rw [hlen]; simp; omega, ?_⟩, fun i x hx => ?_⟩
  · rw [hlen]
    rcases hoc with ⟨rfl, h0⟩ | ⟨b, cap', cur, rfl, hb, hg, h1, h2, h3, h4⟩
    · cases hv
      exact .inl ⟨by rw [hz rfl], hz rfl⟩
    · cases hv
      exact .inr ⟨b, cap, cur, rfl, hb, hg, by omega, h2, h3, by rw [← h4, List.take_take, Nat.min_eq_left hle]⟩
  · rw [List.getElem?_take] at hx
    split at hx
    · rename_i hi
      have h1 := he i x hx
      have : (i + 1) * sz ≤ m * sz := Nat.mul_le_mul_right _ hi
      rw [Nat.add_mul] at this
      rw [List.drop_take, List.take_take, Nat.min_eq_left (by omega)]
      have e : (Value.slice a m cap).ownBlock = v.ownBlock := by subst hv; cases a <;> rfl
      rw [e]; exact h1
    · cases hx
end
section
variable {P : Program} {n : Nat} {ds : List Deferred} {Q : Po} {F : Fr} {w w' : World} {ops rest : List Oper} {d d1 d2 : Nat} {ty ty1 ty2 : TypeId} {pos pos1 pos2 : String} {aft aft1 aft2 : Array Edge}
/-- x[:b] of a list of one's own. -/
theorem Wl.sliceOwn {α : Type} {R : Rel α} {Pb Pe : Nat → Prop} {xs : List α} {x hi : Operand} {t e e' : TypeId} {sz sz' bytes : Nat} {agg : Bool} {z v : Value} {k : IntKind} {b : Int} [ht : Und P t (.slice e)] [he : ElT P e sz bytes agg z] (h : OwnS R e' sz' Pb Pe w v xs) (hx : ev n F x = v) (hh : ev n F hi = .int k b) (h0 : 0 ≤ b) (h1 : b ≤ xs.length)
    (c : ∀ v', OwnS R e' sz' Pb Pe w v' (xs.take b.toNat) → v'.ownBlock = v.ownBlock → Wl P n ds Q ops rest (upd F d v') w) : Wl P n ds Q ops (⟨some d, .slice t x none (some hi) none, ty, pos, aft, none⟩ :: rest) F w := by
  obtain ⟨p, cap, rfl, hc, _⟩ := h.form
  obtain ⟨b, rfl⟩ := Int.eq_ofNat_of_zero_le h0
  have := run_sliceS (P := P) (w := w) (p := p) (l := xs.length) (lo := none) (hi := some (.int k b)) (a := 0) (b := b) ht.h he (.inl ⟨rfl, rfl⟩) (.inr ⟨k, rfl⟩) (Nat.zero_le _) (by omega : b ≤ cap)
  have hp : (if cap = 0 then p else p.map (·.add (0 * sz))) = p := by
    split
    · rfl
    · cases p with
      | none => rfl
      | some a => simp [Addr.add]
  refine Wl.val (w' := w) (v := .slice p b cap) ?_ (c _ (h.take (m := b) (by omega) rfl ?_) (by cases p <;> rfl))
  · simp only [execOp, hx, hh, Option.map_none, Option.map_some, Sem.run_bind, this, Result.andThen_ok, Sem.run_pure, hp, Nat.sub_zero]
  · rintro rfl
    obtain ⟨cs, ⟨_, hoc⟩, _⟩ := h
    rcases hoc with ⟨e1, h2⟩ | ⟨_, _, _, e1, _⟩
    · omega
    · cases e1
/-- A slice compared with nil. -/
theorem run_eqGuard_sl {op : BinOp} {t : TypeId} {x y : Operand} {a b : Option Addr} {l c l' c' : Nat} : (eqGuard op t x y (.slice a l c) (.slice b l' c')).run P w = .ok () w := by
  unfold eqGuard; split <;> simp
theorem Wl.slNil {x y : Operand} {t t' e : TypeId} {a : Option Addr} {l cap : Nat} [ht : Und P t (.slice e)] (hx : ev n F x = .slice a l cap) (hy : ev n F y = .slice none 0 0) (c : Wl P n ds Q ops rest (upd F d (.bool a.isNone)) w) :
    Wl P n ds Q ops (⟨some d, .binOp .eql t x y t', ty, pos, aft, none⟩ :: rest) F w := by
  refine Wl.val ?_ c
  have h : (binOp .eql t (.slice a l cap) (.slice none 0 0)).run P w = .ok (.bool a.isNone) w := by
    have := run_equal_slice_nil (P := P) w t e a l cap ht.h
    simp [binOp, this]
  simp only [execOp, hx, hy, Sem.run_bind, run_eqGuard_sl, Result.andThen_ok, h, Sem.run_pure]
/-- The address of an element, told. -/
theorem Wl.idxP {x i : Operand} {t e sz bytes : Nat} {agg : Bool} {z : Value} {k : IntKind} {j : Int} {b off l cap : Nat} [ht : Und P t (.slice e)] [he : ElT P e sz bytes agg z] (hx : ev n F x = .slice (some ⟨b, off, none⟩) l cap) (hi : ev n F i = .int k j) (h0 : 0 ≤ j) (h1 : j < l)
    (c : Wl P n ds Q ops rest (upd F d (.pointer (some ⟨b, off + j.toNat * sz, none⟩))) w) : Wl P n ds Q ops (⟨some d, .indexAddr t x i, ty, pos, aft, none⟩ :: rest) F w := by
  refine Wl.val (w' := w) (v := .pointer (some ((⟨b, off, none⟩ : Addr).add (j.toNat * sz)))) ?_ ?_
  · simp only [execOp, hx, hi, Sem.run_bind, run_indexAt ht.h he h0 h1, Result.andThen_ok, Sem.run_pure]
  · rw [addr_add]; exact c
theorem Wq.idxP {C : World → Prop} {K : Fr → Prop} {x i : Operand} {t e sz bytes : Nat} {agg : Bool} {z : Value} {k : IntKind} {j : Int} {b off l cap : Nat} [ht : Und P t (.slice e)] [he : ElT P e sz bytes agg z] (hx : ev n F x = .slice (some ⟨b, off, none⟩) l cap) (hi : ev n F i = .int k j) (h0 : 0 ≤ j) (h1 : j < l)
    (c : Wq P n ds C K ops rest (upd F d (.pointer (some ⟨b, off + j.toNat * sz, none⟩)))) : Wq P n ds C K ops (⟨some d, .indexAddr t x i, ty, pos, aft, none⟩ :: rest) F := by
  refine Wq.val (v := .pointer (some ((⟨b, off, none⟩ : Addr).add (j.toNat * sz)))) (fun w _ => ?_) ?_
  · simp only [execOp, hx, hi, Sem.run_bind, run_indexAt ht.h he h0 h1, Result.andThen_ok, Sem.run_pure]
  · rw [addr_add]; exact c
/-- A list of one's own that holds something has a block. -/
theorem OwnS.blk {α : Type} {R : Rel α} {e : TypeId} {sz : Nat} {Pb Pe : Nat → Prop} {v : Value} {xs : List α} (h : OwnS R e sz Pb Pe w v xs) (h0 : xs ≠ []) : ∃ g cap, v = .slice (some ⟨g, 0, none⟩) xs.length cap ∧ Pb g ∧ g < w.heap.size ∧ v.ownBlock = some g := by
  obtain ⟨cs, ⟨hl, hoc⟩, he⟩ := h
  rcases hoc with ⟨rfl, h2⟩ | ⟨g, cap, cur, rfl, hb, hg, _⟩
  · exact absurd (List.eq_nil_of_length_eq_zero h2) h0
  · exact ⟨g, cap, rfl, hb, heap_lt hg, rfl⟩
theorem OwnS.reblk {α : Type} {R : Rel α} {e : TypeId} {sz : Nat} {Pb Pb' Pe : Nat → Prop} {v : Value} {xs : List α} (h : OwnS R e sz Pb Pe w v xs) (hb : ∀ b, v.ownBlock = some b → Pb b → Pb' b) : OwnS R e sz Pb' Pe w v xs := by
  obtain ⟨cs, ⟨hl, hoc⟩, he⟩ := h
  refine ⟨cs, ⟨hl, ?_⟩, he⟩
  rcases hoc with hoc | ⟨g, cap, cur, rfl, hg, r⟩
  · exact .inl hoc
  · exact .inr ⟨g, cap, cur, rfl, hb g rfl hg, r⟩
theorem OwnS.cell1 {α : Type} {f : α → Value} {e : TypeId} {Pb Pe : Nat → Prop} {v : Value} {xs : List α} {g l cap j : Nat} {y : α} (h : OwnS (one f) e 1 Pb Pe w v xs) (hv : v = .slice (some ⟨g, 0, none⟩) l cap) (hy : xs[j]? = some y) : w.cell? ⟨g, j, none⟩ = some (f y) := by
  obtain ⟨b, off, cap', e1, hlt, cs, hl, hR, hc⟩ := (h.rd (mono_one _)).cells hy
  rw [hv] at e1
  cases e1
  cases hR
  simpa using hc 0 (f y) rfl
/-- A store into a list of one's own, elements of one cell. -/
theorem Wl.storeOwn {α : Type} {f : α → Value} {Pb Pe : Nat → Prop} {xs : List α} {x y : Operand} {e bytes : Nat} {agg : Bool} {z v u : Value} {g j cap : Nat} {q : α} [he : ElT P e 1 bytes agg z] (hown : OwnS (one f) e 1 Pb Pe w v xs) (hv : v = .slice (some ⟨g, 0, none⟩) xs.length cap) (hj : j < xs.length)
    (hx : ev n F x = .pointer (some ⟨g, j, none⟩)) (hy : ev n F y = u) (hq : u = f q) (hu : u.oneCell' = true) (c : ∀ w', OwnS (one f) e 1 Pb Pe w' v (xs.set j q) → Chg (fun b => v.ownBlock = some b) w w' → Wl P n ds Q ops rest F w') :
    Wl P n ds Q ops (⟨none, .store e x y, ty, pos, aft, none⟩ :: rest) F w := by
  subst hq
  obtain ⟨cs, hoc, hel⟩ := hown
  have huc : (f q).cells = #[f q] := by cases hf : f q <;> simp_all [Value.cells, Value.oneCell']
  obtain ⟨w', hr, hoc', hc⟩ := run_store1 (P := P) (u := f q) he hoc hv (j := j) hj hu huc
  exact Wl.unit (by simp only [execOp, hx, hy, Sem.run_bind, hr, Result.andThen_ok, Sem.run_pure]) (c w' (OwnS.set1 rfl hoc hel _ _ hoc') hc)
/-- A closure. -/
theorem Wl.makeFunc {fn : Fn} {first cap : List Operand} {f1 c1 : List Value} (h1 : first.map (ev n F) = f1) (h2 : cap.map (ev n F) = c1) (c : Wl P n ds Q ops rest (upd F d (.func fn f1.toArray c1.toArray)) w) :
    Wl P n ds Q ops (⟨some d, .makeFunc fn first.toArray cap.toArray, ty, pos, aft, none⟩ :: rest) F w := by
  subst h1
  subst h2
  exact Wl.val (by simp [execOp, Instr.makeFunc]) c
/-- x[:b] in a region that draws. -/
theorem Wq.sliceTo {α : Type} {R : Rel α} {C : World → Prop} {K : Fr → Prop} {Pb : Nat → Prop} {xs : List α} {x hi : Operand} {t e : TypeId} {sz bytes : Nat} {agg : Bool} {z v : Value} {k : IntKind} {b : Int} [ht : Und P t (.slice e)] [he : ElT P e sz bytes agg z] (h : RdS R sz Pb w v xs) (hx : ev n F x = v) (hh : ev n F hi = .int k b) (h0 : 0 ≤ b) (h1 : b ≤ xs.length)
    (c : ∀ v', RdS R sz Pb w v' (xs.take b.toNat) → Wq P n ds C K ops rest (upd F d v')) : Wq P n ds C K ops (⟨some d, .slice t x none (some hi) none, ty, pos, aft, none⟩ :: rest) F := by
  obtain ⟨p, cap, rfl, hc, _⟩ := h.form
  obtain ⟨b, rfl⟩ := Int.eq_ofNat_of_zero_le h0
  have hr := h.sub (a := 0) (b := b) (Nat.zero_le _) (by omega)
  rw [List.drop_zero] at hr
  refine Wq.val (fun w' _ => ?_) (c _ hr)
  have := run_sliceS (P := P) (w := w') (p := p) (l := xs.length) (lo := none) (hi := some (.int k b)) (a := 0) (b := b) ht.h he (.inl ⟨rfl, rfl⟩) (.inr ⟨k, rfl⟩) (Nat.zero_le _) (by omega : b ≤ cap)
  simp only [execOp, hx, hh, Option.map_none, Option.map_some, Sem.run_bind, this, Result.andThen_ok, Sem.run_pure]
/-- min(a, b) of integers. -/
theorem Wl.minI {x y : Operand} {ts : Array TypeId} {k k' : IntKind} {a b : Int} (hx : ev n F x = .int k a) (hy : ev n F y = .int k' b) (c : Wl P n ds Q ops rest (upd F d (.int k (if b < a then b else a))) w) :
    Wl P n ds Q ops (⟨some d, .call { callee := .builtin .min, args := #[x, y], argTypes := ts }, ty, pos, aft, none⟩ :: rest) F w := by
  refine Wl.val (w' := w) ?_ c
  have hr : (Builtin.min_ ts ty #[.int k a, .int k' b]).run P w = .ok (.int k (if b < a then b else a)) w := run_min_int2 _ _ _ _ _ _ _
  simp only [execOp, resolve, Sem.run_bind, Sem.run_pure, Result.andThen_ok, invoke, builtin, List.map_toArray, List.map_cons, List.map_nil, hx, hy, hr]
/-- []T{x}, a list of one's own. -/
theorem Wl.buildSlice1 {α : Type} {R : Rel α} {x : Operand} {t e : TypeId} {sz bytes : Nat} {agg : Bool} {z u : Value} {y : α} {cs : List Value} {Pe : Nat → Prop} (hR : GoodR R sz) [ht : Und P t (.slice e)] [he : ElT P e sz bytes agg z] (hx : ev n F x = u) (hcs : u.cells.toList = cs) (hl : cs.length = sz) (hy : R (fun b => Pe b ∧ w.heap.size ≠ b) w y cs) (hsz : 0 < sz) (hsz2 : sz ≤ 16777216)
    (c : ∀ v w', OwnS R e sz (fun b => w.heap.size ≤ b) Pe w' v [y] → New w w' → w'.heap.size = w.heap.size + 1 → v.ownBlock = some w.heap.size → Wl P n ds Q ops rest (upd F d v) w') :
    Wl P n ds Q ops (⟨some d, .buildSlice t 1 #[(0, x)], ty, pos, aft, none⟩ :: rest) F w := by
  have hus : u.cells.size = sz := by rw [← hl, ← hcs]; simp
  have hr := run_buildSlice1 (P := P) (w := w) ht.h he hus hsz hsz2
  have hn : New w (w.alloc (.cells u.cells e)) := Chg.alloc _ _ _
  refine Wl.val (w' := w.alloc (.cells u.cells e)) ?_ (c _ _ ⟨cs, ⟨by simpa using hl, .inr ⟨w.heap.size, 1, u.cells, rfl, Nat.le_refl _, heap_alloc_new w _, Nat.le_refl _, by unfold maxLen; omega, by simpa using hus, by rw [hcs, List.take_of_length_le]; simp [hl]⟩⟩, fun i x hx => ?_⟩ hn (by simp) rfl)
  · simp only [execOp, List.map_toArray, List.map_cons, List.map_nil, hx, Sem.run_bind, hr, Result.andThen_ok, Sem.run_pure, List.length_singleton]
  · match i with
    | 0 =>
      simp at hx
      subst hx
      simp only [Nat.zero_mul, List.drop_zero]
      rw [List.take_of_length_le (by omega)]
      have h1 := hR.st _ _ _ _ _ hn.keep hy
      exact hR.mo _ _ _ _ _ (fun b _ hb => ⟨hb.1, fun e => hb.2 (by simpa [Value.ownBlock] using e)⟩) h1
    | i + 1 => simp at hx
end
end Go.Proofs.YtpnpllghabbhlaaGreatDoor.Wk

namespace Go.Proofs.YtpnpllghabbhlaaGreatDoor
open Go

/-- A digit of sixteen. -/
def hexd (n : Nat) : UInt8 := UInt8.ofNat (if n < 10 then 48 + n else 87 + n)
/-- What stands for one byte between quotes. -/
inductive Tok where
  | hex (b : UInt8)
  | esc (b : UInt8)
  | raw (b : UInt8)
def Tok.val : Tok → UInt8
  | .hex b => b
  | .esc b => b
  | .raw b => b
def Tok.enc : Tok → List UInt8
  | .hex b => [92, 120, hexd (b.toNat / 16), hexd (b.toNat % 16)]
  | .esc b => [92, b]
  | .raw b => [b]
def Tok.ok : Tok → Prop
  | .hex _ => True
  | .esc b => b = 34 ∨ b = 92
  | .raw b => b ≠ 34 ∧ b ≠ 92
def gB (s : List UInt8) (i : Nat) : Nat := (s[i]?.getD 0).toNat
theorem gB_lt (s : List UInt8) (i : Nat) : gB s i < 256 := UInt8.toNat_lt _
/-- The rune at the front of a text, and its width. -/
def decW (s : List UInt8) : Nat × Nat := Lib.decodeN s.length (gB s 0) (gB s 1) (gB s 2) (gB s 3)
theorem decW_w {s : List UInt8} (h : s ≠ []) : 1 ≤ (decW s).2 ∧ (decW s).2 ≤ s.length ∧ (decW s).2 ≤ 4 := by
  have hl : 1 ≤ s.length := List.length_pos_iff.2 h
  unfold decW Lib.decodeN
  repeat' split
  all_goals dsimp only; omega
theorem decW_small {s : List UInt8} (hr : (decW s).1 < 128) : (decW s).2 = 1 ∧ gB s 0 = (decW s).1 := by
  revert hr
  unfold decW Lib.decodeN
  repeat' split
  all_goals dsimp only; intro hr; first | omega | exact ⟨rfl, rfl⟩
theorem decW_big {s : List UInt8} (hr : 128 ≤ (decW s).1) (i : Nat) (hi : i < (decW s).2) : 128 ≤ gB s i := by
  have h0 := gB_lt s 0
  revert hr hi
  unfold decW Lib.decodeN
  repeat' split
  all_goals dsimp only; intro hr hi
  all_goals
    rcases i with _ | _ | _ | _ | i <;> (try simp only [Nat.zero_add, Nat.reduceAdd]) <;> omega
def ctl (r : Nat) : Prop := r < 32 ∨ (127 ≤ r ∧ r ≤ 159)
instance (r : Nat) : Decidable (ctl r) := by unfold ctl; infer_instance
def pieceT (s : List UInt8) : List Tok :=
  if decW s = (65533, 1) ∨ ctl (decW s).1 then (s.take (decW s).2).map .hex
  else if (decW s).1 = 92 ∨ (decW s).1 = 34 then (s.take (decW s).2).map .esc
  else (s.take (decW s).2).map .raw
def toks (s : List UInt8) : List Tok := if h : s = [] then [] else pieceT s ++ toks (s.drop (decW s).2)
termination_by s.length
decreasing_by
  have := decW_w h
  rw [List.length_drop]; omega
theorem toks_nil : toks [] = [] := by rw [toks]; rfl
theorem toks_cons {s : List UInt8} (h : s ≠ []) : toks s = pieceT s ++ toks (s.drop (decW s).2) := by rw [toks, dif_neg h]
theorem pieceT_val (s : List UInt8) : (pieceT s).map Tok.val = s.take (decW s).2 := by
  unfold pieceT
  repeat' split
  all_goals rw [List.map_map]; exact List.map_id'' (fun _ => rfl) _
theorem gB_get {s : List UInt8} {i : Nat} {b : UInt8} (h : s[i]? = some b) : gB s i = b.toNat := by unfold gB; rw [h]; rfl
theorem pieceT_ok {s : List UInt8} : ∀ t ∈ pieceT s, t.ok := by
  unfold pieceT
  have hin : ∀ b ∈ s.take (decW s).2, ∃ i, i < (decW s).2 ∧ gB s i = b.toNat := by
    intro b hb
    obtain ⟨i, hi⟩ := List.mem_iff_getElem?.1 hb
    have hlt := (List.getElem?_eq_some_iff.1 hi).1
    rw [List.length_take] at hlt
    rw [List.getElem?_take_of_lt (by omega)] at hi
    exact ⟨i, by omega, gB_get hi⟩
  repeat' split
  · intro t ht; obtain ⟨b, _, rfl⟩ := List.mem_map.1 ht; trivial
  · rename_i h1 h2
    intro t ht
    obtain ⟨b, hb, rfl⟩ := List.mem_map.1 ht
    obtain ⟨i, hi, e⟩ := hin b hb
    have h3 := decW_small (s := s) (by omega)
    have : i = 0 := by omega
    subst this
    show b = 34 ∨ b = 92
    rcases h2 with h2 | h2
    · exact .inr (UInt8.toNat.inj (by rw [← e, h3.2, h2]; rfl))
    · exact .inl (UInt8.toNat.inj (by rw [← e, h3.2, h2]; rfl))
  · rename_i h1 h2
    intro t ht
    obtain ⟨b, hb, rfl⟩ := List.mem_map.1 ht
    obtain ⟨i, hi, e⟩ := hin b hb
    show b ≠ 34 ∧ b ≠ 92
    have key : b.toNat ≠ 34 ∧ b.toNat ≠ 92 := by
      rcases Nat.lt_or_ge (decW s).1 128 with h4 | h4
      · have h3 := decW_small h4
        have : i = 0 := by omega
        subst this
        omega
      · have := decW_big h4 i hi
        omega
    exact ⟨fun e => key.1 (by rw [e]; rfl), fun e => key.2 (by rw [e]; rfl)⟩
theorem toks_val (s : List UInt8) : (toks s).map Tok.val = s := by
  induction s using toks.induct with
  | case1 => rw [toks_nil]; rfl
  | case2 s h ih => rw [toks_cons h, List.map_append, pieceT_val, ih, List.take_append_drop]
theorem toks_ok (s : List UInt8) : ∀ t ∈ toks s, t.ok := by
  induction s using toks.induct with
  | case1 => rw [toks_nil]; intro t ht; cases ht
  | case2 s h ih =>
    rw [toks_cons h]
    intro t ht
    rcases List.mem_append.1 ht with h1 | h1
    · exact pieceT_ok t h1
    · exact ih t h1
def encT (l : List Tok) : List UInt8 := l.flatMap Tok.enc
def quoteW (s : List UInt8) : List UInt8 := [34] ++ encT (toks s) ++ [34]
def plainB (c : UInt8) : Bool := decide (33 ≤ c.toNat) && decide (c.toNat ≤ 126) && decide (c ≠ 34) && decide (c ≠ 92)
def plainW (s : List UInt8) : Bool := decide (s ≠ []) && s.all plainB
def wordW (s : List UInt8) : List UInt8 := if plainW s = true then s else quoteW s
/-- The line of these words. -/
def lineW : List (List UInt8) → List UInt8
  | [] => []
  | [s] => wordW s
  | s :: t :: l => wordW s ++ 32 :: lineW (t :: l)
end Go.Proofs.YtpnpllghabbhlaaGreatDoor

namespace Go.Proofs.YtpnpllghabbhlaaGreatDoor
open Go

/-- What a digit of sixteen is worth, small or great. -/
def hexvW (c : UInt8) : Option Nat :=
  if 48 ≤ c.toNat ∧ c.toNat ≤ 57 then some (c.toNat - 48) else if 97 ≤ c.toNat ∧ c.toNat ≤ 102 then some (c.toNat - 87) else if 65 ≤ c.toNat ∧ c.toNat ≤ 70 then some (c.toNat - 55) else none
/-- The same, small ones alone. -/
def hexl (c : UInt8) : Option Nat :=
  if 48 ≤ c.toNat ∧ c.toNat ≤ 57 then some (c.toNat - 48) else if 97 ≤ c.toNat ∧ c.toNat ≤ 102 then some (c.toNat - 87) else none
theorem hexd_nat {n : Nat} (h : n < 16) : (hexd n).toNat = if n < 10 then 48 + n else 87 + n := by
  unfold hexd
  rw [UInt8.toNat_ofNat', Nat.mod_eq_of_lt]
  split <;> omega
theorem hexvW_hexd {n : Nat} (h : n < 16) : hexvW (hexd n) = some n := by
  have e := hexd_nat h
  unfold hexvW
  split at e
  · rw [if_pos (by omega)]; congr 1; omega
  · rw [if_neg (by omega), if_pos (by omega)]; congr 1; omega
theorem hexl_hexd {n : Nat} (h : n < 16) : hexl (hexd n) = some n := by
  have e := hexd_nat h
  unfold hexl
  split at e
  · rw [if_pos (by omega)]; congr 1; omega
  · rw [if_neg (by omega), if_pos (by omega)]; congr 1; omega
/-- A pair of digits at the front. -/
def pairV (v : UInt8 → Option Nat) (r : List UInt8) : Option Nat := (r[1]?.bind v).bind fun a => (r[2]?.bind v).map fun b => 16 * a + b
theorem pair_hexd {v : UInt8 → Option Nat} (hv : ∀ n, n < 16 → v (hexd n) = some n) (x : UInt8) (b : UInt8) (r : List UInt8) : pairV v (x :: hexd (b.toNat / 16) :: hexd (b.toNat % 16) :: r) = some b.toNat := by
  have hb := UInt8.toNat_lt b
  unfold pairV
  show ((v (hexd (b.toNat / 16))).bind fun a => (v (hexd (b.toNat % 16))).map fun b => 16 * a + b) = _
  rw [hv _ (by omega), hv _ (by omega)]
  show some (16 * (b.toNat / 16) + b.toNat % 16) = _
  congr 1; omega

/-- The text in quotes behind the first one, and what stands behind the last one: the program's way. -/
def unq (s : List UInt8) : Option (List UInt8 × List UInt8) :=
  match s with
  | [] => none
  | c :: r =>
    if c = 34 then some ([], r)
    else if c = 92 ∧ 3 ≤ r.length ∧ r[0]? = some 120 then
      match pairV hexvW r with
      | none => none
      | some n => (unq (r.drop 3)).map fun x => (UInt8.ofNat n :: x.1, x.2)
    else if c = 92 ∧ 1 ≤ r.length then (unq (r.drop 1)).map fun x => (r.headD 0 :: x.1, x.2)
    else (unq r).map fun x => (c :: x.1, x.2)
termination_by s.length
decreasing_by all_goals (simp only [List.length_drop, List.length_cons]; omega)
/-- The reference's way. -/
def unqR (s : List UInt8) : List UInt8 × List UInt8 :=
  match s with
  | [] => ([], [])
  | c :: r =>
    if c = 34 then ([], r)
    else if c ≠ 92 then (c :: (unqR r).1, (unqR r).2)
    else if 3 ≤ r.length ∧ r[0]? = some 120 ∧ (pairV hexl r).isSome = true then (UInt8.ofNat ((pairV hexl r).getD 0) :: (unqR (r.drop 3)).1, (unqR (r.drop 3)).2)
    else if 1 ≤ r.length then (r.headD 0 :: (unqR (r.drop 1)).1, (unqR (r.drop 1)).2)
    else unqR r
termination_by s.length
decreasing_by all_goals (simp only [List.length_drop, List.length_cons]; omega)
theorem ofNat_toNat8 (b : UInt8) : UInt8.ofNat b.toNat = b := by simp
theorem unq_enc {ts : List Tok} (h : ∀ t ∈ ts, t.ok) (r : List UInt8) : unq (encT ts ++ 34 :: r) = some (ts.map Tok.val, r) := by
  induction ts with
  | nil => show unq (34 :: r) = _; rw [unq, if_pos rfl]; rfl
  | cons t ts ih =>
    replace ih := ih fun t ht => h t (List.mem_cons_of_mem _ ht)
    have ht := h t List.mem_cons_self
    have e : encT (t :: ts) ++ 34 :: r = t.enc ++ (encT ts ++ 34 :: r) := by unfold encT; rw [List.flatMap_cons, List.append_assoc]
    rw [e]
    cases t with
    | hex b =>
      show unq (92 :: 120 :: hexd (b.toNat / 16) :: hexd (b.toNat % 16) :: (encT ts ++ 34 :: r)) = _
      rw [unq, if_neg (by decide), if_pos ⟨rfl, by simp only [List.length_cons]; omega, rfl⟩, pair_hexd fun n hn => hexvW_hexd hn]
      show Option.map _ (unq (encT ts ++ 34 :: r)) = _
      rw [ih, ofNat_toNat8]; rfl
    | esc b =>
      have hb : b ≠ 120 := by rcases ht with rfl | rfl <;> decide
      show unq (92 :: b :: (encT ts ++ 34 :: r)) = _
      rw [unq, if_neg (by decide), if_neg (fun e => hb (by simpa using e.2.2)), if_pos ⟨rfl, by simp only [List.length_cons]; omega⟩]
      show Option.map _ (unq (encT ts ++ 34 :: r)) = _
      rw [ih]; rfl
    | raw b =>
      show unq (b :: (encT ts ++ 34 :: r)) = _
      rw [unq, if_neg ht.1, if_neg (fun e => ht.2 e.1), if_neg (fun e => ht.2 e.1), ih]; rfl
theorem unqR_enc {ts : List Tok} (h : ∀ t ∈ ts, t.ok) (r : List UInt8) : unqR (encT ts ++ 34 :: r) = (ts.map Tok.val, r) := by
  induction ts with
  | nil => show unqR (34 :: r) = _; rw [unqR, if_pos rfl]; rfl
  | cons t ts ih =>
    replace ih := ih fun t ht => h t (List.mem_cons_of_mem _ ht)
    have ht := h t List.mem_cons_self
    have e : encT (t :: ts) ++ 34 :: r = t.enc ++ (encT ts ++ 34 :: r) := by unfold encT; rw [List.flatMap_cons, List.append_assoc]
    rw [e]
    cases t with
    | hex b =>
      show unqR (92 :: 120 :: hexd (b.toNat / 16) :: hexd (b.toNat % 16) :: (encT ts ++ 34 :: r)) = _
      rw [unqR, if_neg (by decide), if_neg (by decide), pair_hexd fun n hn => hexl_hexd hn, if_pos ⟨by simp only [List.length_cons]; omega, rfl, rfl⟩]
      show (UInt8.ofNat b.toNat :: (unqR (encT ts ++ 34 :: r)).1, (unqR (encT ts ++ 34 :: r)).2) = _
      rw [ih, ofNat_toNat8]; rfl
    | esc b =>
      have hb : b ≠ 120 := by rcases ht with rfl | rfl <;> decide
      show unqR (92 :: b :: (encT ts ++ 34 :: r)) = _
      rw [unqR, if_neg (by decide), if_neg (by decide), if_neg (fun e => hb (by simpa using e.2.1)), if_pos (by simp only [List.length_cons]; omega)]
      show (b :: (unqR (encT ts ++ 34 :: r)).1, (unqR (encT ts ++ 34 :: r)).2) = _
      rw [ih]; rfl
    | raw b =>
      show unqR (b :: (encT ts ++ 34 :: r)) = _
      rw [unqR, if_neg ht.1, if_pos ht.2, ih]; rfl
theorem unq_short : ∀ (n : Nat) {s : List UInt8} {x : List UInt8 × List UInt8}, s.length ≤ n → unq s = some x → x.2.length < s.length := by
  intro n
  induction n with
  | zero =>
    intro s x hs h
    obtain rfl := List.length_eq_zero_iff.1 (Nat.le_zero.1 hs)
    rw [unq] at h; cases h
  | succ n ih =>
    intro s x hs h
    cases s with
    | nil => rw [unq] at h; cases h
    | cons c r =>
      rw [List.length_cons] at hs ⊢
      rw [unq] at h
      split at h
      · cases h; exact Nat.lt_succ_self _
      split at h
      · split at h
        · cases h
        · obtain ⟨y, hy, rfl⟩ := Option.map_eq_some_iff.1 h
          have := ih (by rw [List.length_drop]; omega) hy
          rw [List.length_drop] at this
          dsimp only; omega
      split at h
      · obtain ⟨y, hy, rfl⟩ := Option.map_eq_some_iff.1 h
        have := ih (by rw [List.length_drop]; omega) hy
        rw [List.length_drop] at this
        dsimp only; omega
      · obtain ⟨y, hy, rfl⟩ := Option.map_eq_some_iff.1 h
        have := ih (by omega) hy
        dsimp only; omega
theorem unqR_short : ∀ (n : Nat) {s : List UInt8}, s.length ≤ n → (unqR s).2.length ≤ s.length := by
  intro n
  induction n with
  | zero =>
    intro s hs
    obtain rfl := List.length_eq_zero_iff.1 (Nat.le_zero.1 hs)
    rw [unqR]; exact Nat.le_refl _
  | succ n ih =>
    intro s hs
    cases s with
    | nil => rw [unqR]; exact Nat.le_refl _
    | cons c r =>
      rw [List.length_cons] at hs ⊢
      have h0 := ih (s := r) (by omega)
      have h1 := ih (s := r.drop 1) (by rw [List.length_drop]; omega)
      have h3 := ih (s := r.drop 3) (by rw [List.length_drop]; omega)
      rw [List.length_drop] at h1 h3
      rw [unqR]
      repeat' split
      all_goals (try dsimp only) <;> omega
def trim1 (r : List UInt8) : List UInt8 := if r.head? = some 32 then r.tail else r
theorem trim1_le (r : List UInt8) : (trim1 r).length ≤ r.length := by
  unfold trim1
  split
  · rw [List.length_tail]; omega
  · exact Nat.le_refl _
def word0 (s : List UInt8) : List UInt8 := s.takeWhile (· ≠ 32)
def rest0 (s : List UInt8) : List UInt8 := s.dropWhile (· ≠ 32)
theorem rest0_le (s : List UInt8) : (rest0 s).length ≤ s.length := (List.dropWhile_sublist _).length_le
theorem rest0_trim {s : List UInt8} (h : s ≠ []) : (trim1 (rest0 s)).length < s.length := by
  cases s with
  | nil => exact absurd rfl h
  | cons c r =>
    unfold rest0
    rw [List.dropWhile_cons]
    split
    · have h1 := trim1_le (r.dropWhile (· ≠ 32))
      have h2 := rest0_le r
      unfold rest0 at h2
      rw [List.length_cons]; omega
    · rename_i hc
      have : c = 32 := by simpa using hc
      subst this
      exact Nat.lt_succ_self _
/-- A line's words: the program's way. -/
def fieldsP (s : List UInt8) : Option (List (List UInt8)) :=
  if h : s = [] then some []
  else if s.head? = some 34 then
    match hu : unq s.tail with
    | none => none
    | some x => (fieldsP (trim1 x.2)).map (x.1 :: ·)
  else (fieldsP (trim1 (rest0 s))).map (word0 s :: ·)
termination_by s.length
decreasing_by
  · have h1 := unq_short _ (Nat.le_refl _) hu
    have h2 := trim1_le x.2
    rw [List.length_tail] at h1
    omega
  · exact rest0_trim h
/-- The reference's way: the word at the front, and what stands behind it. -/
def wordR (s : List UInt8) : List UInt8 × List UInt8 := if s.head? = some 34 then unqR s.tail else (word0 s, rest0 s)
def fieldsR (s : List UInt8) : List (List UInt8) := if h : s = [] then [] else (wordR s).1 :: fieldsR ((wordR s).2.drop 1)
termination_by s.length
decreasing_by
  rw [List.length_drop]
  have hl := List.length_pos_iff.2 h
  unfold wordR
  split
  · have := unqR_short _ (Nat.le_refl s.tail.length)
    rw [List.length_tail] at this
    omega
  · have := rest0_le s
    dsimp only; omega
theorem fieldsP_nil : fieldsP [] = some [] := by rw [fieldsP]; rfl
theorem fieldsR_nil : fieldsR [] = [] := by rw [fieldsR]; rfl
theorem fieldsP_quote {s : List UInt8} {t r : List UInt8} (h : s.head? = some 34) (hu : unq s.tail = some (t, r)) : fieldsP s = (fieldsP (trim1 r)).map (t :: ·) := by
  rw [fieldsP, dif_neg (by rintro rfl; cases h), if_pos h]
  split
  · rename_i e; rw [hu] at e; cases e
  · rename_i x e; rw [hu] at e; cases e; rfl
theorem fieldsP_plain {s : List UInt8} (h0 : s ≠ []) (h : s.head? ≠ some 34) : fieldsP s = (fieldsP (trim1 (rest0 s))).map (word0 s :: ·) := by
  rw [fieldsP, dif_neg h0, if_neg h]
/-- What may stand behind a word. -/
def Behind (r : List UInt8) : Prop := r = [] ∨ r.head? = some 32
theorem plain_mem {s : List UInt8} (h : plainW s = true) : s ≠ [] ∧ ∀ c ∈ s, plainB c = true := by
  unfold plainW at h
  simpa using h
theorem plainB_no {c : UInt8} (h : plainB c = true) : c ≠ 32 ∧ c ≠ 34 := by
  unfold plainB at h
  simp only [Bool.and_eq_true, decide_eq_true_eq] at h
  exact ⟨fun e => by rw [e] at h; exact absurd h.1.1.1 (by decide), h.1.2⟩
theorem word0_of {s r : List UInt8} (h : ∀ c ∈ s, plainB c = true) (hr : Behind r) : word0 (s ++ r) = s ∧ rest0 (s ++ r) = r := by
  unfold word0 rest0
  have hs : ∀ c ∈ s, (decide (c ≠ 32)) = true := fun c hc => decide_eq_true (plainB_no (h c hc)).1
  rw [List.takeWhile_append_of_pos hs, List.dropWhile_append_of_pos hs]
  rcases hr with rfl | hr
  · simp
  · cases r with
    | nil => cases hr
    | cons c r => cases hr; simp
theorem wordW_P {s r : List UInt8} (hr : Behind r) : fieldsP (wordW s ++ r) = (fieldsP (trim1 r)).map (s :: ·) := by
  unfold wordW
  split
  · rename_i h
    obtain ⟨h0, h1⟩ := plain_mem h
    have h2 := word0_of h1 hr
    rw [fieldsP_plain (by simp [h0]) ?_, h2.1, h2.2]
    cases s with
    | nil => exact absurd rfl h0
    | cons c s => exact fun e => (plainB_no (h1 c List.mem_cons_self)).2 (Option.some.inj e)
  · have hu := unq_enc (toks_ok s) r
    rw [toks_val] at hu
    refine fieldsP_quote rfl ?_
    rw [← hu]
    unfold quoteW
    simp
theorem wordW_R {s r : List UInt8} (hr : Behind r) : fieldsR (wordW s ++ r) = s :: fieldsR (r.drop 1) := by
  unfold wordW
  split
  · rename_i h
    obtain ⟨h0, h1⟩ := plain_mem h
    have h2 := word0_of h1 hr
    have h3 : (s ++ r).head? ≠ some 34 := by
      cases s with
      | nil => exact absurd rfl h0
      | cons c s => exact fun e => (plainB_no (h1 c List.mem_cons_self)).2 (Option.some.inj e)
    have h4 : wordR (s ++ r) = (s, r) := by unfold wordR; rw [if_neg h3, h2.1, h2.2]
    rw [fieldsR, dif_neg (by simp [h0]), h4]
  · have hu := unqR_enc (toks_ok s) r
    rw [toks_val] at hu
    have h4 : wordR (quoteW s ++ r) = (s, r) := by
      unfold wordR
      rw [if_pos (by rfl), ← hu]
      unfold quoteW
      simp
    rw [fieldsR, dif_neg (by simp [quoteW]), h4]
theorem lineW_P (l : List (List UInt8)) : fieldsP (lineW l) = some l := by
  induction l with
  | nil => exact fieldsP_nil
  | cons s l ih =>
    cases l with
    | nil =>
      have h := wordW_P (s := s) (r := []) (.inl rfl)
      rw [List.append_nil] at h
      show fieldsP (wordW s) = _
      rw [h, show trim1 [] = [] from rfl, fieldsP_nil]; rfl
    | cons t l =>
      show fieldsP (wordW s ++ 32 :: lineW (t :: l)) = _
      rw [wordW_P (.inr rfl), show trim1 (32 :: lineW (t :: l)) = lineW (t :: l) from rfl, ih]; rfl
theorem lineW_R (l : List (List UInt8)) : fieldsR (lineW l) = l := by
  induction l with
  | nil => exact fieldsR_nil
  | cons s l ih =>
    cases l with
    | nil =>
      have h := wordW_R (s := s) (r := []) (.inl rfl)
      rw [List.append_nil] at h
      show fieldsR (wordW s) = _
      rw [h]
      show s :: fieldsR [] = _
      rw [fieldsR_nil]
    | cons t l =>
      show fieldsR (wordW s ++ 32 :: lineW (t :: l)) = _
      rw [wordW_R (.inr rfl)]
      show s :: fieldsR (lineW (t :: l)) = _
      rw [ih]
end Go.Proofs.YtpnpllghabbhlaaGreatDoor

namespace Go.Proofs.YtpnpllghabbhlaaGreatDoor
open Go

/-- A rune's form. -/
def codedN (r : Nat) : List Nat :=
  if r < 128 then [r] else if r < 2048 then [192 + r / 64, 128 + r % 64] else if r < 65536 then [224 + r / 4096, 128 + r / 64 % 64, 128 + r % 64]
  else [240 + r / 262144, 128 + r / 4096 % 64, 128 + r / 64 % 64, 128 + r % 64]
def codedW (r : Nat) : List UInt8 := (codedN r).map UInt8.ofNat
/-- What n bytes at the front would say. -/
def sayN (s : List UInt8) : Nat → Nat
  | 1 => gB s 0
  | 2 => 64 * (gB s 0 % 32) + gB s 1 % 64
  | 3 => 64 * (64 * (gB s 0 % 16) + gB s 1 % 64) + gB s 2 % 64
  | _ => 64 * (64 * (64 * (gB s 0 % 8) + gB s 1 % 64) + gB s 2 % 64) + gB s 3 % 64
theorem sayN_1 (s : List UInt8) : sayN s 1 = gB s 0 := rfl
theorem sayN_2 (s : List UInt8) : sayN s 2 = 64 * (gB s 0 % 32) + gB s 1 % 64 := rfl
theorem sayN_3 (s : List UInt8) : sayN s 3 = 64 * (64 * (gB s 0 % 16) + gB s 1 % 64) + gB s 2 % 64 := rfl
theorem sayN_4 (s : List UInt8) : sayN s 4 = 64 * (64 * (64 * (gB s 0 % 8) + gB s 1 % 64) + gB s 2 % 64) + gB s 3 % 64 := rfl
def sayOk (s : List UInt8) (n : Nat) : Prop := n ≤ s.length ∧ sayN s n ≤ 1114111 ∧ (sayN s n < 55296 ∨ 57343 < sayN s n) ∧ codedW (sayN s n) = s.take n
instance (s : List UInt8) (n : Nat) : Decidable (sayOk s n) := by unfold sayOk; infer_instance
theorem ofNat_eq {k : Nat} {b : UInt8} (h : k < 256) : UInt8.ofNat k = b ↔ k = b.toNat := by
  constructor
  · rintro rfl; rw [UInt8.toNat_ofNat', Nat.mod_eq_of_lt h]
  · rintro rfl; simp
theorem say1 {s : List UInt8} (h : 1 ≤ s.length) : sayOk s 1 ↔ gB s 0 < 128 := by
  match s, h with
  | a :: s, _ =>
    have ha := UInt8.toNat_lt a
    have e0 : gB (a :: s) 0 = a.toNat := rfl
    unfold sayOk codedW codedN
    rw [sayN_1]
    rw [e0]
    constructor
    · rintro ⟨_, _, _, h⟩
      rcases Nat.lt_or_ge a.toNat 128 with h1 | h1
      · exact h1
      · rw [if_neg (by omega)] at h
        have := congrArg List.length h
        split at this
        · simp at this
        · split at this <;> simp at this
    · intro h1
      rw [if_pos h1]
      refine ⟨by simp, by omega, by omega, ?_⟩
      show [UInt8.ofNat a.toNat] = [a]
      rw [ofNat_toNat8]
theorem say2 {s : List UInt8} (h : 2 ≤ s.length) : sayOk s 2 ↔ (gB s 0 / 32 = 6 ∧ gB s 1 / 64 = 2 ∧ 128 ≤ sayN s 2) := by
  match s, h with
  | a :: b :: s, _ =>
    have ha := UInt8.toNat_lt a
    have hb := UInt8.toNat_lt b
    have e0 : gB (a :: b :: s) 0 = a.toNat := rfl
    have e1 : gB (a :: b :: s) 1 = b.toNat := rfl
    unfold sayOk codedW codedN
    rw [sayN_2]
    rw [e0, e1]
    constructor
    · rintro ⟨_, _, _, h⟩
      split at h
      · simp at h
      split at h
      · simp only [List.map_cons, List.map_nil, List.take_succ_cons, List.take_zero, List.cons.injEq, and_true] at h
        rw [ofNat_eq (by omega), ofNat_eq (by omega)] at h
        omega
      split at h <;> simp at h
    · rintro ⟨h1, h2, h3⟩
      rw [if_neg (by omega), if_pos (by omega)]
      refine ⟨by simp, by omega, by omega, ?_⟩
      simp only [List.map_cons, List.map_nil, List.take_succ_cons, List.take_zero, List.cons.injEq, and_true]
      rw [ofNat_eq (by omega), ofNat_eq (by omega)]
      omega
theorem say3 {s : List UInt8} (h : 3 ≤ s.length) : sayOk s 3 ↔ (gB s 0 / 16 = 14 ∧ gB s 1 / 64 = 2 ∧ gB s 2 / 64 = 2 ∧ 2048 ≤ sayN s 3 ∧ (sayN s 3 < 55296 ∨ 57343 < sayN s 3)) := by
  match s, h with
  | a :: b :: c :: s, _ =>
    have ha := UInt8.toNat_lt a
    have hb := UInt8.toNat_lt b
    have hc := UInt8.toNat_lt c
    have e0 : gB (a :: b :: c :: s) 0 = a.toNat := rfl
    have e1 : gB (a :: b :: c :: s) 1 = b.toNat := rfl
    have e2 : gB (a :: b :: c :: s) 2 = c.toNat := rfl
    unfold sayOk codedW codedN
    rw [sayN_3]
    rw [e0, e1, e2]
    constructor
    · rintro ⟨_, _, h0, h⟩
      split at h
      · simp at h
      split at h
      · simp at h
      split at h
      · simp only [List.map_cons, List.map_nil, List.take_succ_cons, List.take_zero, List.cons.injEq, and_true] at h
        rw [ofNat_eq (by omega), ofNat_eq (by omega), ofNat_eq (by omega)] at h
        omega
      · simp at h
    · rintro ⟨h1, h2, h3, h4, h5⟩
      rw [if_neg (by omega), if_neg (by omega), if_pos (by omega)]
      refine ⟨by simp, by omega, by omega, ?_⟩
      simp only [List.map_cons, List.map_nil, List.take_succ_cons, List.take_zero, List.cons.injEq, and_true]
      rw [ofNat_eq (by omega), ofNat_eq (by omega), ofNat_eq (by omega)]
      omega
theorem say4 {s : List UInt8} (h : 4 ≤ s.length) : sayOk s 4 ↔ (gB s 0 / 8 = 30 ∧ gB s 1 / 64 = 2 ∧ gB s 2 / 64 = 2 ∧ gB s 3 / 64 = 2 ∧ 65536 ≤ sayN s 4 ∧ sayN s 4 ≤ 1114111) := by
  match s, h with
  | a :: b :: c :: d :: s, _ =>
    have ha := UInt8.toNat_lt a
    have hb := UInt8.toNat_lt b
    have hc := UInt8.toNat_lt c
    have hd := UInt8.toNat_lt d
    have e0 : gB (a :: b :: c :: d :: s) 0 = a.toNat := rfl
    have e1 : gB (a :: b :: c :: d :: s) 1 = b.toNat := rfl
    have e2 : gB (a :: b :: c :: d :: s) 2 = c.toNat := rfl
    have e3 : gB (a :: b :: c :: d :: s) 3 = d.toNat := rfl
    unfold sayOk codedW codedN
    rw [sayN_4]
    rw [e0, e1, e2, e3]
    constructor
    · rintro ⟨_, _, h0, h⟩
      split at h
      · simp at h
      split at h
      · simp at h
      split at h
      · simp at h
      · simp only [List.map_cons, List.map_nil, List.take_succ_cons, List.take_zero, List.cons.injEq, and_true] at h
        rw [ofNat_eq (by omega), ofNat_eq (by omega), ofNat_eq (by omega), ofNat_eq (by omega)] at h
        omega
    · rintro ⟨h1, h2, h3, h4, h5, h6⟩
      rw [if_neg (by omega), if_neg (by omega), if_neg (by omega)]
      refine ⟨by simp, by omega, by omega, ?_⟩
      simp only [List.map_cons, List.map_nil, List.take_succ_cons, List.take_zero, List.cons.injEq, and_true]
      rw [ofNat_eq (by omega), ofNat_eq (by omega), ofNat_eq (by omega), ofNat_eq (by omega)]
      omega
/-- The reference's answer: the first count of bytes that says a rune whose form they are. -/
def beginsM (s : List UInt8) : Nat × Nat := if sayOk s 1 then (sayN s 1, 1) else if sayOk s 2 then (sayN s 2, 2) else if sayOk s 3 then (sayN s 3, 3) else if sayOk s 4 then (sayN s 4, 4) else (0, 0)
theorem sayOk_le {s : List UInt8} {n : Nat} (h : sayOk s n) : n ≤ s.length := h.1
theorem begins_dec {s : List UInt8} (h : s ≠ []) : beginsM s = if decW s = (65533, 1) then (0, 0) else decW s := by
  have hl : 1 ≤ s.length := List.length_pos_iff.2 h
  have g0 := gB_lt s 0
  have g1 := gB_lt s 1
  have g2 := gB_lt s 2
  have g3 := gB_lt s 3
  have n2 : sayOk s 2 ↔ (2 ≤ s.length ∧ gB s 0 / 32 = 6 ∧ gB s 1 / 64 = 2 ∧ 128 ≤ sayN s 2) := ⟨fun e => ⟨e.1, (say2 e.1).1 e⟩, fun e => (say2 e.1).2 e.2⟩
  have n3 : sayOk s 3 ↔ (3 ≤ s.length ∧ gB s 0 / 16 = 14 ∧ gB s 1 / 64 = 2 ∧ gB s 2 / 64 = 2 ∧ 2048 ≤ sayN s 3 ∧ (sayN s 3 < 55296 ∨ 57343 < sayN s 3)) := ⟨fun e => ⟨e.1, (say3 e.1).1 e⟩, fun e => (say3 e.1).2 e.2⟩
  have n4 : sayOk s 4 ↔ (4 ≤ s.length ∧ gB s 0 / 8 = 30 ∧ gB s 1 / 64 = 2 ∧ gB s 2 / 64 = 2 ∧ gB s 3 / 64 = 2 ∧ 65536 ≤ sayN s 4 ∧ sayN s 4 ≤ 1114111) := ⟨fun e => ⟨e.1, (say4 e.1).1 e⟩, fun e => (say4 e.1).2 e.2⟩
  have key : ∀ x, decW s = x → beginsM s = if x = (65533, 1) then (0, 0) else x := by
    intro x hx
    unfold beginsM
    simp only [say1 hl, n2, n3, n4]
    clear n2 n3 n4
    have v1 := sayN_1 s
    have v2 := sayN_2 s
    have v3 := sayN_3 s
    have v4 := sayN_4 s
    unfold decW Lib.decodeN at hx
    by_cases c0 : gB s 0 < 128
    · rw [if_pos c0] at hx ⊢; subst hx; rw [if_neg (by rw [Prod.mk.injEq]; omega), v1]
    rw [if_neg c0] at hx ⊢
    by_cases c2 : gB s 0 / 32 = 6 ∧ (1 < s.length ∧ gB s 1 / 64 = 2)
    · rw [if_pos c2] at hx
      split at hx
      · subst hx; rw [if_pos (by omega), if_neg (by rw [Prod.mk.injEq]; omega), Prod.mk.injEq]; omega
      · subst hx; rw [if_neg (by omega), if_neg (by omega), if_neg (by omega), if_pos rfl]
    rw [if_neg c2] at hx
    rw [if_neg (by omega)]
    by_cases c3 : gB s 0 / 16 = 14 ∧ (1 < s.length ∧ gB s 1 / 64 = 2) ∧ (2 < s.length ∧ gB s 2 / 64 = 2)
    · rw [if_pos c3] at hx
      split at hx
      · subst hx; rw [if_pos (by omega), if_neg (by rw [Prod.mk.injEq]; omega), Prod.mk.injEq]; omega
      · subst hx; rw [if_neg (by omega), if_neg (by omega), if_pos rfl]
    rw [if_neg c3] at hx
    rw [if_neg (by omega)]
    by_cases c4 : gB s 0 / 8 = 30 ∧ (1 < s.length ∧ gB s 1 / 64 = 2) ∧ (2 < s.length ∧ gB s 2 / 64 = 2) ∧ (3 < s.length ∧ gB s 3 / 64 = 2)
    · rw [if_pos c4] at hx
      split at hx
      · subst hx; rw [if_pos (by omega), if_neg (by rw [Prod.mk.injEq]; omega), Prod.mk.injEq]; omega
      · subst hx; rw [if_neg (by omega), if_pos rfl]
    rw [if_neg c4] at hx
    subst hx
    rw [if_neg (by omega), if_pos rfl]
  exact key _ rfl
end Go.Proofs.YtpnpllghabbhlaaGreatDoor
