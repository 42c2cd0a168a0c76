/-
  Texts of this claim, one behind the other: Ya, Facts, Shelf, Wn, Mp, Lex, Row, Br, Yb, Yc, Wt.
-/
import Derived.Test.YtlkhajheecglgaaDoorZa
import Derived.Test.YtlkhajheecglgaaDoorChecked
import Derived.Shelf.Strings.Trim
import Derived.Shelf.Small.Utf8
import Derived.Shelf.Small.Strs
import Derived.Shelf.Strings.Search1
import Derived.Shelf.Strings.Search2
import Derived.Shelf.Strings.Cut
import Derived.Shelf.LaysM
import Derived.Shelf.Strings.Shaped
import Derived.Shelf.GgClosure.StringsIndexFunc
import Derived.Ground.GgwProg
import Derived.Shelf.GgClosure.StringsIndexFuncTop
import Derived.Shelf.GgClosure.StringsRunes
import Derived.Shelf.Unicode.Decode
import Derived.Shelf.Strings.Runes
import Derived.Shelf.Strings.AsciiSet
import Derived.Shelf.Unicode.DecodeSlow
import Derived.Shelf.Unicode.DecodeAny
import Derived.Shelf.Unicode.DecodeLast
import Derived.Shelf.Strings.FuncGrows
import Derived.Shelf.Slices.Turned
import Derived.Test.YtlkhajheecglgaaDoorProg
import Derived.Lib.IndexLaws
import Derived.Laws.BitsLemmas
import Derived.StringKeys
import Derived.DeepKeys3
namespace Go.Proofs.YtlkhajheecglgaaDoor
open Go Wk

def signs : List UInt8 := "abcdefghijklmnopqrstuvwxyz0123456789,._+-@#?".toUTF8.data.toList
theorem signs_eq : signs = [97, 98, 99, 100, 101, 102, 103, 104, 105, 106, 107, 108, 109, 110, 111, 112, 113, 114, 115, 116, 117, 118, 119, 120, 121, 122, 48, 49, 50, 51, 52, 53, 54, 55, 56, 57, 44, 46, 95, 43, 45, 64, 35, 63] := by decide
def nameOk (s : List UInt8) : Bool := decide (s ≠ [] ∧ s.length ≤ 31) && s.all fun c => signs.contains c
theorem get_byte (l : List UInt8) {k : Nat} (h : k < l.length) : ∃ c, l[k]? = some c := ⟨l[k], List.getElem?_eq_getElem h⟩
theorem all_step {α : Type} {p : α → Bool} {xs : List α} {i : Nat} {x : α} (h : xs[i]? = some x) (hi : (xs.take i).all p = true) (hx : p x = true) : (xs.take (i + 1)).all p = true := by
  rw [List.take_add_one, h, List.all_append, hi]; simp [hx]
theorem all_fail {α : Type} {p : α → Bool} {xs : List α} {i : Nat} {x : α} (h : xs[i]? = some x) (hx : p x = false) : xs.all p = false := by
  rw [List.all_eq_false]
  exact ⟨x, List.mem_of_getElem? h, by simp [hx]⟩
abbrev Pr := List UInt8 × List UInt8
def pC (p : Pr) : List Value := [vs p.1, vs p.2]
structure Nd where
  parent : Int
  name : List UInt8
  props : List Pr
deriving DecidableEq, Inhabited
abbrev rPr : Rel Pr := flat pC
def rNd : Rel Nd := fun Pb w x cs => ∃ v, cs = [vi x.parent, vs x.name, v] ∧ RdS rPr 2 Pb w v x.props
theorem goodPr : GoodR rPr 2 := good_flat pC (fun _ => rfl) (fun x c hc => by simp [pC] at hc; rcases hc with rfl | rfl <;> rfl)
theorem plainPr : Plain rPr := plain_flat pC
theorem stableNd : Stable rNd := fun _ _ _ _ _ hk ⟨v, e, h⟩ => ⟨v, e, h.keep (stable_flat pC) hk⟩
theorem monoNd : Mono rNd := fun _ _ _ _ _ hP ⟨v, e, h⟩ => ⟨v, e, h.mono (mono_flat pC) hP⟩
theorem goodNd : GoodR rNd 3 := ⟨stableNd, monoNd, fun Pb w x cs ⟨v, e, h⟩ _ c hc => by
  subst e
  obtain ⟨a, cap, rfl, _⟩ := h.form
  simp at hc
  rcases hc with rfl | rfl | rfl <;> rfl⟩

/-! When props may be. -/
def propsGo (seen : List (List UInt8)) : List Pr → Bool
  | [] => true
  | p :: r => nameOk p.1 && (decide (p.2.length ≤ 1024) && (!seen.contains p.1 && propsGo (seen ++ [p.1]) r))
def propsOk (l : List Pr) : Bool := decide (l.length ≤ 32) && propsGo [] l
theorem nameOk_len {s : List UInt8} (h : nameOk s = true) : s.length ≤ 31 := by
  unfold nameOk at h
  simp only [Bool.and_eq_true, decide_eq_true_eq] at h
  exact h.1.2
theorem drop_cons {α : Type} {l : List α} {i : Nat} {x : α} (h : l[i]? = some x) : l.drop i = x :: l.drop (i + 1) := by
  obtain ⟨h1, rfl⟩ := List.getElem?_eq_some_iff.1 h
  exact List.drop_eq_getElem_cons h1
theorem take_snoc {α : Type} {l : List α} {i : Nat} {x : α} (h : l[i]? = some x) : l.take (i + 1) = l.take i ++ [x] := by
  rw [List.take_add_one, h]; rfl
theorem get_lt {α : Type} (xs : List α) {k : Nat} (h : k < xs.length) : ∃ x, xs[k]? = some x := ⟨xs[k], List.getElem?_eq_getElem h⟩
theorem vs_inj {a b : List UInt8} (h : vs a = vs b) : a = b := by
  simp only [vs, Value.string.injEq, ByteArray.mk.injEq] at h
  simpa using h
abbrev Kid := Int × List UInt8
/-- Where nodes are no tree, or the depths. -/
def chkGo : Nat → List Int → List Int → List Kid → List Nd → Int × Option (List Int)
  | _, dp, _, _, [] => (0, some dp)
  | i, dp, pt, sn, x :: r =>
    if 512 ≤ i ∨ propsOk x.props = false then ((i : Int), none)
    else if i = 0 then (if x.parent ≠ -1 ∨ x.name ≠ [] then (0, none) else chkGo 1 (dp ++ [1]) [0] sn r)
    else if nameOk x.name = false ∨ x.parent < 0 ∨ (i : Int) ≤ x.parent then ((i : Int), none)
    else if (pt.length : Int) < dp.getD x.parent.toNat 0 ∨ pt.getD (dp.getD x.parent.toNat 0 - 1).toNat 0 ≠ x.parent ∨ 16 < dp.getD x.parent.toNat 0 + 1 ∨ sn.contains (x.parent, x.name) = true then ((i : Int), none)
    else chkGo (i + 1) (dp ++ [dp.getD x.parent.toNat 0 + 1]) (pt.take (dp.getD x.parent.toNat 0).toNat ++ [(i : Int)]) (sn ++ [(x.parent, x.name)]) r
def treeOk (l : List Nd) : Bool := (chkGo 0 [] [] [] l).2.isSome && decide (0 < l.length)
theorem treeOk_pos {l : List Nd} (h : treeOk l = true) : 0 < l.length := by
  unfold treeOk at h
  simp only [Bool.and_eq_true, decide_eq_true_eq] at h
  exact h.2
structure NdOk (i : Nat) (x : Nd) : Prop where
  lt : i < 512
  pr : propsOk x.props = true
  root : i = 0 → x.parent = -1 ∧ x.name = []
  kid : i ≠ 0 → 0 ≤ x.parent ∧ x.parent < i ∧ nameOk x.name = true
theorem chkGo_ok : ∀ (l : List Nd) (i : Nat) (dp pt : List Int) (sn : List Kid), (chkGo i dp pt sn l).2.isSome = true → ∀ j x, l[j]? = some x → NdOk (i + j) x
  | [], _, _, _, _, _, j, x, h => by simp at h
  | y :: r, i, dp, pt, sn, h, j, x, hx => by
    rw [chkGo] at h
    split at h
    · cases h
    · rename_i h1
      simp only [not_or, Nat.not_le, Bool.not_eq_false] at h1
      split at h
      · rename_i h0
        subst h0
        split at h
        · cases h
        · rename_i h2
          simp only [not_or, Decidable.not_not] at h2
          cases j with
          | zero =>
            simp at hx; subst hx
            exact ⟨by omega, h1.2, fun _ => h2, fun e => absurd rfl e⟩
          | succ j =>
            have := chkGo_ok r 1 _ _ _ h j x (by simpa using hx)
            rwa [show 0 + (j + 1) = 1 + j by omega]
      · rename_i h0
        split at h
        · cases h
        · rename_i h2
          simp only [not_or, Bool.not_eq_false, Int.not_lt, Int.not_le] at h2
          split at h
          · cases h
          · cases j with
            | zero =>
              simp at hx; subst hx
              exact ⟨by omega, h1.2, fun e => absurd e h0, fun _ => ⟨h2.2.1, h2.2.2, h2.1⟩⟩
            | succ j =>
              have := chkGo_ok r (i + 1) _ _ _ h j x (by simpa using hx)
              rwa [show i + (j + 1) = i + 1 + j by omega]
theorem treeOk_nd {l : List Nd} (h : treeOk l = true) {j : Nat} {x : Nd} (hx : l[j]? = some x) : NdOk j x := by
  unfold treeOk at h
  simp only [Bool.and_eq_true] at h
  have := chkGo_ok l 0 [] [] [] h.1 j x hx
  rwa [Nat.zero_add] at this
theorem treeOk_len {l : List Nd} (h : treeOk l = true) : l.length ≤ 512 := by
  rcases Nat.eq_zero_or_pos l.length with h0 | h0
  · omega
  · obtain ⟨x, hx⟩ := get_lt l (k := l.length - 1) (by omega)
    have := (treeOk_nd h hx).lt
    omega
theorem propsOk_len {l : List Pr} (h : propsOk l = true) : l.length ≤ 32 := by
  unfold propsOk at h
  simp only [Bool.and_eq_true, decide_eq_true_eq] at h
  exact h.1

/-! The knots of a tree. -/
abbrev ptrV : Nat → Value := fun b => .pointer (some ⟨b, 0, none⟩)
abbrev No : Nat → Prop := fun _ => False
inductive T where
  | mk (name : List UInt8) (props : List Pr) (kids : List T)
def T.name : T → List UInt8 | .mk n _ _ => n
def T.props : T → List Pr | .mk _ p _ => p
def T.kids : T → List T | .mk _ _ k => k
mutual
def szT : T → Nat
  | .mk _ _ ks => 1 + szK ks
def szK : List T → Nat
  | [] => 0
  | t :: ts => szT t + szK ts
end
mutual
def flT : T → Int → Nat → List Nd
  | .mk nm ps ks, up, b => ⟨up, nm, ps⟩ :: flK ks b (b + 1)
def flK : List T → Nat → Nat → List Nd
  | [], _, _ => []
  | t :: ts, u, b => flT t (u : Int) b ++ flK ts u (b + szT t)
end
theorem szT_pos (t : T) : 0 < szT t := by cases t; simp only [szT]; omega
mutual
theorem flT_length : ∀ (t : T) (up : Int) (b : Nat), (flT t up b).length = szT t
  | .mk nm ps ks, up, b => by simp only [flT, szT, List.length_cons, flK_length ks]; omega
theorem flK_length : ∀ (ks : List T) (u b : Nat), (flK ks u b).length = szK ks
  | [], _, _ => rfl
  | t :: ts, u, b => by simp only [flK, szK, List.length_append, flT_length t, flK_length ts]
end
theorem flT_head (t : T) (up : Int) (b : Nat) : ∃ r, flT t up b = ⟨up, t.name, t.props⟩ :: r := by cases t; exact ⟨_, rfl⟩
/-! The parents of what lies. -/
mutual
theorem flT_par : ∀ (t : T) (up : Int) (b : Nat) (r : List Nd), flT t up b = ⟨up, t.name, t.props⟩ :: r → ∀ x ∈ r, (b : Int) ≤ x.parent ∧ x.parent < b + szT t
  | .mk nm ps ks, up, b, r, h, x, hx => by
    simp only [flT, List.cons.injEq] at h
    obtain ⟨_, rfl⟩ := h
    have := flK_par ks b (b + 1) (by omega) x hx
    simp only [szT]; omega
theorem flK_par : ∀ (ks : List T) (u b : Nat), u < b → ∀ x ∈ flK ks u b, x.parent = u ∨ (b : Int) ≤ x.parent ∧ x.parent < b + szK ks
  | [], _, _, _, x, hx => by simp [flK] at hx
  | t :: ts, u, b, hu, x, hx => by
    simp only [flK, List.mem_append] at hx
    simp only [szK]
    rcases hx with hx | hx
    · obtain ⟨r, hr⟩ := flT_head t (u : Int) b
      rw [hr, List.mem_cons] at hx
      rcases hx with rfl | hx
      · exact .inl rfl
      · have := flT_par t u b r hr x hx; right; omega
    · rcases flK_par ts u (b + szT t) (by omega) x hx with h | h
      · exact .inl h
      · right; omega
end
end Go.Proofs.YtlkhajheecglgaaDoor

namespace Go.Proofs.YtlkhajheecglgaaDoor
open Go.Proofs.YtlkhajheecglgaaDoor.Wk
instance elt1 : ElT Tryd.prog 1 1 8 false (.nilFunc) := ElT.mk' (by kernel_rfl) rfl (by kernel_rfl)
instance und2 : Und Tryd.prog 2 (.int .i64) := ⟨Tryd.underlying2⟩
instance elt2 : ElT Tryd.prog 2 1 8 false (.int .i64 0) := ElT.mk' (by kernel_rfl) rfl (by kernel_rfl)
instance und3 : Und Tryd.prog 3 (.int .i64) := ⟨Tryd.underlying3⟩
instance elt3 : ElT Tryd.prog 3 1 8 false (.int .i64 0) := ElT.mk' (by kernel_rfl) rfl (by kernel_rfl)
instance und4 : Und Tryd.prog 4 .bool := ⟨Tryd.underlying4⟩
instance elt4 : ElT Tryd.prog 4 1 1 false (.bool false) := ElT.mk' (by kernel_rfl) rfl (by kernel_rfl)
instance und5 : Und Tryd.prog 5 (.int .u8) := ⟨Tryd.underlying5⟩
instance elt5 : ElT Tryd.prog 5 1 1 false (.int .u8 0) := ElT.mk' (by kernel_rfl) rfl (by kernel_rfl)
instance und6 : Und Tryd.prog 6 (.int .u8) := ⟨Tryd.underlying6⟩
instance elt6 : ElT Tryd.prog 6 1 1 false (.int .u8 0) := ElT.mk' (by kernel_rfl) rfl (by kernel_rfl)
instance fld7_0 : Fld Tryd.prog 7 0 0 2 := ⟨⟨_, _, Tryd.underlying7, rfl, rfl, rfl⟩⟩
instance fld7_1 : Fld Tryd.prog 7 1 1 3 := ⟨⟨_, _, Tryd.underlying7, rfl, rfl, rfl⟩⟩
instance fld7_2 : Fld Tryd.prog 7 2 2 4 := ⟨⟨_, _, Tryd.underlying7, rfl, rfl, rfl⟩⟩
instance fld7_3 : Fld Tryd.prog 7 3 3 6 := ⟨⟨_, _, Tryd.underlying7, rfl, rfl, rfl⟩⟩
instance elt7 : ElT Tryd.prog 7 4 24 true (.agg #[.int .i64 0, .int .i64 0, .bool false, .int .u8 0]) := ElT.mk' (by kernel_rfl) rfl (by kernel_rfl)
instance fld8_0 : Fld Tryd.prog 8 0 0 2 := ⟨⟨_, _, Tryd.underlying8, rfl, rfl, rfl⟩⟩
instance fld8_1 : Fld Tryd.prog 8 1 1 3 := ⟨⟨_, _, Tryd.underlying8, rfl, rfl, rfl⟩⟩
instance fld8_2 : Fld Tryd.prog 8 2 2 4 := ⟨⟨_, _, Tryd.underlying8, rfl, rfl, rfl⟩⟩
instance fld8_3 : Fld Tryd.prog 8 3 3 6 := ⟨⟨_, _, Tryd.underlying8, rfl, rfl, rfl⟩⟩
instance elt8 : ElT Tryd.prog 8 4 24 true (.agg #[.int .i64 0, .int .i64 0, .bool false, .int .u8 0]) := ElT.mk' (by kernel_rfl) rfl (by kernel_rfl)
instance und9 : Und Tryd.prog 9 .string := ⟨Tryd.underlying9⟩
instance elt9 : ElT Tryd.prog 9 1 16 false (.string ⟨#[]⟩) := ElT.mk' (by kernel_rfl) rfl (by kernel_rfl)
instance und10 : Und Tryd.prog 10 .string := ⟨Tryd.underlying10⟩
instance elt10 : ElT Tryd.prog 10 1 16 false (.string ⟨#[]⟩) := ElT.mk' (by kernel_rfl) rfl (by kernel_rfl)
instance und11 : Und Tryd.prog 11 .string := ⟨Tryd.underlying11⟩
instance elt11 : ElT Tryd.prog 11 1 16 false (.string ⟨#[]⟩) := ElT.mk' (by kernel_rfl) rfl (by kernel_rfl)
instance und12 : Und Tryd.prog 12 (.int .u64) := ⟨Tryd.underlying12⟩
instance elt12 : ElT Tryd.prog 12 1 8 false (.int .u64 0) := ElT.mk' (by kernel_rfl) rfl (by kernel_rfl)
instance fld13_0 : Fld Tryd.prog 13 0 0 9 := ⟨⟨_, _, Tryd.underlying13, rfl, rfl, rfl⟩⟩
instance fld13_1 : Fld Tryd.prog 13 1 1 12 := ⟨⟨_, _, Tryd.underlying13, rfl, rfl, rfl⟩⟩
instance elt13 : ElT Tryd.prog 13 2 24 true (.agg #[.string ⟨#[]⟩, .int .u64 0]) := ElT.mk' (by kernel_rfl) rfl (by kernel_rfl)
instance fld14_0 : Fld Tryd.prog 14 0 0 9 := ⟨⟨_, _, Tryd.underlying14, rfl, rfl, rfl⟩⟩
instance fld14_1 : Fld Tryd.prog 14 1 1 12 := ⟨⟨_, _, Tryd.underlying14, rfl, rfl, rfl⟩⟩
instance elt14 : ElT Tryd.prog 14 2 24 true (.agg #[.string ⟨#[]⟩, .int .u64 0]) := ElT.mk' (by kernel_rfl) rfl (by kernel_rfl)
instance und15 : Und Tryd.prog 15 (.pointer 122) := ⟨Tryd.underlying15⟩
instance elt15 : ElT Tryd.prog 15 1 8 false (.pointer none) := ElT.mk' (by kernel_rfl) rfl (by kernel_rfl)
instance und16 : Und Tryd.prog 16 (.pointer 125) := ⟨Tryd.underlying16⟩
instance elt16 : ElT Tryd.prog 16 1 8 false (.pointer none) := ElT.mk' (by kernel_rfl) rfl (by kernel_rfl)
instance und17 : Und Tryd.prog 17 (.pointer 134) := ⟨Tryd.underlying17⟩
instance elt17 : ElT Tryd.prog 17 1 8 false (.pointer none) := ElT.mk' (by kernel_rfl) rfl (by kernel_rfl)
instance fld18_0 : Fld Tryd.prog 18 0 0 17 := ⟨⟨_, _, Tryd.underlying18, rfl, rfl, rfl⟩⟩
instance elt18 : ElT Tryd.prog 18 1 8 true (.agg #[.pointer none]) := ElT.mk' (by kernel_rfl) rfl (by kernel_rfl)
instance fld19_0 : Fld Tryd.prog 19 0 0 17 := ⟨⟨_, _, Tryd.underlying19, rfl, rfl, rfl⟩⟩
instance elt19 : ElT Tryd.prog 19 1 8 true (.agg #[.pointer none]) := ElT.mk' (by kernel_rfl) rfl (by kernel_rfl)
instance elt20 : ElT Tryd.prog 20 1 16 false (.nilIface) := ElT.mk' (by kernel_rfl) rfl (by kernel_rfl)
instance und21 : Und Tryd.prog 21 (.int .i32) := ⟨Tryd.underlying21⟩
instance elt21 : ElT Tryd.prog 21 1 4 false (.int .i32 0) := ElT.mk' (by kernel_rfl) rfl (by kernel_rfl)
instance und22 : Und Tryd.prog 22 (.slice 39) := ⟨Tryd.underlying22⟩
instance elt22 : ElT Tryd.prog 22 1 24 false (.slice none 0 0) := ElT.mk' (by kernel_rfl) rfl (by kernel_rfl)
instance und23 : Und Tryd.prog 23 (.int .i64) := ⟨Tryd.underlying23⟩
instance elt23 : ElT Tryd.prog 23 1 8 false (.int .i64 0) := ElT.mk' (by kernel_rfl) rfl (by kernel_rfl)
instance elt25 : ElT Tryd.prog 25 1 8 false (.nilFunc) := ElT.mk' (by kernel_rfl) rfl (by kernel_rfl)
instance elt26 : ElT Tryd.prog 26 1 8 false (.nilFunc) := ElT.mk' (by kernel_rfl) rfl (by kernel_rfl)
instance elt28 : ElT Tryd.prog 28 1 8 false (.nilFunc) := ElT.mk' (by kernel_rfl) rfl (by kernel_rfl)
instance und29 : Und Tryd.prog 29 (.slice 5) := ⟨Tryd.underlying29⟩
instance elt29 : ElT Tryd.prog 29 1 24 false (.slice none 0 0) := ElT.mk' (by kernel_rfl) rfl (by kernel_rfl)
instance elt30 : ElT Tryd.prog 30 1 8 false (.nilFunc) := ElT.mk' (by kernel_rfl) rfl (by kernel_rfl)
instance elt31 : ElT Tryd.prog 31 1 8 false (.nilFunc) := ElT.mk' (by kernel_rfl) rfl (by kernel_rfl)
instance elt32 : ElT Tryd.prog 32 1 8 false (.nilFunc) := ElT.mk' (by kernel_rfl) rfl (by kernel_rfl)
instance und33 : Und Tryd.prog 33 (.slice 9) := ⟨Tryd.underlying33⟩
instance elt33 : ElT Tryd.prog 33 1 24 false (.slice none 0 0) := ElT.mk' (by kernel_rfl) rfl (by kernel_rfl)
instance elt35 : ElT Tryd.prog 35 1 8 false (.nilFunc) := ElT.mk' (by kernel_rfl) rfl (by kernel_rfl)
instance elt36 : ElT Tryd.prog 36 1 8 false (.nilFunc) := ElT.mk' (by kernel_rfl) rfl (by kernel_rfl)
instance und37 : Und Tryd.prog 37 (.slice 41) := ⟨Tryd.underlying37⟩
instance elt37 : ElT Tryd.prog 37 1 24 false (.slice none 0 0) := ElT.mk' (by kernel_rfl) rfl (by kernel_rfl)
instance fld38_0 : Fld Tryd.prog 38 0 0 3 := ⟨⟨_, _, Tryd.underlying38, rfl, rfl, rfl⟩⟩
instance fld38_1 : Fld Tryd.prog 38 1 1 9 := ⟨⟨_, _, Tryd.underlying38, rfl, rfl, rfl⟩⟩
instance fld38_2 : Fld Tryd.prog 38 2 2 37 := ⟨⟨_, _, Tryd.underlying38, rfl, rfl, rfl⟩⟩
instance elt38 : ElT Tryd.prog 38 3 48 true (.agg #[.int .i64 0, .string ⟨#[]⟩, .slice none 0 0]) := ElT.mk' (by kernel_rfl) rfl (by kernel_rfl)
instance fld39_0 : Fld Tryd.prog 39 0 0 3 := ⟨⟨_, _, Tryd.underlying39, rfl, rfl, rfl⟩⟩
instance fld39_1 : Fld Tryd.prog 39 1 1 9 := ⟨⟨_, _, Tryd.underlying39, rfl, rfl, rfl⟩⟩
instance fld39_2 : Fld Tryd.prog 39 2 2 37 := ⟨⟨_, _, Tryd.underlying39, rfl, rfl, rfl⟩⟩
instance elt39 : ElT Tryd.prog 39 3 48 true (.agg #[.int .i64 0, .string ⟨#[]⟩, .slice none 0 0]) := ElT.mk' (by kernel_rfl) rfl (by kernel_rfl)
instance fld40_0 : Fld Tryd.prog 40 0 0 9 := ⟨⟨_, _, Tryd.underlying40, rfl, rfl, rfl⟩⟩
instance fld40_1 : Fld Tryd.prog 40 1 1 9 := ⟨⟨_, _, Tryd.underlying40, rfl, rfl, rfl⟩⟩
instance elt40 : ElT Tryd.prog 40 2 32 true (.agg #[.string ⟨#[]⟩, .string ⟨#[]⟩]) := ElT.mk' (by kernel_rfl) rfl (by kernel_rfl)
instance fld41_0 : Fld Tryd.prog 41 0 0 9 := ⟨⟨_, _, Tryd.underlying41, rfl, rfl, rfl⟩⟩
instance fld41_1 : Fld Tryd.prog 41 1 1 9 := ⟨⟨_, _, Tryd.underlying41, rfl, rfl, rfl⟩⟩
instance elt41 : ElT Tryd.prog 41 2 32 true (.agg #[.string ⟨#[]⟩, .string ⟨#[]⟩]) := ElT.mk' (by kernel_rfl) rfl (by kernel_rfl)
instance elt42 : ElT Tryd.prog 42 1 8 false (.nilFunc) := ElT.mk' (by kernel_rfl) rfl (by kernel_rfl)
instance fld43_0 : Fld Tryd.prog 43 0 0 3 := ⟨⟨_, _, Tryd.underlying43, rfl, rfl, rfl⟩⟩
instance fld43_1 : Fld Tryd.prog 43 1 1 3 := ⟨⟨_, _, Tryd.underlying43, rfl, rfl, rfl⟩⟩
instance fld43_2 : Fld Tryd.prog 43 2 2 3 := ⟨⟨_, _, Tryd.underlying43, rfl, rfl, rfl⟩⟩
instance fld43_3 : Fld Tryd.prog 43 3 3 3 := ⟨⟨_, _, Tryd.underlying43, rfl, rfl, rfl⟩⟩
instance elt43 : ElT Tryd.prog 43 4 32 true (.agg #[.int .i64 0, .int .i64 0, .int .i64 0, .int .i64 0]) := ElT.mk' (by kernel_rfl) rfl (by kernel_rfl)
instance fld44_0 : Fld Tryd.prog 44 0 0 3 := ⟨⟨_, _, Tryd.underlying44, rfl, rfl, rfl⟩⟩
instance fld44_1 : Fld Tryd.prog 44 1 1 3 := ⟨⟨_, _, Tryd.underlying44, rfl, rfl, rfl⟩⟩
instance fld44_2 : Fld Tryd.prog 44 2 2 3 := ⟨⟨_, _, Tryd.underlying44, rfl, rfl, rfl⟩⟩
instance fld44_3 : Fld Tryd.prog 44 3 3 3 := ⟨⟨_, _, Tryd.underlying44, rfl, rfl, rfl⟩⟩
instance elt44 : ElT Tryd.prog 44 4 32 true (.agg #[.int .i64 0, .int .i64 0, .int .i64 0, .int .i64 0]) := ElT.mk' (by kernel_rfl) rfl (by kernel_rfl)
instance elt46 : ElT Tryd.prog 46 1 8 false (.nilFunc) := ElT.mk' (by kernel_rfl) rfl (by kernel_rfl)
instance fld47_0 : Fld Tryd.prog 47 0 0 3 := ⟨⟨_, _, Tryd.underlying47, rfl, rfl, rfl⟩⟩
instance fld47_1 : Fld Tryd.prog 47 1 1 3 := ⟨⟨_, _, Tryd.underlying47, rfl, rfl, rfl⟩⟩
instance fld47_2 : Fld Tryd.prog 47 2 2 3 := ⟨⟨_, _, Tryd.underlying47, rfl, rfl, rfl⟩⟩
instance fld47_3 : Fld Tryd.prog 47 3 3 3 := ⟨⟨_, _, Tryd.underlying47, rfl, rfl, rfl⟩⟩
instance elt47 : ElT Tryd.prog 47 4 32 true (.agg #[.int .i64 0, .int .i64 0, .int .i64 0, .int .i64 0]) := ElT.mk' (by kernel_rfl) rfl (by kernel_rfl)
instance elt49 : ElT Tryd.prog 49 1 8 false (.nilFunc) := ElT.mk' (by kernel_rfl) rfl (by kernel_rfl)
instance elt50 : ElT Tryd.prog 50 1 8 false (.nilFunc) := ElT.mk' (by kernel_rfl) rfl (by kernel_rfl)
instance elt51 : ElT Tryd.prog 51 1 8 false (.nilFunc) := ElT.mk' (by kernel_rfl) rfl (by kernel_rfl)
instance fld52_0 : Fld Tryd.prog 52 0 0 22 := ⟨⟨_, _, Tryd.underlying52, rfl, rfl, rfl⟩⟩
instance fld52_1 : Fld Tryd.prog 52 1 1 22 := ⟨⟨_, _, Tryd.underlying52, rfl, rfl, rfl⟩⟩
instance fld52_2 : Fld Tryd.prog 52 2 2 3 := ⟨⟨_, _, Tryd.underlying52, rfl, rfl, rfl⟩⟩
instance fld52_3 : Fld Tryd.prog 52 3 3 9 := ⟨⟨_, _, Tryd.underlying52, rfl, rfl, rfl⟩⟩
instance elt52 : ElT Tryd.prog 52 4 72 true (.agg #[.slice none 0 0, .slice none 0 0, .int .i64 0, .string ⟨#[]⟩]) := ElT.mk' (by kernel_rfl) rfl (by kernel_rfl)
instance fld53_0 : Fld Tryd.prog 53 0 0 22 := ⟨⟨_, _, Tryd.underlying53, rfl, rfl, rfl⟩⟩
instance fld53_1 : Fld Tryd.prog 53 1 1 22 := ⟨⟨_, _, Tryd.underlying53, rfl, rfl, rfl⟩⟩
instance fld53_2 : Fld Tryd.prog 53 2 2 3 := ⟨⟨_, _, Tryd.underlying53, rfl, rfl, rfl⟩⟩
instance fld53_3 : Fld Tryd.prog 53 3 3 9 := ⟨⟨_, _, Tryd.underlying53, rfl, rfl, rfl⟩⟩
instance elt53 : ElT Tryd.prog 53 4 72 true (.agg #[.slice none 0 0, .slice none 0 0, .int .i64 0, .string ⟨#[]⟩]) := ElT.mk' (by kernel_rfl) rfl (by kernel_rfl)
instance elt54 : ElT Tryd.prog 54 1 8 false (.nilFunc) := ElT.mk' (by kernel_rfl) rfl (by kernel_rfl)
instance und55 : Und Tryd.prog 55 (.slice 22) := ⟨Tryd.underlying55⟩
instance elt55 : ElT Tryd.prog 55 1 24 false (.slice none 0 0) := ElT.mk' (by kernel_rfl) rfl (by kernel_rfl)
instance elt57 : ElT Tryd.prog 57 1 8 false (.nilFunc) := ElT.mk' (by kernel_rfl) rfl (by kernel_rfl)
instance und58 : Und Tryd.prog 58 (.pointer 63) := ⟨Tryd.underlying58⟩
instance elt58 : ElT Tryd.prog 58 1 8 false (.pointer none) := ElT.mk' (by kernel_rfl) rfl (by kernel_rfl)
instance elt59 : ElT Tryd.prog 59 1 8 false (.nilFunc) := ElT.mk' (by kernel_rfl) rfl (by kernel_rfl)
instance elt60 : ElT Tryd.prog 60 1 8 false (.nilFunc) := ElT.mk' (by kernel_rfl) rfl (by kernel_rfl)
instance und61 : Und Tryd.prog 61 (.map 9 3) := ⟨Tryd.underlying61⟩
instance elt61 : ElT Tryd.prog 61 1 8 false (.map none) := ElT.mk' (by kernel_rfl) rfl (by kernel_rfl)
instance fld62_0 : Fld Tryd.prog 62 0 0 33 := ⟨⟨_, _, Tryd.underlying62, rfl, rfl, rfl⟩⟩
instance fld62_1 : Fld Tryd.prog 62 1 1 61 := ⟨⟨_, _, Tryd.underlying62, rfl, rfl, rfl⟩⟩
instance fld62_2 : Fld Tryd.prog 62 2 2 3 := ⟨⟨_, _, Tryd.underlying62, rfl, rfl, rfl⟩⟩
instance elt62 : ElT Tryd.prog 62 3 40 true (.agg #[.slice none 0 0, .map none, .int .i64 0]) := ElT.mk' (by kernel_rfl) rfl (by kernel_rfl)
instance fld63_0 : Fld Tryd.prog 63 0 0 33 := ⟨⟨_, _, Tryd.underlying63, rfl, rfl, rfl⟩⟩
instance fld63_1 : Fld Tryd.prog 63 1 1 61 := ⟨⟨_, _, Tryd.underlying63, rfl, rfl, rfl⟩⟩
instance fld63_2 : Fld Tryd.prog 63 2 2 3 := ⟨⟨_, _, Tryd.underlying63, rfl, rfl, rfl⟩⟩
instance elt63 : ElT Tryd.prog 63 3 40 true (.agg #[.slice none 0 0, .map none, .int .i64 0]) := ElT.mk' (by kernel_rfl) rfl (by kernel_rfl)
instance und64 : Und Tryd.prog 64 (.array 8 3) := ⟨Tryd.underlying64⟩
instance elt64 : ElT Tryd.prog 64 8 64 true (.agg #[.int .i64 0, .int .i64 0, .int .i64 0, .int .i64 0, .int .i64 0, .int .i64 0, .int .i64 0, .int .i64 0]) := ElT.mk' (by kernel_rfl) rfl (by kernel_rfl)
instance elt65 : ElT Tryd.prog 65 1 8 false (.nilFunc) := ElT.mk' (by kernel_rfl) rfl (by kernel_rfl)
instance elt66 : ElT Tryd.prog 66 1 8 false (.nilFunc) := ElT.mk' (by kernel_rfl) rfl (by kernel_rfl)
instance elt67 : ElT Tryd.prog 67 1 8 false (.nilFunc) := ElT.mk' (by kernel_rfl) rfl (by kernel_rfl)
instance elt68 : ElT Tryd.prog 68 1 8 false (.nilFunc) := ElT.mk' (by kernel_rfl) rfl (by kernel_rfl)
instance elt69 : ElT Tryd.prog 69 1 8 false (.nilFunc) := ElT.mk' (by kernel_rfl) rfl (by kernel_rfl)
instance und70 : Und Tryd.prog 70 (.pointer 72) := ⟨Tryd.underlying70⟩
instance elt70 : ElT Tryd.prog 70 1 8 false (.pointer none) := ElT.mk' (by kernel_rfl) rfl (by kernel_rfl)
instance fld71_0 : Fld Tryd.prog 71 0 0 9 := ⟨⟨_, _, Tryd.underlying71, rfl, rfl, rfl⟩⟩
instance fld71_1 : Fld Tryd.prog 71 1 1 9 := ⟨⟨_, _, Tryd.underlying71, rfl, rfl, rfl⟩⟩
instance fld71_2 : Fld Tryd.prog 71 2 2 58 := ⟨⟨_, _, Tryd.underlying71, rfl, rfl, rfl⟩⟩
instance fld71_3 : Fld Tryd.prog 71 3 3 22 := ⟨⟨_, _, Tryd.underlying71, rfl, rfl, rfl⟩⟩
instance elt71 : ElT Tryd.prog 71 4 64 true (.agg #[.string ⟨#[]⟩, .string ⟨#[]⟩, .pointer none, .slice none 0 0]) := ElT.mk' (by kernel_rfl) rfl (by kernel_rfl)
instance fld72_0 : Fld Tryd.prog 72 0 0 9 := ⟨⟨_, _, Tryd.underlying72, rfl, rfl, rfl⟩⟩
instance fld72_1 : Fld Tryd.prog 72 1 1 9 := ⟨⟨_, _, Tryd.underlying72, rfl, rfl, rfl⟩⟩
instance fld72_2 : Fld Tryd.prog 72 2 2 58 := ⟨⟨_, _, Tryd.underlying72, rfl, rfl, rfl⟩⟩
instance fld72_3 : Fld Tryd.prog 72 3 3 22 := ⟨⟨_, _, Tryd.underlying72, rfl, rfl, rfl⟩⟩
instance elt72 : ElT Tryd.prog 72 4 64 true (.agg #[.string ⟨#[]⟩, .string ⟨#[]⟩, .pointer none, .slice none 0 0]) := ElT.mk' (by kernel_rfl) rfl (by kernel_rfl)
instance elt73 : ElT Tryd.prog 73 1 8 false (.nilFunc) := ElT.mk' (by kernel_rfl) rfl (by kernel_rfl)
instance elt74 : ElT Tryd.prog 74 1 8 false (.nilFunc) := ElT.mk' (by kernel_rfl) rfl (by kernel_rfl)
instance elt75 : ElT Tryd.prog 75 1 8 false (.nilFunc) := ElT.mk' (by kernel_rfl) rfl (by kernel_rfl)
instance und76 : Und Tryd.prog 76 (.map 80 3) := ⟨Tryd.underlying76⟩
instance elt76 : ElT Tryd.prog 76 1 8 false (.map none) := ElT.mk' (by kernel_rfl) rfl (by kernel_rfl)
instance und77 : Und Tryd.prog 77 (.slice 3) := ⟨Tryd.underlying77⟩
instance elt77 : ElT Tryd.prog 77 1 24 false (.slice none 0 0) := ElT.mk' (by kernel_rfl) rfl (by kernel_rfl)
instance elt78 : ElT Tryd.prog 78 1 8 false (.nilFunc) := ElT.mk' (by kernel_rfl) rfl (by kernel_rfl)
instance fld79_0 : Fld Tryd.prog 79 0 0 3 := ⟨⟨_, _, Tryd.underlying79, rfl, rfl, rfl⟩⟩
instance fld79_1 : Fld Tryd.prog 79 1 1 9 := ⟨⟨_, _, Tryd.underlying79, rfl, rfl, rfl⟩⟩
instance elt79 : ElT Tryd.prog 79 2 24 true (.agg #[.int .i64 0, .string ⟨#[]⟩]) := ElT.mk' (by kernel_rfl) rfl (by kernel_rfl)
instance fld80_0 : Fld Tryd.prog 80 0 0 3 := ⟨⟨_, _, Tryd.underlying80, rfl, rfl, rfl⟩⟩
instance fld80_1 : Fld Tryd.prog 80 1 1 9 := ⟨⟨_, _, Tryd.underlying80, rfl, rfl, rfl⟩⟩
instance elt80 : ElT Tryd.prog 80 2 24 true (.agg #[.int .i64 0, .string ⟨#[]⟩]) := ElT.mk' (by kernel_rfl) rfl (by kernel_rfl)
instance elt81 : ElT Tryd.prog 81 1 8 false (.nilFunc) := ElT.mk' (by kernel_rfl) rfl (by kernel_rfl)
instance elt82 : ElT Tryd.prog 82 1 8 false (.nilFunc) := ElT.mk' (by kernel_rfl) rfl (by kernel_rfl)
instance und83 : Und Tryd.prog 83 (.int .u64) := ⟨Tryd.underlying83⟩
instance elt83 : ElT Tryd.prog 83 1 8 false (.int .u64 0) := ElT.mk' (by kernel_rfl) rfl (by kernel_rfl)
instance elt84 : ElT Tryd.prog 84 1 8 false (.nilFunc) := ElT.mk' (by kernel_rfl) rfl (by kernel_rfl)
instance elt85 : ElT Tryd.prog 85 1 8 false (.nilFunc) := ElT.mk' (by kernel_rfl) rfl (by kernel_rfl)
instance elt86 : ElT Tryd.prog 86 1 8 false (.nilFunc) := ElT.mk' (by kernel_rfl) rfl (by kernel_rfl)
instance elt87 : ElT Tryd.prog 87 1 8 false (.nilFunc) := ElT.mk' (by kernel_rfl) rfl (by kernel_rfl)
instance elt88 : ElT Tryd.prog 88 1 8 false (.nilFunc) := ElT.mk' (by kernel_rfl) rfl (by kernel_rfl)
instance elt89 : ElT Tryd.prog 89 1 8 false (.nilFunc) := ElT.mk' (by kernel_rfl) rfl (by kernel_rfl)
instance elt90 : ElT Tryd.prog 90 1 8 false (.nilFunc) := ElT.mk' (by kernel_rfl) rfl (by kernel_rfl)
instance elt91 : ElT Tryd.prog 91 1 8 false (.nilFunc) := ElT.mk' (by kernel_rfl) rfl (by kernel_rfl)
instance und92 : Und Tryd.prog 92 (.pointer 39) := ⟨Tryd.underlying92⟩
instance elt92 : ElT Tryd.prog 92 1 8 false (.pointer none) := ElT.mk' (by kernel_rfl) rfl (by kernel_rfl)
instance elt93 : ElT Tryd.prog 93 1 8 false (.nilFunc) := ElT.mk' (by kernel_rfl) rfl (by kernel_rfl)
instance elt94 : ElT Tryd.prog 94 1 8 false (.nilFunc) := ElT.mk' (by kernel_rfl) rfl (by kernel_rfl)
instance elt95 : ElT Tryd.prog 95 1 8 false (.nilFunc) := ElT.mk' (by kernel_rfl) rfl (by kernel_rfl)
instance elt97 : ElT Tryd.prog 97 1 8 false (.nilFunc) := ElT.mk' (by kernel_rfl) rfl (by kernel_rfl)
instance elt99 : ElT Tryd.prog 99 1 8 false (.nilFunc) := ElT.mk' (by kernel_rfl) rfl (by kernel_rfl)
instance elt100 : ElT Tryd.prog 100 1 8 false (.nilFunc) := ElT.mk' (by kernel_rfl) rfl (by kernel_rfl)
instance elt101 : ElT Tryd.prog 101 1 8 false (.nilFunc) := ElT.mk' (by kernel_rfl) rfl (by kernel_rfl)
instance elt102 : ElT Tryd.prog 102 1 8 false (.nilFunc) := ElT.mk' (by kernel_rfl) rfl (by kernel_rfl)
instance elt106 : ElT Tryd.prog 106 1 8 false (.nilFunc) := ElT.mk' (by kernel_rfl) rfl (by kernel_rfl)
instance elt107 : ElT Tryd.prog 107 1 8 false (.nilFunc) := ElT.mk' (by kernel_rfl) rfl (by kernel_rfl)
instance und108 : Und Tryd.prog 108 (.pointer 104) := ⟨Tryd.underlying108⟩
instance elt108 : ElT Tryd.prog 108 1 8 false (.pointer none) := ElT.mk' (by kernel_rfl) rfl (by kernel_rfl)
instance elt109 : ElT Tryd.prog 109 1 8 false (.nilFunc) := ElT.mk' (by kernel_rfl) rfl (by kernel_rfl)
instance elt110 : ElT Tryd.prog 110 1 8 false (.nilFunc) := ElT.mk' (by kernel_rfl) rfl (by kernel_rfl)
instance elt112 : ElT Tryd.prog 112 1 8 false (.nilFunc) := ElT.mk' (by kernel_rfl) rfl (by kernel_rfl)
instance fld114_0 : Fld Tryd.prog 114 0 0 5 := ⟨⟨_, _, Tryd.underlying114, rfl, rfl, rfl⟩⟩
instance fld114_1 : Fld Tryd.prog 114 1 1 5 := ⟨⟨_, _, Tryd.underlying114, rfl, rfl, rfl⟩⟩
instance elt114 : ElT Tryd.prog 114 2 2 true (.agg #[.int .u8 0, .int .u8 0]) := ElT.mk' (by kernel_rfl) rfl (by kernel_rfl)
instance fld115_0 : Fld Tryd.prog 115 0 0 5 := ⟨⟨_, _, Tryd.underlying115, rfl, rfl, rfl⟩⟩
instance fld115_1 : Fld Tryd.prog 115 1 1 5 := ⟨⟨_, _, Tryd.underlying115, rfl, rfl, rfl⟩⟩
instance elt115 : ElT Tryd.prog 115 2 2 true (.agg #[.int .u8 0, .int .u8 0]) := ElT.mk' (by kernel_rfl) rfl (by kernel_rfl)
instance und116 : Und Tryd.prog 116 (.array 16 115) := ⟨Tryd.underlying116⟩
instance elt116 : ElT Tryd.prog 116 32 32 true (.agg #[.int .u8 0, .int .u8 0, .int .u8 0, .int .u8 0, .int .u8 0, .int .u8 0, .int .u8 0, .int .u8 0, .int .u8 0, .int .u8 0, .int .u8 0, .int .u8 0, .int .u8 0, .int .u8 0, .int .u8 0, .int .u8 0, .int .u8 0, .int .u8 0, .int .u8 0, .int .u8 0, .int .u8 0, .int .u8 0, .int .u8 0, .int .u8 0, .int .u8 0, .int .u8 0, .int .u8 0, .int .u8 0, .int .u8 0, .int .u8 0, .int .u8 0, .int .u8 0]) := ElT.mk' (by kernel_rfl) rfl (by kernel_rfl)
instance und117 : Und Tryd.prog 117 (.int .u32) := ⟨Tryd.underlying117⟩
instance elt117 : ElT Tryd.prog 117 1 4 false (.int .u32 0) := ElT.mk' (by kernel_rfl) rfl (by kernel_rfl)
instance elt119 : ElT Tryd.prog 119 1 8 false (.nilFunc) := ElT.mk' (by kernel_rfl) rfl (by kernel_rfl)
instance elt120 : ElT Tryd.prog 120 1 8 false (.nilFunc) := ElT.mk' (by kernel_rfl) rfl (by kernel_rfl)
instance fld121_0 : Fld Tryd.prog 121 0 0 17 := ⟨⟨_, _, Tryd.underlying121, rfl, rfl, rfl⟩⟩
instance fld121_1 : Fld Tryd.prog 121 1 1 17 := ⟨⟨_, _, Tryd.underlying121, rfl, rfl, rfl⟩⟩
instance fld121_2 : Fld Tryd.prog 121 2 2 17 := ⟨⟨_, _, Tryd.underlying121, rfl, rfl, rfl⟩⟩
instance fld121_3 : Fld Tryd.prog 121 3 3 9 := ⟨⟨_, _, Tryd.underlying121, rfl, rfl, rfl⟩⟩
instance elt121 : ElT Tryd.prog 121 4 40 true (.agg #[.pointer none, .pointer none, .pointer none, .string ⟨#[]⟩]) := ElT.mk' (by kernel_rfl) rfl (by kernel_rfl)
instance fld122_0 : Fld Tryd.prog 122 0 0 17 := ⟨⟨_, _, Tryd.underlying122, rfl, rfl, rfl⟩⟩
instance fld122_1 : Fld Tryd.prog 122 1 1 17 := ⟨⟨_, _, Tryd.underlying122, rfl, rfl, rfl⟩⟩
instance fld122_2 : Fld Tryd.prog 122 2 2 17 := ⟨⟨_, _, Tryd.underlying122, rfl, rfl, rfl⟩⟩
instance fld122_3 : Fld Tryd.prog 122 3 3 9 := ⟨⟨_, _, Tryd.underlying122, rfl, rfl, rfl⟩⟩
instance elt122 : ElT Tryd.prog 122 4 40 true (.agg #[.pointer none, .pointer none, .pointer none, .string ⟨#[]⟩]) := ElT.mk' (by kernel_rfl) rfl (by kernel_rfl)
instance und123 : Und Tryd.prog 123 (.array 0 16) := ⟨Tryd.underlying123⟩
instance elt123 : ElT Tryd.prog 123 0 0 true (.agg #[]) := ElT.mk' (by kernel_rfl) rfl (by kernel_rfl)
instance fld124_0 : Fld Tryd.prog 124 0 0 123 := ⟨⟨_, _, Tryd.underlying124, rfl, rfl, rfl⟩⟩
instance elt124 : ElT Tryd.prog 124 0 0 true (.agg #[]) := ElT.mk' (by kernel_rfl) rfl (by kernel_rfl)
instance fld125_0 : Fld Tryd.prog 125 0 0 123 := ⟨⟨_, _, Tryd.underlying125, rfl, rfl, rfl⟩⟩
instance elt125 : ElT Tryd.prog 125 0 0 true (.agg #[]) := ElT.mk' (by kernel_rfl) rfl (by kernel_rfl)
instance elt126 : ElT Tryd.prog 126 1 8 false (.nilFunc) := ElT.mk' (by kernel_rfl) rfl (by kernel_rfl)
instance und127 : Und Tryd.prog 127 (.int .u8) := ⟨Tryd.underlying127⟩
instance elt127 : ElT Tryd.prog 127 1 1 false (.int .u8 0) := ElT.mk' (by kernel_rfl) rfl (by kernel_rfl)
instance und128 : Und Tryd.prog 128 (.int .u8) := ⟨Tryd.underlying128⟩
instance elt128 : ElT Tryd.prog 128 1 1 false (.int .u8 0) := ElT.mk' (by kernel_rfl) rfl (by kernel_rfl)
instance elt129 : ElT Tryd.prog 129 1 8 false (.nilFunc) := ElT.mk' (by kernel_rfl) rfl (by kernel_rfl)
instance und130 : Und Tryd.prog 130 (.pointer 5) := ⟨Tryd.underlying130⟩
instance elt130 : ElT Tryd.prog 130 1 8 false (.pointer none) := ElT.mk' (by kernel_rfl) rfl (by kernel_rfl)
instance und131 : Und Tryd.prog 131 (.int .i32) := ⟨Tryd.underlying131⟩
instance elt131 : ElT Tryd.prog 131 1 4 false (.int .i32 0) := ElT.mk' (by kernel_rfl) rfl (by kernel_rfl)
instance und132 : Und Tryd.prog 132 (.int .i32) := ⟨Tryd.underlying132⟩
instance elt132 : ElT Tryd.prog 132 1 4 false (.int .i32 0) := ElT.mk' (by kernel_rfl) rfl (by kernel_rfl)
instance fld133_0 : Fld Tryd.prog 133 0 0 12 := ⟨⟨_, _, Tryd.underlying133, rfl, rfl, rfl⟩⟩
instance fld133_1 : Fld Tryd.prog 133 1 1 12 := ⟨⟨_, _, Tryd.underlying133, rfl, rfl, rfl⟩⟩
instance fld133_2 : Fld Tryd.prog 133 2 2 117 := ⟨⟨_, _, Tryd.underlying133, rfl, rfl, rfl⟩⟩
instance fld133_3 : Fld Tryd.prog 133 3 3 127 := ⟨⟨_, _, Tryd.underlying133, rfl, rfl, rfl⟩⟩
instance fld133_4 : Fld Tryd.prog 133 4 4 5 := ⟨⟨_, _, Tryd.underlying133, rfl, rfl, rfl⟩⟩
instance fld133_5 : Fld Tryd.prog 133 5 5 5 := ⟨⟨_, _, Tryd.underlying133, rfl, rfl, rfl⟩⟩
instance fld133_6 : Fld Tryd.prog 133 6 6 128 := ⟨⟨_, _, Tryd.underlying133, rfl, rfl, rfl⟩⟩
instance fld133_7 : Fld Tryd.prog 133 7 7 129 := ⟨⟨_, _, Tryd.underlying133, rfl, rfl, rfl⟩⟩
instance fld133_8 : Fld Tryd.prog 133 8 8 130 := ⟨⟨_, _, Tryd.underlying133, rfl, rfl, rfl⟩⟩
instance fld133_9 : Fld Tryd.prog 133 9 9 131 := ⟨⟨_, _, Tryd.underlying133, rfl, rfl, rfl⟩⟩
instance fld133_10 : Fld Tryd.prog 133 10 10 132 := ⟨⟨_, _, Tryd.underlying133, rfl, rfl, rfl⟩⟩
instance elt133 : ElT Tryd.prog 133 11 48 true (.agg #[.int .u64 0, .int .u64 0, .int .u32 0, .int .u8 0, .int .u8 0, .int .u8 0, .int .u8 0, .nilFunc, .pointer none, .int .i32 0, .int .i32 0]) := ElT.mk' (by kernel_rfl) rfl (by kernel_rfl)
instance fld134_0 : Fld Tryd.prog 134 0 0 12 := ⟨⟨_, _, Tryd.underlying134, rfl, rfl, rfl⟩⟩
instance fld134_1 : Fld Tryd.prog 134 1 1 12 := ⟨⟨_, _, Tryd.underlying134, rfl, rfl, rfl⟩⟩
instance fld134_2 : Fld Tryd.prog 134 2 2 117 := ⟨⟨_, _, Tryd.underlying134, rfl, rfl, rfl⟩⟩
instance fld134_3 : Fld Tryd.prog 134 3 3 127 := ⟨⟨_, _, Tryd.underlying134, rfl, rfl, rfl⟩⟩
instance fld134_4 : Fld Tryd.prog 134 4 4 5 := ⟨⟨_, _, Tryd.underlying134, rfl, rfl, rfl⟩⟩
instance fld134_5 : Fld Tryd.prog 134 5 5 5 := ⟨⟨_, _, Tryd.underlying134, rfl, rfl, rfl⟩⟩
instance fld134_6 : Fld Tryd.prog 134 6 6 128 := ⟨⟨_, _, Tryd.underlying134, rfl, rfl, rfl⟩⟩
instance fld134_7 : Fld Tryd.prog 134 7 7 129 := ⟨⟨_, _, Tryd.underlying134, rfl, rfl, rfl⟩⟩
instance fld134_8 : Fld Tryd.prog 134 8 8 130 := ⟨⟨_, _, Tryd.underlying134, rfl, rfl, rfl⟩⟩
instance fld134_9 : Fld Tryd.prog 134 9 9 131 := ⟨⟨_, _, Tryd.underlying134, rfl, rfl, rfl⟩⟩
instance fld134_10 : Fld Tryd.prog 134 10 10 132 := ⟨⟨_, _, Tryd.underlying134, rfl, rfl, rfl⟩⟩
instance elt134 : ElT Tryd.prog 134 11 48 true (.agg #[.int .u64 0, .int .u64 0, .int .u32 0, .int .u8 0, .int .u8 0, .int .u8 0, .int .u8 0, .nilFunc, .pointer none, .int .i32 0, .int .i32 0]) := ElT.mk' (by kernel_rfl) rfl (by kernel_rfl)
instance und135 : Und Tryd.prog 135 .unsafePointer := ⟨Tryd.underlying135⟩
instance elt135 : ElT Tryd.prog 135 1 8 false (.pointer none) := ElT.mk' (by kernel_rfl) rfl (by kernel_rfl)
instance cal2 : Callable Tryd.prog 2 := ⟨⟨_, Tryd.func2, by kernel_rfl, rfl⟩⟩
instance cal3 : Callable Tryd.prog 3 := ⟨⟨_, Tryd.func3, by kernel_rfl, rfl⟩⟩
instance cal4 : Callable Tryd.prog 4 := ⟨⟨_, Tryd.func4, by kernel_rfl, rfl⟩⟩
instance cal5 : Callable Tryd.prog 5 := ⟨⟨_, Tryd.func5, by kernel_rfl, rfl⟩⟩
instance cal6 : Callable Tryd.prog 6 := ⟨⟨_, Tryd.func6, by kernel_rfl, rfl⟩⟩
instance cal7 : Callable Tryd.prog 7 := ⟨⟨_, Tryd.func7, by kernel_rfl, rfl⟩⟩
instance cal8 : Callable Tryd.prog 8 := ⟨⟨_, Tryd.func8, by kernel_rfl, rfl⟩⟩
instance cal9 : Callable Tryd.prog 9 := ⟨⟨_, Tryd.func9, by kernel_rfl, rfl⟩⟩
instance cal10 : Callable Tryd.prog 10 := ⟨⟨_, Tryd.func10, by kernel_rfl, rfl⟩⟩
instance cal11 : Callable Tryd.prog 11 := ⟨⟨_, Tryd.func11, by kernel_rfl, rfl⟩⟩
instance cal12 : Callable Tryd.prog 12 := ⟨⟨_, Tryd.func12, by kernel_rfl, rfl⟩⟩
instance cal13 : Callable Tryd.prog 13 := ⟨⟨_, Tryd.func13, by kernel_rfl, rfl⟩⟩
instance cal14 : Callable Tryd.prog 14 := ⟨⟨_, Tryd.func14, by kernel_rfl, rfl⟩⟩
instance cal15 : Callable Tryd.prog 15 := ⟨⟨_, Tryd.func15, by kernel_rfl, rfl⟩⟩
instance cal16 : Callable Tryd.prog 16 := ⟨⟨_, Tryd.func16, by kernel_rfl, rfl⟩⟩
instance cal17 : Callable Tryd.prog 17 := ⟨⟨_, Tryd.func17, by kernel_rfl, rfl⟩⟩
instance cal18 : Callable Tryd.prog 18 := ⟨⟨_, Tryd.func18, by kernel_rfl, rfl⟩⟩
instance cal19 : Callable Tryd.prog 19 := ⟨⟨_, Tryd.func19, by kernel_rfl, rfl⟩⟩
instance cal20 : Callable Tryd.prog 20 := ⟨⟨_, Tryd.func20, by kernel_rfl, rfl⟩⟩
instance cal21 : Callable Tryd.prog 21 := ⟨⟨_, Tryd.func21, by kernel_rfl, rfl⟩⟩
instance cal22 : Callable Tryd.prog 22 := ⟨⟨_, Tryd.func22, by kernel_rfl, rfl⟩⟩
instance cal23 : Callable Tryd.prog 23 := ⟨⟨_, Tryd.func23, by kernel_rfl, rfl⟩⟩
instance cal24 : Callable Tryd.prog 24 := ⟨⟨_, Tryd.func24, by kernel_rfl, rfl⟩⟩
instance cal25 : Callable Tryd.prog 25 := ⟨⟨_, Tryd.func25, by kernel_rfl, rfl⟩⟩
instance cal26 : Callable Tryd.prog 26 := ⟨⟨_, Tryd.func26, by kernel_rfl, rfl⟩⟩
instance cal27 : Callable Tryd.prog 27 := ⟨⟨_, Tryd.func27, by kernel_rfl, rfl⟩⟩
instance cal28 : Callable Tryd.prog 28 := ⟨⟨_, Tryd.func28, by kernel_rfl, rfl⟩⟩
instance cal29 : Callable Tryd.prog 29 := ⟨⟨_, Tryd.func29, by kernel_rfl, rfl⟩⟩
instance cal30 : Callable Tryd.prog 30 := ⟨⟨_, Tryd.func30, by kernel_rfl, rfl⟩⟩
instance cal31 : Callable Tryd.prog 31 := ⟨⟨_, Tryd.func31, by kernel_rfl, rfl⟩⟩
instance cal32 : Callable Tryd.prog 32 := ⟨⟨_, Tryd.func32, by kernel_rfl, rfl⟩⟩
instance cal33 : Callable Tryd.prog 33 := ⟨⟨_, Tryd.func33, by kernel_rfl, rfl⟩⟩
instance cal34 : Callable Tryd.prog 34 := ⟨⟨_, Tryd.func34, by kernel_rfl, rfl⟩⟩
instance cal35 : Callable Tryd.prog 35 := ⟨⟨_, Tryd.func35, by kernel_rfl, rfl⟩⟩
instance cal36 : Callable Tryd.prog 36 := ⟨⟨_, Tryd.func36, by kernel_rfl, rfl⟩⟩
instance cal37 : Callable Tryd.prog 37 := ⟨⟨_, Tryd.func37, by kernel_rfl, rfl⟩⟩
instance cal38 : Callable Tryd.prog 38 := ⟨⟨_, Tryd.func38, by kernel_rfl, rfl⟩⟩
instance cal39 : Callable Tryd.prog 39 := ⟨⟨_, Tryd.func39, by kernel_rfl, rfl⟩⟩
instance cal40 : Callable Tryd.prog 40 := ⟨⟨_, Tryd.func40, by kernel_rfl, rfl⟩⟩
instance cal41 : Callable Tryd.prog 41 := ⟨⟨_, Tryd.func41, by kernel_rfl, rfl⟩⟩
instance cal42 : Callable Tryd.prog 42 := ⟨⟨_, Tryd.func42, by kernel_rfl, rfl⟩⟩
instance cal43 : Callable Tryd.prog 43 := ⟨⟨_, Tryd.func43, by kernel_rfl, rfl⟩⟩
instance cal44 : Callable Tryd.prog 44 := ⟨⟨_, Tryd.func44, by kernel_rfl, rfl⟩⟩
instance cal45 : Callable Tryd.prog 45 := ⟨⟨_, Tryd.func45, by kernel_rfl, rfl⟩⟩
instance cal46 : Callable Tryd.prog 46 := ⟨⟨_, Tryd.func46, by kernel_rfl, rfl⟩⟩
instance cal47 : Callable Tryd.prog 47 := ⟨⟨_, Tryd.func47, by kernel_rfl, rfl⟩⟩
instance cal48 : Callable Tryd.prog 48 := ⟨⟨_, Tryd.func48, by kernel_rfl, rfl⟩⟩
instance cal49 : Callable Tryd.prog 49 := ⟨⟨_, Tryd.func49, by kernel_rfl, rfl⟩⟩
instance cal50 : Callable Tryd.prog 50 := ⟨⟨_, Tryd.func50, by kernel_rfl, rfl⟩⟩
instance cal51 : Callable Tryd.prog 51 := ⟨⟨_, Tryd.func51, by kernel_rfl, rfl⟩⟩
instance cal52 : Callable Tryd.prog 52 := ⟨⟨_, Tryd.func52, by kernel_rfl, rfl⟩⟩
instance cal53 : Callable Tryd.prog 53 := ⟨⟨_, Tryd.func53, by kernel_rfl, rfl⟩⟩
instance cal54 : Callable Tryd.prog 54 := ⟨⟨_, Tryd.func54, by kernel_rfl, rfl⟩⟩
instance cal55 : Callable Tryd.prog 55 := ⟨⟨_, Tryd.func55, by kernel_rfl, rfl⟩⟩
instance cal56 : Callable Tryd.prog 56 := ⟨⟨_, Tryd.func56, by kernel_rfl, rfl⟩⟩
instance cal57 : Callable Tryd.prog 57 := ⟨⟨_, Tryd.func57, by kernel_rfl, rfl⟩⟩
instance cal58 : Callable Tryd.prog 58 := ⟨⟨_, Tryd.func58, by kernel_rfl, rfl⟩⟩
instance cal59 : Callable Tryd.prog 59 := ⟨⟨_, Tryd.func59, by kernel_rfl, rfl⟩⟩
instance cal60 : Callable Tryd.prog 60 := ⟨⟨_, Tryd.func60, by kernel_rfl, rfl⟩⟩
instance cal61 : Callable Tryd.prog 61 := ⟨⟨_, Tryd.func61, by kernel_rfl, rfl⟩⟩
instance cal62 : Callable Tryd.prog 62 := ⟨⟨_, Tryd.func62, by kernel_rfl, rfl⟩⟩
instance cal63 : Callable Tryd.prog 63 := ⟨⟨_, Tryd.func63, by kernel_rfl, rfl⟩⟩
instance cal64 : Callable Tryd.prog 64 := ⟨⟨_, Tryd.func64, by kernel_rfl, rfl⟩⟩
instance cal65 : Callable Tryd.prog 65 := ⟨⟨_, Tryd.func65, by kernel_rfl, rfl⟩⟩
instance cal67 : Callable Tryd.prog 67 := ⟨⟨_, Tryd.func67, by kernel_rfl, rfl⟩⟩
instance cal68 : Callable Tryd.prog 68 := ⟨⟨_, Tryd.func68, by kernel_rfl, rfl⟩⟩
instance cal69 : Callable Tryd.prog 69 := ⟨⟨_, Tryd.func69, by kernel_rfl, rfl⟩⟩
instance cal70 : Callable Tryd.prog 70 := ⟨⟨_, Tryd.func70, by kernel_rfl, rfl⟩⟩
instance cal71 : Callable Tryd.prog 71 := ⟨⟨_, Tryd.func71, by kernel_rfl, rfl⟩⟩
instance cal72 : Callable Tryd.prog 72 := ⟨⟨_, Tryd.func72, by kernel_rfl, rfl⟩⟩
instance cal73 : Callable Tryd.prog 73 := ⟨⟨_, Tryd.func73, by kernel_rfl, rfl⟩⟩
instance cal74 : Callable Tryd.prog 74 := ⟨⟨_, Tryd.func74, by kernel_rfl, rfl⟩⟩
instance cal75 : Callable Tryd.prog 75 := ⟨⟨_, Tryd.func75, by kernel_rfl, rfl⟩⟩
instance cal76 : Callable Tryd.prog 76 := ⟨⟨_, Tryd.func76, by kernel_rfl, rfl⟩⟩
instance cal78 : Callable Tryd.prog 78 := ⟨⟨_, Tryd.func78, by kernel_rfl, rfl⟩⟩
instance cal79 : Callable Tryd.prog 79 := ⟨⟨_, Tryd.func79, by kernel_rfl, rfl⟩⟩
instance cal80 : Callable Tryd.prog 80 := ⟨⟨_, Tryd.func80, by kernel_rfl, rfl⟩⟩
instance cal81 : Callable Tryd.prog 81 := ⟨⟨_, Tryd.func81, by kernel_rfl, rfl⟩⟩
instance cal82 : Callable Tryd.prog 82 := ⟨⟨_, Tryd.func82, by kernel_rfl, rfl⟩⟩
instance cal83 : Callable Tryd.prog 83 := ⟨⟨_, Tryd.func83, by kernel_rfl, rfl⟩⟩
instance cal84 : Callable Tryd.prog 84 := ⟨⟨_, Tryd.func84, by kernel_rfl, rfl⟩⟩
instance cal85 : Callable Tryd.prog 85 := ⟨⟨_, Tryd.func85, by kernel_rfl, rfl⟩⟩
instance cal107 : Callable Tryd.prog 107 := ⟨⟨_, Tryd.func107, by kernel_rfl, rfl⟩⟩
instance flat7 : Flat Tryd.prog 7 4 := ⟨⟨_, Tryd.underlying7, rfl, by kernel_rfl⟩⟩
instance flat8 : Flat Tryd.prog 8 4 := ⟨⟨_, Tryd.underlying8, rfl, by kernel_rfl⟩⟩
instance flat13 : Flat Tryd.prog 13 2 := ⟨⟨_, Tryd.underlying13, rfl, by kernel_rfl⟩⟩
instance flat14 : Flat Tryd.prog 14 2 := ⟨⟨_, Tryd.underlying14, rfl, by kernel_rfl⟩⟩
instance flat18 : Flat Tryd.prog 18 1 := ⟨⟨_, Tryd.underlying18, rfl, by kernel_rfl⟩⟩
instance flat19 : Flat Tryd.prog 19 1 := ⟨⟨_, Tryd.underlying19, rfl, by kernel_rfl⟩⟩
instance flat38 : Flat Tryd.prog 38 3 := ⟨⟨_, Tryd.underlying38, rfl, by kernel_rfl⟩⟩
instance flat39 : Flat Tryd.prog 39 3 := ⟨⟨_, Tryd.underlying39, rfl, by kernel_rfl⟩⟩
instance flat40 : Flat Tryd.prog 40 2 := ⟨⟨_, Tryd.underlying40, rfl, by kernel_rfl⟩⟩
instance flat41 : Flat Tryd.prog 41 2 := ⟨⟨_, Tryd.underlying41, rfl, by kernel_rfl⟩⟩
instance flat43 : Flat Tryd.prog 43 4 := ⟨⟨_, Tryd.underlying43, rfl, by kernel_rfl⟩⟩
instance flat44 : Flat Tryd.prog 44 4 := ⟨⟨_, Tryd.underlying44, rfl, by kernel_rfl⟩⟩
instance flat47 : Flat Tryd.prog 47 4 := ⟨⟨_, Tryd.underlying47, rfl, by kernel_rfl⟩⟩
instance flat52 : Flat Tryd.prog 52 4 := ⟨⟨_, Tryd.underlying52, rfl, by kernel_rfl⟩⟩
instance flat53 : Flat Tryd.prog 53 4 := ⟨⟨_, Tryd.underlying53, rfl, by kernel_rfl⟩⟩
instance flat62 : Flat Tryd.prog 62 3 := ⟨⟨_, Tryd.underlying62, rfl, by kernel_rfl⟩⟩
instance flat63 : Flat Tryd.prog 63 3 := ⟨⟨_, Tryd.underlying63, rfl, by kernel_rfl⟩⟩
instance flat71 : Flat Tryd.prog 71 4 := ⟨⟨_, Tryd.underlying71, rfl, by kernel_rfl⟩⟩
instance flat72 : Flat Tryd.prog 72 4 := ⟨⟨_, Tryd.underlying72, rfl, by kernel_rfl⟩⟩
instance flat79 : Flat Tryd.prog 79 2 := ⟨⟨_, Tryd.underlying79, rfl, by kernel_rfl⟩⟩
instance flat80 : Flat Tryd.prog 80 2 := ⟨⟨_, Tryd.underlying80, rfl, by kernel_rfl⟩⟩
instance flat114 : Flat Tryd.prog 114 2 := ⟨⟨_, Tryd.underlying114, rfl, by kernel_rfl⟩⟩
instance flat115 : Flat Tryd.prog 115 2 := ⟨⟨_, Tryd.underlying115, rfl, by kernel_rfl⟩⟩
instance flat121 : Flat Tryd.prog 121 4 := ⟨⟨_, Tryd.underlying121, rfl, by kernel_rfl⟩⟩
instance flat122 : Flat Tryd.prog 122 4 := ⟨⟨_, Tryd.underlying122, rfl, by kernel_rfl⟩⟩
instance flat133 : Flat Tryd.prog 133 11 := ⟨⟨_, Tryd.underlying133, rfl, by kernel_rfl⟩⟩
instance flat134 : Flat Tryd.prog 134 11 := ⟨⟨_, Tryd.underlying134, rfl, by kernel_rfl⟩⟩
end Go.Proofs.YtlkhajheecglgaaDoor

namespace Go.Proofs
open Go.Shelf
def Tryd.lays231_ren : Go.Shelf.Ren := ⟨fun | 231 => 67 | n => n, fun | 9 => 9 | 5 => 5 | 3 => 3 | 4 => 4 | n => n, fun | n => n⟩
theorem Tryd.lays231 : Go.Proofs.Lays.n231 Tryd.prog Tryd.lays231_ren := {
  mixed := by kernel_rfl
  f231 := Tryd.func67.trans (congrArg some (by kernel_rfl))
  t3 := Tryd.underlying3
  a3 := Tryd.isAgg3
  z3 := Tryd.sizeOf3
  v3 := Tryd.zeroValue3
  t4 := Tryd.underlying4
  a4 := Tryd.isAgg4
  z4 := Tryd.sizeOf4
  v4 := Tryd.zeroValue4
  t5 := Tryd.underlying5
  a5 := Tryd.isAgg5
  z5 := Tryd.sizeOf5
  v5 := Tryd.zeroValue5
  t9 := Tryd.underlying9
  a9 := Tryd.isAgg9
  z9 := Tryd.sizeOf9
  v9 := Tryd.zeroValue9 }
open Go.RowKit in
theorem Tryd.strings_trimLeftByte (s : ByteArray) (c : UInt8) (w : World) :
    Calls Tryd.prog 67 #[.string s, .int .u8 c.toNat] w fun e w' => e = .returned (.string ⟨(Lib.trimLeftB s.data.toList c).toArray⟩) ∧ w' = w := Any.strings_trimLeftByte Tryd.lays231 s c w
def Tryd.lays232_ren : Go.Shelf.Ren := ⟨fun | 232 => 68 | n => n, fun | 9 => 9 | 5 => 5 | 3 => 3 | 4 => 4 | n => n, fun | n => n⟩
theorem Tryd.lays232 : Go.Proofs.Lays.n232 Tryd.prog Tryd.lays232_ren := {
  mixed := by kernel_rfl
  f232 := Tryd.func68.trans (congrArg some (by kernel_rfl))
  t3 := Tryd.underlying3
  a3 := Tryd.isAgg3
  z3 := Tryd.sizeOf3
  v3 := Tryd.zeroValue3
  t4 := Tryd.underlying4
  a4 := Tryd.isAgg4
  z4 := Tryd.sizeOf4
  v4 := Tryd.zeroValue4
  t5 := Tryd.underlying5
  a5 := Tryd.isAgg5
  z5 := Tryd.sizeOf5
  v5 := Tryd.zeroValue5
  t9 := Tryd.underlying9
  a9 := Tryd.isAgg9
  z9 := Tryd.sizeOf9
  v9 := Tryd.zeroValue9 }
open Go.RowKit in
theorem Tryd.strings_trimRightByte (s : ByteArray) (c : UInt8) (w : World) (hs : s.size ≤ 9223372036854775807) :
    Calls Tryd.prog 68 #[.string s, .int .u8 c.toNat] w fun e w' => e = .returned (.string ⟨(Lib.trimRightB s.data.toList c).toArray⟩) ∧ w' = w := Any.strings_trimRightByte Tryd.lays232 s c w hs
def Tryd.lays160_ren : Go.Shelf.Ren := ⟨fun | 160 => 62 | 232 => 68 | 231 => 67 | 227 => 69 | 234 => 71 | 233 => 70 | 236 => 73 | 235 => 72 | 228 => 78 | 271 => 80 | 151 => 59 | 197 => 79 | 120 => 83 | 152 => 64 | 260 => 82 | 137 => 55 | 119 => 75 | 224 => 76 | 225 => 77 | 217 => 61 | 266 => 66 | n => n, fun | 9 => 9 | 4 => 4 | 3 => 3 | 5 => 5 | 117 => 105 | 116 => 104 | 0 => 0 | 124 => 108 | 21 => 21 | 105 => 111 | 46 => 83 | 119 => 113 | 139 => 116 | 138 => 115 | n => n, fun | 3 => 1 | 4 => 2 | n => n⟩
theorem Tryd.lays160 : Go.Proofs.Lays.n160 Tryd.prog Tryd.lays160_ren := {
  mixed := by kernel_rfl
  f119 := Tryd.func75.trans (congrArg some (by kernel_rfl))
  f120 := Tryd.func83.trans (congrArg some (by kernel_rfl))
  f137 := Tryd.func55.trans (congrArg some (by kernel_rfl))
  f151 := Tryd.func59.trans (congrArg some (by kernel_rfl))
  f152 := Tryd.func64.trans (congrArg some (by kernel_rfl))
  f160 := Tryd.func62.trans (congrArg some (by kernel_rfl))
  f197 := Tryd.func79.trans (congrArg some (by kernel_rfl))
  f217 := Tryd.func61.trans (congrArg some (by kernel_rfl))
  f224 := Tryd.func76.trans (congrArg some (by kernel_rfl))
  f225 := Tryd.func77.trans (congrArg some (by kernel_rfl))
  f227 := Tryd.func69.trans (congrArg some (by kernel_rfl))
  f228 := Tryd.func78.trans (congrArg some (by kernel_rfl))
  f231 := Tryd.func67.trans (congrArg some (by kernel_rfl))
  f232 := Tryd.func68.trans (congrArg some (by kernel_rfl))
  f233 := Tryd.func70.trans (congrArg some (by kernel_rfl))
  f234 := Tryd.func71.trans (congrArg some (by kernel_rfl))
  f235 := Tryd.func72.trans (congrArg some (by kernel_rfl))
  f236 := Tryd.func73.trans (congrArg some (by kernel_rfl))
  f260 := Tryd.func82.trans (congrArg some (by kernel_rfl))
  f266 := Tryd.func66.trans (congrArg some (by kernel_rfl))
  f271 := Tryd.func80.trans (congrArg some (by kernel_rfl))
  t0 := Tryd.underlying0
  a0 := Tryd.isAgg0
  z0 := Tryd.sizeOf0
  v0 := Tryd.zeroValue0
  t3 := Tryd.underlying3
  a3 := Tryd.isAgg3
  z3 := Tryd.sizeOf3
  v3 := Tryd.zeroValue3
  t4 := Tryd.underlying4
  a4 := Tryd.isAgg4
  z4 := Tryd.sizeOf4
  v4 := Tryd.zeroValue4
  t5 := Tryd.underlying5
  a5 := Tryd.isAgg5
  z5 := Tryd.sizeOf5
  v5 := Tryd.zeroValue5
  t9 := Tryd.underlying9
  a9 := Tryd.isAgg9
  z9 := Tryd.sizeOf9
  v9 := Tryd.zeroValue9
  t21 := Tryd.underlying21
  a21 := Tryd.isAgg21
  z21 := Tryd.sizeOf21
  v21 := Tryd.zeroValue21
  t46 := Tryd.underlying83
  a46 := Tryd.isAgg83
  z46 := Tryd.sizeOf83
  v46 := Tryd.zeroValue83
  t105 := Tryd.underlying111
  a105 := Tryd.isAgg111
  z105 := Tryd.sizeOf111
  v105 := Tryd.zeroValue111
  t116 := Tryd.underlying104
  a116 := Tryd.isAgg104
  z116 := Tryd.sizeOf104
  t117 := Tryd.underlying105
  a117 := Tryd.isAgg105
  z117 := Tryd.sizeOf105
  v117 := Tryd.zeroValue105
  t119 := Tryd.underlying113
  a119 := Tryd.isAgg113
  z119 := Tryd.sizeOf113
  t124 := Tryd.underlying108
  a124 := Tryd.isAgg108
  z124 := Tryd.sizeOf108
  v124 := Tryd.zeroValue108
  t138 := Tryd.underlying115
  a138 := Tryd.isAgg115
  z138 := Tryd.sizeOf115
  v138 := Tryd.zeroValue115
  t139 := Tryd.underlying116
  a139 := Tryd.isAgg116
  z139 := Tryd.sizeOf116
  v139 := Tryd.zeroValue116
  g3 := by kernel_rfl
  g4 := by kernel_rfl }
open Go.RowKit in
theorem Tryd.strings_Trim_one (s : ByteArray) (c : UInt8) (hc : c.toNat < 128) (w : World) (hs : s.size ≤ 9223372036854775807) :
    Calls Tryd.prog 62 #[.string s, .string ⟨#[c]⟩] w fun e w' => e = .returned (.string ⟨(Lib.trimB s.data.toList c).toArray⟩) ∧ (w' = w ∨ w' = w.drew) := Any.strings_Trim_one Tryd.lays160 s c hc w hs
def Tryd.lays119_ren : Go.Shelf.Ren := ⟨fun | 119 => 75 | n => n, fun | 21 => 21 | 4 => 4 | n => n, fun | n => n⟩
theorem Tryd.lays119 : Go.Proofs.Lays.n119 Tryd.prog Tryd.lays119_ren := {
  mixed := by kernel_rfl
  f119 := Tryd.func75.trans (congrArg some (by kernel_rfl))
  t4 := Tryd.underlying4
  a4 := Tryd.isAgg4
  z4 := Tryd.sizeOf4
  v4 := Tryd.zeroValue4
  t21 := Tryd.underlying21
  a21 := Tryd.isAgg21
  z21 := Tryd.sizeOf21
  v21 := Tryd.zeroValue21 }
theorem Tryd.utf8_ValidRune (r : Int) (w : World) :
    Calls Tryd.prog 75 #[.int .i32 r] w fun e w' => e = .returned (.bool (Lib.validRune r)) ∧ w' = w := Any.utf8_ValidRune Tryd.lays119 r w
def Tryd.lays120_ren : Go.Shelf.Ren := ⟨fun | 120 => 83 | n => n, fun | 5 => 5 | 4 => 4 | n => n, fun | n => n⟩
theorem Tryd.lays120 : Go.Proofs.Lays.n120 Tryd.prog Tryd.lays120_ren := {
  mixed := by kernel_rfl
  f120 := Tryd.func83.trans (congrArg some (by kernel_rfl))
  t4 := Tryd.underlying4
  a4 := Tryd.isAgg4
  z4 := Tryd.sizeOf4
  v4 := Tryd.zeroValue4
  t5 := Tryd.underlying5
  a5 := Tryd.isAgg5
  z5 := Tryd.sizeOf5
  v5 := Tryd.zeroValue5 }
theorem Tryd.utf8_RuneStart (b : Int) (w : World) (h0 : 0 ≤ b) (h1 : b < 256) :
    Calls Tryd.prog 83 #[.int .u8 b] w fun e w' => e = .returned (.bool (Lib.runeStart b)) ∧ w' = w := Any.utf8_RuneStart Tryd.lays120 b w h0 h1
def Tryd.lays137_ren : Go.Shelf.Ren := ⟨fun | 137 => 55 | 217 => 61 | 266 => 66 | n => n, fun | 9 => 9 | 5 => 5 | 3 => 3 | n => n, fun | n => n⟩
theorem Tryd.lays137 : Go.Proofs.Lays.n137 Tryd.prog Tryd.lays137_ren := {
  mixed := by kernel_rfl
  f137 := Tryd.func55.trans (congrArg some (by kernel_rfl))
  f217 := Tryd.func61.trans (congrArg some (by kernel_rfl))
  f266 := Tryd.func66.trans (congrArg some (by kernel_rfl))
  t3 := Tryd.underlying3
  a3 := Tryd.isAgg3
  z3 := Tryd.sizeOf3
  v3 := Tryd.zeroValue3
  t5 := Tryd.underlying5
  a5 := Tryd.isAgg5
  z5 := Tryd.sizeOf5
  v5 := Tryd.zeroValue5
  t9 := Tryd.underlying9
  a9 := Tryd.isAgg9
  z9 := Tryd.sizeOf9
  v9 := Tryd.zeroValue9 }
open Go.RowKit in
theorem Tryd.strings_IndexByte (s : ByteArray) (c : Int) (w : World) :
    Calls Tryd.prog 55 #[.string s, .int .u8 c] w fun e w' => e = .returned (.int .i64 (Lib.indexByte s.data.toList c.toNat.toUInt8)) ∧ w' = w := Any.strings_IndexByte Tryd.lays137 s c w
def Tryd.lays217_ren : Go.Shelf.Ren := ⟨fun | 217 => 61 | 266 => 66 | n => n, fun | 9 => 9 | 5 => 5 | 3 => 3 | n => n, fun | n => n⟩
theorem Tryd.lays217 : Go.Proofs.Lays.n217 Tryd.prog Tryd.lays217_ren := {
  mixed := by kernel_rfl
  f217 := Tryd.func61.trans (congrArg some (by kernel_rfl))
  f266 := Tryd.func66.trans (congrArg some (by kernel_rfl))
  t3 := Tryd.underlying3
  a3 := Tryd.isAgg3
  z3 := Tryd.sizeOf3
  v3 := Tryd.zeroValue3
  t5 := Tryd.underlying5
  a5 := Tryd.isAgg5
  z5 := Tryd.sizeOf5
  v5 := Tryd.zeroValue5
  t9 := Tryd.underlying9
  a9 := Tryd.isAgg9
  z9 := Tryd.sizeOf9
  v9 := Tryd.zeroValue9 }
open Go.RowKit Go.Lib in
theorem Tryd.stringslite_IndexByte (s : ByteArray) (c : Int) (w : World) :
    Calls Tryd.prog 61 #[.string s, .int .u8 c] w fun e w' => e = .returned (.int .i64 (Lib.indexByte s.data.toList c.toNat.toUInt8)) ∧ w' = w := Any.stringslite_IndexByte Tryd.lays217 s c w
def Tryd.lays224_ren : Go.Shelf.Ren := ⟨fun | 224 => 76 | n => n, fun | 3 => 3 | n => n, fun | n => n⟩
theorem Tryd.lays224 : Go.Proofs.Lays.n224 Tryd.prog Tryd.lays224_ren := {
  mixed := by kernel_rfl
  f224 := Tryd.func76.trans (congrArg some (by kernel_rfl))
  t3 := Tryd.underlying3
  a3 := Tryd.isAgg3
  z3 := Tryd.sizeOf3
  v3 := Tryd.zeroValue3 }
open Go.RowKit Go.Lib in
theorem Tryd.bytealg_Cutover (n : Int) (h0 : 0 ≤ n) (h1 : n < 4611686018427387904) (w : World) :
    Calls Tryd.prog 76 #[.int .i64 n] w fun e w' => e = .returned (.int .i64 ((n + 16) / 8)) ∧ w' = w := Any.bytealg_Cutover Tryd.lays224 n h0 h1 w
def Tryd.lays314_ren : Go.Shelf.Ren := ⟨fun | 314 => 85 | n => n, fun | 9 => 9 | 51 => 117 | 3 => 3 | 4 => 4 | 5 => 5 | 46 => 83 | n => n, fun | n => n⟩
theorem Tryd.lays314 : Go.Proofs.Lays.n314 Tryd.prog Tryd.lays314_ren := {
  mixed := by kernel_rfl
  f314 := Tryd.func85.trans (congrArg some (by kernel_rfl))
  t3 := Tryd.underlying3
  a3 := Tryd.isAgg3
  z3 := Tryd.sizeOf3
  v3 := Tryd.zeroValue3
  t4 := Tryd.underlying4
  a4 := Tryd.isAgg4
  z4 := Tryd.sizeOf4
  v4 := Tryd.zeroValue4
  t5 := Tryd.underlying5
  a5 := Tryd.isAgg5
  z5 := Tryd.sizeOf5
  v5 := Tryd.zeroValue5
  t9 := Tryd.underlying9
  a9 := Tryd.isAgg9
  z9 := Tryd.sizeOf9
  v9 := Tryd.zeroValue9
  t46 := Tryd.underlying83
  a46 := Tryd.isAgg83
  z46 := Tryd.sizeOf83
  v46 := Tryd.zeroValue83
  t51 := Tryd.underlying117
  a51 := Tryd.isAgg117
  z51 := Tryd.sizeOf117
  v51 := Tryd.zeroValue117 }
open Go.RowKit Go.Lib in
theorem Tryd.bytealg_hashStr (sep : ByteArray) (hs : sep.size < 4294967281) (w : World) :
    Calls Tryd.prog 85 #[.string sep] w fun e w' => e = .returned (.tuple #[.int .u32 (RK.H sep.data.toList % 4294967296), .int .u32 (16777619 ^ sep.size % 4294967296)]) ∧ w' = w := Any.bytealg_hashStr Tryd.lays314 sep hs w
def Tryd.lays267_ren : Go.Shelf.Ren := ⟨fun | 267 => 84 | 314 => 85 | n => n, fun | 9 => 9 | 3 => 3 | 146 => 118 | 51 => 117 | 4 => 4 | 5 => 5 | 46 => 83 | n => n, fun | n => n⟩
theorem Tryd.lays267 : Go.Proofs.Lays.n267 Tryd.prog Tryd.lays267_ren := {
  mixed := by kernel_rfl
  f267 := Tryd.func84.trans (congrArg some (by kernel_rfl))
  f314 := Tryd.func85.trans (congrArg some (by kernel_rfl))
  t3 := Tryd.underlying3
  a3 := Tryd.isAgg3
  z3 := Tryd.sizeOf3
  v3 := Tryd.zeroValue3
  t4 := Tryd.underlying4
  a4 := Tryd.isAgg4
  z4 := Tryd.sizeOf4
  v4 := Tryd.zeroValue4
  t5 := Tryd.underlying5
  a5 := Tryd.isAgg5
  z5 := Tryd.sizeOf5
  v5 := Tryd.zeroValue5
  t9 := Tryd.underlying9
  a9 := Tryd.isAgg9
  z9 := Tryd.sizeOf9
  v9 := Tryd.zeroValue9
  t46 := Tryd.underlying83
  a46 := Tryd.isAgg83
  z46 := Tryd.sizeOf83
  v46 := Tryd.zeroValue83
  t51 := Tryd.underlying117
  a51 := Tryd.isAgg117
  z51 := Tryd.sizeOf117
  v51 := Tryd.zeroValue117
  t146 := Tryd.underlying118
  a146 := Tryd.isAgg118
  z146 := Tryd.sizeOf118
  v146 := Tryd.zeroValue118 }
open Go.RowKit Go.Lib in
theorem Tryd.bytealg_IndexRabinKarp (s sep : ByteArray) (h1 : 1 ≤ sep.size) (h2 : sep.size ≤ s.size) (hs : s.size < 4294967281) (w : World) :
    Calls Tryd.prog 84 #[.string s, .string sep] w fun e w' => e = .returned (.int .i64 (Lib.index s.data.toList sep.data.toList)) ∧ w' = w := Any.bytealg_IndexRabinKarp Tryd.lays267 s sep h1 h2 hs w
def Tryd.lays219_ren : Go.Shelf.Ren := ⟨fun | 219 => 81 | 217 => 61 | 225 => 77 | 224 => 76 | 267 => 84 | 266 => 66 | 314 => 85 | n => n, fun | 9 => 9 | 3 => 3 | 4 => 4 | 5 => 5 | 46 => 83 | 146 => 118 | 51 => 117 | n => n, fun | 1 => 0 | n => n⟩
theorem Tryd.lays219 : Go.Proofs.Lays.n219 Tryd.prog Tryd.lays219_ren := {
  mixed := by kernel_rfl
  f217 := Tryd.func61.trans (congrArg some (by kernel_rfl))
  f219 := Tryd.func81.trans (congrArg some (by kernel_rfl))
  f224 := Tryd.func76.trans (congrArg some (by kernel_rfl))
  f225 := Tryd.func77.trans (congrArg some (by kernel_rfl))
  f266 := Tryd.func66.trans (congrArg some (by kernel_rfl))
  f267 := Tryd.func84.trans (congrArg some (by kernel_rfl))
  f314 := Tryd.func85.trans (congrArg some (by kernel_rfl))
  t3 := Tryd.underlying3
  a3 := Tryd.isAgg3
  z3 := Tryd.sizeOf3
  v3 := Tryd.zeroValue3
  t4 := Tryd.underlying4
  a4 := Tryd.isAgg4
  z4 := Tryd.sizeOf4
  v4 := Tryd.zeroValue4
  t5 := Tryd.underlying5
  a5 := Tryd.isAgg5
  z5 := Tryd.sizeOf5
  v5 := Tryd.zeroValue5
  t9 := Tryd.underlying9
  a9 := Tryd.isAgg9
  z9 := Tryd.sizeOf9
  v9 := Tryd.zeroValue9
  t46 := Tryd.underlying83
  a46 := Tryd.isAgg83
  z46 := Tryd.sizeOf83
  v46 := Tryd.zeroValue83
  t51 := Tryd.underlying117
  a51 := Tryd.isAgg117
  z51 := Tryd.sizeOf117
  v51 := Tryd.zeroValue117
  t146 := Tryd.underlying118
  a146 := Tryd.isAgg118
  z146 := Tryd.sizeOf118
  v146 := Tryd.zeroValue118
  g1 := by kernel_rfl }
open Go.RowKit Go.Lib in
theorem Tryd.stringslite_Index_one (s : ByteArray) (c : UInt8) (w : World) :
    Calls Tryd.prog 81 #[.string s, .string ⟨#[c]⟩] w fun e w' => e = .returned (.int .i64 (Lib.indexByte s.data.toList c)) ∧ w' = w := Any.stringslite_Index_one Tryd.lays219 s c w
open Go.RowKit Go.Lib in
theorem Tryd.stringslite_Index (s sub : ByteArray) (m : Int) (w : World) (hs : s.size < 4294967281) (hm : w.cell? ⟨0, 0, none⟩ = some (.int .i64 m)) :
    Calls Tryd.prog 81 #[.string s, .string sub] w fun e w' => e = .returned (.int .i64 (Lib.index s.data.toList sub.data.toList)) ∧ w' = w := Any.stringslite_Index Tryd.lays219 s sub m w hs hm
def Tryd.lays220_ren : Go.Shelf.Ren := ⟨fun | 220 => 74 | 219 => 81 | 217 => 61 | 225 => 77 | 224 => 76 | 267 => 84 | 266 => 66 | 314 => 85 | n => n, fun | 9 => 9 | 4 => 4 | 3 => 3 | 5 => 5 | 46 => 83 | 146 => 118 | 51 => 117 | n => n, fun | 1 => 0 | n => n⟩
theorem Tryd.lays220 : Go.Proofs.Lays.n220 Tryd.prog Tryd.lays220_ren := {
  mixed := by kernel_rfl
  f217 := Tryd.func61.trans (congrArg some (by kernel_rfl))
  f219 := Tryd.func81.trans (congrArg some (by kernel_rfl))
  f220 := Tryd.func74.trans (congrArg some (by kernel_rfl))
  f224 := Tryd.func76.trans (congrArg some (by kernel_rfl))
  f225 := Tryd.func77.trans (congrArg some (by kernel_rfl))
  f266 := Tryd.func66.trans (congrArg some (by kernel_rfl))
  f267 := Tryd.func84.trans (congrArg some (by kernel_rfl))
  f314 := Tryd.func85.trans (congrArg some (by kernel_rfl))
  t3 := Tryd.underlying3
  a3 := Tryd.isAgg3
  z3 := Tryd.sizeOf3
  v3 := Tryd.zeroValue3
  t4 := Tryd.underlying4
  a4 := Tryd.isAgg4
  z4 := Tryd.sizeOf4
  v4 := Tryd.zeroValue4
  t5 := Tryd.underlying5
  a5 := Tryd.isAgg5
  z5 := Tryd.sizeOf5
  v5 := Tryd.zeroValue5
  t9 := Tryd.underlying9
  a9 := Tryd.isAgg9
  z9 := Tryd.sizeOf9
  v9 := Tryd.zeroValue9
  t46 := Tryd.underlying83
  a46 := Tryd.isAgg83
  z46 := Tryd.sizeOf83
  v46 := Tryd.zeroValue83
  t51 := Tryd.underlying117
  a51 := Tryd.isAgg117
  z51 := Tryd.sizeOf117
  v51 := Tryd.zeroValue117
  t146 := Tryd.underlying118
  a146 := Tryd.isAgg118
  z146 := Tryd.sizeOf118
  v146 := Tryd.zeroValue118
  g1 := by kernel_rfl }
open Go.RowKit Go.Lib in
theorem Tryd.stringslite_Cut (s sep : ByteArray) (m : Int) (w : World) (hs : s.size < 4294967281) (hm : w.cell? ⟨0, 0, none⟩ = some (.int .i64 m)) :
    Calls Tryd.prog 74 #[.string s, .string sep] w fun e w' => e = .returned (.tuple #[.string ⟨(Lib.cut s.data.toList sep.data.toList).1.toArray⟩, .string ⟨(Lib.cut s.data.toList sep.data.toList).2.1.toArray⟩, .bool (Lib.cut s.data.toList sep.data.toList).2.2]) ∧ ∃ n, w' = w.drewN n := Any.stringslite_Cut Tryd.lays220 s sep m w hs hm
def Tryd.lays145_ren : Go.Shelf.Ren := ⟨fun | 145 => 63 | 220 => 74 | 219 => 81 | 217 => 61 | 225 => 77 | 224 => 76 | 267 => 84 | 266 => 66 | 314 => 85 | n => n, fun | 9 => 9 | 4 => 4 | 59 => 98 | 3 => 3 | 5 => 5 | 46 => 83 | 146 => 118 | 51 => 117 | n => n, fun | 1 => 0 | n => n⟩
theorem Tryd.lays145 : Go.Proofs.Lays.n145 Tryd.prog Tryd.lays145_ren := {
  mixed := by kernel_rfl
  f145 := Tryd.func63.trans (congrArg some (by kernel_rfl))
  f217 := Tryd.func61.trans (congrArg some (by kernel_rfl))
  f219 := Tryd.func81.trans (congrArg some (by kernel_rfl))
  f220 := Tryd.func74.trans (congrArg some (by kernel_rfl))
  f224 := Tryd.func76.trans (congrArg some (by kernel_rfl))
  f225 := Tryd.func77.trans (congrArg some (by kernel_rfl))
  f266 := Tryd.func66.trans (congrArg some (by kernel_rfl))
  f267 := Tryd.func84.trans (congrArg some (by kernel_rfl))
  f314 := Tryd.func85.trans (congrArg some (by kernel_rfl))
  t3 := Tryd.underlying3
  a3 := Tryd.isAgg3
  z3 := Tryd.sizeOf3
  v3 := Tryd.zeroValue3
  t4 := Tryd.underlying4
  a4 := Tryd.isAgg4
  z4 := Tryd.sizeOf4
  v4 := Tryd.zeroValue4
  t5 := Tryd.underlying5
  a5 := Tryd.isAgg5
  z5 := Tryd.sizeOf5
  v5 := Tryd.zeroValue5
  t9 := Tryd.underlying9
  a9 := Tryd.isAgg9
  z9 := Tryd.sizeOf9
  v9 := Tryd.zeroValue9
  t46 := Tryd.underlying83
  a46 := Tryd.isAgg83
  z46 := Tryd.sizeOf83
  v46 := Tryd.zeroValue83
  t51 := Tryd.underlying117
  a51 := Tryd.isAgg117
  z51 := Tryd.sizeOf117
  v51 := Tryd.zeroValue117
  t59 := Tryd.underlying98
  a59 := Tryd.isAgg98
  z59 := Tryd.sizeOf98
  v59 := Tryd.zeroValue98
  t146 := Tryd.underlying118
  a146 := Tryd.isAgg118
  z146 := Tryd.sizeOf118
  v146 := Tryd.zeroValue118
  g1 := by kernel_rfl }
open Go.RowKit Go.Lib in
theorem Tryd.strings_Cut (s sep : ByteArray) (m : Int) (w : World) (hs : s.size < 4294967281) (hm : w.cell? ⟨0, 0, none⟩ = some (.int .i64 m)) :
    Calls Tryd.prog 63 #[.string s, .string sep] w fun e w' => e = .returned (.tuple #[.string ⟨(Lib.cut s.data.toList sep.data.toList).1.toArray⟩, .string ⟨(Lib.cut s.data.toList sep.data.toList).2.1.toArray⟩, .bool (Lib.cut s.data.toList sep.data.toList).2.2]) ∧ ∃ n, w' = w.drewN n := Any.strings_Cut Tryd.lays145 s sep m w hs hm
def Tryd.laysM219_ren : Go.Shelf.Ren := ⟨fun | 219 => 81 | 217 => 61 | 225 => 77 | 224 => 76 | 267 => 84 | 266 => 66 | 314 => 85 | n => n, fun | 9 => 9 | 3 => 3 | 4 => 4 | 5 => 5 | 46 => 83 | 146 => 118 | 51 => 117 | n => n, fun | 1 => 0 | n => n⟩
theorem Tryd.laysM219 : Go.Proofs.LaysM.n219 Tryd.prog Tryd.laysM219_ren := {
  mixed := by kernel_rfl
  f217 := Tryd.func61.trans (congrArg some (by kernel_rfl))
  f219 := Tryd.func81.trans (congrArg some (by kernel_rfl))
  f224 := Tryd.func76.trans (congrArg some (by kernel_rfl))
  f225 := Tryd.func77.trans (congrArg some (by kernel_rfl))
  f266 := Tryd.func66.trans (congrArg some (by kernel_rfl))
  f267 := Tryd.func84.trans (congrArg some (by kernel_rfl))
  f314 := Tryd.func85.trans (congrArg some (by kernel_rfl))
  t3 := Tryd.underlying3
  a3 := Tryd.isAgg3
  z3 := Tryd.sizeOf3
  v3 := Tryd.zeroValue3
  t4 := Tryd.underlying4
  a4 := Tryd.isAgg4
  z4 := Tryd.sizeOf4
  v4 := Tryd.zeroValue4
  t5 := Tryd.underlying5
  a5 := Tryd.isAgg5
  z5 := Tryd.sizeOf5
  v5 := Tryd.zeroValue5
  t9 := Tryd.underlying9
  a9 := Tryd.isAgg9
  z9 := Tryd.sizeOf9
  v9 := Tryd.zeroValue9
  t46 := Tryd.underlying83
  a46 := Tryd.isAgg83
  z46 := Tryd.sizeOf83
  v46 := Tryd.zeroValue83
  t51 := Tryd.underlying117
  a51 := Tryd.isAgg117
  z51 := Tryd.sizeOf117
  v51 := Tryd.zeroValue117
  t146 := Tryd.underlying118
  a146 := Tryd.isAgg118
  z146 := Tryd.sizeOf118
  v146 := Tryd.zeroValue118
  g1 := by kernel_rfl
  i3 := by kernel_rfl
  i4 := by kernel_rfl
  i5 := by kernel_rfl
  i9 := by kernel_rfl
  i46 := by kernel_rfl
  i51 := by kernel_rfl
  i146 := by kernel_rfl
  m1 := by kernel_rfl
  s1_3 := fun w h => Go.Proofs.cell_of_shapedOpen_int (zero := #[.int .i64 0]) (t := 3) h (of_decide_eq_true (by kernel_rfl)) (by kernel_rfl) rfl (by kernel_rfl) (by kernel_rfl) Tryd.underlying3 }
open Go.RowKit Go.Lib in
theorem Tryd.stringslite_Index_shaped (s sub : ByteArray) (w : World) (h : w.ShapedOpen Tryd.prog) (hs : s.size < 4294967281) :
    Calls Tryd.prog 81 #[.string s, .string sub] w fun e w' => e = .returned (.int .i64 (Lib.index s.data.toList sub.data.toList)) ∧ w' = w := Any.stringslite_Index_shaped Tryd.laysM219 s sub w h hs
def Tryd.laysM220_ren : Go.Shelf.Ren := ⟨fun | 220 => 74 | 219 => 81 | 217 => 61 | 225 => 77 | 224 => 76 | 267 => 84 | 266 => 66 | 314 => 85 | n => n, fun | 9 => 9 | 4 => 4 | 3 => 3 | 5 => 5 | 46 => 83 | 146 => 118 | 51 => 117 | n => n, fun | 1 => 0 | n => n⟩
theorem Tryd.laysM220 : Go.Proofs.LaysM.n220 Tryd.prog Tryd.laysM220_ren := {
  mixed := by kernel_rfl
  f217 := Tryd.func61.trans (congrArg some (by kernel_rfl))
  f219 := Tryd.func81.trans (congrArg some (by kernel_rfl))
  f220 := Tryd.func74.trans (congrArg some (by kernel_rfl))
  f224 := Tryd.func76.trans (congrArg some (by kernel_rfl))
  f225 := Tryd.func77.trans (congrArg some (by kernel_rfl))
  f266 := Tryd.func66.trans (congrArg some (by kernel_rfl))
  f267 := Tryd.func84.trans (congrArg some (by kernel_rfl))
  f314 := Tryd.func85.trans (congrArg some (by kernel_rfl))
  t3 := Tryd.underlying3
  a3 := Tryd.isAgg3
  z3 := Tryd.sizeOf3
  v3 := Tryd.zeroValue3
  t4 := Tryd.underlying4
  a4 := Tryd.isAgg4
  z4 := Tryd.sizeOf4
  v4 := Tryd.zeroValue4
  t5 := Tryd.underlying5
  a5 := Tryd.isAgg5
  z5 := Tryd.sizeOf5
  v5 := Tryd.zeroValue5
  t9 := Tryd.underlying9
  a9 := Tryd.isAgg9
  z9 := Tryd.sizeOf9
  v9 := Tryd.zeroValue9
  t46 := Tryd.underlying83
  a46 := Tryd.isAgg83
  z46 := Tryd.sizeOf83
  v46 := Tryd.zeroValue83
  t51 := Tryd.underlying117
  a51 := Tryd.isAgg117
  z51 := Tryd.sizeOf117
  v51 := Tryd.zeroValue117
  t146 := Tryd.underlying118
  a146 := Tryd.isAgg118
  z146 := Tryd.sizeOf118
  v146 := Tryd.zeroValue118
  g1 := by kernel_rfl
  i3 := by kernel_rfl
  i4 := by kernel_rfl
  i5 := by kernel_rfl
  i9 := by kernel_rfl
  i46 := by kernel_rfl
  i51 := by kernel_rfl
  i146 := by kernel_rfl
  m1 := by kernel_rfl
  s1_3 := fun w h => Go.Proofs.cell_of_shapedOpen_int (zero := #[.int .i64 0]) (t := 3) h (of_decide_eq_true (by kernel_rfl)) (by kernel_rfl) rfl (by kernel_rfl) (by kernel_rfl) Tryd.underlying3 }
open Go.RowKit Go.Lib in
theorem Tryd.stringslite_Cut_shaped (s sep : ByteArray) (w : World) (h : w.ShapedOpen Tryd.prog) (hs : s.size < 4294967281) :
    Calls Tryd.prog 74 #[.string s, .string sep] w fun e w' => e = .returned (.tuple #[.string ⟨(Lib.cut s.data.toList sep.data.toList).1.toArray⟩, .string ⟨(Lib.cut s.data.toList sep.data.toList).2.1.toArray⟩, .bool (Lib.cut s.data.toList sep.data.toList).2.2]) ∧ ∃ n, w' = w.drewN n := Any.stringslite_Cut_shaped Tryd.laysM220 s sep w h hs
def Tryd.laysM145_ren : Go.Shelf.Ren := ⟨fun | 145 => 63 | 220 => 74 | 219 => 81 | 217 => 61 | 225 => 77 | 224 => 76 | 267 => 84 | 266 => 66 | 314 => 85 | n => n, fun | 9 => 9 | 4 => 4 | 59 => 98 | 3 => 3 | 5 => 5 | 46 => 83 | 146 => 118 | 51 => 117 | n => n, fun | 1 => 0 | n => n⟩
theorem Tryd.laysM145 : Go.Proofs.LaysM.n145 Tryd.prog Tryd.laysM145_ren := {
  mixed := by kernel_rfl
  f145 := Tryd.func63.trans (congrArg some (by kernel_rfl))
  f217 := Tryd.func61.trans (congrArg some (by kernel_rfl))
  f219 := Tryd.func81.trans (congrArg some (by kernel_rfl))
  f220 := Tryd.func74.trans (congrArg some (by kernel_rfl))
  f224 := Tryd.func76.trans (congrArg some (by kernel_rfl))
  f225 := Tryd.func77.trans (congrArg some (by kernel_rfl))
  f266 := Tryd.func66.trans (congrArg some (by kernel_rfl))
  f267 := Tryd.func84.trans (congrArg some (by kernel_rfl))
  f314 := Tryd.func85.trans (congrArg some (by kernel_rfl))
  t3 := Tryd.underlying3
  a3 := Tryd.isAgg3
  z3 := Tryd.sizeOf3
  v3 := Tryd.zeroValue3
  t4 := Tryd.underlying4
  a4 := Tryd.isAgg4
  z4 := Tryd.sizeOf4
  v4 := Tryd.zeroValue4
  t5 := Tryd.underlying5
  a5 := Tryd.isAgg5
  z5 := Tryd.sizeOf5
  v5 := Tryd.zeroValue5
  t9 := Tryd.underlying9
  a9 := Tryd.isAgg9
  z9 := Tryd.sizeOf9
  v9 := Tryd.zeroValue9
  t46 := Tryd.underlying83
  a46 := Tryd.isAgg83
  z46 := Tryd.sizeOf83
  v46 := Tryd.zeroValue83
  t51 := Tryd.underlying117
  a51 := Tryd.isAgg117
  z51 := Tryd.sizeOf117
  v51 := Tryd.zeroValue117
  t59 := Tryd.underlying98
  a59 := Tryd.isAgg98
  z59 := Tryd.sizeOf98
  v59 := Tryd.zeroValue98
  t146 := Tryd.underlying118
  a146 := Tryd.isAgg118
  z146 := Tryd.sizeOf118
  v146 := Tryd.zeroValue118
  g1 := by kernel_rfl
  i3 := by kernel_rfl
  i4 := by kernel_rfl
  i5 := by kernel_rfl
  i9 := by kernel_rfl
  i46 := by kernel_rfl
  i51 := by kernel_rfl
  i59 := by kernel_rfl
  i146 := by kernel_rfl
  m1 := by kernel_rfl
  s1_3 := fun w h => Go.Proofs.cell_of_shapedOpen_int (zero := #[.int .i64 0]) (t := 3) h (of_decide_eq_true (by kernel_rfl)) (by kernel_rfl) rfl (by kernel_rfl) (by kernel_rfl) Tryd.underlying3 }
open Go.RowKit Go.Lib in
theorem Tryd.strings_Cut_shaped (s sep : ByteArray) (w : World) (h : w.ShapedOpen Tryd.prog) (hs : s.size < 4294967281) :
    Calls Tryd.prog 63 #[.string s, .string sep] w fun e w' => e = .returned (.tuple #[.string ⟨(Lib.cut s.data.toList sep.data.toList).1.toArray⟩, .string ⟨(Lib.cut s.data.toList sep.data.toList).2.1.toArray⟩, .bool (Lib.cut s.data.toList sep.data.toList).2.2]) ∧ ∃ n, w' = w.drewN n := Any.strings_Cut_shaped Tryd.laysM145 s sep w h hs
def Tryd.lays315_ren : Go.Shelf.Ren := ⟨fun | 315 => 65 | n => n, fun | 9 => 9 | 40 => 94 | 4 => 4 | 3 => 3 | 0 => 0 | 21 => 21 | n => n, fun | n => n⟩
theorem Tryd.lays315 : Go.Proofs.Lays.n315 Tryd.prog Tryd.lays315_ren := {
  mixed := by kernel_rfl
  f315 := Tryd.func65.trans (congrArg some (by kernel_rfl))
  t0 := Tryd.underlying0
  a0 := Tryd.isAgg0
  z0 := Tryd.sizeOf0
  v0 := Tryd.zeroValue0
  t3 := Tryd.underlying3
  a3 := Tryd.isAgg3
  z3 := Tryd.sizeOf3
  v3 := Tryd.zeroValue3
  t4 := Tryd.underlying4
  a4 := Tryd.isAgg4
  z4 := Tryd.sizeOf4
  v4 := Tryd.zeroValue4
  t9 := Tryd.underlying9
  a9 := Tryd.isAgg9
  z9 := Tryd.sizeOf9
  v9 := Tryd.zeroValue9
  t21 := Tryd.underlying21
  a21 := Tryd.isAgg21
  z21 := Tryd.sizeOf21
  v21 := Tryd.zeroValue21
  t40 := Tryd.underlying94
  a40 := Tryd.isAgg94
  z40 := Tryd.sizeOf94
  v40 := Tryd.zeroValue94 }
open Go.RowKit Go.Lib in
theorem Tryd.strings_indexFunc (g : Nat) (lb : Array Value) (eg : ∀ args w, (callFunc g args).run Tryd.prog w = .ok (.enter g args) w) (p : Nat → Bool) (truth : Bool) (s : ByteArray) (w : World) (hp : PredAt Tryd.prog g lb encR p w) :
    Calls Tryd.prog 65 #[.string s, .func (.func g) #[] lb, .bool truth] w fun e w' => e = .returned (.int .i64 (Lib.idxFunc p truth s)) ∧ Below w.heap.size w w' := Any.strings_indexFunc Tryd.lays315 g lb eg p truth s w hp
def Tryd.laysGw15_ren : Go.Shelf.Ren := ⟨fun | 15 => 60 | 20 => 65 | n => n, fun | 9 => 9 | 23 => 94 | 3 => 3 | 4 => 4 | 0 => 0 | 21 => 21 | n => n, fun | n => n⟩
theorem Tryd.laysGw15 : Go.Proofs.LaysGw.n15 Tryd.prog Tryd.laysGw15_ren := {
  mixed := by kernel_rfl
  f15 := Tryd.func60.trans (congrArg some (by kernel_rfl))
  f20 := Tryd.func65.trans (congrArg some (by kernel_rfl))
  t0 := Tryd.underlying0
  a0 := Tryd.isAgg0
  z0 := Tryd.sizeOf0
  v0 := Tryd.zeroValue0
  i0 := by kernel_rfl
  t3 := Tryd.underlying3
  a3 := Tryd.isAgg3
  z3 := Tryd.sizeOf3
  v3 := Tryd.zeroValue3
  i3 := by kernel_rfl
  t4 := Tryd.underlying4
  a4 := Tryd.isAgg4
  z4 := Tryd.sizeOf4
  v4 := Tryd.zeroValue4
  i4 := by kernel_rfl
  t9 := Tryd.underlying9
  a9 := Tryd.isAgg9
  z9 := Tryd.sizeOf9
  v9 := Tryd.zeroValue9
  i9 := by kernel_rfl
  t21 := Tryd.underlying21
  a21 := Tryd.isAgg21
  z21 := Tryd.sizeOf21
  v21 := Tryd.zeroValue21
  i21 := by kernel_rfl
  t23 := Tryd.underlying94
  a23 := Tryd.isAgg94
  z23 := Tryd.sizeOf94
  v23 := Tryd.zeroValue94
  i23 := by kernel_rfl }
open Go.RowKit Go.Lib in
theorem Tryd.strings_IndexFunc (g : Nat) (lb : Array Value) (eg : ∀ args w, (callFunc g args).run Tryd.prog w = .ok (.enter g args) w) (p : Nat → Bool) (s : ByteArray) (w : World) (hp : PredAt Tryd.prog g lb encR p w) :
    Calls Tryd.prog 60 #[.string s, .func (.func g) #[] lb] w fun e w' => e = .returned (.int .i64 (Lib.idxFunc p true s)) ∧ Below w.heap.size w w' := Any.strings_IndexFunc Tryd.laysGw15 g lb eg p s w hp
open Go.RowKit Go.Lib in
theorem Tryd.strings_indexFunc_runes (g : Nat) (lb : Array Value) (eg : ∀ args w, (callFunc g args).run Tryd.prog w = .ok (.enter g args) w) (p : Nat → Bool) (truth : Bool) (s : ByteArray) (w : World) (hp : PredAtRunes Tryd.prog g lb p w) :
    Calls Tryd.prog 65 #[.string s, .func (.func g) #[] lb, .bool truth] w fun e w' => e = .returned (.int .i64 (Lib.idxFunc p truth s)) ∧ Below w.heap.size w w' := Any.strings_indexFunc_runes Tryd.lays315 g lb eg p truth s w hp
open Go.RowKit Go.Lib in
theorem Tryd.strings_IndexFunc_runes (g : Nat) (lb : Array Value) (eg : ∀ args w, (callFunc g args).run Tryd.prog w = .ok (.enter g args) w) (p : Nat → Bool) (s : ByteArray) (w : World) (hp : PredAtRunes Tryd.prog g lb p w) :
    Calls Tryd.prog 60 #[.string s, .func (.func g) #[] lb] w fun e w' => e = .returned (.int .i64 (Lib.idxFunc p true s)) ∧ Below w.heap.size w w' := Any.strings_IndexFunc_runes Tryd.laysGw15 g lb eg p s w hp
def Tryd.lays197_ren : Go.Shelf.Ren := ⟨fun | 197 => 79 | 260 => 82 | n => n, fun | 9 => 9 | 21 => 21 | 3 => 3 | 4 => 4 | 5 => 5 | 105 => 111 | 119 => 113 | 0 => 0 | 46 => 83 | 139 => 116 | 138 => 115 | n => n, fun | 3 => 1 | 4 => 2 | n => n⟩
theorem Tryd.lays197 : Go.Proofs.Lays.n197 Tryd.prog Tryd.lays197_ren := {
  mixed := by kernel_rfl
  f197 := Tryd.func79.trans (congrArg some (by kernel_rfl))
  f260 := Tryd.func82.trans (congrArg some (by kernel_rfl))
  t0 := Tryd.underlying0
  a0 := Tryd.isAgg0
  z0 := Tryd.sizeOf0
  v0 := Tryd.zeroValue0
  t3 := Tryd.underlying3
  a3 := Tryd.isAgg3
  z3 := Tryd.sizeOf3
  v3 := Tryd.zeroValue3
  t4 := Tryd.underlying4
  a4 := Tryd.isAgg4
  z4 := Tryd.sizeOf4
  v4 := Tryd.zeroValue4
  t5 := Tryd.underlying5
  a5 := Tryd.isAgg5
  z5 := Tryd.sizeOf5
  v5 := Tryd.zeroValue5
  t9 := Tryd.underlying9
  a9 := Tryd.isAgg9
  z9 := Tryd.sizeOf9
  v9 := Tryd.zeroValue9
  t21 := Tryd.underlying21
  a21 := Tryd.isAgg21
  z21 := Tryd.sizeOf21
  v21 := Tryd.zeroValue21
  t46 := Tryd.underlying83
  a46 := Tryd.isAgg83
  z46 := Tryd.sizeOf83
  v46 := Tryd.zeroValue83
  t105 := Tryd.underlying111
  a105 := Tryd.isAgg111
  z105 := Tryd.sizeOf111
  v105 := Tryd.zeroValue111
  t119 := Tryd.underlying113
  a119 := Tryd.isAgg113
  z119 := Tryd.sizeOf113
  t138 := Tryd.underlying115
  a138 := Tryd.isAgg115
  z138 := Tryd.sizeOf115
  v138 := Tryd.zeroValue115
  t139 := Tryd.underlying116
  a139 := Tryd.isAgg116
  z139 := Tryd.sizeOf116
  v139 := Tryd.zeroValue116
  g3 := by kernel_rfl
  g4 := by kernel_rfl }
open Go.RowKit Go.Lib in
theorem Tryd.utf8_DecodeRuneInString_ascii (s : ByteArray) (x : UInt8) (w : World) (h0 : s.data.toList[0]? = some x) (hx : x.toNat < 128) :
    Calls Tryd.prog 79 #[.string s] w fun e w' => e = .returned (.tuple #[.int .i32 x.toNat, .int .i64 1]) ∧ w' = w := Any.utf8_DecodeRuneInString_ascii Tryd.lays197 s x w h0 hx
def Tryd.lays152_ren : Go.Shelf.Ren := ⟨fun | 152 => 64 | 137 => 55 | 119 => 75 | 224 => 76 | 225 => 77 | 217 => 61 | 266 => 66 | n => n, fun | 9 => 9 | 21 => 21 | 3 => 3 | 4 => 4 | 5 => 5 | 0 => 0 | 46 => 83 | n => n, fun | n => n⟩
theorem Tryd.lays152 : Go.Proofs.Lays.n152 Tryd.prog Tryd.lays152_ren := {
  mixed := by kernel_rfl
  f119 := Tryd.func75.trans (congrArg some (by kernel_rfl))
  f137 := Tryd.func55.trans (congrArg some (by kernel_rfl))
  f152 := Tryd.func64.trans (congrArg some (by kernel_rfl))
  f217 := Tryd.func61.trans (congrArg some (by kernel_rfl))
  f224 := Tryd.func76.trans (congrArg some (by kernel_rfl))
  f225 := Tryd.func77.trans (congrArg some (by kernel_rfl))
  f266 := Tryd.func66.trans (congrArg some (by kernel_rfl))
  t0 := Tryd.underlying0
  a0 := Tryd.isAgg0
  z0 := Tryd.sizeOf0
  v0 := Tryd.zeroValue0
  t3 := Tryd.underlying3
  a3 := Tryd.isAgg3
  z3 := Tryd.sizeOf3
  v3 := Tryd.zeroValue3
  t4 := Tryd.underlying4
  a4 := Tryd.isAgg4
  z4 := Tryd.sizeOf4
  v4 := Tryd.zeroValue4
  t5 := Tryd.underlying5
  a5 := Tryd.isAgg5
  z5 := Tryd.sizeOf5
  v5 := Tryd.zeroValue5
  t9 := Tryd.underlying9
  a9 := Tryd.isAgg9
  z9 := Tryd.sizeOf9
  v9 := Tryd.zeroValue9
  t21 := Tryd.underlying21
  a21 := Tryd.isAgg21
  z21 := Tryd.sizeOf21
  v21 := Tryd.zeroValue21
  t46 := Tryd.underlying83
  a46 := Tryd.isAgg83
  z46 := Tryd.sizeOf83
  v46 := Tryd.zeroValue83 }
open Go.RowKit Go.Lib in
theorem Tryd.strings_IndexRune_ascii (s : ByteArray) (r : Int) (w : World) (h0 : 0 ≤ r) (h1 : r < 128) :
    Calls Tryd.prog 64 #[.string s, .int .i32 r] w fun e w' => e = .returned (.int .i64 (Lib.indexByte s.data.toList r.toNat.toUInt8)) ∧ w' = w := Any.strings_IndexRune_ascii Tryd.lays152 s r w h0 h1
def Tryd.lays151_ren : Go.Shelf.Ren := ⟨fun | 151 => 59 | 152 => 64 | 137 => 55 | 119 => 75 | 224 => 76 | 225 => 77 | 217 => 61 | 266 => 66 | n => n, fun | 9 => 9 | 21 => 21 | 4 => 4 | 3 => 3 | 5 => 5 | 0 => 0 | 46 => 83 | n => n, fun | n => n⟩
theorem Tryd.lays151 : Go.Proofs.Lays.n151 Tryd.prog Tryd.lays151_ren := {
  mixed := by kernel_rfl
  f119 := Tryd.func75.trans (congrArg some (by kernel_rfl))
  f137 := Tryd.func55.trans (congrArg some (by kernel_rfl))
  f151 := Tryd.func59.trans (congrArg some (by kernel_rfl))
  f152 := Tryd.func64.trans (congrArg some (by kernel_rfl))
  f217 := Tryd.func61.trans (congrArg some (by kernel_rfl))
  f224 := Tryd.func76.trans (congrArg some (by kernel_rfl))
  f225 := Tryd.func77.trans (congrArg some (by kernel_rfl))
  f266 := Tryd.func66.trans (congrArg some (by kernel_rfl))
  t0 := Tryd.underlying0
  a0 := Tryd.isAgg0
  z0 := Tryd.sizeOf0
  v0 := Tryd.zeroValue0
  t3 := Tryd.underlying3
  a3 := Tryd.isAgg3
  z3 := Tryd.sizeOf3
  v3 := Tryd.zeroValue3
  t4 := Tryd.underlying4
  a4 := Tryd.isAgg4
  z4 := Tryd.sizeOf4
  v4 := Tryd.zeroValue4
  t5 := Tryd.underlying5
  a5 := Tryd.isAgg5
  z5 := Tryd.sizeOf5
  v5 := Tryd.zeroValue5
  t9 := Tryd.underlying9
  a9 := Tryd.isAgg9
  z9 := Tryd.sizeOf9
  v9 := Tryd.zeroValue9
  t21 := Tryd.underlying21
  a21 := Tryd.isAgg21
  z21 := Tryd.sizeOf21
  v21 := Tryd.zeroValue21
  t46 := Tryd.underlying83
  a46 := Tryd.isAgg83
  z46 := Tryd.sizeOf83
  v46 := Tryd.zeroValue83 }
open Go.RowKit Go.Lib in
theorem Tryd.strings_ContainsRune_ascii (s : ByteArray) (r : Int) (w : World) (h0 : 0 ≤ r) (h1 : r < 128) :
    Calls Tryd.prog 59 #[.string s, .int .i32 r] w fun e w' => e = .returned (.bool (decide (0 ≤ Lib.indexByte s.data.toList r.toNat.toUInt8))) ∧ w' = w := Any.strings_ContainsRune_ascii Tryd.lays151 s r w h0 h1
def Tryd.lays227_ren : Go.Shelf.Ren := ⟨fun | 227 => 69 | n => n, fun | 9 => 9 | 116 => 104 | 4 => 4 | 0 => 0 | 3 => 3 | 5 => 5 | n => n, fun | n => n⟩
theorem Tryd.lays227 : Go.Proofs.Lays.n227 Tryd.prog Tryd.lays227_ren := {
  mixed := by kernel_rfl
  f227 := Tryd.func69.trans (congrArg some (by kernel_rfl))
  t0 := Tryd.underlying0
  a0 := Tryd.isAgg0
  z0 := Tryd.sizeOf0
  v0 := Tryd.zeroValue0
  t3 := Tryd.underlying3
  a3 := Tryd.isAgg3
  z3 := Tryd.sizeOf3
  v3 := Tryd.zeroValue3
  t4 := Tryd.underlying4
  a4 := Tryd.isAgg4
  z4 := Tryd.sizeOf4
  v4 := Tryd.zeroValue4
  t5 := Tryd.underlying5
  a5 := Tryd.isAgg5
  z5 := Tryd.sizeOf5
  v5 := Tryd.zeroValue5
  t9 := Tryd.underlying9
  a9 := Tryd.isAgg9
  z9 := Tryd.sizeOf9
  v9 := Tryd.zeroValue9
  t116 := Tryd.underlying104
  a116 := Tryd.isAgg104
  z116 := Tryd.sizeOf104 }
open Go.RowKit Go.Lib in
theorem Tryd.strings_makeASCIISet (hv116 : ∀ w, (zeroValue 104).run Tryd.prog w = .ok (.agg (Array.replicate 256 (.bool false))) w) (chars : ByteArray) (w : World) (hs : chars.size < 4294967281) (hascii : ∀ (j : Nat) b, chars.data.toList[j]? = some b → b.toNat < 128) :
    Calls Tryd.prog 69 #[.string chars] w fun e w' => e = .returned (.tuple #[.agg (Lib.setCells chars.data.toList), .bool true]) ∧ w' = w.alloc (.cells (Lib.setCells chars.data.toList) 104) := Any.strings_makeASCIISet Tryd.lays227 hv116 (by kernel_rfl) chars w hs hascii
def Tryd.lays228_ren : Go.Shelf.Ren := ⟨fun | 228 => 78 | n => n, fun | 124 => 108 | 5 => 5 | 4 => 4 | 0 => 0 | 116 => 104 | n => n, fun | n => n⟩
theorem Tryd.lays228 : Go.Proofs.Lays.n228 Tryd.prog Tryd.lays228_ren := {
  mixed := by kernel_rfl
  f228 := Tryd.func78.trans (congrArg some (by kernel_rfl))
  t0 := Tryd.underlying0
  a0 := Tryd.isAgg0
  z0 := Tryd.sizeOf0
  v0 := Tryd.zeroValue0
  t4 := Tryd.underlying4
  a4 := Tryd.isAgg4
  z4 := Tryd.sizeOf4
  v4 := Tryd.zeroValue4
  t5 := Tryd.underlying5
  a5 := Tryd.isAgg5
  z5 := Tryd.sizeOf5
  v5 := Tryd.zeroValue5
  t116 := Tryd.underlying104
  a116 := Tryd.isAgg104
  z116 := Tryd.sizeOf104
  t124 := Tryd.underlying108
  a124 := Tryd.isAgg108
  z124 := Tryd.sizeOf108
  v124 := Tryd.zeroValue108 }
open Go.RowKit Go.Lib in
theorem Tryd.asciiSet_contains (b : Nat) (x : UInt8) (v : Bool) (w : World) (hc : w.cell? ⟨b, x.toNat, none⟩ = some (.bool v)) :
    Calls Tryd.prog 78 #[.pointer (some ⟨b, 0, none⟩), .int .u8 x.toNat] w fun e w' => e = .returned (.bool v) ∧ w' = w := Any.asciiSet_contains Tryd.lays228 b x v w hc
def Tryd.lays260_ren : Go.Shelf.Ren := ⟨fun | 260 => 82 | n => n, fun | 9 => 9 | 21 => 21 | 3 => 3 | 4 => 4 | 5 => 5 | 119 => 113 | 0 => 0 | 46 => 83 | 139 => 116 | 138 => 115 | n => n, fun | 3 => 1 | 4 => 2 | n => n⟩
theorem Tryd.lays260 : Go.Proofs.Lays.n260 Tryd.prog Tryd.lays260_ren := {
  mixed := by kernel_rfl
  f260 := Tryd.func82.trans (congrArg some (by kernel_rfl))
  t0 := Tryd.underlying0
  a0 := Tryd.isAgg0
  z0 := Tryd.sizeOf0
  v0 := Tryd.zeroValue0
  t3 := Tryd.underlying3
  a3 := Tryd.isAgg3
  z3 := Tryd.sizeOf3
  v3 := Tryd.zeroValue3
  t4 := Tryd.underlying4
  a4 := Tryd.isAgg4
  z4 := Tryd.sizeOf4
  v4 := Tryd.zeroValue4
  t5 := Tryd.underlying5
  a5 := Tryd.isAgg5
  z5 := Tryd.sizeOf5
  v5 := Tryd.zeroValue5
  t9 := Tryd.underlying9
  a9 := Tryd.isAgg9
  z9 := Tryd.sizeOf9
  v9 := Tryd.zeroValue9
  t21 := Tryd.underlying21
  a21 := Tryd.isAgg21
  z21 := Tryd.sizeOf21
  v21 := Tryd.zeroValue21
  t46 := Tryd.underlying83
  a46 := Tryd.isAgg83
  z46 := Tryd.sizeOf83
  v46 := Tryd.zeroValue83
  t119 := Tryd.underlying113
  a119 := Tryd.isAgg113
  z119 := Tryd.sizeOf113
  t138 := Tryd.underlying115
  a138 := Tryd.isAgg115
  z138 := Tryd.sizeOf115
  v138 := Tryd.zeroValue115
  t139 := Tryd.underlying116
  a139 := Tryd.isAgg116
  z139 := Tryd.sizeOf116
  v139 := Tryd.zeroValue116
  g3 := by kernel_rfl
  g4 := by kernel_rfl }
open Go.RowKit Go.Lib in
theorem Tryd.utf8_decodeRuneInStringSlow (s : ByteArray) (w : World) (hT : Lib.Utf8Tabs 1 2 w) :
    Calls Tryd.prog 82 #[.string s] w fun e w' => e = .returned (.tuple #[.int .i32 (Lib.decodeGo s).1, .int .i64 (Lib.decodeGo s).2]) ∧ Below w.heap.size w w' := Any.utf8_decodeRuneInStringSlow Tryd.lays260 s w hT
open Go.RowKit Go.Lib in
theorem Tryd.utf8_DecodeRuneInString (s : ByteArray) (w : World) (hT : Lib.Utf8Tabs 1 2 w) :
    Calls Tryd.prog 79 #[.string s] w fun e w' => e = .returned (.tuple #[.int .i32 (Lib.decodeGo s).1, .int .i64 (Lib.decodeGo s).2]) ∧ Below w.heap.size w w' := Any.utf8_DecodeRuneInString Tryd.lays197 s w hT
def Tryd.lays271_ren : Go.Shelf.Ren := ⟨fun | 271 => 80 | 120 => 83 | 197 => 79 | 260 => 82 | n => n, fun | 9 => 9 | 21 => 21 | 3 => 3 | 4 => 4 | 5 => 5 | 105 => 111 | 119 => 113 | 0 => 0 | 46 => 83 | 139 => 116 | 138 => 115 | n => n, fun | 3 => 1 | 4 => 2 | n => n⟩
theorem Tryd.lays271 : Go.Proofs.Lays.n271 Tryd.prog Tryd.lays271_ren := {
  mixed := by kernel_rfl
  f120 := Tryd.func83.trans (congrArg some (by kernel_rfl))
  f197 := Tryd.func79.trans (congrArg some (by kernel_rfl))
  f260 := Tryd.func82.trans (congrArg some (by kernel_rfl))
  f271 := Tryd.func80.trans (congrArg some (by kernel_rfl))
  t0 := Tryd.underlying0
  a0 := Tryd.isAgg0
  z0 := Tryd.sizeOf0
  v0 := Tryd.zeroValue0
  t3 := Tryd.underlying3
  a3 := Tryd.isAgg3
  z3 := Tryd.sizeOf3
  v3 := Tryd.zeroValue3
  t4 := Tryd.underlying4
  a4 := Tryd.isAgg4
  z4 := Tryd.sizeOf4
  v4 := Tryd.zeroValue4
  t5 := Tryd.underlying5
  a5 := Tryd.isAgg5
  z5 := Tryd.sizeOf5
  v5 := Tryd.zeroValue5
  t9 := Tryd.underlying9
  a9 := Tryd.isAgg9
  z9 := Tryd.sizeOf9
  v9 := Tryd.zeroValue9
  t21 := Tryd.underlying21
  a21 := Tryd.isAgg21
  z21 := Tryd.sizeOf21
  v21 := Tryd.zeroValue21
  t46 := Tryd.underlying83
  a46 := Tryd.isAgg83
  z46 := Tryd.sizeOf83
  v46 := Tryd.zeroValue83
  t105 := Tryd.underlying111
  a105 := Tryd.isAgg111
  z105 := Tryd.sizeOf111
  v105 := Tryd.zeroValue111
  t119 := Tryd.underlying113
  a119 := Tryd.isAgg113
  z119 := Tryd.sizeOf113
  t138 := Tryd.underlying115
  a138 := Tryd.isAgg115
  z138 := Tryd.sizeOf115
  v138 := Tryd.zeroValue115
  t139 := Tryd.underlying116
  a139 := Tryd.isAgg116
  z139 := Tryd.sizeOf116
  v139 := Tryd.zeroValue116
  g3 := by kernel_rfl
  g4 := by kernel_rfl }
open Go.RowKit Go.Lib in
theorem Tryd.utf8_DecodeLastRuneInString (s : ByteArray) (w : World) (hs : s.size ≤ 9223372036854775807) (hT : Lib.Utf8Tabs 1 2 w) :
    Calls Tryd.prog 80 #[.string s] w fun e w' => e = .returned (.tuple #[.int .i32 (Lib.decodeLastL s.data.toList).1, .int .i64 (Lib.decodeLastL s.data.toList).2]) ∧ Below w.heap.size w w' := Any.utf8_DecodeLastRuneInString Tryd.lays271 s w hs hT
open Go.RowKit Go.Lib in
theorem Tryd.strings_indexFunc_grows (g : Nat) (lb : Array Value) (eg : ∀ args w, (callFunc g args).run Tryd.prog w = .ok (.enter g args) w) (p : Nat → Bool) (truth : Bool) (s : ByteArray) (w : World) (hp : PredGrows Tryd.prog g lb p w) :
    Calls Tryd.prog 65 #[.string s, .func (.func g) #[] lb, .bool truth] w fun e w' => e = .returned (.int .i64 (Lib.idxFunc p truth s)) ∧ Below w.heap.size w w' := Any.strings_indexFunc_grows Tryd.lays315 g lb eg p truth s w hp
open Go.RowKit Go.Lib in
theorem Tryd.strings_IndexFunc_grows (g : Nat) (lb : Array Value) (eg : ∀ args w, (callFunc g args).run Tryd.prog w = .ok (.enter g args) w) (p : Nat → Bool) (s : ByteArray) (w : World) (hp : PredGrows Tryd.prog g lb p w) :
    Calls Tryd.prog 60 #[.string s, .func (.func g) #[] lb] w fun e w' => e = .returned (.int .i64 (Lib.idxFunc p true s)) ∧ Below w.heap.size w w' := Any.strings_IndexFunc_grows Tryd.laysGw15 g lb eg p s w hp
def Tryd.lays108_ren : Go.Shelf.Ren := ⟨fun | 108 => 40 | n => n, fun | 28 => 77 | 3 => 3 | 0 => 0 | 4 => 4 | n => n, fun | n => n⟩
theorem Tryd.lays108 : Go.Proofs.Lays.n108 Tryd.prog Tryd.lays108_ren := {
  mixed := by kernel_rfl
  f108 := Tryd.func40.trans (congrArg some (by kernel_rfl))
  t0 := Tryd.underlying0
  a0 := Tryd.isAgg0
  z0 := Tryd.sizeOf0
  v0 := Tryd.zeroValue0
  t3 := Tryd.underlying3
  a3 := Tryd.isAgg3
  z3 := Tryd.sizeOf3
  v3 := Tryd.zeroValue3
  t4 := Tryd.underlying4
  a4 := Tryd.isAgg4
  z4 := Tryd.sizeOf4
  v4 := Tryd.zeroValue4
  t28 := Tryd.underlying77
  a28 := Tryd.isAgg77
  z28 := Tryd.sizeOf77
  v28 := Tryd.zeroValue77 }
open Go.Lib in
theorem Tryd.slices_Index_int (b off n c : Nat) (zs : List Int) (x : Int) (w : World) (hz : n ≤ zs.length) (hbig : n ≤ 9223372036854775807) (hc : ∀ j, j < zs.length → w.cell? ⟨b, off + j, none⟩ = some (.int .i64 (zs.getD j 0))) :
    Calls Tryd.prog 40 #[.slice (some ⟨b, off, none⟩) n c, .int .i64 x] w fun e w' => e = .returned (.int .i64 (Lib.idxOf (zs.take n) x)) ∧ w' = w := Any.slices_Index_int Tryd.lays108 b off n c zs x w hz hbig hc
open Go.Lib in
theorem Tryd.slices_Index_int_empty (a : Option Addr) (c : Nat) (x : Int) (w : World) :
    Calls Tryd.prog 40 #[.slice a 0 c, .int .i64 x] w fun e w' => e = .returned (.int .i64 (Lib.idxOf [] x)) ∧ w' = w := Any.slices_Index_int_empty Tryd.lays108 a c x w
end Go.Proofs

namespace Go.Proofs.YtlkhajheecglgaaDoor
open Go Wk
open Go.RowKit (Below)
attribute [local irreducible] Go.Calls

section
variable {P : Program} {n : Nat} {ds : List Deferred} {C : World → Prop} {K : Fr → Prop} {F : Fr} {ops rest : List Oper} {d : Nat} {ty : TypeId} {pos : String} {aft : Array Edge}
theorem Wq.idxStr {x i : Operand} {t : TypeId} {l : List UInt8} {k : IntKind} {j : Int} {b : UInt8} [ht : Und P t .string] (hx : ev n F x = vs l) (hi : ev n F i = .int k j) (h0 : 0 ≤ j) (hj : l[j.toNat]? = some b)
    (c : Wq P n ds C K ops rest (upd F d (.int .u8 b.toNat))) : Wq P n ds C K ops (⟨some d, .index t x i, ty, pos, aft, none⟩ :: rest) F :=
  Wq.val (fun w _ => by simp only [execOp, hx, hi, Sem.run_bind, run_idxStr ht.h h0 hj, Result.andThen_ok, Sem.run_pure]) c
theorem Wq.strFrom {x lo : Operand} {t : TypeId} {l : List UInt8} {k : IntKind} {a : Int} [ht : Und P t .string] (hx : ev n F x = vs l) (hl : ev n F lo = .int k a) (h0 : 0 ≤ a) (h1 : a ≤ l.length)
    (c : Wq P n ds C K ops rest (upd F d (vs (l.drop a.toNat)))) : Wq P n ds C K ops (⟨some d, .slice t x (some lo) none none, ty, pos, aft, none⟩ :: rest) F := by
  obtain ⟨a, rfl⟩ := Int.eq_ofNat_of_zero_le h0
  refine Wq.val (fun w _ => ?_) c
  have := run_sliceStr (P := P) (w := w) (t := t) (l := l) (lo := some (.int k a)) (hi := none) (a := a) (b := l.length) ht.h (.inr ⟨k, rfl⟩) (.inl ⟨rfl, rfl⟩) (by omega) (Nat.le_refl _)
  rw [List.take_length] at this
  simp only [execOp, hx, hl, Option.map_none, Option.map_some, Sem.run_bind, this, Result.andThen_ok, Sem.run_pure, Int.toNat_natCast]
end
theorem IndexByte_spec {w : World} {l : List UInt8} {c : UInt8} : Calls Tryd.prog 55 #[vs l, .int .u8 c.toNat] w (Ret fun r w' => r = vi (Lib.indexByte l c) ∧ w = w') := by
  refine (Tryd.strings_IndexByte ⟨l.toArray⟩ c.toNat w).mono ?_
  rintro e w' ⟨rfl, rfl⟩
  exact ⟨_, rfl, by simp, rfl⟩
theorem SlIndexByte_spec {w : World} {l : List UInt8} {c : UInt8} : Calls Tryd.prog 61 #[vs l, .int .u8 c.toNat] w (Ret fun r w' => r = vi (Lib.indexByte l c) ∧ w = w') := by
  refine (Tryd.stringslite_IndexByte ⟨l.toArray⟩ c.toNat w).mono ?_
  rintro e w' ⟨rfl, rfl⟩
  exact ⟨_, rfl, by simp, rfl⟩
theorem index_iff {l : List UInt8} {c : UInt8} : 0 ≤ Lib.indexByte l c ↔ l.contains c = true := by
  constructor
  · intro h
    obtain ⟨o, ho⟩ := Int.eq_ofNat_of_zero_le h
    exact List.contains_iff_mem.2 (List.mem_of_getElem? (Lib.indexByte_some ho).1)
  · intro h
    have hge := Lib.indexByte_ge l c
    rcases Int.lt_or_le (Lib.indexByte l c) 0 with h0 | h0
    · obtain ⟨k, hk⟩ := List.mem_iff_getElem?.1 (List.contains_iff_mem.1 h)
      exact absurd hk (Lib.indexByte_none (show Lib.indexByte l c = -1 by omega) k)
    · exact h0
theorem signs_ascii : ∀ c ∈ signs, c.toNat < 128 := by rw [signs_eq]; decide
theorem signs_decode : ∀ q < signs.length, Utf8.decode ⟨signs.toArray⟩ q = ((signs.getD q 0).toNat, 1) := by
  intro q hq
  rw [Lib.decode_N]
  refine Lib.decodeN_ascii _ _ _ _ _ ?_
  have : (signs.getD q 0) ∈ signs := by
    rw [List.getD_eq_getElem?_getD, List.getElem?_eq_getElem hq]
    exact List.getElem_mem hq
  exact signs_ascii _ this
theorem ValidRune_spec {w : World} {r : Int} : Calls Tryd.prog 75 #[.int .i32 r] w (Ret fun v w' => v = .bool (Lib.validRune r) ∧ w = w') := by
  refine (Tryd.utf8_ValidRune r w).mono ?_
  rintro e w' ⟨rfl, rfl⟩
  exact ⟨_, rfl, rfl, rfl⟩
/-- The last byte of a rune beyond ASCII. -/
theorem encode_by (c : Nat) (hc : 128 ≤ c) (e : ByteArray) (he : e = if c < 0x80 then ⟨#[UInt8.ofNat c]⟩ else if c < 0x800 then ⟨#[UInt8.ofNat (0xC0 + c / 64), UInt8.ofNat (0x80 + c % 64)]⟩
      else if c < 0x10000 then ⟨#[UInt8.ofNat (0xE0 + c / 4096), UInt8.ofNat (0x80 + c / 64 % 64), UInt8.ofNat (0x80 + c % 64)]⟩ else ⟨#[UInt8.ofNat (0xF0 + c / 262144), UInt8.ofNat (0x80 + c / 4096 % 64), UInt8.ofNat (0x80 + c / 64 % 64), UInt8.ofNat (0x80 + c % 64)]⟩) :
    ∃ l k, e.data.toList = l ++ [k] ∧ 128 ≤ k.toNat ∧ 1 ≤ l.length ∧ l.length ≤ 3 := by
  have hb : ∀ m, 128 ≤ (UInt8.ofNat (0x80 + m % 64)).toNat := fun m => by rw [UInt8.toNat_ofNat']; omega
  rw [if_neg (by omega)] at he
  split at he
  · exact ⟨[_], _, by rw [he]; rfl, hb c, by simp, by simp⟩
  · split at he
    · exact ⟨[_, _], _, by rw [he]; rfl, hb c, by simp, by simp⟩
    · exact ⟨[_, _, _], _, by rw [he]; rfl, hb c, by simp, by simp⟩
theorem encode_last {r : Nat} (h0 : 128 ≤ r) : ∃ l c, (Utf8.encode (r : Int)).data.toList = l ++ [c] ∧ 128 ≤ c.toNat ∧ 1 ≤ l.length ∧ l.length ≤ 3 := by
  refine encode_by (if Utf8.valid (r : Int) = true then ((r : Int)).toNat else Utf8.runeError) ?_ _ rfl
  split
  · simpa using h0
  · unfold Utf8.runeError; omega
theorem u8_of {r : Nat} (h : r < 256) : IntKind.u8.wrap (r : Int) = ((UInt8.ofNat r).toNat : Int) := by
  rw [UInt8.toNat_ofNat', IntKind.wrap_u8]
  omega
set_option maxRecDepth 20000 in
theorem IndexRune_spec {w : World} {r : Nat} (hr : r ≤ 1114111) :
    Calls Tryd.prog 64 #[vs signs, .int .i32 r] w (Ret fun v w' => (∃ k, v = vi k ∧ (0 ≤ k ↔ r < 128 ∧ signs.contains (UInt8.ofNat r) = true)) ∧ New w w') := by
  have hlen : signs.length = 44 := by rw [signs_eq]; rfl
  refine calls_of_Wc Tryd.func64 rfl Tryd.ntmps64 rfl ?_
  (repeat' (first | refine Wl.moveE (by conv => { lhs; whnf }) ?_ | refine Wl.assignE (by conv => { lhs; whnf }) ?_ | refine Wl.nil ?_ | refine Wl.guardY rfl rfl ?_ | refine Wl.pickTE rfl (by conv => { lhs; whnf }) ?_ | refine Qseq.normal ?_ | refine Wc.seq ?_ | refine Wc.region ?_ | refine Wc.block ?_ | refine Wc.condT rfl ?_ | refine Wc.condF rfl ?_ | refine Wl.convI rfl ?_ | refine Wl.lss rfl rfl (fun _ => ?_) (fun _ => ?_) | (refine Wl.leq rfl rfl (fun _ => ?_) (fun _ => ?_) <;> (first | (exfalso; omega) | skip)) | refine Wl.eql rfl rfl (fun _ => ?_) (fun _ => ?_)))
  · refine Wl.call (IndexByte_spec (l := signs) (c := UInt8.ofNat r)) (by rw [← u8_of (by omega)]; rfl) ?_
    rintro _ _ ⟨rfl, rfl⟩
    (repeat' (first | refine Wl.assignE (by conv => { lhs; whnf }) ?_ | refine Wl.nil ?_ | refine Qseq.normal ?_ | refine Wc.ret ?_ | refine Qblk.ret ?_))
    refine Qfn.ret1 rfl rfl ⟨_, rfl, ⟨_, rfl, ?_⟩, Chg.refl _ _⟩
    rw [index_iff]
    exact ⟨fun h => ⟨by omega, h⟩, fun h => h.2⟩
  · refine Wl.rangeS rfl fun w1 h1 n1 s1 => ?_
    (repeat' (first | refine Wl.nil ?_ | refine Qseq.normal ?_ | refine Wc.block ?_))
    refine Wc.loop (σ := Nat) (fun q => [(0, vs signs), (1, .int .i32 r), (175, .pointer (some ⟨w.heap.size, 0, none⟩))]) (fun q w' => q ≤ signs.length ∧ w'.heap[w.heap.size]? = some (.stringIter ⟨signs.toArray⟩ q) ∧ New w w') (fun q => signs.length - q) 0 ⟨rfl, rfl, rfl, trivial⟩ ⟨Nat.zero_le _, h1, n1⟩ ?_
    rintro q G w2 ⟨hq, h2, n2⟩
    simp only [upds]
    by_cases hlt : q < signs.length
    · have hd := signs_decode q hlt
      have ha := signs_ascii _ (List.getElem_mem hlt)
      have hg : (signs.getD q 0) = signs[q] := by rw [List.getD_eq_getElem?_getD, List.getElem?_eq_getElem hlt]; rfl
      (repeat' (first | refine Wc.seq ?_ | refine Wc.region ?_))
      refine Wl.nextS rfl h2 hlt fun w3 h3 c3 => ?_
      rw [hd, hg] at h3 ⊢
      (repeat' (first | refine Wl.moveE (by conv => { lhs; whnf }) ?_ | refine Wl.assignE (by conv => { lhs; whnf }) ?_ | refine Wl.nil ?_ | refine Wl.extract rfl rfl ?_ | refine Qseq.normal ?_ | refine Wc.seq ?_ | refine Wc.region ?_ | refine Wc.block ?_ | refine Wc.skip ?_ | refine Qblk.normal ?_ | refine Wc.condT rfl ?_ | refine Wc.condF rfl ?_ | (refine Wl.eql rfl rfl (fun _ => ?_) (fun _ => ?_) <;> (first | (exfalso; omega) | skip))))
      exact Qloop.normal (q + 1) ⟨rfl, rfl, rfl, trivial⟩ ⟨by omega, h3, Chg.trans n2 c3 fun b hb e => by omega⟩ (by omega)
    · (repeat' (first | refine Wc.seq ?_ | refine Wc.region ?_))
      refine Wl.nextE rfl h2 (by omega) ?_
      (repeat' (first | refine Wl.assignE (by conv => { lhs; whnf }) ?_ | refine Wl.nil ?_ | refine Wl.extract rfl rfl ?_ | refine Qseq.normal ?_ | refine Wc.seq ?_ | refine Wc.region ?_ | refine Wc.exit ?_ | refine Wc.ret ?_ | refine Qseq.exit ?_ | refine Qblk.ret ?_ | refine Qblk.hit ?_ | refine Qloop.exit ?_ | refine Wc.condF rfl ?_))
      exact Qfn.ret1 rfl rfl ⟨_, rfl, ⟨-1, rfl, by omega⟩, n2⟩
  · have h128 : 128 ≤ r := by omega
    refine Wl.call ValidRune_spec rfl ?_
    rintro _ _ ⟨rfl, rfl⟩
    cases hv : Lib.validRune (r : Int) with
    | false =>
      (repeat' (first | refine Wl.assignE (by conv => { lhs; whnf }) ?_ | refine Wl.nil ?_ | refine Wl.notB rfl ?_ | refine Qseq.normal ?_ | refine Wc.seq ?_ | refine Wc.region ?_ | refine Wc.ret ?_ | refine Qblk.ret ?_ | refine Wc.condT rfl ?_))
      exact Qfn.ret1 rfl rfl ⟨_, rfl, ⟨-1, rfl, by omega⟩, Chg.refl _ _⟩
    | true =>
      (repeat' (first | refine Wl.moveE (by conv => { lhs; whnf }) ?_ | refine Wl.assignE (by conv => { lhs; whnf }) ?_ | refine Wl.nil ?_ | refine Wl.notB rfl ?_ | refine Qseq.normal ?_ | refine Wc.seq ?_ | refine Wc.region ?_ | refine Wc.scope ?_ | refine Wc.condF rfl ?_))
      refine Wl.runeStr ⟨_, rfl⟩ rfl ?_
      obtain ⟨el, c, hel, hc, hl1, hl2⟩ := encode_last h128
      rw [hel]
      clear hel hv
      have hlen2 : (el ++ [c]).length = el.length + 1 := by simp
      have hcn : (signs.drop (el.length + 1)).contains c = false := by
        rw [Bool.eq_false_iff]
        intro h
        have := signs_ascii c (List.mem_of_mem_drop (List.contains_iff_mem.1 h))
        omega
      (repeat' (first | refine Wl.moveE (by conv => { lhs; whnf }) ?_ | refine Wl.assignE (by conv => { lhs; whnf }) ?_ | refine Wl.nil ?_ | refine Wl.lenStr rfl ?_ | refine Qseq.normal ?_ | refine Wc.seq ?_ | refine Wc.region ?_ | refine Wc.block ?_ | refine Wl.sub rfl rfl (by omega) (by omega) ?_))
      refine Wc.loop (σ := Unit) (fun _ => [(0, vs signs), (7, vs (el ++ [c])), (8, vi (((el ++ [c]).length : Int) - 1)), (9, vi (((el ++ [c]).length : Int) - 1))]) (fun _ w' => w' = w) (fun _ => 0) () ⟨rfl, rfl, rfl, rfl, trivial⟩ rfl ?_
      rintro _ G _ rfl
      simp only [upds]
      obtain ⟨x, hx⟩ := get_lt signs (k := el.length) (by omega)
      have hx2 := signs_ascii x (List.mem_of_getElem? hx)
      have hcl : (el ++ [c])[el.length]? = some c := by rw [List.getElem?_append_right (Nat.le_refl _)]; simp
      have e1 : (((el ++ [c]).length : Int) - 1).toNat = el.length := by omega
      (repeat' (first | refine Wl.moveE (by conv => { lhs; whnf }) ?_ | refine Wl.nil ?_ | refine Wl.lenStr rfl ?_ | refine Qseq.normal ?_ | refine Wc.seq ?_ | refine Wc.region ?_ | refine Wc.block ?_ | refine Wc.skip ?_ | refine Wc.scope ?_ | refine Wc.condT rfl ?_ | (refine Wl.lss rfl rfl (fun _ => ?_) (fun _ => ?_) <;> (first | (exfalso; omega) | skip))))
      refine Wc.regionN rfl (by kernel_rfl) ?_
      (repeat' (refine Wq.moveE (by conv => { lhs; whnf }) ?_))
      refine Wq.idxStr (l := signs) rfl rfl (by omega) (b := x) (by rw [e1]; exact hx) ?_
      (repeat' (refine Wq.moveE (by conv => { lhs; whnf }) ?_))
      refine Wq.idxStr (l := el ++ [c]) rfl rfl (by omega) (b := c) (by rw [e1]; exact hcl) ?_
      (repeat' (first | refine Wq.nil ?_ | (refine Wq.neq rfl rfl (fun _ => ?_) (fun _ => ?_) <;> (first | (exfalso; omega) | skip))))
      intro w1 n1
      (repeat' (first | refine Qseq.normal ?_ | refine Wc.seq ?_ | refine Wc.condT rfl ?_))
      refine Wc.regionN rfl (by kernel_rfl) ?_
      (repeat' (first | refine Wq.moveE (by conv => { lhs; whnf }) ?_ | refine Wq.add rfl rfl (by omega) (by omega) ?_))
      refine Wq.strFrom (l := signs) rfl rfl (by omega) (by omega) ?_
      rw [show (((el ++ [c]).length : Int) - 1 + 1).toNat = el.length + 1 by omega]
      (repeat' (refine Wq.moveE (by conv => { lhs; whnf }) ?_))
      refine Wq.idxStr (l := el ++ [c]) rfl rfl (by omega) (b := c) (by rw [e1]; exact hcl) ?_
      refine Wq.call (v := vi (Lib.indexByte (signs.drop (el.length + 1)) c)) (fun w' hw => (IndexByte_spec (l := signs.drop (el.length + 1)) (c := c)).mono ?_) rfl ?_
      · rintro _ w'' ⟨r', rfl, rfl, rfl⟩
        exact ⟨rfl, hw⟩
      (repeat' (first | refine Wq.assignE (by conv => { lhs; whnf }) ?_ | refine Wq.nil ?_))
      intro w2 n2
      have hneg : Lib.indexByte (signs.drop (el.length + 1)) c < 0 := by
        rcases Int.lt_or_le (Lib.indexByte (signs.drop (el.length + 1)) c) 0 with h | h
        · exact h
        · rw [index_iff, hcn] at h; cases h
      (repeat' (first | refine Wl.moveE (by conv => { lhs; whnf }) ?_ | refine Wl.assignE (by conv => { lhs; whnf }) ?_ | refine Wl.nil ?_ | refine Qseq.normal ?_ | refine Wc.seq ?_ | refine Wc.region ?_ | refine Wc.ret ?_ | refine Qseq.ret ?_ | refine Qsc.ret ?_ | refine Qblk.ret ?_ | refine Qloop.ret ?_ | refine Wc.condT rfl ?_ | (refine Wl.lss rfl rfl (fun _ => ?_) (fun _ => ?_) <;> (first | (exfalso; omega) | skip))))
      exact Qfn.ret1 rfl rfl ⟨_, rfl, ⟨-1, rfl, by omega⟩, New.trans n1 n2⟩
def sgB (r : Nat) : Bool := decide (r < 128) && signs.contains (UInt8.ofNat r)
theorem ContainsRune_spec {w : World} {r : Nat} (hr : r ≤ 1114111) :
    Calls Tryd.prog 59 #[vs signs, .int .i32 r] w (Ret fun v w' => v = .bool (sgB r) ∧ New w w') := by
  refine calls_of_Wc Tryd.func59 rfl Tryd.ntmps59 rfl ?_
  (repeat' (first | refine Wl.moveE (by conv => { lhs; whnf }) ?_ | refine Wl.assignE (by conv => { lhs; whnf }) ?_ | refine Wl.nil ?_ | refine Qseq.normal ?_ | refine Wc.seq ?_ | refine Wc.region ?_))
  refine Wl.call (IndexRune_spec hr) rfl ?_
  rintro _ w1 ⟨⟨k, rfl, hk⟩, n1⟩
  unfold sgB
  (repeat' (first | refine Wl.assignE (by conv => { lhs; whnf }) ?_ | refine Wl.nil ?_ | refine Qseq.normal ?_ | refine Wc.ret ?_ | refine Wl.geq rfl rfl (fun _ => ?_) (fun _ => ?_)))
  · have h := hk.1 (by omega)
    refine Qfn.ret1 rfl rfl ⟨_, rfl, ?_, n1⟩
    rw [decide_eq_true h.1, h.2]; rfl
  · have h : ¬ (r < 128 ∧ signs.contains (UInt8.ofNat r) = true) := fun e => by have := hk.2 e; omega
    refine Qfn.ret1 rfl rfl ⟨_, rfl, ?_, n1⟩
    by_cases h1 : r < 128
    · have h2 : signs.contains (UInt8.ofNat r) = false := by
        rw [Bool.eq_false_iff]; exact fun e => h ⟨h1, e⟩
      rw [h2, Bool.and_false]
      rfl
    · rw [decide_eq_false h1]
      rfl
theorem odd_spec {w : World} {r : Nat} (hr : r ≤ 1114111) :
    Calls Tryd.prog 58 #[.int .i32 r] w (Ret fun v w' => v = .bool (!sgB r) ∧ New w w') := by
  refine calls_of_Wc Tryd.func58 rfl Tryd.ntmps58 rfl ?_
  (repeat' (first | refine Wl.moveE (by conv => { lhs; whnf }) ?_ | refine Wl.assignE (by conv => { lhs; whnf }) ?_ | refine Wl.nil ?_ | refine Qseq.normal ?_ | refine Wc.seq ?_ | refine Wc.region ?_))
  refine Wl.call (ContainsRune_spec hr) (by unfold vs; rw [signs_eq]; rfl) ?_
  rintro _ w1 ⟨rfl, n1⟩
  (repeat' (first | refine Wl.assignE (by conv => { lhs; whnf }) ?_ | refine Wl.nil ?_ | refine Wl.notB rfl ?_ | refine Qseq.normal ?_ | refine Wc.ret ?_))
  exact Qfn.ret1 rfl rfl ⟨_, rfl, rfl, n1⟩
theorem rune_big {n b0 b1 b2 b3 : Nat} (h : 128 ≤ b0) : 128 ≤ (Lib.decodeN n b0 b1 b2 b3).1 := by
  unfold Lib.decodeN
  rw [if_neg (by omega)]
  repeat' split
  all_goals (dsimp only; omega)
theorem idx_signs (s : List UInt8) : ∀ (f q : Nat), s.length ≤ q + f → (Lib.idxFuncFrom (fun r => !sgB r) true ⟨s.toArray⟩ f q < 0 ↔ (s.drop q).all (fun c => signs.contains c) = true)
  | 0, q, h => by
    rw [List.drop_eq_nil_of_le (by omega)]
    simp [Lib.idxFuncFrom]
  | f + 1, q, h => by
    unfold Lib.idxFuncFrom
    by_cases hq : q < s.length
    · rw [if_pos (by simpa [ByteArray.size] using hq)]
      obtain ⟨c, hc⟩ := get_lt s hq
      have hg : s.getD q 0 = c := by rw [List.getD_eq_getElem?_getD, hc]; rfl
      have hd : Utf8.decode ⟨s.toArray⟩ q = Lib.decodeN (s.length - q) c.toNat (s.getD (q + 1) 0).toNat (s.getD (q + 2) 0).toNat (s.getD (q + 3) 0).toNat := by
        have := Lib.decode_N ⟨s.toArray⟩ q
        simp only [hg] at this
        exact this
      rw [hd, drop_cons hc, List.all_cons]
      by_cases h128 : c.toNat < 128
      · rw [Lib.decodeN_ascii _ _ _ _ _ h128]
        have hs : sgB c.toNat = signs.contains c := by
          unfold sgB
          rw [decide_eq_true h128, Bool.true_and]
          congr 1
          apply UInt8.toNat_inj.1
          rw [UInt8.toNat_ofNat']; omega
        cases hsc : signs.contains c with
        | true =>
          rw [if_neg (by rw [hs, hsc]; simp), Bool.true_and]
          exact idx_signs s f (q + 1) (by omega)
        | false =>
          rw [if_pos (by rw [hs, hsc]; rfl), Bool.false_and]
          exact ⟨fun e => by omega, fun e => by cases e⟩
      · have hbig := rune_big (n := s.length - q) (b0 := c.toNat) (b1 := (s.getD (q + 1) 0).toNat) (b2 := (s.getD (q + 2) 0).toNat) (b3 := (s.getD (q + 3) 0).toNat) (by omega)
        have hs : sgB (Lib.decodeN (s.length - q) c.toNat (s.getD (q + 1) 0).toNat (s.getD (q + 2) 0).toNat (s.getD (q + 3) 0).toNat).1 = false := by
          unfold sgB; rw [decide_eq_false (by omega), Bool.false_and]
        have hsc : signs.contains c = false := by
          rw [Bool.eq_false_iff]
          intro e
          exact h128 (signs_ascii c (List.contains_iff_mem.1 e))
        rw [if_pos (by rw [hs]; rfl), hsc, Bool.false_and]
        exact ⟨fun e => by omega, fun e => by cases e⟩
    · rw [if_neg (by simpa [ByteArray.size] using hq), List.drop_eq_nil_of_le (by omega)]
      simp
theorem name_spec {w : World} {s : List UInt8} : Calls Tryd.prog 41 #[vs s] w (Ret fun r w' => r = .bool (nameOk s) ∧ New w w') := by
  refine calls_of_Wc Tryd.func41 rfl Tryd.ntmps41 rfl ?_
  unfold nameOk
  (repeat' (first | refine Wl.moveE (by conv => { lhs; whnf }) ?_ | refine Wl.assignE (by conv => { lhs; whnf }) ?_ | refine Wl.nil ?_ | refine Wl.guardY rfl rfl ?_ | refine Wl.guardN rfl rfl ?_ | refine Wl.pickTE rfl (by conv => { lhs; whnf }) ?_ | refine Wl.pickFE rfl (by conv => { lhs; whnf }) ?_ | refine Wl.lenStr rfl ?_ | refine Qseq.normal ?_ | refine Wc.seq ?_ | refine Wc.region ?_ | refine Wc.ret ?_ | refine Wl.leq rfl rfl (fun _ => ?_) (fun _ => ?_) | refine Wl.sneq rfl rfl (fun _ => ?_) (fun _ => ?_)))
  · rename_i hne hle
    refine Wl.callV (dst := some 14) (first := #[]) (cap := #[]) (vs := [vs s, .func (.func 58) #[] #[]]) (φ := fun r w' => r = vi (Lib.idxFunc (fun r => !sgB r) true ⟨s.toArray⟩) ∧ New w w') rfl ?_ rfl ?_
    · have eg : ∀ args w, (callFunc 58 args).run Tryd.prog w = .ok (.enter 58 args) w := fun args w => run_callFunc inferInstance args
      refine (Tryd.strings_IndexFunc_grows 58 #[] eg (fun r => !sgB r) ⟨s.toArray⟩ w ?_).mono ?_
      · intro W x hx hb
        refine (odd_spec (w := W) hx).mono ?_
        rintro e w' ⟨v, rfl, rfl, n⟩
        exact ⟨rfl, n.below⟩
      · rintro e w' ⟨rfl, hb⟩
        exact ⟨_, rfl, rfl, New.ofBelow hb⟩
    · rintro _ w1 ⟨rfl, n1⟩
      have hi := idx_signs s s.length 0 (by omega)
      rw [List.drop_zero] at hi
      have hd : decide (s ≠ [] ∧ s.length ≤ 31) = true := decide_eq_true ⟨hne, by omega⟩
      have hf : Lib.idxFunc (fun r => !sgB r) true ⟨s.toArray⟩ = Lib.idxFuncFrom (fun r => !sgB r) true ⟨s.toArray⟩ s.length 0 := rfl
      rw [hd, Bool.true_and]
      rw [hf]
      show Wl _ _ _ _ _ _ (upd _ 14 _) _
      (repeat' (first | refine Wl.assignE (by conv => { lhs; whnf }) ?_ | refine Wl.nil ?_ | refine Wl.guardY rfl rfl ?_ | refine Wl.pickTE rfl (by conv => { lhs; whnf }) ?_ | refine Qseq.normal ?_ | refine Wc.ret ?_ | refine Wl.lss rfl rfl (fun _ => ?_) (fun _ => ?_)))
      · rw [hi.1 (by assumption)]
        exact Qfn.ret1 rfl rfl ⟨_, rfl, rfl, n1⟩
      · have : (s.all fun c => signs.contains c) = false := by
          rw [Bool.eq_false_iff]
          intro e
          have := hi.2 e
          omega
        rw [this]
        exact Qfn.ret1 rfl rfl ⟨_, rfl, rfl, n1⟩
  · rw [decide_eq_false (by omega)]
    exact Qfn.ret1 rfl rfl ⟨_, rfl, rfl, Chg.refl _ _⟩
  · rename_i h
    rw [decide_eq_false (by simp [h])]
    exact Qfn.ret1 rfl rfl ⟨_, rfl, rfl, Chg.refl _ _⟩
end Go.Proofs.YtlkhajheecglgaaDoor

namespace Go.Proofs.YtlkhajheecglgaaDoor.Wk
open Go Go.RowKit

/-- What a lookup may tell. -/
def Tells (l : List (Value × Value)) (key z r : Value) : Prop := (key, r) ∈ l ∨ r = z ∧ ∀ p ∈ l, p.1 ≠ key
/-- A map with the stamps of its entries. -/
def MapK (P : Program) (k : TypeId) (w : World) (b : Nat) (l : List (Value × Value)) : Prop :=
  ∃ es clock, w.heap[b]? = some (.map es clock) ∧ es.toList.map (fun e => (e.key, e.val)) = l ∧ (∀ e ∈ es.toList, ∃ q, keyOf P k e.key = some q) ∧ (∀ e ∈ es.toList, e.born < clock) ∧ (es.toList.map (·.born)).Nodup
theorem MapK.toL {P : Program} {k : TypeId} {w : World} {b : Nat} {l : List (Value × Value)} (h : MapK P k w b l) : MapL P k w b l := by
  obtain ⟨es, clock, h1, h2, h3, _⟩ := h
  exact ⟨es, clock, h1, h2, h3⟩
theorem MapK.chg {P : Program} {k : TypeId} {w w' : World} {M : Nat → Prop} {b : Nat} {l : List (Value × Value)} (h : MapK P k w b l) (hc : Chg M w w') (hb : ¬ M b) : MapK P k w' b l := by
  have hl := h.toL.lt
  obtain ⟨es, clock, h, r⟩ := h
  exact ⟨es, clock, (hc.block b hl hb).trans h, r⟩
/-- An entry has been found or laid; it waits for its value. -/
def MapP (P : Program) (k : TypeId) (w : World) (b : Nat) (l : List (Value × Value)) (stamp j : Nat) : Prop :=
  ∃ es clock, w.heap[b]? = some (.map es clock) ∧ es.toList.map (fun e => (e.key, e.val)) = l ∧ (∀ e ∈ es.toList, ∃ q, keyOf P k e.key = some q) ∧ (∀ e ∈ es.toList, e.born < clock) ∧ (es.toList.map (·.born)).Nodup ∧ ∃ e, es.toList[j]? = some e ∧ e.born = stamp
theorem MapP.toL {P : Program} {k : TypeId} {w : World} {b : Nat} {l : List (Value × Value)} {stamp j : Nat} (h : MapP P k w b l stamp j) : MapL P k w b l := by
  obtain ⟨es, clock, h1, h2, h3, _⟩ := h
  exact ⟨es, clock, h1, h2, h3⟩
theorem pair_set {l : List (Value × Value)} {key v u : Value} {j : Nat} (hj : l[j]? = some (key, v)) (hnd : (l.map (·.1)).Nodup) : (key, u) ∈ l.set j (key, u) ∧ ∀ r, (key, r) ∈ l.set j (key, u) → r = u := by
  have hjl := (List.getElem?_eq_some_iff.1 hj).1
  refine ⟨List.mem_iff_getElem?.2 ⟨j, by rw [List.getElem?_set, if_pos rfl, if_pos hjl]⟩, fun r hr => ?_⟩
  obtain ⟨i, hi⟩ := List.mem_iff_getElem?.1 hr
  rw [List.getElem?_set] at hi
  split at hi
  · simp only [Option.some.injEq, Prod.mk.injEq] at hi
    exact hi.2.symm
  · rename_i hne
    exfalso
    have h1 : (l.map (·.1))[i]? = some key := by rw [List.getElem?_map, hi]; rfl
    have h2 : (l.map (·.1))[j]? = some key := by rw [List.getElem?_map, hj]; rfl
    have hil := (List.getElem?_eq_some_iff.1 h1).1
    exact hne ((List.getElem?_inj hil hnd).1 (h1.trans h2.symm)).symm
section
variable {P : Program} {n : Nat} {ds : List Deferred} {Q : Po} {F : Fr} {w w' : World} {ops rest : List Oper} {d : Nat} {ty : TypeId} {pos : String} {aft : Array Edge}
theorem run_lookupOk {t k e : TypeId} {sz bytes : Nat} {agg : Bool} {z : Value} {b : Nat} {l : List (Value × Value)} {key : Value} {q : Lit} (ht : P.underlying t = some (.map k e)) (he : ElT P e sz bytes agg z) (Kd : Maps.Keyed P k) (h : MapL P k w b l) (hq : keyOf P k key = some q) :
    ∃ r f, (Instr.lookup t (.map (some b)) key true).run P w = .ok (.tuple #[r, .bool f]) w ∧ (f = true ∧ (key, r) ∈ l ∨ f = false ∧ r = z ∧ ∀ p ∈ l, p.1 ≠ key) := by
  obtain ⟨es, clock, hh, rfl, hk⟩ := h
  have hg := run_getObj_map (P := P) w b es clock hh
  rcases Kd.find w hq es.toList hk with ⟨hf, hn⟩ | ⟨j, e0, hf, hj, rfl⟩
  · refine ⟨z, false, ?_, .inr ⟨rfl, rfl, fun p hp => ?_⟩⟩
    · simp [Instr.lookup, run_underlying ht, hg, Kd.check w _ hq, hf, he.zeroValue]
    · obtain ⟨e1, he1, rfl⟩ := List.mem_map.1 hp; exact hn e1 he1
  · refine ⟨e0.val, true, ?_, .inl ⟨rfl, List.mem_map.2 ⟨e0, List.mem_of_getElem? hj, rfl⟩⟩⟩
    simp [Instr.lookup, run_underlying ht, hg, Kd.check w _ hq, hf]
/-- v, ok := m[k]. -/
theorem Wl.lookupOk {x i : Operand} {t k e : TypeId} {sz bytes : Nat} {agg : Bool} {z : Value} {b : Nat} {l : List (Value × Value)} {key : Value} {q : Lit} [ht : Und P t (.map k e)] [he : ElT P e sz bytes agg z] (Kd : Maps.Keyed P k) (h : MapL P k w b l) (hq : keyOf P k key = some q)
    (hx : ev n F x = .map (some b)) (hi : ev n F i = key) (c1 : ∀ r, (key, r) ∈ l → Wl P n ds Q ops rest (upd F d (.tuple #[r, .bool true])) w) (c2 : (∀ p ∈ l, p.1 ≠ key) → Wl P n ds Q ops rest (upd F d (.tuple #[z, .bool false])) w) :
    Wl P n ds Q ops (⟨some d, .lookup t x i true, ty, pos, aft, none⟩ :: rest) F w := by
  obtain ⟨r, f, hr, ⟨rfl, hp⟩ | ⟨rfl, rfl, hp⟩⟩ := run_lookupOk ht.h he Kd h hq
  · exact Wl.val (by simp only [execOp, hx, hi, Sem.run_bind, hr, Result.andThen_ok, Sem.run_pure]) (c1 r hp)
  · exact Wl.val (by simp only [execOp, hx, hi, Sem.run_bind, hr, Result.andThen_ok, Sem.run_pure]) (c2 hp)
/-- m[k] = u where k was there. -/
theorem Wl.mapSet {x i y : Operand} {t k e : TypeId} {b : Nat} {l : List (Value × Value)} {key v0 u : Value} {q : Lit} [ht : Und P t (.map k e)] (Kd : Maps.Keyed P k) (h : MapL P k w b l) (hq : keyOf P k key = some q) (hin : (key, v0) ∈ l) (hnd : (l.map (·.1)).Nodup)
    (hx : ev n F x = .map (some b)) (hi : ev n F i = key) (hy : ev n F y = u) (c : ∀ w' l', MapL P k w' b l' → (key, u) ∈ l' → (∀ r, (key, r) ∈ l' → r = u) → Chg (fun j => j = b) w w' → Wl P n ds Q ops rest F w') :
    Wl P n ds Q ops (⟨none, .mapUpdate t x i y, ty, pos, aft, none⟩ :: rest) F w := by
  have hlt := h.lt
  obtain ⟨es, clock, hh, rfl, hk⟩ := h
  have hg := run_getObj_map (P := P) w b es clock hh
  rcases Kd.find w hq es.toList hk with ⟨hf, hn⟩ | ⟨j, e0, hf, hj, rfl⟩
  · obtain ⟨e1, he1, e2⟩ := List.mem_map.1 hin
    simp only [Prod.mk.injEq] at e2
    exact absurd e2.1 (hn e1 he1)
  · let es' := es.modify j fun e => { e with key := e0.key, val := u }
    have hl' : es'.toList = es.toList.set j { e0 with val := u } := by
      have hjs := (List.getElem?_eq_some_iff.1 hj)
      apply List.ext_getElem?
      intro m
      simp only [es', Array.getElem?_toList, Array.getElem?_modify, List.getElem?_set]
      by_cases hm : j = m
      · subst hm
        simp only [if_true]
        rw [if_pos hjs.1]
        rw [Array.getElem?_toList] at hj
        rw [hj]; rfl
      · rw [if_neg hm, if_neg hm]
    have h1 : (w.heap.setIfInBounds b (.map es' clock))[b]? = some (.map es' clock) := by simp [Array.getElem?_setIfInBounds, hlt]
    have hset : (setObj b (.map es' clock)).run P w = .ok () { w with heap := w.heap.setIfInBounds b (.map es' clock) } := by simp [setObj, Sem.run, hh]
    have hpj : (es.toList.map (fun e => (e.key, e.val)))[j]? = some (e0.key, e0.val) := by rw [List.getElem?_map, hj]; rfl
    have hmap : es'.toList.map (fun e => (e.key, e.val)) = (es.toList.map (fun e => (e.key, e.val))).set j (e0.key, u) := by rw [hl', List.map_set]
    obtain ⟨p1, p2⟩ := pair_set (u := u) hpj hnd
    refine Wl.unit (w' := { w with heap := w.heap.setIfInBounds b (.map es' clock) }) ?_ (c _ _ ⟨_, _, h1, hmap, fun e he => ?_⟩ p1 p2 ⟨rfl, rfl, rfl, by simp, fun j _ hj => Array.getElem?_setIfInBounds_ne (Ne.symm hj)⟩)
    · have hst := Kd.stays w hq
      have hj' : es[j]? = some e0 := by rw [Array.getElem?_toList] at hj; exact hj
      simp [execOp, hx, hi, hy, Instr.mapUpdate, run_underlying ht.h, hg, Kd.check w _ hq, hf, hj', hst, hset, es']
    · rw [hl'] at he
      rcases List.mem_or_eq_of_mem_set he with he | rfl
      · exact hk e he
      · exact hk e0 (List.mem_of_getElem? hj)
theorem Wl.mapEntry {x i : Operand} {t k e sz bytes : Nat} {agg : Bool} {z : Value} {b : Nat} {l : List (Value × Value)} {key : Value} {q : Lit} [ht : Und P t (.map k e)] [he : ElT P e sz bytes agg z] (Kd : Maps.Keyed P k) (h : MapK P k w b l) (hq : keyOf P k key = some q)
    (hx : ev n F x = .map (some b)) (hi : ev n F i = key)
    (c : ∀ w' l' j v stamp, MapP P k w' b l' stamp j → (l' = l ++ [(key, z)] ∧ j = l.length ∧ v = z ∧ (∀ p ∈ l, p.1 ≠ key) ∨ l' = l ∧ l[j]? = some (key, v)) → Chg (fun j => j = b) w w' → Wl P n ds Q ops rest (upd F d (.tuple #[v, vi (stamp : Nat)])) w') :
    Wl P n ds Q ops (⟨some d, .mapEntry t x i, ty, pos, aft, none⟩ :: rest) F w := by
  have hlt := h.toL.lt
  obtain ⟨es, clock, hh, rfl, hk, hb, hnb⟩ := h
  have hg := run_getObj_map (P := P) w b es clock hh
  have hrun : ∀ o, (setObj b o).run P w = .ok () { w with heap := w.heap.setIfInBounds b o } ∨ True := fun _ => .inr trivial
  rcases Kd.find w hq es.toList hk with ⟨hf, hn⟩ | ⟨j, e0, hf, hj, rfl⟩
  · let es' := es.push { key, val := z, born := clock }
    have h1 : (w.heap.setIfInBounds b (.map es' (clock + 1)))[b]? = some (.map es' (clock + 1)) := by simp [Array.getElem?_setIfInBounds, hlt]
    have hset : (setObj b (.map es' (clock + 1))).run P w = .ok () { w with heap := w.heap.setIfInBounds b (.map es' (clock + 1)) } := by simp [setObj, Sem.run, hh]
    refine Wl.val (w' := { w with heap := w.heap.setIfInBounds b (.map es' (clock + 1)) }) (v := .tuple #[z, vi (clock : Nat)]) ?_ (c _ _ es.toList.length z clock ⟨es', clock + 1, h1, rfl, fun e he => ?_, fun e he => ?_, ?_, ⟨{ key, val := z, born := clock }, ?_, rfl⟩⟩ (.inl ⟨by simp [es'], by simp, rfl, fun p hp => ?_⟩) ⟨rfl, rfl, rfl, by simp, fun j _ hj => Array.getElem?_setIfInBounds_ne (Ne.symm hj)⟩)
    · simp [execOp, hx, hi, Instr.mapEntry, run_underlying ht.h, hg, Kd.check w _ hq, hf, he.zeroValue, hset, es', goInt]
    · simp only [es', Array.toList_push, List.mem_append, List.mem_singleton] at he
      rcases he with he | rfl
      · exact hk e he
      · exact ⟨q, hq⟩
    · simp only [es', Array.toList_push, List.mem_append, List.mem_singleton] at he
      rcases he with he | rfl
      · have := hb e he; omega
      · exact Nat.lt_succ_self _
    · simp only [es', Array.toList_push, List.map_append, List.map_cons, List.map_nil]
      rw [List.nodup_append]
      refine ⟨hnb, by simp, fun a ha c hc => ?_⟩
      obtain ⟨e1, he1, rfl⟩ := List.mem_map.1 ha
      simp only [List.mem_singleton] at hc
      have := hb e1 he1
      omega
    · simp [es']
    · obtain ⟨e1, he1, rfl⟩ := List.mem_map.1 hp
      exact hn e1 he1
  · let es' := es.modify j fun e => { e with key := e0.key }
    have hl' : es'.toList = es.toList := by
      apply List.ext_getElem?
      intro m
      simp only [es', Array.getElem?_toList, Array.getElem?_modify]
      by_cases hm : j = m
      · subst hm
        simp only [if_true]
        rw [Array.getElem?_toList] at hj
        rw [hj]; rfl
      · rw [if_neg hm]
    have h1 : (w.heap.setIfInBounds b (.map es' clock))[b]? = some (.map es' clock) := by simp [Array.getElem?_setIfInBounds, hlt]
    have hset : (setObj b (.map es' clock)).run P w = .ok () { w with heap := w.heap.setIfInBounds b (.map es' clock) } := by simp [setObj, Sem.run, hh]
    refine Wl.val (w' := { w with heap := w.heap.setIfInBounds b (.map es' clock) }) (v := .tuple #[e0.val, vi (e0.born : Nat)]) ?_ (c _ _ j e0.val e0.born ⟨es', clock, h1, by rw [hl'], by rw [hl']; exact hk, by rw [hl']; exact hb, by rw [hl']; exact hnb, ⟨e0, by rw [hl']; exact hj, rfl⟩⟩ (.inr ⟨rfl, by rw [List.getElem?_map, hj]; rfl⟩) ⟨rfl, rfl, rfl, by simp, fun j _ hj => Array.getElem?_setIfInBounds_ne (Ne.symm hj)⟩)
    have hst := Kd.stays w hq
    have hj' : es[j]? = some e0 := by rw [Array.getElem?_toList] at hj; exact hj
    simp [execOp, hx, hi, Instr.mapEntry, run_underlying ht.h, hg, Kd.check w _ hq, hf, hj', hst, hset, es', goInt]
theorem Wl.entryStore {x s y : Operand} {t k : TypeId} {b : Nat} {l : List (Value × Value)} {key v u : Value} {stamp j : Nat} (h : MapP P k w b l stamp j) (hj : l[j]? = some (key, v))
    (hx : ev n F x = .map (some b)) (hs : ev n F s = vi (stamp : Nat)) (hy : ev n F y = u) (c : ∀ w', MapK P k w' b (l.set j (key, u)) → Chg (fun j => j = b) w w' → Wl P n ds Q ops rest F w') :
    Wl P n ds Q ops (⟨none, .entryStore t x s y, ty, pos, aft, none⟩ :: rest) F w := by
  have hlt := h.toL.lt
  obtain ⟨es, clock, hh, rfl, hk, hb, hnb, e0, hj0, rfl⟩ := h
  have hg := run_getObj_map (P := P) w b es clock hh
  rw [List.getElem?_map, hj0] at hj
  simp only [Option.map_some, Option.some.injEq, Prod.mk.injEq] at hj
  obtain ⟨rfl, rfl⟩ := hj
  let es' := es.modify j fun e => { e with val := u }
  have hj' : es[j]? = some e0 := by rw [Array.getElem?_toList] at hj0; exact hj0
  have hl' : es'.toList = es.toList.set j { e0 with val := u } := by
    have hjs := (List.getElem?_eq_some_iff.1 hj0)
    apply List.ext_getElem?
    intro m
    simp only [es', Array.getElem?_toList, Array.getElem?_modify, List.getElem?_set]
    by_cases hm : j = m
    · subst hm
      simp only [if_true]
      rw [if_pos hjs.1, hj']; rfl
    · rw [if_neg hm, if_neg hm]
  have hfind : es.findIdx? (fun e => (e.born : Int) == (e0.born : Int)) = some j := by
    have : es.toList.findIdx? (fun e => (e.born : Int) == (e0.born : Int)) = some j := by
      rw [List.findIdx?_eq_some_iff_getElem]
      have hjs := List.getElem?_eq_some_iff.1 hj0
      refine ⟨hjs.1, by rw [hjs.2]; simp, fun i hi hc => ?_⟩
      have hlt2 : i < es.toList.length := Nat.lt_trans hi hjs.1
      have e1 : (es.toList.map (·.born))[i]? = some e0.born := by
        rw [List.getElem?_map, List.getElem?_eq_getElem hlt2]
        have : (es.toList[i]).born = e0.born := by simp only [beq_iff_eq] at hc; omega
        rw [Option.map_some, this]
      have e2 : (es.toList.map (·.born))[j]? = some e0.born := by rw [List.getElem?_map, hj0]; rfl
      have := (List.getElem?_inj (List.getElem?_eq_some_iff.1 e1).1 hnb).1 (e1.trans e2.symm)
      omega
    rwa [← List.findIdx?_toArray, Array.toArray_toList] at this
  have h1 : (w.heap.setIfInBounds b (.map es' clock))[b]? = some (.map es' clock) := by simp [Array.getElem?_setIfInBounds, hlt]
  have hset : (setObj b (.map es' clock)).run P w = .ok () { w with heap := w.heap.setIfInBounds b (.map es' clock) } := by simp [setObj, Sem.run, hh]
  refine Wl.unit (w' := { w with heap := w.heap.setIfInBounds b (.map es' clock) }) ?_ (c _ ⟨es', clock, h1, by rw [hl', List.map_set], fun e he => ?_, fun e he => ?_, ?_⟩ ⟨rfl, rfl, rfl, by simp, fun j _ hj => Array.getElem?_setIfInBounds_ne (Ne.symm hj)⟩)
  · simp [execOp, hx, hs, hy, Instr.entryStore, hg, asInt, asIntOf, hfind, hset, es']
  · rw [hl'] at he
    rcases List.mem_or_eq_of_mem_set he with he | rfl
    · exact hk e he
    · exact hk e0 (List.mem_of_getElem? hj0)
  · rw [hl'] at he
    rcases List.mem_or_eq_of_mem_set he with he | rfl
    · exact hb e he
    · exact hb e0 (List.mem_of_getElem? hj0)
  · rw [hl', List.map_set]
    have e2 : (es.toList.map (·.born))[j]? = some e0.born := by rw [List.getElem?_map, hj0]; rfl
    have : (es.toList.map (·.born)).set j e0.born = es.toList.map (·.born) := by
      apply List.ext_getElem?
      intro m
      rw [List.getElem?_set]
      split
      · rename_i hm
        subst hm
        rw [if_pos (List.getElem?_eq_some_iff.1 e2).1, e2]
      · rfl
    show ((es.toList.map (·.born)).set j e0.born).Nodup
    rw [this]; exact hnb
theorem Wl.makeMapK {t : TypeId} {k : TypeId} (c : ∀ w', MapK P k w' w.heap.size [] → New w w' → w'.heap.size = w.heap.size + 1 → Wl P n ds Q ops rest (upd F d (.map (some w.heap.size))) w') :
    Wl P n ds Q ops (⟨some d, .makeMap t none, ty, pos, aft, none⟩ :: rest) F w := by
  refine Wl.val (w' := w.alloc (.map #[] 0)) (v := .map (some w.heap.size)) ?_ (c _ ⟨#[], 0, heap_alloc_new w _, by simp, by simp, by simp, by simp⟩ (Chg.alloc _ _ _) (by simp))
  simp [execOp, Instr.makeMap]
theorem Wq.lookupT {C : World → Prop} {K : Fr → Prop} {x i : Operand} {t k e sz bytes : Nat} {agg : Bool} {z r0 : Value} {b : Nat} {key : Value} {q : Lit} [ht : Und P t (.map k e)] [he : ElT P e sz bytes agg z] (Kd : Maps.Keyed P k) (hC : ∀ w, C w → ∃ l, MapL P k w b l ∧ ∀ r, Tells l key z r → r = r0) (hq : keyOf P k key = some q)
    (hx : ev n F x = .map (some b)) (hi : ev n F i = key) (c : Wq P n ds C K ops rest (upd F d r0)) : Wq P n ds C K ops (⟨some d, .lookup t x i false, ty, pos, aft, none⟩ :: rest) F := by
  refine Wq.val (fun w hw => ?_) c
  obtain ⟨l, h, hr⟩ := hC w hw
  obtain ⟨r, h1, h2⟩ := run_lookup ht.h he Kd h hq
  rw [← hr r h2]
  simp only [execOp, hx, hi, Sem.run_bind, h1, Result.andThen_ok, Sem.run_pure]
theorem Wq.buildF {C : World → Prop} {K : Fr → Prop} {t : TypeId} {m sz bytes : Nat} {agg : Bool} {z : Value} {ps : List (Nat × Operand)} {parts : List (Nat × Value)} [hf : Flat P t m] [he : ElT P t sz bytes agg z] (hz : z.cells.size = m) (hps : ps.map (fun p => (p.1, ev n F p.2)) = parts) (hp : ∀ p ∈ parts, p.1 < m ∧ p.2.cells = #[p.2])
    (c : Wq P n ds C K ops rest (upd F d (.agg (setAll z.cells parts)))) : Wq P n ds C K ops (⟨some d, .build t ps.toArray, ty, pos, aft, none⟩ :: rest) F := by
  refine Wq.val (fun w _ => ?_) c
  subst hps
  have := run_buildF (P := P) (w := w) hf he hz hp
  simp only [execOp, List.map_toArray, Sem.run_bind]
  rw [this]; rfl
/-- An array of elements of one cell by its parts. -/
theorem Wl.buildA {t e m sz bytes ebytes : Nat} {agg eagg : Bool} {z ez : Value} {ps : List (Nat × Operand)} {parts : List (Nat × Value)} {cs : List Value} [ht : Und P t (.array m e)] [hee : ElT P e 1 ebytes eagg ez] [he : ElT P t sz bytes agg z] (hz : z.cells.size = m) (hps : ps.map (fun p => (p.1, ev n F p.2)) = parts) (hp : ∀ p ∈ parts, p.1 < m ∧ p.2.cells = #[p.2])
    (hcs : setAll z.cells parts = cs.toArray) (c : Wl P n ds Q ops rest (upd F d (.agg cs.toArray)) w) : Wl P n ds Q ops (⟨some d, .build t ps.toArray, ty, pos, aft, none⟩ :: rest) F w := by
  refine Wl.val ?_ c
  subst hps
  have hfill := fill_flat (m := m) (places := fun i => some (i * 1, 1)) _ z.cells hz (fun i _ => by rw [Nat.mul_one]) hp
  have : (Instr.build t (ps.map (fun p => (p.1, ev n F p.2))).toArray).run P w = .ok (.agg cs.toArray) w := by
    simp only [Instr.build, Sem.run_bind, he.zeroValue, Result.andThen_ok, run_underlying ht.h, hee.sizeOf, hfill, hcs, Sem.run_pure]
  simp only [execOp, List.map_toArray, Sem.run_bind]
  rw [this]; rfl
end
end Go.Proofs.YtlkhajheecglgaaDoor.Wk

namespace Go.Proofs.YtlkhajheecglgaaDoor.Wk
open Go Go.RowKit

section
variable {P : Program} {ops : Array Oper} {C : World → Prop} {Q : Exit → Act → World → Prop}
def isQ (ops : Array Oper) (i : Nat) : Bool := match ops[i]? with | some o => readB o.op | none => false
/-- The walk in the text's order, by the operations' numbers. -/
def TS (P : Program) (ops : Array Oper) (C : World → Prop) (Q : Exit → Act → World → Prop) : List Nat → Act → World → Prop
  | [], a, w => Q .normal a w
  | i :: l, a, w => if isQ ops i = true then (∃ o v, ops[i]? = some o ∧ YieldsIn P ops C o v a ∧ TS P ops C Q l (a.put o.dst v) w)
    else if i + 1 = ops.size then wpOp P ops Q i (fun a' w' => Q .normal a' w') a w else wpOp P ops QF i (fun a' w' => C w' ∧ TS P ops C Q l a' w') a w
def wd (a : Act) (ds : List Deferred) : Act := { a with defers := ds }
theorem wd_self (a : Act) : wd a a.defers = a := rfl
theorem wd_put (a : Act) (d : Option Tmp) (v : Value) (ds : List Deferred) : wd (a.put d v) ds = (wd a ds).put d v := by cases d <;> rfl
/-- Two operations that may change places. -/
structure Free (ops : Array Oper) (i j : Nat) : Prop where
  ex : ∃ oi oj, ops[i]? = some oi ∧ ops[j]? = some oj ∧ oi.apart ops oj = true ∧ oj.apart ops oi = true ∧ (∀ cs b, oi.op ≠ .select cs b) ∧ (∀ cs b, oj.op ≠ .select cs b)
  one : isQ ops i = true ∨ isQ ops j = true
  nl : i + 1 ≠ ops.size

theorem yields_unput {oi oj : Oper} {v u : Value} {a : Act} (h : oi.apart ops oj = true) (hs : ∀ cs b, oj.op ≠ .select cs b) : YieldsIn P ops C oj v (a.put oi.dst u) ↔ YieldsIn P ops C oj v a := by
  obtain ⟨h1, _, _⟩ := Oper.apart_spec h
  have e1 := execOp_put oj hs a oi.dst u h1
  have e2 := wanted_put oj a oi.dst u h1
  exact ⟨fun y => y.of_same e1.symm e2.symm, fun y => y.of_same e1 e2⟩
theorem yields_wd {o : Oper} {v : Value} {a : Act} {ds : List Deferred} : YieldsIn P ops C o v (wd a ds) ↔ YieldsIn P ops C o v a := by
  have e : (wd a ds).eval = a.eval := by funext x; cases x <;> rfl
  exact ⟨fun y => y.of_same (by rw [e]) rfl, fun y => y.of_same (by rw [e]) rfl⟩
theorem yields_unique {o : Oper} {v v' : Value} {a : Act} {w : World} (hC : C w) (hr : readB o.op = true) (h : YieldsIn P ops C o v a) (h' : YieldsIn P ops C o v' a) : v = v' := by
  rcases h with ⟨hw, hv⟩ | ⟨hw, rfl⟩ <;> rcases h' with ⟨hw', hv'⟩ | ⟨hw', rfl⟩
  · have h1 := hv w hC
    have h2 := hv' w hC
    have hne := @noEnter P o hr a.eval w
    unfold Oper.quietAt at h1 h2
    generalize (execOp a.eval o).run P w = r at *
    cases r with
    | ok n w' =>
      cases n <;> simp only [Oper.quietUpon] at h1 h2
      case value u => first | exact h1.2.symm.trans h2.2 | exact h1.1.symm.trans h2.1
      case skip => first | exact h1.2.trans h2.2.symm | exact h1.2.symm.trans h2.2
      case enter f args => exact (hne rfl).elim
    | halt x w' => simp only [Oper.quietUpon] at h1
  · rw [hw] at hw'; cases hw'
  · rw [hw] at hw'; cases hw'
  · rfl
/-- A chain operation has an outcome. -/
theorem wpOp_exists {i : Nat} {o : Oper} {K : Act → World → Prop} {a : Act} {w : World} (hi : ops[i]? = some o) (h : wpOp P ops QF i K a w) : ∃ u ds' w', K ((wd a ds').put o.dst u) w' := by
  unfold wpOp at h
  simp only [hi] at h
  split at h
  · rcases h with h | ⟨_, _, _, hq⟩
    · unfold Oper.wp at h
      generalize hr : (execOp a.eval o).run P w = r at h
      cases r with
      | ok nx w' =>
        cases nx with
        | value u => exact ⟨u, a.defers, w', h⟩
        | skip => exact ⟨undef, a.defers, w', h⟩
        | enter f args =>
          obtain ⟨e, w'', fr, he, _⟩ := h []
          cases e with
          | returned u => exact ⟨u, a.defers, w'', he⟩
          | panicked c => exact he.elim
          | outgrown => obtain ⟨_, _, hq⟩ := he; exact hq.elim
        | row r' args =>
          obtain ⟨u, w'', he, _⟩ := h (Frame.enter P 0 #[] .normal) []
          exact ⟨u, a.defers, w'', he⟩
        | defer d => exact ⟨undef, d :: a.defers, w', h⟩
        | _ => exact h.elim
      | halt x w' => cases x <;> exact h.elim
    · exact hq.elim
  · exact ⟨undef, a.defers, w, h⟩
/-- What an operation does is the same where another's slot holds something else. -/
theorem wpOp_reput {i : Nat} {oi oj : Oper} {v : Value} {K K' : Act → World → Prop} {a : Act} {w : World} (hi : ops[i]? = some oi) (hap : oj.apart ops oi = true) (hs : ∀ cs b, oi.op ≠ .select cs b)
    (hK : ∀ u ds' w', K ((wd a ds').put oi.dst u) w' → K' (((wd a ds').put oj.dst v).put oi.dst u) w') (h : wpOp P ops QF i K a w) : wpOp P ops QF i K' (a.put oj.dst v) w := by
  obtain ⟨h1, h2, h3⟩ := Oper.apart_spec hap
  unfold wpOp at *
  simp only [hi] at *
  rw [wanted_put oi a oj.dst v h1]
  split
  · rename_i hw
    simp only [hw, if_true] at h
    rcases h with h | ⟨_, a₀, w₀, hq⟩
    · refine .inl ?_
      unfold Oper.wp at *
      rw [execOp_put oi hs a oj.dst v h1]
      generalize (execOp a.eval oi).run P w = r at *
      cases r with
      | ok nx w' =>
        cases nx with
        | value u => exact hK _ a.defers _ h
        | skip => exact hK _ a.defers _ h
        | enter f args => exact Calls.mono h (fun e w'' he => by cases e with | returned u => exact hK _ a.defers _ he | panicked c => exact he.elim | outgrown => obtain ⟨a₀, w₀, hq⟩ := he; exact hq.elim)
        | row r' args => exact Rows.mono h (fun _ _ he => hK _ a.defers _ he)
        | defer d =>
          have := hK undef (d :: a.defers) _ h
          rw [← wd_put a oj.dst v] at this
          have e : (a.put oj.dst v).defers = a.defers := by cases oj.dst <;> rfl
          simp only [Oper.upon, e]
          exact this
        | _ => exact h.elim
      | halt x w' => cases x <;> exact h.elim
    · exact hq.elim
  · rename_i hw
    simp only [hw] at h
    exact hK _ a.defers _ h

theorem TS_quiet {j : Nat} {oj : Oper} {post : List Nat} (hj : ops[j]? = some oj) (hq : isQ ops j = true) : ∀ (pre : List Nat) (a : Act) (w : World), (∀ i ∈ pre, Free ops i j) → C w → TS P ops C Q (pre ++ j :: post) a w →
    ∃ v, YieldsIn P ops C oj v a ∧ TS P ops C Q (pre ++ post) (a.put oj.dst v) w
  | [], a, w, _, _, h => by
    rw [List.nil_append, TS, if_pos hq] at h
    obtain ⟨o, v, ho, hy, ht⟩ := h
    rw [hj] at ho
    cases ho
    exact ⟨v, hy, ht⟩
  | i :: pre, a, w, hf, hC, h => by
    obtain ⟨⟨oi, oj', hi, hj', h1, h2, s1, s2⟩, _, hnl⟩ := hf i (by simp)
    rw [hj] at hj'
    cases hj'
    have hrj : readB oj.op = true := by unfold isQ at hq; rw [hj] at hq; exact hq
    obtain ⟨_, hne, _⟩ := Oper.apart_spec h1
    rw [List.cons_append, TS] at h
    by_cases hqi : isQ ops i = true
    · rw [if_pos hqi] at h
      obtain ⟨o, vi, ho, hy, ht⟩ := h
      rw [hi] at ho
      cases ho
      obtain ⟨v, hyv, hts⟩ := TS_quiet hj hq pre _ w (fun k hk => hf k (by simp [hk])) hC ht
      refine ⟨v, (yields_unput h1 s2).1 hyv, ?_⟩
      rw [List.cons_append, TS, if_pos hqi]
      refine ⟨oi, vi, hi, (yields_unput h2 s1).2 hy, ?_⟩
      rw [← Act.put_comm a vi v hne]
      exact hts
    · rw [if_neg hqi, if_neg hnl] at h
      obtain ⟨u, ds', w', hC', ht'⟩ := wpOp_exists hi h
      obtain ⟨v, hyv, _⟩ := TS_quiet hj hq pre _ w' (fun k hk => hf k (by simp [hk])) hC' ht'
      have hya := yields_wd.1 ((yields_unput h1 s2).1 hyv)
      have key : wpOp P ops QF i (fun a' w' => C w' ∧ TS P ops C Q (pre ++ post) a' w') (a.put oj.dst v) w := by
        refine wpOp_reput hi h2 s1 ?_ h
        rintro u' ds1 w1 ⟨hC1, ht1⟩
        obtain ⟨v1, hy1, hts1⟩ := TS_quiet hj hq pre _ w1 (fun k hk => hf k (by simp [hk])) hC1 ht1
        have : v1 = v := yields_unique hC1 hrj (yields_wd.1 ((yields_unput h1 s2).1 hy1)) hya
        subst this
        refine ⟨hC1, ?_⟩
        rw [← Act.put_comm (wd a ds1) u' v1 hne]
        exact hts1
      refine ⟨v, hya, ?_⟩
      rw [List.cons_append, TS, if_neg hqi, if_neg hnl]
      exact key
/-- An operation that may come up now may be taken first. -/
theorem TS_first {j : Nat} {post : List Nat} (hjn : j < ops.size) : ∀ (pre : List Nat) (a : Act) (w : World), (∀ i ∈ pre, Free ops i j) → (isQ ops j = false → j + 1 = ops.size → pre = [] ∧ post = []) → C w → TS P ops C Q (pre ++ j :: post) a w →
    (isQ ops j = false ∧ pre ++ post = [] ∧ wpOp P ops Q j (fun a' w' => Q .normal a' w') a w) ∨ wpOp P ops QF j (fun a' w' => C w' ∧ TS P ops C Q (pre ++ post) a' w') a w := by
  intro pre a w hf hlast hC h
  obtain ⟨oj, hj⟩ : ∃ oj, ops[j]? = some oj := ⟨ops[j], Array.getElem?_eq_getElem hjn⟩
  cases hq : isQ ops j with
  | true =>
    obtain ⟨v, hy, ht⟩ := TS_quiet hj hq pre a w hf hC h
    have hrj : readB oj.op = true := by unfold isQ at hq; rw [hj] at hq; exact hq
    exact .inr (YieldsS.wpOp hj hy hrj hC ⟨hC, ht⟩)
  | false =>
    have hl := hlast hq
    clear hlast
    by_cases hpost : j + 1 = ops.size
    · obtain ⟨rfl, rfl⟩ := hl hpost
      rw [List.nil_append, TS, if_neg (by rw [hq]; simp), if_pos hpost] at h
      exact .inl ⟨rfl, rfl, h⟩
    · right
      clear hl
      induction pre generalizing a with
      | nil =>
        rw [List.nil_append, TS, if_neg (by rw [hq]; simp), if_neg hpost] at h
        exact h
      | cons i pre ih =>
        obtain ⟨⟨oi, oj', hi, hj', h1, h2, s1, s2⟩, hone, _⟩ := hf i (by simp)
        rw [hj] at hj'
        cases hj'
        have hqi : isQ ops i = true := by rcases hone with h | h; exact h; rw [hq] at h; cases h
        rw [List.cons_append, TS, if_pos hqi] at h
        obtain ⟨o, vi, ho, hy, ht⟩ := h
        rw [hi] at ho
        cases ho
        have := ih _ (fun k hk => hf k (by simp [hk])) ht
        refine wpOp_mono (fun a' w' h' => ?_) (wpOp_put hj h1 s1 s2 hy this)
        obtain ⟨hy', hC', ht'⟩ := h'
        refine ⟨hC', ?_⟩
        rw [List.cons_append, TS, if_pos hqi]
        exact ⟨oi, vi, hi, hy', ht'⟩

/-! All that must come ahead of an operation. -/
def okPair (ops : Array Oper) (i j : Nat) : Bool := (ahead ops ops.size [j]).contains i ||
  ((isQ ops i || isQ ops j) && match ops[i]?, ops[j]? with | some oi, some oj => oi.apart ops oj && oj.apart ops oi | _, _ => false)
def okT (ops : Array Oper) : Bool :=
  Region.noSelect ops && (List.range ops.size).all (fun j => (List.range j).all fun i => okPair ops i j) &&
  (List.range ops.size).all (fun j => match ops[j]? with | some o => o.after.all fun e => !Region.binds .any e || decide (e.on < j) | none => true) &&
  (isQ ops (ops.size - 1) || (List.range ops.size).all fun k => (ahead ops ops.size [ops.size - 1]).contains k)
def left (ops : Array Oper) (listed : Array Bool) : List Nat := (List.range ops.size).filter fun i => !listed.getD i true
theorem left_set {listed : Array Bool} {i : Nat} (hs : listed.size = ops.size) (hi : i < ops.size) : left ops (listed.setIfInBounds i true) = (left ops listed).filter (fun k => k != i) := by
  unfold left
  rw [List.filter_filter]
  apply List.filter_congr
  intro k hk
  by_cases hki : k = i
  · subst hki
    simp [Array.getD_eq_getD_getElem?, hs, hi]
  · have h1 := getD_set_ne (listed := listed) (i := i) (j := k) true (Ne.symm hki)
    rw [h1]
    simp [hki]
theorem nodup_filter {l pre post : List Nat} {i : Nat} (h : l.Nodup) (e : l = pre ++ i :: post) : l.filter (fun k => k != i) = pre ++ post := by
  subst e
  have h' := List.nodup_append.1 h
  have hi : i ∉ post := (List.nodup_cons.1 h'.2.1).1
  have hp : i ∉ pre := fun hm => h'.2.2 i hm i (by simp) rfl
  rw [List.filter_append, List.filter_cons, if_neg (by simp)]
  congr 1
  · refine List.filter_eq_self.2 fun k hk => ?_
    have : k ≠ i := fun e => hp (by rw [← e]; exact hk)
    simpa using this
  · refine List.filter_eq_self.2 fun k hk => ?_
    have : k ≠ i := fun e => hi (by rw [← e]; exact hk)
    simpa using this
theorem wpAny_of_TS (hok : okT ops = true) : ∀ (fuel : Nat) (listed : Array Bool) (a : Act) (w : World), listed.size = ops.size → (left ops listed).length = fuel → Clos ops listed → (fuel ≠ 0 → C w) → TS P ops C Q (left ops listed) a w → wpAny P .any ops Q fuel listed a w := by
  simp only [okT, Bool.and_eq_true] at hok
  obtain ⟨⟨⟨hns, hpair⟩, hdown⟩, hlast⟩ := hok
  have hsel := Region.noSelect_spec hns
  have rdy : ∀ listed : Array Bool, listed.size = ops.size → ∀ i, i ∈ Region.ready .any ops listed → i ∈ left ops listed := by
    intro listed hs i hi
    obtain ⟨h0, o, ho, _⟩ := mem_ready.1 hi
    unfold left
    rw [List.mem_filter, List.mem_range]
    exact ⟨(Array.getElem?_eq_some_iff.1 ho).1, by simp [h0]⟩
  intro fuel
  induction fuel with
  | zero =>
    intro listed a w hs hl hcl hC h
    have hnil : left ops listed = [] := List.eq_nil_of_length_eq_zero hl
    rw [hnil] at h
    refine ⟨?_, h⟩
    rw [List.eq_nil_iff_forall_not_mem]
    intro i hi
    have := rdy listed hs i hi
    rw [hnil] at this
    cases this
  | succ fuel ih =>
    intro listed a w hs hl hcl hC h
    replace hC := hC (by simp)
    refine ⟨fun h0 => ?_, fun j hj => ?_⟩
    · exfalso
      cases hL : left ops listed with
      | nil => rw [hL] at hl; cases hl
      | cons i l =>
        have hmem : i ∈ left ops listed := by rw [hL]; simp
        have hmem' := hmem
        unfold left at hmem
        rw [List.mem_filter, List.mem_range] at hmem
        have hall : ∀ k, k < i → listed.getD k false = true := by
          intro k hk
          have hks : k < ops.size := by omega
          cases hb : listed.getD k true with
          | true => simpa [Array.getD_eq_getD_getElem?, hs, hks] using hb
          | false =>
            have hkm : k ∈ left ops listed := by unfold left; rw [List.mem_filter, List.mem_range]; exact ⟨hks, by simp [hb]⟩
            have hsort : (left ops listed).Pairwise (· < ·) := List.Pairwise.sublist List.filter_sublist List.pairwise_lt_range
            rw [hL] at hkm hsort
            rcases List.mem_cons.1 hkm with e | e
            · omega
            · have := (List.pairwise_cons.1 hsort).1 k e; omega
        have : i ∈ Region.ready .any ops listed := by
          refine mem_ready.2 ⟨by simpa using hmem.2, ops[i], Array.getElem?_eq_getElem hmem.1, fun e he hb => ?_⟩
          have h3 := List.all_eq_true.1 hdown i (List.mem_range.2 hmem.1)
          rw [Array.getElem?_eq_getElem hmem.1] at h3
          have h4 := Array.all_eq_true'.1 h3 e he
          rw [hb] at h4
          exact hall e.on (by simpa using h4)
        rw [h0] at this
        cases this
    · obtain ⟨pre, post, hL⟩ := List.append_of_mem (rdy listed hs j hj)
      rw [hL] at h
      obtain ⟨_, oj, hoj, _⟩ := mem_ready.1 hj
      have hjs : j < ops.size := (Array.getElem?_eq_some_iff.1 hoj).1
      have hnd : (left ops listed).Nodup := List.Nodup.sublist List.filter_sublist List.nodup_range
      have hsort : (left ops listed).Pairwise (· < ·) := List.Pairwise.sublist List.filter_sublist List.pairwise_lt_range
      have hunl : ∀ i ∈ left ops listed, i < ops.size ∧ listed.getD i true = false := fun i hi => by
        unfold left at hi
        rw [List.mem_filter, List.mem_range] at hi
        exact ⟨hi.1, by simpa using hi.2⟩
      have hbehind : ∀ k, k ∈ ahead ops ops.size [j] → k = j ∨ listed.getD k false = true := ahead_spec hcl hj _ _ (by simp)
      have hfree : ∀ i ∈ pre, Free ops i j := by
        intro i hi
        have him : i ∈ left ops listed := by rw [hL]; simp [hi]
        obtain ⟨his, hun⟩ := hunl i him
        have hij : i < j := by rw [hL] at hsort; exact (List.pairwise_append.1 hsort).2.2 i hi j (by simp)
        have h3 := List.all_eq_true.1 (List.all_eq_true.1 hpair j (List.mem_range.2 hjs)) i (List.mem_range.2 hij)
        unfold okPair at h3
        simp only [Bool.or_eq_true, Bool.and_eq_true, Array.getElem?_eq_getElem his, Array.getElem?_eq_getElem hjs] at h3
        rcases h3 with h3 | ⟨h3, h4, h5⟩
        · exfalso
          rcases hbehind i (by simpa using h3) with e | e
          · omega
          · simp [Array.getD_eq_getD_getElem?, hs, his] at hun e
            rw [hun] at e; cases e
        · exact ⟨⟨_, _, Array.getElem?_eq_getElem his, Array.getElem?_eq_getElem hjs, h4, h5, fun cs b => hsel i _ cs b (Array.getElem?_eq_getElem his), fun cs b => hsel j _ cs b (Array.getElem?_eq_getElem hjs)⟩, h3, by omega⟩
      have hlst : isQ ops j = false → j + 1 = ops.size → pre = [] ∧ post = [] := by
        intro hq hje
        have hj1 : ops.size - 1 = j := by omega
        rw [hj1, hq, Bool.false_or] at hlast
        have all : ∀ i ∈ left ops listed, i = j := fun i hi => by
          obtain ⟨his, hun⟩ := hunl i hi
          rcases hbehind i (by simpa using List.all_eq_true.1 hlast i (List.mem_range.2 his)) with e | e
          · exact e
          · simp [Array.getD_eq_getD_getElem?, hs, his] at hun e
            rw [hun] at e; cases e
        rw [hL] at all hnd
        have h' := List.nodup_append.1 hnd
        constructor
        · cases pre with
          | nil => rfl
          | cons i pre => exact absurd (all i (by simp)) (h'.2.2 i (by simp) j (by simp))
        · cases post with
          | nil => rfl
          | cons i post =>
            have := all i (by simp)
            subst this
            exact absurd (by simp) (List.nodup_cons.1 h'.2.1).1
      have hset : left ops (listed.setIfInBounds j true) = pre ++ post := by rw [left_set hs hjs]; exact nodup_filter hnd hL
      have hlen : (pre ++ post).length = fuel := by have := hl; rw [hL] at this; simp at this ⊢; omega
      have hcl' := hcl.set hj
      rcases TS_first hjs pre a w hfree hlst hC h with ⟨_, he, hw⟩ | hw
      · refine wpOp_mono (fun a' w' h' => ih _ a' w' (by simpa using hs) (by rw [hset]; exact hlen) hcl' (fun hne => ?_) ?_) hw
        · rw [he] at hlen; exact absurd hlen.symm hne
        · rw [hset, he]; exact h'
      · exact wpOp_of_QF (fun a' w' h' => ih _ a' w' (by simpa using hs) (by rw [hset]; exact hlen) hcl' (fun _ => h'.1) (by rw [hset]; exact h'.2)) hw
end

section
variable {P : Program} {n : Nat} {ds : List Deferred} {Q : Po} {F : Fr} {ops : List Oper} {C : World → Prop} {w : World}
/-- The walk in the text's order: what only reads holds in every world of the class; each other operation but the last leaves a world of the class. -/
def Wt (P : Program) (n : Nat) (ds : List Deferred) (C : World → Prop) (Q : Po) (ops : List Oper) : List Oper → Fr → World → Prop
  | [], F, w => Q .normal F w
  | o :: l, F, w => if readB o.op = true then Wq P n ds C (fun F' => Wt P n ds C Q ops l F' w) ops [o] F
    else if l.isEmpty = true then Wl P n ds Q ops [o] F w else Wl P n ds (fun e F' w' => e = .normal ∧ C w' ∧ Wt P n ds C Q ops l F' w') ops [o] F w
theorem Wt.nil (h : Q .normal F w) : Wt P n ds C Q ops [] F w := h
theorem Wt.quiet {o : Oper} {l : List Oper} (hr : readB o.op = true) (h : Wq P n ds C (fun F' => Wt P n ds C Q ops l F' w) ops [o] F) : Wt P n ds C Q ops (o :: l) F w := by
  unfold Wt; rw [if_pos hr]; exact h
theorem Wt.chain {o o2 : Oper} {l : List Oper} (hr : readB o.op = false) (h : Wl P n ds (fun e F' w' => e = .normal ∧ C w' ∧ Wt P n ds C Q ops (o2 :: l) F' w') ops [o] F w) : Wt P n ds C Q ops (o :: o2 :: l) F w := by
  unfold Wt; rw [if_neg (by rw [hr]; simp), if_neg (by simp)]; exact h
theorem Wt.last {o : Oper} (hr : readB o.op = false) (h : Wl P n ds Q ops [o] F w) : Wt P n ds C Q ops [o] F w := by
  unfold Wt; rw [if_neg (by rw [hr]; simp), if_pos List.isEmpty_nil]; exact h
theorem Wt.guardY {o : Oper} {l : List Oper} {j : Nat} {b : Bool} (hg : o.guard = some (j, b)) (hy : yld ops n F j = some b) (h : Wt P n ds C Q ops ({ o with guard := none } :: l) F w) : Wt P n ds C Q ops (o :: l) F w := by
  unfold Wt at h ⊢
  split
  · rename_i hr
    rw [if_pos hr] at h
    exact Wq.guardY hg hy h
  · rename_i hr
    rw [if_neg hr] at h
    split
    · rename_i he; rw [if_pos he] at h; exact Wl.guardY hg hy h
    · rename_i he; rw [if_neg he] at h; exact Wl.guardY hg hy h
theorem Wt.guardN {op : Op} {d : Nat} {ty : TypeId} {pos : String} {aft : Array Edge} {l : List Oper} {j : Nat} {b c : Bool} (hy : yld ops n F j = some c) (hbc : (c == b) = false) (hC : C w) (h : Wt P n ds C Q ops l (upd F d undef) w) :
    Wt P n ds C Q ops (⟨some d, op, ty, pos, aft, some (j, b)⟩ :: l) F w := by
  unfold Wt
  split
  · exact Wq.guardN hy hbc (Wq.nil h)
  · split
    · rename_i he
      have : l = [] := by simpa using he
      subst this
      unfold Wt at h
      exact Wl.guardN hy hbc (Wl.nil h)
    · exact Wl.guardN hy hbc (Wl.nil ⟨rfl, hC, h⟩)
theorem TS_of_Wt : ∀ (l : List Oper) (k : Nat) (F : Fr) (w : World), (∀ j, l[j]? = ops[k + j]?) → Wt P n ds C Q ops l F w → TS P ops.toArray C (QA n ds Q) ((List.range l.length).map (k + ·)) (act n ds F) w
  | [], k, F, w, _, h => ⟨F, rfl, h⟩
  | o :: l, k, F, w, hl, h => by
    have h0 : ops[k]? = some o := by simpa using (hl 0).symm
    have h0' : ops.toArray[k]? = some o := by simpa using h0
    have hl' : ∀ j, l[j]? = ops[k + 1 + j]? := fun j => by have := hl (j + 1); simpa [Nat.add_assoc, Nat.add_comm 1 j] using this
    have e1 : (List.range (o :: l).length).map (k + ·) = k :: (List.range l.length).map (k + 1 + ·) := by
      rw [List.length_cons, List.range_succ_eq_map, List.map_cons, List.map_map, Nat.add_zero]
      congr 1
      apply List.map_congr_left
      intro j _
      show k + (j + 1) = k + 1 + j
      omega
    have hlen : (k + 1 = ops.toArray.size) ↔ l = [] := by
      have h2 := hl' 0
      constructor
      · intro e
        have hz : ops.toArray.size = ops.length := by simp
        have hz2 : ops.length ≤ k + 1 + 0 := by omega
        rw [List.getElem?_eq_none hz2] at h2
        cases l with
        | nil => rfl
        | cons _ _ => simp at h2
      · intro e
        subst e
        have hk := (List.getElem?_eq_some_iff.1 h0).1
        have : ops[k + 1 + 0]? = none := by rw [← h2]; rfl
        have := List.getElem?_eq_none_iff.1 this
        simp; omega
    have hq : isQ ops.toArray k = readB o.op := by unfold isQ; rw [h0']
    rw [e1, TS, hq]
    unfold Wt at h
    split
    · rename_i hr
      rw [if_pos hr] at h
      unfold Wq at h
      have hst : qOp P ops.toArray C k (fun a => ∃ F', a = act n ds F' ∧ Wt P n ds C Q ops l F' w) (act n ds F) := by unfold qOp; simp only [h0']; exact h
      obtain ⟨v, hy, F', hF, hw⟩ := yieldsIn_of_qOp h0' hst
      refine ⟨o, v, h0', hy, ?_⟩
      rw [hF]
      exact TS_of_Wt l (k + 1) F' w hl' hw
    · rename_i hr
      rw [if_neg hr] at h
      split
      · rename_i he
        have := hlen.1 he
        subst this
        rw [if_pos List.isEmpty_nil] at h
        exact wpOp_of_Wl h0 h
      · rename_i he
        rw [if_neg (by simpa using fun e => he (hlen.2 e))] at h
        refine wpOp_noQ ?_ ?_ (wpOp_of_Wl h0 h)
        · rintro e a' w' hne ⟨F', _, h', _⟩; exact hne h'
        · rintro a' w' ⟨F', rfl, _, hC, h'⟩
          exact ⟨hC, TS_of_Wt l (k + 1) F' w' hl' h'⟩
/-- A region that draws its order, by one walk in the text's order. -/
theorem Wc.regionT {rid : Nat} (hm : P.follows .mixedOrders = true) (hB : okT ops.toArray = true) (C : World → Prop) (hC : C w.drew) (h : ∀ w', New w w' → Wt P n ds C Q ops ops F w') : Wc P n ds Q (.region rid ops.toArray true) F w := by
  unfold Wc
  refine wp_region_any hm ?_
  have hleft : left ops.toArray (Array.replicate ops.toArray.size false) = (List.range ops.length).map (0 + ·) := by
    unfold left
    rw [show ((fun x => 0 + x) : Nat → Nat) = id from funext fun x => Nat.zero_add x, List.map_id]
    simp only [List.size_toArray]
    refine List.filter_eq_self.2 fun k hk => ?_
    have := List.mem_range.1 hk
    simp [Array.getD_eq_getD_getElem?, Array.getElem?_replicate, this]
  have h0 : Clos ops.toArray (Array.replicate ops.toArray.size false) := by
    intro j o hj
    exfalso
    simp only [Array.getD_eq_getD_getElem?, Array.getElem?_replicate] at hj
    split at hj <;> simp at hj
  refine wpAny_of_TS (C := C) hB _ _ _ _ (by simp) (by rw [hleft]; simp) h0 (fun _ => hC) ?_
  rw [hleft]
  exact TS_of_Wt ops 0 F w.drew (fun j => by rw [Nat.zero_add]) (h _ (Chg.drew _ _))
end
attribute [irreducible] Wt
end Go.Proofs.YtlkhajheecglgaaDoor.Wk

namespace Go.Proofs.YtlkhajheecglgaaDoor.Wk
open Go Go.RowKit

theorem setRange_get (cs : List Value) (o : Nat) (new : List Value) (h : o + new.length ≤ cs.length) (q : Nat) : (setRange cs o new)[q]? = if o ≤ q ∧ q < o + new.length then new[q - o]? else cs[q]? := by
  unfold setRange
  rw [List.append_assoc, List.getElem?_append]
  simp only [List.length_take]
  split
  · rename_i h1
    rw [if_neg (by omega), List.getElem?_take, if_pos (by omega)]
  · rename_i h1
    rw [List.getElem?_append]
    split
    · rename_i h2
      rw [if_pos (by omega)]; congr 1; omega
    · rename_i h2
      rw [if_neg (by omega), List.getElem?_drop]; congr 1; omega
theorem setRange_length (cs : List Value) (o : Nat) (new : List Value) (h : o + new.length ≤ cs.length) : (setRange cs o new).length = cs.length := by
  unfold setRange; simp; omega
section
variable {P : Program} {n : Nat} {ds : List Deferred} {Q : Po} {F : Fr} {w w' : World} {ops rest : List Oper} {d d1 d2 : Nat} {ty ty1 ty2 : TypeId} {pos pos1 pos2 : String} {aft aft1 aft2 : Array Edge}
theorem OwnC.storeRange {Pb : Nat → Prop} {e : TypeId} {sz m g cap o : Nat} {v : Value} {cs new : List Value} (h : OwnC Pb w e sz v m cs) (hv : v = .slice (some ⟨g, 0, none⟩) m cap) (ho : o + new.length ≤ m * sz) (h1 : ∀ c ∈ new, c.oneCell' = true) :
    ∃ w', (storeCells ⟨g, o, none⟩ new 0).run P w = .ok () w' ∧ OwnC Pb w' e sz v m (setRange cs o new) ∧ Chg (fun b => v.ownBlock = some b) w w' := by
  obtain ⟨hl, hoc⟩ := h
  rcases hoc with ⟨rfl, _⟩ | ⟨g', cap', cur, rfl, hb, hg, h2, h3, h4, h5⟩
  · cases hv
  · cases hv
    have hms : m * sz ≤ cap * sz := Nat.mul_le_mul_right _ h2
    have hr := run_storeCells_at P g o e new 0 cur w hg (by omega) h1
    have hcl : cs.length = m * sz := hl
    refine ⟨_, hr, ⟨by rw [setRange_length _ _ _ (by omega)]; exact hl, .inr ⟨g, cap, _, rfl, hb, setRow_heap w g cur _ e _ hg, h2, h3, ?_, ?_⟩⟩, Chg.setRow rfl⟩
    · simp; omega
    · simp only [Nat.add_zero]
      apply List.ext_getElem?
      intro q
      rw [setRange_get cs o new (by omega)]
      rw [List.getElem?_take]
      have hcur : ∀ q, q < m * sz → cs[q]? = cur.toList[q]? := fun q hq => by rw [← h5, List.getElem?_take, if_pos hq]
      split
      · rename_i hq
        have := setRange_get cur.toList o new (by simp; omega) q
        unfold setRange at this
        rw [this]
        split
        · rfl
        · exact (hcur q hq).symm
      · rename_i hq
        rw [if_neg (by omega), List.getElem?_eq_none (by omega)]
/-- 's[j] = x', a struct into a list of one's own, the address told. -/
theorem Wl.storeOwnA {α : Type} {f : α → List Value} {Pb Pe : Nat → Prop} {xs : List α} {x y : Operand} {e sz bytes : Nat} {agg : Bool} {z v u : Value} {g j cap : Nat} {q : α} [he : ElT P e sz bytes agg z] (hf : ∀ x, (f x).length = sz) (h1 : ∀ x, ∀ c ∈ f x, c.oneCell' = true)
    (hown : OwnS (flat f) e sz Pb Pe w v xs) (hv : v = .slice (some ⟨g, 0, none⟩) xs.length cap) (hj : j < xs.length)
    (hx : ev n F x = .pointer (some ⟨g, j * sz, none⟩)) (hy : ev n F y = u) (hq : u.cells = (f q).toArray) (c : ∀ w', OwnS (flat f) e sz Pb Pe w' v (xs.set j q) → Chg (fun b => v.ownBlock = some b) w w' → Wl P n ds Q ops rest F w') :
    Wl P n ds Q ops (⟨none, .store e x y, ty, pos, aft, none⟩ :: rest) F w := by
  obtain ⟨cs, hoc, hel⟩ := hown
  have hjs : (j + 1) * sz ≤ xs.length * sz := Nat.mul_le_mul_right _ hj
  rw [Nat.add_mul] at hjs
  have hcl : cs.length = xs.length * sz := hoc.1
  obtain ⟨w', hr, hoc', hc⟩ := hoc.storeRange (P := P) (o := j * sz) (new := f q) hv (by rw [hf]; omega) (h1 q)
  refine Wl.unit (w' := w') ?_ (c w' ⟨setRange cs (j * sz) (f q), by simpa using hoc', fun i x hx => ?_⟩ hc)
  · have hs : u.cells.size = sz := by rw [hq]; simpa using hf q
    simp only [execOp, hx, hy, Instr.storeAt, Instr.sureAddr, storeVar, Sem.run_bind, Sem.run_pure, Result.andThen_ok, he.sizeOf, hq]
    rw [if_neg (by simp [hf])]
    simp only [hr, Result.andThen_ok]
  · have hi : i < xs.length := by have := (List.getElem?_eq_some_iff.1 hx).1; simpa using this
    have hi2 : (i + 1) * sz ≤ xs.length * sz := Nat.mul_le_mul_right _ hi
    rw [Nat.add_mul] at hi2
    rw [List.getElem?_set] at hx
    show _ = f x
    apply List.ext_getElem?
    intro k
    rw [List.getElem?_take, List.getElem?_drop, setRange_get _ _ _ (by rw [hf]; omega), hf]
    by_cases hk : k < sz
    · rw [if_pos hk]
      split at hx
      · rename_i e
        subst e
        simp only [hj, if_true, Option.some.injEq] at hx
        subst hx
        rw [if_pos (by omega)]; congr 1; omega
      · rename_i hne
        have hsep : ¬ (j * sz ≤ i * sz + k ∧ i * sz + k < j * sz + sz) := by
          rintro ⟨a1, a2⟩
          rcases Nat.lt_or_gt_of_ne hne with h | h
          · have : (j + 1) * sz ≤ i * sz := Nat.mul_le_mul_right _ h
            rw [Nat.add_mul] at this; omega
          · have : (i + 1) * sz ≤ j * sz := Nat.mul_le_mul_right _ h
            rw [Nat.add_mul] at this; omega
        rw [if_neg hsep]
        have h2 : (cs.drop (i * sz)).take sz = f x := hel i x hx
        rw [← h2, List.getElem?_take, if_pos hk, List.getElem?_drop]
    · rw [if_neg hk, List.getElem?_eq_none (by rw [hf]; omega)]
/-- 's[j].f = x', one cell of a struct in a list of one's own, the address told. -/
theorem Wl.storeOwnF {α : Type} {f : α → List Value} {Pb Pe : Nat → Prop} {xs : List α} {x y : Operand} {e e' sz bytes : Nat} {agg : Bool} {z v u : Value} {g j o cap : Nat} {p q : α} [he : ElT P e' 1 bytes agg z] (hf : ∀ x, (f x).length = sz) (ho : o < sz) (hu : u.oneCell' = true) (hp : xs[j]? = some p) (hpq : f q = (f p).set o u)
    (hown : OwnS (flat f) e sz Pb Pe w v xs) (hv : v = .slice (some ⟨g, 0, none⟩) xs.length cap)
    (hx : ev n F x = .pointer (some ⟨g, j * sz + o, none⟩)) (hy : ev n F y = u) (c : ∀ w', OwnS (flat f) e sz Pb Pe w' v (xs.set j q) → Chg (fun b => v.ownBlock = some b) w w' → Wl P n ds Q ops rest F w') :
    Wl P n ds Q ops (⟨none, .store e' x y, ty, pos, aft, none⟩ :: rest) F w := by
  obtain ⟨cs, hoc, hel⟩ := hown
  have hj : j < xs.length := (List.getElem?_eq_some_iff.1 hp).1
  have hjs : (j + 1) * sz ≤ xs.length * sz := Nat.mul_le_mul_right _ hj
  rw [Nat.add_mul] at hjs
  have hcl : cs.length = xs.length * sz := hoc.1
  have huc : u.cells = #[u] := by cases u <;> simp_all [Value.cells, Value.oneCell']
  obtain ⟨w', hr, hoc', hc⟩ := hoc.storeRange (P := P) (o := j * sz + o) (new := [u]) hv (by simp; omega) (by simpa using hu)
  refine Wl.unit (w' := w') ?_ (c w' ⟨setRange cs (j * sz + o) [u], by simpa using hoc', fun i x hx => ?_⟩ hc)
  · simp only [execOp, hx, hy, Instr.storeAt, Instr.sureAddr, storeVar, Sem.run_bind, Sem.run_pure, Result.andThen_ok, he.sizeOf, huc]
    rw [if_neg (by simp)]
    simp only [hr, Result.andThen_ok]
  · have hi : i < xs.length := by have := (List.getElem?_eq_some_iff.1 hx).1; simpa using this
    have hi2 : (i + 1) * sz ≤ xs.length * sz := Nat.mul_le_mul_right _ hi
    rw [Nat.add_mul] at hi2
    rw [List.getElem?_set] at hx
    show _ = f x
    apply List.ext_getElem?
    intro k
    rw [List.getElem?_take, List.getElem?_drop, setRange_get _ _ _ (by simp; omega), List.length_singleton]
    by_cases hk : k < sz
    · rw [if_pos hk]
      split at hx
      · rename_i e
        subst e
        simp only [hj, if_true, Option.some.injEq] at hx
        subst hx
        rw [hpq, List.getElem?_set]
        have h2 : (cs.drop (j * sz)).take sz = f p := hel j p hp
        by_cases hko : k = o
        · subst hko
          rw [if_pos (by omega), if_pos rfl, if_pos (by rw [hf]; exact hk), show j * sz + k - (j * sz + k) = 0 by omega]; rfl
        · rw [if_neg (by omega), if_neg (Ne.symm hko), ← h2, List.getElem?_take, if_pos hk, List.getElem?_drop]
      · rename_i hne
        have hsep : ¬ (j * sz + o ≤ i * sz + k ∧ i * sz + k < j * sz + o + 1) := by
          rintro ⟨a1, a2⟩
          rcases Nat.lt_or_gt_of_ne hne with h | h
          · have : (j + 1) * sz ≤ i * sz := Nat.mul_le_mul_right _ h
            rw [Nat.add_mul] at this; omega
          · have : (i + 1) * sz ≤ j * sz := Nat.mul_le_mul_right _ h
            rw [Nat.add_mul] at this; omega
        rw [if_neg hsep]
        have h2 : (cs.drop (i * sz)).take sz = f x := hel i x hx
        rw [← h2, List.getElem?_take, if_pos hk, List.getElem?_drop]
    · rw [if_neg hk, List.getElem?_eq_none (by rw [hf]; omega)]
/-- clear(s[i:]) of a list of one's own: what is ahead stays. -/
theorem run_clearTail {α : Type} {f : α → List Value} {Pb Pe : Nat → Prop} {xs : List α} {t e sz bytes : Nat} {agg : Bool} {z v : Value} {g cap i : Nat} (ht : P.underlying t = some (.slice e)) (he : ElT P e sz bytes agg z) (hz : ∀ c ∈ z.cells.toList, c.oneCell' = true)
    (hown : OwnS (flat f) e sz Pb Pe w v xs) (hv : v = .slice (some ⟨g, 0, none⟩) xs.length cap) (hi : i ≤ xs.length) (p : Addr) (hp : p = ⟨g, i * sz, none⟩ ∨ i = xs.length) :
    ∃ u w', (Builtin.clear_ #[t] ty #[.slice (some p) (xs.length - i) (cap - i)]).run P w = .ok u w' ∧ OwnS (flat f) e sz Pb Pe w' (.slice (some ⟨g, 0, none⟩) i cap) (xs.take i) ∧ Chg (fun b => v.ownBlock = some b) w w' := by
  have htk : ∀ w', OwnS (flat f) e sz Pb Pe w' v xs → OwnS (flat f) e sz Pb Pe w' (.slice (some ⟨g, 0, none⟩) i cap) (xs.take i) := fun w' h => h.take hi hv (by intro e; cases e)
  by_cases hie : i = xs.length
  · refine ⟨.tuple #[], w, ?_, htk w hown, Chg.refl _ _⟩
    subst hie
    simp [Builtin.clear_, run_underlying ht]
  · have hp' : p = ⟨g, i * sz, none⟩ := hp.resolve_right hie
    subst hp'
    obtain ⟨cs, hoc, hel⟩ := hown
    have hcl : cs.length = xs.length * sz := hoc.1
    have hle : i * sz ≤ xs.length * sz := Nat.mul_le_mul_right _ hi
    have hzl : (Builtin.zeroCells z.cells (xs.length - i)).toList.length = (xs.length - i) * sz := by rw [Array.length_toList, size_zeroCells, he.hz]
    obtain ⟨w', hr, hoc', hc⟩ := hoc.storeRange (P := P) (o := i * sz) (new := (Builtin.zeroCells z.cells (xs.length - i)).toList) hv (by rw [hzl, Nat.sub_mul]; omega) (by
      intro c hc
      simp only [Builtin.zeroCells, Array.toList_map, List.mem_map] at hc
      obtain ⟨q, hq, rfl⟩ := hc
      have hsz : 0 < z.cells.size := by
        rcases Nat.eq_zero_or_pos z.cells.size with h0 | h0
        · simp [h0] at hq
        · exact h0
      have hm := Nat.mod_lt q hsz
      refine hz _ ?_
      rw [getElem!_pos z.cells (q % z.cells.size) hm]
      simp)
    have hne : xs.length - i ≠ 0 := by omega
    refine ⟨.tuple #[], w', ?_, ?_, hc⟩
    · obtain ⟨k, hk⟩ : ∃ k, xs.length - i = k + 1 := ⟨xs.length - i - 1, by omega⟩
      rw [hk] at hr ⊢
      simp [Builtin.clear_, run_underlying ht, he.zeroValue, hr]
    · refine ⟨cs.take (i * sz), ⟨by rw [List.length_take, List.length_take, Nat.min_eq_left (by omega), Nat.min_eq_left hi], ?_⟩, fun q x hx => ?_⟩
      · rcases hoc'.2 with ⟨e1, _⟩ | ⟨g', cap', cur, e1, hb, hg, h1, h2, h3, h4⟩
        · rw [hv] at e1; cases e1
        · rw [hv] at e1
          cases e1
          have hl : (xs.take i).length = i := by simp; omega
          rw [hl]
          refine .inr ⟨g, cap, cur, rfl, hb, hg, by omega, h2, h3, ?_⟩
          have : cur.toList.take (i * sz) = (setRange cs (i * sz) (Builtin.zeroCells z.cells (xs.length - i)).toList).take (i * sz) := by rw [← h4, List.take_take, Nat.min_eq_left hle]
          rw [this]
          unfold setRange
          rw [List.append_assoc, List.take_append_of_le_length (by simp; omega), List.take_take, Nat.min_self]
      · rw [List.getElem?_take] at hx
        split at hx
        · rename_i hq
          have h1 := hel q x hx
          have : (q + 1) * sz ≤ i * sz := Nat.mul_le_mul_right _ hq
          rw [Nat.add_mul] at this
          show _ = f x
          rw [List.drop_take, List.take_take, Nat.min_eq_left (by omega)]
          exact h1
        · cases hx
/-- clear(s[i:]). -/
theorem Wl.clearTail {α : Type} {f : α → List Value} {Pb Pe : Nat → Prop} {xs : List α} {x lo : Operand} {t e sz bytes : Nat} {agg : Bool} {z v : Value} {k : IntKind} {g cap i : Nat} [ht : Und P t (.slice e)] [he : ElT P e sz bytes agg z] (hz : ∀ c ∈ z.cells.toList, c.oneCell' = true)
    (hown : OwnS (flat f) e sz Pb Pe w v xs) (hv : v = .slice (some ⟨g, 0, none⟩) xs.length cap) (hx : ev n F x = v) (hl : ev n F lo = .int k i) (hi : i ≤ xs.length) (hd : Nat.blt d1 n = true)
    (c : ∀ u w', OwnS (flat f) e sz Pb Pe w' (.slice (some ⟨g, 0, none⟩) i cap) (xs.take i) → Chg (fun b => v.ownBlock = some b) w w' → Wl P n ds Q ops rest (upd F d1 u) w') :
    Wl P n ds Q ops (⟨some d1, .slice t x (some lo) none none, ty1, pos1, aft1, none⟩ :: ⟨none, .call { callee := .builtin .clear, args := #[.tmp d1], argTypes := #[t] }, ty2, pos2, aft2, none⟩ :: rest) F w := by
  obtain ⟨_, cap', e1, hcap, _⟩ := hown.form
  have hcap2 : xs.length ≤ cap := by rw [hv] at e1; cases e1; exact hcap
  have hs := run_sliceS (P := P) (w := w) (p := some ⟨g, 0, none⟩) (l := xs.length) (cap := cap) (lo := some (.int k i)) (hi := none) (a := i) (b := xs.length) ht.h he (.inr ⟨k, rfl⟩) (.inl ⟨rfl, rfl⟩) hi hcap2
  have hp : (if cap = i then some (⟨g, 0, none⟩ : Addr) else Option.map (·.add (i * sz)) (some (⟨g, 0, none⟩ : Addr))) = some (if cap = i then ⟨g, 0, none⟩ else ⟨g, i * sz, none⟩) := by
    split
    · rfl
    · rw [Option.map_some, addr_add, Nat.zero_add]
  rw [hp] at hs
  obtain ⟨u, w', hr, ho, hc⟩ := run_clearTail (P := P) (ty := ty2) (w := w) ht.h he hz hown hv hi (if cap = i then ⟨g, 0, none⟩ else ⟨g, i * sz, none⟩) (by
    by_cases hci : cap = i
    · right; omega
    · left; rw [if_neg hci])
  refine Wl.val (w' := w) (v := .slice (some (if cap = i then ⟨g, 0, none⟩ else ⟨g, i * sz, none⟩)) (xs.length - i) (cap - i)) ?_ ?_
  · simp only [execOp, hx, hl, hv, Option.map_none, Option.map_some, Sem.run_bind, hs, Result.andThen_ok, Sem.run_pure]
  · refine Wl.valO (dst := none) (w' := w') (v := u) ?_ (c _ w' ho hc)
    have ed : ev n (upd F d1 (.slice (some (if cap = i then ⟨g, 0, none⟩ else ⟨g, i * sz, none⟩)) (xs.length - i) (cap - i))) (.tmp d1) = .slice (some (if cap = i then ⟨g, 0, none⟩ else ⟨g, i * sz, none⟩)) (xs.length - i) (cap - i) := by
      simp only [ev, hd, upd_eq, if_pos]
    simp only [execOp, resolve, invoke, builtin, Sem.run_bind, Sem.run_pure, Result.andThen_ok, List.map_toArray, List.map_cons, List.map_nil, ed, hr]
/-- x[:b], told. -/
theorem Wl.sliceToP {x hi : Operand} {t e sz bytes : Nat} {agg : Bool} {z : Value} {k : IntKind} {p : Option Addr} {l cap b : Nat} [ht : Und P t (.slice e)] [he : ElT P e sz bytes agg z] (hx : ev n F x = .slice p l cap) (hh : ev n F hi = .int k b) (h1 : b ≤ cap)
    (c : Wl P n ds Q ops rest (upd F d (.slice p b cap)) w) : Wl P n ds Q ops (⟨some d, .slice t x none (some hi) none, ty, pos, aft, none⟩ :: rest) F w := by
  have := run_sliceS (P := P) (w := w) (p := p) (l := l) (lo := none) (hi := some (.int k b)) (a := 0) (b := b) ht.h he (.inl ⟨rfl, rfl⟩) (.inr ⟨k, rfl⟩) (Nat.zero_le _) h1
  have hp : (if cap = 0 then p else p.map (·.add (0 * sz))) = p := by
    split
    · rfl
    · cases p with
      | none => rfl
      | some a => simp [Addr.add]
  refine Wl.val (w' := w) (v := .slice p b cap) ?_ c
  simp only [execOp, hx, hh, Option.map_none, Option.map_some, Sem.run_bind, this, Result.andThen_ok, Sem.run_pure, hp, Nat.sub_zero]
/-- What stands between two pieces of code, told: the ways of the first come together. -/
theorem Wc.cut {a b : Code} (M : Fr → World → Prop) (h1 : Wc P n ds (fun e F w => e = .normal ∧ M F w) a F w) (h2 : ∀ F w, M F w → Wc P n ds Q b F w) : Wc P n ds Q (.seq a b) F w := by
  unfold Wc at *
  refine wp_seq (wp_mono h1 ?_)
  rintro e a' w' ⟨F', rfl, he, hM⟩
  subst he
  exact h2 F' w' hM
end
end Go.Proofs.YtlkhajheecglgaaDoor.Wk

namespace Go.Proofs.YtlkhajheecglgaaDoor.Wk
open Go Go.RowKit

def boundL (ops : Array Oper) (j : Nat) : List Nat := match ops[j]? with | some o => (o.after.toList.filter (Region.binds .any)).map (·.on) | none => []
def availB (ops : Array Oper) (l : List Nat) (j : Nat) : Bool := (boundL ops j).all fun k => !l.contains k
def nextQ (ops : Array Oper) (l : List Nat) : Option Nat := l.find? fun i => isQ ops i && availB ops l i
def okPairG (ops : Array Oper) (i j : Nat) : Bool := (boundL ops j).contains i || (match ops[i]?, ops[j]? with | some oi, some oj => oi.apart ops oj && oj.apart ops oi | _, _ => false)
def okG (ops : Array Oper) : Bool :=
  Region.noSelect ops && (List.range ops.size).all (fun j => (List.range j).all fun i => okPairG ops i j) && (List.range ops.size).all (fun j => (boundL ops j).all fun k => decide (k < j))
def out (j : Nat) (l : List Nat) : List Nat := l.filter fun k => k != j
section
variable {P : Program} {ops : Array Oper} {C : World → Prop} {Q : Exit → Act → World → Prop}
def TG (P : Program) (ops : Array Oper) (C : World → Prop) (Q : Exit → Act → World → Prop) : Nat → List Nat → Act → World → Prop
  | 0, _, a, w => Q .normal a w
  | f + 1, l, a, w => match nextQ ops l with
    | some q => ∃ o v, ops[q]? = some o ∧ YieldsIn P ops C o v a ∧ TG P ops C Q f (out q l) (a.put o.dst v) w
    | none => ∀ j ∈ l, availB ops l j = true → if j + 1 = ops.size then wpOp P ops Q j (fun a' w' => Q .normal a' w') a w else wpOp P ops QF j (fun a' w' => C w' ∧ TG P ops C Q f (out j l) a' w') a w
theorem out_comm (i j : Nat) (l : List Nat) : out i (out j l) = out j (out i l) := by
  unfold out; rw [List.filter_filter, List.filter_filter]; congr 1; funext k; rw [Bool.and_comm]
theorem mem_out {i j : Nat} {l : List Nat} : i ∈ out j l ↔ i ∈ l ∧ i ≠ j := by unfold out; rw [List.mem_filter]; simp
theorem avail_out {i j : Nat} {l : List Nat} (h : availB ops l i = true) : availB ops (out j l) i = true := by
  unfold availB at h ⊢
  rw [List.all_eq_true] at h ⊢
  intro k hk
  have := h k hk
  simp only [Bool.not_eq_true', Bool.eq_false_iff, ne_eq, List.contains_iff_mem] at this ⊢
  exact fun e => this (mem_out.1 e).1
theorem out_len {j : Nat} {l : List Nat} (hn : l.Nodup) (hj : j ∈ l) : (out j l).length + 1 = l.length := by
  have : out j l = l.erase j := by unfold out; rw [hn.erase_eq_filter]
  rw [this, List.length_erase_of_mem hj]
  have := List.length_pos_of_mem hj
  omega
/-- Two that may both come up now stand apart. -/
structure Ap (ops : Array Oper) (i j : Nat) (oi oj : Oper) : Prop where
  ij : oi.apart ops oj = true
  ji : oj.apart ops oi = true
  si : ∀ cs b, oi.op ≠ .select cs b
  sj : ∀ cs b, oj.op ≠ .select cs b
theorem apart_of (hok : okG ops = true) {l : List Nat} {i j : Nat} {oi oj : Oper} (hi : ops[i]? = some oi) (hj : ops[j]? = some oj) (hil : i ∈ l) (hjl : j ∈ l) (ai : availB ops l i = true) (aj : availB ops l j = true) (hne : i ≠ j) : Ap ops i j oi oj := by
  simp only [okG, Bool.and_eq_true] at hok
  obtain ⟨⟨hns, hpair⟩, _⟩ := hok
  have hsel := Region.noSelect_spec hns
  have his := (Array.getElem?_eq_some_iff.1 hi).1
  have hjs := (Array.getElem?_eq_some_iff.1 hj).1
  have key : ∀ {i j : Nat} {oi oj : Oper}, ops[i]? = some oi → ops[j]? = some oj → i ∈ l → availB ops l j = true → i < j → oi.apart ops oj = true ∧ oj.apart ops oi = true := by
    intro i j oi oj hi hj hil aj hij
    have hjs := (Array.getElem?_eq_some_iff.1 hj).1
    have h3 := List.all_eq_true.1 (List.all_eq_true.1 hpair j (List.mem_range.2 hjs)) i (List.mem_range.2 hij)
    unfold okPairG at h3
    simp only [hi, hj, Bool.or_eq_true, Bool.and_eq_true] at h3
    rcases h3 with h3 | h3
    · exfalso
      have := List.all_eq_true.1 aj i (by simpa using h3)
      rw [List.contains_iff_mem.2 hil] at this
      cases this
    · exact h3
  have sel : ∀ {i : Nat} {o : Oper}, ops[i]? = some o → ∀ cs b, o.op ≠ .select cs b := fun h cs b => hsel _ _ cs b h
  rcases Nat.lt_or_ge i j with h | h
  · have := key hi hj hil aj h; exact ⟨this.1, this.2, sel hi, sel hj⟩
  · have := key hj hi hjl ai (by omega); exact ⟨this.2, this.1, sel hi, sel hj⟩
/-- What only reads and may come up now may be taken now, or had been. -/
theorem TG_quiet (hok : okG ops = true) : ∀ (f : Nat) (q : Nat) (oq : Oper), ops[q]? = some oq → isQ ops q = true → ∀ (l : List Nat) (a : Act) (w : World), l.length = f + 1 → l.Nodup → (∀ i ∈ l, i < ops.size) → q ∈ l → availB ops l q = true →
    (TG P ops C Q (f + 1) l a w ↔ ∃ v, YieldsIn P ops C oq v a ∧ TG P ops C Q f (out q l) (a.put oq.dst v) w) := by
  intro f
  induction f with
  | zero =>
    intro q oq hq hqq l a w hl hn hlt hm ha
    obtain ⟨x, rfl⟩ : ∃ x, l = [x] := by cases l with | nil => cases hl | cons x r => cases r with | nil => exact ⟨x, rfl⟩ | cons y s => simp at hl
    obtain rfl : q = x := by simpa using hm
    have hnq : nextQ ops [q] = some q := by simp [nextQ, hqq, ha]
    rw [TG, hnq]
    simp only [hq, Option.some.injEq]
    exact ⟨fun ⟨o, v, e, h⟩ => by cases e; exact ⟨v, h⟩, fun ⟨v, h⟩ => ⟨oq, v, rfl, h⟩⟩
  | succ f ih =>
    intro q oq hq hqq l a w hl hn hlt hm ha
    rw [TG]
    cases hnq : nextQ ops l with
    | none =>
      exfalso
      have := List.find?_eq_none.1 hnq q hm
      simp [hqq, ha] at this
    | some r =>
      have hr := List.find?_some hnq
      have hrm := List.mem_of_find?_eq_some hnq
      simp only [Bool.and_eq_true] at hr
      dsimp only
      by_cases hrq : r = q
      · subst hrq
        simp only [hq, Option.some.injEq]
        exact ⟨fun ⟨o, v, e, h⟩ => by cases e; exact ⟨v, h⟩, fun ⟨v, h⟩ => ⟨oq, v, rfl, h⟩⟩
      · obtain ⟨or', hor⟩ : ∃ o, ops[r]? = some o := ⟨ops[r]'(hlt r hrm), Array.getElem?_eq_getElem (hlt r hrm)⟩
        have ap := apart_of hok hor hq hrm hm hr.2 ha hrq
        have hne := (Oper.apart_spec ap.ij).2.1
        have lr := out_len hn hrm
        have lq := out_len hn hm
        have nr : (out r l).Nodup := hn.filter _
        have nq : (out q l).Nodup := hn.filter _
        have e1 := fun a' => ih q oq hq hqq (out r l) a' w (by omega) nr (fun i hi => hlt i (mem_out.1 hi).1) (mem_out.2 ⟨hm, fun e => hrq e.symm⟩) (avail_out ha)
        have e2 := fun a' => ih r or' hor hr.1 (out q l) a' w (by omega) nq (fun i hi => hlt i (mem_out.1 hi).1) (mem_out.2 ⟨hrm, hrq⟩) (avail_out hr.2)
        constructor
        · rintro ⟨o, vr, eo, hy, ht⟩
          rw [hor] at eo
          cases eo
          obtain ⟨vq, hyq, ht2⟩ := (e1 _).1 ht
          refine ⟨vq, (yields_unput ap.ij ap.sj).1 hyq, (e2 _).2 ⟨vr, (yields_unput ap.ji ap.si).2 hy, ?_⟩⟩
          rw [out_comm, ← Act.put_comm a vr vq hne]
          exact ht2
        · rintro ⟨vq, hyq, ht⟩
          obtain ⟨vr, hyr, ht2⟩ := (e2 _).1 ht
          refine ⟨or', vr, hor, (yields_unput ap.ji ap.si).1 hyr, (e1 _).2 ⟨vq, (yields_unput ap.ij ap.sj).2 hyq, ?_⟩⟩
          rw [out_comm, Act.put_comm a vr vq hne]
          exact ht2
/-- Another operation that may come up now may be taken first. -/
theorem TG_chain (hok : okG ops = true) {j : Nat} {oj : Oper} (hj : ops[j]? = some oj) (hjq : isQ ops j = false) (hjl : j + 1 ≠ ops.size) : ∀ (f : Nat) (l : List Nat) (a : Act) (w : World), l.length = f + 1 → l.Nodup → (∀ i ∈ l, i < ops.size) → j ∈ l → availB ops l j = true →
    TG P ops C Q (f + 1) l a w → wpOp P ops QF j (fun a' w' => C w' ∧ TG P ops C Q f (out j l) a' w') a w := by
  intro f
  induction f with
  | zero =>
    intro l a w hl hn hlt hm ha h
    obtain ⟨x, rfl⟩ : ∃ x, l = [x] := by cases l with | nil => cases hl | cons x r => cases r with | nil => exact ⟨x, rfl⟩ | cons y s => simp at hl
    obtain rfl : j = x := by simpa using hm
    have hnq : nextQ ops [j] = none := by simp [nextQ, hjq]
    rw [TG, hnq] at h
    have := h j (by simp) ha
    rwa [if_neg hjl] at this
  | succ f ih =>
    intro l a w hl hn hlt hm ha h
    have h0 := h
    rw [TG] at h
    cases hnq : nextQ ops l with
    | none =>
      rw [hnq] at h
      have := h j hm ha
      rwa [if_neg hjl] at this
    | some r =>
      have hr := List.find?_some hnq
      have hrm := List.mem_of_find?_eq_some hnq
      simp only [Bool.and_eq_true] at hr
      obtain ⟨or', hor⟩ : ∃ o, ops[r]? = some o := ⟨ops[r]'(hlt r hrm), Array.getElem?_eq_getElem (hlt r hrm)⟩
      have hrj : r ≠ j := fun e => by rw [e, hjq] at hr; cases hr.1
      have ap := apart_of hok hor hj hrm hm hr.2 ha hrj
      have lr := out_len hn hrm
      have lj := out_len hn hm
      have nr : (out r l).Nodup := hn.filter _
      have nj : (out j l).Nodup := hn.filter _
      obtain ⟨v, hy, ht⟩ := (TG_quiet hok (f + 1) r or' hor hr.1 l a w hl hn hlt hrm hr.2).1 h0
      have hw := ih (out r l) _ w (by omega) nr (fun i hi => hlt i (mem_out.1 hi).1) (mem_out.2 ⟨hm, fun e => hrj e.symm⟩) (avail_out ha) ht
      refine wpOp_mono (fun a' w' h' => ?_) (wpOp_put hj ap.ij ap.si ap.sj hy hw)
      obtain ⟨hy', hC', ht'⟩ := h'
      refine ⟨hC', (TG_quiet hok f r or' hor hr.1 (out j l) a' w' (by omega) nj (fun i hi => hlt i (mem_out.1 hi).1) (mem_out.2 ⟨hrm, hrj⟩) (avail_out hr.2)).2 ⟨v, hy', ?_⟩⟩
      rw [out_comm]; exact ht'
def okGL (ops : Array Oper) : Bool := okG ops && (isQ ops (ops.size - 1) || (List.range ops.size).all fun k => (ahead ops ops.size [ops.size - 1]).contains k)
theorem wpAny_of_TG (hok2 : okGL ops = true) : ∀ (fuel : Nat) (listed : Array Bool) (a : Act) (w : World), listed.size = ops.size → (left ops listed).length = fuel → Clos ops listed → (fuel ≠ 0 → C w) → TG P ops C Q fuel (left ops listed) a w → wpAny P .any ops Q fuel listed a w := by
  have hok : okG ops = true := by unfold okGL at hok2; simp only [Bool.and_eq_true] at hok2; exact hok2.1
  have hlast : (isQ ops (ops.size - 1) || (List.range ops.size).all fun k => (ahead ops ops.size [ops.size - 1]).contains k) = true := by unfold okGL at hok2; simp only [Bool.and_eq_true] at hok2; exact hok2.2
  have hdown : ∀ (j : Nat) (o : Oper), ops[j]? = some o → ∀ e ∈ o.after, Region.binds .any e = true → e.on < j := by
    intro j o ho e he hb
    have := hok
    simp only [okG, Bool.and_eq_true] at this
    have h3 := List.all_eq_true.1 this.2 j (List.mem_range.2 (Array.getElem?_eq_some_iff.1 ho).1)
    have hm : e.on ∈ boundL ops j := by
      unfold boundL; rw [ho]
      exact List.mem_map.2 ⟨e, List.mem_filter.2 ⟨by simpa using he, hb⟩, rfl⟩
    exact of_decide_eq_true (List.all_eq_true.1 h3 _ hm)
  have rdy : ∀ listed : Array Bool, listed.size = ops.size → ∀ i, i ∈ Region.ready .any ops listed → i ∈ left ops listed ∧ availB ops (left ops listed) i = true := by
    intro listed hs i hi
    obtain ⟨h0, o, ho, hall⟩ := mem_ready.1 hi
    refine ⟨?_, ?_⟩
    · unfold left
      rw [List.mem_filter, List.mem_range]
      exact ⟨(Array.getElem?_eq_some_iff.1 ho).1, by simp [h0]⟩
    · unfold availB boundL
      rw [ho, List.all_eq_true]
      intro k hk
      obtain ⟨e, he, rfl⟩ := List.mem_map.1 hk
      rw [List.mem_filter] at he
      have h1 := hall e (by simpa using he.1) he.2
      simp only [Bool.not_eq_true', Bool.eq_false_iff, ne_eq, List.contains_iff_mem]
      intro hm
      unfold left at hm
      rw [List.mem_filter, List.mem_range] at hm
      have hlt : e.on < listed.size := by rw [hs]; exact hm.1
      have h2 := hm.2
      simp [Array.getD_eq_getD_getElem?, Array.getElem?_eq_getElem hlt] at h1 h2
      rw [h1] at h2; cases h2
  intro fuel
  induction fuel with
  | zero =>
    intro listed a w hs hl hcl hC h
    have hnil : left ops listed = [] := List.eq_nil_of_length_eq_zero hl
    refine ⟨?_, h⟩
    rw [List.eq_nil_iff_forall_not_mem]
    intro i hi
    have := (rdy listed hs i hi).1
    rw [hnil] at this
    cases this
  | succ fuel ih =>
    intro listed a w hs hl hcl hC h
    replace hC := hC (by simp)
    have hnd : (left ops listed).Nodup := List.Nodup.sublist List.filter_sublist List.nodup_range
    have hunl : ∀ i ∈ left ops listed, i < ops.size ∧ listed.getD i true = false := fun i hi => by
      unfold left at hi
      rw [List.mem_filter, List.mem_range] at hi
      exact ⟨hi.1, by simpa using hi.2⟩
    refine ⟨fun h0 => ?_, fun j hj => ?_⟩
    · exfalso
      cases hL : left ops listed with
      | nil => rw [hL] at hl; cases hl
      | cons i l =>
        have hmem : i ∈ left ops listed := by rw [hL]; simp
        obtain ⟨his, hun⟩ := hunl i hmem
        have hall : ∀ k, k < i → listed.getD k false = true := by
          intro k hk
          have hks : k < ops.size := by omega
          cases hb : listed.getD k true with
          | true => simpa [Array.getD_eq_getD_getElem?, hs, hks] using hb
          | false =>
            have hkm : k ∈ left ops listed := by unfold left; rw [List.mem_filter, List.mem_range]; exact ⟨hks, by simp [hb]⟩
            have hsort : (left ops listed).Pairwise (· < ·) := List.Pairwise.sublist List.filter_sublist List.pairwise_lt_range
            rw [hL] at hkm hsort
            rcases List.mem_cons.1 hkm with e | e
            · omega
            · have := (List.pairwise_cons.1 hsort).1 k e; omega
        have : i ∈ Region.ready .any ops listed := mem_ready.2 ⟨hun, ops[i], Array.getElem?_eq_getElem his, fun e he hb => hall e.on (hdown i _ (Array.getElem?_eq_getElem his) e he hb)⟩
        rw [h0] at this
        cases this
    · obtain ⟨hjm, hja⟩ := rdy listed hs j hj
      have hjs := (hunl j hjm).1
      have hoj : ops[j]? = some ops[j] := Array.getElem?_eq_getElem hjs
      have hset : left ops (listed.setIfInBounds j true) = out j (left ops listed) := left_set hs hjs
      have hlen := out_len hnd hjm
      have hcl' := hcl.set hj
      have hlen' : (left ops (listed.setIfInBounds j true)).length = fuel := by rw [hset]; omega
      cases hjq : isQ ops j with
      | true =>
        obtain ⟨v, hy, ht⟩ := (TG_quiet hok fuel j _ hoj hjq (left ops listed) a w hl hnd (fun i hi => (hunl i hi).1) hjm hja).1 h
        have hrj : readB ops[j].op = true := by unfold isQ at hjq; rw [hoj] at hjq; exact hjq
        exact YieldsS.wpOp hoj hy hrj hC (ih _ _ w (by simpa using hs) hlen' hcl' (fun _ => hC) (by rw [hset]; exact ht))
      | false =>
        by_cases hjl : j + 1 = ops.size
        · have hj1 : ops.size - 1 = j := by omega
          rw [hj1, hjq, Bool.false_or] at hlast
          have hbehind : ∀ k, k ∈ ahead ops ops.size [j] → k = j ∨ listed.getD k false = true := ahead_spec hcl hj _ _ (by simp)
          have all : ∀ i ∈ left ops listed, i = j := fun i hi => by
            obtain ⟨his, hun⟩ := hunl i hi
            rcases hbehind i (by simpa using List.all_eq_true.1 hlast i (List.mem_range.2 his)) with e | e
            · exact e
            · simp [Array.getD_eq_getD_getElem?, hs, his] at hun e
              rw [hun] at e; cases e
          have hL : left ops listed = [j] := by
            cases hh : left ops listed with
            | nil => rw [hh] at hl; cases hl
            | cons x r =>
              rw [hh] at all hnd
              obtain rfl := all x (by simp)
              cases r with
              | nil => rfl
              | cons y s =>
                have := all y (by simp)
                subst this
                exact absurd (by simp) (List.nodup_cons.1 hnd).1
          have hf : fuel = 0 := by rw [hL] at hl; simpa using hl.symm
          subst hf
          rw [hL] at h hja
          have hnq : nextQ ops [j] = none := by simp [nextQ, hjq]
          rw [TG, hnq] at h
          have hw := h j (by simp) hja
          rw [if_pos hjl] at hw
          exact wpOp_mono (fun a' w' h' => ih _ a' w' (by simpa using hs) hlen' hcl' (fun hne => absurd rfl hne) h') hw
        · exact wpOp_of_QF (fun a' w' h' => ih _ a' w' (by simpa using hs) hlen' hcl' (fun _ => h'.1) (by rw [hset]; exact h'.2)) (TG_chain hok hoj hjq hjl fuel (left ops listed) a w hl hnd (fun i hi => (hunl i hi).1) hjm hja h)
end
section
variable {P : Program} {n : Nat} {ds : List Deferred} {Q : Po} {F : Fr} {ops : List Oper} {C : World → Prop} {w : World}
/-- The walk that parts: by frames. -/
def Wg (P : Program) (n : Nat) (ds : List Deferred) (C : World → Prop) (Q : Po) (ops : List Oper) : Nat → List Nat → Fr → World → Prop
  | 0, _, F, w => Q .normal F w
  | f + 1, l, F, w => match nextQ ops.toArray l with
    | some q => ∃ o, ops[q]? = some o ∧ Wq P n ds C (fun F' => Wg P n ds C Q ops f (out q l) F' w) ops [o] F
    | none => ∀ j ∈ l, availB ops.toArray l j = true → ∃ o, ops[j]? = some o ∧ (if j + 1 = ops.length then Wl P n ds Q ops [o] F w else Wl P n ds (fun e F' w' => e = .normal ∧ C w' ∧ Wg P n ds C Q ops f (out j l) F' w') ops [o] F w)
theorem Wg.nil {l : List Nat} (h : Q .normal F w) : Wg P n ds C Q ops 0 l F w := h
theorem Wg.quiet {f q : Nat} {l l' : List Nat} {o : Oper} (h : nextQ ops.toArray l = some q) (ho : ops[q]? = some o) (hl : out q l = l') (k : Wq P n ds C (fun F' => Wg P n ds C Q ops f l' F' w) ops [o] F) : Wg P n ds C Q ops (f + 1) l F w := by
  subst hl
  rw [Wg, h]
  exact ⟨o, ho, k⟩
theorem Wg.one {f j : Nat} {l l' : List Nat} {o : Oper} (h : nextQ ops.toArray l = none) (hr : l.filter (availB ops.toArray l) = [j]) (ho : ops[j]? = some o) (hjl : Nat.beq (j + 1) ops.length = false) (hl : out j l = l')
    (k : Wl P n ds (fun e F' w' => e = .normal ∧ C w' ∧ Wg P n ds C Q ops f l' F' w') ops [o] F w) : Wg P n ds C Q ops (f + 1) l F w := by
  subst hl
  rw [Wg, h]
  intro i hi ha
  have hm : i ∈ l.filter (availB ops.toArray l) := List.mem_filter.2 ⟨hi, ha⟩
  rw [hr] at hm
  obtain rfl : i = j := by simpa using hm
  exact ⟨o, ho, by rw [if_neg (Nat.ne_of_beq_eq_false hjl)]; exact k⟩
theorem Wg.two {f j1 j2 : Nat} {l l1 l2 : List Nat} {o1 o2 : Oper} (h : nextQ ops.toArray l = none) (hr : l.filter (availB ops.toArray l) = [j1, j2]) (ho1 : ops[j1]? = some o1) (ho2 : ops[j2]? = some o2)
    (hjl1 : Nat.beq (j1 + 1) ops.length = false) (hjl2 : Nat.beq (j2 + 1) ops.length = false) (hl1 : out j1 l = l1) (hl2 : out j2 l = l2)
    (k1 : Wl P n ds (fun e F' w' => e = .normal ∧ C w' ∧ Wg P n ds C Q ops f l1 F' w') ops [o1] F w) (k2 : Wl P n ds (fun e F' w' => e = .normal ∧ C w' ∧ Wg P n ds C Q ops f l2 F' w') ops [o2] F w) : Wg P n ds C Q ops (f + 1) l F w := by
  subst hl1
  subst hl2
  rw [Wg, h]
  intro i hi ha
  have hm : i ∈ l.filter (availB ops.toArray l) := List.mem_filter.2 ⟨hi, ha⟩
  rw [hr] at hm
  have : i = j1 ∨ i = j2 := by simpa using hm
  rcases this with rfl | rfl
  · exact ⟨o1, ho1, by rw [if_neg (Nat.ne_of_beq_eq_false hjl1)]; exact k1⟩
  · exact ⟨o2, ho2, by rw [if_neg (Nat.ne_of_beq_eq_false hjl2)]; exact k2⟩
theorem Wg.last {f j : Nat} {l : List Nat} {o : Oper} (h : nextQ ops.toArray l = none) (hr : l = [j]) (ho : ops[j]? = some o) (hjl : j + 1 = ops.length) (k : Wl P n ds Q ops [o] F w) : Wg P n ds C Q ops (f + 1) l F w := by
  rw [Wg, h]
  subst hr
  intro i hi ha
  obtain rfl : i = j := by simpa using hi
  exact ⟨o, ho, by rw [if_pos hjl]; exact k⟩
theorem TG_of_Wg : ∀ (f : Nat) (l : List Nat) (F : Fr) (w : World), Wg P n ds C Q ops f l F w → TG P ops.toArray C (QA n ds Q) f l (act n ds F) w
  | 0, l, F, w, h => ⟨F, rfl, h⟩
  | f + 1, l, F, w, h => by
    rw [TG]
    rw [Wg] at h
    cases hq : nextQ ops.toArray l with
    | some q =>
      rw [hq] at h
      obtain ⟨o, ho, h⟩ := h
      have ho' : ops.toArray[q]? = some o := by simpa using ho
      unfold Wq at h
      have hst : qOp P ops.toArray C q (fun a => ∃ F', a = act n ds F' ∧ Wg P n ds C Q ops f (out q l) F' w) (act n ds F) := by unfold qOp; simp only [ho']; exact h
      obtain ⟨v, hy, F', hF, hw⟩ := yieldsIn_of_qOp ho' hst
      refine ⟨o, v, ho', hy, ?_⟩
      rw [hF]
      exact TG_of_Wg f (out q l) F' w hw
    | none =>
      rw [hq] at h
      intro j hj ha
      obtain ⟨o, ho, h⟩ := h j hj ha
      have hsz : ops.toArray.size = ops.length := by simp
      rw [hsz]
      split
      · rename_i he
        rw [if_pos he] at h
        exact wpOp_of_Wl ho h
      · rename_i he
        rw [if_neg he] at h
        refine wpOp_noQ ?_ ?_ (wpOp_of_Wl ho h)
        · rintro e a' w' hne ⟨F', _, h', _⟩; exact hne h'
        · rintro a' w' ⟨F', rfl, _, hC, h'⟩
          exact ⟨hC, TG_of_Wg f (out j l) F' w' h'⟩
/-- A region that draws its order, by a walk that parts. -/
theorem Wc.regionG {rid m : Nat} (hm : P.follows .mixedOrders = true) (hB : okGL ops.toArray = true) (C : World → Prop) (hC : C w.drew) (hlen : ops.length = m) (h : ∀ w', New w w' → Wg P n ds C Q ops m (List.range m) F w') : Wc P n ds Q (.region rid ops.toArray true) F w := by
  subst hlen
  unfold Wc
  refine wp_region_any hm ?_
  have hleft : left ops.toArray (Array.replicate ops.toArray.size false) = List.range ops.length := by
    unfold left
    simp only [List.size_toArray]
    refine List.filter_eq_self.2 fun k hk => ?_
    have := List.mem_range.1 hk
    simp [Array.getD_eq_getD_getElem?, Array.getElem?_replicate, this]
  have h0 : Clos ops.toArray (Array.replicate ops.toArray.size false) := by
    intro j o hj
    exfalso
    simp only [Array.getD_eq_getD_getElem?, Array.getElem?_replicate] at hj
    split at hj <;> simp at hj
  refine wpAny_of_TG (C := C) hB _ _ _ _ (by simp) (by rw [hleft]; simp) h0 (fun _ => hC) ?_
  rw [hleft]
  have := TG_of_Wg ops.length (List.range ops.length) F w.drew (h _ (Chg.drew _ _))
  simpa using this
end
attribute [irreducible] Wg
end Go.Proofs.YtlkhajheecglgaaDoor.Wk

namespace Go.Proofs.YtlkhajheecglgaaDoor
open Go Wk

mutual
def okT : Nat → T → Bool
  | d, .mk _ ps ks => propsOk ps && (decide (d ≤ 16) && okK (d + 1) [] ks)
def okK : Nat → List (List UInt8) → List T → Bool
  | _, _, [] => true
  | d, seen, k :: ks => nameOk k.name && (!seen.contains k.name && (okT d k && okK d (seen ++ [k.name]) ks))
end
def okTree (τ : T) : Bool := decide (τ.name = []) && (decide (szT τ ≤ 512) && okT 1 τ)
theorem getD_left {α : Type} {l m : List α} {i : Nat} {z : α} (h : i < l.length) : (l ++ m).getD i z = l.getD i z := by
  rw [List.getD_eq_getElem?_getD, List.getElem?_append_left h, ← List.getD_eq_getElem?_getD]
theorem getD_last {α : Type} {l : List α} {x z : α} {i : Nat} (h : l.length = i) : (l ++ [x]).getD i z = x := by
  subst h; rw [List.getD_eq_getElem?_getD, List.getElem?_append_right (Nat.le_refl _)]; simp
theorem getD_take {α : Type} {l m : List α} {i d : Nat} {z : α} (h : l.take d = m.take d) (hi : i < d) : l.getD i z = m.getD i z := by
  have := congrArg (fun q => q[i]?) h
  simp only [List.getElem?_take, if_pos hi] at this
  rw [List.getD_eq_getElem?_getD, this, ← List.getD_eq_getElem?_getD]
mutual
theorem chk_T : ∀ (t : T) (u b d : Nat) (seen : List (List UInt8)) (dp pt : List Int) (sn : List Kid) (rest : List Nd),
    b + szT t ≤ 512 → dp.length = b → u < b → dp.getD u 0 = (d : Int) → 1 ≤ d → d ≤ pt.length → pt.getD (d - 1) 0 = (u : Int) → (∀ nm, sn.contains ((u : Int), nm) = seen.contains nm) → (∀ p ∈ sn, p.1 < (b : Int)) →
    ((nameOk t.name && (!seen.contains t.name && okT (d + 1) t)) = true → ∃ dp2 pt2 sn2, chkGo b dp pt sn (flT t u b ++ rest) = chkGo (b + szT t) (dp ++ dp2) pt2 (sn ++ (((u : Int), t.name) :: sn2)) rest ∧ dp2.length = szT t ∧ pt2.take d = pt.take d ∧ d ≤ pt2.length ∧ ∀ p ∈ sn2, (b : Int) ≤ p.1 ∧ p.1 < b + szT t) ∧
    ((nameOk t.name && (!seen.contains t.name && okT (d + 1) t)) = false → (chkGo b dp pt sn (flT t u b ++ rest)).2 = none)
  | .mk nm ps ks, u, b, d, seen, dp, pt, sn, rest, hsz, hdl, hu, hdu, hd1, hdp, hpt, hsn, hsb => by
    simp only [szT] at hsz
    simp only [flT, List.cons_append, T.name]
    rw [chkGo]
    have htn : ((u : Int)).toNat = u := Int.toNat_natCast u
    have htd : ((d : Int) - 1).toNat = d - 1 := by omega
    have htd' : ((d : Int)).toNat = d := Int.toNat_natCast d
    simp only [htn, hdu, htd, htd', hpt, hsn]
    cases hpo : propsOk ps with
    | false =>
      rw [if_pos (.inr rfl)]
      exact ⟨fun h => by simp [okT, hpo] at h, fun _ => rfl⟩
    | true =>
      rw [if_neg (by simp; omega), if_neg (by omega)]
      cases hno : nameOk nm with
      | false =>
        rw [if_pos (.inl rfl)]
        exact ⟨fun h => by simp at h, fun _ => rfl⟩
      | true =>
        rw [if_neg (by simp; omega)]
        cases hse : seen.contains nm with
        | true =>
          rw [if_pos (.inr (.inr (.inr rfl)))]
          exact ⟨fun h => by simp at h, fun _ => rfl⟩
        | false =>
          by_cases h16 : d + 1 ≤ 16
          · rw [if_neg (by simp; omega)]
            have hdl' : (dp ++ [(d : Int) + 1]).length = b + 1 := by simp [hdl]
            have hk := chk_K ks b (b + 1) (d + 1) [] (dp ++ [(d : Int) + 1]) (pt.take d ++ [(b : Int)]) (sn ++ [((u : Int), nm)]) rest (by omega) hdl' (by omega) (by rw [getD_last hdl]; rfl) (by omega) (by simp; omega) (by
              rw [Nat.add_sub_cancel, getD_last (by simp; omega)]) (fun x => by
              rw [Bool.eq_iff_iff]
              simp only [List.contains_iff_mem, List.mem_append, List.mem_singleton, Prod.mk.injEq, List.not_mem_nil, iff_false, not_or]
              exact ⟨fun h => by have := hsb _ h; simp only at this; omega, fun h => by omega⟩) (fun p hp => by
              rcases List.mem_append.1 hp with h | h
              · have := hsb p h; omega
              · simp at h; subst h; simp only; omega)
            have e1 : ((true && (!false && okT (d + 1) (.mk nm ps ks))) : Bool) = okK (d + 1 + 1) [] ks := by simp only [okT, hpo, decide_eq_true h16, Bool.not_false, Bool.true_and]
            rw [e1]
            refine ⟨fun h => ?_, hk.2⟩
            obtain ⟨dp2, pt2, sn2, h1, h2, h3, h4, h5⟩ := hk.1 h
            refine ⟨((d : Int) + 1) :: dp2, pt2, sn2, ?_, by simp only [List.length_cons, szT, h2]; omega, ?_, by omega, fun p hp => by
              rcases h5 p hp with h | h
              · simp only [szT]; omega
              · simp only [szT]; omega⟩
            · rw [h1]
              simp only [szT, List.append_assoc, List.singleton_append]
              congr 1; omega
            · have := congrArg (List.take d) h3
              rw [List.take_take, Nat.min_eq_left (by omega), List.take_take, Nat.min_eq_left (by omega), List.take_append_of_le_length (by simp; omega), List.take_take, Nat.min_self] at this
              exact this
          · rw [if_pos (.inr (.inr (.inl (by omega))))]
            exact ⟨fun h => by simp [okT, h16] at h, fun _ => rfl⟩
theorem chk_K : ∀ (ks : List T) (u b d : Nat) (seen : List (List UInt8)) (dp pt : List Int) (sn : List Kid) (rest : List Nd),
    b + szK ks ≤ 512 → dp.length = b → u < b → dp.getD u 0 = (d : Int) → 1 ≤ d → d ≤ pt.length → pt.getD (d - 1) 0 = (u : Int) → (∀ nm, sn.contains ((u : Int), nm) = seen.contains nm) → (∀ p ∈ sn, p.1 < (b : Int)) →
    (okK (d + 1) seen ks = true → ∃ dp2 pt2 sn2, chkGo b dp pt sn (flK ks u b ++ rest) = chkGo (b + szK ks) (dp ++ dp2) pt2 (sn ++ sn2) rest ∧ dp2.length = szK ks ∧ pt2.take d = pt.take d ∧ d ≤ pt2.length ∧ ∀ p ∈ sn2, p.1 = (u : Int) ∨ (b : Int) ≤ p.1 ∧ p.1 < b + szK ks) ∧
    (okK (d + 1) seen ks = false → (chkGo b dp pt sn (flK ks u b ++ rest)).2 = none)
  | [], u, b, d, seen, dp, pt, sn, rest, hsz, hdl, hu, hdu, hd1, hdp, hpt, hsn, hsb =>
    ⟨fun _ => ⟨[], pt, [], by simp [flK, szK], rfl, rfl, hdp, by simp⟩, fun h => by simp [okK] at h⟩
  | t :: ts, u, b, d, seen, dp, pt, sn, rest, hsz, hdl, hu, hdu, hd1, hdp, hpt, hsn, hsb => by
    simp only [szK] at hsz
    simp only [flK, List.append_assoc]
    have hT := chk_T t u b d seen dp pt sn (flK ts u (b + szT t) ++ rest) (by omega) hdl hu hdu hd1 hdp hpt hsn hsb
    have e : okK (d + 1) seen (t :: ts) = ((nameOk t.name && (!seen.contains t.name && okT (d + 1) t)) && okK (d + 1) (seen ++ [t.name]) ts) := by
      simp only [okK, Bool.and_assoc]
    rw [e]
    cases h1 : (nameOk t.name && (!seen.contains t.name && okT (d + 1) t)) with
    | false => exact ⟨fun h => by simp at h, fun _ => hT.2 h1⟩
    | true =>
      rw [Bool.true_and]
      obtain ⟨dp2, pt2, sn2, g1, g2, g3, g4, g5⟩ := hT.1 h1
      rw [g1]
      have hK := chk_K ts u (b + szT t) d (seen ++ [t.name]) (dp ++ dp2) pt2 (sn ++ (((u : Int), t.name) :: sn2)) rest (by omega) (by rw [List.length_append, hdl, g2]) (by omega) (by rw [getD_left (by omega)]; exact hdu) hd1 g4 (by
        rw [getD_take g3 (by omega)]; exact hpt) (fun x => by
        rw [Bool.eq_iff_iff]
        have := hsn x
        rw [Bool.eq_iff_iff] at this
        simp only [List.contains_iff_mem, List.mem_append, List.mem_cons, List.not_mem_nil, Prod.mk.injEq, true_and, or_false] at this ⊢
        constructor
        · rintro (h | h | h)
          · exact .inl (this.1 h)
          · exact .inr h
          · have := (g5 _ h).1; simp only at this; omega
        · rintro (h | h)
          · exact .inl (this.2 h)
          · exact .inr (.inl h)) (fun p hp => by
        simp only [List.mem_append, List.mem_cons] at hp
        rcases hp with h | rfl | h
        · have := hsb p h; omega
        · simp only; omega
        · have := (g5 p h).2; omega)
      refine ⟨fun h => ?_, hK.2⟩
      obtain ⟨dp3, pt3, sn3, k1, k2, k3, k4, k5⟩ := hK.1 h
      refine ⟨dp2 ++ dp3, pt3, ((u : Int), t.name) :: sn2 ++ sn3, ?_, by simp only [List.length_append, szK, g2, k2], k3.trans g3, k4, fun p hp => ?_⟩
      · rw [k1]
        simp only [szK, List.append_assoc, List.cons_append]
        congr 1; omega
      · simp only [List.cons_append, List.mem_cons, List.mem_append] at hp
        simp only [szK]
        rcases hp with rfl | h | h
        · exact .inl rfl
        · have := g5 p h; right; omega
        · rcases k5 p h with h | h
          · exact .inl h
          · right; omega
end
theorem treeOk_flT (τ : T) : treeOk (flT τ (-1) 0) = okTree τ := by
  by_cases hsz : szT τ ≤ 512
  · cases τ with
    | mk nm ps ks =>
      unfold treeOk okTree
      simp only [flT, T.name, List.length_cons]
      rw [chkGo]
      simp only [szT] at hsz
      cases hpo : propsOk ps with
      | false => rw [if_pos (.inr rfl)]; simp [okT, hpo]
      | true =>
        rw [if_neg (by simp), if_pos rfl]
        by_cases hn : nm = []
        · subst hn
          rw [if_neg (by simp)]
          have h := chk_K ks 0 1 1 [] [1] [0] [] [] (by omega) rfl (by omega) rfl (by omega) (by simp) rfl (by simp) (by simp)
          rw [List.append_nil] at h
          simp only [List.nil_append]
          have e : okT 1 (.mk [] ps ks) = okK 2 [] ks := by simp [okT, hpo]
          rw [e]
          have e2 : decide (szT (.mk [] ps ks) ≤ 512) = true := decide_eq_true (by simpa only [szT] using hsz)
          have e3 : decide (0 < (flT (.mk [] ps ks) (-1) 0).length) = true := decide_eq_true (by simp [flT])
          simp only [flT, List.length_cons] at e3
          rw [e2, e3, decide_true, Bool.true_and, Bool.true_and, Bool.and_true]
          cases hk : okK 2 [] ks with
          | false => rw [show (chkGo 1 [1] [0] [] (flK ks 0 (0 + 1))).2 = none from h.2 hk]; rfl
          | true =>
            obtain ⟨dp2, pt2, sn2, h1, _⟩ := h.1 hk
            rw [show chkGo 1 [1] [0] [] (flK ks 0 (0 + 1)) = chkGo (1 + szK ks) ([1] ++ dp2) pt2 ([] ++ sn2) [] from h1, chkGo]
            rfl
        · rw [if_pos (.inr hn)]; simp [hn]
  · have h1 : treeOk (flT τ (-1) 0) = false := by
      cases h : treeOk (flT τ (-1) 0) with
      | false => rfl
      | true => have := treeOk_len h; rw [flT_length] at this; omega
    rw [h1]
    unfold okTree
    simp [hsz]

/-! Every list of nodes that is a tree lies so. -/
mutual
def spT : T → Nat → List Nat
  | .mk _ _ ks, b => b :: spK ks (b + 1)
def spK : List T → Nat → List Nat
  | [], _ => []
  | t :: ts, b => if ts.isEmpty then spT t b else spK ts (b + szT t)
end
mutual
def addT (nm : List UInt8) (ps : List Pr) : Nat → T → T
  | e, .mk n p ks => .mk n p (addK nm ps e ks)
def addK (nm : List UInt8) (ps : List Pr) : Nat → List T → List T
  | _, [] => [.mk nm ps []]
  | e, t :: ts => if ts.isEmpty then (match e with | 0 => [t, .mk nm ps []] | e + 1 => [addT nm ps e t]) else t :: addK nm ps e ts
end
theorem sp_ne (t : T) (b : Nat) : spT t b ≠ [] := by cases t; simp [spT]
mutual
theorem addT_fl (nm : List UInt8) (ps : List Pr) : ∀ (t : T) (e : Nat) (up : Int) (b : Nat), e < (spT t b).length →
    flT (addT nm ps e t) up b = flT t up b ++ [⟨(((spT t b).getD e 0 : Nat) : Int), nm, ps⟩] ∧ spT (addT nm ps e t) b = (spT t b).take (e + 1) ++ [b + szT t] ∧ szT (addT nm ps e t) = szT t + 1
  | .mk n p ks, e, up, b, he => by
    simp only [spT, List.length_cons] at he
    have h := addK_fl nm ps ks e b (b + 1) (by omega)
    simp only [addT, flT, spT, szT]
    refine ⟨?_, ?_, by omega⟩
    · rw [h.1, List.cons_append]
    · rw [h.2.1, List.take_succ_cons, List.cons_append]
      congr 3; omega
theorem addK_fl (nm : List UInt8) (ps : List Pr) : ∀ (ks : List T) (e u b : Nat), e ≤ (spK ks b).length →
    flK (addK nm ps e ks) u b = flK ks u b ++ [⟨(((u :: spK ks b).getD e 0 : Nat) : Int), nm, ps⟩] ∧ spK (addK nm ps e ks) b = (spK ks b).take e ++ [b + szK ks] ∧ szK (addK nm ps e ks) = szK ks + 1
  | [], e, u, b, he => by
    simp only [spK, List.length_nil] at he
    obtain rfl : e = 0 := by omega
    simp [addK, flK, flT, spK, spT, szK, szT]
  | [t], e, u, b, he => by
    simp only [spK, List.isEmpty_nil, if_true] at he
    cases e with
    | zero => simp [addK, flK, flT, spK, spT, szK, szT]
    | succ e =>
      have h := addT_fl nm ps t e (u : Int) b (by omega)
      simp only [addK, flK, spK, szK, List.isEmpty_nil, if_true, h.1, h.2.1, h.2.2]
      simp
  | t :: s :: ts, e, u, b, he => by
    simp only [spK, List.isEmpty_cons, Bool.false_eq_true, if_false] at he
    have h := addK_fl nm ps (s :: ts) e u (b + szT t) (by simpa [spK] using he)
    have hne : (addK nm ps e (s :: ts)).isEmpty = false := by
      cases hh : addK nm ps e (s :: ts) with
      | nil => have := h.2.2; rw [hh] at this; simp [szK] at this
      | cons _ _ => rfl
    have hs : ∀ b, spK (t :: s :: ts) b = spK (s :: ts) (b + szT t) := fun b => by rw [spK]; simp
    have ha : addK nm ps e (t :: s :: ts) = t :: addK nm ps e (s :: ts) := by cases e <;> simp [addK]
    have hs2 : spK (t :: addK nm ps e (s :: ts)) b = spK (addK nm ps e (s :: ts)) (b + szT t) := by rw [spK, hne]; simp
    have hf : flK (t :: s :: ts) u b = flT t (u : Int) b ++ flK (s :: ts) u (b + szT t) := by rw [flK]
    have hz : ∀ l, szK (t :: l) = szT t + szK l := fun l => by rw [szK]
    rw [ha, hs2, hs, hf, hz, hz, flK, h.1, h.2.1, h.2.2, List.append_assoc]
    exact ⟨rfl, by rw [Nat.add_assoc], by omega⟩
end
theorem chk_parse : ∀ (r : List Nd) (τ : T) (dp : List Int) (sn : List Kid), dp.length = szT τ → (∀ v ∈ dp, 1 ≤ v) →
    (chkGo (szT τ) dp ((spT τ 0).map fun (n : Nat) => (n : Int)) sn r).2.isSome = true → ∃ τ', flT τ (-1) 0 ++ r = flT τ' (-1) 0
  | [], τ, _, _, _, _, _ => ⟨τ, by simp⟩
  | x :: r, τ, dp, sn, hdl, hdv, h => by
    rw [chkGo] at h
    have hp := szT_pos τ
    split at h
    · cases h
    · rw [if_neg (by omega)] at h
      split at h
      · cases h
      · rename_i h2
        simp only [not_or, Bool.not_eq_false, Int.not_lt, Int.not_le] at h2
        split at h
        · cases h
        · rename_i h3
          simp only [not_or, Int.not_lt, Decidable.not_not] at h3
          have hd1 : 1 ≤ dp.getD x.parent.toNat 0 := by
            have hl : x.parent.toNat < dp.length := by omega
            rw [List.getD_eq_getElem?_getD, List.getElem?_eq_getElem hl]
            exact hdv _ (List.getElem_mem hl)
          obtain ⟨d, hd⟩ := Int.eq_ofNat_of_zero_le (show 0 ≤ dp.getD x.parent.toNat 0 by omega)
          rw [hd] at h h3 hd1
          rw [List.length_map] at h3
          have htd : ((d : Int) - 1).toNat = d - 1 := by omega
          rw [htd] at h3
          have hel : d - 1 < (spT τ 0).length := by omega
          have hpe : (((spT τ 0).getD (d - 1) 0 : Nat) : Int) = x.parent := by
            have := h3.2.1
            rw [List.getD_eq_getElem?_getD, List.getElem?_map, List.getElem?_eq_getElem hel] at this
            rw [List.getD_eq_getElem?_getD, List.getElem?_eq_getElem hel]
            exact this
          obtain ⟨a1, a2, a3⟩ := addT_fl x.name x.props τ (d - 1) (-1) 0 hel
          rw [hpe] at a1
          rw [Int.toNat_natCast] at h
          have e1 : d - 1 + 1 = d := by omega
          have e2 : List.take d (List.map (fun (n : Nat) => (n : Int)) (spT τ 0)) ++ [((szT τ : Nat) : Int)] = (spT (addT x.name x.props (d - 1) τ) 0).map fun (n : Nat) => (n : Int) := by
            rw [a2, e1, List.map_append, List.map_take, Nat.zero_add]; rfl
          rw [e2, ← a3] at h
          obtain ⟨τ', hτ⟩ := chk_parse r (addT x.name x.props (d - 1) τ) _ _ (by simp [hdl, a3]) (fun v hv => by
            rcases List.mem_append.1 hv with hv | hv
            · exact hdv v hv
            · simp at hv; omega) h
          refine ⟨τ', ?_⟩
          rw [← hτ, a1, List.append_assoc]
          rfl
theorem treeOk_parse {l : List Nd} (h : treeOk l = true) : ∃ τ, l = flT τ (-1) 0 ∧ okTree τ = true := by
  have key : ∃ τ, l = flT τ (-1) 0 := by
    have h0 := h
    unfold treeOk at h
    simp only [Bool.and_eq_true, decide_eq_true_eq] at h
    obtain ⟨h1, h2⟩ := h
    cases l with
    | nil => simp at h2
    | cons x r =>
      have hx := (treeOk_nd h0 (j := 0) (x := x) rfl).root rfl
      rw [chkGo] at h1
      split at h1
      · cases h1
      · rw [if_pos rfl, if_neg (by simp [hx.1, hx.2])] at h1
        obtain ⟨τ, hτ⟩ := chk_parse r (.mk x.name x.props []) [1] [] (by simp [szT, szK]) (by simp) (by simpa [spT, spK, szT, szK] using h1)
        refine ⟨τ, ?_⟩
        rw [← hτ]
        obtain ⟨xp, xn, xps⟩ := x
        simp only at hx
        obtain ⟨rfl, rfl⟩ := hx
        simp [flT, flK]
  obtain ⟨τ, rfl⟩ := key
  exact ⟨τ, rfl, by rw [← treeOk_flT]; exact h⟩
end Go.Proofs.YtlkhajheecglgaaDoor

namespace Go.Proofs.YtlkhajheecglgaaDoor
open Go Wk

/-- A node and those above it, from it on. -/
def ancF (l : List Nd) : Nat → Nat → List Nat
  | 0, _ => []
  | f + 1, i => i :: (match l[i]? with | some x => if x.parent < 0 then [] else ancF l f x.parent.toNat | none => [])
def anc (l : List Nd) (i : Nat) : List Nat := ancF l (i + 1) i
def sameKid (x y : Nd) : Bool := decide (y.parent = x.parent) && decide (y.name = x.name)
def nextOk (l : List Nd) (i : Nat) : Bool := match l[i]? with
  | none => false
  | some x => decide (i < 512) && (propsOk x.props && (if i = 0 then decide (x.parent = -1) && decide (x.name = []) else
      nameOk x.name && (decide (0 ≤ x.parent) && (decide (x.parent < i) && ((anc l (i - 1)).contains x.parent.toNat && (decide ((anc l x.parent.toNat).length + 1 ≤ 16) && !((l.take i).drop 1).any (sameKid x)))))))
/-- Parents stand ahead. -/
def Down (l : List Nd) (n : Nat) : Prop := ∀ (j : Nat) (x : Nd), j < n → l[j]? = some x → x.parent < j
section
variable {l : List Nd} {n : Nat}
theorem ancF_eq (h : Down l n) : ∀ (i f : Nat), i < n → i < f → ancF l f i = anc l i := by
  intro i
  induction i using Nat.strongRecOn with
  | ind i ih =>
    intro f hi hf
    obtain ⟨f, rfl⟩ : ∃ g, f = g + 1 := ⟨f - 1, by omega⟩
    unfold anc
    rw [ancF, ancF]
    cases hx : l[i]? with
    | none => rfl
    | some x =>
      dsimp only
      by_cases hp : x.parent < 0
      · rw [if_pos hp, if_pos hp]
      · have := h i x hi hx
        rw [if_neg hp, if_neg hp, ih x.parent.toNat (by omega) f (by omega) (by omega), ih x.parent.toNat (by omega) i (by omega) (by omega)]
theorem anc_step (h : Down l n) {i : Nat} {x : Nd} (hi : i < n) (hx : l[i]? = some x) : anc l i = i :: (if x.parent < 0 then [] else anc l x.parent.toNat) := by
  have := h i x hi hx
  unfold anc
  rw [ancF, hx]
  dsimp only
  by_cases hp : x.parent < 0
  · rw [if_pos hp, if_pos hp]
  · rw [if_neg hp, if_neg hp, ancF_eq h x.parent.toNat i (by omega) (by omega)]; rfl
theorem anc_head (l : List Nd) (i : Nat) : ∃ r, anc l i = i :: r := ⟨_, rfl⟩
theorem anc_mem (h : Down l n) {p : Nat} : ∀ (m : Nat), m < n → m < l.length → p ∈ anc l m → ∃ pre, anc l m = pre ++ anc l p := by
  intro m
  induction m using Nat.strongRecOn with
  | ind m ih =>
    intro hm hl hp
    obtain ⟨x, hx⟩ := get_lt l hl
    have hs := anc_step h hm hx
    have hd := h m x hm hx
    rw [hs] at hp
    rcases List.mem_cons.1 hp with rfl | hp
    · exact ⟨[], rfl⟩
    · by_cases h0 : x.parent < 0
      · rw [if_pos h0] at hp; simp at hp
      · rw [if_neg h0] at hp hs
        obtain ⟨pre, e⟩ := ih x.parent.toNat (by omega) (by omega) (by omega) hp
        exact ⟨m :: pre, by rw [hs, e]; rfl⟩
end
theorem nextOk_down {l : List Nd} {n : Nat} (h : ∀ j, j < n → nextOk l j = true) : Down l n := fun j x hj hx => by
  have := h j hj
  unfold nextOk at this
  rw [hx] at this
  simp only [Bool.and_eq_true] at this
  by_cases h0 : j = 0
  · rw [if_pos h0] at this
    simp only [Bool.and_eq_true, decide_eq_true_eq] at this
    omega
  · rw [if_neg h0] at this
    simp only [Bool.and_eq_true, decide_eq_true_eq] at this
    exact this.2.2.2.2.1
theorem chk_next (l : List Nd) : ∀ (k i : Nat) (dp pt : List Int) (sn : List Kid), l.length - i = k → i ≤ l.length → (∀ j, j < i → nextOk l j = true) → dp.length = i → (∀ j, j < i → dp.getD j 0 = ((anc l j).length : Int)) →
    pt = (if i = 0 then [] else (anc l (i - 1)).reverse.map fun (n : Nat) => (n : Int)) → sn = ((l.take i).drop 1).map (fun y => (y.parent, y.name)) →
    ((chkGo i dp pt sn (l.drop i)).2.isSome = true ↔ ∀ j, i ≤ j → j < l.length → nextOk l j = true)
  | 0, i, dp, pt, sn, hk, hi, hall, hdl, hdp, hpt, hsn => by
    have e : i = l.length := by omega
    subst e
    rw [List.drop_length, chkGo]
    exact ⟨fun _ j h1 h2 => by omega, fun _ => rfl⟩
  | k + 1, i, dp, pt, sn, hk, hi, hall, hdl, hdp, hpt, hsn => by
    obtain ⟨x, hx⟩ := get_lt l (k := i) (by omega)
    have hdn := nextOk_down hall
    have hno : nextOk l i = (decide (i < 512) && (propsOk x.props && (if i = 0 then decide (x.parent = -1) && decide (x.name = []) else
      nameOk x.name && (decide (0 ≤ x.parent) && (decide (x.parent < i) && ((anc l (i - 1)).contains x.parent.toNat && (decide ((anc l x.parent.toNat).length + 1 ≤ 16) && !((l.take i).drop 1).any (sameKid x)))))))) := by
      conv => lhs; unfold nextOk
      rw [hx]
    have bad : ∀ (z : Int), nextOk l i = false → (((z, (none : Option (List Int))).2.isSome = true) ↔ ∀ j, i ≤ j → j < l.length → nextOk l j = true) := fun z h =>
      ⟨fun e => (by cases e), fun e => by have := e i (Nat.le_refl _) (by omega); rw [h] at this; cases this⟩
    rw [drop_cons hx, chkGo]
    by_cases c1 : 512 ≤ i ∨ propsOk x.props = false
    · rw [if_pos c1]
      refine bad _ ?_
      rw [hno]
      rcases c1 with c1 | c1
      · rw [decide_eq_false (by omega)]; rfl
      · rw [c1]; simp
    · rw [if_neg c1]
      simp only [not_or, Nat.not_le, Bool.not_eq_false] at c1
      rw [decide_eq_true c1.1, c1.2, Bool.true_and, Bool.true_and] at hno
      have step : nextOk l i = true → ∀ dp' pt' sn', dp'.length = i + 1 → (∀ j, j < i + 1 → dp'.getD j 0 = ((anc l j).length : Int)) → pt' = ((anc l i).reverse.map fun (n : Nat) => (n : Int)) → sn' = ((l.take (i + 1)).drop 1).map (fun y => (y.parent, y.name)) →
          ((chkGo (i + 1) dp' pt' sn' (l.drop (i + 1))).2.isSome = true ↔ ∀ j, i ≤ j → j < l.length → nextOk l j = true) := fun hn dp' pt' sn' h1 h2 h3 h4 => by
        rw [chk_next l k (i + 1) dp' pt' sn' (by omega) (by omega) (fun j hj => by
          rcases Nat.lt_or_ge j i with h | h
          · exact hall j h
          · obtain rfl : j = i := by omega
            exact hn) h1 h2 (by rw [if_neg (by omega)]; exact h3) h4]
        exact ⟨fun h j hj hl => by
          rcases Nat.lt_or_ge i j with h' | h'
          · exact h j h' hl
          · obtain rfl : j = i := by omega
            exact hn, fun h j hj hl => h j (by omega) hl⟩
      by_cases h0 : i = 0
      · subst h0
        rw [if_pos rfl] at hno ⊢
        by_cases c2 : x.parent ≠ -1 ∨ x.name ≠ []
        · rw [if_pos c2]
          refine bad _ ?_
          rw [hno]
          rcases c2 with c2 | c2
          · rw [decide_eq_false c2]; rfl
          · rw [decide_eq_false c2]; simp
        · rw [if_neg c2]
          simp only [ne_eq, not_or, Decidable.not_not] at c2
          rw [decide_eq_true c2.1, decide_eq_true c2.2] at hno
          have e1 : anc l 0 = [0] := by
            unfold anc
            rw [ancF, hx]
            dsimp only
            rw [if_pos (by omega)]
          obtain rfl : dp = [] := List.eq_nil_of_length_eq_zero hdl
          refine step hno _ _ _ rfl (fun j hj => ?_) (by rw [e1]; rfl) ?_
          · obtain rfl : j = 0 := by omega
            rw [e1]; rfl
          · rw [hsn]
            have : l.take (0 + 1) = [x] := by rw [take_snoc hx]; rfl
            rw [this]; simp
      · rw [if_neg h0] at hno ⊢
        rw [if_neg h0] at hpt
        by_cases c2 : nameOk x.name = false ∨ x.parent < 0 ∨ (i : Int) ≤ x.parent
        · rw [if_pos c2]
          refine bad _ ?_
          rw [hno]
          rcases c2 with c2 | c2 | c2
          · rw [c2]; rfl
          · rw [decide_eq_false (by omega)]; simp
          · rw [decide_eq_false (show ¬ x.parent < i by omega)]; simp
        · rw [if_neg c2]
          simp only [not_or, Bool.not_eq_false, Int.not_lt, Int.not_le] at c2
          obtain ⟨c2, c3, c4⟩ := c2
          obtain ⟨p, hp⟩ := Int.eq_ofNat_of_zero_le c3
          rw [c2, decide_eq_true c3, decide_eq_true c4, Bool.true_and, Bool.true_and, Bool.true_and, hp, Int.toNat_natCast] at hno
          have hpi : p < i := by omega
          rw [hp, Int.toNat_natCast, hdp p hpi, Int.toNat_natCast]
          obtain ⟨r, hr⟩ := anc_head l p
          have hpl : pt.length = (anc l (i - 1)).length := by rw [hpt]; simp
          have hd1 : (((anc l p).length : Int) - 1).toNat = r.length := by rw [hr]; simp
          rw [hd1]
          have hmem : p ∈ anc l (i - 1) ↔ ¬ ((pt.length : Int) < ((anc l p).length : Int)) ∧ pt.getD r.length 0 = (p : Int) := by
            constructor
            · intro hm
              obtain ⟨pre, e⟩ := anc_mem hdn (i - 1) (by omega) (by omega) hm
              rw [hpl, e, List.length_append]
              refine ⟨by omega, ?_⟩
              rw [hpt, e, hr, List.reverse_append, List.reverse_cons, List.map_append, List.map_append, List.append_assoc, List.getD_eq_getElem?_getD, List.getElem?_append_right (by simp)]
              simp
            · rintro ⟨h1, h2⟩
              rw [hr, List.length_cons, hpl] at h1
              rw [List.getD_eq_getElem?_getD, hpt, List.getElem?_map] at h2
              have hlt : r.length < (anc l (i - 1)).reverse.length := by rw [List.length_reverse]; omega
              rw [List.getElem?_eq_getElem hlt, Option.map_some, Option.getD_some] at h2
              have : (anc l (i - 1)).reverse[r.length] = p := by omega
              rw [← List.mem_reverse, ← this]
              exact List.getElem_mem hlt
          have hsnc : sn.contains ((p : Int), x.name) = ((l.take i).drop 1).any (sameKid x) := by
            rw [Bool.eq_iff_iff, List.contains_iff_mem, hsn, List.mem_map, List.any_eq_true]
            unfold sameKid
            simp only [Prod.mk.injEq, Bool.and_eq_true, decide_eq_true_eq, hp]
          by_cases c5 : (pt.length : Int) < ((anc l p).length : Int) ∨ pt.getD r.length 0 ≠ (p : Int) ∨ 16 < ((anc l p).length : Int) + 1 ∨ sn.contains ((p : Int), x.name) = true
          · rw [if_pos c5]
            refine bad _ ?_
            rw [hno]
            rcases c5 with c5 | c5 | c5 | c5
            · rw [show (anc l (i - 1)).contains p = false from Bool.eq_false_iff.2 fun e => (hmem.1 (List.contains_iff_mem.1 e)).1 c5]; rfl
            · rw [show (anc l (i - 1)).contains p = false from Bool.eq_false_iff.2 fun e => c5 (hmem.1 (List.contains_iff_mem.1 e)).2]; rfl
            · rw [decide_eq_false (by omega)]; simp
            · rw [← hsnc, c5]; simp
          · rw [if_neg c5]
            simp only [ne_eq, not_or, Decidable.not_not, Bool.not_eq_true] at c5
            obtain ⟨c5, c6, c7, c8⟩ := c5
            have hm := hmem.2 ⟨c5, c6⟩
            rw [List.contains_iff_mem.2 hm, decide_eq_true (by omega), ← hsnc, c8] at hno
            obtain ⟨pre, e⟩ := anc_mem hdn (i - 1) (by omega) (by omega) hm
            have hnext : nextOk l i = true := hno
            have hdn' : Down l (i + 1) := nextOk_down fun j hj => by
              rcases Nat.lt_or_ge j i with h | h
              · exact hall j h
              · obtain rfl : j = i := by omega
                exact hnext
            have hai : anc l i = i :: anc l p := by
              rw [anc_step hdn' (Nat.lt_succ_self i) hx, if_neg (by omega), hp, Int.toNat_natCast]
            refine step hnext _ _ _ (by simp [hdl]) (fun j hj => ?_) ?_ ?_
            · rcases Nat.lt_or_ge j i with h | h
              · rw [getD_left (by omega)]; exact hdp j h
              · obtain rfl : j = i := by omega
                rw [getD_last hdl, hai]; simp
            · rw [hpt, e, hai, List.reverse_append, List.map_append, List.take_append_of_le_length (by simp), List.take_of_length_le (by simp), List.reverse_cons, List.map_append]
              rfl
            · rw [hsn, take_snoc hx, List.drop_append_of_le_length (by simp; omega), List.map_append, ← hp]; rfl
/-- The same nodes are a tree. -/
theorem treeOk_next (l : List Nd) : treeOk l = true ↔ (∀ j, j < l.length → nextOk l j = true) ∧ 0 < l.length := by
  have h := chk_next l l.length 0 [] [] [] (by omega) (Nat.zero_le _) (fun j hj => by omega) rfl (fun j hj => by omega) rfl (by simp)
  rw [List.drop_zero] at h
  unfold treeOk
  rw [Bool.and_eq_true, decide_eq_true_eq, h]
  exact ⟨fun h => ⟨fun j hj => h.1 j (Nat.zero_le _) hj, h.2⟩, fun h => ⟨fun j _ hj => h.1 j hj, h.2⟩⟩
theorem anc_length {l : List Nd} {n : Nat} (h : Down l n) : ∀ i, i < n → (anc l i).length ≤ i + 1 := by
  intro i
  induction i using Nat.strongRecOn with
  | ind i ih =>
    intro hi
    cases hx : l[i]? with
    | none => unfold anc; rw [ancF, hx]; simp
    | some x =>
      have := h i x hi hx
      rw [anc_step h hi hx, List.length_cons]
      split
      · simp
      · have := ih x.parent.toNat (by omega) (by omega); omega
end Go.Proofs.YtlkhajheecglgaaDoor

namespace Go.Proofs.YtlkhajheecglgaaDoor
open Go Wk
open Go.RowKit (Below)
attribute [local irreducible] Go.Calls

theorem keyStr (s : List UInt8) (h : s.length ≤ maxLen) : ∃ q, keyOf Tryd.prog 9 (vs s) = some q :=
  ⟨_, WideMaps.keyOf_string_mk Tryd.underlying9 (by simpa only [ByteArray.size, List.size_toArray] using h)⟩
abbrev setV1 {α : Type} (f : α → Value) (ks : List α) : List (Value × Value) := ks.map fun k => (f k, vi 1)
theorem setV1_keys {α : Type} (f : α → Value) (ks : List α) : (setV1 f ks).map (·.1) = ks.map f := by simp [setV1, Function.comp_def]
theorem nodup_map {α β : Type} {f : α → β} (hf : ∀ a b, f a = f b → a = b) {l : List α} (h : l.Nodup) : (l.map f).Nodup := by
  unfold List.Nodup at *
  rw [List.pairwise_map]
  exact h.imp fun h e => h (hf _ _ e)
/-- Texts that a map may have as keys. -/
def TxOk (l : List Pr) : Prop := ∀ p ∈ l, p.1.length ≤ maxLen
set_option maxRecDepth 4000 in
theorem props_spec {Pb : Nat → Prop} {w : World} {v : Value} {l : List Pr} (h : RdS rPr 2 Pb w v l) (hs : TxOk l) :
    Calls Tryd.prog 39 #[v] w (Ret fun r w' => r = .bool (propsOk l) ∧ New w w') := by
  obtain ⟨a, cap, rfl, hc1, hc2⟩ := h.form
  simp only [maxLen] at hc2
  refine calls_of_Wc Tryd.func39 rfl Tryd.ntmps39 rfl ?_
  unfold propsOk
  (repeat' (first | refine Wl.assignE (by conv => { lhs; whnf }) ?_ | refine Wl.nil ?_ | refine Qseq.normal ?_ | refine Wc.seq ?_ | refine Wc.region ?_))
  refine Wl.makeMap (k := 9) fun w1 m1 n1 s1 => ?_
  generalize hbm : w.heap.size = bm at m1
  (repeat' (first | refine Wl.moveE (by conv => { lhs; whnf }) ?_ | refine Wl.assignE (by conv => { lhs; whnf }) ?_ | refine Wl.nil ?_ | refine Wl.lenS rfl ?_ | refine Qseq.normal ?_ | refine Wc.seq ?_ | refine Wc.region ?_ | refine Wc.block ?_))
  refine Wc.loop (σ := Nat) (fun i => [(0, .slice a l.length cap), (3, .map (some bm)), (7, .slice a l.length cap), (8, vi l.length), (9, vi i)]) (fun i w' => i ≤ l.length ∧ propsGo [] l = propsGo ((l.take i).map (·.1)) (l.drop i) ∧ ((l.take i).map (·.1)).Nodup ∧ MapL Tryd.prog 9 w' bm (setV1 vs ((l.take i).map (·.1))) ∧ New w w') (fun i => l.length - i) 0 ⟨rfl, rfl, rfl, rfl, rfl, trivial⟩ ⟨Nat.zero_le _, by simp, by simp, m1, n1⟩ ?_
  rintro i G w2 ⟨hi, hgo, hnd, m2, n2⟩
  simp only [upds]
  (repeat' (first | refine Wl.moveE (by conv => { lhs; whnf }) ?_ | refine Wl.assignE (by conv => { lhs; whnf }) ?_ | refine Wl.nil ?_ | refine Wl.lenS rfl ?_ | refine Qseq.normal ?_ | refine Wc.seq ?_ | refine Wc.region ?_ | refine Wc.block ?_ | refine Wc.skip ?_ | refine Wc.exit ?_ | refine Wc.ret ?_ | refine Qseq.exit ?_ | refine Qblk.hit ?_ | refine Qloop.exit ?_ | refine Wc.condT rfl ?_ | refine Wc.condF rfl ?_ | refine Wl.lss rfl rfl (fun _ => ?_) (fun _ => ?_) | refine Wl.leq rfl rfl (fun _ => ?_) (fun _ => ?_)))
  · obtain ⟨p, hp⟩ := get_lt l (k := i) (by omega)
    have hpl := hs p (List.mem_of_getElem? hp)
    obtain ⟨q, hq⟩ := keyStr p.1 hpl
    refine Wl.idxAddr (h.keep (stable_flat pC) n2.keep) rfl rfl (by omega) hp fun b o cs hl hR hat => ?_
    obtain rfl : cs = pC p := hR
    refine Wl.loadAt hat rfl rfl ?_
    refine Wl.alloc fun w3 b3 n3 s3 => ?_
    refine Wl.storeB (new := pC p) b3 rfl rfl rfl rfl (show (2 : Nat) ≤ 2 from Nat.le_refl 2) (goodPr.oc (fun _ => True) w p _ rfl rfl) fun w4 b4 c4 s4 => ?_
    have m4 := (m2.keep n3.keep (Pb := fun _ => True) trivial).chg c4 (by have := m2.lt; omega)
    have n4 : New w w4 := Chg.trans (New.trans n2 n3) c4 fun k hk e => by have := n2.size; omega
    replace b4 : Bk w4 w2.heap.size 41 (pC p) := b4
    have hbn : w2.heap.size ≠ bm := by have := m2.lt; omega
    clear m2 b3 c4 n3
    rw [drop_cons hp] at hgo
    simp only [propsGo] at hgo
    generalize hsn : (l.take i).map (·.1) = sn at *
    have hts : (l.take (i + 1)).map (·.1) = sn ++ [p.1] := by rw [take_snoc hp, List.map_append, hsn]; rfl
    (repeat' (first | refine Wl.nil ?_ | refine Qseq.normal ?_))
    refine Wc.cut (fun F w' => ∃ l' cnt, agrees F [(0, .slice a l.length cap), (3, .map (some bm)), (5, .pointer (some ⟨w2.heap.size, 0, none⟩)), (7, .slice a l.length cap), (8, vi l.length), (9, vi i)] ∧ MapL Tryd.prog 9 w' bm l' ∧ (∀ r, (vs p.1, r) ∈ l' ∨ (r = vi 0 ∧ ∀ q ∈ l', q.1 ≠ vs p.1) → r = vi cnt) ∧
      ((sn.contains p.1 = true ∧ cnt = 2) ∨ (sn.contains p.1 = false ∧ cnt = 1 ∧ l' = setV1 vs (sn ++ [p.1]))) ∧ Chg (fun b => b = bm) w4 w') ?_ ?_
    · (repeat' (first | refine Wl.moveE (by conv => { lhs; whnf }) ?_ | refine Wc.region ?_ | refine Wl.fieldAddr rfl rfl ?_))
      refine Wl.load1 rfl (b4.cell (o := 0) rfl) ?_
      refine Wl.lookup (Maps.string_keyed Tryd.underlying9) m4 hq rfl rfl ?_
      rintro r (hr | ⟨rfl, hr⟩)
      · obtain ⟨k, hk, e⟩ := List.mem_map.1 hr
        simp only [Prod.mk.injEq] at e
        obtain ⟨e1, rfl⟩ := e
        have hk' : p.1 ∈ sn := by rw [← vs_inj e1]; exact hk
        (repeat' (refine Wl.add rfl rfl (by omega) (by omega) ?_))
        refine Wl.mapSet (u := vi (1 + 1)) (Maps.string_keyed Tryd.underlying9) m4 hq hr (by rw [setV1_keys]; exact nodup_map (fun a b e => vs_inj e) hnd) rfl rfl rfl fun w5 l5 m5 h5 u5 c5 => ?_
        refine Wl.nil ⟨rfl, l5, 2, ⟨rfl, rfl, rfl, rfl, rfl, rfl, trivial⟩, m5, fun r hr => ?_, .inl ⟨List.contains_iff_mem.2 hk', rfl⟩, c5⟩
        rcases hr with hr | ⟨_, hr⟩
        · exact u5 r hr
        · exact absurd rfl (hr _ h5)
      · have hnk : sn.contains p.1 = false := by
          rw [Bool.eq_false_iff]; intro hc
          exact hr (vs p.1, vi 1) (List.mem_map.2 ⟨p.1, List.contains_iff_mem.1 hc, rfl⟩) rfl
        (repeat' (refine Wl.add rfl rfl (by omega) (by omega) ?_))
        refine Wl.mapPut (u := vi (0 + 1)) (Maps.string_keyed Tryd.underlying9) m4 hq hr rfl rfl rfl fun w5 m5 c5 s5 => ?_
        refine Wl.nil ⟨rfl, _, 1, ⟨rfl, rfl, rfl, rfl, rfl, rfl, trivial⟩, m5, fun r hr' => ?_, .inr ⟨hnk, rfl, by simp [setV1]⟩, c5⟩
        rcases hr' with hr' | ⟨_, hr'⟩
        · rcases List.mem_append.1 hr' with h1 | h1
          · exact absurd rfl (hr _ h1)
          · simp only [List.mem_singleton, Prod.mk.injEq] at h1
            exact h1.2
        · exact absurd rfl (hr' (vs p.1, vi (0 + 1)) (by simp))
    · rintro F w5 ⟨l5, cnt, hag, m5, hcnt, hcase, c5⟩
      rw [← upds_of_agrees hag]
      simp only [upds]
      have b5 := b4.chg c5 hbn
      have n5 : New w w5 := Chg.trans n4 c5 fun k hk e => by omega
      (repeat' (first | refine Wc.seq ?_ | refine Wc.region ?_ | refine Wl.fieldAddr rfl rfl ?_))
      refine Wl.load1 rfl (b5.cell (o := 0) rfl) ?_
      refine Wl.call (name_spec (s := p.1)) rfl ?_
      rintro _ w6 ⟨rfl, n6⟩
      have b6 := b5.chg n6 id
      have m6 := m5.chg n6 id
      replace n6 := New.trans n5 n6
      cases hok : nameOk p.1 with
      | false =>
        (repeat' (first | refine Wl.moveE (by conv => { lhs; whnf }) ?_ | refine Wl.assignE (by conv => { lhs; whnf }) ?_ | refine Wl.nil ?_ | refine Wl.guardN rfl rfl ?_ | refine Wl.pickTE rfl (by conv => { lhs; whnf }) ?_ | refine Wl.notB rfl ?_ | refine Qseq.normal ?_ | refine Wc.seq ?_ | refine Wc.region ?_ | refine Wc.ret ?_ | refine Qseq.ret ?_ | refine Qblk.ret ?_ | refine Qloop.ret ?_ | refine Wc.condT rfl ?_))
        rw [hgo, hok, Bool.false_and, Bool.and_false]
        exact Qfn.ret1 rfl rfl ⟨_, rfl, rfl, n6⟩
      | true =>
        rw [hok, Bool.true_and] at hgo
        (repeat' (first | refine Wl.moveE (by conv => { lhs; whnf }) ?_ | refine Wl.guardY rfl rfl ?_ | refine Wl.notB rfl ?_ | refine Wl.fieldAddr rfl rfl ?_))
        refine Wl.load1 rfl (b6.cell (o := 1) rfl) ?_
        (repeat' (first | refine Wl.moveE (by conv => { lhs; whnf }) ?_ | refine Wl.assignE (by conv => { lhs; whnf }) ?_ | refine Wl.nil ?_ | refine Wl.guardY rfl rfl ?_ | refine Wl.guardN rfl rfl ?_ | refine Wl.pickTE rfl (by conv => { lhs; whnf }) ?_ | refine Wl.pickFE rfl (by conv => { lhs; whnf }) ?_ | refine Wl.lenStr rfl ?_ | refine Qseq.normal ?_ | refine Wc.seq ?_ | refine Wc.region ?_ | refine Wc.ret ?_ | refine Qseq.ret ?_ | refine Qblk.ret ?_ | refine Qloop.ret ?_ | refine Wc.condT rfl ?_ | refine Wl.fieldAddr rfl rfl ?_ | refine Wl.gtr rfl rfl (fun _ => ?_) (fun _ => ?_)))
        · have hgo2 : propsGo [] l = false := by rw [hgo, decide_eq_false (by omega), Bool.false_and]
          rw [hgo2, Bool.and_false]
          exact Qfn.ret1 rfl rfl ⟨_, rfl, rfl, n6⟩
        · rw [decide_eq_true (by omega), Bool.true_and] at hgo
          refine Wl.load1 rfl (b6.cell (o := 0) rfl) ?_
          refine Wl.guardY rfl rfl ?_
          refine Wl.lookup (Maps.string_keyed Tryd.underlying9) m6 hq rfl rfl ?_
          intro r hr
          rw [hcnt r hr]
          rcases hcase with ⟨hc, rfl⟩ | ⟨hc, rfl, rfl⟩
          · (repeat' (first | refine Wl.assignE (by conv => { lhs; whnf }) ?_ | refine Wl.nil ?_ | refine Wl.guardY rfl rfl ?_ | refine Wl.pickFE rfl (by conv => { lhs; whnf }) ?_ | refine Qseq.normal ?_ | refine Wc.seq ?_ | refine Wc.region ?_ | refine Wc.ret ?_ | refine Qseq.ret ?_ | refine Qblk.ret ?_ | refine Qloop.ret ?_ | refine Wc.condT rfl ?_ | (refine Wl.gtr rfl rfl (fun _ => ?_) (fun _ => ?_) <;> (first | (exfalso; omega) | skip))))
            rw [hgo, hc, Bool.not_true, Bool.false_and, Bool.and_false]
            exact Qfn.ret1 rfl rfl ⟨_, rfl, rfl, n6⟩
          · (repeat' (first | refine Wl.moveE (by conv => { lhs; whnf }) ?_ | refine Wl.nil ?_ | refine Wl.guardY rfl rfl ?_ | refine Wl.pickFE rfl (by conv => { lhs; whnf }) ?_ | refine Qseq.normal ?_ | refine Wc.region ?_ | refine Wc.skip ?_ | refine Qblk.normal ?_ | refine Wc.condF rfl ?_ | refine Wl.add rfl rfl (by omega) (by omega) ?_ | (refine Wl.gtr rfl rfl (fun _ => ?_) (fun _ => ?_) <;> (first | (exfalso; omega) | skip))))
            rw [hc, Bool.not_false, Bool.true_and] at hgo
            refine Qloop.normal (i + 1) ⟨rfl, rfl, rfl, rfl, rfl, trivial⟩ ⟨by omega, by rw [hts]; exact hgo, ?_, by rw [hts]; exact m6, n6⟩ (by omega)
            rw [hts, List.nodup_append]
            refine ⟨hnd, by simp, fun x hx y hy e => ?_⟩
            simp only [List.mem_singleton] at hy
            subst hy
            subst e
            rw [List.contains_iff_mem.2 hx] at hc
            cases hc
  all_goals
    have e : i = l.length := by omega
    subst e
    rw [List.drop_length] at hgo
    have hgo' : propsGo [] l = true := hgo
    rw [hgo', Bool.and_true]
  · rw [decide_eq_true (by omega)]
    exact Qfn.ret1 rfl rfl ⟨_, rfl, rfl, n2⟩
  · rw [decide_eq_false (by omega)]
    exact Qfn.ret1 rfl rfl ⟨_, rfl, rfl, n2⟩
/-! The path from the root to a node. -/
theorem anc_le {l : List Nd} {n : Nat} (h : Down l n) : ∀ (i : Nat), i < n → i < l.length → ∀ m ∈ anc l i, m ≤ i := by
  intro i
  induction i using Nat.strongRecOn with
  | ind i ih =>
    intro hi hl m hm
    obtain ⟨x, hx⟩ := get_lt l hl
    have hd := h i x hi hx
    rw [anc_step h hi hx] at hm
    rcases List.mem_cons.1 hm with rfl | hm
    · omega
    · split at hm
      · simp at hm
      · have := ih x.parent.toNat (by omega) (by omega) (by omega) m hm
        omega
theorem anc_tail {l : List Nd} {n : Nat} (h : Down l n) {i : Nat} (hi : i < n) (hl : i < l.length) : ∃ r, anc l i = i :: r ∧ ∀ m ∈ r, m < i := by
  obtain ⟨x, hx⟩ := get_lt l hl
  have hd := h i x hi hx
  refine ⟨_, anc_step h hi hx, fun m hm => ?_⟩
  split at hm
  · simp at hm
  · have := anc_le h x.parent.toNat (by omega) (by omega) m hm
    omega
def pathI (l : List Nd) (i : Nat) : List Int := (anc l i).reverse.map fun (n : Nat) => (n : Int)
/-- Where a node stands in the path to another one. -/
theorem path_idx {l : List Nd} {n : Nat} (h : Down l n) {i : Nat} (hi : i < n) (hl : i < l.length) (p : Int) :
    (p < 0 ∨ (anc l i).contains p.toNat = false) ∧ Lib.idxOf (pathI l i) p = -1 ∨
    ∃ q : Nat, p = (q : Int) ∧ (anc l i).contains q = true ∧ Lib.idxOf (pathI l i) p = ((anc l q).length : Int) - 1 ∧ (pathI l i).take (anc l q).length = pathI l q ∧ 1 ≤ (anc l q).length := by
  by_cases hp : 0 ≤ p ∧ (anc l i).contains p.toNat = true
  · right
    obtain ⟨q, rfl⟩ := Int.eq_ofNat_of_zero_le hp.1
    rw [Int.toNat_natCast] at hp
    have hqm := List.contains_iff_mem.1 hp.2
    have hqi := anc_le h i hi hl q hqm
    obtain ⟨pre, e⟩ := anc_mem h i hi hl hqm
    obtain ⟨r, er, hr⟩ := anc_tail h (i := q) (by omega) (by omega)
    have e2 : pathI l i = (r.reverse.map fun (n : Nat) => (n : Int)) ++ (q : Int) :: (pre.reverse.map fun (n : Nat) => (n : Int)) := by
      unfold pathI; rw [e, er]; simp
    have hlen : (anc l q).length = r.length + 1 := by rw [er]; simp
    have hidx : Lib.idxOf (pathI l i) (q : Int) = ((r.length : Nat) : Int) := by
      have := Lib.idxOf_hit (pathI l i) (pathI l i).length r.length (q : Int) (by rw [e2]; simp) (Nat.le_refl _) (by
        rw [List.getD_eq_getElem?_getD, e2, List.getElem?_append_right (by simp)]; simp) (fun j hj => by
        rw [List.getD_eq_getElem?_getD, e2, List.getElem?_append_left (by simpa using hj), List.getElem?_map]
        obtain ⟨m, hm⟩ := get_lt r.reverse (k := j) (by simpa using hj)
        rw [hm]
        have := hr m (List.mem_reverse.1 (List.mem_of_getElem? hm))
        simp only [Option.map_some, Option.getD_some]
        omega)
      rwa [List.take_length] at this
    refine ⟨q, rfl, hp.2, by rw [hidx, hlen]; omega, ?_, by omega⟩
    rw [hlen, e2]
    have e3 : pathI l q = (r.reverse.map fun (n : Nat) => (n : Int)) ++ [(q : Int)] := by unfold pathI; rw [er]; simp
    rw [e3, List.append_cons]
    exact List.take_left' (by simp)
  · left
    refine ⟨?_, ?_⟩
    · rcases Int.lt_or_le p 0 with h0 | h0
      · exact .inl h0
      · right
        rw [Bool.eq_false_iff]
        exact fun e => hp ⟨h0, e⟩
    · have := Lib.idxOf_miss (pathI l i) (pathI l i).length p (fun j hj e => by
        have hm : p ∈ pathI l i := by
          rw [List.getD_eq_getElem?_getD, List.getElem?_eq_getElem hj] at e
          rw [← e]; exact List.getElem_mem hj
        obtain ⟨m, hm1, rfl⟩ := List.mem_map.1 hm
        exact hp ⟨by omega, by rw [Int.toNat_natCast]; exact List.contains_iff_mem.2 (List.mem_reverse.1 hm1)⟩)
      rwa [List.take_length] at this
theorem path_snoc {l : List Nd} {n i q : Nat} {x : Nd} (h : Down l n) (hi : i < n) (hx : l[i]? = some x) (hp : x.parent = (q : Int)) : pathI l i = pathI l q ++ [(i : Int)] := by
  unfold pathI
  rw [anc_step h hi hx, if_neg (by omega), hp]
  simp
theorem Index_spec {Pb : Nat → Prop} {w : World} {v : Value} {l : List Int} {x : Int} (h : RdS (one vi) 1 Pb w v l) : Calls Tryd.prog 40 #[v, vi x] w (Ret fun r w' => r = vi (Lib.idxOf l x) ∧ w = w') := by
  rcases h with ⟨rfl, rfl⟩ | ⟨a, cap, rfl, rfl, _⟩ | ⟨b, off, cap, cur, e, fr, rfl, hb, hh, h1, h2, h3, h4⟩
  · refine (Tryd.slices_Index_int_empty none 0 x w).mono ?_
    rintro e w' ⟨rfl, rfl⟩
    exact ⟨_, rfl, rfl, rfl⟩
  · refine (Tryd.slices_Index_int_empty (some a) cap x w).mono ?_
    rintro e w' ⟨rfl, rfl⟩
    exact ⟨_, rfl, rfl, rfl⟩
  · refine (Tryd.slices_Index_int b off l.length cap l x w (Nat.le_refl _) (by simp only [maxLen] at h2; omega) (fun j hj => ?_)).mono ?_
    · have := h4 j l[j] (List.getElem?_eq_getElem hj)
      have h5 : (cur.toList.drop (off + j * 1)).take 1 = [vi l[j]] := this
      rw [Nat.mul_one] at h5
      have h6 : cur.toList[off + j]? = some (vi l[j]) := by
        have := congrArg (fun q => q[0]?) h5
        simp only [List.getElem?_take, List.getElem?_drop] at this
        simpa using this
      rw [List.getD_eq_getElem?_getD, List.getElem?_eq_getElem hj]
      simp only [World.cell?, hh, Option.getD_some]
      simpa using h6
    · rintro e w' ⟨rfl, rfl⟩
      rw [List.take_length]
      exact ⟨_, rfl, rfl, rfl⟩
end Go.Proofs.YtlkhajheecglgaaDoor
