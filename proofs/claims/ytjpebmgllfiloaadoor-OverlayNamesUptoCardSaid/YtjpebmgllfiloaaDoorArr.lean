/-
  The generic walking kit of this claim: structs and arrays by value, bytes of a string, bits. It speaks of any program.
-/
import Derived.Test.YtjpebmgllfiloaaDoorOpen
import Derived.Lib.ConvBytes
namespace Go.Proofs.YtjpebmgllfiloaaDoor.Wk
open Go Go.RowKit

/-- A struct of n fields of one cell each. -/
class Flat (P : Program) (t : TypeId) (n : outParam Nat) : Prop where
  ex : ∃ fs, P.underlying t = some (.struct fs) ∧ fs.size = n ∧ ((List.range n).all fun i => match fs[i]? with | some f => f.offset == i && (P.info? f.type).map (·.size) == some 1 | none => false) = true
def setAll (cs : Array Value) : List (Nat × Value) → Array Value
  | [] => cs
  | (i, v) :: r => setAll (cs.setIfInBounds i v) r
section
variable {P : Program} {n : Nat} {ds : List Deferred} {Q : Po} {F : Fr} {w w' : World} {ops rest : List Oper} {d d1 d2 : Nat} {ty ty1 ty2 : TypeId} {pos pos1 pos2 : String} {aft aft1 aft2 : Array Edge}
theorem mapM_ok {α β : Type} {f : α → Sem β} {g : α → β} : ∀ (l : List α), (∀ x ∈ l, ∀ w, (f x).run P w = .ok (g x) w) → ∀ w, (l.mapM f).run P w = .ok (l.map g) w
  | [], _, w => by simp
  | x :: l, h, w => by
    rw [List.mapM_cons]
    simp only [Sem.run_bind, h x (by simp), Result.andThen_ok, mapM_ok l (fun y hy => h y (by simp [hy])), Sem.run_pure, List.map_cons]
theorem fill_flat {m : Nat} {places : Nat → Option (Nat × Nat)} : ∀ (parts : List (Nat × Value)) (cells : Array Value), cells.size = m → (∀ i, i < m → places i = some (i, 1)) → (∀ p ∈ parts, p.1 < m ∧ p.2.cells = #[p.2]) →
    Instr.fill places cells parts = some (setAll cells parts)
  | [], cells, _, _, _ => rfl
  | (i, v) :: r, cells, hs, hp, h => by
    obtain ⟨h1, h2⟩ := h (i, v) (by simp)
    dsimp only at h1 h2
    simp only [Instr.fill, hp i h1, h2]
    rw [if_neg (by simp; omega), ← Array.foldl_toList, Array.toList_zipIdx]
    exact fill_flat r _ (by simpa using hs) hp fun p hp => h p (by simp [hp])
theorem run_buildF {t : TypeId} {m sz bytes : Nat} {agg : Bool} {z : Value} {parts : List (Nat × Value)} (hf : Flat P t m) (he : ElT P t sz bytes agg z) (hz : z.cells.size = m) (hp : ∀ p ∈ parts, p.1 < m ∧ p.2.cells = #[p.2]) :
    (Instr.build t parts.toArray).run P w = .ok (.agg (setAll z.cells parts)) w := by
  obtain ⟨fs, hu, hsz, hall⟩ := hf.ex
  have hfield : ∀ (i : Nat) (hi : i < fs.size), fs[i].offset = i ∧ ∀ w, (sizeOf fs[i].type).run P w = .ok 1 w := by
    intro i hi
    have := List.all_eq_true.1 hall i (List.mem_range.2 (by omega))
    simp only [Array.getElem?_eq_getElem hi, Bool.and_eq_true, beq_iff_eq] at this
    refine ⟨this.1, fun w => ?_⟩
    obtain ⟨ti, h1, h2⟩ := Option.map_eq_some_iff.1 this.2
    simp [sizeOf, typeInfo, h1, h2]
  have hm : (fs.mapM fun f => (do pure (f.offset, ← sizeOf f.type) : Sem (Nat × Nat))).run P w = .ok (fs.map fun f => (f.offset, 1)) w := by
    rw [Array.mapM_eq_mapM_toList]
    have := mapM_ok (P := P) (f := fun f : Field => (Prod.mk f.offset <$> sizeOf f.type : Sem (Nat × Nat))) (g := fun f => (f.offset, 1)) fs.toList (fun f hf w => by
      obtain ⟨i, hi, rfl⟩ := List.getElem_of_mem hf
      have := (hfield i (by simpa using hi)).2 w
      simp at this ⊢
      simp [this]) w
    simp [this]
    apply Array.ext'
    simp
  have hpl : ∀ i, i < m → (fs.map fun f => (f.offset, 1))[i]? = some (i, 1) := by
    intro i hi
    have hi' : i < fs.size := by omega
    rw [Array.getElem?_map, Array.getElem?_eq_getElem hi']
    simp [(hfield i hi').1]
  have hfill := fill_flat (m := m) (places := ((fs.map fun f => (f.offset, 1))[·]?)) parts z.cells hz hpl hp
  simp only [Instr.build, Sem.run_bind, he.zeroValue, Result.andThen_ok, run_underlying hu, hm, hfill, Sem.run_pure]
/-- A struct by its parts. -/
theorem Wl.buildF {t : TypeId} {m sz bytes : Nat} {agg : Bool} {z : Value} {ps : List (Nat × Operand)} {parts : List (Nat × Value)} [hf : Flat P t m] [he : ElT P t sz bytes agg z] (hz : z.cells.size = m) (hps : ps.map (fun p => (p.1, ev n F p.2)) = parts) (hp : ∀ p ∈ parts, p.1 < m ∧ p.2.cells = #[p.2])
    (c : Wl P n ds Q ops rest (upd F d (.agg (setAll z.cells parts))) w) : Wl P n ds Q ops (⟨some d, .build t ps.toArray, ty, pos, aft, none⟩ :: rest) F w := by
  refine Wl.val ?_ c
  subst hps
  have := run_buildF (P := P) (w := w) hf he hz hp
  simp only [execOp, List.map_toArray, Sem.run_bind]
  rw [this]; rfl
/-- A variable of several cells, whole. -/
theorem Wl.loadB {x : Operand} {e sz bytes : Nat} {z : Value} {b : Nat} {T : TypeId} {cs : List Value} [he : ElT P e sz bytes true z] (h : Bk w b T cs) (hl : cs.length = sz) (hx : ev n F x = .pointer (some ⟨b, 0, none⟩))
    (c : Wl P n ds Q ops rest (upd F d (.agg cs.toArray)) w) : Wl P n ds Q ops (⟨some d, .load e x, ty, pos, aft, none⟩ :: rest) F w :=
  Wl.val (by simp only [execOp, hx, Sem.run_bind, run_loadA he hl (fun j u hu => by rw [Nat.zero_add]; exact h.cell hu), Result.andThen_ok, Sem.run_pure]) c
/-- a[j] of an array by value, elements of one cell. -/
theorem Wl.idxArr {x i : Operand} {t e m bytes : Nat} {z u : Value} {k : IntKind} {j : Int} {cs : List Value} [ht : Und P t (.array m e)] [he : ElT P e 1 bytes false z] (hx : ev n F x = .agg cs.toArray) (hi : ev n F i = .int k j) (h0 : 0 ≤ j) (h1 : j < m) (hu : cs[j.toNat]? = some u)
    (c : Wl P n ds Q ops rest (upd F d u) w) : Wl P n ds Q ops (⟨some d, .index t x i, ty, pos, aft, none⟩ :: rest) F w := by
  have : (Instr.index t (.agg cs.toArray) (.int k j)).run P w = .ok u w := by
    simp [Instr.index, asIntOf, run_underlying ht.h, h0, h1, he.sizeOf, part, he.isAgg, hu]
  exact Wl.val (by simp only [execOp, hx, hi, Sem.run_bind, this, Result.andThen_ok, Sem.run_pure]) c
/-- A field of a struct by value, one cell. -/
theorem Wl.field1 {x : Operand} {t i off fty bytes : Nat} {z u : Value} {cs : List Value} [hf : Fld P t i off fty] [he : ElT P fty 1 bytes false z] (hx : ev n F x = .agg cs.toArray) (hu : cs[off]? = some u)
    (c : Wl P n ds Q ops rest (upd F d u) w) : Wl P n ds Q ops (⟨some d, .field t x i, ty, pos, aft, none⟩ :: rest) F w := by
  obtain ⟨fs, f, h1, h2, rfl, rfl⟩ := hf.ex
  have : (Instr.field t (.agg cs.toArray) i).run P w = .ok u w := by
    simp [Instr.field, run_underlying h1, h2, asAgg, part, he.isAgg, hu]
  exact Wl.val (by simp only [execOp, hx, Sem.run_bind, this, Result.andThen_ok, Sem.run_pure]) c
/-- (*[N]T)(s). -/
theorem Wl.toArrP {x : Operand} {t m e : Nat} {a : Option Addr} {l cap : Nat} [ht : Und P t (.array m e)] (hx : ev n F x = .slice a l cap) (hl : m ≤ l)
    (c : Wl P n ds Q ops rest (upd F d (.pointer a)) w) : Wl P n ds Q ops (⟨some d, .sliceToArrayPointer t x, ty, pos, aft, none⟩ :: rest) F w := by
  have : (Instr.arrayAt t (.slice a l cap)).run P w = .ok (.pointer a) w := by
    simp [Instr.arrayAt, run_underlying ht.h]; omega
  exact Wl.val (by simp only [execOp, hx, Sem.run_bind, this, Result.andThen_ok, Sem.run_pure]) c
/-- []byte(s). -/
theorem Wl.strBytes {x : Operand} {t t' e : TypeId} {l : List UInt8} [ht : Und P t .string] [ht' : Und P t' (.slice e)] [he : Und P e (.int .u8)] (hx : ev n F x = vs l) (hlm : l.length ≤ maxLen)
    (c : ∀ w' cap C fr, w'.heap[w.heap.size]? = some (.cells C e fr) → C.toList.take l.length = l.map (fun b => .int .u8 b.toNat) → l.length ≤ C.size → New w w' → w'.heap.size = w.heap.size + 1 →
      RdS (one fun b : UInt8 => .int .u8 b.toNat) 1 (fun b => w.heap.size ≤ b) w' (.slice (some ⟨w.heap.size, 0, none⟩) l.length cap) l → Wl P n ds Q ops rest (upd F d (.slice (some ⟨w.heap.size, 0, none⟩) l.length cap)) w') :
    Wl P n ds Q ops (⟨some d, .convert t t' x, ty, pos, aft, none⟩ :: rest) F w := by
  have hs : (⟨l.toArray⟩ : ByteArray).size = l.length := by simp [ByteArray.size]
  have hr := Lib.run_convert_string_bytes (P := P) w t t' e ⟨l.toArray⟩ ht.h ht'.h he.h
  have hge := grownCap_ge w l.length 0 e
  have hle := grownCap_le_maxLen w l.length 0 e hlm
  rw [hs] at hr
  have hC : Lib.bytesCells w e ⟨l.toArray⟩ = (l.map (fun b => Value.int .u8 b.toNat)).toArray ++ Array.replicate (grownCap w l.length 0 e - l.length) (.int .u8 0) := by
    simp [Lib.bytesCells, hs]
  have hnew := Lib.bytesWorld_at_new w e ⟨l.toArray⟩
  have htk : (Lib.bytesCells w e ⟨l.toArray⟩).toList.take l.length = l.map (fun b => Value.int .u8 b.toNat) := by
    rw [hC, Array.toList_append, List.take_append_of_le_length (by simp), List.take_of_length_le (by simp)]
  have hsz : l.length ≤ (Lib.bytesCells w e ⟨l.toArray⟩).size := by rw [hC]; simp
  have hn : New w (Lib.bytesWorld w e ⟨l.toArray⟩) := by
    refine ⟨rfl, rfl, rfl, by rw [Lib.bytesWorld_size]; omega, fun k hk _ => Lib.bytesWorld_at_old w e _ k hk⟩
  refine Wl.val (w' := Lib.bytesWorld w e ⟨l.toArray⟩) ?_ (c _ (grownCap w l.length 0 e) _ _ hnew htk hsz hn (Lib.bytesWorld_size w e _) ?_)
  · simp only [execOp, hx, Sem.run_bind, hr, Result.andThen_ok, Sem.run_pure]
  · refine .inr (.inr ⟨w.heap.size, 0, _, _, _, _, rfl, Nat.le_refl _, hnew, hge, hle, by omega, fun i b hb => ?_⟩)
    have hi : i < l.length := (List.getElem?_eq_some_iff.1 hb).1
    have h1 := congrArg (fun q => q[i]?) htk
    simp only [List.getElem?_take, if_pos hi, List.getElem?_map, hb, Option.map_some] at h1
    obtain ⟨h2, h3⟩ := List.getElem?_eq_some_iff.1 h1
    simp only [one, Nat.zero_add, Nat.mul_one]
    rw [List.drop_eq_getElem_cons h2, h3]; rfl

/-! ### Bits -/
theorem or_add (a b m : Nat) (hb : b < 2 ^ m) : a * 2 ^ m ||| b = a * 2 ^ m + b := by
  rw [Nat.mul_comm, Nat.two_pow_add_eq_or_of_lt hb]
theorem wrap_u {k : IntKind} (hk : k.signed = false) {x : Int} (h0 : 0 ≤ x) (h1 : x < 2 ^ k.bits) : k.wrap x = x := by
  simp only [IntKind.wrap, hk, Bool.false_and, Bool.false_eq_true, if_false]
  exact Int.emod_eq_of_lt h0 h1
theorem run_orU {k : IntKind} (hk : k.signed = false) (a b m : Nat) (hb : b < 2 ^ m) (hab : a * 2 ^ m + b < 2 ^ k.bits) : Op.intBits .or k ((a * 2 ^ m : Nat) : Int) (b : Int) = pure (.int k ((a * 2 ^ m + b : Nat) : Int)) := by
  have h1 : (BitVec.ofInt k.bits ((a * 2 ^ m : Nat) : Int) ||| BitVec.ofInt k.bits (b : Int)).toNat = a * 2 ^ m + b := by
    rw [BitVec.toNat_or, BitVec.toNat_ofInt, BitVec.toNat_ofInt]
    have e1 : (((a * 2 ^ m : Nat) : Int) % ((2 ^ k.bits : Nat) : Int)).toNat = a * 2 ^ m := by
      rw [Int.emod_eq_of_lt (by omega) (by omega)]; omega
    have e2 : ((b : Int) % ((2 ^ k.bits : Nat) : Int)).toNat = b := by
      rw [Int.emod_eq_of_lt (by omega) (by omega)]; omega
    rw [e1, e2, or_add _ _ _ hb]
  simp only [Op.intBits, h1]
  rw [wrap_u hk (by omega) (by have : ((a * 2 ^ m + b : Nat) : Int) < ((2 ^ k.bits : Nat) : Int) := by omega
                               simpa using this)]
/-- x | y, x the high bits, y below. -/
theorem Wl.orU {x y : Operand} {t t' : TypeId} {k : IntKind} {A B : Int} (a b m : Nat) (hk : k.signed = false) (hA : A = ((a * 2 ^ m : Nat) : Int)) (hB : B = (b : Int)) (hb : b < 2 ^ m) (hab : a * 2 ^ m + b < 2 ^ k.bits) (hx : ev n F x = .int k A) (hy : ev n F y = .int k B)
    (c : Wl P n ds Q ops rest (upd F d (.int k ((a * 2 ^ m + b : Nat) : Int))) w) : Wl P n ds Q ops (⟨some d, .binOp .or t x y t', ty, pos, aft, none⟩ :: rest) F w := by
  subst hA
  subst hB
  refine Wl.val ?_ c
  simp only [execOp, hx, hy, Sem.run_bind, run_eqGuard_int, Result.andThen_ok]
  have : binOp .or t (.int k ((a * 2 ^ m : Nat) : Int)) (.int k (b : Int)) = Op.intBits .or k ((a * 2 ^ m : Nat) : Int) (b : Int) := by simp [binOp]
  rw [this, run_orU hk a b m hb hab]; rfl
end
end Go.Proofs.YtjpebmgllfiloaaDoor.Wk
