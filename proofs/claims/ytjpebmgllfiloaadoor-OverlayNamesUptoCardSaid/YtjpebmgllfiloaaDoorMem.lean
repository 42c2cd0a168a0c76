/-
  The generic walking kit of this claim, third part: what memory holds (slices that read as lists), and the operations that read and make memory. It speaks of any program.
-/
import Derived.Test.YtjpebmgllfiloaaDoorCore
namespace Go.Proofs.YtjpebmgllfiloaaDoor.Wk
open Go Go.RowKit

/-! ### Readings -/
/-- The blocks with P read in w' as in w. -/
def Keep (Pb : Nat → Prop) (w w' : World) : Prop := ∀ b, Pb b → b < w.heap.size → w'.heap[b]? = w.heap[b]?
abbrev Rel (α : Type) := (Nat → Prop) → World → α → List Value → Prop
def Stable {α : Type} (R : Rel α) : Prop := ∀ Pb w w' x cs, Keep Pb w w' → R Pb w x cs → R Pb w' x cs
def Mono {α : Type} (R : Rel α) : Prop := ∀ (Pb Pb' : Nat → Prop) w x cs, (∀ b, b < w.heap.size → Pb b → Pb' b) → R Pb w x cs → R Pb' w x cs
/-- A plain element of one cell. -/
def one {α : Type} (f : α → Value) : Rel α := fun _ _ x cs => cs = [f x]
/-- A plain element of several cells. -/
def flat {α : Type} (f : α → List Value) : Rel α := fun _ _ x cs => cs = f x
theorem stable_one {α : Type} (f : α → Value) : Stable (one f) := fun _ _ _ _ _ _ h => h
theorem mono_one {α : Type} (f : α → Value) : Mono (one f) := fun _ _ _ _ _ _ h => h
theorem stable_flat {α : Type} (f : α → List Value) : Stable (flat f) := fun _ _ _ _ _ _ h => h
theorem mono_flat {α : Type} (f : α → List Value) : Mono (flat f) := fun _ _ _ _ _ _ h => h

/-- The slice value v reads as the list xs, each element of sz cells by R; it lies in blocks with P. -/
def RdS {α : Type} (R : Rel α) (sz : Nat) (Pb : Nat → Prop) (w : World) (v : Value) (xs : List α) : Prop :=
  (v = .slice none 0 0 ∧ xs = []) ∨ (∃ a cap, v = .slice (some a) 0 cap ∧ xs = [] ∧ cap ≤ maxLen) ∨
  ∃ b off cap cur e fr, v = .slice (some ⟨b, off, none⟩) xs.length cap ∧ Pb b ∧ w.heap[b]? = some (.cells cur e fr) ∧ xs.length ≤ cap ∧ cap ≤ maxLen ∧ off + xs.length * sz ≤ cur.size ∧
    ∀ (i : Nat) (x : α), xs[i]? = some x → R Pb w x ((cur.toList.drop (off + i * sz)).take sz)

section
variable {α : Type} {R : Rel α} {sz : Nat} {Pb : Nat → Prop} {w w' : World} {v : Value} {xs : List α}
theorem heap_lt {w : World} {b : Nat} {o : Obj} (h : w.heap[b]? = some o) : b < w.heap.size := (Array.getElem?_eq_some_iff.1 h).1
theorem RdS.keep (hR : Stable R) (hk : Keep Pb w w') (h : RdS R sz Pb w v xs) : RdS R sz Pb w' v xs := by
  rcases h with h | h | ⟨b, off, cap, cur, e, fr, hv, hb, hh, h1, h2, h3, h4⟩
  · exact .inl h
  · exact .inr (.inl h)
  · exact .inr <| .inr ⟨b, off, cap, cur, e, fr, hv, hb, (hk b hb (heap_lt hh)).trans hh, h1, h2, h3, fun i x hx => hR _ _ _ _ _ hk (h4 i x hx)⟩
theorem RdS.mono (hR : Mono R) {Pb' : Nat → Prop} (hP : ∀ b, b < w.heap.size → Pb b → Pb' b) (h : RdS R sz Pb w v xs) : RdS R sz Pb' w v xs := by
  rcases h with h | h | ⟨b, off, cap, cur, e, fr, hv, hb, hh, h1, h2, h3, h4⟩
  · exact .inl h
  · exact .inr (.inl h)
  · exact .inr <| .inr ⟨b, off, cap, cur, e, fr, hv, hP b (heap_lt hh) hb, hh, h1, h2, h3, fun i x hx => hR _ _ _ _ _ hP (h4 i x hx)⟩
theorem RdS.nil : RdS R sz Pb w (.slice none 0 0) [] := .inl ⟨rfl, rfl⟩
theorem RdS.form (h : RdS R sz Pb w v xs) : ∃ a cap, v = .slice a xs.length cap ∧ xs.length ≤ cap ∧ cap ≤ maxLen := by
  rcases h with ⟨rfl, rfl⟩ | ⟨a, cap, rfl, rfl, hc⟩ | ⟨b, off, cap, cur, e, fr, rfl, _, _, h1, h2, _, _⟩
  · exact ⟨none, 0, rfl, Nat.le_refl _, by unfold maxLen; omega⟩
  · exact ⟨some a, cap, rfl, Nat.zero_le _, hc⟩
  · exact ⟨_, cap, rfl, h1, h2⟩
theorem Stable.RdS (hR : Stable R) (sz : Nat) : Stable (fun Pb w (xs : List α) cs => ∃ v, cs = [v] ∧ RdS R sz Pb w v xs) := fun _ _ _ _ _ hk ⟨v, e, h⟩ => ⟨v, e, h.keep hR hk⟩
theorem Mono.RdS (hR : Mono R) (sz : Nat) : Mono (fun Pb w (xs : List α) cs => ∃ v, cs = [v] ∧ RdS R sz Pb w v xs) := fun _ _ _ _ _ hP ⟨v, e, h⟩ => ⟨v, e, h.mono hR hP⟩
theorem addr_add (b off i : Nat) : (⟨b, off, none⟩ : Addr).add i = ⟨b, off + i, none⟩ := by unfold Addr.add; split <;> simp_all
theorem RdS.cells (h : RdS R sz Pb w v xs) {i : Nat} {x : α} (hx : xs[i]? = some x) :
    ∃ b off cap, v = .slice (some ⟨b, off, none⟩) xs.length cap ∧ i < xs.length ∧ ∃ cs, cs.length = sz ∧ R Pb w x cs ∧ ∀ j u, cs[j]? = some u → w.cell? ⟨b, off + i * sz + j, none⟩ = some u := by
  have hi : i < xs.length := (List.getElem?_eq_some_iff.1 hx).1
  rcases h with ⟨_, rfl⟩ | ⟨_, _, _, rfl, _⟩ | ⟨b, off, cap, cur, e, fr, rfl, hb, hh, h1, h2, h3, h4⟩
  · simp at hi
  · simp at hi
  · refine ⟨b, off, cap, rfl, hi, _, ?_, h4 i x hx, ?_⟩
    · have : (i + 1) * sz ≤ xs.length * sz := Nat.mul_le_mul_right _ hi
      rw [Nat.add_mul] at this
      simp only [List.length_take, List.length_drop, Array.length_toList]
      omega
    · intro j u hu
      rw [List.getElem?_take] at hu
      split at hu
      · rw [List.getElem?_drop] at hu
        simp only [World.cell?, hh]
        simpa using hu
      · cases hu
theorem RdS.take (h : RdS R sz Pb w v xs) {m : Nat} (hm : m ≤ xs.length) {a : Option Addr} {l cap : Nat} (hv : v = .slice a l cap) : RdS R sz Pb w (.slice a m cap) (xs.take m) := by
  rcases h with ⟨rfl, rfl⟩ | ⟨a', cap', rfl, rfl, hc⟩ | ⟨b, off, cap', cur, e, fr, rfl, hb, hh, h1, h2, h3, h4⟩
  · cases hv; simp at hm; subst hm; exact .inl ⟨rfl, by simp⟩
  · cases hv; simp at hm; subst hm; exact .inr (.inl ⟨_, _, rfl, by simp, hc⟩)
  · cases hv
    have hl : (xs.take m).length = m := by simp; omega
    refine .inr <| .inr ⟨b, off, _, cur, e, fr, by rw [hl], hb, hh, by omega, h2, ?_, fun i x hx => h4 i x ?_⟩
    · rw [hl]; have := Nat.mul_le_mul_right sz hm; omega
    · rw [List.getElem?_take] at hx; split at hx
      · exact hx
      · cases hx
theorem RdS.drop (h : RdS R sz Pb w v xs) {m : Nat} (hm : m ≤ xs.length) {a : Addr} {l cap : Nat} (hv : v = .slice (some a) l cap) (p : Addr) (hp : p = a.add (m * sz) ∨ m = cap ∧ p = a) : RdS R sz Pb w (.slice (some p) (l - m) (cap - m)) (xs.drop m) := by
  rcases h with ⟨rfl, rfl⟩ | ⟨a', cap', rfl, rfl, hc⟩ | ⟨b, off, cap', cur, e, fr, rfl, hb, hh, h1, h2, h3, h4⟩
  · cases hv
  · cases hv
    simp at hm
    subst hm
    exact .inr (.inl ⟨p, cap - 0, by simp, by simp, by omega⟩)
  · cases hv
    have e1 : xs.length * sz = m * sz + (xs.length - m) * sz := by rw [← Nat.add_mul]; congr 1; omega
    rcases hp with rfl | ⟨hmc, rfl⟩
    · rw [addr_add]
      refine .inr <| .inr ⟨b, off + m * sz, cap - m, cur, e, fr, by simp, hb, hh, by simp; omega, by omega, by simp only [List.length_drop]; omega, fun i x hx => ?_⟩
      rw [List.getElem?_drop] at hx
      have := h4 (m + i) x hx
      rw [Nat.add_mul] at this
      rwa [Nat.add_assoc]
    · have hml : m = xs.length := by omega
      have hd : xs.drop m = [] := by rw [hml]; simp
      rw [hd]
      refine .inr <| .inr ⟨b, off, cap - m, cur, e, fr, by simp [hml], hb, hh, by simp, by omega, by simp; omega, fun i x hx => by simp at hx⟩
end

/-! ### Types -/
def isAggD : TypeDesc → Bool | .struct _ | .array _ _ => true | _ => false
class ElT (P : Program) (e : TypeId) (sz bytes : outParam Nat) (agg : outParam Bool) (z : outParam Value) : Prop where
  inf : ∃ i, P.info? e = some i ∧ i.size = sz ∧ i.bytes = bytes ∧ i.zero = some z
  hz : z.cells.size = sz
  und : ∃ u, P.underlying e = some u ∧ isAggD u = agg
/-- The i-th field of a struct: where it lies, its type. -/
class Fld (P : Program) (t : TypeId) (i : Nat) (off : outParam Nat) (ty : outParam TypeId) : Prop where
  ex : ∃ fs f, P.underlying t = some (.struct fs) ∧ fs[i]? = some f ∧ f.offset = off ∧ f.type = ty
theorem ElT.mk' {P : Program} {e : TypeId} {sz bytes : Nat} {agg : Bool} {z : Value} (h : (P.info? e).map (fun i => (i.zero, i.size, i.bytes)) = some (some z, sz, bytes)) (hz : z.cells.size = sz) (hu : (P.underlying e).map isAggD = some agg) : ElT P e sz bytes agg z := by
  cases hi : P.info? e with
  | none => rw [hi] at h; cases h
  | some i =>
    rw [hi] at h
    simp only [Option.map_some, Option.some.injEq, Prod.mk.injEq] at h
    cases hd : P.underlying e with
    | none => rw [hd] at hu; cases hu
    | some u =>
      rw [hd] at hu
      simp only [Option.map_some, Option.some.injEq] at hu
      exact ⟨⟨i, hi, h.2.1, h.2.2, h.1⟩, hz, u, hd, hu⟩
theorem ElT.isAgg {P : Program} {e : TypeId} {sz bytes : Nat} {agg : Bool} {z : Value} (h : ElT P e sz bytes agg z) (w : World) : (isAgg e).run P w = .ok agg w := by
  obtain ⟨u, hu, ha⟩ := h.und
  unfold Go.isAgg
  simp only [Sem.run_bind, run_underlying hu, Result.andThen_ok]
  cases u <;> simp_all [isAggD]
theorem ElT.sizeOf {P : Program} {e : TypeId} {sz bytes : Nat} {agg : Bool} {z : Value} (h : ElT P e sz bytes agg z) (w : World) : (sizeOf e).run P w = .ok sz w := by
  obtain ⟨i, hi, hs, _, _⟩ := h.inf
  simp [Go.sizeOf, typeInfo, hi, hs]
theorem ElT.zeroValue {P : Program} {e : TypeId} {sz bytes : Nat} {agg : Bool} {z : Value} (h : ElT P e sz bytes agg z) (w : World) : (zeroValue e).run P w = .ok z w := by
  obtain ⟨i, hi, _, _, hz⟩ := h.inf
  simp [Go.zeroValue, typeInfo, hi, hz]

section
variable {P : Program} {n : Nat} {ds : List Deferred} {Q : Po} {F : Fr} {w w' : World} {ops rest : List Oper} {d d1 d2 : Nat} {ty ty1 ty2 : TypeId} {pos pos1 pos2 : String} {aft aft1 aft2 : Array Edge}

/-! ### Lengths, indexes, loads -/
theorem run_lenS {t ty e : TypeId} {a : Option Addr} {l cap : Nat} (ht : P.underlying t = some (.slice e)) : (Builtin.len_ #[t] ty #[.slice a l cap]).run P w = .ok (vi l) w := by
  simp [Builtin.len_, run_underlying ht, goInt]
theorem run_lenStr {t ty : TypeId} {l : List UInt8} (ht : P.underlying t = some .string) : (Builtin.len_ #[t] ty #[vs l]).run P w = .ok (vi l.length) w := by
  simp [Builtin.len_, run_underlying ht, goInt, ← ByteArray.size_data]
theorem Wl.lenS {x : Operand} {t e : TypeId} {a : Option Addr} {l cap : Nat} [ht : Und P t (.slice e)] (hx : ev n F x = .slice a l cap)
    (c : Wl P n ds Q ops rest (upd F d (vi l)) w) : Wl P n ds Q ops (⟨some d, .call { callee := .builtin .len, args := #[x], argTypes := #[t] }, ty, pos, aft, none⟩ :: rest) F w :=
  Wl.val (by simp only [execOp, resolve, Sem.run_bind, Sem.run_pure, Result.andThen_ok, invoke, builtin, List.map_toArray, List.map_cons, List.map_nil, hx, run_lenS ht.h]) c
theorem Wl.lenR {α : Type} {R : Rel α} {sz : Nat} {Pb : Nat → Prop} {xs : List α} {x : Operand} {t e : TypeId} {v : Value} [ht : Und P t (.slice e)] (h : RdS R sz Pb w v xs) (hx : ev n F x = v)
    (c : Wl P n ds Q ops rest (upd F d (vi xs.length)) w) : Wl P n ds Q ops (⟨some d, .call { callee := .builtin .len, args := #[x], argTypes := #[t] }, ty, pos, aft, none⟩ :: rest) F w := by
  obtain ⟨a, cap, rfl, _⟩ := h.form
  exact Wl.lenS hx c
theorem Wl.lenStr {x : Operand} {t : TypeId} {l : List UInt8} [ht : Und P t .string] (hx : ev n F x = vs l)
    (c : Wl P n ds Q ops rest (upd F d (vi l.length)) w) : Wl P n ds Q ops (⟨some d, .call { callee := .builtin .len, args := #[x], argTypes := #[t] }, ty, pos, aft, none⟩ :: rest) F w :=
  Wl.val (by simp only [execOp, resolve, Sem.run_bind, Sem.run_pure, Result.andThen_ok, invoke, builtin, List.map_toArray, List.map_cons, List.map_nil, hx, run_lenStr ht.h]) c

theorem run_idxStr {t : TypeId} {l : List UInt8} {k : IntKind} {j : Int} {c : UInt8} (ht : P.underlying t = some .string) (h0 : 0 ≤ j) (hj : l[j.toNat]? = some c) : (Instr.index t (vs l) (.int k j)).run P w = .ok (.int .u8 c.toNat) w := by
  have hlt : j.toNat < l.length := (List.getElem?_eq_some_iff.1 hj).1
  have hg : (⟨l.toArray⟩ : ByteArray)[j.toNat]? = some c := by
    rw [ByteArray.getElem?_lt' _ _ (by simpa [ByteArray.size] using hlt)]
    have := (List.getElem?_eq_some_iff.1 hj).2
    simp only [Option.some.injEq]
    rw [← this]; rfl
  simp only [Instr.index, asIntOf, Sem.run_bind, Sem.run_pure, Result.andThen_ok, run_underlying ht]
  rw [if_pos h0, hg]; rfl
/-- s[j] of a string. -/
theorem Wl.idxStr {x i : Operand} {t : TypeId} {l : List UInt8} {k : IntKind} {j : Int} {b : UInt8} [ht : Und P t .string] (hx : ev n F x = vs l) (hi : ev n F i = .int k j) (h0 : 0 ≤ j) (hj : l[j.toNat]? = some b)
    (c : Wl P n ds Q ops rest (upd F d (.int .u8 b.toNat)) w) : Wl P n ds Q ops (⟨some d, .index t x i, ty, pos, aft, none⟩ :: rest) F w :=
  Wl.val (by simp only [execOp, hx, hi, Sem.run_bind, run_idxStr ht.h h0 hj, Result.andThen_ok, Sem.run_pure]) c
theorem run_indexAt {t e : TypeId} {sz bytes : Nat} {agg : Bool} {z : Value} {a : Addr} {l cap : Nat} {k : IntKind} {j : Int} (ht : P.underlying t = some (.slice e)) (he : ElT P e sz bytes agg z) (h0 : 0 ≤ j) (h1 : j < l) :
    (Instr.indexAt t (.slice (some a) l cap) (.int k j)).run P w = .ok (.pointer (some (a.add (j.toNat * sz)))) w := by
  simp [Instr.indexAt, asIntOf, run_underlying ht, h0, h1, he.sizeOf]
theorem run_load1 {e : TypeId} {bytes : Nat} {z : Value} {a : Addr} {u : Value} (he : ElT P e 1 bytes false z) (h : w.cell? a = some u) :
    (Instr.loadAt e (.pointer (some a))).run P w = .ok u w := by
  simp [Instr.loadAt, Instr.sureAddr, loadVar, he.isAgg, h]
theorem run_loadA {e : TypeId} {sz bytes : Nat} {z : Value} {b o : Nat} {cs : List Value} (he : ElT P e sz bytes true z) (hl : cs.length = sz) (h : ∀ j u, cs[j]? = some u → w.cell? ⟨b, o + j, none⟩ = some u) :
    (Instr.loadAt e (.pointer (some ⟨b, o, none⟩))).run P w = .ok (.agg cs.toArray) w := by
  have := run_loadCells_list (P := P) w ⟨b, o, none⟩ cs (fun j u hu => by rw [addr_add]; exact h j u hu)
  simp [Instr.loadAt, Instr.sureAddr, loadVar, he.isAgg, he.sizeOf, ← hl, this]
/-- xs[j], an element of one cell. -/
theorem Wl.idxLoad1 {α : Type} {R : Rel α} {Pb : Nat → Prop} {xs : List α} {x i : Operand} {t e e' : TypeId} {bytes : Nat} {z v : Value} {k : IntKind} {j : Int} {y : α}
    [ht : Und P t (.slice e)] [he : ElT P e 1 bytes false z] (h : RdS R 1 Pb w v xs) (hx : ev n F x = v) (hi : ev n F i = .int k j) (h0 : 0 ≤ j) (hy : xs[j.toNat]? = some y) (hd : Nat.blt d1 n = true) (hee : e' = e)
    (c : ∀ u p, R Pb w y [u] → Wl P n ds Q ops rest (upd (upd F d1 p) d2 u) w) :
    Wl P n ds Q ops (⟨some d1, .indexAddr t x i, ty1, pos1, aft1, none⟩ :: ⟨some d2, .load e' (.tmp d1), ty2, pos2, aft2, none⟩ :: rest) F w := by
  obtain ⟨b, off, cap, rfl, hlt, cs, hl, hR, hc⟩ := h.cells hy
  subst hee
  match cs, hl with
  | [u], _ =>
    refine Wl.val (w' := w) (v := .pointer (some ((⟨b, off, none⟩ : Addr).add (j.toNat * 1)))) ?_ (Wl.val (w' := w) (v := u) ?_ (c u _ hR))
    · simp only [execOp, hx, hi, Sem.run_bind, run_indexAt ht.h he h0 (by omega : j < xs.length), Result.andThen_ok, Sem.run_pure]
    · have := hc 0 u rfl
      simp only [execOp, ev, hd, upd_eq, if_pos, Sem.run_bind]
      rw [addr_add, run_load1 he (by simpa using this)]; rfl
/-- The same, plain. -/
theorem Wl.idxLoadV {α : Type} {f : α → Value} {Pb : Nat → Prop} {xs : List α} {x i : Operand} {t e e' : TypeId} {bytes : Nat} {z v : Value} {k : IntKind} {j : Int} {y : α}
    [ht : Und P t (.slice e)] [he : ElT P e 1 bytes false z] (h : RdS (one f) 1 Pb w v xs) (hx : ev n F x = v) (hi : ev n F i = .int k j) (h0 : 0 ≤ j) (hy : xs[j.toNat]? = some y) (hd : Nat.blt d1 n = true) (hee : e' = e)
    (c : ∀ p, Wl P n ds Q ops rest (upd (upd F d1 p) d2 (f y)) w) :
    Wl P n ds Q ops (⟨some d1, .indexAddr t x i, ty1, pos1, aft1, none⟩ :: ⟨some d2, .load e' (.tmp d1), ty2, pos2, aft2, none⟩ :: rest) F w :=
  Wl.idxLoad1 h hx hi h0 hy hd hee fun u p hu => by cases hu; exact c p
/-- xs[j], a struct. -/
theorem Wl.idxLoadA {α : Type} {R : Rel α} {sz : Nat} {Pb : Nat → Prop} {xs : List α} {x i : Operand} {t e e' : TypeId} {bytes : Nat} {z v : Value} {k : IntKind} {j : Int} {y : α}
    [ht : Und P t (.slice e)] [he : ElT P e sz bytes true z] (h : RdS R sz Pb w v xs) (hx : ev n F x = v) (hi : ev n F i = .int k j) (h0 : 0 ≤ j) (hy : xs[j.toNat]? = some y) (hd : Nat.blt d1 n = true) (hee : e' = e)
    (c : ∀ cs p, cs.length = sz → R Pb w y cs → Wl P n ds Q ops rest (upd (upd F d1 p) d2 (.agg cs.toArray)) w) :
    Wl P n ds Q ops (⟨some d1, .indexAddr t x i, ty1, pos1, aft1, none⟩ :: ⟨some d2, .load e' (.tmp d1), ty2, pos2, aft2, none⟩ :: rest) F w := by
  obtain ⟨b, off, cap, rfl, hlt, cs, hl, hR, hc⟩ := h.cells hy
  subst hee
  refine Wl.val (w' := w) (v := .pointer (some ((⟨b, off, none⟩ : Addr).add (j.toNat * sz)))) ?_ (Wl.val (w' := w) (v := .agg cs.toArray) ?_ (c cs _ hl hR))
  · simp only [execOp, hx, hi, Sem.run_bind, run_indexAt ht.h he h0 (by omega : j < xs.length), Result.andThen_ok, Sem.run_pure]
  · simp only [execOp, ev, hd, upd_eq, if_pos, Sem.run_bind]
    rw [addr_add, run_loadA he hl (by intro j u hu; exact hc j u hu)]; rfl

/-! ### New slices: append, make -/
theorem World.heap_old (w : World) (o : Obj) {k : Nat} (hk : k < w.heap.size) : (w.alloc o).heap[k]? = w.heap[k]? := by
  show (w.heap.push o)[k]? = _
  rw [Array.getElem?_push, if_neg (by omega)]
theorem foldl_fill (off : Nat) : ∀ (l : List Value) (k : Nat) (pre post zs : List Value), zs.length = l.length → pre.length = off + k →
    (l.zipIdx k).foldl (fun (cs : Array Value) (c : Value × Nat) => cs.setIfInBounds (off + c.2) c.1) (pre ++ zs ++ post).toArray = (pre ++ l ++ post).toArray
  | [], _, _, _, zs, h, _ => by cases zs <;> simp_all
  | x :: l, k, pre, post, zs, h, hp => by
    match zs, h with
    | z :: zs, h =>
      simp only [List.zipIdx_cons, List.foldl_cons]
      have e : (pre ++ (z :: zs) ++ post).toArray.setIfInBounds (off + k) x = ((pre ++ [x]) ++ zs ++ post).toArray := by
        rw [← hp]; simp [List.set_append]
      rw [e, foldl_fill off l (k + 1) (pre ++ [x]) post zs (by simpa using h) (by simp [hp]; omega)]
      simp
theorem fill_one {cells : Array Value} {v : Value} (hv : v.cells.size = cells.size) : Instr.fill (fun i => some (i * cells.size, cells.size)) cells [(0, v)] = some v.cells := by
  simp only [Instr.fill, Nat.zero_mul, Nat.zero_add, hv]
  rw [if_neg (by simp)]
  congr 1
  have := foldl_fill 0 v.cells.toList 0 [] [] cells.toList (by simpa using hv.symm) rfl
  simp only [List.nil_append, List.append_nil, Array.toArray_toList, Nat.zero_add] at this
  rw [← Array.foldl_toList, Array.toList_zipIdx]
  simpa using this
theorem run_buildSlice1 {t e : TypeId} {sz bytes : Nat} {agg : Bool} {z v : Value} (ht : P.underlying t = some (.slice e)) (he : ElT P e sz bytes agg z) (hv : v.cells.size = sz) (hs : 0 < sz) (hs2 : sz ≤ 16777216) :
    (Instr.buildSlice t 1 #[(0, v)]).run P w = .ok (.slice (some ⟨w.heap.size, 0, none⟩) 1 1) (w.alloc (.cells v.cells e)) := by
  have hne : ¬ sz = 0 := by omega
  have hz := he.hz
  have e2 : (Array.range sz).map (fun i => z.cells[i % z.cells.size]!) = z.cells := by
    apply Array.ext
    · simp [hz]
    · intro i h1 h2
      have h3 : i < z.cells.size := h2
      simp [Nat.mod_eq_of_lt h3, h3]
  have e3 := fill_one (cells := z.cells) (v := v) (by rw [hv, hz])
  rw [hz] at e2 e3
  simp only [Instr.buildSlice, Sem.run_bind, run_underlying ht, Result.andThen_ok, he.sizeOf, Nat.one_mul]
  rw [if_neg (by omega), if_neg hne]
  simp only [Sem.run_bind, Result.andThen_ok, he.zeroValue, Sem.run_pure, hz, e2, e3, newRow, run_newObj]
  rfl
/-- 'string(b)'. -/
theorem run_bytes_str {t t' e : TypeId} {Pb : Nat → Prop} {v : Value} {l : List UInt8} (ht : P.underlying t = some (.slice e)) (he : P.underlying e = some (.int .u8)) (ht' : P.underlying t' = some .string)
    (h : RdS (one fun b : UInt8 => .int .u8 b.toNat) 1 Pb w v l) : (convert t t' v).run P w = .ok (vs l) w := by
  rcases h with ⟨rfl, rfl⟩ | ⟨a, cap, rfl, rfl, hc⟩ | ⟨b, off, cap, cur, e', fr, rfl, hb, hh, h1, h2, h3, h4⟩
  · rw [run_convert_bytes_nil w t e ht he 0 0 t' ht']; rfl
  · rw [run_convert_bytes_string w t t' e _ 0 cap ht he ht', run_bytesToString w a 0 cap [] (by simp [loadCells, loadCellsFrom])]; rfl
  · have := run_convert_bytes_arg (P := P) w t e ht he b off l.length cap (l.map fun b => (b.toNat : Int)) (by simp) (fun i hi => by
      have := h4 i l[i] (List.getElem?_eq_getElem hi)
      simp only [one, Nat.mul_one] at this
      have e2 := congrArg (fun q => q[0]?) this
      simp only [List.getElem?_take, List.getElem?_drop] at e2
      simp only [World.cell?, hh]
      simpa [List.getElem?_eq_getElem hi] using e2) t' ht'
    rw [this]
    congr 2
    simp only [strOfNums, List.map_map]
    congr 2
    conv => rhs; rw [← List.map_id l]
    apply List.map_congr_left
    intro a _
    simp
theorem Wl.bytesStr {x : Operand} {t t' e : TypeId} {Pb : Nat → Prop} {v : Value} {l : List UInt8} [ht : Und P t (.slice e)] [he : Und P e (.int .u8)] [ht' : Und P t' .string]
    (h : RdS (one fun b : UInt8 => .int .u8 b.toNat) 1 Pb w v l) (hx : ev n F x = v)
    (c : Wl P n ds Q ops rest (upd F d (vs l)) w) : Wl P n ds Q ops (⟨some d, .convert t t' x, ty, pos, aft, none⟩ :: rest) F w :=
  Wl.val (by simp only [execOp, hx, Sem.run_bind, run_bytes_str ht.h he.h ht'.h h, Result.andThen_ok, Sem.run_pure]) c
end

end Go.Proofs.YtjpebmgllfiloaaDoor.Wk
