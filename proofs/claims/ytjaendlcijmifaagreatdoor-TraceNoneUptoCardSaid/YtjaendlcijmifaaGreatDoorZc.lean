/-
  Texts of this claim, one behind the other: Row, Xa, Jg, Xb, Rv, Lex, Xc, Xd, Cut, Lit, Xe, Rf, Rg, Xf, Rh, Gr.
-/
import Derived.Test.YtjaendlcijmifaaGreatDoorZb
import Derived.Lib.AppendZerosOnto
import Derived.RangeFuncFrom
import Derived.RangeFuncLeaves
import Derived.CallsIn
import Derived.TacticsIn
import Derived.RangeFuncSeq
namespace Go.Proofs.YtjaendlcijmifaaGreatDoor.Wk
open Go Go.RowKit

theorem setRange_get (cs : List Value) (o : Nat) (new : List Value) (h : o + new.length ≤ cs.length) (q : Nat) : (setRange cs o new)[q]? = if o ≤ q ∧ q < o + new.length then new[q - o]? else cs[q]? := by
  unfold setRange
  rw [List.append_assoc, List.getElem?_append]
  simp only [List.length_take]
  split
  · rename_i h1
    rw [if_neg (by omega), List.getElem?_take, if_pos (by omega)]
  · rename_i h1
    rw [List.getElem?_append]
    split
    · rename_i h2
      rw [if_pos (by omega)]; congr 1; omega
    · rename_i h2
      rw [if_neg (by omega), List.getElem?_drop]; congr 1; omega
theorem setRange_length (cs : List Value) (o : Nat) (new : List Value) (h : o + new.length ≤ cs.length) : (setRange cs o new).length = cs.length := by
  unfold setRange; simp; omega
section
variable {P : Program} {n : Nat} {ds : List Deferred} {Q : Po} {F : Fr} {w w' : World} {ops rest : List Oper} {d d1 d2 : Nat} {ty ty1 ty2 : TypeId} {pos pos1 pos2 : String} {aft aft1 aft2 : Array Edge}
theorem OwnC.storeRange {Pb : Nat → Prop} {e : TypeId} {sz m g cap o : Nat} {v : Value} {cs new : List Value} (h : OwnC Pb w e sz v m cs) (hv : v = .slice (some ⟨g, 0, none⟩) m cap) (ho : o + new.length ≤ m * sz) (h1 : ∀ c ∈ new, c.oneCell' = true) :
    ∃ w', (storeCells ⟨g, o, none⟩ new 0).run P w = .ok () w' ∧ OwnC Pb w' e sz v m (setRange cs o new) ∧ Chg (fun b => v.ownBlock = some b) w w' := by
  obtain ⟨hl, hoc⟩ := h
  rcases hoc with ⟨rfl, _⟩ | ⟨g', cap', cur, rfl, hb, hg, h2, h3, h4, h5⟩
  · cases hv
  · cases hv
    have hms : m * sz ≤ cap * sz := Nat.mul_le_mul_right _ h2
    have hr := run_storeCells_at P g o e new 0 cur w hg (by omega) h1
    have hcl : cs.length = m * sz := hl
    refine ⟨_, hr, ⟨by rw [setRange_length _ _ _ (by omega)]; exact hl, .inr ⟨g, cap, _, rfl, hb, setRow_heap w g cur _ e _ hg, h2, h3, ?_, ?_⟩⟩, Chg.setRow rfl⟩
    · simp; omega
    · simp only [Nat.add_zero]
      apply List.ext_getElem?
      intro q
      rw [setRange_get cs o new (by omega)]
      rw [List.getElem?_take]
      have hcur : ∀ q, q < m * sz → cs[q]? = cur.toList[q]? := fun q hq => by rw [← h5, List.getElem?_take, if_pos hq]
      split
      · rename_i hq
        have := setRange_get cur.toList o new (by simp; omega) q
        unfold setRange at this
        rw [this]
        split
        · rfl
        · exact (hcur q hq).symm
      · rename_i hq
        rw [if_neg (by omega), List.getElem?_eq_none (by omega)]
/-- 's[j] = x', a struct into a list of one's own, the address told. -/
theorem Wl.storeOwnA {α : Type} {f : α → List Value} {Pb Pe : Nat → Prop} {xs : List α} {x y : Operand} {e sz bytes : Nat} {agg : Bool} {z v u : Value} {g j cap : Nat} {q : α} [he : ElT P e sz bytes agg z] (hf : ∀ x, (f x).length = sz) (h1 : ∀ x, ∀ c ∈ f x, c.oneCell' = true)
    (hown : OwnS (flat f) e sz Pb Pe w v xs) (hv : v = .slice (some ⟨g, 0, none⟩) xs.length cap) (hj : j < xs.length)
    (hx : ev n F x = .pointer (some ⟨g, j * sz, none⟩)) (hy : ev n F y = u) (hq : u.cells = (f q).toArray) (c : ∀ w', OwnS (flat f) e sz Pb Pe w' v (xs.set j q) → Chg (fun b => v.ownBlock = some b) w w' → Wl P n ds Q ops rest F w') :
    Wl P n ds Q ops (⟨none, .store e x y, ty, pos, aft, none⟩ :: rest) F w := by
  obtain ⟨cs, hoc, hel⟩ := hown
  have hjs : (j + 1) * sz ≤ xs.length * sz := Nat.mul_le_mul_right _ hj
  rw [Nat.add_mul] at hjs
  have hcl : cs.length = xs.length * sz := hoc.1
  obtain ⟨w', hr, hoc', hc⟩ := hoc.storeRange (P := P) (o := j * sz) (new := f q) hv (by rw [hf]; omega) (h1 q)
  refine Wl.unit (w' := w') ?_ (c w' ⟨setRange cs (j * sz) (f q), by simpa using hoc', fun i x hx => ?_⟩ hc)
  · have hs : u.cells.size = sz := by rw [hq]; simpa using hf q
    simp only [execOp, hx, hy, Instr.storeAt, Instr.sureAddr, storeVar, Sem.run_bind, Sem.run_pure, Result.andThen_ok, he.sizeOf, hq]
    rw [if_neg (by simp [hf])]
    simp only [hr, Result.andThen_ok]
  · have hi : i < xs.length := by have := (List.getElem?_eq_some_iff.1 hx).1; simpa using this
    have hi2 : (i + 1) * sz ≤ xs.length * sz := Nat.mul_le_mul_right _ hi
    rw [Nat.add_mul] at hi2
    rw [List.getElem?_set] at hx
    show _ = f x
    apply List.ext_getElem?
    intro k
    rw [List.getElem?_take, List.getElem?_drop, setRange_get _ _ _ (by rw [hf]; omega), hf]
    by_cases hk : k < sz
    · rw [if_pos hk]
      split at hx
      · rename_i e
        subst e
        simp only [hj, if_true, Option.some.injEq] at hx
        subst hx
        rw [if_pos (by omega)]; congr 1; omega
      · rename_i hne
        have hsep : ¬ (j * sz ≤ i * sz + k ∧ i * sz + k < j * sz + sz) := by
          rintro ⟨a1, a2⟩
          rcases Nat.lt_or_gt_of_ne hne with h | h
          · have : (j + 1) * sz ≤ i * sz := Nat.mul_le_mul_right _ h
            rw [Nat.add_mul] at this; omega
          · have : (i + 1) * sz ≤ j * sz := Nat.mul_le_mul_right _ h
            rw [Nat.add_mul] at this; omega
        rw [if_neg hsep]
        have h2 : (cs.drop (i * sz)).take sz = f x := hel i x hx
        rw [← h2, List.getElem?_take, if_pos hk, List.getElem?_drop]
    · rw [if_neg hk, List.getElem?_eq_none (by rw [hf]; omega)]
/-- 's[j].f = x', one cell of a struct in a list of one's own, the address told. -/
theorem Wl.storeOwnF {α : Type} {f : α → List Value} {Pb Pe : Nat → Prop} {xs : List α} {x y : Operand} {e e' sz bytes : Nat} {agg : Bool} {z v u : Value} {g j o cap : Nat} {p q : α} [he : ElT P e' 1 bytes agg z] (hf : ∀ x, (f x).length = sz) (ho : o < sz) (hu : u.oneCell' = true) (hp : xs[j]? = some p) (hpq : f q = (f p).set o u)
    (hown : OwnS (flat f) e sz Pb Pe w v xs) (hv : v = .slice (some ⟨g, 0, none⟩) xs.length cap)
    (hx : ev n F x = .pointer (some ⟨g, j * sz + o, none⟩)) (hy : ev n F y = u) (c : ∀ w', OwnS (flat f) e sz Pb Pe w' v (xs.set j q) → Chg (fun b => v.ownBlock = some b) w w' → Wl P n ds Q ops rest F w') :
    Wl P n ds Q ops (⟨none, .store e' x y, ty, pos, aft, none⟩ :: rest) F w := by
  obtain ⟨cs, hoc, hel⟩ := hown
  have hj : j < xs.length := (List.getElem?_eq_some_iff.1 hp).1
  have hjs : (j + 1) * sz ≤ xs.length * sz := Nat.mul_le_mul_right _ hj
  rw [Nat.add_mul] at hjs
  have hcl : cs.length = xs.length * sz := hoc.1
  have huc : u.cells = #[u] := by cases u <;> simp_all [Value.cells, Value.oneCell']
  obtain ⟨w', hr, hoc', hc⟩ := hoc.storeRange (P := P) (o := j * sz + o) (new := [u]) hv (by simp; omega) (by simpa using hu)
  refine Wl.unit (w' := w') ?_ (c w' ⟨setRange cs (j * sz + o) [u], by simpa using hoc', fun i x hx => ?_⟩ hc)
  · simp only [execOp, hx, hy, Instr.storeAt, Instr.sureAddr, storeVar, Sem.run_bind, Sem.run_pure, Result.andThen_ok, he.sizeOf, huc]
    rw [if_neg (by simp)]
    simp only [hr, Result.andThen_ok]
  · have hi : i < xs.length := by have := (List.getElem?_eq_some_iff.1 hx).1; simpa using this
    have hi2 : (i + 1) * sz ≤ xs.length * sz := Nat.mul_le_mul_right _ hi
    rw [Nat.add_mul] at hi2
    rw [List.getElem?_set] at hx
    show _ = f x
    apply List.ext_getElem?
    intro k
    rw [List.getElem?_take, List.getElem?_drop, setRange_get _ _ _ (by simp; omega), List.length_singleton]
    by_cases hk : k < sz
    · rw [if_pos hk]
      split at hx
      · rename_i e
        subst e
        simp only [hj, if_true, Option.some.injEq] at hx
        subst hx
        rw [hpq, List.getElem?_set]
        have h2 : (cs.drop (j * sz)).take sz = f p := hel j p hp
        by_cases hko : k = o
        · subst hko
          rw [if_pos (by omega), if_pos rfl, if_pos (by rw [hf]; exact hk), show j * sz + k - (j * sz + k) = 0 by omega]; rfl
        · rw [if_neg (by omega), if_neg (Ne.symm hko), ← h2, List.getElem?_take, if_pos hk, List.getElem?_drop]
      · rename_i hne
        have hsep : ¬ (j * sz + o ≤ i * sz + k ∧ i * sz + k < j * sz + o + 1) := by
          rintro ⟨a1, a2⟩
          rcases Nat.lt_or_gt_of_ne hne with h | h
          · have : (j + 1) * sz ≤ i * sz := Nat.mul_le_mul_right _ h
            rw [Nat.add_mul] at this; omega
          · have : (i + 1) * sz ≤ j * sz := Nat.mul_le_mul_right _ h
            rw [Nat.add_mul] at this; omega
        rw [if_neg hsep]
        have h2 : (cs.drop (i * sz)).take sz = f x := hel i x hx
        rw [← h2, List.getElem?_take, if_pos hk, List.getElem?_drop]
    · rw [if_neg hk, List.getElem?_eq_none (by rw [hf]; omega)]
/-- clear(s[i:]) of a list of one's own: what is ahead stays. -/
theorem run_clearTail {α : Type} {f : α → List Value} {Pb Pe : Nat → Prop} {xs : List α} {t e sz bytes : Nat} {agg : Bool} {z v : Value} {g cap i : Nat} (ht : P.underlying t = some (.slice e)) (he : ElT P e sz bytes agg z) (hz : ∀ c ∈ z.cells.toList, c.oneCell' = true)
    (hown : OwnS (flat f) e sz Pb Pe w v xs) (hv : v = .slice (some ⟨g, 0, none⟩) xs.length cap) (hi : i ≤ xs.length) (p : Addr) (hp : p = ⟨g, i * sz, none⟩ ∨ i = xs.length) :
    ∃ u w', (Builtin.clear_ #[t] ty #[.slice (some p) (xs.length - i) (cap - i)]).run P w = .ok u w' ∧ OwnS (flat f) e sz Pb Pe w' (.slice (some ⟨g, 0, none⟩) i cap) (xs.take i) ∧ Chg (fun b => v.ownBlock = some b) w w' := by
  have htk : ∀ w', OwnS (flat f) e sz Pb Pe w' v xs → OwnS (flat f) e sz Pb Pe w' (.slice (some ⟨g, 0, none⟩) i cap) (xs.take i) := fun w' h => h.take hi hv (by intro e; cases e)
  by_cases hie : i = xs.length
  · refine ⟨.tuple #[], w, ?_, htk w hown, Chg.refl _ _⟩
    subst hie
    simp [Builtin.clear_, run_underlying ht]
  · have hp' : p = ⟨g, i * sz, none⟩ := hp.resolve_right hie
    subst hp'
    obtain ⟨cs, hoc, hel⟩ := hown
    have hcl : cs.length = xs.length * sz := hoc.1
    have hle : i * sz ≤ xs.length * sz := Nat.mul_le_mul_right _ hi
    have hzl : (Builtin.zeroCells z.cells (xs.length - i)).toList.length = (xs.length - i) * sz := by rw [Array.length_toList, size_zeroCells, he.hz]
    obtain ⟨w', hr, hoc', hc⟩ := hoc.storeRange (P := P) (o := i * sz) (new := (Builtin.zeroCells z.cells (xs.length - i)).toList) hv (by rw [hzl, Nat.sub_mul]; omega) (by
      intro c hc
      simp only [Builtin.zeroCells, Array.toList_map, List.mem_map] at hc
      obtain ⟨q, hq, rfl⟩ := hc
      have hsz : 0 < z.cells.size := by
        rcases Nat.eq_zero_or_pos z.cells.size with h0 | h0
        · simp [h0] at hq
        · exact h0
      have hm := Nat.mod_lt q hsz
      refine hz _ ?_
      rw [getElem!_pos z.cells (q % z.cells.size) hm]
      simp)
    have hne : xs.length - i ≠ 0 := by omega
    refine ⟨.tuple #[], w', ?_, ?_, hc⟩
    · obtain ⟨k, hk⟩ : ∃ k, xs.length - i = k + 1 := ⟨xs.length - i - 1, by omega⟩
      rw [hk] at hr ⊢
      simp [Builtin.clear_, run_underlying ht, he.zeroValue, hr]
    · refine ⟨cs.take (i * sz), ⟨by rw [List.length_take, List.length_take, Nat.min_eq_left (by omega), Nat.min_eq_left hi], ?_⟩, fun q x hx => ?_⟩
      · rcases hoc'.2 with ⟨e1, _⟩ | ⟨g', cap', cur, e1, hb, hg, h1, h2, h3, h4⟩
        · rw [hv] at e1; cases e1
        · rw [hv] at e1
          cases e1
          have hl : (xs.take i).length = i := by simp; omega
          rw [hl]
          refine .inr ⟨g, cap, cur, rfl, hb, hg, by omega, h2, h3, ?_⟩
          have : cur.toList.take (i * sz) = (setRange cs (i * sz) (Builtin.zeroCells z.cells (xs.length - i)).toList).take (i * sz) := by rw [← h4, List.take_take, Nat.min_eq_left hle]
          rw [this]
          unfold setRange
          rw [List.append_assoc, List.take_append_of_le_length (by simp; omega), List.take_take, Nat.min_self]
      · rw [List.getElem?_take] at hx
        split at hx
        · rename_i hq
          have h1 := hel q x hx
          have : (q + 1) * sz ≤ i * sz := Nat.mul_le_mul_right _ hq
          rw [Nat.add_mul] at this
          show _ = f x
          rw [List.drop_take, List.take_take, Nat.min_eq_left (by omega)]
          exact h1
        · cases hx
/-- clear(s[i:]). -/
theorem Wl.clearTail {α : Type} {f : α → List Value} {Pb Pe : Nat → Prop} {xs : List α} {x lo : Operand} {t e sz bytes : Nat} {agg : Bool} {z v : Value} {k : IntKind} {g cap i : Nat} [ht : Und P t (.slice e)] [he : ElT P e sz bytes agg z] (hz : ∀ c ∈ z.cells.toList, c.oneCell' = true)
    (hown : OwnS (flat f) e sz Pb Pe w v xs) (hv : v = .slice (some ⟨g, 0, none⟩) xs.length cap) (hx : ev n F x = v) (hl : ev n F lo = .int k i) (hi : i ≤ xs.length) (hd : Nat.blt d1 n = true)
    (c : ∀ u w', OwnS (flat f) e sz Pb Pe w' (.slice (some ⟨g, 0, none⟩) i cap) (xs.take i) → Chg (fun b => v.ownBlock = some b) w w' → Wl P n ds Q ops rest (upd F d1 u) w') :
    Wl P n ds Q ops (⟨some d1, .slice t x (some lo) none none, ty1, pos1, aft1, none⟩ :: ⟨none, .call { callee := .builtin .clear, args := #[.tmp d1], argTypes := #[t] }, ty2, pos2, aft2, none⟩ :: rest) F w := by
  obtain ⟨_, cap', e1, hcap, _⟩ := hown.form
  have hcap2 : xs.length ≤ cap := by rw [hv] at e1; cases e1; exact hcap
  have hs := run_sliceS (P := P) (w := w) (p := some ⟨g, 0, none⟩) (l := xs.length) (cap := cap) (lo := some (.int k i)) (hi := none) (a := i) (b := xs.length) ht.h he (.inr ⟨k, rfl⟩) (.inl ⟨rfl, rfl⟩) hi hcap2
  have hp : (if cap = i then some (⟨g, 0, none⟩ : Addr) else Option.map (·.add (i * sz)) (some (⟨g, 0, none⟩ : Addr))) = some (if cap = i then ⟨g, 0, none⟩ else ⟨g, i * sz, none⟩) := by
    split
    · rfl
    · rw [Option.map_some, addr_add, Nat.zero_add]
  rw [hp] at hs
  obtain ⟨u, w', hr, ho, hc⟩ := run_clearTail (P := P) (ty := ty2) (w := w) ht.h he hz hown hv hi (if cap = i then ⟨g, 0, none⟩ else ⟨g, i * sz, none⟩) (by
    by_cases hci : cap = i
    · right; omega
    · left; rw [if_neg hci])
  refine Wl.val (w' := w) (v := .slice (some (if cap = i then ⟨g, 0, none⟩ else ⟨g, i * sz, none⟩)) (xs.length - i) (cap - i)) ?_ ?_
  · simp only [execOp, hx, hl, hv, Option.map_none, Option.map_some, Sem.run_bind, hs, Result.andThen_ok, Sem.run_pure]
  · refine Wl.valO (dst := none) (w' := w') (v := u) ?_ (c _ w' ho hc)
    have ed : ev n (upd F d1 (.slice (some (if cap = i then ⟨g, 0, none⟩ else ⟨g, i * sz, none⟩)) (xs.length - i) (cap - i))) (.tmp d1) = .slice (some (if cap = i then ⟨g, 0, none⟩ else ⟨g, i * sz, none⟩)) (xs.length - i) (cap - i) := by
      simp only [ev, hd, upd_eq, if_pos]
    simp only [execOp, resolve, invoke, builtin, Sem.run_bind, Sem.run_pure, Result.andThen_ok, List.map_toArray, List.map_cons, List.map_nil, ed, hr]
/-- x[:b], told. -/
theorem Wl.sliceToP {x hi : Operand} {t e sz bytes : Nat} {agg : Bool} {z : Value} {k : IntKind} {p : Option Addr} {l cap b : Nat} [ht : Und P t (.slice e)] [he : ElT P e sz bytes agg z] (hx : ev n F x = .slice p l cap) (hh : ev n F hi = .int k b) (h1 : b ≤ cap)
    (c : Wl P n ds Q ops rest (upd F d (.slice p b cap)) w) : Wl P n ds Q ops (⟨some d, .slice t x none (some hi) none, ty, pos, aft, none⟩ :: rest) F w := by
  have := run_sliceS (P := P) (w := w) (p := p) (l := l) (lo := none) (hi := some (.int k b)) (a := 0) (b := b) ht.h he (.inl ⟨rfl, rfl⟩) (.inr ⟨k, rfl⟩) (Nat.zero_le _) h1
  have hp : (if cap = 0 then p else p.map (·.add (0 * sz))) = p := by
    split
    · rfl
    · cases p with
      | none => rfl
      | some a => simp [Addr.add]
  refine Wl.val (w' := w) (v := .slice p b cap) ?_ c
  simp only [execOp, hx, hh, Option.map_none, Option.map_some, Sem.run_bind, this, Result.andThen_ok, Sem.run_pure, hp, Nat.sub_zero]
/-- What stands between two pieces of code, told: the ways of the first come together. -/
theorem Wc.cut {a b : Code} (M : Fr → World → Prop) (h1 : Wc P n ds (fun e F w => e = .normal ∧ M F w) a F w) (h2 : ∀ F w, M F w → Wc P n ds Q b F w) : Wc P n ds Q (.seq a b) F w := by
  unfold Wc at *
  refine wp_seq (wp_mono h1 ?_)
  rintro e a' w' ⟨F', rfl, he, hM⟩
  subst he
  exact h2 F' w' hM
end
end Go.Proofs.YtjaendlcijmifaaGreatDoor.Wk

namespace Go.Proofs.YtjaendlcijmifaaGreatDoor
open Go Wk
open Go.RowKit (Below)
attribute [local irreducible] Go.Calls

structure Ev where
  id : Nat
  ca : Nat
  tm : Int
  kd : Nat
  pa : List UInt8
  ar : Int
def evC (e : Ev) : List Value := [.int .u64 e.id, .int .u64 e.ca, vi e.tm, .int .u8 e.kd, vs e.pa, vi e.ar]
abbrev evV (e : Ev) : Value := .agg (evC e).toArray
abbrev rEv : Rel Ev := flat evC
theorem evC_one (e : Ev) : ∀ c ∈ evC e, c.oneCell' = true := by
  intro c hc
  simp only [evC, List.mem_cons, List.not_mem_nil, or_false] at hc
  rcases hc with rfl | rfl | rfl | rfl | rfl | rfl <;> rfl
theorem goodEv : GoodR rEv 6 := good_flat _ (fun _ => rfl) evC_one
def ev0 : Ev := ⟨0, 0, 0, 0, [], 0⟩

/-- What a machine's words hold. -/
structure EvW (e : Ev) : Prop where
  id : e.id < 18446744073709551616
  ca : e.ca < 18446744073709551616
  t0 : -9223372036854775808 ≤ e.tm
  t1 : e.tm ≤ 9223372036854775807
  kd : e.kd < 256
  a0 : -9223372036854775808 ≤ e.ar
  a1 : e.ar ≤ 9223372036854775807

/-- The kinds' names. -/
def kindL : List (List UInt8) := [[], [98, 105, 110, 100], [117, 110, 98, 105, 110, 100], [111, 110], [111, 102, 102], [115, 108, 101, 101, 112], [119, 97, 107, 101], [112, 108, 117, 103], [117, 110, 112, 108, 117, 103], [110, 111, 116, 101]]
def nameK (k : Nat) : List UInt8 := kindL.getD k []
theorem nameK_big {k : Nat} (h : 10 ≤ k) : nameK k = [] := by
  unfold nameK
  rw [List.getD_eq_getElem?_getD, List.getElem?_eq_none (by simpa [kindL] using h)]; rfl
theorem nameK_nil {k : Nat} : nameK k = [] ↔ k = 0 ∨ 10 ≤ k := by
  constructor
  · intro h
    rcases Nat.lt_or_ge k 10 with h1 | h1
    · left
      have : ∀ k : Fin 10, nameK k.val = [] → k.val = 0 := by decide
      exact this ⟨k, h1⟩ h
    · exact .inr h1
  · rintro (rfl | h)
    · rfl
    · exact nameK_big h
theorem nameK_inj {j k : Nat} (hj : nameK j ≠ []) (h : nameK j = nameK k) : j = k := by
  have h1 : j < 10 := Nat.not_le.1 fun h => hj (nameK_big h)
  have h2 : k < 10 := Nat.not_le.1 fun h' => hj (h.trans (nameK_big h'))
  have : ∀ j k : Fin 10, nameK j.val = nameK k.val → j.val = k.val := by decide
  exact this ⟨j, h1⟩ ⟨k, h2⟩ h

/-- Paths. -/
def pathM (s : List UInt8) : Bool := decide (s = [47]) || (decide ((splitR 47 s)[0]? = some []) && decide (1 < (splitR 47 s).length) && decide ((splitR 47 s).length ≤ 16) && !((splitR 47 s).drop 1).any fun x => !nameOk x)

/-- A trace. -/
structure Tr where
  size : Nat
  gone : Nat
  kept : List Ev
def Tr.last (t : Tr) : Nat := t.gone + t.kept.length
/-- Where an event stands among those that are kept. -/
def Tr.at (t : Tr) (id : Nat) : Option Nat := if id ≤ t.gone ∨ t.last < id then none else some (id - t.gone - 1)
def Tr.get (t : Tr) (id : Nat) : Option Ev := (t.at id).bind fun k => t.kept[k]?
def Tr.put (t : Tr) (x : Ev) : Tr := if t.kept.length < t.size then ⟨t.size, t.gone, t.kept ++ [x]⟩ else ⟨t.size, t.gone + 1, t.kept.drop 1 ++ [x]⟩
def Tr.late (t : Tr) (tm : Int) : Int := match t.kept.getLast? with | some y => max tm y.tm | none => tm
def Tr.add (t : Tr) (ca : Nat) (tm : Int) (kd : Nat) (pa : List UInt8) (ar : Int) : Nat × Int × Tr :=
  if t.last < ca ∨ nameK kd = [] ∨ pathM pa = false then (0, 1, t)
  else if 4611686018427387904 ≤ t.last then (0, 3, t)
  else (t.last + 1, 0, t.put ⟨t.last + 1, ca, t.late tm, kd, pa, ar⟩)

/-- What a trace has at all times. -/
structure TrOk (t : Tr) : Prop where
  s0 : 1 ≤ t.size
  s1 : t.size ≤ 4096
  len : t.kept.length ≤ t.size
  full : 0 < t.gone → t.kept.length = t.size
  last : t.last ≤ 4611686018427387904
  ids : ∀ (i : Nat) (e : Ev), t.kept[i]? = some e → e.id = t.gone + i + 1
  cas : ∀ e ∈ t.kept, e.ca < e.id
  ok : ∀ e ∈ t.kept, EvW e ∧ nameK e.kd ≠ [] ∧ pathM e.pa = true
  tms : ∀ (i : Nat) (e f : Ev), t.kept[i]? = some e → t.kept[i + 1]? = some f → e.tm ≤ f.tm
theorem TrOk.new {n : Nat} (h0 : 1 ≤ n) (h1 : n ≤ 4096) : TrOk ⟨n, 0, []⟩ :=
  ⟨h0, h1, Nat.zero_le _, fun h => absurd h (Nat.lt_irrefl _), by simp [Tr.last], fun i e h => by simp at h, fun e h => by simp at h, fun e h => by simp at h, fun i e f h => by simp at h⟩
theorem put_last (t : Tr) (x : Ev) (h : t.kept.length < t.size ∨ 0 < t.kept.length) : (t.put x).last = t.last + 1 := by
  unfold Tr.put Tr.last
  split
  · simp; omega
  · simp; omega
theorem put_size (t : Tr) (x : Ev) : (t.put x).size = t.size := by unfold Tr.put; split <;> rfl
theorem put_len {t : Tr} (x : Ev) (h0 : 1 ≤ t.size) (h : t.kept.length ≤ t.size) : (t.put x).kept.length ≤ t.size := by
  unfold Tr.put
  split
  · simp; omega
  · simp; omega
theorem put_lastE (t : Tr) (x : Ev) : (t.put x).kept.getLast? = some x := by
  unfold Tr.put
  split <;> simp
theorem get_snoc {l : List Ev} {x e : Ev} {i : Nat} (h : (l ++ [x])[i]? = some e) : (i < l.length ∧ l[i]? = some e) ∨ (i = l.length ∧ e = x) := by
  rcases Nat.lt_or_ge i l.length with h1 | h1
  · rw [List.getElem?_append_left h1] at h; exact .inl ⟨h1, h⟩
  · rw [List.getElem?_append_right h1] at h
    rcases Nat.eq_zero_or_pos (i - l.length) with h2 | h2
    · rw [h2] at h; simp at h; exact .inr ⟨by omega, h.symm⟩
    · rw [List.getElem?_eq_none (by simp; omega)] at h; cases h
theorem TrOk.put {t : Tr} (h : TrOk t) {x : Ev} (hx : EvW x) (hid : x.id = t.last + 1) (hca : x.ca < x.id) (hk : nameK x.kd ≠ []) (hp : pathM x.pa = true) (hl : t.last < 4611686018427387904)
    (ht : ∀ y, t.kept.getLast? = some y → y.tm ≤ x.tm) : TrOk (t.put x) := by
  have hne : t.kept.length < t.size ∨ 0 < t.kept.length := by have := h.s0; omega
  have hlast := put_last t x hne
  have hs := put_size t x
  have hlen := put_len x h.s0 h.len
  have s0 := h.s0
  have hl0 := h.len
  refine ⟨by rw [hs]; exact h.s0, by rw [hs]; exact h.s1, by rw [hs]; exact hlen, ?_, by omega, ?_, ?_, ?_, ?_⟩
  · rw [hs]
    unfold Tr.put
    split
    · intro hg; have := h.full hg; omega
    · intro _; simp; omega
  · unfold Tr.put
    split
    · intro i e he
      rcases get_snoc he with ⟨_, he⟩ | ⟨rfl, rfl⟩
      · exact h.ids i e he
      · rw [hid]; unfold Tr.last; rfl
    · intro i e he
      rcases get_snoc he with ⟨_, he⟩ | ⟨rfl, rfl⟩
      · rw [List.getElem?_drop] at he
        rw [h.ids _ e he]; dsimp only; omega
      · rw [hid]; unfold Tr.last; simp; omega
  · unfold Tr.put
    split
    · intro e he
      rcases List.mem_append.1 he with he | he
      · exact h.cas e he
      · rw [List.mem_singleton.1 he]; exact hca
    · intro e he
      rcases List.mem_append.1 he with he | he
      · exact h.cas e (List.mem_of_mem_drop he)
      · rw [List.mem_singleton.1 he]; exact hca
  · unfold Tr.put
    split
    · intro e he
      rcases List.mem_append.1 he with he | he
      · exact h.ok e he
      · rw [List.mem_singleton.1 he]; exact ⟨hx, hk, hp⟩
    · intro e he
      rcases List.mem_append.1 he with he | he
      · exact h.ok e (List.mem_of_mem_drop he)
      · rw [List.mem_singleton.1 he]; exact ⟨hx, hk, hp⟩
  · have key : ∀ (i : Nat) (e f : Ev), (t.kept ++ [x])[i]? = some e → (t.kept ++ [x])[i + 1]? = some f → e.tm ≤ f.tm := by
      intro i e f he hf
      rcases get_snoc hf with ⟨h1, hf⟩ | ⟨h1, rfl⟩
      · rcases get_snoc he with ⟨_, he⟩ | ⟨h2, _⟩
        · exact h.tms i e f he hf
        · omega
      · rcases get_snoc he with ⟨_, he⟩ | ⟨h2, _⟩
        · refine ht e ?_
          rw [List.getLast?_eq_getElem?, ← h1]; exact he
        · omega
    unfold Tr.put
    split
    · exact key
    · intro i e f he hf
      dsimp only at he hf
      rcases Nat.eq_zero_or_pos t.kept.length with h1 | h1
      · have : t.kept = [] := List.eq_nil_of_length_eq_zero h1
        rw [this] at he hf
        simp at hf
      · rw [← List.drop_append_of_le_length (by omega)] at he hf
        rw [List.getElem?_drop] at he hf
        exact key (1 + i) e f he hf
theorem TrOk.wide {t : Tr} (h : TrOk t) (tm : Int) (h0 : -9223372036854775808 ≤ tm) (h1 : tm ≤ 9223372036854775807) : -9223372036854775808 ≤ t.late tm ∧ t.late tm ≤ 9223372036854775807 := by
  unfold Tr.late
  cases hq : t.kept.getLast? with
  | none => exact ⟨h0, h1⟩
  | some y =>
    have := (h.ok y (List.mem_of_getLast? hq)).1
    have a := this.t0
    have b := this.t1
    dsimp only; omega
/-- An event's words as they are handed in. -/
structure InW (ca : Nat) (tm : Int) (kd : Nat) (ar : Int) : Prop where
  ca : ca < 18446744073709551616
  t0 : -9223372036854775808 ≤ tm
  t1 : tm ≤ 9223372036854775807
  kd : kd < 256
  a0 : -9223372036854775808 ≤ ar
  a1 : ar ≤ 9223372036854775807
theorem TrOk.add {t : Tr} (h : TrOk t) {ca : Nat} {tm : Int} {kd : Nat} {pa : List UInt8} {ar : Int} (hw : InW ca tm kd ar) : TrOk (t.add ca tm kd pa ar).2.2 := by
  unfold Tr.add
  split
  · exact h
  · split
    · exact h
    · rename_i h1 h2
      have h3 := h.wide tm hw.t0 hw.t1
      have hca : ca ≤ t.last := Nat.not_lt.1 fun e => h1 (.inl e)
      have hl := h.last
      refine h.put ⟨by dsimp only; omega, hw.ca, h3.1, h3.2, hw.kd, hw.a0, hw.a1⟩ rfl (by dsimp only; omega) (fun e => h1 (.inr (.inl e))) (by cases hp : pathM pa; exact absurd (.inr (.inr hp)) h1; rfl) (by omega) ?_
      intro y hy
      show y.tm ≤ t.late tm
      unfold Tr.late
      rw [hy]
      dsimp only; omega
theorem add_size (t : Tr) (ca : Nat) (tm : Int) (kd : Nat) (pa : List UInt8) (ar : Int) : (t.add ca tm kd pa ar).2.2.size = t.size := by
  unfold Tr.add
  split
  · rfl
  · split
    · rfl
    · exact put_size _ _
theorem Tr.at_lt {t : Tr} {id k : Nat} (hk : t.at id = some k) : k < t.kept.length ∧ t.gone + k + 1 = id := by
  unfold Tr.at at hk
  split at hk
  · cases hk
  · cases hk
    unfold Tr.last at *
    omega
theorem TrOk.get {t : Tr} (h : TrOk t) {id : Nat} {x : Ev} (hx : t.get id = some x) : x.id = id ∧ x ∈ t.kept ∧ t.kept[id - t.gone - 1]? = some x ∧ t.gone < id ∧ id ≤ t.last := by
  unfold Tr.get at hx
  cases hk : t.at id with
  | none => rw [hk] at hx; cases hx
  | some k =>
    rw [hk] at hx
    replace hx : t.kept[k]? = some x := hx
    obtain ⟨h1, h2⟩ := Tr.at_lt hk
    have h3 := h.ids k x hx
    unfold Tr.last
    refine ⟨by omega, List.mem_of_getElem? hx, ?_, by omega, by omega⟩
    rw [show id - t.gone - 1 = k by omega]; exact hx
theorem get_none {t : Tr} {id : Nat} : t.get id = none ↔ id ≤ t.gone ∨ t.last < id := by
  unfold Tr.get Tr.at
  by_cases h : id ≤ t.gone ∨ t.last < id
  · rw [if_pos h]; exact ⟨fun _ => h, fun _ => rfl⟩
  · rw [if_neg h]
    constructor
    · intro hx
      replace hx : t.kept[id - t.gone - 1]? = none := hx
      rw [List.getElem?_eq_none_iff] at hx
      unfold Tr.last at *
      omega
    · intro h'; exact absurd h' h
theorem TrOk.get_of {t : Tr} (h : TrOk t) {i : Nat} {e : Ev} (he : t.kept[i]? = some e) : t.get e.id = some e := by
  have h1 := h.ids i e he
  have hlt := (List.getElem?_eq_some_iff.1 he).1
  unfold Tr.get Tr.at Tr.last
  rw [if_neg (by omega), h1, show t.gone + i + 1 - t.gone - 1 = i by omega]
  exact he
end Go.Proofs.YtjaendlcijmifaaGreatDoor

namespace Go.Proofs.YtjaendlcijmifaaGreatDoor.Wk
open Go Go.RowKit

section
variable {P : Program} {n : Nat} {ds : List Deferred} {Q : Po} {F : Fr} {w : World} {ops rest : List Oper} {d : Nat} {ty : TypeId} {pos : String} {aft : Array Edge}
theorem run_idxArrP {t e m bytes b : Nat} {agg : Bool} {z : Value} {k : IntKind} {j : Int} (ht : P.underlying t = some (.array m e)) (he : ElT P e 1 bytes agg z) (h0 : 0 ≤ j) (h1 : j < m) :
    (Instr.indexAt t (.pointer (some ⟨b, 0, none⟩)) (.int k j)).run P w = .ok (.pointer (some ⟨b, j.toNat, none⟩)) w := by
  simp [Instr.indexAt, asIntOf, run_underlying ht, h0, h1, he.sizeOf, Instr.sureAddr, addr_add]
/-- h[j] of an array's variable: its place. -/
theorem Wl.idxArrP {x i : Operand} {t e m bytes b : Nat} {agg : Bool} {z : Value} {k : IntKind} {j : Int} [ht : Und P t (.array m e)] [he : ElT P e 1 bytes agg z] (hx : ev n F x = .pointer (some ⟨b, 0, none⟩)) (hi : ev n F i = .int k j) (h0 : 0 ≤ j) (h1 : j < m)
    (c : Wl P n ds Q ops rest (upd F d (.pointer (some ⟨b, j.toNat, none⟩))) w) : Wl P n ds Q ops (⟨some d, .indexAddr t x i, ty, pos, aft, none⟩ :: rest) F w :=
  Wl.val (by simp only [execOp, hx, hi, Sem.run_bind, run_idxArrP ht.h he h0 h1, Result.andThen_ok, Sem.run_pure]) c
/-- a[i:] of an array's variable. -/
theorem Wl.sliceArr {x i : Operand} {t e m bytes b : Nat} {agg : Bool} {z : Value} {k : IntKind} {j : Nat} [ht : Und P t (.array m e)] [he : ElT P e 1 bytes agg z] (hx : ev n F x = .pointer (some ⟨b, 0, none⟩)) (hi : ev n F i = .int k j) (h1 : j < m)
    (c : Wl P n ds Q ops rest (upd F d (.slice (some ⟨b, j, none⟩) (m - j) (m - j))) w) : Wl P n ds Q ops (⟨some d, .slice t x (some i) none none, ty, pos, aft, none⟩ :: rest) F w := by
  refine Wl.val ?_ c
  have hr : (Instr.sliceAt t (.pointer (some ⟨b, 0, none⟩)) (some (.int k j)) none none).run P w = .ok (.slice (some ⟨b, j, none⟩) (m - j) (m - j)) w := by
    have h2 : ¬ m = j := by omega
    have h3 : j ≤ m := by omega
    simp [Instr.sliceAt, run_underlying ht.h, Instr.sliceBounds, Instr.sliceBound, asIntOf, he.sizeOf, Instr.sureAddr, addr_add, h2, h3]
  simp only [execOp, hx, hi, Option.map_some, Option.map_none, Sem.run_bind, hr, Result.andThen_ok, Sem.run_pure]
theorem run_andM {k : IntKind} (hk : k.signed = false) (a m : Nat) (ha : a < 2 ^ k.bits) (hm : m ≤ k.bits) : Op.intBits .and k (a : Int) ((2 ^ m - 1 : Nat) : Int) = pure (.int k ((a % 2 ^ m : Nat) : Int)) := by
  have hp : 2 ^ m ≤ 2 ^ k.bits := Nat.pow_le_pow_right (by omega) hm
  have hp0 : 0 < 2 ^ m := Nat.pow_pos (by omega)
  have h1 : (BitVec.ofInt k.bits (a : Int) &&& BitVec.ofInt k.bits ((2 ^ m - 1 : Nat) : Int)).toNat = a % 2 ^ m := by
    rw [BitVec.toNat_and, BitVec.toNat_ofInt, BitVec.toNat_ofInt]
    have e1 : ((a : Int) % ((2 ^ k.bits : Nat) : Int)).toNat = a := by
      rw [Int.emod_eq_of_lt (by omega) (by omega)]; omega
    have e2 : (((2 ^ m - 1 : Nat) : Int) % ((2 ^ k.bits : Nat) : Int)).toNat = 2 ^ m - 1 := by
      rw [Int.emod_eq_of_lt (by omega) (by omega)]; omega
    rw [e1, e2, Nat.and_two_pow_sub_one_eq_mod]
  simp only [Op.intBits, h1]
  have h2 := Nat.mod_le a (2 ^ m)
  rw [wrap_u hk (by omega) (by have : ((a % 2 ^ m : Nat) : Int) < ((2 ^ k.bits : Nat) : Int) := by omega
                               simpa using this)]
/-- x & (2^m - 1). -/
theorem Wl.andM {x y : Operand} {t t' : TypeId} {k : IntKind} {A B : Int} (a m : Nat) (hk : k.signed = false) (hA : A = (a : Int)) (hB : B = ((2 ^ m - 1 : Nat) : Int)) (ha : a < 2 ^ k.bits) (hm : m ≤ k.bits) (hx : ev n F x = .int k A) (hy : ev n F y = .int k B)
    (c : Wl P n ds Q ops rest (upd F d (.int k ((a % 2 ^ m : Nat) : Int))) w) : Wl P n ds Q ops (⟨some d, .binOp .and t x y t', ty, pos, aft, none⟩ :: rest) F w := by
  subst hA
  subst hB
  refine Wl.val ?_ c
  simp only [execOp, hx, hy, Sem.run_bind, run_eqGuard_int, Result.andThen_ok]
  have : binOp .and t (.int k (a : Int)) (.int k ((2 ^ m - 1 : Nat) : Int)) = Op.intBits .and k (a : Int) ((2 ^ m - 1 : Nat) : Int) := by simp [binOp]
  rw [this, run_andM hk a m ha hm]; rfl
/-- x & y, both written out. -/
theorem Wl.andC {x y : Operand} {t t' : TypeId} {k : IntKind} {a b r : Int} (hr : Op.intBits .and k a b = pure (.int k r)) (hx : ev n F x = .int k a) (hy : ev n F y = .int k b)
    (c : Wl P n ds Q ops rest (upd F d (.int k r)) w) : Wl P n ds Q ops (⟨some d, .binOp .and t x y t', ty, pos, aft, none⟩ :: rest) F w := by
  refine Wl.val ?_ c
  simp only [execOp, hx, hy, Sem.run_bind, run_eqGuard_int, Result.andThen_ok]
  have : binOp .and t (.int k a) (.int k b) = Op.intBits .and k a b := by simp [binOp]
  rw [this, hr]; rfl
/-- x | y, both written out. -/
theorem Wl.orC {x y : Operand} {t t' : TypeId} {k : IntKind} {a b r : Int} (hr : Op.intBits .or k a b = pure (.int k r)) (hx : ev n F x = .int k a) (hy : ev n F y = .int k b)
    (c : Wl P n ds Q ops rest (upd F d (.int k r)) w) : Wl P n ds Q ops (⟨some d, .binOp .or t x y t', ty, pos, aft, none⟩ :: rest) F w := by
  refine Wl.val ?_ c
  simp only [execOp, hx, hy, Sem.run_bind, run_eqGuard_int, Result.andThen_ok]
  have : binOp .or t (.int k a) (.int k b) = Op.intBits .or k a b := by simp [binOp]
  rw [this, hr]; rfl
theorem Wl.negW {x : Operand} {t : TypeId} {k : IntKind} {a : Int} (hx : ev n F x = .int k a) (c : Wl P n ds Q ops rest (upd F d (.int k (k.wrap (-a)))) w) : Wl P n ds Q ops (⟨some d, .unOp .neg t x, ty, pos, aft, none⟩ :: rest) F w :=
  Wl.val (by simp [execOp, hx, Op.unary, Op.intArith]) c
end
end Go.Proofs.YtjaendlcijmifaaGreatDoor.Wk

namespace Go.Proofs.YtjaendlcijmifaaGreatDoor
open Go Wk
open Go.RowKit (Below)
attribute [local irreducible] Go.Calls

section
variable {P : Program} {n : Nat} {ds : List Deferred} {Q : Po} {F : Fr} {w : World} {ops rest : List Oper} {d : Nat} {ty t t' e : TypeId} {pos : String} {aft : Array Edge} {x : Operand}
theorem Wk.Wl.buildG {ps : List (Nat × Operand)} {parts : List (Nat × Value)} {u : Value}
    (hps : ps.map (fun p => (p.1, ev n F p.2)) = parts) (hr : (Instr.build t parts.toArray).run P w = .ok u w) (c : Wl P n ds Q ops rest (upd F d u) w) : Wl P n ds Q ops (⟨some d, .build t ps.toArray, ty, pos, aft, none⟩ :: rest) F w := by
  refine Wl.val ?_ c
  subst hps
  simp only [execOp, List.map_toArray, Sem.run_bind]
  rw [hr]; rfl
end
theorem run_kinds {w : World} : (Instr.build 91 #[(0, vs []), (1, vs [98, 105, 110, 100]), (2, vs [117, 110, 98, 105, 110, 100]), (3, vs [111, 110]), (4, vs [111, 102, 102]), (5, vs [115, 108, 101, 101, 112]), (6, vs [119, 97, 107, 101]), (7, vs [112, 108, 117, 103]), (8, vs [117, 110, 112, 108, 117, 103]), (9, vs [110, 111, 116, 101])]).run Tryz.prog w = .ok (.agg (kindL.map vs).toArray) w := by kernel_rfl
theorem name_spec {w : World} {k : Nat} (hk : k < 256) : Calls Tryz.prog 23 #[.int .u8 k] w (Ret fun r w' => r = vs (nameK k) ∧ New w w') := by
  refine calls_of_Wc Tryz.func23 rfl Tryz.ntmps23 rfl ?_
  (repeat' (first | refine Wl.assignE (by conv => { lhs; whnf }) ?_ | refine Wl.nil ?_ | refine Qseq.normal ?_ | refine Wc.seq ?_ | refine Wc.region ?_))
  refine Wl.buildG rfl run_kinds ?_
  skip
  refine Wl.alloc fun w1 b1 n1 s1 => ?_
  skip
  refine Wl.storeB (o := 0) b1 rfl rfl rfl rfl (by decide) (by intro c hc; obtain ⟨x, _, rfl⟩ := List.mem_map.1 hc; rfl) fun w2 b2 c2 s2 => ?_
  have n2 : New w w2 := Chg.trans n1 c2 fun b hb e => by omega
  replace b2 : Bk w2 w.heap.size 91 (kindL.map vs) := b2
  clear b1 n1 c2
  (repeat' (first | refine Wl.moveE (by conv => { lhs; whnf }) ?_ | refine Wl.assignE (by conv => { lhs; whnf }) ?_ | refine Wl.nil ?_ | refine Qseq.normal ?_ | refine Wc.seq ?_ | refine Wc.region ?_ | refine Wc.skip ?_ | refine Wc.ret ?_ | refine Qseq.ret ?_ | refine Wc.condT rfl ?_ | refine Wc.condF rfl ?_ | refine Wl.convI rfl ?_ | refine Wl.geq rfl rfl (fun _ => ?_) (fun _ => ?_)))
  · have h10 : 10 ≤ k := by
      have h : (10 : Int) ≤ IntKind.i64.wrap (k : Int) := by assumption
      rw [wrap64_id (by omega) (by omega)] at h; omega
    rw [nameK_big h10]
    exact Qfn.ret1 rfl rfl ⟨_, rfl, rfl, n2⟩
  · have h10 : k < 10 := by
      have h : IntKind.i64.wrap (k : Int) < 10 := by assumption
      rw [wrap64_id (by omega) (by omega)] at h; omega
    refine Wl.idxArrP rfl rfl (by omega) (by omega) ?_
    refine Wl.load1 rfl (b2.cell (u := vs (nameK k)) ?_) ?_
    · rw [Int.toNat_natCast, List.getElem?_map]
      unfold nameK
      rw [List.getD_eq_getElem?_getD]
      obtain ⟨x, hx⟩ : ∃ x, kindL[k]? = some x := ⟨kindL[k]'(by simpa [kindL] using h10), List.getElem?_eq_getElem _⟩
      rw [hx]; rfl
    (repeat' (first | refine Wl.assignE (by conv => { lhs; whnf }) ?_ | refine Wl.nil ?_ | refine Qseq.normal ?_ | refine Wc.ret ?_))
    exact Qfn.ret1 rfl rfl ⟨_, rfl, rfl, n2⟩

/-! ### IndexFunc, ContainsFunc of texts -/
def idx {α : Type} (p : α → Bool) (l : List α) : Int := match l.findIdx? p with | some i => (i : Int) | none => -1
theorem idx_hit {α : Type} {p : α → Bool} {l : List α} {i : Nat} {y : α} (hi : l[i]? = some y) (h : ∀ x ∈ l.take i, p x = false) (hy : p y = true) : idx p l = i := by
  unfold idx
  have : l.findIdx? p = some i := by
    rw [List.findIdx?_eq_some_iff_getElem]
    obtain ⟨hlt, rfl⟩ := List.getElem?_eq_some_iff.1 hi
    refine ⟨hlt, hy, fun j hj => ?_⟩
    have := h l[j] (by rw [List.mem_iff_getElem?]; exact ⟨j, by rw [List.getElem?_take, if_pos hj, List.getElem?_eq_getElem]⟩)
    simp [this]
  rw [this]
theorem idx_miss {α : Type} {p : α → Bool} {l : List α} (h : ∀ x ∈ l, p x = false) : idx p l = -1 := by
  unfold idx
  have : l.findIdx? p = none := by rw [List.findIdx?_eq_none_iff]; exact h
  rw [this]
theorem take_snoc' {α : Type} {l : List α} {i : Nat} {y : α} (h : l[i]? = some y) : l.take (i + 1) = l.take i ++ [y] := by
  rw [List.take_add_one, h]; rfl
theorem take_all {α : Type} {p : α → Bool} {l : List α} {i : Nat} {y : α} (hi : l[i]? = some y) (h : ∀ x ∈ l.take i, p x = false) (hy : p y = false) : ∀ x ∈ l.take (i + 1), p x = false := by
  rw [take_snoc' hi]
  intro x hx
  rcases List.mem_append.1 hx with hx | hx
  · exact h x hx
  · rw [List.mem_singleton.1 hx]; exact hy
theorem get_lt {α : Type} (l : List α) {k : Nat} (h : k < l.length) : ∃ x, l[k]? = some x := ⟨l[k], List.getElem?_eq_getElem h⟩
theorem odd_spec {w : World} {s : List UInt8} : Calls Tryz.prog 37 #[vs s] w (Ret fun r w' => r = .bool (!nameOk s) ∧ New w w') := by
  refine calls_of_Wc Tryz.func37 rfl Tryz.ntmps37 rfl ?_
  (repeat' (first | refine Wl.moveE (by conv => { lhs; whnf }) ?_ | refine Wl.assignE (by conv => { lhs; whnf }) ?_ | refine Wl.nil ?_ | refine Qseq.normal ?_ | refine Wc.seq ?_ | refine Wc.region ?_))
  refine Wl.call (Name_spec (s := s)) rfl ?_
  rintro _ w1 ⟨rfl, n1⟩
  unfold nameNo
  cases nameOk s with
  | true =>
    (repeat' (first | refine Wl.assignE (by conv => { lhs; whnf }) ?_ | refine Wl.nil ?_ | refine Qseq.normal ?_ | refine Wc.ret ?_ | (refine Wl.neq rfl rfl (fun _ => ?_) (fun _ => ?_) <;> (first | (exfalso; contradiction) | skip))))
    exact Qfn.ret1 rfl rfl ⟨_, rfl, rfl, n1⟩
  | false =>
    (repeat' (first | refine Wl.assignE (by conv => { lhs; whnf }) ?_ | refine Wl.nil ?_ | refine Qseq.normal ?_ | refine Wc.ret ?_ | (refine Wl.neq rfl rfl (fun _ => ?_) (fun _ => ?_) <;> (first | (exfalso; contradiction) | skip))))
    exact Qfn.ret1 rfl rfl ⟨_, rfl, rfl, n1⟩
theorem IndexFuncS_spec {Pb : Nat → Prop} {w : World} {v : Value} {l : List (List UInt8)} (h : RdS (Wk.one vs) 1 Pb w v l) :
    Calls Tryz.prog 70 #[v, .func (.func 37) #[] #[]] w (Ret fun r w' => r = vi (idx (fun x => !nameOk x) l) ∧ New w w') := by
  obtain ⟨a, cp, rfl, hc1, hc2⟩ := h.form
  simp only [maxLen] at hc2
  refine calls_of_Wc Tryz.func70 rfl Tryz.ntmps70 rfl ?_
  (repeat' (first | refine Wl.moveE (by conv => { lhs; whnf }) ?_ | refine Wl.assignE (by conv => { lhs; whnf }) ?_ | refine Wl.nil ?_ | refine Wl.lenS rfl ?_ | refine Qseq.normal ?_ | refine Wc.seq ?_ | refine Wc.region ?_ | refine Wc.block ?_))
  refine Wc.loop (σ := Nat) (fun i => [(0, .slice a l.length cp), (1, .func (.func 37) #[] #[]), (7, vi l.length), (8, vi i)]) (fun i w' => i ≤ l.length ∧ (∀ x ∈ l.take i, (!nameOk x) = false) ∧ New w w') (fun i => l.length - i) 0 ⟨rfl, rfl, rfl, rfl, trivial⟩ ⟨Nat.zero_le _, by simp, Chg.refl _ _⟩ ?_
  rintro i G w1 ⟨hi, hall, n1⟩
  simp only [upds]
  (repeat' (first | refine Wl.moveE (by conv => { lhs; whnf }) ?_ | refine Wl.assignE (by conv => { lhs; whnf }) ?_ | refine Wl.nil ?_ | refine Qseq.normal ?_ | refine Wc.seq ?_ | refine Wc.region ?_ | refine Wc.block ?_ | refine Wc.skip ?_ | refine Wc.exit ?_ | refine Wc.ret ?_ | refine Qseq.exit ?_ | refine Qblk.hit ?_ | refine Qloop.exit ?_ | refine Wc.condT rfl ?_ | refine Wc.condF rfl ?_ | refine Wl.lss rfl rfl (fun _ => ?_) (fun _ => ?_)))
  · obtain ⟨y, hy⟩ := get_lt l (k := i) (by omega)
    refine Wl.idxAddrV (h.keep (stable_one _) n1.keep) rfl rfl (by omega) hy fun b o hc => ?_
    refine Wl.load1 rfl hc ?_
    refine Wl.callV (dst := some 16) rfl (odd_spec (s := y)) rfl ?_
    rintro _ w2 ⟨rfl, n2⟩
    simp only [updO]
    cases hp : nameOk y with
    | false =>
      (repeat' (first | refine Wl.moveE (by conv => { lhs; whnf }) ?_ | refine Wl.assignE (by conv => { lhs; whnf }) ?_ | refine Wl.nil ?_ | refine Qseq.normal ?_ | refine Wc.seq ?_ | refine Wc.region ?_ | refine Wc.ret ?_ | refine Qseq.ret ?_ | refine Qblk.ret ?_ | refine Qloop.ret ?_ | refine Wc.condT rfl ?_))
      refine Qfn.ret1 rfl rfl ⟨_, rfl, ?_, New.trans n1 n2⟩
      rw [idx_hit hy hall (by rw [hp]; rfl)]; rfl
    | true =>
      (repeat' (first | refine Wl.moveE (by conv => { lhs; whnf }) ?_ | refine Wl.nil ?_ | refine Qseq.normal ?_ | refine Wc.region ?_ | refine Wc.skip ?_ | refine Qblk.normal ?_ | refine Wc.condF rfl ?_ | refine Wl.add rfl rfl (by omega) (by omega) ?_))
      exact Qloop.normal (i + 1) ⟨rfl, rfl, rfl, rfl, trivial⟩ ⟨by omega, take_all hy hall (by rw [hp]; rfl), New.trans n1 n2⟩ (by omega)
  · have e : i = l.length := by omega
    subst e
    rw [List.take_length] at hall
    refine Qfn.ret1 rfl rfl ⟨_, rfl, ?_, n1⟩
    rw [idx_miss hall]; rfl
theorem ContainsFuncS_spec {Pb : Nat → Prop} {w : World} {v : Value} {l : List (List UInt8)} (h : RdS (Wk.one vs) 1 Pb w v l) :
    Calls Tryz.prog 39 #[v, .func (.func 37) #[] #[]] w (Ret fun r w' => r = .bool (l.any fun x => !nameOk x) ∧ New w w') := by
  refine calls_of_Wc Tryz.func39 rfl Tryz.ntmps39 rfl ?_
  (repeat' (first | refine Wl.moveE (by conv => { lhs; whnf }) ?_ | refine Wl.assignE (by conv => { lhs; whnf }) ?_ | refine Wl.nil ?_ | refine Qseq.normal ?_ | refine Wc.seq ?_ | refine Wc.region ?_))
  refine Wl.call (IndexFuncS_spec h) rfl ?_
  rintro _ w1 ⟨rfl, n1⟩
  unfold idx
  cases hx : l.findIdx? (fun x => !nameOk x) with
  | some i =>
    have : l.any (fun x => !nameOk x) = true := by
      obtain ⟨hlt, hp, _⟩ := List.findIdx?_eq_some_iff_getElem.1 hx
      exact List.any_eq_true.2 ⟨l[i], by simp, hp⟩
    (repeat' (first | refine Wl.assignE (by conv => { lhs; whnf }) ?_ | refine Wl.nil ?_ | refine Qseq.normal ?_ | refine Wc.ret ?_ | (refine Wl.geq rfl rfl (fun _ => ?_) (fun _ => ?_) <;> (first | (exfalso; contradiction) | skip))))
    refine Qfn.ret1 rfl rfl ⟨_, rfl, ?_, n1⟩
    rw [this]; rfl
  | none =>
    have : l.any (fun x => !nameOk x) = false := by
      rw [List.any_eq_false]
      intro x hx'
      have := List.findIdx?_eq_none_iff.1 hx x hx'
      simp at this
      simp [this]
    (repeat' (first | refine Wl.assignE (by conv => { lhs; whnf }) ?_ | refine Wl.nil ?_ | refine Qseq.normal ?_ | refine Wc.ret ?_ | (refine Wl.geq rfl rfl (fun _ => ?_) (fun _ => ?_) <;> (first | (exfalso; contradiction) | skip))))
    refine Qfn.ret1 rfl rfl ⟨_, rfl, ?_, n1⟩
    rw [this]; rfl
theorem path_spec {w : World} {s : List UInt8} (hl : s.length ≤ 100000000) : Calls Tryz.prog 24 #[vs s] w (Ret fun r w' => r = .bool (pathM s) ∧ New w w') := by
  refine calls_of_Wc Tryz.func24 rfl Tryz.ntmps24 rfl ?_
  (repeat' (first | refine Wl.moveE (by conv => { lhs; whnf }) ?_ | refine Wl.assignE (by conv => { lhs; whnf }) ?_ | refine Wl.nil ?_ | refine Qseq.normal ?_ | refine Wc.seq ?_ | refine Wc.region ?_ | refine Wc.skip ?_ | refine Wc.ret ?_ | refine Qseq.ret ?_ | refine Wc.condT rfl ?_ | refine Wc.condF rfl ?_ | refine Wl.seql rfl rfl (fun _ => ?_) (fun _ => ?_)))
  · have e : s = [47] := by assumption
    subst e
    exact Qfn.ret1 rfl rfl ⟨_, rfl, rfl, Chg.refl _ _⟩
  · have hne : s ≠ [47] := by assumption
    refine Wl.call (SplitC_spec 47 (l := s) hl) rfl ?_
    rintro v w1 ⟨ho, n1⟩
    have hr := ho.rd (mono_one _)
    have hs0 := splitR_ne 47 s
    have hlen : (splitR 47 s).length ≤ s.length + 1 := by rw [splitR_length]; have := List.count_le_length (a := (47 : UInt8)) (l := s); omega
    have hM : pathM s = (decide ((splitR 47 s)[0]? = some []) && decide (1 < (splitR 47 s).length) && decide ((splitR 47 s).length ≤ 16) && !((splitR 47 s).drop 1).any fun x => !nameOk x) := by
      unfold pathM; rw [decide_eq_false hne, Bool.false_or]
    rw [hM]
    clear hM
    generalize splitR 47 s = ps at hr hs0 hlen ⊢
    obtain ⟨y, hy⟩ := get_lt ps (k := 0) (List.length_pos_iff.2 hs0)
    obtain ⟨a, cp, rfl, hc1, hc2⟩ := hr.form
    simp only [maxLen] at hc2
    (repeat' (first | refine Wl.moveE (by conv => { lhs; whnf }) ?_ | refine Wl.assignE (by conv => { lhs; whnf }) ?_ | refine Wl.nil ?_ | refine Qseq.normal ?_ | refine Wc.seq ?_ | refine Wc.region ?_))
    refine Wl.idxAddrV hr rfl rfl (by omega) hy fun b o hc => ?_
    refine Wl.load1 rfl hc ?_
    (repeat' (first | refine Wl.moveE (by conv => { lhs; whnf }) ?_ | refine Wl.assignE (by conv => { lhs; whnf }) ?_ | refine Wl.nil ?_ | refine Wl.guardY rfl rfl ?_ | refine Wl.guardN rfl rfl ?_ | refine Wl.pickTE rfl (by conv => { lhs; whnf }) ?_ | refine Wl.pickFE rfl (by conv => { lhs; whnf }) ?_ | refine Wl.lenS rfl ?_ | refine Qseq.normal ?_ | refine Wc.ret ?_ | refine Wl.leq rfl rfl (fun _ => ?_) (fun _ => ?_) | refine Wl.gtr rfl rfl (fun _ => ?_) (fun _ => ?_) | refine Wl.seql rfl rfl (fun _ => ?_) (fun _ => ?_)))
    · have e : y = [] := by assumption
      subst e
      refine Wl.sliceFrom hr rfl rfl (by omega) (by omega) fun v2 h2 => ?_
      (repeat' (first | refine Wl.moveE (by conv => { lhs; whnf }) ?_ | refine Wl.guardY rfl rfl ?_))
      refine Wl.call (ContainsFuncS_spec h2) rfl ?_
      rintro _ w2 ⟨rfl, n2⟩
      (repeat' (first | refine Wl.assignE (by conv => { lhs; whnf }) ?_ | refine Wl.nil ?_ | refine Wl.guardY rfl rfl ?_ | refine Wl.pickTE rfl (by conv => { lhs; whnf }) ?_ | refine Wl.notB rfl ?_ | refine Qseq.normal ?_ | refine Wc.ret ?_))
      refine Qfn.ret1 rfl rfl ⟨_, rfl, ?_, n1.trans n2⟩
      rw [decide_eq_true hy, decide_eq_true (by omega), decide_eq_true (by omega)]; rfl
    · refine Qfn.ret1 rfl rfl ⟨_, rfl, ?_, n1⟩
      rw [decide_eq_false (p := ps.length ≤ 16) (by omega), Bool.and_false]; rfl
    · refine Qfn.ret1 rfl rfl ⟨_, rfl, ?_, n1⟩
      rw [decide_eq_false (p := 1 < ps.length) (by omega), Bool.and_false]; rfl
    · have e : y ≠ [] := by assumption
      refine Qfn.ret1 rfl rfl ⟨_, rfl, ?_, n1⟩
      rw [decide_eq_false (p := ps[0]? = some []) (fun h => e (by rw [hy] at h; exact Option.some.inj h))]; rfl
end Go.Proofs.YtjaendlcijmifaaGreatDoor

namespace Go.Proofs.YtjaendlcijmifaaGreatDoor.Wk
open Go Go.RowKit

section
variable {P : Program} {n : Nat} {F : Fr} {w : World}
/-! Results that lie in variables. -/
def rvOf (tmps : Array Value) : ResultVar → Sem Value
  | .tmp t => pure (tmps.getD t undef)
  | .cell a t => do loadVar t (← asAddr (tmps.getD a undef))
theorem rvOf_tmp {t : Nat} (ht : Nat.blt t n = true) : (rvOf (arr n F) (.tmp t)).run P w = .ok (F t) w := by
  simp only [rvOf, Sem.run_pure]
  rw [Array.getD_eq_getD_getElem?, arr_get, if_pos (by rwa [Nat.blt_eq] at ht)]; rfl
theorem rvOf_one {a e bytes b : Nat} {z u : Value} {T : TypeId} [he : ElT P e 1 bytes false z] (ht : Nat.blt a n = true) (hF : F a = .pointer (some ⟨b, 0, none⟩)) (hb : Bk w b T [u]) : (rvOf (arr n F) (.cell a e)).run P w = .ok u w := by
  have e1 : (arr n F).getD a undef = .pointer (some ⟨b, 0, none⟩) := by rw [Array.getD_eq_getD_getElem?, arr_get, if_pos (by rwa [Nat.blt_eq] at ht)]; exact hF
  have := hb.cell (o := 0) (u := u) rfl
  simp only [rvOf, e1]
  simp [asAddr, loadVar, he.isAgg, this]
theorem rvOf_agg {a e sz bytes b : Nat} {z : Value} {T : TypeId} {cs : List Value} [he : ElT P e sz bytes true z] (ht : Nat.blt a n = true) (hF : F a = .pointer (some ⟨b, 0, none⟩)) (hb : Bk w b T cs) (hl : cs.length = sz) : (rvOf (arr n F) (.cell a e)).run P w = .ok (.agg cs.toArray) w := by
  have e1 : (arr n F).getD a undef = .pointer (some ⟨b, 0, none⟩) := by rw [Array.getD_eq_getD_getElem?, arr_get, if_pos (by rwa [Nat.blt_eq] at ht)]; exact hF
  have := run_loadCells_list (P := P) w ⟨b, 0, none⟩ cs (fun j u hu => by rw [addr_add, Nat.zero_add]; exact hb.cell hu)
  simp only [rvOf, e1]
  simp [asAddr, loadVar, he.isAgg, he.sizeOf, ← hl, this]
theorem results_rv {fn : Func} {tmps : Array Value} : results fn tmps = (do let vs ← fn.results.mapM (rvOf tmps); pure (if h : vs.size = 1 then vs[0] else .tuple vs)) := by
  unfold results
  congr 1
theorem results1 {fn : Func} {a : ResultVar} {u : Value} (h : fn.results = #[a]) (h1 : (rvOf (arr n F) a).run P w = .ok u w) : (results fn (arr n F)).run P w = .ok u w := by
  rw [results_rv, h]
  simp [h1]
theorem results2 {fn : Func} {a b : ResultVar} {u v : Value} (h : fn.results = #[a, b]) (h1 : (rvOf (arr n F) a).run P w = .ok u w) (h2 : (rvOf (arr n F) b).run P w = .ok v w) : (results fn (arr n F)).run P w = .ok (.tuple #[u, v]) w := by
  rw [results_rv, h]
  simp [h1, h2]
theorem Qfn.retR {fn : Func} {R : Ending → World → Prop} {v : Value} (h : (results fn (arr n F)).run P w = .ok v w) (k : R (.returned v) w) : Qfn P n fn R .ret F w := by
  unfold Qfn; exact ⟨v, h, k⟩

end
end Go.Proofs.YtjaendlcijmifaaGreatDoor.Wk

namespace Go.Proofs.YtjaendlcijmifaaGreatDoor.Wk
open Go Go.RowKit

section
variable {P : Program} {ops : Array Oper} {C : World → Prop} {Q : Exit → Act → World → Prop}
def isQ (ops : Array Oper) (i : Nat) : Bool := match ops[i]? with | some o => readB o.op | none => false
/-- The walk in the text's order, by the operations' numbers. -/
def TS (P : Program) (ops : Array Oper) (C : World → Prop) (Q : Exit → Act → World → Prop) : List Nat → Act → World → Prop
  | [], a, w => Q .normal a w
  | i :: l, a, w => if isQ ops i = true then (∃ o v, ops[i]? = some o ∧ YieldsIn P ops C o v a ∧ TS P ops C Q l (a.put o.dst v) w)
    else if i + 1 = ops.size then wpOp P ops Q i (fun a' w' => Q .normal a' w') a w else wpOp P ops QF i (fun a' w' => C w' ∧ TS P ops C Q l a' w') a w
def wd (a : Act) (ds : List Deferred) : Act := { a with defers := ds }
theorem wd_self (a : Act) : wd a a.defers = a := rfl
theorem wd_put (a : Act) (d : Option Tmp) (v : Value) (ds : List Deferred) : wd (a.put d v) ds = (wd a ds).put d v := by cases d <;> rfl
/-- Two operations that may change places. -/
structure Free (ops : Array Oper) (i j : Nat) : Prop where
  ex : ∃ oi oj, ops[i]? = some oi ∧ ops[j]? = some oj ∧ oi.apart ops oj = true ∧ oj.apart ops oi = true ∧ (∀ cs b, oi.op ≠ .select cs b) ∧ (∀ cs b, oj.op ≠ .select cs b)
  one : isQ ops i = true ∨ isQ ops j = true
  nl : i + 1 ≠ ops.size

theorem yields_unput {oi oj : Oper} {v u : Value} {a : Act} (h : oi.apart ops oj = true) (hs : ∀ cs b, oj.op ≠ .select cs b) : YieldsIn P ops C oj v (a.put oi.dst u) ↔ YieldsIn P ops C oj v a := by
  obtain ⟨h1, _, _⟩ := Oper.apart_spec h
  have e1 := execOp_put oj hs a oi.dst u h1
  have e2 := wanted_put oj a oi.dst u h1
  exact ⟨fun y => y.of_same e1.symm e2.symm, fun y => y.of_same e1 e2⟩
theorem yields_wd {o : Oper} {v : Value} {a : Act} {ds : List Deferred} : YieldsIn P ops C o v (wd a ds) ↔ YieldsIn P ops C o v a := by
  have e : (wd a ds).eval = a.eval := by funext x; cases x <;> rfl
  exact ⟨fun y => y.of_same (by rw [e]) rfl, fun y => y.of_same (by rw [e]) rfl⟩
theorem yields_unique {o : Oper} {v v' : Value} {a : Act} {w : World} (hC : C w) (hr : readB o.op = true) (h : YieldsIn P ops C o v a) (h' : YieldsIn P ops C o v' a) : v = v' := by
  rcases h with ⟨hw, hv⟩ | ⟨hw, rfl⟩ <;> rcases h' with ⟨hw', hv'⟩ | ⟨hw', rfl⟩
  · have h1 := hv w hC
    have h2 := hv' w hC
    have hne := @noEnter P o hr a.eval w
    unfold Oper.quietAt at h1 h2
    generalize (execOp a.eval o).run P w = r at *
    cases r with
    | ok n w' =>
      cases n <;> simp only [Oper.quietUpon] at h1 h2
      case value u => first | exact h1.2.symm.trans h2.2 | exact h1.1.symm.trans h2.1
      case skip => first | exact h1.2.trans h2.2.symm | exact h1.2.symm.trans h2.2
      case enter f args => exact (hne rfl).elim
    | halt x w' => simp only [Oper.quietUpon] at h1
  · rw [hw] at hw'; cases hw'
  · rw [hw] at hw'; cases hw'
  · rfl
/-- A chain operation has an outcome. -/
theorem wpOp_exists {i : Nat} {o : Oper} {K : Act → World → Prop} {a : Act} {w : World} (hi : ops[i]? = some o) (h : wpOp P ops QF i K a w) : ∃ u ds' w', K ((wd a ds').put o.dst u) w' := by
  unfold wpOp at h
  simp only [hi] at h
  split at h
  · rcases h with h | ⟨_, _, _, hq⟩
    · unfold Oper.wp at h
      generalize hr : (execOp a.eval o).run P w = r at h
      cases r with
      | ok nx w' =>
        cases nx with
        | value u => exact ⟨u, a.defers, w', h⟩
        | skip => exact ⟨undef, a.defers, w', h⟩
        | enter f args =>
          obtain ⟨e, w'', fr, he, _⟩ := h []
          cases e with
          | returned u => exact ⟨u, a.defers, w'', he⟩
          | panicked c => exact he.elim
          | outgrown => obtain ⟨_, _, hq⟩ := he; exact hq.elim
        | row r' args =>
          obtain ⟨u, w'', he, _⟩ := h (Frame.enter P 0 #[] .normal) []
          exact ⟨u, a.defers, w'', he⟩
        | defer d => exact ⟨undef, d :: a.defers, w', h⟩
        | _ => exact h.elim
      | halt x w' => cases x <;> exact h.elim
    · exact hq.elim
  · exact ⟨undef, a.defers, w, h⟩
/-- What an operation does is the same where another's slot holds something else. -/
theorem wpOp_reput {i : Nat} {oi oj : Oper} {v : Value} {K K' : Act → World → Prop} {a : Act} {w : World} (hi : ops[i]? = some oi) (hap : oj.apart ops oi = true) (hs : ∀ cs b, oi.op ≠ .select cs b)
    (hK : ∀ u ds' w', K ((wd a ds').put oi.dst u) w' → K' (((wd a ds').put oj.dst v).put oi.dst u) w') (h : wpOp P ops QF i K a w) : wpOp P ops QF i K' (a.put oj.dst v) w := by
  obtain ⟨h1, h2, h3⟩ := Oper.apart_spec hap
  unfold wpOp at *
  simp only [hi] at *
  rw [wanted_put oi a oj.dst v h1]
  split
  · rename_i hw
    simp only [hw, if_true] at h
    rcases h with h | ⟨_, a₀, w₀, hq⟩
    · refine .inl ?_
      unfold Oper.wp at *
      rw [execOp_put oi hs a oj.dst v h1]
      generalize (execOp a.eval oi).run P w = r at *
      cases r with
      | ok nx w' =>
        cases nx with
        | value u => exact hK _ a.defers _ h
        | skip => exact hK _ a.defers _ h
        | enter f args => exact Calls.mono h (fun e w'' he => by cases e with | returned u => exact hK _ a.defers _ he | panicked c => exact he.elim | outgrown => obtain ⟨a₀, w₀, hq⟩ := he; exact hq.elim)
        | row r' args => exact Rows.mono h (fun _ _ he => hK _ a.defers _ he)
        | defer d =>
          have := hK undef (d :: a.defers) _ h
          rw [← wd_put a oj.dst v] at this
          have e : (a.put oj.dst v).defers = a.defers := by cases oj.dst <;> rfl
          simp only [Oper.upon, e]
          exact this
        | _ => exact h.elim
      | halt x w' => cases x <;> exact h.elim
    · exact hq.elim
  · rename_i hw
    simp only [hw] at h
    exact hK _ a.defers _ h

theorem TS_quiet {j : Nat} {oj : Oper} {post : List Nat} (hj : ops[j]? = some oj) (hq : isQ ops j = true) : ∀ (pre : List Nat) (a : Act) (w : World), (∀ i ∈ pre, Free ops i j) → C w → TS P ops C Q (pre ++ j :: post) a w →
    ∃ v, YieldsIn P ops C oj v a ∧ TS P ops C Q (pre ++ post) (a.put oj.dst v) w
  | [], a, w, _, _, h => by
    rw [List.nil_append, TS, if_pos hq] at h
    obtain ⟨o, v, ho, hy, ht⟩ := h
    rw [hj] at ho
    cases ho
    exact ⟨v, hy, ht⟩
  | i :: pre, a, w, hf, hC, h => by
    obtain ⟨⟨oi, oj', hi, hj', h1, h2, s1, s2⟩, _, hnl⟩ := hf i (by simp)
    rw [hj] at hj'
    cases hj'
    have hrj : readB oj.op = true := by unfold isQ at hq; rw [hj] at hq; exact hq
    obtain ⟨_, hne, _⟩ := Oper.apart_spec h1
    rw [List.cons_append, TS] at h
    by_cases hqi : isQ ops i = true
    · rw [if_pos hqi] at h
      obtain ⟨o, vi, ho, hy, ht⟩ := h
      rw [hi] at ho
      cases ho
      obtain ⟨v, hyv, hts⟩ := TS_quiet hj hq pre _ w (fun k hk => hf k (by simp [hk])) hC ht
      refine ⟨v, (yields_unput h1 s2).1 hyv, ?_⟩
      rw [List.cons_append, TS, if_pos hqi]
      refine ⟨oi, vi, hi, (yields_unput h2 s1).2 hy, ?_⟩
      rw [← Act.put_comm a vi v hne]
      exact hts
    · rw [if_neg hqi, if_neg hnl] at h
      obtain ⟨u, ds', w', hC', ht'⟩ := wpOp_exists hi h
      obtain ⟨v, hyv, _⟩ := TS_quiet hj hq pre _ w' (fun k hk => hf k (by simp [hk])) hC' ht'
      have hya := yields_wd.1 ((yields_unput h1 s2).1 hyv)
      have key : wpOp P ops QF i (fun a' w' => C w' ∧ TS P ops C Q (pre ++ post) a' w') (a.put oj.dst v) w := by
        refine wpOp_reput hi h2 s1 ?_ h
        rintro u' ds1 w1 ⟨hC1, ht1⟩
        obtain ⟨v1, hy1, hts1⟩ := TS_quiet hj hq pre _ w1 (fun k hk => hf k (by simp [hk])) hC1 ht1
        have : v1 = v := yields_unique hC1 hrj (yields_wd.1 ((yields_unput h1 s2).1 hy1)) hya
        subst this
        refine ⟨hC1, ?_⟩
        rw [← Act.put_comm (wd a ds1) u' v1 hne]
        exact hts1
      refine ⟨v, hya, ?_⟩
      rw [List.cons_append, TS, if_neg hqi, if_neg hnl]
      exact key
/-- An operation that may come up now may be taken first. -/
theorem TS_first {j : Nat} {post : List Nat} (hjn : j < ops.size) : ∀ (pre : List Nat) (a : Act) (w : World), (∀ i ∈ pre, Free ops i j) → (isQ ops j = false → j + 1 = ops.size → pre = [] ∧ post = []) → C w → TS P ops C Q (pre ++ j :: post) a w →
    (isQ ops j = false ∧ pre ++ post = [] ∧ wpOp P ops Q j (fun a' w' => Q .normal a' w') a w) ∨ wpOp P ops QF j (fun a' w' => C w' ∧ TS P ops C Q (pre ++ post) a' w') a w := by
  intro pre a w hf hlast hC h
  obtain ⟨oj, hj⟩ : ∃ oj, ops[j]? = some oj := ⟨ops[j], Array.getElem?_eq_getElem hjn⟩
  cases hq : isQ ops j with
  | true =>
    obtain ⟨v, hy, ht⟩ := TS_quiet hj hq pre a w hf hC h
    have hrj : readB oj.op = true := by unfold isQ at hq; rw [hj] at hq; exact hq
    exact .inr (YieldsS.wpOp hj hy hrj hC ⟨hC, ht⟩)
  | false =>
    have hl := hlast hq
    clear hlast
    by_cases hpost : j + 1 = ops.size
    · obtain ⟨rfl, rfl⟩ := hl hpost
      rw [List.nil_append, TS, if_neg (by rw [hq]; simp), if_pos hpost] at h
      exact .inl ⟨rfl, rfl, h⟩
    · right
      clear hl
      induction pre generalizing a with
      | nil =>
        rw [List.nil_append, TS, if_neg (by rw [hq]; simp), if_neg hpost] at h
        exact h
      | cons i pre ih =>
        obtain ⟨⟨oi, oj', hi, hj', h1, h2, s1, s2⟩, hone, _⟩ := hf i (by simp)
        rw [hj] at hj'
        cases hj'
        have hqi : isQ ops i = true := by rcases hone with h | h; exact h; rw [hq] at h; cases h
        rw [List.cons_append, TS, if_pos hqi] at h
        obtain ⟨o, vi, ho, hy, ht⟩ := h
        rw [hi] at ho
        cases ho
        have := ih _ (fun k hk => hf k (by simp [hk])) ht
        refine wpOp_mono (fun a' w' h' => ?_) (wpOp_put hj h1 s1 s2 hy this)
        obtain ⟨hy', hC', ht'⟩ := h'
        refine ⟨hC', ?_⟩
        rw [List.cons_append, TS, if_pos hqi]
        exact ⟨oi, vi, hi, hy', ht'⟩

/-! All that must come ahead of an operation. -/
def okPair (ops : Array Oper) (i j : Nat) : Bool := (ahead ops ops.size [j]).contains i ||
  ((isQ ops i || isQ ops j) && match ops[i]?, ops[j]? with | some oi, some oj => oi.apart ops oj && oj.apart ops oi | _, _ => false)
def okT (ops : Array Oper) : Bool :=
  Region.noSelect ops && (List.range ops.size).all (fun j => (List.range j).all fun i => okPair ops i j) &&
  (List.range ops.size).all (fun j => match ops[j]? with | some o => o.after.all fun e => !Region.binds .any e || decide (e.on < j) | none => true) &&
  (isQ ops (ops.size - 1) || (List.range ops.size).all fun k => (ahead ops ops.size [ops.size - 1]).contains k)
def left (ops : Array Oper) (listed : Array Bool) : List Nat := (List.range ops.size).filter fun i => !listed.getD i true
theorem left_set {listed : Array Bool} {i : Nat} (hs : listed.size = ops.size) (hi : i < ops.size) : left ops (listed.setIfInBounds i true) = (left ops listed).filter (fun k => k != i) := by
  unfold left
  rw [List.filter_filter]
  apply List.filter_congr
  intro k hk
  by_cases hki : k = i
  · subst hki
    simp [Array.getD_eq_getD_getElem?, hs, hi]
  · have h1 := getD_set_ne (listed := listed) (i := i) (j := k) true (Ne.symm hki)
    rw [h1]
    simp [hki]
theorem nodup_filter {l pre post : List Nat} {i : Nat} (h : l.Nodup) (e : l = pre ++ i :: post) : l.filter (fun k => k != i) = pre ++ post := by
  subst e
  have h' := List.nodup_append.1 h
  have hi : i ∉ post := (List.nodup_cons.1 h'.2.1).1
  have hp : i ∉ pre := fun hm => h'.2.2 i hm i (by simp) rfl
  rw [List.filter_append, List.filter_cons, if_neg (by simp)]
  congr 1
  · refine List.filter_eq_self.2 fun k hk => ?_
    have : k ≠ i := fun e => hp (by rw [← e]; exact hk)
    simpa using this
  · refine List.filter_eq_self.2 fun k hk => ?_
    have : k ≠ i := fun e => hi (by rw [← e]; exact hk)
    simpa using this
theorem wpAny_of_TS (hok : okT ops = true) : ∀ (fuel : Nat) (listed : Array Bool) (a : Act) (w : World), listed.size = ops.size → (left ops listed).length = fuel → Clos ops listed → (fuel ≠ 0 → C w) → TS P ops C Q (left ops listed) a w → wpAny P .any ops Q fuel listed a w := by
  simp only [okT, Bool.and_eq_true] at hok
  obtain ⟨⟨⟨hns, hpair⟩, hdown⟩, hlast⟩ := hok
  have hsel := Region.noSelect_spec hns
  have rdy : ∀ listed : Array Bool, listed.size = ops.size → ∀ i, i ∈ Region.ready .any ops listed → i ∈ left ops listed := by
    intro listed hs i hi
    obtain ⟨h0, o, ho, _⟩ := mem_ready.1 hi
    unfold left
    rw [List.mem_filter, List.mem_range]
    exact ⟨(Array.getElem?_eq_some_iff.1 ho).1, by simp [h0]⟩
  intro fuel
  induction fuel with
  | zero =>
    intro listed a w hs hl hcl hC h
    have hnil : left ops listed = [] := List.eq_nil_of_length_eq_zero hl
    rw [hnil] at h
    refine ⟨?_, h⟩
    rw [List.eq_nil_iff_forall_not_mem]
    intro i hi
    have := rdy listed hs i hi
    rw [hnil] at this
    cases this
  | succ fuel ih =>
    intro listed a w hs hl hcl hC h
    replace hC := hC (by simp)
    refine ⟨fun h0 => ?_, fun j hj => ?_⟩
    · exfalso
      cases hL : left ops listed with
      | nil => rw [hL] at hl; cases hl
      | cons i l =>
        have hmem : i ∈ left ops listed := by rw [hL]; simp
        have hmem' := hmem
        unfold left at hmem
        rw [List.mem_filter, List.mem_range] at hmem
        have hall : ∀ k, k < i → listed.getD k false = true := by
          intro k hk
          have hks : k < ops.size := by omega
          cases hb : listed.getD k true with
          | true => simpa [Array.getD_eq_getD_getElem?, hs, hks] using hb
          | false =>
            have hkm : k ∈ left ops listed := by unfold left; rw [List.mem_filter, List.mem_range]; exact ⟨hks, by simp [hb]⟩
            have hsort : (left ops listed).Pairwise (· < ·) := List.Pairwise.sublist List.filter_sublist List.pairwise_lt_range
            rw [hL] at hkm hsort
            rcases List.mem_cons.1 hkm with e | e
            · omega
            · have := (List.pairwise_cons.1 hsort).1 k e; omega
        have : i ∈ Region.ready .any ops listed := by
          refine mem_ready.2 ⟨by simpa using hmem.2, ops[i], Array.getElem?_eq_getElem hmem.1, fun e he hb => ?_⟩
          have h3 := List.all_eq_true.1 hdown i (List.mem_range.2 hmem.1)
          rw [Array.getElem?_eq_getElem hmem.1] at h3
          have h4 := Array.all_eq_true'.1 h3 e he
          rw [hb] at h4
          exact hall e.on (by simpa using h4)
        rw [h0] at this
        cases this
    · obtain ⟨pre, post, hL⟩ := List.append_of_mem (rdy listed hs j hj)
      rw [hL] at h
      obtain ⟨_, oj, hoj, _⟩ := mem_ready.1 hj
      have hjs : j < ops.size := (Array.getElem?_eq_some_iff.1 hoj).1
      have hnd : (left ops listed).Nodup := List.Nodup.sublist List.filter_sublist List.nodup_range
      have hsort : (left ops listed).Pairwise (· < ·) := List.Pairwise.sublist List.filter_sublist List.pairwise_lt_range
      have hunl : ∀ i ∈ left ops listed, i < ops.size ∧ listed.getD i true = false := fun i hi => by
        unfold left at hi
        rw [List.mem_filter, List.mem_range] at hi
        exact ⟨hi.1, by simpa using hi.2⟩
      have hbehind : ∀ k, k ∈ ahead ops ops.size [j] → k = j ∨ listed.getD k false = true := ahead_spec hcl hj _ _ (by simp)
      have hfree : ∀ i ∈ pre, Free ops i j := by
        intro i hi
        have him : i ∈ left ops listed := by rw [hL]; simp [hi]
        obtain ⟨his, hun⟩ := hunl i him
        have hij : i < j := by rw [hL] at hsort; exact (List.pairwise_append.1 hsort).2.2 i hi j (by simp)
        have h3 := List.all_eq_true.1 (List.all_eq_true.1 hpair j (List.mem_range.2 hjs)) i (List.mem_range.2 hij)
        unfold okPair at h3
        simp only [Bool.or_eq_true, Bool.and_eq_true, Array.getElem?_eq_getElem his, Array.getElem?_eq_getElem hjs] at h3
        rcases h3 with h3 | ⟨h3, h4, h5⟩
        · exfalso
          rcases hbehind i (by simpa using h3) with e | e
          · omega
          · simp [Array.getD_eq_getD_getElem?, hs, his] at hun e
            rw [hun] at e; cases e
        · exact ⟨⟨_, _, Array.getElem?_eq_getElem his, Array.getElem?_eq_getElem hjs, h4, h5, fun cs b => hsel i _ cs b (Array.getElem?_eq_getElem his), fun cs b => hsel j _ cs b (Array.getElem?_eq_getElem hjs)⟩, h3, by omega⟩
      have hlst : isQ ops j = false → j + 1 = ops.size → pre = [] ∧ post = [] := by
        intro hq hje
        have hj1 : ops.size - 1 = j := by omega
        rw [hj1, hq, Bool.false_or] at hlast
        have all : ∀ i ∈ left ops listed, i = j := fun i hi => by
          obtain ⟨his, hun⟩ := hunl i hi
          rcases hbehind i (by simpa using List.all_eq_true.1 hlast i (List.mem_range.2 his)) with e | e
          · exact e
          · simp [Array.getD_eq_getD_getElem?, hs, his] at hun e
            rw [hun] at e; cases e
        rw [hL] at all hnd
        have h' := List.nodup_append.1 hnd
        constructor
        · cases pre with
          | nil => rfl
          | cons i pre => exact absurd (all i (by simp)) (h'.2.2 i (by simp) j (by simp))
        · cases post with
          | nil => rfl
          | cons i post =>
            have := all i (by simp)
            subst this
            exact absurd (by simp) (List.nodup_cons.1 h'.2.1).1
      have hset : left ops (listed.setIfInBounds j true) = pre ++ post := by rw [left_set hs hjs]; exact nodup_filter hnd hL
      have hlen : (pre ++ post).length = fuel := by have := hl; rw [hL] at this; simp at this ⊢; omega
      have hcl' := hcl.set hj
      rcases TS_first hjs pre a w hfree hlst hC h with ⟨_, he, hw⟩ | hw
      · refine wpOp_mono (fun a' w' h' => ih _ a' w' (by simpa using hs) (by rw [hset]; exact hlen) hcl' (fun hne => ?_) ?_) hw
        · rw [he] at hlen; exact absurd hlen.symm hne
        · rw [hset, he]; exact h'
      · exact wpOp_of_QF (fun a' w' h' => ih _ a' w' (by simpa using hs) (by rw [hset]; exact hlen) hcl' (fun _ => h'.1) (by rw [hset]; exact h'.2)) hw
end

section
variable {P : Program} {n : Nat} {ds : List Deferred} {Q : Po} {F : Fr} {ops : List Oper} {C : World → Prop} {w : World}
/-- The walk in the text's order: what only reads holds in every world of the class; each other operation but the last leaves a world of the class. -/
def Wt (P : Program) (n : Nat) (ds : List Deferred) (C : World → Prop) (Q : Po) (ops : List Oper) : List Oper → Fr → World → Prop
  | [], F, w => Q .normal F w
  | o :: l, F, w => if readB o.op = true then Wq P n ds C (fun F' => Wt P n ds C Q ops l F' w) ops [o] F
    else if l.isEmpty = true then Wl P n ds Q ops [o] F w else Wl P n ds (fun e F' w' => e = .normal ∧ C w' ∧ Wt P n ds C Q ops l F' w') ops [o] F w
theorem Wt.nil (h : Q .normal F w) : Wt P n ds C Q ops [] F w := h
theorem Wt.quiet {o : Oper} {l : List Oper} (hr : readB o.op = true) (h : Wq P n ds C (fun F' => Wt P n ds C Q ops l F' w) ops [o] F) : Wt P n ds C Q ops (o :: l) F w := by
  unfold Wt; rw [if_pos hr]; exact h
theorem Wt.chain {o o2 : Oper} {l : List Oper} (hr : readB o.op = false) (h : Wl P n ds (fun e F' w' => e = .normal ∧ C w' ∧ Wt P n ds C Q ops (o2 :: l) F' w') ops [o] F w) : Wt P n ds C Q ops (o :: o2 :: l) F w := by
  unfold Wt; rw [if_neg (by rw [hr]; simp), if_neg (by simp)]; exact h
theorem Wt.last {o : Oper} (hr : readB o.op = false) (h : Wl P n ds Q ops [o] F w) : Wt P n ds C Q ops [o] F w := by
  unfold Wt; rw [if_neg (by rw [hr]; simp), if_pos List.isEmpty_nil]; exact h
theorem Wt.guardY {o : Oper} {l : List Oper} {j : Nat} {b : Bool} (hg : o.guard = some (j, b)) (hy : yld ops n F j = some b) (h : Wt P n ds C Q ops ({ o with guard := none } :: l) F w) : Wt P n ds C Q ops (o :: l) F w := by
  unfold Wt at h ⊢
  split
  · rename_i hr
    rw [if_pos hr] at h
    exact Wq.guardY hg hy h
  · rename_i hr
    rw [if_neg hr] at h
    split
    · rename_i he; rw [if_pos he] at h; exact Wl.guardY hg hy h
    · rename_i he; rw [if_neg he] at h; exact Wl.guardY hg hy h
theorem Wt.guardN {op : Op} {d : Nat} {ty : TypeId} {pos : String} {aft : Array Edge} {l : List Oper} {j : Nat} {b c : Bool} (hy : yld ops n F j = some c) (hbc : (c == b) = false) (hC : C w) (h : Wt P n ds C Q ops l (upd F d undef) w) :
    Wt P n ds C Q ops (⟨some d, op, ty, pos, aft, some (j, b)⟩ :: l) F w := by
  unfold Wt
  split
  · exact Wq.guardN hy hbc (Wq.nil h)
  · split
    · rename_i he
      have : l = [] := by simpa using he
      subst this
      unfold Wt at h
      exact Wl.guardN hy hbc (Wl.nil h)
    · exact Wl.guardN hy hbc (Wl.nil ⟨rfl, hC, h⟩)
theorem TS_of_Wt : ∀ (l : List Oper) (k : Nat) (F : Fr) (w : World), (∀ j, l[j]? = ops[k + j]?) → Wt P n ds C Q ops l F w → TS P ops.toArray C (QA n ds Q) ((List.range l.length).map (k + ·)) (act n ds F) w
  | [], k, F, w, _, h => ⟨F, rfl, h⟩
  | o :: l, k, F, w, hl, h => by
    have h0 : ops[k]? = some o := by simpa using (hl 0).symm
    have h0' : ops.toArray[k]? = some o := by simpa using h0
    have hl' : ∀ j, l[j]? = ops[k + 1 + j]? := fun j => by have := hl (j + 1); simpa [Nat.add_assoc, Nat.add_comm 1 j] using this
    have e1 : (List.range (o :: l).length).map (k + ·) = k :: (List.range l.length).map (k + 1 + ·) := by
      rw [List.length_cons, List.range_succ_eq_map, List.map_cons, List.map_map, Nat.add_zero]
      congr 1
      apply List.map_congr_left
      intro j _
      show k + (j + 1) = k + 1 + j
      omega
    have hlen : (k + 1 = ops.toArray.size) ↔ l = [] := by
      have h2 := hl' 0
      constructor
      · intro e
        have hz : ops.toArray.size = ops.length := by simp
        have hz2 : ops.length ≤ k + 1 + 0 := by omega
        rw [List.getElem?_eq_none hz2] at h2
        cases l with
        | nil => rfl
        | cons _ _ => simp at h2
      · intro e
        subst e
        have hk := (List.getElem?_eq_some_iff.1 h0).1
        have : ops[k + 1 + 0]? = none := by rw [← h2]; rfl
        have := List.getElem?_eq_none_iff.1 this
        simp; omega
    have hq : isQ ops.toArray k = readB o.op := by unfold isQ; rw [h0']
    rw [e1, TS, hq]
    unfold Wt at h
    split
    · rename_i hr
      rw [if_pos hr] at h
      unfold Wq at h
      have hst : qOp P ops.toArray C k (fun a => ∃ F', a = act n ds F' ∧ Wt P n ds C Q ops l F' w) (act n ds F) := by unfold qOp; simp only [h0']; exact h
      obtain ⟨v, hy, F', hF, hw⟩ := yieldsIn_of_qOp h0' hst
      refine ⟨o, v, h0', hy, ?_⟩
      rw [hF]
      exact TS_of_Wt l (k + 1) F' w hl' hw
    · rename_i hr
      rw [if_neg hr] at h
      split
      · rename_i he
        have := hlen.1 he
        subst this
        rw [if_pos List.isEmpty_nil] at h
        exact wpOp_of_Wl h0 h
      · rename_i he
        rw [if_neg (by simpa using fun e => he (hlen.2 e))] at h
        refine wpOp_noQ ?_ ?_ (wpOp_of_Wl h0 h)
        · rintro e a' w' hne ⟨F', _, h', _⟩; exact hne h'
        · rintro a' w' ⟨F', rfl, _, hC, h'⟩
          exact ⟨hC, TS_of_Wt l (k + 1) F' w' hl' h'⟩
/-- A region that draws its order, by one walk in the text's order. -/
theorem Wc.regionT {rid : Nat} (hm : P.follows .mixedOrders = true) (hB : okT ops.toArray = true) (C : World → Prop) (hC : C w.drew) (h : ∀ w', New w w' → Wt P n ds C Q ops ops F w') : Wc P n ds Q (.region rid ops.toArray true) F w := by
  unfold Wc
  refine wp_region_any hm ?_
  have hleft : left ops.toArray (Array.replicate ops.toArray.size false) = (List.range ops.length).map (0 + ·) := by
    unfold left
    rw [show ((fun x => 0 + x) : Nat → Nat) = id from funext fun x => Nat.zero_add x, List.map_id]
    simp only [List.size_toArray]
    refine List.filter_eq_self.2 fun k hk => ?_
    have := List.mem_range.1 hk
    simp [Array.getD_eq_getD_getElem?, Array.getElem?_replicate, this]
  have h0 : Clos ops.toArray (Array.replicate ops.toArray.size false) := by
    intro j o hj
    exfalso
    simp only [Array.getD_eq_getD_getElem?, Array.getElem?_replicate] at hj
    split at hj <;> simp at hj
  refine wpAny_of_TS (C := C) hB _ _ _ _ (by simp) (by rw [hleft]; simp) h0 (fun _ => hC) ?_
  rw [hleft]
  exact TS_of_Wt ops 0 F w.drew (fun j => by rw [Nat.zero_add]) (h _ (Chg.drew _ _))
end
attribute [irreducible] Wt
end Go.Proofs.YtjaendlcijmifaaGreatDoor.Wk

namespace Go.Proofs.YtjaendlcijmifaaGreatDoor
open Go Wk
open Go.RowKit (Below)
attribute [local irreducible] Go.Calls

abbrev pT (b : Nat) : Value := .pointer (some ⟨b, 0, none⟩)
/-- A ring in memory, in blocks of its own. -/
structure RgAt (Pb : Nat → Prop) (w : World) (b : Nat) (t : Tr) (v : Value) (ring : List Ev) (old : Nat) : Prop where
  ok : TrOk t
  hb : Pb b
  bk : Bk w b 66 [vi t.size, v, vi old, .int .u64 t.gone]
  own : OwnS rEv 27 6 Pb (fun _ => False) w v ring
  ne : v.ownBlock ≠ some b
  kp : t.kept = ring.drop old ++ ring.take old
  lt : old < ring.length ∨ old = 0
  few : ring.length < t.size → old = 0
def Rg (Pb : Nat → Prop) (w : World) (b : Nat) (t : Tr) : Prop := ∃ v ring old, RgAt Pb w b t v ring old
theorem RgAt.len {Pb : Nat → Prop} {w : World} {b : Nat} {t : Tr} {v : Value} {ring : List Ev} {old : Nat} (h : RgAt Pb w b t v ring old) : t.kept.length = ring.length := by
  rw [h.kp, List.length_append, List.length_drop, List.length_take]
  have := h.lt; omega
theorem RgAt.chg {Pb M : Nat → Prop} {w w' : World} {b : Nat} {t : Tr} {v : Value} {ring : List Ev} {old : Nat} (h : RgAt Pb w b t v ring old) (c : Chg M w w') (hM : ∀ k, Pb k → ¬ M k) : RgAt Pb w' b t v ring old :=
  ⟨h.ok, h.hb, h.bk.chg c (hM b h.hb), h.own.chg (plain_flat _) c fun k hk => hM k (h.own.lt hk).1, h.ne, h.kp, h.lt, h.few⟩
theorem RgAt.new {Pb : Nat → Prop} {w w' : World} {b : Nat} {t : Tr} {v : Value} {ring : List Ev} {old : Nat} (h : RgAt Pb w b t v ring old) (n : New w w') : RgAt Pb w' b t v ring old := h.chg n fun _ _ e => e
theorem Rg.chg {Pb M : Nat → Prop} {w w' : World} {b : Nat} {t : Tr} (h : Rg Pb w b t) (c : Chg M w w') (hM : ∀ k, Pb k → ¬ M k) : Rg Pb w' b t := by obtain ⟨v, r, o, h⟩ := h; exact ⟨v, r, o, h.chg c hM⟩
theorem Rg.new {Pb : Nat → Prop} {w w' : World} {b : Nat} {t : Tr} (h : Rg Pb w b t) (n : New w w') : Rg Pb w' b t := h.chg n fun _ _ e => e
theorem Rg.ok {Pb : Nat → Prop} {w : World} {b : Nat} {t : Tr} (h : Rg Pb w b t) : TrOk t := by obtain ⟨v, r, o, h⟩ := h; exact h.ok
theorem Rg.mono {Pb Pb' : Nat → Prop} {w : World} {b : Nat} {t : Tr} (h : Rg Pb w b t) (hP : ∀ k, k < w.heap.size → Pb k → Pb' k) : Rg Pb' w b t := by
  obtain ⟨v, r, o, h⟩ := h
  exact ⟨v, r, o, h.ok, hP b h.bk.lt h.hb, h.bk, h.own.mono goodEv.mo hP (fun _ _ e => e), h.ne, h.kp, h.lt, h.few⟩
theorem wu {x : Int} (h0 : 0 ≤ x) (h1 : x < 18446744073709551616) : IntKind.u64.wrap x = x := wrap_u rfl h0 (by simpa [IntKind.bits] using h1)
theorem last_spec {Pb : Nat → Prop} {w : World} {b : Nat} {t : Tr} (h : Rg Pb w b t) : Calls Tryz.prog 22 #[pT b] w (Ret fun r w' => r = .int .u64 t.last ∧ New w w') := by
  obtain ⟨v, ring, old, h⟩ := h
  obtain ⟨a, cap, rfl, hc1, hc2⟩ := h.own.form
  have hlen := h.len
  have hl := h.ok.last
  have hs := h.ok.s1
  have hl2 := h.ok.len
  unfold Tr.last at hl
  refine calls_of_Wc Tryz.func22 rfl Tryz.ntmps22 rfl ?_
  (repeat' (first | refine Wl.assignE (by conv => { lhs; whnf }) ?_ | refine Wl.nil ?_ | refine Qseq.normal ?_ | refine Wc.seq ?_ | refine Wc.region ?_))
  refine Wc.regionN rfl (by kernel_rfl) ?_
  (repeat' (first | refine Wq.moveE (by conv => { lhs; whnf }) ?_ | refine Wq.nilP rfl ?_ | refine Wq.fieldAddr rfl rfl ?_))
  refine Wq.load1 rfl (fun w' n => (h.new n).bk.cell (o := 3) rfl) ?_
  (repeat' (first | refine Wq.moveE (by conv => { lhs; whnf }) ?_ | refine Wq.nilP rfl ?_ | refine Wq.fieldAddr rfl rfl ?_))
  refine Wq.load1 rfl (fun w' n => (h.new n).bk.cell (o := 1) rfl) ?_
  (repeat' (first | refine Wq.lenS rfl ?_ | refine Wq.convI rfl ?_))
  refine Wq.addW rfl rfl ?_
  (repeat' (first | refine Wq.assignE (by conv => { lhs; whnf }) ?_ | refine Wq.nil ?_))
  intro w1 n1
  (repeat' (first | refine Qseq.normal ?_ | refine Wc.ret ?_))
  refine Qfn.ret1 rfl rfl ⟨_, rfl, ?_, n1⟩
  show Value.int .u64 (IntKind.u64.wrap ((t.gone : Int) + IntKind.u64.wrap (ring.length : Int))) = _
  rw [wu (x := (ring.length : Int)) (by omega) (by omega), wu (by omega) (by omega)]
  unfold Tr.last
  rw [hlen]; rfl
theorem Tr.at_none {t : Tr} {id : Nat} (h : id ≤ t.gone ∨ t.last < id) : t.at id = none := if_pos h
theorem at_spec {Pb : Nat → Prop} {w : World} {b : Nat} {t : Tr} {v : Value} {ring : List Ev} {old : Nat} {id : Nat} (h : RgAt Pb w b t v ring old) (hid : id < 18446744073709551616) :
    Calls Tryz.prog 25 #[pT b, .int .u64 id] w (Ret fun r w' => (match t.at id with
      | none => r = .tuple #[vi 0, .bool false]
      | some k => ∃ j : Nat, r = .tuple #[vi j, .bool true] ∧ j < ring.length ∧ ring[j]? = t.kept[k]?) ∧ New w w') := by
  obtain ⟨a, cap, rfl, hc1, hc2⟩ := h.own.form
  have hlen := h.len
  have hl := h.ok.last
  have hs := h.ok.s1
  have hl2 := h.ok.len
  have hlt := h.lt
  unfold Tr.last at hl
  refine calls_of_Wc Tryz.func25 rfl Tryz.ntmps25 rfl ?_
  (repeat' (first | refine Wl.moveE (by conv => { lhs; whnf }) ?_ | refine Wl.assignE (by conv => { lhs; whnf }) ?_ | refine Wl.nil ?_ | refine Qseq.normal ?_ | refine Wc.seq ?_ | refine Wc.region ?_ | refine Wl.nilP rfl ?_ | refine Wl.fieldAddr rfl rfl ?_))
  refine Wl.load1 rfl (h.bk.cell (o := 3) rfl) ?_
  (repeat' (first | refine Wl.moveE (by conv => { lhs; whnf }) ?_ | refine Wl.assignE (by conv => { lhs; whnf }) ?_ | refine Wl.nil ?_ | refine Wl.guardY rfl rfl ?_ | refine Wl.guardN rfl rfl ?_ | refine Wl.pickTE rfl (by conv => { lhs; whnf }) ?_ | refine Qseq.normal ?_ | refine Wc.seq ?_ | refine Wc.region ?_ | refine Wc.ret ?_ | refine Qseq.ret ?_ | refine Wc.condT rfl ?_ | refine Wl.leq rfl rfl (fun _ => ?_) (fun _ => ?_)))
  · refine Qfn.ret2 rfl rfl rfl ⟨_, rfl, ?_, Chg.refl _ _⟩
    rw [Tr.at_none (.inl (by omega))]; rfl
  · refine Wl.call (last_spec ⟨_, _, _, h⟩) rfl ?_
    rintro _ w1 ⟨rfl, n1⟩
    have h1 := h.new n1
    (repeat' (first | refine Wl.assignE (by conv => { lhs; whnf }) ?_ | refine Wl.nil ?_ | refine Wl.guardY rfl rfl ?_ | refine Wl.pickFE rfl (by conv => { lhs; whnf }) ?_ | refine Qseq.normal ?_ | refine Wc.seq ?_ | refine Wc.region ?_ | refine Wc.skip ?_ | refine Wc.ret ?_ | refine Qseq.ret ?_ | refine Wc.condT rfl ?_ | refine Wc.condF rfl ?_ | refine Wl.gtr rfl rfl (fun _ => ?_) (fun _ => ?_)))
    · refine Qfn.ret2 rfl rfl rfl ⟨_, rfl, ?_, n1⟩
      rw [Tr.at_none (.inr (by omega))]; rfl
    · have hg : t.gone < id := by omega
      have hle : id ≤ t.last := by omega
      have e : t.at id = some (id - t.gone - 1) := if_neg (by omega)
      rw [e]
      clear e
      unfold Tr.last at hle
      obtain ⟨k, hk⟩ : ∃ k, id = t.gone + k + 1 := ⟨id - t.gone - 1, by omega⟩
      subst hk
      rw [show t.gone + k + 1 - t.gone - 1 = k by omega]
      refine Wc.regionN rfl (by kernel_rfl) ?_
      (repeat' (first | refine Wq.moveE (by conv => { lhs; whnf }) ?_ | refine Wq.nilP rfl ?_ | refine Wq.fieldAddr rfl rfl ?_))
      refine Wq.load1 rfl (fun w' n => (h1.new n).bk.cell (o := 2) rfl) ?_
      (repeat' (first | refine Wq.moveE (by conv => { lhs; whnf }) ?_ | refine Wq.nilP rfl ?_ | refine Wq.fieldAddr rfl rfl ?_))
      refine Wq.load1 rfl (fun w' n => (h1.new n).bk.cell (o := 3) rfl) ?_
      skip
      refine Wq.subW rfl rfl ?_
      rw [show ((t.gone + k + 1 : Nat) : Int) - (t.gone : Int) = ((k + 1 : Nat) : Int) by omega, wu (by omega) (by omega)]
      refine Wq.subW rfl rfl ?_
      rw [show ((k + 1 : Nat) : Int) - 1 = ((k : Nat) : Int) by omega, wu (by omega) (by omega)]
      refine Wq.convI rfl ?_
      rw [wrap64_id (by omega) (by omega)]
      (repeat' (first | refine Wq.moveE (by conv => { lhs; whnf }) ?_ | refine Wq.nilP rfl ?_ | refine Wq.fieldAddr rfl rfl ?_ | refine Wq.add rfl rfl (by omega) (by omega) ?_))
      refine Wq.load1 rfl (fun w' n => (h1.new n).bk.cell (o := 1) rfl) ?_
      (repeat' (refine Wq.lenS rfl ?_))
      refine Wq.remW rfl rfl (by omega) ?_
      rw [show ((old : Int) + (k : Int)).tmod (ring.length : Int) = (((old + k) % ring.length : Nat) : Int) by
        rw [Int.tmod_eq_emod_of_nonneg (by omega), ← Int.natCast_add, ← Int.natCast_emod]]
      (repeat' (first | refine Wq.assignE (by conv => { lhs; whnf }) ?_ | refine Wq.nil ?_))
      intro w2 n2
      have n12 := n1.trans n2
      (repeat' (first | refine Qseq.normal ?_ | refine Wc.ret ?_))
      refine Qfn.ret2 rfl rfl rfl ⟨_, rfl, ⟨(old + k) % ring.length, rfl, Nat.mod_lt _ (by omega), ?_⟩, n12⟩
      rw [h.kp]
      rcases Nat.lt_or_ge (old + k) ring.length with h3 | h3
      · rw [Nat.mod_eq_of_lt h3, List.getElem?_append_left (by rw [List.length_drop]; omega), List.getElem?_drop]
      · have e2 : (old + k) % ring.length = old + k - ring.length := by rw [Nat.mod_eq_sub_mod h3, Nat.mod_eq_of_lt (by omega)]
        rw [e2, List.getElem?_append_right (by rw [List.length_drop]; omega), List.length_drop, List.getElem?_take, if_pos (by omega)]
        congr 1; omega
theorem New_spec {w : World} {n : Int} : Calls Tryz.prog 16 #[vi n] w (Ret fun r w' => ((n < 1 ∨ 4096 < n) ∧ r = .tuple #[.pointer none, vi 1] ∧ w = w' ∨ 1 ≤ n ∧ n ≤ 4096 ∧ ∃ b, r = .tuple #[pT b, vi 0] ∧ Rg (fun k => w.heap.size ≤ k) w' b ⟨n.toNat, 0, []⟩) ∧ New w w') := by
  refine calls_of_Wc Tryz.func16 rfl Tryz.ntmps16 rfl ?_
  (repeat' (first | refine Wl.moveE (by conv => { lhs; whnf }) ?_ | refine Wl.assignE (by conv => { lhs; whnf }) ?_ | refine Wl.nil ?_ | refine Wl.guardY rfl rfl ?_ | refine Wl.guardN rfl rfl ?_ | refine Wl.pickTE rfl (by conv => { lhs; whnf }) ?_ | refine Wl.pickFE rfl (by conv => { lhs; whnf }) ?_ | refine Qseq.normal ?_ | refine Wc.seq ?_ | refine Wc.region ?_ | refine Wc.skip ?_ | refine Wc.ret ?_ | refine Qseq.ret ?_ | refine Wc.condT rfl ?_ | refine Wc.condF rfl ?_ | refine Wl.lss rfl rfl (fun _ => ?_) (fun _ => ?_) | refine Wl.gtr rfl rfl (fun _ => ?_) (fun _ => ?_)))
  · exact Qfn.ret2 rfl rfl rfl ⟨_, rfl, .inl ⟨.inl (by omega), rfl, rfl⟩, Chg.refl _ _⟩
  · exact Qfn.ret2 rfl rfl rfl ⟨_, rfl, .inl ⟨.inr (by omega), rfl, rfl⟩, Chg.refl _ _⟩
  · refine Wl.buildG (u := .agg #[vi n, .slice none 0 0, vi 0, .int .u64 0]) rfl (by kernel_rfl) ?_
    skip
    refine Wl.box rfl fun w1 b1 n1 s1 => ?_
    (repeat' (first | refine Wl.assignE (by conv => { lhs; whnf }) ?_ | refine Wl.nil ?_ | refine Qseq.normal ?_ | refine Wc.ret ?_))
    refine Qfn.ret2 rfl rfl rfl ⟨_, rfl, .inr ⟨by omega, by omega, w.heap.size, rfl, .slice none 0 0, [], 0, TrOk.new (by omega) (by omega), Nat.le_refl _, ?_, OwnS.nil, (fun e => by cases e), rfl, .inr rfl, fun _ => rfl⟩, n1⟩
    rw [show ((n.toNat : Nat) : Int) = n by omega]
    exact b1
theorem Lost_spec {Pb : Nat → Prop} {w : World} {b : Nat} {t : Tr} (h : Rg Pb w b t) : Calls Tryz.prog 13 #[pT b] w (Ret fun r w' => r = .int .u64 t.gone ∧ w = w') := by
  obtain ⟨v, ring, old, h⟩ := h
  refine calls_of_Wc Tryz.func13 rfl Tryz.ntmps13 rfl ?_
  (repeat' (first | refine Wl.moveE (by conv => { lhs; whnf }) ?_ | refine Wl.assignE (by conv => { lhs; whnf }) ?_ | refine Wl.nil ?_ | refine Qseq.normal ?_ | refine Wc.seq ?_ | refine Wc.region ?_))
  refine Wl.peqNil rfl rfl ?_
  (repeat' (first | refine Wl.moveE (by conv => { lhs; whnf }) ?_ | refine Wl.nil ?_ | refine Qseq.normal ?_ | refine Wc.seq ?_ | refine Wc.region ?_ | refine Wc.skip ?_ | refine Wc.condF rfl ?_ | refine Wl.nilP rfl ?_ | refine Wl.fieldAddr rfl rfl ?_))
  refine Wl.load1 rfl (h.bk.cell (o := 3) rfl) ?_
  (repeat' (first | refine Wl.assignE (by conv => { lhs; whnf }) ?_ | refine Wl.nil ?_ | refine Qseq.normal ?_ | refine Wc.ret ?_))
  exact Qfn.ret1 rfl rfl ⟨_, rfl, rfl, rfl⟩
theorem Get_spec {Pb : Nat → Prop} {w : World} {b : Nat} {t : Tr} {id : Nat} (h : Rg Pb w b t) (hid : id < 18446744073709551616) :
    Calls Tryz.prog 10 #[pT b, .int .u64 id] w (Ret fun r w' => (match t.get id with
      | none => r = .tuple #[evV ev0, vi 6]
      | some x => r = .tuple #[evV x, vi 0]) ∧ New w w') := by
  obtain ⟨v, ring, old, h⟩ := h
  obtain ⟨a, cap, rfl, hc1, hc2⟩ := h.own.form
  refine calls_of_Wc Tryz.func10 rfl Tryz.ntmps10 rfl ?_
  (repeat' (first | refine Wc.seq ?_ | refine Wc.region ?_))
  refine Wl.alloc fun w1 b1 n1 s1 => ?_
  replace b1 : Bk w1 w.heap.size 27 (evC ev0) := b1
  (repeat' (first | refine Wl.moveE (by conv => { lhs; whnf }) ?_ | refine Wl.assignE (by conv => { lhs; whnf }) ?_ | refine Wl.nil ?_ | refine Qseq.normal ?_ | refine Wc.seq ?_ | refine Wc.region ?_))
  refine Wl.peqNil rfl rfl ?_
  (repeat' (first | refine Wl.moveE (by conv => { lhs; whnf }) ?_ | refine Wl.nil ?_ | refine Qseq.normal ?_ | refine Wc.seq ?_ | refine Wc.region ?_ | refine Wc.skip ?_ | refine Wc.condF rfl ?_))
  refine Wl.call (at_spec (h.new n1) hid) rfl ?_
  rintro _ w2 ⟨hr, n2⟩
  have n12 := n1.trans n2
  have b2 := b1.chg n2 (fun e => e)
  cases hk : t.at id with
  | none =>
    rw [hk] at hr
    obtain rfl := hr
    have hg : t.get id = none := by unfold Tr.get; rw [hk]; rfl
    (repeat' (first | refine Wl.moveE (by conv => { lhs; whnf }) ?_ | refine Wl.assignE (by conv => { lhs; whnf }) ?_ | refine Wl.nil ?_ | refine Wl.extract rfl rfl ?_ | refine Wl.notB rfl ?_ | refine Qseq.normal ?_ | refine Wc.seq ?_ | refine Wc.region ?_ | refine Wc.condT rfl ?_))
    refine Wl.buildG (u := evV ev0) rfl (by kernel_rfl) ?_
    skip
    refine Wl.storeB (o := 0) (new := evC ev0) b2 rfl rfl rfl rfl (by decide) (evC_one _) fun w3 b3 c3 s3 => ?_
    (repeat' (first | refine Wl.assignE (by conv => { lhs; whnf }) ?_ | refine Wl.nil ?_ | refine Qseq.normal ?_ | refine Wc.ret ?_ | refine Qseq.ret ?_))
    refine Qfn.retR (results2 rfl (rvOf_agg (e := 27) rfl rfl b3 rfl) (rvOf_tmp rfl)) ⟨_, rfl, ?_, Chg.trans n12 c3 fun k hk e => by omega⟩
    rw [hg]; rfl
  | some k =>
    rw [hk] at hr
    obtain ⟨j, rfl, hj, he⟩ := hr
    obtain ⟨x, hx⟩ := get_lt ring hj
    have hg : t.get id = some x := by unfold Tr.get; rw [hk]; exact he.symm.trans hx
    have h2 := h.new n12
    (repeat' (first | refine Wl.moveE (by conv => { lhs; whnf }) ?_ | refine Wl.assignE (by conv => { lhs; whnf }) ?_ | refine Wl.nil ?_ | refine Wl.extract rfl rfl ?_ | refine Wl.notB rfl ?_ | refine Qseq.normal ?_ | refine Wc.seq ?_ | refine Wc.region ?_ | refine Wc.skip ?_ | refine Wc.condF rfl ?_ | refine Wl.nilP rfl ?_ | refine Wl.fieldAddr rfl rfl ?_))
    refine Wl.load1 rfl (h2.bk.cell (o := 1) rfl) ?_
    (repeat' (refine Wl.moveE (by conv => { lhs; whnf }) ?_))
    refine Wl.idxAddr (h2.own.rd goodEv.mo) rfl rfl (by omega) (by rw [Int.toNat_natCast]; exact hx) fun bb o cs hl hR hat => ?_
    obtain rfl : cs = evC x := hR
    refine Wl.loadAt hat rfl rfl ?_
    refine Wl.storeB (o := 0) (new := evC x) b2 rfl rfl rfl rfl (Nat.le_refl 6) (evC_one _) fun w3 b3 c3 s3 => ?_
    (repeat' (first | refine Wl.assignE (by conv => { lhs; whnf }) ?_ | refine Wl.nil ?_ | refine Qseq.normal ?_ | refine Wc.ret ?_))
    refine Qfn.retR (results2 rfl (rvOf_agg (e := 27) rfl rfl b3 rfl) (rvOf_tmp rfl)) ⟨_, rfl, ?_, Chg.trans n12 c3 fun k hk e => by omega⟩
    rw [hg]; rfl
end Go.Proofs.YtjaendlcijmifaaGreatDoor

namespace Go.Proofs.YtjaendlcijmifaaGreatDoor
open Go Wk
open Go.RowKit (Below)
attribute [local irreducible] Go.Calls

section
variable {P : Program} {n : Nat} {ds : List Deferred} {Q : Po} {F : Fr} {w : World} {ops rest : List Oper} {d : Nat} {ty : TypeId} {pos : String} {aft : Array Edge}
theorem Wk.Wl.maxI {x y : Operand} {ts : Array TypeId} {k k' : IntKind} {a b : Int} (hx : ev n F x = .int k a) (hy : ev n F y = .int k' b) (c : Wl P n ds Q ops rest (upd F d (.int k (if b > a then b else a))) w) :
    Wl P n ds Q ops (⟨some d, .call { callee := .builtin .max, args := #[x, y], argTypes := ts }, ty, pos, aft, none⟩ :: rest) F w := by
  refine Wl.val (w' := w) ?_ c
  have hr : (Builtin.max_ ts ty #[.int k a, .int k' b]).run P w = .ok (.int k (if b > a then b else a)) w := run_max_int2 _ _ _ _ _ _ _
  simp only [execOp, resolve, Sem.run_bind, Sem.run_pure, Result.andThen_ok, invoke, builtin, List.map_toArray, List.map_cons, List.map_nil, hx, hy, hr]
end
theorem put_set {ring : List Ev} {old n : Nat} {x : Ev} (hl : ring.length = n) (ho : old < n) : (ring.drop old ++ ring.take old).drop 1 ++ [x] = (ring.set old x).drop ((old + 1) % n) ++ (ring.set old x).take ((old + 1) % n) := by
  subst hl
  have h1 : (ring.drop old ++ ring.take old).drop 1 = ring.drop (old + 1) ++ ring.take old := by
    rw [List.drop_append_of_le_length (by rw [List.length_drop]; omega), List.drop_drop]
  have h2 : (ring.set old x).take (old + 1) = ring.take old ++ [x] := by
    rw [List.take_add_one, List.getElem?_set_self ho, List.take_set_of_le (Nat.le_refl _)]; rfl
  have h3 : (ring.set old x).drop (old + 1) = ring.drop (old + 1) := by rw [List.drop_set, if_pos (by omega)]
  rw [h1]
  rcases Nat.lt_or_ge (old + 1) ring.length with h | h
  · rw [Nat.mod_eq_of_lt h, h3, h2, List.append_assoc]
  · have e : old + 1 = ring.length := by omega
    rw [e, Nat.mod_self, List.drop_zero, List.take_zero, List.append_nil, List.drop_of_length_le (Nat.le_refl _), List.nil_append, ← h2, e, List.take_of_length_le (by simp)]
set_option maxHeartbeats 1000000 in
theorem put_spec {Pb : Nat → Prop} {w : World} {b : Nat} {t : Tr} {x : Ev} (h : Rg Pb w b t) (hok : TrOk (t.put x)) :
    Calls Tryz.prog 26 #[pT b, evV x] w (Ret fun r w' => Rg (fun k => Pb k ∨ w.heap.size ≤ k) w' b (t.put x) ∧ Chg Pb w w') := by
  obtain ⟨v, ring, old, h⟩ := h
  have hlen := h.len
  have hs := h.ok.s1
  have hs0 := h.ok.s0
  have hl2 := h.ok.len
  have hlt := h.lt
  have hfew := h.few
  have hgl := h.ok.last
  unfold Tr.last at hgl
  obtain ⟨a, cap, hv, hc1, hc2⟩ := h.own.form
  refine calls_of_Wc Tryz.func26 rfl Tryz.ntmps26 rfl ?_
  (repeat' (first | refine Wc.seq ?_ | refine Wc.region ?_))
  refine Wl.box rfl fun w1 b1 n1 s1 => ?_
  replace b1 : Bk w1 w.heap.size 27 (evC x) := b1
  have h1 := h.new n1
  have hblt := h.bk.lt
  have hvlt : ∀ k, v.ownBlock = some k → Pb k ∧ k < w.heap.size := fun k hk => h.own.lt hk
  have hne := h.ne
  (repeat' (first | refine Wl.nil ?_ | refine Qseq.normal ?_ | refine Wc.seq ?_))
  refine Wc.regionN rfl (by kernel_rfl) ?_
  (repeat' (first | refine Wq.moveE (by conv => { lhs; whnf }) ?_ | refine Wq.nilP rfl ?_ | refine Wq.fieldAddr rfl rfl ?_))
  refine Wq.load1 rfl (fun w' n => (h1.new n).bk.cell (o := 1) (u := .slice a ring.length cap) (by rw [hv]; rfl)) ?_
  (repeat' (first | refine Wq.moveE (by conv => { lhs; whnf }) ?_ | refine Wq.lenS rfl ?_ | refine Wq.nilP rfl ?_ | refine Wq.fieldAddr rfl rfl ?_))
  refine Wq.load1 rfl (fun w' n => (h1.new n).bk.cell (o := 0) rfl) ?_
  (repeat' (first | refine Wq.nil ?_ | refine Wq.lss rfl rfl (fun _ => ?_) (fun _ => ?_)))
  · intro w2 n2
    have h2 := h1.new n2
    have b2 := b1.chg n2 (fun e => e)
    have n02 := n1.trans n2
    have s02 := n02.size
    clear h1 b1 n1 n2 h
    have hold : old = 0 := hfew (by omega)
    subst hold
    have ep : t.put x = ⟨t.size, t.gone, t.kept ++ [x]⟩ := by unfold Tr.put; rw [if_pos (by omega)]
    (repeat' (first | refine Qseq.normal ?_ | refine Wc.seq ?_ | refine Wc.condT rfl ?_))
    refine Wc.regionT rfl (by kernel_rfl) (fun w' => Chg (fun k => v.ownBlock = some k) w2 w') (Chg.drew _ _) ?_
    intro w3 n3
    have bk : ∀ w', Chg (fun k => v.ownBlock = some k) w2 w' → Bk w' b 66 [vi t.size, v, vi (0 : Nat), .int .u64 t.gone] := fun w' c => h2.bk.chg c hne
    have bx : ∀ w', Chg (fun k => v.ownBlock = some k) w2 w' → Bk w' w.heap.size 27 (evC x) := fun w' c => b2.chg c fun e => by have := (hvlt _ e).2; omega
    (repeat' (first | refine Wt.quiet rfl (Wq.moveE (by conv => { lhs; whnf }) (Wq.nil ?_)) | refine Wt.quiet rfl (Wq.nilP rfl (Wq.nil ?_)) | refine Wt.quiet rfl (Wq.fieldAddr rfl rfl (Wq.nil ?_))))
    refine Wt.quiet rfl (Wq.load1 rfl (fun w' c => (bk w' c).cell (o := 1) rfl) (Wq.nil ?_))
    refine Wt.quiet rfl (Wq.loadAt (fun w' c => (bx w' c).at) rfl rfl (Wq.nil ?_))
    have h3 := h2.new n3
    refine Wt.chain rfl (Wl.buildSlice1 (R := rEv) (Pe := fun _ => False) (y := x) goodEv rfl rfl rfl rfl (by omega) (by omega) fun v4 w4 o4 n4 s4 e4 => ?_)
    have n34 := n3.trans n4
    have h4 := h3.new n4
    refine Wl.nil ⟨rfl, n34.any, ?_⟩
    refine Wt.chain rfl (Wl.appendAll (R := rEv) goodEv h4.own (o4.rd goodEv.mo) (fun y cs hy => hy) rfl rfl (by omega) (by simp only [maxLen, List.length_singleton]; omega) (by simp only [List.length_singleton]; omega) fun v5 w5 o5 c5 lie _ => ?_)
    have c25 : Chg (fun k => v.ownBlock = some k) w2 w5 := Chg.trans n34.any c5 fun k _ e => e
    refine Wl.nil ⟨rfl, c25, ?_⟩
    have bk5 := bk w5 c25
    (repeat' (first | refine Wt.quiet rfl (Wq.nilP rfl (Wq.nil ?_)) | refine Wt.quiet rfl (Wq.fieldAddr rfl rfl (Wq.nil ?_))))
    refine Wt.last rfl (Wl.store1 bk5 rfl (by simp) rfl (by obtain ⟨_, _, rfl, _⟩ := o5.form; rfl) fun w6 b6 c6 => ?_)
    have s24 := n34.size
    have s5 := c5.size
    have hv5 : ∀ k, v5.ownBlock = some k → k ≠ b := by
      intro k hk
      rcases lie with lie | lie
      · rw [lie] at hk; exact fun e => hne (e ▸ hk)
      · have := lie k hk; omega
    have c26 : Chg (fun k => v.ownBlock = some k ∨ k = b) w2 w6 := Chg.trans (c25.mono fun _ _ e => .inl e) c6 fun _ _ e => .inr e
    have cf : Chg Pb w w6 := Chg.trans n02.any c26 fun k hk e => by
      rcases e with e | rfl
      · exact (hvlt k e).1
      · exact h2.hb
    (repeat' (first | refine Wl.nil ?_ | refine Qseq.normal ?_ | refine Wc.ret ?_ | refine Qseq.ret ?_))
    refine Qfn.ret0 rfl ⟨_, rfl, ⟨v5, ring ++ [x], 0, hok, .inl h2.hb, ?_, ?_, fun e => hv5 b e rfl, ?_, .inr rfl, fun _ => rfl⟩, cf⟩
    · rw [ep]; exact b6
    · exact (o5.chg (plain_flat _) c6 fun k hk e => hv5 k hk e).mono goodEv.mo (fun k _ hk => by rcases hk with hk | hk; exact .inl hk; exact .inr (by omega)) fun _ _ e => e
    · rw [ep, h2.kp]; simp
  · intro w2 n2
    have h2 := h1.new n2
    have b2 := b1.chg n2 (fun e => e)
    have n02 := n1.trans n2
    have s02 := n02.size
    clear h1 b1 n1 n2 h
    have hsz : ring.length = t.size := by omega
    have ho : old < t.size := by omega
    have ep : t.put x = ⟨t.size, t.gone + 1, t.kept.drop 1 ++ [x]⟩ := by unfold Tr.put; rw [if_neg (by omega)]
    obtain ⟨g, cg, hvg, hPg, hglt, hob⟩ := h2.own.blk (fun e => by rw [e] at hsz; simp at hsz; omega)
    have hgb : g ≠ b := fun e => hne (e ▸ hob)
    (repeat' (first | refine Qseq.normal ?_ | refine Wc.seq ?_ | refine Wc.skip ?_ | refine Wc.condF rfl ?_))
    refine Wc.regionT rfl (by kernel_rfl) (New w2) (Chg.drew _ _) ?_
    intro w3 n3
    (repeat' (first | refine Wt.quiet rfl (Wq.moveE (by conv => { lhs; whnf }) (Wq.nil ?_)) | refine Wt.quiet rfl (Wq.nilP rfl (Wq.nil ?_)) | refine Wt.quiet rfl (Wq.fieldAddr rfl rfl (Wq.nil ?_))))
    refine Wt.quiet rfl (Wq.load1 rfl (fun w' c => (h2.new c).bk.cell (o := 1) (u := .slice (some ⟨g, 0, none⟩) ring.length cg) (by rw [hvg]; rfl)) (Wq.nil ?_))
    (repeat' (first | refine Wt.quiet rfl (Wq.moveE (by conv => { lhs; whnf }) (Wq.nil ?_)) | refine Wt.quiet rfl (Wq.nilP rfl (Wq.nil ?_)) | refine Wt.quiet rfl (Wq.fieldAddr rfl rfl (Wq.nil ?_))))
    refine Wt.quiet rfl (Wq.load1 rfl (fun w' c => (h2.new c).bk.cell (o := 2) rfl) (Wq.nil ?_))
    refine Wt.quiet rfl (Wq.loadAt (fun w' c => (b2.chg c (fun e => e)).at) rfl rfl (Wq.nil ?_))
    refine Wt.quiet rfl (Wq.idxP rfl rfl (by omega) (by omega) (Wq.nil ?_))
    have h3 := h2.new n3
    refine Wt.last rfl (Wl.storeOwnA (f := evC) (q := x) (j := old) (cap := cg) (fun _ => rfl) evC_one h3.own hvg (by omega) (by show Value.pointer _ = _; rw [Int.toNat_natCast, Nat.zero_add]) rfl rfl fun w4 o4 c4 => ?_)
    have s3 := n3.size
    have s4 := c4.size
    have b4 := h3.bk.chg c4 hne
    (repeat' (first | refine Wl.nil ?_ | refine Qseq.normal ?_ | refine Wc.seq ?_))
    refine Wc.regionT rfl (by kernel_rfl) (New w4) (Chg.drew _ _) ?_
    intro w5 n5
    have b5 := fun w' (c : New w4 w') => b4.chg c (fun e => e)
    (repeat' (first | refine Wt.quiet rfl (Wq.moveE (by conv => { lhs; whnf }) (Wq.nil ?_)) | refine Wt.quiet rfl (Wq.nilP rfl (Wq.nil ?_)) | refine Wt.quiet rfl (Wq.fieldAddr rfl rfl (Wq.nil ?_))))
    refine Wt.quiet rfl (Wq.load1 rfl (fun w' c => (b5 w' c).cell (o := 2) rfl) (Wq.nil ?_))
    (repeat' (first | refine Wt.quiet rfl (Wq.moveE (by conv => { lhs; whnf }) (Wq.nil ?_)) | refine Wt.quiet rfl (Wq.nilP rfl (Wq.nil ?_)) | refine Wt.quiet rfl (Wq.fieldAddr rfl rfl (Wq.nil ?_)) | refine Wt.quiet rfl (Wq.add rfl rfl (by omega) (by omega) (Wq.nil ?_))))
    refine Wt.quiet rfl (Wq.load1 rfl (fun w' c => (b5 w' c).cell (o := 0) rfl) (Wq.nil ?_))
    refine Wt.quiet rfl (Wq.remW rfl rfl (by omega) (Wq.nil ?_))
    rw [show ((old : Int) + 1).tmod (t.size : Int) = (((old + 1) % t.size : Nat) : Int) by
      rw [Int.tmod_eq_emod_of_nonneg (by omega), Int.natCast_emod]; rfl]
    (repeat' (first | refine Wt.quiet rfl (Wq.nilP rfl (Wq.nil ?_)) | refine Wt.quiet rfl (Wq.fieldAddr rfl rfl (Wq.nil ?_))))
    refine Wt.last rfl (Wl.store1 (b5 w5 n5) rfl (by simp) rfl rfl fun w6 b6 c6 => ?_)
    (repeat' (first | refine Wl.moveE (by conv => { lhs; whnf }) ?_ | refine Wl.nil ?_ | refine Qseq.normal ?_ | refine Wc.region ?_ | refine Wl.nilP rfl ?_ | refine Wl.fieldAddr rfl rfl ?_))
    refine Wl.load1 rfl (b6.cell (o := 3) rfl) ?_
    refine Wl.addW rfl rfl ?_
    (repeat' (first | refine Wl.nilP rfl ?_ | refine Wl.fieldAddr rfl rfl ?_))
    refine Wl.store1 b6 rfl (by simp) rfl rfl fun w7 b7 c7 => ?_
    rw [show (t.gone : Int) + 1 = ((t.gone + 1 : Nat) : Int) by omega, wu (by omega) (by omega)] at b7
    have s5 := n5.size
    have s6 := c6.size
    have c27 : Chg (fun k => v.ownBlock = some k ∨ k = b) w2 w7 := Chg.trans (Chg.trans (Chg.trans (Chg.trans n3.any (c4.mono fun _ _ e => .inl e) fun _ _ e => e) n5.any fun _ _ e => e) (c6.mono fun _ _ e => .inr e) fun _ _ e => e) (c7.mono fun _ _ e => .inr e) fun _ _ e => e
    have cf : Chg Pb w w7 := Chg.trans n02.any c27 fun k hk e => by
      rcases e with e | rfl
      · exact (hvlt k e).1
      · exact h2.hb
    have o7 := ((o4.chg (plain_flat _) n5 fun k hk e => e).chg (plain_flat _) c6 fun k hk e => hne (e ▸ hk)).chg (plain_flat _) c7 fun k hk e => hne (e ▸ hk)
    have hmod := Nat.mod_lt (old + 1) (show 0 < t.size by omega)
    (repeat' (refine Wl.nil ?_))
    refine Qfn.end0 rfl ⟨_, rfl, ⟨v, ring.set old x, (old + 1) % t.size, hok, .inl h2.hb, ?_, o7.mono goodEv.mo (fun k _ hk => .inl hk) (fun _ _ e => e), hne, ?_, ?_, ?_⟩, cf⟩
    · rw [ep]; exact b7
    · rw [ep, h2.kp]; exact put_set hsz ho
    · rw [List.length_set]; exact .inl (by omega)
    · rw [List.length_set, ep]; intro h; dsimp only at h; omega
set_option maxHeartbeats 1000000 in
set_option maxRecDepth 4000 in
theorem Add_spec {Pb : Nat → Prop} {w : World} {b ca : Nat} {t : Tr} {tm : Int} {kd : Nat} {pa : List UInt8} {ar : Int} (h : Rg Pb w b t) (hw : InW ca tm kd ar) (hl : pa.length ≤ 100000000) :
    Calls Tryz.prog 9 #[pT b, .int .u64 ca, vi tm, .int .u8 kd, vs pa, vi ar] w (Ret fun r w' => r = .tuple #[.int .u64 (t.add ca tm kd pa ar).1, vi (t.add ca tm kd pa ar).2.1] ∧
      Rg (fun k => Pb k ∨ w.heap.size ≤ k) w' b (t.add ca tm kd pa ar).2.2 ∧ Chg Pb w w') := by
  have hok := h.ok
  have hlast := hok.last
  have hadd := hok.add hw (pa := pa)
  have hP := h.mono (Pb' := fun k => Pb k ∧ k < w.heap.size) fun k hk e => ⟨e, hk⟩
  have same : ∀ {w'}, New w w' → Rg (fun k => Pb k ∨ w.heap.size ≤ k) w' b t ∧ Chg Pb w w' := fun n => ⟨(h.new n).mono fun _ _ e => .inl e, n.any⟩
  refine calls_of_Wc Tryz.func9 rfl Tryz.ntmps9 rfl ?_
  (repeat' (first | refine Wl.moveE (by conv => { lhs; whnf }) ?_ | refine Wl.assignE (by conv => { lhs; whnf }) ?_ | refine Wl.nil ?_ | refine Qseq.normal ?_ | refine Wc.seq ?_ | refine Wc.region ?_ | refine Wc.block ?_))
  refine Wl.peqNil rfl rfl ?_
  (repeat' (first | refine Wl.moveE (by conv => { lhs; whnf }) ?_ | refine Wl.assignE (by conv => { lhs; whnf }) ?_ | refine Wl.nil ?_ | refine Qseq.normal ?_ | refine Wc.seq ?_ | refine Wc.region ?_ | refine Wc.condF rfl ?_))
  refine Wl.call (last_spec h) rfl ?_
  rintro _ w1 ⟨rfl, n1⟩
  (repeat' (first | refine Wl.moveE (by conv => { lhs; whnf }) ?_ | refine Wl.assignE (by conv => { lhs; whnf }) ?_ | refine Wl.nil ?_ | refine Qseq.normal ?_ | refine Wc.seq ?_ | refine Wc.region ?_ | refine Wc.skip ?_ | refine Wc.ret ?_ | refine Qseq.ret ?_ | refine Qblk.ret ?_ | refine Wc.condT rfl ?_ | refine Wc.condF rfl ?_ | refine Wl.gtr rfl rfl (fun _ => ?_) (fun _ => ?_)))
  · have e : t.add ca tm kd pa ar = (0, 1, t) := by unfold Tr.add; rw [if_pos (.inl (by omega))]
    rw [e]
    exact Qfn.ret2 rfl rfl rfl ⟨_, rfl, rfl, same n1⟩
  refine Wl.call (name_spec hw.kd) rfl ?_
  rintro _ w2 ⟨rfl, n2⟩
  replace n2 := n1.trans n2
  clear n1
  (repeat' (first | refine Wl.moveE (by conv => { lhs; whnf }) ?_ | refine Wl.assignE (by conv => { lhs; whnf }) ?_ | refine Wl.nil ?_ | refine Qseq.normal ?_ | refine Wc.seq ?_ | refine Wc.region ?_ | refine Wc.skip ?_ | refine Wc.ret ?_ | refine Qseq.ret ?_ | refine Qblk.ret ?_ | refine Wc.condT rfl ?_ | refine Wc.condF rfl ?_ | refine Wl.seql rfl rfl (fun _ => ?_) (fun _ => ?_)))
  · have hk : nameK kd = [] := by assumption
    have e : t.add ca tm kd pa ar = (0, 1, t) := by unfold Tr.add; rw [if_pos (.inr (.inl hk))]
    rw [e]
    exact Qfn.ret2 rfl rfl rfl ⟨_, rfl, rfl, same n2⟩
  have hk : nameK kd ≠ [] := by assumption
  refine Wl.call (path_spec hl) rfl ?_
  rintro _ w3 ⟨rfl, n3⟩
  replace n3 := n2.trans n3
  clear n2
  cases hp : pathM pa with
  | false =>
    have e : t.add ca tm kd pa ar = (0, 1, t) := by unfold Tr.add; rw [if_pos (.inr (.inr hp))]
    (repeat' (first | refine Wl.assignE (by conv => { lhs; whnf }) ?_ | refine Wl.nil ?_ | refine Wl.notB rfl ?_ | refine Qseq.normal ?_ | refine Wc.seq ?_ | refine Wc.region ?_ | refine Wc.ret ?_ | refine Qseq.ret ?_ | refine Qblk.ret ?_ | refine Wc.condT rfl ?_))
    rw [e]
    exact Qfn.ret2 rfl rfl rfl ⟨_, rfl, rfl, same n3⟩
  | true =>
    have hno : ¬ (t.last < ca ∨ nameK kd = [] ∨ pathM pa = false) := by
      rintro (e | e | e)
      · omega
      · exact hk e
      · rw [hp] at e; cases e
    (repeat' (first | refine Wl.moveE (by conv => { lhs; whnf }) ?_ | refine Wl.assignE (by conv => { lhs; whnf }) ?_ | refine Wl.nil ?_ | refine Wl.notB rfl ?_ | refine Qseq.normal ?_ | refine Wc.seq ?_ | refine Wc.region ?_ | refine Wc.condF rfl ?_))
    refine Wl.call (last_spec (h.new n3)) rfl ?_
    rintro _ w4 ⟨rfl, n4⟩
    replace n4 := n3.trans n4
    clear n3
    skip
    refine Wl.geq rfl rfl (fun h62 => ?_) (fun h62 => ?_)
    all_goals (repeat' (first | refine Wl.moveE (by conv => { lhs; whnf }) ?_ | refine Wl.assignE (by conv => { lhs; whnf }) ?_ | refine Wl.nil ?_ | refine Qseq.normal ?_ | refine Wc.seq ?_ | refine Wc.region ?_ | refine Wc.skip ?_ | refine Wc.ret ?_ | refine Qseq.ret ?_ | refine Qblk.normal ?_ | refine Qblk.ret ?_ | refine Wc.condT rfl ?_ | refine Wc.condF rfl ?_))
    · have e : t.add ca tm kd pa ar = (0, 3, t) := by unfold Tr.add; rw [if_neg hno, if_pos (by omega)]
      rw [e]
      exact Qfn.ret2 rfl rfl rfl ⟨_, rfl, rfl, same n4⟩
    have hfull : t.last < 4611686018427387904 := by omega
    have e : t.add ca tm kd pa ar = (t.last + 1, 0, t.put ⟨t.last + 1, ca, t.late tm, kd, pa, ar⟩) := by unfold Tr.add; rw [if_neg hno, if_neg (by omega)]
    rw [e] at hadd ⊢
    clear e
    dsimp only at hadd ⊢
    refine Wl.call (last_spec (h.new n4)) rfl ?_
    rintro _ w5 ⟨rfl, n5⟩
    replace n5 := n4.trans n5
    clear n4
    refine Wl.addW rfl rfl ?_
    rw [show (t.last : Int) + 1 = ((t.last + 1 : Nat) : Int) by omega, wu (by omega) (by omega)]
    (repeat' (refine Wl.moveE (by conv => { lhs; whnf }) ?_))
    refine Wl.buildG (u := evV ⟨t.last + 1, ca, tm, kd, pa, ar⟩) rfl (by kernel_rfl) ?_
    skip
    refine Wl.alloc fun w6 b6 n6 s6 => ?_
    replace b6 : Bk w6 w5.heap.size 27 (evC ev0) := b6
    refine Wl.storeB (o := 0) (new := evC ⟨t.last + 1, ca, tm, kd, pa, ar⟩) b6 rfl rfl rfl rfl (Nat.le_refl 6) (evC_one _) fun w7 b7 c7 s7 => ?_
    replace b7 : Bk w7 w5.heap.size 27 (evC ⟨t.last + 1, ca, tm, kd, pa, ar⟩) := b7
    have z5 := n5.size
    have n7 : New w w7 := Chg.trans (n5.trans n6) c7 fun k hk e => by omega
    clear b6 n6 c7
    (repeat' (first | refine Wl.moveE (by conv => { lhs; whnf }) ?_ | refine Wl.nil ?_ | refine Qseq.normal ?_ | refine Wc.seq ?_ | refine Wc.region ?_))
    refine Wl.call (last_spec (h.new n7)) rfl ?_
    rintro _ w8 ⟨rfl, n8⟩
    have b8 := b7.chg n8 (fun e => e)
    replace n8 := n7.trans n8
    clear b7 n7
    obtain ⟨v, ring, old, hr⟩ := h.new n8
    refine Wl.call (at_spec hr (by omega)) rfl ?_
    rintro _ w9 ⟨hat, n9⟩
    have b9 := b8.chg n9 (fun e => e)
    have hr9 := hr.new n9
    have n09 := n8.trans n9
    have z9 := n09.size
    have hP9 : ∀ {w'}, Chg (fun k => k = w5.heap.size) w9 w' → Rg (fun k => Pb k ∧ k < w.heap.size) w' b t ∧ New w w' := fun c => by
      have n : New w _ := Chg.trans n09 c fun k hk e => by omega
      exact ⟨hP.new n, n⟩
    clear h62
    cases hq : t.kept.getLast? with
    | none =>
      have h0 : t.kept = [] := List.getLast?_eq_none_iff.1 hq
      have hn : t.at t.last = none := Tr.at_none (.inl (by unfold Tr.last; rw [h0]; simp))
      have hlate : t.late tm = tm := by unfold Tr.late; rw [hq]
      rw [hlate] at hadd ⊢
      rw [hn] at hat
      obtain rfl := hat
      (repeat' (first | refine Wl.moveE (by conv => { lhs; whnf }) ?_ | refine Wl.assignE (by conv => { lhs; whnf }) ?_ | refine Wl.nil ?_ | refine Wl.extract rfl rfl ?_ | refine Qseq.normal ?_ | refine Wc.seq ?_ | refine Wc.region ?_ | refine Wc.skip ?_ | refine Wc.condF rfl ?_))
      refine Wl.loadB b9 rfl rfl ?_
      skip
      refine Wl.call (put_spec (hP9 (Chg.refl _ _)).1 hadd) rfl ?_
      rintro _ w10 ⟨h10, c10⟩
      have b10 := b9.chg c10 fun e => by omega
      (repeat' (first | refine Wl.nil ?_ | refine Qseq.normal ?_ | refine Wc.seq ?_ | refine Wc.region ?_ | refine Wl.fieldAddr rfl rfl ?_))
      refine Wl.load1 rfl (b10.cell (o := 0) rfl) ?_
      (repeat' (first | refine Wl.assignE (by conv => { lhs; whnf }) ?_ | refine Wl.nil ?_ | refine Qseq.normal ?_ | refine Wc.ret ?_))
      exact Qfn.ret2 rfl rfl rfl ⟨_, rfl, rfl, h10.mono fun k _ e => by (rcases e with e | e; exact .inl e.1; exact .inr (by omega)), Chg.trans n09.any c10 fun k _ e => e.1⟩
    | some y =>
      have hne : t.kept ≠ [] := fun e => by rw [e] at hq; cases hq
      have hpos := List.length_pos_iff.2 hne
      have hn : t.at t.last = some (t.kept.length - 1) := by
        unfold Tr.at
        rw [if_neg (by unfold Tr.last; omega)]
        unfold Tr.last
        congr 1; omega
      have hlate : t.late tm = max tm y.tm := by unfold Tr.late; rw [hq]
      rw [hlate] at hadd ⊢
      rw [hn] at hat
      obtain ⟨j, rfl, hj, hjy⟩ := hat
      rw [← List.getLast?_eq_getElem?, hq] at hjy
      obtain ⟨a, cap, hv, hc1, hc2⟩ := hr9.own.form
      (repeat' (first | refine Wl.moveE (by conv => { lhs; whnf }) ?_ | refine Wl.assignE (by conv => { lhs; whnf }) ?_ | refine Wl.nil ?_ | refine Wl.extract rfl rfl ?_ | refine Qseq.normal ?_ | refine Wc.seq ?_ | refine Wc.region ?_ | refine Wc.condT rfl ?_ | refine Wl.nilP rfl ?_ | refine Wl.fieldAddr rfl rfl ?_))
      refine Wl.load1 rfl (hr9.bk.cell (o := 1) (u := .slice a ring.length cap) (by rw [hv]; rfl)) ?_
      (repeat' (refine Wl.moveE (by conv => { lhs; whnf }) ?_))
      refine Wl.idxAddr (v := .slice a ring.length cap) (hv ▸ hr9.own.rd goodEv.mo) rfl rfl (by omega) (by rw [Int.toNat_natCast]; exact hjy) fun bb o cs hl hR hat => ?_
      obtain rfl : cs = evC y := hR
      refine Wl.fieldAddr rfl rfl ?_
      refine Wl.load1 rfl (hat.get 2 rfl) ?_
      refine Wl.maxI rfl rfl ?_
      rw [show (if y.tm > tm then y.tm else tm) = max tm y.tm by split <;> omega]
      (repeat' (refine Wl.fieldAddr rfl rfl ?_))
      refine Wl.store1 b9 rfl (Nat.lt_of_lt_of_le (by decide : 2 < 6) (Nat.le_refl 6)) rfl rfl fun w9' b9' c9' => ?_
      replace b9' : Bk w9' w5.heap.size 27 (evC ⟨t.last + 1, ca, max tm y.tm, kd, pa, ar⟩) := b9'
      have hP9' := hP9 c9'
      have z9' := c9'.size
      (repeat' (first | refine Wl.moveE (by conv => { lhs; whnf }) ?_ | refine Wl.nil ?_ | refine Qseq.normal ?_ | refine Wc.seq ?_ | refine Wc.region ?_))
      refine Wl.loadB b9' rfl rfl ?_
      skip
      refine Wl.call (put_spec hP9'.1 hadd) rfl ?_
      rintro _ w10 ⟨h10, c10⟩
      have b10 := b9'.chg c10 fun e => by omega
      (repeat' (first | refine Wl.nil ?_ | refine Qseq.normal ?_ | refine Wc.seq ?_ | refine Wc.region ?_ | refine Wl.fieldAddr rfl rfl ?_))
      refine Wl.load1 rfl (b10.cell (o := 0) rfl) ?_
      (repeat' (first | refine Wl.assignE (by conv => { lhs; whnf }) ?_ | refine Wl.nil ?_ | refine Qseq.normal ?_ | refine Wc.ret ?_))
      exact Qfn.ret2 rfl rfl rfl ⟨_, rfl, rfl, h10.mono fun k _ e => by (rcases e with e | e; exact .inl e.1; exact .inr (by omega)), Chg.trans hP9'.2.any c10 fun k _ e => e.1⟩
end Go.Proofs.YtjaendlcijmifaaGreatDoor

namespace Go.Proofs.YtjaendlcijmifaaGreatDoor.Wk
open Go Go.RowKit

section
variable {P : Program} {n : Nat} {ds : List Deferred} {Q : Po} {F : Fr} {w w' : World} {M : Fr → World → Prop}
def Qm (M : Fr → World → Prop) (Q : Po) : Po
  | .normal, F, w => M F w
  | e, F, w => Q e F w
theorem Qm.normal (h : M F w) : Qm M Q .normal F w := h
theorem Qm.ret (h : Q .ret F w) : Qm M Q .ret F w := h
theorem Qm.exit {id : Nat} (h : Q (.exit id) F w) : Qm M Q (.exit id) F w := h
theorem Qm.panic {c : List PanicEntry} (h : Q (.panic c) F w) : Qm M Q (.panic c) F w := h
theorem Wc.cutR {a b : Code} (M : Fr → World → Prop) (h1 : Wc P n ds (Qm M Q) a F w) (h2 : ∀ F w, M F w → Wc P n ds Q b F w) : Wc P n ds Q (.seq a b) F w := by
  unfold Wc at *
  refine wp_seq (wp_mono h1 ?_)
  rintro e a' w' ⟨F', rfl, hM⟩
  cases e with
  | normal => exact h2 F' w' hM
  | _ => exact ⟨F', rfl, hM⟩
attribute [irreducible] Qm
end
section
variable {P : Program} {n : Nat} {ds : List Deferred} {Q : Po} {F : Fr} {w w' : World} {ops rest : List Oper} {d : Nat} {ty : TypeId} {pos : String} {aft : Array Edge} {C : World → Prop} {K : Fr → Prop}
/-- Behind a test that was not made. -/
theorem Wl.guardU {op : Op} {j : Nat} {b : Bool} (hy : yld ops n F j = none) (k : Wl P n ds Q ops rest (upd F d undef) w) : Wl P n ds Q ops (⟨some d, op, ty, pos, aft, some (j, b)⟩ :: rest) F w := by
  have hw : Region.wanted ⟨some d, op, ty, pos, aft, some (j, b)⟩ (yielded ops.toArray (act n ds F).tmps) = false := by
    simp only [Region.wanted, act, yielded_eq, hy]; rfl
  unfold Wl at k ⊢
  rw [wpList, if_neg (by rw [hw]; simp), act_put]
  exact k
theorem Wq.guardU {op : Op} {j : Nat} {b : Bool} (hy : yld ops n F j = none) (k : Wq P n ds C K ops rest (upd F d undef)) : Wq P n ds C K ops (⟨some d, op, ty, pos, aft, some (j, b)⟩ :: rest) F := by
  have hw : Region.wanted ⟨some d, op, ty, pos, aft, some (j, b)⟩ (yielded ops.toArray (act n ds F).tmps) = false := by
    simp only [Region.wanted, act, yielded_eq, hy]; rfl
  unfold Wq at k ⊢
  rw [wpQuiet, if_neg (by rw [hw]; simp), act_put]
  exact k
theorem Wt.guardU {op : Op} {l : List Oper} {j : Nat} {b : Bool} (hy : yld ops n F j = none) (hC : C w) (h : Wt P n ds C Q ops l (upd F d undef) w) :
    Wt P n ds C Q ops (⟨some d, op, ty, pos, aft, some (j, b)⟩ :: l) F w := by
  unfold Wt
  split
  · exact Wq.guardU hy (Wq.nil h)
  · split
    · rename_i he
      have : l = [] := by simpa using he
      subst this
      unfold Wt at h
      exact Wl.guardU hy (Wl.nil h)
    · exact Wl.guardU hy (Wl.nil ⟨rfl, hC, h⟩)
end
end Go.Proofs.YtjaendlcijmifaaGreatDoor.Wk

namespace Go.Proofs.YtjaendlcijmifaaGreatDoor.Wk
open Go Go.RowKit

def numb : Nat → List Value → List (Nat × Value)
  | _, [] => []
  | k, u :: us => (k, u) :: numb (k + 1) us
theorem fill_dense (sz : Nat) : ∀ (us : List Value) (k : Nat) (pre zs : List Value), pre.length = k * sz → zs.length = us.length * sz → (∀ u ∈ us, u.cells.size = sz) →
    Instr.fill (fun i => some (i * sz, sz)) (pre ++ zs).toArray (numb k us) = some (pre ++ us.flatMap fun u => u.cells.toList).toArray
  | [], k, pre, zs, hp, hz, _ => by
    have : zs = [] := List.eq_nil_of_length_eq_zero (by simpa using hz)
    subst this
    simp [numb, Instr.fill]
  | u :: us, k, pre, zs, hp, hz, h => by
    have hu := h u (by simp)
    simp only [List.length_cons, Nat.add_mul, Nat.one_mul] at hz
    simp only [numb, Instr.fill, hu]
    rw [if_neg (by simp; omega)]
    have hsp : zs = zs.take sz ++ zs.drop sz := (List.take_append_drop sz zs).symm
    have h1 := foldl_fill (k * sz) u.cells.toList 0 pre (zs.drop sz) (zs.take sz) (by simp [hu]; omega) (by omega)
    rw [List.append_assoc, ← hsp] at h1
    rw [← Array.foldl_toList, Array.toList_zipIdx]
    have h2 : List.foldl (fun (cs : Array Value) (x : Value × Nat) => match x with | (c, j) => cs.setIfInBounds (k * sz + j) c) (pre ++ zs).toArray (u.cells.toList.zipIdx) = (pre ++ u.cells.toList ++ zs.drop sz).toArray := h1
    rw [h2, fill_dense sz us (k + 1) (pre ++ u.cells.toList) (zs.drop sz) (by simp [hu, hp, Nat.add_mul]) (by simp; omega) fun v hv => h v (by simp [hv])]
    simp
def AllR {α : Type} (R : Rel α) (sz : Nat) (Pb : Nat → Prop) (w : World) : List α → List Value → Prop
  | [], [] => True
  | x :: xs, u :: us => u.cells.size = sz ∧ R Pb w x u.cells.toList ∧ AllR R sz Pb w xs us
  | _, _ => False
theorem AllR.length {α : Type} {R : Rel α} {sz : Nat} {Pb : Nat → Prop} {w : World} : ∀ {xs : List α} {us : List Value}, AllR R sz Pb w xs us → us.length = xs.length ∧ ∀ u ∈ us, u.cells.size = sz
  | [], [], _ => ⟨rfl, by simp⟩
  | x :: xs, u :: us, h => by
    obtain ⟨h1, _, h2⟩ := h
    have := h2.length
    exact ⟨by simp [this.1], fun v hv => by rcases List.mem_cons.1 hv with rfl | hv; exact h1; exact this.2 v hv⟩
  | [], _ :: _, h => h.elim
  | _ :: _, [], h => h.elim
theorem AllR.get {α : Type} {R : Rel α} {sz : Nat} {Pb : Nat → Prop} {w : World} : ∀ {xs : List α} {us : List Value} {i : Nat} {x : α}, AllR R sz Pb w xs us → xs[i]? = some x → R Pb w x (((us.flatMap fun u => u.cells.toList).drop (i * sz)).take sz)
  | [], [], i, x, _, h => by simp at h
  | y :: xs, u :: us, i, x, h, hx => by
    obtain ⟨h1, h2, h3⟩ := h
    have hl : u.cells.toList.length = sz := by simpa using h1
    cases i with
    | zero =>
      simp at hx
      subst hx
      simp only [List.flatMap_cons, Nat.zero_mul, List.drop_zero]
      rw [List.take_append_of_le_length (by omega), List.take_of_length_le (by omega)]
      exact h2
    | succ i =>
      have := h3.get (i := i) (by simpa using hx)
      rw [List.flatMap_cons, List.drop_append, List.drop_eq_nil_of_le (show u.cells.toList.length ≤ (i + 1) * sz by rw [hl, Nat.add_mul]; omega), List.nil_append, hl, Nat.add_mul, Nat.one_mul, Nat.add_sub_cancel]
      exact this
  | [], _ :: _, _, _, h, _ => h.elim
  | _ :: _, [], _, _, h, _ => h.elim
section
variable {P : Program} {n : Nat} {ds : List Deferred} {Q : Po} {F : Fr} {w w' : World} {ops rest : List Oper} {d d1 d2 : Nat} {ty ty1 ty2 : TypeId} {pos pos1 pos2 : String} {aft aft1 aft2 : Array Edge}
theorem flat_len {us : List Value} {sz : Nat} (h : ∀ u ∈ us, u.cells.size = sz) : (us.flatMap fun u => u.cells.toList).length = us.length * sz := by
  induction us with
  | nil => simp
  | cons u us ih => simp [ih fun v hv => h v (by simp [hv]), h u (by simp), Nat.add_mul]; omega
theorem run_buildSliceN {t e : TypeId} {sz bytes : Nat} {agg : Bool} {z : Value} {us : List Value} (ht : P.underlying t = some (.slice e)) (he : ElT P e sz bytes agg z) (hv : ∀ u ∈ us, u.cells.size = sz) (hs : 0 < us.length * sz) (hs2 : us.length * sz ≤ 16777216) :
    (Instr.buildSlice t us.length (numb 0 us).toArray).run P w = .ok (.slice (some ⟨w.heap.size, 0, none⟩) us.length us.length) (w.alloc (.cells (us.flatMap fun u => u.cells.toList).toArray e)) := by
  have hne : ¬ us.length * sz = 0 := by omega
  have hz := he.hz
  have e3 := fill_dense sz us 0 [] (((List.range (us.length * sz)).map fun i => z.cells[i % z.cells.size]!)) (by simp) (by simp) hv
  have e4 : (Array.range (us.length * sz)).map (fun i => z.cells[i % z.cells.size]!) = (((List.range (us.length * sz)).map fun i => z.cells[i % z.cells.size]!)).toArray := by
    apply Array.ext'
    simp [Array.toList_range]
  rw [List.nil_append, List.nil_append, ← e4] at e3
  simp only [Instr.buildSlice, Sem.run_bind, run_underlying ht, Result.andThen_ok, he.sizeOf]
  rw [if_neg (by omega), if_neg hne]
  simp only [Sem.run_bind, Result.andThen_ok, he.zeroValue, Sem.run_pure, e3, newRow, run_newObj]
  rfl
/-- []T{a, b, ..}, a list of one's own. -/
theorem Wl.buildSliceN {α : Type} {R : Rel α} {N : Nat} {ps : List (Nat × Operand)} {t e : TypeId} {sz bytes : Nat} {agg : Bool} {z : Value} {xs : List α} {us : List Value} {Pe : Nat → Prop} (hR : GoodR R sz) [ht : Und P t (.slice e)] [he : ElT P e sz bytes agg z] (hN : us.length = N) (hps : ps.map (fun p => (p.1, ev n F p.2)) = numb 0 us)
    (h : AllR R sz (fun b => Pe b ∧ w.heap.size ≠ b) w xs us) (hsz : 0 < us.length * sz) (hsz2 : us.length * sz ≤ 16777216)
    (c : ∀ v w', OwnS R e sz (fun b => b = w.heap.size) Pe w' v xs → New w w' → w'.heap.size = w.heap.size + 1 → v.ownBlock = some w.heap.size → Wl P n ds Q ops rest (upd F d v) w') :
    Wl P n ds Q ops (⟨some d, .buildSlice t N ps.toArray, ty, pos, aft, none⟩ :: rest) F w := by
  subst hN
  obtain ⟨hl, hall⟩ := h.length
  have hr := run_buildSliceN (P := P) (w := w) ht.h he hall hsz hsz2
  have hn : New w (w.alloc (.cells (us.flatMap fun u => u.cells.toList).toArray e)) := Chg.alloc _ _ _
  refine Wl.val (w' := w.alloc (.cells (us.flatMap fun u => u.cells.toList).toArray e)) ?_ (c _ _ ⟨us.flatMap fun u => u.cells.toList, ⟨by rw [flat_len hall, hl], .inr ⟨w.heap.size, us.length, (us.flatMap fun u => u.cells.toList).toArray, by rw [hl], rfl, heap_alloc_new w _, by omega, ?_, by simpa using flat_len hall, ?_⟩⟩, fun i x hx => ?_⟩ hn (by simp) rfl)
  · simp only [execOp, List.map_toArray, hps, Sem.run_bind, hr, Result.andThen_ok, Sem.run_pure]
    rw [hl]
  · have : 0 < sz := by rcases Nat.eq_zero_or_pos sz with h0 | h0; rw [h0] at hsz; simp at hsz; exact h0
    have : us.length * 1 ≤ us.length * sz := Nat.mul_le_mul_left _ this
    unfold maxLen; omega
  · show List.take (xs.length * sz) (us.flatMap fun u => u.cells.toList) = _
    rw [← hl, ← flat_len hall, List.take_length]
  · have h1 := hR.st _ _ _ _ _ hn.keep (h.get hx)
    exact hR.mo _ _ _ _ _ (fun b _ hb => ⟨hb.1, fun e => hb.2 (by simpa [Value.ownBlock] using e)⟩) h1
end
end Go.Proofs.YtjaendlcijmifaaGreatDoor.Wk

namespace Go.Proofs.YtjaendlcijmifaaGreatDoor
open Go Wk
open Go.RowKit (Below)
attribute [local irreducible] Go.Calls

section
variable {P : Program} {n : Nat} {ds : List Deferred} {Q : Po} {F : Fr} {w : World} {ops rest : List Oper} {d : Nat} {ty : TypeId} {pos : String} {aft : Array Edge}
theorem Wk.Wl.capS {x : Operand} {t e : TypeId} {a : Option Addr} {l cap : Nat} [ht : Und P t (.slice e)] (hx : ev n F x = .slice a l cap)
    (c : Wl P n ds Q ops rest (upd F d (vi cap)) w) : Wl P n ds Q ops (⟨some d, .call { callee := .builtin .cap, args := #[x], argTypes := #[t] }, ty, pos, aft, none⟩ :: rest) F w := by
  have hr : (Builtin.cap_ #[t] ty #[.slice a l cap]).run P w = .ok (vi cap) w := by simp [Builtin.cap_, run_underlying ht.h, goInt]
  exact Wl.val (by simp only [execOp, resolve, Sem.run_bind, Sem.run_pure, Result.andThen_ok, invoke, builtin, List.map_toArray, List.map_cons, List.map_nil, hx, hr]) c
/-- append(s, make(..)...) behind nothing. -/
theorem Wk.Wl.appendZ0 {s x : Operand} {t tn e sz bytes : Nat} {agg : Bool} {z : Value} {kq kn : IntKind} {k : Nat} [ht : Und P t (.slice e)] [htn : Und P tn (.int kn)] [he : ElT P e sz bytes agg z] (hs : ev n F s = .slice none 0 0) (hx : ev n F x = .int kq k)
    (h0 : 0 < k) (hsz : 0 < sz) (h63 : (k : Int) ≤ 9223372036854775807) (hby : k * bytes ≤ 140737488355328)
    (c : ∀ w' cap cs, k ≤ cap → cap ≤ maxLen → cs.size = cap * sz → w'.heap[w.heap.size]? = some (.cells cs e (0, 0)) → New w w' → Wl P n ds Q ops rest (upd F d (.slice (some ⟨w.heap.size, 0, none⟩) k cap)) w') :
    Wl P n ds Q ops (⟨some d, .call { callee := .builtin .append, args := #[s, x], argTypes := #[t, tn] }, ty, pos, aft, none⟩ :: rest) F w := by
  obtain ⟨i, hi, hsi, hbi, hzi⟩ := he.inf
  have hfit : Builtin.nextslicecap (0 + k) 0 * i.bytes ≤ 281474976710656 := by
    rw [hbi]
    have : Builtin.nextslicecap (0 + k) 0 = k := by unfold Builtin.nextslicecap; rw [if_pos (by omega)]; omega
    rw [this]; omega
  have hr := Lib.run_append_grow_zeros (P := P) w t tn ty e i z kq kn ht.h htn.h hi hzi none 0 0 [] (run_firstCells_none w.drew i.size 0 0 0) k h0 (by omega) (by omega) (by omega) (by rw [hbi]; omega) hfit
  have hge := grownCap_ge w (0 + k) 0 e
  have hle := grownCap_le_maxLen w (0 + k) 0 e (by unfold maxLen; omega)
  rw [Nat.zero_add] at hr hge hle
  have hz := he.hz
  obtain ⟨cs, hcs⟩ : ∃ cs, (([] : List Value).toArray ++ Builtin.zeroCells z.cells k ++ Builtin.zeroCells z.cells (grownCap w k 0 e - k)) = cs := ⟨_, rfl⟩
  have hsize : cs.size = grownCap w k 0 e * sz := by
    rw [← hcs]
    simp only [Array.size_append, Builtin.zeroCells, Array.size_map, Array.size_range, hz, List.size_toArray, List.length_nil, Nat.zero_add]
    rw [← Nat.add_mul]; congr 1; omega
  rw [hcs] at hr
  refine Wl.val (w' := w.drew.alloc (.cells cs e)) ?_ (c _ (grownCap w k 0 e) cs hge hle hsize (heap_alloc_new w.drew _) (Chg.trans (Chg.drew _ w) (Chg.alloc _ _ _) fun _ _ e => e))
  simp only [execOp, resolve, Sem.run_bind, Sem.run_pure, Result.andThen_ok, invoke, builtin, List.map_toArray, List.map_cons, List.map_nil, hs, hx, hr]
theorem Wk.Wq.sliceFrom {α : Type} {R : Rel α} {C : World → Prop} {K : Fr → Prop} {Pb : Nat → Prop} {xs : List α} {x lo : Operand} {t e : TypeId} {sz bytes : Nat} {agg : Bool} {z v : Value} {k : IntKind} {a : Int} [ht : Und P t (.slice e)] [he : ElT P e sz bytes agg z] (h : RdS R sz Pb w v xs) (hx : ev n F x = v) (hh : ev n F lo = .int k a) (h0 : 0 ≤ a) (h1 : a ≤ xs.length)
    (c : ∀ v', RdS R sz Pb w v' (xs.drop a.toNat) → Wq P n ds C K ops rest (upd F d v')) : Wq P n ds C K ops (⟨some d, .slice t x (some lo) none none, ty, pos, aft, none⟩ :: rest) F := by
  obtain ⟨p, cap, rfl, hc, _⟩ := h.form
  obtain ⟨a, rfl⟩ := Int.eq_ofNat_of_zero_le h0
  refine Wq.val (fun w' _ => ?_) (c _ (by simpa using h.sub (a := a) (b := xs.length) (by omega) (Nat.le_refl _)))
  have := run_sliceS (P := P) (w := w') (p := p) (l := xs.length) (lo := some (.int k a)) (hi := none) (a := a) (b := xs.length) ht.h he (.inr ⟨k, rfl⟩) (.inl ⟨rfl, rfl⟩) (by omega) (by omega : xs.length ≤ cap)
  simp only [execOp, hx, hh, Option.map_none, Option.map_some, Sem.run_bind, this, Result.andThen_ok, Sem.run_pure]
end
abbrev No : Nat → Prop := fun _ => False
theorem Grow_spec {w : World} {k : Nat} (hk : k ≤ 1000000) :
    Calls Tryz.prog 92 #[.slice none 0 0, vi k] w (Ret fun r w' => OwnS rEv 27 6 (fun b => w.heap.size ≤ b) No w' r [] ∧ New w w') := by
  refine calls_of_Wc Tryz.func92 rfl Tryz.ntmps92 rfl ?_
  (repeat' (first | refine Wl.moveE (by conv => { lhs; whnf }) ?_ | refine Wl.assignE (by conv => { lhs; whnf }) ?_ | refine Wl.nil ?_ | refine Qseq.normal ?_ | refine Wc.seq ?_ | refine Wc.region ?_ | refine Wc.skip ?_ | refine Wc.condF rfl ?_ | (refine Wl.lss rfl rfl (fun _ => ?_) (fun _ => ?_) <;> (first | (exfalso; omega) | skip))))
  refine Wl.capS rfl ?_
  (repeat' (first | refine Wl.moveE (by conv => { lhs; whnf }) ?_ | refine Wl.assignE (by conv => { lhs; whnf }) ?_ | refine Wl.nil ?_ | refine Wl.lenS rfl ?_ | refine Qseq.normal ?_ | refine Wc.seq ?_ | refine Wc.region ?_ | refine Wc.skip ?_ | refine Wc.ret ?_ | refine Wc.condT rfl ?_ | refine Wc.condF rfl ?_ | refine Wl.sub rfl rfl (by omega) (by omega) ?_ | refine Wl.gtr rfl rfl (fun _ => ?_) (fun _ => ?_)))
  · refine Wl.capS rfl ?_
    refine Wl.sliceToP (b := 0) rfl rfl (Nat.le_refl 0) ?_
    (repeat' (refine Wl.moveE (by conv => { lhs; whnf }) ?_))
    refine Wl.appendZ0 (kq := .i64) (k := k) rfl (congrArg vi (show (k : Int) - (((0 : Nat) : Int) - ((0 : Nat) : Int)) = k by omega)) (by omega) (by omega) (by omega) (by omega) fun w1 cap cs h1 h2 h3 h4 n1 => ?_
    (repeat' (first | refine Wl.moveE (by conv => { lhs; whnf }) ?_ | refine Wl.lenS rfl ?_))
    refine Wl.sliceToP (b := 0) rfl rfl (Nat.zero_le _) ?_
    (repeat' (first | refine Wl.moveE (by conv => { lhs; whnf }) ?_ | refine Wl.assignE (by conv => { lhs; whnf }) ?_ | refine Wl.nil ?_ | refine Qseq.normal ?_ | refine Wc.seq ?_ | refine Wc.region ?_ | refine Wc.ret ?_))
    refine Qfn.ret1 rfl rfl ⟨_, rfl, ⟨[], ⟨rfl, .inr ⟨_, cap, cs, rfl, Nat.le_refl _, h4, Nat.zero_le _, h2, h3, rfl⟩⟩, fun i x hx => by simp at hx⟩, n1⟩
  · exact Qfn.ret1 rfl rfl ⟨_, rfl, OwnS.nil, Chg.refl _ _⟩

/-- A list that is an element. -/
def rLs : Rel (List Ev) := fun Pb w xs cs => ∃ v, cs = [v] ∧ RdS rEv 6 Pb w v xs
theorem goodLs : GoodR rLs 1 := ⟨Stable.RdS (stable_flat _) 6, Mono.RdS (mono_flat _) 6, fun _ _ x cs ⟨v, e, h⟩ _ c hc => by
  subst e
  obtain ⟨a, cap, rfl, _⟩ := h.form
  rw [List.mem_singleton.1 hc]; rfl⟩
def sumL (xss : List (List Ev)) : Nat := (xss.map List.length).sum
theorem sumL_take {xss : List (List Ev)} {i : Nat} {xs : List Ev} (h : xss[i]? = some xs) : sumL (xss.take (i + 1)) = sumL (xss.take i) + xs.length := by
  unfold sumL
  rw [take_snoc' h, List.map_append, List.sum_append]; simp
theorem flatten_take {xss : List (List Ev)} {i : Nat} {xs : List Ev} (h : xss[i]? = some xs) : (xss.take (i + 1)).flatten = (xss.take i).flatten ++ xs := by
  rw [take_snoc' h, List.flatten_append]; simp
theorem sumL_flatten (xss : List (List Ev)) : xss.flatten.length = sumL xss := List.length_flatten
theorem sumL_le {xss : List (List Ev)} (i : Nat) : sumL (xss.take i) ≤ sumL xss := by
  have h : sumL xss = sumL (xss.take i) + sumL (xss.drop i) := by
    unfold sumL
    rw [← List.sum_append, ← List.map_append, List.take_append_drop]
  omega
set_option maxHeartbeats 1000000 in
theorem Concat_spec {Pb : Nat → Prop} {w : World} {v : Value} {xss : List (List Ev)} (h : RdS rLs 1 Pb w v xss) (hl : sumL xss ≤ 1000000) :
    Calls Tryz.prog 72 #[v] w (Ret fun r w' => OwnS rEv 27 6 (fun b => w.heap.size ≤ b) No w' r xss.flatten ∧ New w w') := by
  obtain ⟨a, cp, rfl, hc1, hc2⟩ := h.form
  simp only [maxLen] at hc2
  refine calls_of_Wc Tryz.func72 rfl Tryz.ntmps72 rfl ?_
  (repeat' (first | refine Wl.moveE (by conv => { lhs; whnf }) ?_ | refine Wl.assignE (by conv => { lhs; whnf }) ?_ | refine Wl.nil ?_ | refine Wl.lenS rfl ?_ | refine Qseq.normal ?_ | refine Wc.seq ?_ | refine Wc.region ?_ | refine Wc.block ?_))
  refine Wc.loop (σ := Nat) (fun i => [(0, .slice a xss.length cp), (3, vi (sumL (xss.take i))), (9, .slice a xss.length cp), (10, vi xss.length), (11, vi i)]) (fun i w' => i ≤ xss.length ∧ w = w') (fun i => xss.length - i) 0 ⟨rfl, rfl, rfl, rfl, rfl, trivial⟩ ⟨Nat.zero_le _, rfl⟩ ?_
  rintro i G _ ⟨hi, rfl⟩
  simp only [upds]
  (repeat' (first | refine Wl.moveE (by conv => { lhs; whnf }) ?_ | refine Wl.nil ?_ | refine Qseq.normal ?_ | refine Wc.seq ?_ | refine Wc.region ?_ | refine Wc.block ?_ | refine Wc.skip ?_ | refine Wc.exit ?_ | refine Qseq.exit ?_ | refine Qblk.hit ?_ | refine Qloop.exit ?_ | refine Wc.condT rfl ?_ | refine Wc.condF rfl ?_ | refine Wl.lss rfl rfl (fun _ => ?_) (fun _ => ?_)))
  · obtain ⟨y, hy⟩ := get_lt xss (k := i) (by omega)
    refine Wl.idxAddr h rfl rfl (by omega) (by rw [Int.toNat_natCast]; exact hy) fun bb o cs hcl hR hat => ?_
    obtain ⟨u, rfl, hu⟩ := hR
    refine Wl.load1 rfl (hat.get 0 rfl) ?_
    have hst := sumL_take hy
    have hle := sumL_le (xss := xss) (i + 1)
    obtain ⟨ua, ucp, rfl, _⟩ := hu.form
    (repeat' (first | refine Wl.moveE (by conv => { lhs; whnf }) ?_ | refine Wl.assignE (by conv => { lhs; whnf }) ?_ | refine Wl.nil ?_ | refine Wl.lenS rfl ?_ | refine Qseq.normal ?_ | refine Wc.seq ?_ | refine Wc.region ?_ | refine Wc.skip ?_ | refine Qblk.normal ?_ | refine Wc.condF rfl ?_ | refine Wl.add rfl rfl (by omega) (by omega) ?_ | (refine Wl.lss rfl rfl (fun _ => ?_) (fun _ => ?_) <;> (first | (exfalso; omega) | skip))))
    refine Qloop.normal (i + 1) ⟨rfl, ?_, rfl, rfl, rfl, trivial⟩ ⟨by omega, rfl⟩ (by omega)
    show vi _ = vi _
    rw [hst]; rfl
  · have e : i = xss.length := by omega
    subst e
    rw [List.take_length]
    refine Wl.call (Grow_spec hl) rfl ?_
    rintro g w1 ⟨og, n1⟩
    (repeat' (first | refine Wl.moveE (by conv => { lhs; whnf }) ?_ | refine Wl.assignE (by conv => { lhs; whnf }) ?_ | refine Wl.nil ?_ | refine Wl.lenS rfl ?_ | refine Qseq.normal ?_ | refine Wc.seq ?_ | refine Wc.region ?_ | refine Wc.block ?_))
    refine Wc.loop (σ := Nat × Value) (fun s => [(6, s.2), (25, .slice a xss.length cp), (26, vi xss.length), (27, vi s.1)]) (fun s w' => s.1 ≤ xss.length ∧ OwnS rEv 27 6 (fun b => w.heap.size ≤ b) No w' s.2 (xss.take s.1).flatten ∧ New w w') (fun s => xss.length - s.1) (0, g) ⟨rfl, rfl, rfl, rfl, trivial⟩ ⟨Nat.zero_le _, og, n1⟩ ?_
    rintro ⟨i, g⟩ G w2 ⟨hi, og, n2⟩
    dsimp only at hi og
    simp only [upds]
    (repeat' (first | refine Wl.moveE (by conv => { lhs; whnf }) ?_ | refine Wl.assignE (by conv => { lhs; whnf }) ?_ | refine Wl.nil ?_ | refine Qseq.normal ?_ | refine Wc.seq ?_ | refine Wc.region ?_ | refine Wc.block ?_ | refine Wc.skip ?_ | refine Wc.exit ?_ | refine Wc.ret ?_ | refine Qseq.exit ?_ | refine Qblk.hit ?_ | refine Qloop.exit ?_ | refine Wc.condT rfl ?_ | refine Wc.condF rfl ?_ | refine Wl.lss rfl rfl (fun _ => ?_) (fun _ => ?_)))
    · obtain ⟨y, hy⟩ := get_lt xss (k := i) (by omega)
      refine Wl.idxAddr (h.keep goodLs.st n2.keep) rfl rfl (by omega) (by rw [Int.toNat_natCast]; exact hy) fun bb o cs hcl hR hat => ?_
      obtain ⟨u, rfl, hu⟩ := hR
      refine Wl.load1 rfl (hat.get 0 rfl) ?_
      have hft := flatten_take hy
      have hle := sumL_le (xss := xss) (i + 1)
      rw [← sumL_flatten, hft, List.length_append] at hle
      have s2 := n2.size
      (repeat' (first | refine Wl.moveE (by conv => { lhs; whnf }) ?_ | refine Wl.assignE (by conv => { lhs; whnf }) ?_ | refine Wl.nil ?_ | refine Qseq.normal ?_ | refine Wc.region ?_))
      refine Wl.appendAll goodEv og hu (fun y cs hy => hy) rfl rfl (by omega) (by simp only [maxLen]; omega) (by omega) fun g' w3 og' c3 lie _ => ?_
      rw [← hft] at og'
      (repeat' (first | refine Wl.moveE (by conv => { lhs; whnf }) ?_ | refine Wl.assignE (by conv => { lhs; whnf }) ?_ | refine Wl.nil ?_ | refine Qseq.normal ?_ | refine Wc.region ?_ | refine Qblk.normal ?_ | refine Wl.add rfl rfl (by omega) (by omega) ?_))
      exact Qloop.normal (i + 1, g') ⟨rfl, rfl, rfl, rfl, trivial⟩ ⟨by dsimp only; omega, og'.mono goodEv.mo (fun k _ hk => by rcases hk with hk | hk <;> omega) (fun _ _ e => e), Chg.trans n2 c3 fun k hk e => by have := (og.lt e).1; omega⟩ (by dsimp only; omega)
    · have e : i = xss.length := by omega
      subst e
      rw [List.take_length] at og
      exact Qfn.ret1 rfl rfl ⟨_, rfl, og, n2⟩
set_option maxHeartbeats 1000000 in
theorem kept_spec {Pb : Nat → Prop} {w : World} {b : Nat} {t : Tr} (h : Rg Pb w b t) : Calls Tryz.prog 41 #[pT b] w (Ret fun r w' => OwnS rEv 27 6 (fun b => w.heap.size ≤ b) No w' r t.kept ∧ New w w') := by
  obtain ⟨v, ring, old, h⟩ := h
  obtain ⟨a, cap, rfl, hc1, hc2⟩ := h.own.form
  have hlen := h.len
  have hs := h.ok.s1
  have hl2 := h.ok.len
  have hlt := h.lt
  have hr := h.own.rd goodEv.mo
  refine calls_of_Wc Tryz.func41 rfl Tryz.ntmps41 rfl ?_
  (repeat' (first | refine Wl.moveE (by conv => { lhs; whnf }) ?_ | refine Wl.assignE (by conv => { lhs; whnf }) ?_ | refine Wl.nil ?_ | refine Qseq.normal ?_ | refine Wc.seq ?_ | refine Wc.region ?_))
  refine Wl.peqNil rfl rfl ?_
  (repeat' (first | refine Wl.nil ?_ | refine Qseq.normal ?_ | refine Wc.seq ?_ | refine Wc.skip ?_ | refine Wc.condF rfl ?_))
  refine Wc.regionT rfl (by kernel_rfl) (New w) (Chg.drew _ _) ?_
  intro w1 n1
  (repeat' (first | refine Wt.quiet rfl (Wq.moveE (by conv => { lhs; whnf }) (Wq.nil ?_)) | refine Wt.quiet rfl (Wq.nilP rfl (Wq.nil ?_)) | refine Wt.quiet rfl (Wq.fieldAddr rfl rfl (Wq.nil ?_))))
  refine Wt.quiet rfl (Wq.load1 rfl (fun w' n => (h.new n).bk.cell (o := 1) rfl) (Wq.nil ?_))
  (repeat' (first | refine Wt.quiet rfl (Wq.moveE (by conv => { lhs; whnf }) (Wq.nil ?_)) | refine Wt.quiet rfl (Wq.nilP rfl (Wq.nil ?_)) | refine Wt.quiet rfl (Wq.fieldAddr rfl rfl (Wq.nil ?_))))
  refine Wt.quiet rfl (Wq.load1 rfl (fun w' n => (h.new n).bk.cell (o := 2) rfl) (Wq.nil ?_))
  refine Wt.quiet rfl (Wk.Wq.sliceFrom hr rfl rfl (by omega) (by omega) fun va ha => Wq.nil ?_)
  (repeat' (first | refine Wt.quiet rfl (Wq.moveE (by conv => { lhs; whnf }) (Wq.nil ?_)) | refine Wt.quiet rfl (Wq.nilP rfl (Wq.nil ?_)) | refine Wt.quiet rfl (Wq.fieldAddr rfl rfl (Wq.nil ?_))))
  refine Wt.quiet rfl (Wq.load1 rfl (fun w' n => (h.new n).bk.cell (o := 1) rfl) (Wq.nil ?_))
  (repeat' (first | refine Wt.quiet rfl (Wq.moveE (by conv => { lhs; whnf }) (Wq.nil ?_)) | refine Wt.quiet rfl (Wq.nilP rfl (Wq.nil ?_)) | refine Wt.quiet rfl (Wq.fieldAddr rfl rfl (Wq.nil ?_))))
  refine Wt.quiet rfl (Wq.load1 rfl (fun w' n => (h.new n).bk.cell (o := 2) rfl) (Wq.nil ?_))
  refine Wt.quiet rfl (Wq.sliceTo hr rfl rfl (by omega) (by omega) fun vb hb => Wq.nil ?_)
  rw [Int.toNat_natCast] at ha hb
  have ha1 := (ha.keep (stable_flat _) n1.keep).mono (Pb' := fun k => True ∧ w1.heap.size ≠ k) (mono_flat _) fun k hk _ => ⟨trivial, by omega⟩
  have hb1 := (hb.keep (stable_flat _) n1.keep).mono (Pb' := fun k => True ∧ w1.heap.size ≠ k) (mono_flat _) fun k hk _ => ⟨trivial, by omega⟩
  have hac : va.cells = #[va] ∧ vb.cells = #[vb] := by
    obtain ⟨_, _, rfl, _⟩ := ha.form
    obtain ⟨_, _, rfl, _⟩ := hb.form
    exact ⟨rfl, rfl⟩
  refine Wt.chain rfl (Wl.buildSliceN (R := rLs) (Pe := fun _ => True) (xs := [ring.drop old, ring.take old]) (us := [va, vb]) goodLs rfl rfl ⟨by rw [hac.1]; rfl, ⟨va, by rw [hac.1], ha1⟩, by rw [hac.2]; rfl, ⟨vb, by rw [hac.2], hb1⟩, trivial⟩ (by simp) (by simp) fun v2 w2 o2 n2 s2 e2 => ?_)
  have n12 := n1.trans n2
  have z1 := n1.size
  refine Wl.nil ⟨rfl, n12, ?_⟩
  refine Wt.chain rfl (Wl.call (Concat_spec (o2.rd goodLs.mo) (by simp [sumL]; omega)) rfl ?_)
  rintro r w3 ⟨o3, n3⟩
  have n13 := n12.trans n3
  have e3 : [ring.drop old, ring.take old].flatten = t.kept := by rw [h.kp]; simp
  rw [e3] at o3
  have z2 := n2.size
  refine Wl.nil ⟨rfl, n13, ?_⟩
  (repeat' (first | refine Wt.nil ?_ | refine Wt.quiet rfl (Wq.assignE (by conv => { lhs; whnf }) (Wq.nil ?_))))
  (repeat' (first | refine Qseq.normal ?_ | refine Wc.ret ?_))
  exact Qfn.ret1 rfl rfl ⟨_, rfl, o3.mono goodEv.mo (fun k _ hk => by omega) (fun _ _ e => e), n13⟩
theorem kept_nil {w : World} : Calls Tryz.prog 41 #[.pointer none] w (Ret fun r w' => r = .slice none 0 0 ∧ w = w') := by
  refine calls_of_Wc Tryz.func41 rfl Tryz.ntmps41 rfl ?_
  (repeat' (first | refine Wl.moveE (by conv => { lhs; whnf }) ?_ | refine Wl.assignE (by conv => { lhs; whnf }) ?_ | refine Wl.nil ?_ | refine Qseq.normal ?_ | refine Wc.seq ?_ | refine Wc.region ?_))
  refine Wl.peqNil rfl rfl ?_
  (repeat' (first | refine Wl.assignE (by conv => { lhs; whnf }) ?_ | refine Wl.nil ?_ | refine Qseq.normal ?_ | refine Wc.seq ?_ | refine Wc.region ?_ | refine Wc.ret ?_ | refine Qseq.ret ?_ | refine Wc.condT rfl ?_))
  exact Qfn.ret1 rfl rfl ⟨_, rfl, rfl, rfl⟩

/-- An iterator over events. -/
def SeqAt (Pb : Nat → Prop) (w : World) (f : Value) (l : List Ev) : Prop :=
  ∃ bs v, f = .func (.func 71) #[] #[pT bs] ∧ Pb bs ∧ Bk w bs 23 [v] ∧ RdS rEv 6 Pb w v l
theorem SeqAt.keep {Pb : Nat → Prop} {w w' : World} {f : Value} {l : List Ev} (h : SeqAt Pb w f l) (hk : Keep Pb w w') : SeqAt Pb w' f l := by
  obtain ⟨bs, v, e, hb, h1, h2⟩ := h
  exact ⟨bs, v, e, hb, h1.keep hk hb, h2.keep (stable_flat _) hk⟩
theorem Values_spec {Pb : Nat → Prop} {w : World} {v : Value} {l : List Ev} (h : RdS rEv 6 Pb w v l) :
    Calls Tryz.prog 40 #[v] w (Ret fun r w' => SeqAt (fun k => Pb k ∨ w.heap.size ≤ k) w' r l ∧ New w w') := by
  have hv : v.cells = #[v] := by obtain ⟨_, _, rfl, _⟩ := h.form; rfl
  refine calls_of_Wc Tryz.func40 rfl Tryz.ntmps40 rfl ?_
  (repeat' (first | refine Wc.seq ?_ | refine Wc.region ?_))
  refine Wl.box rfl fun w1 b1 n1 s1 => ?_
  replace b1 : Bk w1 w.heap.size 23 v.cells.toList := b1
  rw [hv] at b1
  (repeat' (first | refine Wl.assignE (by conv => { lhs; whnf }) ?_ | refine Wl.nil ?_ | refine Qseq.normal ?_ | refine Wc.seq ?_ | refine Wc.region ?_))
  refine Wl.makeFunc (first := []) (cap := [.tmp 1]) rfl rfl ?_
  (repeat' (first | refine Wl.assignE (by conv => { lhs; whnf }) ?_ | refine Wl.nil ?_ | refine Qseq.normal ?_ | refine Wc.ret ?_))
  exact Qfn.ret1 rfl rfl ⟨_, rfl, ⟨_, _, rfl, .inr (Nat.le_refl _), b1, (h.keep (stable_flat _) n1.keep).mono (mono_flat _) fun k _ hk => .inl hk⟩, n1⟩
theorem Each_spec {Pb : Nat → Prop} {w : World} {b : Nat} {t : Tr} (h : Rg Pb w b t) : Calls Tryz.prog 27 #[pT b] w (Ret fun r w' => SeqAt (fun k => w.heap.size ≤ k) w' r t.kept ∧ New w w') := by
  refine calls_of_Wc Tryz.func27 rfl Tryz.ntmps27 rfl ?_
  (repeat' (first | refine Wl.moveE (by conv => { lhs; whnf }) ?_ | refine Wl.assignE (by conv => { lhs; whnf }) ?_ | refine Wl.nil ?_ | refine Qseq.normal ?_ | refine Wc.seq ?_ | refine Wc.region ?_))
  refine Wl.call (kept_spec h) rfl ?_
  rintro v w1 ⟨o1, n1⟩
  have z1 := n1.size
  refine Wl.call (Values_spec (o1.rd goodEv.mo)) rfl ?_
  rintro f w2 ⟨⟨bs, u, rfl, h1, h2, h3⟩, n2⟩
  (repeat' (first | refine Wl.assignE (by conv => { lhs; whnf }) ?_ | refine Wl.nil ?_ | refine Qseq.normal ?_ | refine Wc.ret ?_))
  refine Qfn.ret1 rfl rfl ⟨_, rfl, ⟨bs, u, rfl, ?_, h2, h3.mono (mono_flat _) fun k _ hk => ?_⟩, n1.trans n2⟩
  · rcases h1 with (h1 | h1) | h1
    · exact h1
    · exact h1.elim
    · omega
  · rcases hk with (hk | hk) | hk
    · exact hk
    · exact hk.elim
    · omega
theorem Each_nil {w : World} : Calls Tryz.prog 27 #[.pointer none] w (Ret fun r w' => SeqAt (fun k => w.heap.size ≤ k) w' r [] ∧ New w w') := by
  refine calls_of_Wc Tryz.func27 rfl Tryz.ntmps27 rfl ?_
  (repeat' (first | refine Wl.moveE (by conv => { lhs; whnf }) ?_ | refine Wl.assignE (by conv => { lhs; whnf }) ?_ | refine Wl.nil ?_ | refine Qseq.normal ?_ | refine Wc.seq ?_ | refine Wc.region ?_))
  refine Wl.call kept_nil rfl ?_
  rintro v _ ⟨rfl, rfl⟩
  refine Wl.call (Values_spec (Pb := No) RdS.nil) rfl ?_
  rintro f w2 ⟨⟨bs, u, rfl, h1, h2, h3⟩, n2⟩
  (repeat' (first | refine Wl.assignE (by conv => { lhs; whnf }) ?_ | refine Wl.nil ?_ | refine Qseq.normal ?_ | refine Wc.ret ?_))
  refine Qfn.ret1 rfl rfl ⟨_, rfl, ⟨bs, u, rfl, ?_, h2, h3.mono (mono_flat _) fun k _ hk => ?_⟩, n2⟩
  · rcases h1 with h1 | h1
    · exact h1.elim
    · omega
  · rcases hk with hk | hk
    · exact hk.elim
    · omega
end Go.Proofs.YtjaendlcijmifaaGreatDoor

namespace Go.Proofs.YtjaendlcijmifaaGreatDoor.Wk
open Go Go.RowKit

/-! ### The code of a round -/
/-- In no round, or in one. -/
abbrev FR : Option Nat → Fence
  | none => Fence.wide
  | some r => Fence.wide.inRound r
def plainL (l : List Oper) : Bool := l.all fun o => match o.op with | .defer _ => false | _ => true
section
variable {P : Program} {r : Option Nat}
theorem uponIn_of {o : Oper} {a : Act} {next next' : Act → World → Prop} {Q : Exit → Act → World → Prop} {res : Result Next} (hn : ∀ a w, next a w → next' a w) (h : o.upon P a next Q res) : o.uponIn (FR r) 0 P a next' Q res := by
  cases r <;> cases res with
  | ok v w =>
    cases v with
    | value v => exact hn _ _ h
    | skip => exact hn _ _ h
    | defer d => exact hn _ _ h
    | enter f args =>
      refine ⟨fun _ => by simp [FR, Fence.wide] at *, ?_⟩
      refine CallsIn.mono (show CallsIn Fence.wide 0 P f args w _ from (callsIn_wide (n := 0)).2 h) ?_
      intro e w' he
      cases e with
      | returned v => exact hn _ _ he
      | panicked c => exact he
      | outgrown => exact he
    | row row args =>
      refine ⟨fun _ => by simp [FR, Fence.wide] at *, ?_⟩
      intro c cs _
      obtain ⟨v, w', hr, hs⟩ := h c cs
      exact ⟨v, w', hn _ _ hr, stepsIn_wide.2 hs⟩
    | _ => exact h.elim
  | halt e w =>
    cases e <;> exact h
theorem listIn_of {ops : Array Oper} {Q : Exit → Act → World → Prop} (hout : ¬ LetsOut Q) : ∀ (l : List Oper), plainL l = true → ∀ a w, wpList P ops Q l a w → wpListIn (FR r) 0 P ops Q l a w
  | [], _, _, _, h => h
  | o :: l, hl, a, w, h => by
    unfold plainL at hl
    rw [List.all_cons, Bool.and_eq_true] at hl
    have ih := listIn_of (ops := ops) hout l hl.2
    have ho : ∀ c, o.op ≠ .defer c := fun c e => by have := hl.1; rw [e] at this; cases this
    unfold wpList at h
    unfold wpListIn
    have triv : ∀ f, (FR r).fn f := by cases r <;> exact fun _ => trivial
    split
    · rename_i hw
      rw [if_pos hw] at h
      rcases h with h | ⟨_, h⟩
      · refine ⟨fun f _ => triv f, ?_⟩
        rw [Oper.semAt_eq _ _ _ ho]
        exact uponIn_of ih h
      · exact absurd h hout
    · rename_i hw
      rw [if_neg hw] at h
      exact ⟨fun f _ => triv f, ih _ _ h⟩
end
def Wr (P : Program) (n : Nat) (r : Option Nat) (Q : Po) (c : Code) (F : Fr) (w : World) : Prop := c.wpIn (FR r) 0 P (QA n [] Q) (act n [] F) w
def Qsr (P : Program) (n : Nat) (r : Option Nat) (b : Code) (Q : Po) : Po
  | .normal, F, w => Wr P n r Q b F w
  | e, F, w => Q e F w
section
variable {P : Program} {n : Nat} {r : Option Nat} {Q : Po} {F : Fr} {w : World}
theorem Wr.seq {a b : Code} (h : Wr P n r (Qsr P n r b Q) a F w) : Wr P n r Q (.seq a b) F w := by
  refine wpIn_seq (wpIn_mono h ?_)
  rintro e a' w' ⟨F', rfl, hq⟩
  cases e <;> first | exact hq | exact ⟨F', rfl, hq⟩
theorem Wr.region {id : Nat} {l : List Oper} (hl : plainL l = true) (hQ : ∀ F w, ¬ Q .outgrown F w) (h : Wl P n [] Q l l F w) : Wr P n r Q (.region id l.toArray false) F w := by
  unfold Wl at h
  exact wpIn_region_lit (listIn_of (fun hx => by obtain ⟨a, w, F', _, hq⟩ := hx; exact hQ F' w hq) l hl _ _ h)
theorem Wr.block {id : Nat} {c : Code} (h : Wr P n r (Qblk id Q) c F w) : Wr P n r Q (.block id c) F w := by
  refine wpIn_block (wpIn_mono h ?_)
  rintro e a' w' ⟨F', rfl, hq⟩
  unfold Qblk at hq
  cases e with
  | exit j =>
    simp only at hq
    simp only [Exit.inBlock]
    split <;> rename_i hj
    · rw [if_pos hj] at hq; exact ⟨F', rfl, hq⟩
    · rw [if_neg hj] at hq; exact ⟨F', rfl, hq⟩
  | _ => exact ⟨F', rfl, hq⟩
theorem Wr.skip (h : Q .normal F w) : Wr P n r Q .skip F w := wpIn_skip ⟨F, rfl, h⟩
theorem Wr.exit {id : Nat} (h : Q (.exit id) F w) : Wr P n r Q (.exit id) F w := wpIn_exit ⟨F, rfl, h⟩
theorem Wr.ret (h : Q .ret F w) : Wr P n r Q .ret F w := wpIn_ret ⟨F, rfl, h⟩
theorem Wr.condT {c : Operand} {x y : Code} (hc : ev n F c = .bool true) (h : Wr P n r Q x F w) : Wr P n r Q (.cond c x y) F w := wpIn_cond_true (act_eval.trans hc) h
theorem Wr.condF {c : Operand} {x y : Code} (hc : ev n F c = .bool false) (h : Wr P n r Q y F w) : Wr P n r Q (.cond c x y) F w := wpIn_cond_false (act_eval.trans hc) h
theorem Qsr.normal {b : Code} (h : Wr P n r Q b F w) : Qsr P n r b Q .normal F w := h
theorem Qsr.exit {b : Code} {id : Nat} (h : Q (.exit id) F w) : Qsr P n r b Q (.exit id) F w := h
theorem Qsr.ret {b : Code} (h : Q .ret F w) : Qsr P n r b Q .ret F w := h
theorem Qsr.out {b : Code} (h : ∀ F w, ¬ Q .outgrown F w) : ∀ F w, ¬ Qsr P n r b Q .outgrown F w := h
theorem Qblk.out {id : Nat} (h : ∀ F w, ¬ Q .outgrown F w) : ∀ F w, ¬ Qblk id Q .outgrown F w := by unfold Qblk; exact h
end
/-! ### A region in which yield is called -/
section
variable {P : Program} {n : Nat} {r : Option Nat} {ops : Array Oper} {Q : Exit → Act → World → Prop}
structure Qap (F : Fence) (P : Program) (ops : Array Oper) (Q Q1 : Exit → Act → World → Prop) (l2 : List Oper) : Prop where
  nm : ∀ a w, Q1 .normal a w → wpListIn F 0 P ops Q l2 a w
  pn : ∀ c a w, Q1 (.panic c) a w → Q (.panic c) a w
  out : LetsOut Q1 → LetsOut Q
theorem uponIn_app {F : Fence} {o : Oper} {l2 : List Oper} {Q1 : Exit → Act → World → Prop} (q : Qap F P ops Q Q1 l2) {a : Act} {K K' : Act → World → Prop} (hK : ∀ a w, K a w → K' a w) {res : Result Next} (h : o.uponIn F 0 P a K Q1 res) : o.uponIn F 0 P a K' Q res := by
  cases res with
  | ok v w =>
    cases v with
    | value v => exact hK _ _ h
    | skip => exact hK _ _ h
    | defer d => exact hK _ _ h
    | enter f args =>
      refine ⟨h.1, h.2.mono fun e w' he => ?_⟩
      cases e with
      | returned v => exact hK _ _ he
      | panicked c => exact q.pn _ _ _ he
      | outgrown => exact q.out he
    | row row args => exact ⟨h.1, h.2.mono fun v w' he => hK _ _ he⟩
    | round l f tmps asg bd =>
      refine ⟨h.1, h.2.mono fun e w' he => ?_⟩
      cases e with
      | returned v => exact hK _ _ he
      | panicked c => exact q.pn _ _ _ he
      | outgrown => exact q.out he
    | _ => exact h.elim
  | halt e w =>
    cases e with
    | panic v => exact q.pn _ _ _ h
    | _ => exact h
theorem listIn_app {F : Fence} {l2 : List Oper} {Q1 : Exit → Act → World → Prop} (q : Qap F P ops Q Q1 l2) : ∀ (l1 : List Oper) (a : Act) (w : World), wpListIn F 0 P ops Q1 l1 a w → wpListIn F 0 P ops Q (l1 ++ l2) a w
  | [], _, _, h => q.nm _ _ h
  | o :: l1, a, w, h => by
    rw [List.cons_append]
    unfold wpListIn at h ⊢
    split
    · rename_i hw
      rw [if_pos hw] at h
      exact ⟨h.1, uponIn_app q (fun a w => listIn_app q l1 a w) h.2⟩
    · rename_i hw
      rw [if_neg hw] at h
      exact ⟨h.1, listIn_app q l1 _ _ h.2⟩
end
theorem Wr.regionY {P : Program} {n : Nat} {r : Option Nat} {Q : Po} {F : Fr} {w : World} {id : Nat} {l1 l2 l : List Oper} {d : Nat} {g x : Operand} {ts : Array TypeId} {ty : TypeId} {pos : String} {aft : Array Edge}
    (hl : l = l1 ++ ⟨some d, .call { callee := .value g, args := #[x], argTypes := ts }, ty, pos, aft, none⟩ :: l2) (h1 : plainL l1 = true) (h2 : plainL l2 = true) (hQ : ∀ F w, ¬ Q .outgrown F w)
    (h : Wl P n [] (fun e F' w' => e = .normal ∧ ∃ L v, ev n F' g = .func (.yield L) #[] #[] ∧ ev n F' x = v ∧ YieldAt Fence.wide 0 P L #[v] w' fun e w'' => ∃ u, e = .returned u ∧ Wl P n [] Q l l2 (upd F' d u) w'') l l1 F w) :
    Wr P n r Q (.region id l.toArray false) F w := by
  unfold Wl at h
  refine wpIn_region_lit ?_
  have hout : ¬ LetsOut (QA n [] Q) := fun hx => by obtain ⟨a, w, F', _, hq⟩ := hx; exact hQ F' w hq
  have key : ∀ a w, wpListIn (FR r) 0 P l.toArray (QA n [] Q) (l1 ++ ⟨some d, .call { callee := .value g, args := #[x], argTypes := ts }, ty, pos, aft, none⟩ :: l2) a w → wpListIn (FR r) 0 P l.toArray (QA n [] Q) l a w := by
    intro a w h'; rw [← hl] at h'; exact h'
  refine key _ _ (listIn_app ⟨?_, ?_, ?_⟩ l1 _ _ (listIn_of (fun hx => ?_) l1 h1 _ _ h))
  rotate_left
  · rintro c a w ⟨F', _, hq, _⟩; cases hq
  · rintro ⟨a, w, F', _, hq, _⟩; cases hq
  · obtain ⟨a, w, F', _, hq, _⟩ := hx; cases hq
  · rintro a w' ⟨F', rfl, _, L, v, hg, hx, fn, tmps, asg, bd, hy, hR⟩
    show wpListIn (FR r) 0 P l.toArray (QA n [] Q) (_ :: l2) _ w'
    unfold wpListIn
    split
    rotate_left
    · rename_i hw; exact absurd rfl hw
    refine ⟨fun f _ => by cases r <;> trivial, ?_⟩
    have e : (execOp (ev n F') ⟨some d, .call { callee := .value g, args := #[x], argTypes := ts }, ty, pos, aft, none⟩).run P w' = .ok (.round L fn tmps asg bd) w' := by
      simp only [execOp, resolve, hg, Deferred.ofValue, Sem.run_bind, Sem.run_pure, Result.andThen_ok, invoke]
      simpa [hx] using hy
    rw [Oper.semAt_eq _ _ _ (fun c h => by cases h), act_eval', e, Oper.uponIn_round]
    refine ⟨fun h => by cases r <;> simp [FR, Fence.wide] at h, RoundIn.mono (show RoundIn (FR r) (0 - 1) P L fn tmps asg bd w' _ by cases r <;> exact hR) ?_⟩
    rintro _ w'' ⟨u, rfl, hw⟩
    show wpListIn (FR r) 0 P l.toArray (QA n [] Q) l2 _ w''
    rw [act_put]
    exact listIn_of hout l2 h2 _ _ hw
theorem Qfn.out {P : Program} {n : Nat} {fn : Func} {R : Ending → World → Prop} (h : ∀ w, ¬ R .outgrown w) : ∀ F w, ¬ Qfn P n fn R .outgrown F w := by unfold Qfn; exact fun _ w => h w
attribute [irreducible] Wr Qsr
end Go.Proofs.YtjaendlcijmifaaGreatDoor.Wk

namespace Go.Proofs.YtjaendlcijmifaaGreatDoor.Wk
open Go Go.RowKit

/-! ### Code whose deferred calls grow (a mark is pushed by a range over a function) -/
abbrev Pd := Exit → List Deferred → Fr → World → Prop
def QD (n : Nat) (Q : Pd) : Exit → Act → World → Prop := fun e a w => ∃ ds F, a = act n ds F ∧ Q e ds F w
def Wd (P : Program) (n : Nat) (Q : Pd) (c : Code) (ds : List Deferred) (F : Fr) (w : World) : Prop := c.wp P (QD n Q) (act n ds F) w
def Qds (P : Program) (n : Nat) (b : Code) (Q : Pd) : Pd
  | .normal, ds, F, w => Wd P n Q b ds F w
  | e, ds, F, w => Q e ds F w
def Qdb (id : Nat) (Q : Pd) : Pd
  | .exit j, ds, F, w => if j = id then Q .normal ds F w else Q (.exit j) ds F w
  | e, ds, F, w => Q e ds F w
def Qdn (Q : Pd) (ds : List Deferred) : Po := fun e F w => Q e ds F w
section
variable {P : Program} {n : Nat} {ds : List Deferred} {Q : Pd} {F : Fr} {w : World}
theorem Wd.of {c : Code} (h : Wc P n ds (Qdn Q ds) c F w) : Wd P n Q c ds F w := by
  unfold Wc at h
  refine wp_mono h ?_
  rintro e a w ⟨F', rfl, hq⟩
  exact ⟨ds, F', rfl, hq⟩
theorem Wd.seq {a b : Code} (h : Wd P n (Qds P n b Q) a ds F w) : Wd P n Q (.seq a b) ds F w := by
  refine wp_seq (wp_mono h ?_)
  rintro e a' w' ⟨ds', F', rfl, hq⟩
  cases e <;> first | exact hq | exact ⟨ds', F', rfl, hq⟩
theorem Wd.block {id : Nat} {c : Code} (h : Wd P n (Qdb id Q) c ds F w) : Wd P n Q (.block id c) ds F w := by
  refine wp_block (wp_mono h ?_)
  rintro e a' w' ⟨ds', F', rfl, hq⟩
  unfold Qdb at hq
  cases e with
  | exit j =>
    simp only at hq
    simp only [Exit.inBlock]
    split <;> rename_i hj
    · rw [if_pos hj] at hq; exact ⟨ds', F', rfl, hq⟩
    · rw [if_neg hj] at hq; exact ⟨ds', F', rfl, hq⟩
  | _ => exact ⟨ds', F', rfl, hq⟩
theorem Wd.region {id : Nat} {l : List Oper} (h : Wl P n ds (Qdn Q ds) l l F w) : Wd P n Q (.region id l.toArray false) ds F w := .of (.region h)
theorem Wd.skip (h : Q .normal ds F w) : Wd P n Q .skip ds F w := wp_skip ⟨ds, F, rfl, h⟩
theorem Wd.exit {id : Nat} (h : Q (.exit id) ds F w) : Wd P n Q (.exit id) ds F w := wp_exit ⟨ds, F, rfl, h⟩
theorem Wd.ret (h : Q .ret ds F w) : Wd P n Q .ret ds F w := wp_ret ⟨ds, F, rfl, h⟩
theorem Qdn.e {e : Exit} (h : Q e ds F w) : Qdn Q ds e F w := h
theorem Qds.normal {b : Code} (h : Wd P n Q b ds F w) : Qds P n b Q .normal ds F w := h
theorem Qds.exit {b : Code} {id : Nat} (h : Q (.exit id) ds F w) : Qds P n b Q (.exit id) ds F w := h
theorem Qds.ret {b : Code} (h : Q .ret ds F w) : Qds P n b Q .ret ds F w := h
theorem Qdb.normal {id : Nat} (h : Q .normal ds F w) : Qdb id Q .normal ds F w := h
theorem Qdb.ret {id : Nat} (h : Q .ret ds F w) : Qdb id Q .ret ds F w := h
theorem Qdb.hit {id : Nat} (h : Q .normal ds F w) : Qdb id Q (.exit id) ds F w := by simp only [Qdb, if_pos]; exact h
theorem Qdb.miss {id j : Nat} (hj : Nat.beq j id = false) (h : Q (.exit j) ds F w) : Qdb id Q (.exit j) ds F w := by
  simp only [Qdb]; rw [if_neg (Nat.ne_of_beq_eq_false hj)]; exact h
theorem Wd.condT {c : Operand} {x y : Code} (hc : ev n F c = .bool true) (h : Wd P n Q x ds F w) : Wd P n Q (.cond c x y) ds F w := wp_cond_true (act_eval.trans hc) h
theorem Wd.condF {c : Operand} {x y : Code} (hc : ev n F c = .bool false) (h : Wd P n Q y ds F w) : Wd P n Q (.cond c x y) ds F w := wp_cond_false (act_eval.trans hc) h

/-- A cut: what the first part leaves is told. -/
theorem Wd.cut {a b : Code} (S : List (Nat × Value) → Prop) (M : List (Nat × Value) → World → Prop)
    (h1 : Wd P n (fun e ds' F w => e = .normal ∧ ds' = ds ∧ ∃ l, agrees F l ∧ S l ∧ M l w) a ds F w) (h2 : ∀ l G w, S l → M l w → Wd P n Q b ds (upds G l) w) : Wd P n Q (.seq a b) ds F w := by
  refine Wd.seq ?_
  unfold Wd at h1 ⊢
  refine wp_mono h1 ?_
  rintro e a' w' ⟨ds', F', rfl, rfl, rfl, l, hF, hS, hM⟩
  refine ⟨_, F', rfl, ?_⟩
  unfold Qds
  have := h2 l F' w' hS hM
  rw [upds_of_agrees hF] at this
  exact this

/-! ### A function's entry and end -/
def Lv (P : Program) (n : Nat) (fn : Func) (R : Ending → World → Prop) (ds : List Deferred) (F : Fr) (u : FrameMode) (w : World) : Prop := LeavesInM Fence.wide 0 P fn (arr n F) R ds u w
def Qdf (P : Program) (n : Nat) (fn : Func) (R : Ending → World → Prop) : Pd
  | .normal, ds, F, w | .ret, ds, F, w => Lv P n fn R ds F .returning w
  | .panic chain, ds, F, w => Lv P n fn R ds F (.panicking chain) w
  | .outgrown, _, _, w => R .outgrown w
  | _, _, _, _ => False
theorem calls_of_Wd {f : FuncId} {fn : Func} {c : Code} {l : List Value} {R : Ending → World → Prop} (hf : P.funcs[f]? = some fn) (hb : fn.body = some c) (hn : fn.ntmps = n)
    (hl : Nat.ble l.length n = true) (h : Wd P n (Qdf P n fn R) c [] (ofArgs l) w) : Calls P f l.toArray w R := by
  refine (callsIn_wide (n := 0)).1 (callsIn_of_wp_marks (F := Fence.wide) hf hb trivial (wpIn_wide.2 ?_) rfl)
  rw [hn, act_ofArgs l n (Nat.le_of_ble_eq_true hl)]
  refine wp_mono h ?_
  rintro e a w ⟨ds, F, rfl, hq⟩
  cases e <;> exact hq
theorem Lv.mark {fn : Func} {R : Ending → World → Prop} {D : Nat} {u : FrameMode} (hu : u ≠ .run) (hD : w.heap[D]? = some (.deferred (some []))) (h : Lv P n fn R ds F u (w.putObj D (.deferred none))) :
    Lv P n fn R ({ target := .collected D, args := #[] } :: ds) F u w := ⟨hu, .inl ⟨D, _, rfl, run_takeDeferred hD, h⟩⟩
theorem Lv.ret {fn : Func} {R : Ending → World → Prop} {v : Value} (h : (results fn (arr n F)).run P w = .ok v w) (k : R (.returned v) w) : Lv P n fn R [] F .returning w := ⟨_, h, k⟩
end

/-! ### What an iterator promises; the statement -/
/-- The iterator calls yield with x 0, x 1, .. x (N - 1), as long as yield answers true; nothing else turns. -/
def Iter (P : Program) (gf : FuncId) (lb : Array Value) (N : Nat) (x : Nat → Value) (Rd : World → Prop) : Prop :=
  ∀ (l : Nat) (J : Nat → World → Prop) (Jx : World → Prop) (W : World), (∀ k W, J k W → Rd W) → (∀ k W W', J k W → New W W' → J k W') →
    (∀ k W, k < N → J k W → YieldAt Fence.wide 0 P l #[x k] W fun e W' => (e = .returned (.bool true) ∧ J (k + 1) W') ∨ (e = .returned (.bool false) ∧ Jx W')) →
    J 0 W → CallsIn Fence.wide 0 P gf (#[.func (.yield l) #[] #[]] ++ lb) W fun e W' => (∃ v, e = .returned v) ∧ (J N W' ∨ Jx W')
/-- How a round ends: the record and the block of the mark as they lay. -/
def Qrd (L D : Nat) (W0 : World) (I : World → Prop) (Ix : Code → World → Prop) : Po
  | .normal, _, W => W.heap[L]? = W0.heap[L]? ∧ W.heap[D]? = W0.heap[D]? ∧ I W
  | .ret, _, W => W.heap[L]? = W0.heap[L]? ∧ W.heap[D]? = W0.heap[D]? ∧ Ix .ret W
  | .exit id, _, W => W.heap[L]? = W0.heap[L]? ∧ W.heap[D]? = W0.heap[D]? ∧ Ix (.exit id) W
  | _, _, _ => False
def Qas (K : Fr → World → Prop) : Po
  | .normal, F, W => K F W
  | _, _, _ => False
theorem Qrd.out {L D : Nat} {W0 : World} {I : World → Prop} {Ix : Code → World → Prop} : ∀ F w, ¬ Qrd L D W0 I Ix .outgrown F w := fun _ _ h => h
theorem Qas.out {K : Fr → World → Prop} : ∀ F w, ¬ Qas K .outgrown F w := fun _ _ h => h
section
variable {P : Program} {n : Nat} {ds : List Deferred} {Q : Pd} {F : Fr} {w : World}
theorem Wd.range {g : Operand} {p : Nat} {assign body : Code} {gf : Nat} {lb : Array Value} {N : Nat} {x : Nat → Value} {Rd : World → Prop}
    (hg : ev n F g = .func (.func gf) #[] lb) (eg : ∀ args w, (callFunc gf args).run P w = .ok (.enter gf args) w) (it : Iter P gf lb N x Rd)
    (I : Nat → World → Prop) (Ix : Code → World → Prop)
    (hRd : ∀ k W, I k W → Rd W)
    (sN : ∀ k W W', I k W → New W W' → I k W')
    (sI : ∀ k W r r', I k W → W.heap[w.heap.size + 1]? = some (.loop r) → I k (W.putObj (w.heap.size + 1) (.loop r')))
    (sX : ∀ c W r r', Ix c W → W.heap[w.heap.size + 1]? = some (.loop r) → Ix c (W.putObj (w.heap.size + 1) (.loop r')))
    (h0 : ∀ r, I 0 ((w.alloc (.deferred (some []))).alloc (.loop r)))
    (hround : ∀ k W r, k < N → I k W → W.heap[w.heap.size + 1]? = some (.loop r) → W.heap[w.heap.size]? = some (.deferred (some [])) →
      Wr P n (some (w.heap.size + 1)) (Qas fun F' W' => New W W' ∧ ∀ r', Wr P n (some (w.heap.size + 1)) (Qrd (w.heap.size + 1) w.heap.size (W'.putObj (w.heap.size + 1) (.loop r')) (I (k + 1)) Ix) body F' (W'.putObj (w.heap.size + 1) (.loop r'))) assign (upd F p (x k)) W)
    (hdone : ∀ W, I N W → W.heap[w.heap.size]? = some (.deferred (some [])) → Q .normal ({ target := .collected w.heap.size, args := #[] } :: ds) F W)
    (hret : ∀ W, Ix .ret W → W.heap[w.heap.size]? = some (.deferred (some [])) → Q .ret ({ target := .collected w.heap.size, args := #[] } :: ds) F W)
    (hexit : ∀ id W, Ix (.exit id) W → W.heap[w.heap.size]? = some (.deferred (some [])) → Q (.exit id) ({ target := .collected w.heap.size, args := #[] } :: ds) F W) :
    Wd P n Q (.rangeFunc g #[p] assign body) ds F w := by
  refine (wpIn_wide (n := 0)).1 (wpIn_rangeFunc ?_)
  intro fn _
  obtain ⟨rec, hrec⟩ : ∃ rec : LoopState → Option Code → Loop, rec = fun st pe => { state := st, pending := pe, fn, tmps := arr n F, params := #[p], assign, body, defers := w.heap.size } := ⟨_, rfl⟩
  obtain ⟨W1, hW1⟩ : ∃ W1, (w.alloc (.deferred (some []))).alloc (.loop (rec .ready none)) = W1 := ⟨_, rfl⟩
  have hL1 : W1.heap[w.heap.size + 1]? = some (.loop (rec .ready none)) := by
    rw [← hW1]; have := World.alloc_heap_new (w.alloc (.deferred (some []))) (.loop (rec .ready none)); rwa [World.size_alloc] at this
  have hK1 : W1.heap[w.heap.size]? = some (.deferred (some [])) := by
    rw [← hW1]; exact (Below.heap_alloc _ _ _ (by simp)).trans (World.alloc_heap_new w _)
  have hI1 : I 0 W1 := by rw [← hW1]; exact h0 _
  refine ⟨w.heap.size + 1, [{ target := .collected w.heap.size, args := #[] }], W1, { target := .fn (.func gf) lb, args := #[.func (.yield (w.heap.size + 1)) #[] #[]] }, W1, gf,
    #[.func (.yield (w.heap.size + 1)) #[] #[]] ++ lb, W1, ?_, ?_, ?_, ?_, fun h => by simp [Fence.wide] at h, ?_⟩
  · rw [← hW1, hrec]; exact run_enterLoop_outer _ _ _ _ _
  · simp only [resolve, act_eval, hg]
    simp [go_sem]
  · exact fun _ _ => trivial
  · simp [invoke, go_sem, eg]
  · refine (it (w.heap.size + 1)
      (fun k W => I k W ∧ W.heap[w.heap.size + 1]? = some (.loop (rec .ready none)) ∧ W.heap[w.heap.size]? = some (.deferred (some [])))
      (fun W => ∃ c, (c = .ret ∨ ∃ id, c = .exit id) ∧ Ix c W ∧ W.heap[w.heap.size + 1]? = some (.loop (rec .done (some c))) ∧ W.heap[w.heap.size]? = some (.deferred (some [])))
      W1 (fun k W h => hRd k W h.1) (fun k W W' h n => ⟨sN k W W' h.1 n, (n.block _ (Array.getElem?_eq_some_iff.1 h.2.1).1 id).trans h.2.1, (n.block _ (Array.getElem?_eq_some_iff.1 h.2.2).1 id).trans h.2.2⟩) ?_ ⟨hI1, hL1, hK1⟩).mono ?_
    · -- one round
      rintro k W hk ⟨hi, hl, hd⟩
      have hlt : w.heap.size + 1 < W.heap.size := (Array.getElem?_eq_some_iff.1 hl).1
      have hy := run_yield (P := P) (args := #[x k]) hl (by rw [hrec]; rfl)
      rw [hrec] at hy
      have hz : ((#[p].zip #[x k]).foldl (fun tmps (t, a) => tmps.setIfInBounds t a) (arr n F)) = arr n (upd F p (x k)) := by
        simp [arr_put]
      refine ⟨fn, _, assign, body, hy, roundIn_of_wpIn (F := Fence.wide) (n := 0) trivial ?_⟩
      dsimp only
      rw [hz]
      have hA := hround k W _ hk hi hl hd
      unfold Wr at hA
      refine wpIn_mono hA ?_
      rintro e a w1 ⟨F', rfl, hq⟩
      cases e with
      | normal =>
        obtain ⟨hn, hq⟩ := hq
        have hl' := (hn.block _ hlt id).trans hl
        have hd' := (hn.block _ (Nat.lt_of_succ_lt hlt) id).trans hd
        have hlt' : w.heap.size + 1 < w1.heap.size := (Array.getElem?_eq_some_iff.1 hl').1
        refine ⟨_, run_beginRound hl' (by rw [hrec]), ?_⟩
        have hl2 : (w1.putObj (w.heap.size + 1) (.loop { rec .ready none with state := .busy })).heap[w.heap.size + 1]? = some (.loop { rec .ready none with state := .busy }) := World.putObj_heap_same hlt'
        have hd2 : (w1.putObj (w.heap.size + 1) (.loop { rec .ready none with state := .busy })).heap[w.heap.size]? = some (.deferred (some [])) := (World.putObj_heap_other (by omega)).trans hd'
        have hB := hq { rec .ready none with state := .busy }
        unfold Wr at hB
        refine wpIn_mono hB ?_
        have fin : ∀ (jump : Option Code) (W3 : World), W3.heap[w.heap.size + 1]? = some (.loop { rec .ready none with state := .busy }) → W3.heap[w.heap.size]? = some (.deferred (some [])) →
            (Instr.endRound (w.heap.size + 1) jump).run P W3 = .ok (.bool jump.isNone) (W3.putObj (w.heap.size + 1) (.loop (rec (if jump.isNone then .ready else .done) jump))) ∧
            (W3.putObj (w.heap.size + 1) (.loop (rec (if jump.isNone then .ready else .done) jump))).heap[w.heap.size + 1]? = some (.loop (rec (if jump.isNone then .ready else .done) jump)) ∧
            (W3.putObj (w.heap.size + 1) (.loop (rec (if jump.isNone then .ready else .done) jump))).heap[w.heap.size]? = some (.deferred (some [])) := fun jump W3 h3 h4 => by
          have := run_endRound (P := P) jump h3
          rw [hrec] at this ⊢
          exact ⟨this, World.putObj_heap_same (Array.getElem?_eq_some_iff.1 h3).1, (World.putObj_heap_other (by omega)).trans h4⟩
        rintro e a3 W3 ⟨F3, rfl, hq3⟩
        cases e with
        | normal =>
          obtain ⟨h3, h4, h5⟩ := hq3
          obtain ⟨hr, hl4, hk4⟩ := fin none W3 (h3.trans hl2) (h4.trans hd2)
          exact ⟨_, _, hr, .inl ⟨rfl, sI _ _ _ _ h5 (h3.trans hl2), hl4, hk4⟩⟩
        | ret =>
          obtain ⟨h3, h4, h5⟩ := hq3
          obtain ⟨hr, hl4, hk4⟩ := fin (some .ret) W3 (h3.trans hl2) (h4.trans hd2)
          exact ⟨_, _, hr, .inr ⟨rfl, .ret, .inl rfl, sX _ _ _ _ h5 (h3.trans hl2), hl4, hk4⟩⟩
        | exit id =>
          obtain ⟨h3, h4, h5⟩ := hq3
          obtain ⟨hr, hl4, hk4⟩ := fin (some (.exit id)) W3 (h3.trans hl2) (h4.trans hd2)
          exact ⟨_, _, hr, .inr ⟨rfl, .exit id, .inr ⟨id, rfl⟩, sX _ _ _ _ h5 (h3.trans hl2), hl4, hk4⟩⟩
        | goto t => exact hq3.elim
        | panic ch => exact hq3.elim
        | outgrown => exact hq3.elim
      | exit id => exact hq.elim
      | goto t => exact hq.elim
      | ret => exact hq.elim
      | panic ch => exact hq.elim
      | outgrown => exact hq.elim
    · -- behind the iterator
      rintro e W2 ⟨⟨v, rfl⟩, (⟨hi, hl, hk⟩ | ⟨c, hc, hi, hl, hk⟩)⟩
      · refine ⟨none, _, by have := run_endLoop (P := P) hl (by rw [hrec]; simp); rw [hrec] at this; exact this, ?_⟩
        exact ⟨_, _, rfl, hdone _ (sI _ _ _ _ hi hl) ((World.putObj_heap_other (by omega)).trans hk)⟩
      · refine ⟨some c, _, by have := run_endLoop (P := P) hl (by rw [hrec]; simp); rw [hrec] at this; exact this, ?_⟩
        rcases hc with rfl | ⟨id, rfl⟩
        · exact wpIn_ret ⟨_, _, rfl, hret _ (sX _ _ _ _ hi hl) ((World.putObj_heap_other (by omega)).trans hk)⟩
        · exact wpIn_exit ⟨_, _, rfl, hexit _ _ (sX _ _ _ _ hi hl) ((World.putObj_heap_other (by omega)).trans hk)⟩
end
/-! ### Loops within a round -/
section
variable {P : Program} {n : Nat} {r : Option Nat} {Q : Po} {F : Fr} {w : World}
theorem Wr.loop {σ : Type} (S : σ → List (Nat × Value)) (I : σ → World → Prop) (μ : σ → Nat) (s0 : σ) {c : Code}
    (hF : agrees F (S s0)) (h0 : I s0 w) (step : ∀ s G w, I s w → Wr P n r (Qloop S I μ s Q) c (upds G (S s)) w) : Wr P n r Q (.loop c) F w := by
  unfold Wr at *
  let J : Act → World → Nat → Prop := fun a w m => ∃ s F, a = act n [] F ∧ agrees F (S s) ∧ I s w ∧ μ s = m
  refine wpIn_loop (fun a w => ∃ m, J a w m) (fun a w => least (J a w)) ⟨_, s0, F, rfl, hF, h0, rfl⟩ ?_
  intro a w hJ
  obtain ⟨⟨s, F, ha, h1, h2, h3⟩, _⟩ := least_spec hJ
  subst ha
  have := step s F w h2
  rw [upds_of_agrees h1] at this
  refine wpIn_mono this ?_
  rintro e a' w' ⟨F', rfl, hq⟩
  unfold Qloop at hq
  cases e with
  | normal =>
    obtain ⟨s', h1', h2', h3'⟩ := hq
    have hJ' : J (act n [] F') w' (μ s') := ⟨s', F', rfl, h1', h2', rfl⟩
    refine ⟨⟨_, hJ'⟩, ?_⟩
    have := (least_spec ⟨_, hJ'⟩).2 _ hJ'
    omega
  | _ => exact ⟨F', rfl, hq⟩
theorem Wr.label {l : Nat} (h : Q .normal F w) : Wr P n r Q (.label l) F w := by unfold Wr; exact wpIn_label ⟨F, rfl, h⟩
theorem Qloop.out {σ : Type} {S : σ → List (Nat × Value)} {I : σ → World → Prop} {μ : σ → Nat} {s : σ} (h : ∀ F w, ¬ Q .outgrown F w) : ∀ F w, ¬ Qloop S I μ s Q .outgrown F w := by unfold Qloop; exact h
theorem Qsc.out (h : ∀ F w, ¬ Q .outgrown F w) : ∀ F w, ¬ Qsc Q .outgrown F w := by unfold Qsc; exact h
end
attribute [irreducible] Wd Qds Qdb Lv
end Go.Proofs.YtjaendlcijmifaaGreatDoor.Wk

namespace Go.Proofs.YtjaendlcijmifaaGreatDoor
open Go Wk
open Go.RowKit (Below)
attribute [local irreducible] Go.Calls

theorem Wk.callsIn_of_Wr {P : Program} {n : Nat} {w : World} {f : FuncId} {fn : Func} {c : Code} {l : List Value} {R : Ending → World → Prop} (hf : P.funcs[f]? = some fn) (hb : fn.body = some c) (hn : fn.ntmps = n)
    (hl : Nat.ble l.length n = true) (h : Wr P n none (Qfn P n fn R) c (ofArgs l) w) : CallsIn Fence.wide 0 P f l.toArray w R := by
  refine callsIn_of_wp hf hb trivial ?_ rfl
  rw [hn, act_ofArgs l n (Nat.le_of_ble_eq_true hl)]
  unfold Wr at h
  refine wpIn_mono h ?_
  rintro e a w ⟨F, rfl, hq⟩
  unfold Qfn at hq
  cases e <;> first | exact ⟨rfl, hq⟩ | exact hq
theorem Wk.YieldAt.mono {P : Program} {l : Nat} {args : Array Value} {W : World} {R R' : Ending → World → Prop} (h : YieldAt Fence.wide 0 P l args W R) (hR : ∀ e w, R e w → R' e w) : YieldAt Fence.wide 0 P l args W R' := by
  obtain ⟨fn, tmps, asg, bd, h1, h2⟩ := h
  exact ⟨fn, tmps, asg, bd, h1, h2.mono hR⟩
/-- What the iterator reads. -/
def SqR (Pb : Nat → Prop) (bs : Nat) (v : Value) (l : List Ev) (W : World) : Prop := Bk W bs 23 [v] ∧ RdS rEv 6 Pb W v l
set_option maxHeartbeats 1000000 in
theorem iter_values {Pb : Nat → Prop} {bs : Nat} {v : Value} {l : List Ev} : Iter Tryz.prog 71 #[pT bs] l.length (fun k => evV (l.getD k ev0)) (SqR Pb bs v l) := by
  intro L J Jx W hRd hN hY h0
  obtain ⟨hb, hr⟩ := hRd _ _ h0
  obtain ⟨a, cp, rfl, hc1, hc2⟩ := hr.form
  simp only [maxLen] at hc2
  show CallsIn Fence.wide 0 Tryz.prog _ ([.func (.yield L) #[] #[], pT bs] : List Value).toArray W _
  refine Wk.callsIn_of_Wr Tryz.func71 rfl Tryz.ntmps71 rfl ?_
  (repeat' (first | refine Wl.moveE (by conv => { lhs; whnf }) ?_ | refine Wl.assignE (by conv => { lhs; whnf }) ?_ | refine Wl.nil ?_ | refine Wl.extract rfl rfl ?_ | refine Wl.guardY rfl rfl ?_ | refine Wl.guardN rfl rfl ?_ | refine Wl.guardU rfl ?_ | refine Wl.pickTE rfl (by conv => { lhs; whnf }) ?_ | refine Wl.pickFE rfl (by conv => { lhs; whnf }) ?_ | refine Wl.notB rfl ?_ | refine Wl.lenS rfl ?_ | refine Wl.lenStr rfl ?_ | refine Qsr.normal ?_ | refine Wr.seq ?_ | refine Wr.region rfl (by repeat' (first | exact Qfn.out (by rintro _ ⟨⟨_, e⟩, _⟩; cases e) | exact Qrd.out | exact Qas.out | refine Qsr.out ?_ | refine Qloop.out ?_ | refine Qsc.out ?_ | refine Qblk.out ?_)) ?_ | refine Wr.block ?_ | refine Wr.skip ?_ | refine Wr.exit ?_ | refine Wr.ret ?_ | refine Qsr.exit ?_ | refine Qsr.ret ?_ | refine Qblk.normal ?_ | refine Qblk.ret ?_ | refine Qblk.hit ?_ | refine Qblk.miss rfl ?_ | refine Wr.scope ?_ | refine Wr.label ?_ | refine Qsc.normal ?_ | refine Qsc.exit ?_ | refine Qsc.ret ?_ | refine Qloop.exit ?_ | refine Qloop.ret ?_ | refine Wr.condT rfl ?_ | refine Wr.condF rfl ?_ | refine Wl.nilP rfl ?_ | refine Wl.fieldAddr rfl rfl ?_ | refine Wl.nilF rfl ?_ | refine Wl.add rfl rfl (by omega) (by omega) ?_ | refine Wl.sub rfl rfl (by omega) (by omega) ?_ | refine Wl.mul rfl rfl (by omega) (by omega) ?_ | refine Wl.convI rfl ?_ | (refine Wl.lss rfl rfl (fun _ => ?_) (fun _ => ?_) <;> (first | (exfalso; omega) | (exfalso; contradiction) | skip)) | (refine Wl.leq rfl rfl (fun _ => ?_) (fun _ => ?_) <;> (first | (exfalso; omega) | (exfalso; contradiction) | skip)) | (refine Wl.gtr rfl rfl (fun _ => ?_) (fun _ => ?_) <;> (first | (exfalso; omega) | (exfalso; contradiction) | skip)) | (refine Wl.geq rfl rfl (fun _ => ?_) (fun _ => ?_) <;> (first | (exfalso; omega) | (exfalso; contradiction) | skip)) | (refine Wl.eql rfl rfl (fun _ => ?_) (fun _ => ?_) <;> (first | (exfalso; omega) | (exfalso; contradiction) | skip)) | (refine Wl.neq rfl rfl (fun _ => ?_) (fun _ => ?_) <;> (first | (exfalso; omega) | (exfalso; contradiction) | skip)) | (refine Wl.seql rfl rfl (fun _ => ?_) (fun _ => ?_) <;> (first | (exfalso; omega) | (exfalso; contradiction) | skip)) | (refine Wl.sneq rfl rfl (fun _ => ?_) (fun _ => ?_) <;> (first | (exfalso; omega) | (exfalso; contradiction) | skip))))
  refine Wl.load1 rfl (hb.cell (o := 0) rfl) ?_
  (repeat' (first | refine Wl.moveE (by conv => { lhs; whnf }) ?_ | refine Wl.assignE (by conv => { lhs; whnf }) ?_ | refine Wl.nil ?_ | refine Wl.extract rfl rfl ?_ | refine Wl.guardY rfl rfl ?_ | refine Wl.guardN rfl rfl ?_ | refine Wl.guardU rfl ?_ | refine Wl.pickTE rfl (by conv => { lhs; whnf }) ?_ | refine Wl.pickFE rfl (by conv => { lhs; whnf }) ?_ | refine Wl.notB rfl ?_ | refine Wl.lenS rfl ?_ | refine Wl.lenStr rfl ?_ | refine Qsr.normal ?_ | refine Wr.seq ?_ | refine Wr.region rfl (by repeat' (first | exact Qfn.out (by rintro _ ⟨⟨_, e⟩, _⟩; cases e) | exact Qrd.out | exact Qas.out | refine Qsr.out ?_ | refine Qloop.out ?_ | refine Qsc.out ?_ | refine Qblk.out ?_)) ?_ | refine Wr.block ?_ | refine Wr.skip ?_ | refine Wr.exit ?_ | refine Wr.ret ?_ | refine Qsr.exit ?_ | refine Qsr.ret ?_ | refine Qblk.normal ?_ | refine Qblk.ret ?_ | refine Qblk.hit ?_ | refine Qblk.miss rfl ?_ | refine Wr.scope ?_ | refine Wr.label ?_ | refine Qsc.normal ?_ | refine Qsc.exit ?_ | refine Qsc.ret ?_ | refine Qloop.exit ?_ | refine Qloop.ret ?_ | refine Wr.condT rfl ?_ | refine Wr.condF rfl ?_ | refine Wl.nilP rfl ?_ | refine Wl.fieldAddr rfl rfl ?_ | refine Wl.nilF rfl ?_ | refine Wl.add rfl rfl (by omega) (by omega) ?_ | refine Wl.sub rfl rfl (by omega) (by omega) ?_ | refine Wl.mul rfl rfl (by omega) (by omega) ?_ | refine Wl.convI rfl ?_ | (refine Wl.lss rfl rfl (fun _ => ?_) (fun _ => ?_) <;> (first | (exfalso; omega) | (exfalso; contradiction) | skip)) | (refine Wl.leq rfl rfl (fun _ => ?_) (fun _ => ?_) <;> (first | (exfalso; omega) | (exfalso; contradiction) | skip)) | (refine Wl.gtr rfl rfl (fun _ => ?_) (fun _ => ?_) <;> (first | (exfalso; omega) | (exfalso; contradiction) | skip)) | (refine Wl.geq rfl rfl (fun _ => ?_) (fun _ => ?_) <;> (first | (exfalso; omega) | (exfalso; contradiction) | skip)) | (refine Wl.eql rfl rfl (fun _ => ?_) (fun _ => ?_) <;> (first | (exfalso; omega) | (exfalso; contradiction) | skip)) | (refine Wl.neq rfl rfl (fun _ => ?_) (fun _ => ?_) <;> (first | (exfalso; omega) | (exfalso; contradiction) | skip)) | (refine Wl.seql rfl rfl (fun _ => ?_) (fun _ => ?_) <;> (first | (exfalso; omega) | (exfalso; contradiction) | skip)) | (refine Wl.sneq rfl rfl (fun _ => ?_) (fun _ => ?_) <;> (first | (exfalso; omega) | (exfalso; contradiction) | skip))))
  refine Wr.loop (σ := Nat) (fun k => [(0, .func (.yield L) #[] #[]), (5, .slice a l.length cp), (6, vi l.length), (7, vi k)]) (fun k W' => k ≤ l.length ∧ J k W') (fun k => l.length - k) 0 ⟨rfl, rfl, rfl, rfl, trivial⟩ ⟨Nat.zero_le _, h0⟩ ?_
  rintro k G W1 ⟨hk, hJ⟩
  obtain ⟨hb1, hr1⟩ := hRd _ _ hJ
  simp only [upds]
  (repeat' (first | refine Wl.moveE (by conv => { lhs; whnf }) ?_ | refine Wl.assignE (by conv => { lhs; whnf }) ?_ | refine Wl.nil ?_ | refine Wl.extract rfl rfl ?_ | refine Wl.guardY rfl rfl ?_ | refine Wl.guardN rfl rfl ?_ | refine Wl.guardU rfl ?_ | refine Wl.pickTE rfl (by conv => { lhs; whnf }) ?_ | refine Wl.pickFE rfl (by conv => { lhs; whnf }) ?_ | refine Wl.notB rfl ?_ | refine Wl.lenS rfl ?_ | refine Wl.lenStr rfl ?_ | refine Qsr.normal ?_ | refine Wr.seq ?_ | refine Wr.region rfl (by repeat' (first | exact Qfn.out (by rintro _ ⟨⟨_, e⟩, _⟩; cases e) | exact Qrd.out | exact Qas.out | refine Qsr.out ?_ | refine Qloop.out ?_ | refine Qsc.out ?_ | refine Qblk.out ?_)) ?_ | refine Wr.block ?_ | refine Wr.skip ?_ | refine Wr.exit ?_ | refine Wr.ret ?_ | refine Qsr.exit ?_ | refine Qsr.ret ?_ | refine Qblk.normal ?_ | refine Qblk.ret ?_ | refine Qblk.hit ?_ | refine Qblk.miss rfl ?_ | refine Wr.scope ?_ | refine Wr.label ?_ | refine Qsc.normal ?_ | refine Qsc.exit ?_ | refine Qsc.ret ?_ | refine Qloop.exit ?_ | refine Qloop.ret ?_ | refine Wr.condT rfl ?_ | refine Wr.condF rfl ?_ | refine Wl.nilP rfl ?_ | refine Wl.fieldAddr rfl rfl ?_ | refine Wl.nilF rfl ?_ | refine Wl.add rfl rfl (by omega) (by omega) ?_ | refine Wl.sub rfl rfl (by omega) (by omega) ?_ | refine Wl.mul rfl rfl (by omega) (by omega) ?_ | refine Wl.convI rfl ?_ | (refine Wl.lss rfl rfl (fun _ => ?_) (fun _ => ?_) <;> (first | (exfalso; omega) | (exfalso; contradiction) | skip)) | (refine Wl.leq rfl rfl (fun _ => ?_) (fun _ => ?_) <;> (first | (exfalso; omega) | (exfalso; contradiction) | skip)) | (refine Wl.gtr rfl rfl (fun _ => ?_) (fun _ => ?_) <;> (first | (exfalso; omega) | (exfalso; contradiction) | skip)) | (refine Wl.geq rfl rfl (fun _ => ?_) (fun _ => ?_) <;> (first | (exfalso; omega) | (exfalso; contradiction) | skip)) | (refine Wl.eql rfl rfl (fun _ => ?_) (fun _ => ?_) <;> (first | (exfalso; omega) | (exfalso; contradiction) | skip)) | (refine Wl.neq rfl rfl (fun _ => ?_) (fun _ => ?_) <;> (first | (exfalso; omega) | (exfalso; contradiction) | skip)) | (refine Wl.seql rfl rfl (fun _ => ?_) (fun _ => ?_) <;> (first | (exfalso; omega) | (exfalso; contradiction) | skip)) | (refine Wl.sneq rfl rfl (fun _ => ?_) (fun _ => ?_) <;> (first | (exfalso; omega) | (exfalso; contradiction) | skip))))
  · obtain ⟨y, hy⟩ := get_lt l (k := k) (by omega)
    refine Wl.idxAddr hr1 rfl rfl (by omega) (by rw [Int.toNat_natCast]; exact hy) fun bb o cs hcl hR hat => ?_
    obtain rfl : cs = evC y := hR
    refine Wl.loadAt hat rfl rfl ?_
    refine Wl.alloc fun W2 b2 n2 s2 => ?_
    refine Wl.storeB (o := 0) (new := evC y) b2 rfl rfl rfl rfl (Nat.le_refl 6) (evC_one _) fun W3 b3 c3 s3 => ?_
    replace b3 : Bk W3 W1.heap.size 27 (evC y) := b3
    have n3 : New W1 W3 := Chg.trans n2 c3 fun _ _ e => by omega
    have hJ3 := hN _ _ _ hJ n3
    (repeat' (first | refine Wl.moveE (by conv => { lhs; whnf }) ?_ | refine Wl.assignE (by conv => { lhs; whnf }) ?_ | refine Wl.nil ?_ | refine Wl.extract rfl rfl ?_ | refine Wl.guardY rfl rfl ?_ | refine Wl.guardN rfl rfl ?_ | refine Wl.guardU rfl ?_ | refine Wl.pickTE rfl (by conv => { lhs; whnf }) ?_ | refine Wl.pickFE rfl (by conv => { lhs; whnf }) ?_ | refine Wl.notB rfl ?_ | refine Wl.lenS rfl ?_ | refine Wl.lenStr rfl ?_ | refine Qsr.normal ?_ | refine Wr.seq ?_ | refine Wr.block ?_ | refine Wr.skip ?_ | refine Wr.exit ?_ | refine Wr.ret ?_ | refine Qsr.exit ?_ | refine Qsr.ret ?_ | refine Qblk.normal ?_ | refine Qblk.ret ?_ | refine Qblk.hit ?_ | refine Qblk.miss rfl ?_ | refine Wr.scope ?_ | refine Wr.label ?_ | refine Qsc.normal ?_ | refine Qsc.exit ?_ | refine Qsc.ret ?_ | refine Qloop.exit ?_ | refine Qloop.ret ?_ | refine Wr.condT rfl ?_ | refine Wr.condF rfl ?_ | refine Wl.nilP rfl ?_ | refine Wl.fieldAddr rfl rfl ?_ | refine Wl.nilF rfl ?_ | refine Wl.add rfl rfl (by omega) (by omega) ?_ | refine Wl.sub rfl rfl (by omega) (by omega) ?_ | refine Wl.mul rfl rfl (by omega) (by omega) ?_ | refine Wl.convI rfl ?_ | (refine Wl.lss rfl rfl (fun _ => ?_) (fun _ => ?_) <;> (first | (exfalso; omega) | (exfalso; contradiction) | skip)) | (refine Wl.leq rfl rfl (fun _ => ?_) (fun _ => ?_) <;> (first | (exfalso; omega) | (exfalso; contradiction) | skip)) | (refine Wl.gtr rfl rfl (fun _ => ?_) (fun _ => ?_) <;> (first | (exfalso; omega) | (exfalso; contradiction) | skip)) | (refine Wl.geq rfl rfl (fun _ => ?_) (fun _ => ?_) <;> (first | (exfalso; omega) | (exfalso; contradiction) | skip)) | (refine Wl.eql rfl rfl (fun _ => ?_) (fun _ => ?_) <;> (first | (exfalso; omega) | (exfalso; contradiction) | skip)) | (refine Wl.neq rfl rfl (fun _ => ?_) (fun _ => ?_) <;> (first | (exfalso; omega) | (exfalso; contradiction) | skip)) | (refine Wl.seql rfl rfl (fun _ => ?_) (fun _ => ?_) <;> (first | (exfalso; omega) | (exfalso; contradiction) | skip)) | (refine Wl.sneq rfl rfl (fun _ => ?_) (fun _ => ?_) <;> (first | (exfalso; omega) | (exfalso; contradiction) | skip))))
    refine Wr.regionY (l1 := [_, _]) (l2 := [_]) rfl rfl rfl (by repeat' (first | exact Qfn.out (by rintro _ ⟨⟨_, e⟩, _⟩; cases e) | exact Qrd.out | exact Qas.out | refine Qsr.out ?_ | refine Qloop.out ?_ | refine Qsc.out ?_ | refine Qblk.out ?_)) ?_
    (repeat' (first | refine Wl.moveE (by conv => { lhs; whnf }) ?_ | refine Wl.assignE (by conv => { lhs; whnf }) ?_ | refine Wl.nil ?_ | refine Wl.extract rfl rfl ?_ | refine Wl.guardY rfl rfl ?_ | refine Wl.guardN rfl rfl ?_ | refine Wl.guardU rfl ?_ | refine Wl.pickTE rfl (by conv => { lhs; whnf }) ?_ | refine Wl.pickFE rfl (by conv => { lhs; whnf }) ?_ | refine Wl.notB rfl ?_ | refine Wl.lenS rfl ?_ | refine Wl.lenStr rfl ?_ | refine Qsr.normal ?_ | refine Wr.seq ?_ | refine Wr.region rfl (by repeat' (first | exact Qfn.out (by rintro _ ⟨⟨_, e⟩, _⟩; cases e) | exact Qrd.out | exact Qas.out | refine Qsr.out ?_ | refine Qloop.out ?_ | refine Qsc.out ?_ | refine Qblk.out ?_)) ?_ | refine Wr.block ?_ | refine Wr.skip ?_ | refine Wr.exit ?_ | refine Wr.ret ?_ | refine Qsr.exit ?_ | refine Qsr.ret ?_ | refine Qblk.normal ?_ | refine Qblk.ret ?_ | refine Qblk.hit ?_ | refine Qblk.miss rfl ?_ | refine Wr.scope ?_ | refine Wr.label ?_ | refine Qsc.normal ?_ | refine Qsc.exit ?_ | refine Qsc.ret ?_ | refine Qloop.exit ?_ | refine Qloop.ret ?_ | refine Wr.condT rfl ?_ | refine Wr.condF rfl ?_ | refine Wl.nilP rfl ?_ | refine Wl.fieldAddr rfl rfl ?_ | refine Wl.nilF rfl ?_ | refine Wl.add rfl rfl (by omega) (by omega) ?_ | refine Wl.sub rfl rfl (by omega) (by omega) ?_ | refine Wl.mul rfl rfl (by omega) (by omega) ?_ | refine Wl.convI rfl ?_ | (refine Wl.lss rfl rfl (fun _ => ?_) (fun _ => ?_) <;> (first | (exfalso; omega) | (exfalso; contradiction) | skip)) | (refine Wl.leq rfl rfl (fun _ => ?_) (fun _ => ?_) <;> (first | (exfalso; omega) | (exfalso; contradiction) | skip)) | (refine Wl.gtr rfl rfl (fun _ => ?_) (fun _ => ?_) <;> (first | (exfalso; omega) | (exfalso; contradiction) | skip)) | (refine Wl.geq rfl rfl (fun _ => ?_) (fun _ => ?_) <;> (first | (exfalso; omega) | (exfalso; contradiction) | skip)) | (refine Wl.eql rfl rfl (fun _ => ?_) (fun _ => ?_) <;> (first | (exfalso; omega) | (exfalso; contradiction) | skip)) | (refine Wl.neq rfl rfl (fun _ => ?_) (fun _ => ?_) <;> (first | (exfalso; omega) | (exfalso; contradiction) | skip)) | (refine Wl.seql rfl rfl (fun _ => ?_) (fun _ => ?_) <;> (first | (exfalso; omega) | (exfalso; contradiction) | skip)) | (refine Wl.sneq rfl rfl (fun _ => ?_) (fun _ => ?_) <;> (first | (exfalso; omega) | (exfalso; contradiction) | skip))))
    refine Wl.loadB b3 rfl rfl ?_
    refine Wl.nil ⟨rfl, L, evV y, rfl, rfl, ?_⟩
    have hg : l.getD k ev0 = y := by rw [List.getD_eq_getElem?_getD, hy]; rfl
    have hy2 := hY k W3 (by omega) hJ3
    dsimp only at hy2
    rw [hg] at hy2
    refine Wk.YieldAt.mono hy2 ?_
    rintro e W4 (⟨rfl, hJ4⟩ | ⟨rfl, hJ4⟩)
    · refine ⟨_, rfl, ?_⟩
      (repeat' (first | refine Wl.moveE (by conv => { lhs; whnf }) ?_ | refine Wl.assignE (by conv => { lhs; whnf }) ?_ | refine Wl.nil ?_ | refine Wl.extract rfl rfl ?_ | refine Wl.guardY rfl rfl ?_ | refine Wl.guardN rfl rfl ?_ | refine Wl.guardU rfl ?_ | refine Wl.pickTE rfl (by conv => { lhs; whnf }) ?_ | refine Wl.pickFE rfl (by conv => { lhs; whnf }) ?_ | refine Wl.notB rfl ?_ | refine Wl.lenS rfl ?_ | refine Wl.lenStr rfl ?_ | refine Qsr.normal ?_ | refine Wr.seq ?_ | refine Wr.region rfl (by repeat' (first | exact Qfn.out (by rintro _ ⟨⟨_, e⟩, _⟩; cases e) | exact Qrd.out | exact Qas.out | refine Qsr.out ?_ | refine Qloop.out ?_ | refine Qsc.out ?_ | refine Qblk.out ?_)) ?_ | refine Wr.block ?_ | refine Wr.skip ?_ | refine Wr.exit ?_ | refine Wr.ret ?_ | refine Qsr.exit ?_ | refine Qsr.ret ?_ | refine Qblk.normal ?_ | refine Qblk.ret ?_ | refine Qblk.hit ?_ | refine Qblk.miss rfl ?_ | refine Wr.scope ?_ | refine Wr.label ?_ | refine Qsc.normal ?_ | refine Qsc.exit ?_ | refine Qsc.ret ?_ | refine Qloop.exit ?_ | refine Qloop.ret ?_ | refine Wr.condT rfl ?_ | refine Wr.condF rfl ?_ | refine Wl.nilP rfl ?_ | refine Wl.fieldAddr rfl rfl ?_ | refine Wl.nilF rfl ?_ | refine Wl.add rfl rfl (by omega) (by omega) ?_ | refine Wl.sub rfl rfl (by omega) (by omega) ?_ | refine Wl.mul rfl rfl (by omega) (by omega) ?_ | refine Wl.convI rfl ?_ | (refine Wl.lss rfl rfl (fun _ => ?_) (fun _ => ?_) <;> (first | (exfalso; omega) | (exfalso; contradiction) | skip)) | (refine Wl.leq rfl rfl (fun _ => ?_) (fun _ => ?_) <;> (first | (exfalso; omega) | (exfalso; contradiction) | skip)) | (refine Wl.gtr rfl rfl (fun _ => ?_) (fun _ => ?_) <;> (first | (exfalso; omega) | (exfalso; contradiction) | skip)) | (refine Wl.geq rfl rfl (fun _ => ?_) (fun _ => ?_) <;> (first | (exfalso; omega) | (exfalso; contradiction) | skip)) | (refine Wl.eql rfl rfl (fun _ => ?_) (fun _ => ?_) <;> (first | (exfalso; omega) | (exfalso; contradiction) | skip)) | (refine Wl.neq rfl rfl (fun _ => ?_) (fun _ => ?_) <;> (first | (exfalso; omega) | (exfalso; contradiction) | skip)) | (refine Wl.seql rfl rfl (fun _ => ?_) (fun _ => ?_) <;> (first | (exfalso; omega) | (exfalso; contradiction) | skip)) | (refine Wl.sneq rfl rfl (fun _ => ?_) (fun _ => ?_) <;> (first | (exfalso; omega) | (exfalso; contradiction) | skip))))
      exact Qloop.normal (k + 1) ⟨rfl, rfl, rfl, rfl, trivial⟩ ⟨by omega, hJ4⟩ (by omega)
    · refine ⟨_, rfl, ?_⟩
      (repeat' (first | refine Wl.moveE (by conv => { lhs; whnf }) ?_ | refine Wl.assignE (by conv => { lhs; whnf }) ?_ | refine Wl.nil ?_ | refine Wl.extract rfl rfl ?_ | refine Wl.guardY rfl rfl ?_ | refine Wl.guardN rfl rfl ?_ | refine Wl.guardU rfl ?_ | refine Wl.pickTE rfl (by conv => { lhs; whnf }) ?_ | refine Wl.pickFE rfl (by conv => { lhs; whnf }) ?_ | refine Wl.notB rfl ?_ | refine Wl.lenS rfl ?_ | refine Wl.lenStr rfl ?_ | refine Qsr.normal ?_ | refine Wr.seq ?_ | refine Wr.region rfl (by repeat' (first | exact Qfn.out (by rintro _ ⟨⟨_, e⟩, _⟩; cases e) | exact Qrd.out | exact Qas.out | refine Qsr.out ?_ | refine Qloop.out ?_ | refine Qsc.out ?_ | refine Qblk.out ?_)) ?_ | refine Wr.block ?_ | refine Wr.skip ?_ | refine Wr.exit ?_ | refine Wr.ret ?_ | refine Qsr.exit ?_ | refine Qsr.ret ?_ | refine Qblk.normal ?_ | refine Qblk.ret ?_ | refine Qblk.hit ?_ | refine Qblk.miss rfl ?_ | refine Wr.scope ?_ | refine Wr.label ?_ | refine Qsc.normal ?_ | refine Qsc.exit ?_ | refine Qsc.ret ?_ | refine Qloop.exit ?_ | refine Qloop.ret ?_ | refine Wr.condT rfl ?_ | refine Wr.condF rfl ?_ | refine Wl.nilP rfl ?_ | refine Wl.fieldAddr rfl rfl ?_ | refine Wl.nilF rfl ?_ | refine Wl.add rfl rfl (by omega) (by omega) ?_ | refine Wl.sub rfl rfl (by omega) (by omega) ?_ | refine Wl.mul rfl rfl (by omega) (by omega) ?_ | refine Wl.convI rfl ?_ | (refine Wl.lss rfl rfl (fun _ => ?_) (fun _ => ?_) <;> (first | (exfalso; omega) | (exfalso; contradiction) | skip)) | (refine Wl.leq rfl rfl (fun _ => ?_) (fun _ => ?_) <;> (first | (exfalso; omega) | (exfalso; contradiction) | skip)) | (refine Wl.gtr rfl rfl (fun _ => ?_) (fun _ => ?_) <;> (first | (exfalso; omega) | (exfalso; contradiction) | skip)) | (refine Wl.geq rfl rfl (fun _ => ?_) (fun _ => ?_) <;> (first | (exfalso; omega) | (exfalso; contradiction) | skip)) | (refine Wl.eql rfl rfl (fun _ => ?_) (fun _ => ?_) <;> (first | (exfalso; omega) | (exfalso; contradiction) | skip)) | (refine Wl.neq rfl rfl (fun _ => ?_) (fun _ => ?_) <;> (first | (exfalso; omega) | (exfalso; contradiction) | skip)) | (refine Wl.seql rfl rfl (fun _ => ?_) (fun _ => ?_) <;> (first | (exfalso; omega) | (exfalso; contradiction) | skip)) | (refine Wl.sneq rfl rfl (fun _ => ?_) (fun _ => ?_) <;> (first | (exfalso; omega) | (exfalso; contradiction) | skip))))
      exact Qfn.ret0 rfl ⟨⟨_, rfl⟩, .inr hJ4⟩
  · have e : k = l.length := by omega
    subst e
    exact Qfn.end0 rfl ⟨⟨_, rfl⟩, .inl hJ⟩
end Go.Proofs.YtjaendlcijmifaaGreatDoor

namespace Go.Proofs.YtjaendlcijmifaaGreatDoor.Wk
open Go Go.RowKit

/-- A block that holds no cells. -/
def NoC (w : World) (L : Nat) : Prop := ∃ o, w.heap[L]? = some o ∧ o.isCells = false
theorem NoC.loop {w : World} {L : Nat} {r : Loop} (h : w.heap[L]? = some (.loop r)) : NoC w L := ⟨_, h, rfl⟩
theorem NoC.mark {w : World} {D : Nat} {l : Option (List Deferred)} (h : w.heap[D]? = some (.deferred l)) : NoC w D := ⟨_, h, rfl⟩
theorem NoC.lt {w : World} {L : Nat} (h : NoC w L) : L < w.heap.size := by obtain ⟨o, h, _⟩ := h; exact (Array.getElem?_eq_some_iff.1 h).1
theorem Bk.nl {w : World} {b L : Nat} {T : TypeId} {cs : List Value} (h : Bk w b T cs) (hL : NoC w L) : b ≠ L := by
  rintro rfl
  obtain ⟨o, h1, h2⟩ := hL
  have := h1.symm.trans h
  cases this; cases h2
theorem OwnS.nl {α : Type} {R : Rel α} {e : TypeId} {sz : Nat} {Pb Pe : Nat → Prop} {w : World} {v : Value} {xs : List α} {L : Nat} (h : OwnS R e sz Pb Pe w v xs) (hL : NoC w L) {k : Nat} (hk : v.ownBlock = some k) : k ≠ L := by
  obtain ⟨cs, ⟨_, h⟩, _⟩ := h
  rcases h with ⟨rfl, _⟩ | ⟨g, cap, cur, rfl, _, hg, _⟩
  · cases hk
  · rintro rfl
    have : g = k := by simpa [Value.ownBlock] using hk
    subst this
    obtain ⟨o, h1, h2⟩ := hL
    have := h1.symm.trans hg
    cases this; cases h2
theorem Chg.putObj (w : World) (L : Nat) (o : Obj) : Chg (fun k => k = L) w (w.putObj L o) :=
  ⟨rfl, rfl, rfl, by simp, fun k _ hk => World.putObj_heap_other hk⟩
theorem Bk.put {w : World} {b L : Nat} {T : TypeId} {cs : List Value} (o : Obj) (h : Bk w b T cs) (hL : NoC w L) : Bk (w.putObj L o) b T cs := h.chg (Chg.putObj w L o) (h.nl hL)
theorem OwnS.put {α : Type} {R : Rel α} {e : TypeId} {sz : Nat} {Pb Pe : Nat → Prop} {w : World} {v : Value} {xs : List α} {L : Nat} (o : Obj) (hR : Plain R) (h : OwnS R e sz Pb Pe w v xs) (hL : NoC w L) : OwnS R e sz Pb Pe (w.putObj L o) v xs :=
  h.chg hR (Chg.putObj w L o) fun _ hk => h.nl hL hk
theorem Chg.put {M : Nat → Prop} {w0 w : World} {L : Nat} (o : Obj) (h : Chg M w0 w) (hL : w0.heap.size ≤ L) : Chg M w0 (w.putObj L o) :=
  Chg.trans h (Chg.putObj w L o) fun k hk e => by omega
theorem Keep.put {Pb : Nat → Prop} {w : World} {L : Nat} (o : Obj) (h : ¬ Pb L) : Keep Pb w (w.putObj L o) := fun b hb _ => World.putObj_heap_other fun e => h (e ▸ hb)
theorem MapL.put {P : Program} {k : TypeId} {w : World} {b L : Nat} {l : List (Value × Value)} (o : Obj) (h : MapL P k w b l) (hL : L ≠ b) : MapL P k (w.putObj L o) b l := h.chg (Chg.putObj w L o) fun e => hL e.symm
theorem Chg.loop {w : World} (r : Obj) (r' : Obj) : New w ((w.alloc r).alloc r') := Chg.trans (Chg.alloc _ _ _) (Chg.alloc _ _ _) fun _ _ e => e
section
variable {P : Program} {n : Nat} {ds : List Deferred} {Q : Po} {F : Fr} {w : World} {ops rest : List Oper} {d : Nat} {ty : TypeId} {pos : String} {aft : Array Edge}
/-- A function, compared with nil. -/
theorem run_eqGuard_fn {op : BinOp} {t : TypeId} {x y : Operand} {g : Fn} {f1 c1 : Array Value} : (eqGuard op t x y (.func g f1 c1) .nilFunc).run P w = .ok () w := by
  unfold eqGuard; split <;> simp
theorem run_equal_fn {t : TypeId} {g : Fn} {f1 c1 : Array Value} (hu : ∃ a b c, P.underlying t = some (.func a b c)) : (Op.equal t (.func g f1 c1) .nilFunc).run P w = .ok false w := by
  obtain ⟨a, b, c', hu⟩ := hu
  show (Op.equalIn (9999 + 1) t (.func g f1 c1) .nilFunc).run P w = _
  rw [Op.equalIn, Sem.run_bind, run_underlying hu]
  rfl
theorem Wl.feqNil {x y : Operand} {t t' : TypeId} {g : FuncId} {f1 c1 : Array Value} (hu : ∃ a b c, P.underlying t = some (.func a b c)) (hx : ev n F x = .func (.func g) f1 c1) (hy : ev n F y = .nilFunc) (c : Wl P n ds Q ops rest (upd F d (.bool false)) w) :
    Wl P n ds Q ops (⟨some d, .binOp .eql t x y t', ty, pos, aft, none⟩ :: rest) F w := by
  refine Wl.val ?_ c
  have hb : (binOp .eql t (.func (.func g) f1 c1) .nilFunc).run P w = .ok (.bool false) w := by
    show (do pure (Value.bool (← Op.equal t (.func (.func g) f1 c1) .nilFunc)) : Sem Value).run P w = _
    rw [Sem.run_bind, run_equal_fn hu]; rfl
  simp only [execOp, hx, hy, Sem.run_bind, run_eqGuard_fn, Result.andThen_ok, hb, Sem.run_pure]
end
end Go.Proofs.YtjaendlcijmifaaGreatDoor.Wk

namespace Go.Proofs.YtjaendlcijmifaaGreatDoor.Wk
open Go Go.RowKit

section
variable {α : Type} {R : Rel α} {Pb Pe : Nat → Prop} {xs : List α}
variable {P : Program} {n : Nat} {ds : List Deferred} {Q : Po} {F : Fr} {w w' : World} {ops rest : List Oper} {d d1 d2 : Nat} {ty ty1 ty2 : TypeId} {pos pos1 pos2 : String} {aft aft1 aft2 : Array Edge}
theorem weak {w w' : World} {v v' : Value} {m k : Nat} (h : (∃ p cap, v = .slice p m cap ∧ v' = .slice p (m + k) cap) ∨ New w w' ∧ ∀ b, v'.ownBlock = some b → w.heap.size ≤ b) : v'.ownBlock = v.ownBlock ∨ ∀ b, v'.ownBlock = some b → w.heap.size ≤ b := by
  rcases h with ⟨p, cap, rfl, rfl⟩ | h
  · left; cases p <;> rfl
  · exact .inr h.2
theorem run_append_k (t ty e : TypeId) {sz bytes : Nat} {agg : Bool} {z : Value} (ht : P.underlying t = some (.slice e)) (he : ElT P e sz bytes agg z) (hsz : 0 < sz)
    {Pb : Nat → Prop} {v : Value} {m : Nat} {cs : List Value} (hown : OwnC Pb w e sz v m cs)
    (a : Addr) (k c : Nat) (news : List Value) (hl : news.length = k * sz) (hnews : ∀ j u, news[j]? = some u → w.cell? (a.add j) = some u) (h1 : ∀ u ∈ news, u.oneCell' = true)
    (h63 : m + k ≤ maxLen) (hby : (m + k) * bytes ≤ 140737488355328) :
    ∃ v' w', (Builtin.append_ #[t, t] ty #[v, .slice (some a) k c]).run P w = .ok v' w' ∧ OwnC (fun b => Pb b ∨ w.heap.size ≤ b) w' e sz v' (m + k) (cs ++ news) ∧ Chg (fun b => v.ownBlock = some b) w w' ∧
      ((∃ p cap, v = .slice p m cap ∧ v' = .slice p (m + k) cap) ∨ New w w' ∧ ∀ b, v'.ownBlock = some b → w.heap.size ≤ b) := by
  obtain ⟨i, hi, hsz', hby', hz'⟩ := he.inf
  have hz := he.hz
  subst hsz'
  subst hby'
  have hsmall : m + k ≤ 9223372036854775807 := by simp only [maxLen] at h63; omega
  have hlen : (cs ++ news).length = (m + k) * i.size := by rw [List.length_append, hown.1, hl, Nat.add_mul]
  have grown : ∀ (old : Nat), old < m + k →
      OwnC (fun b => Pb b ∨ w.heap.size ≤ b) (w.drew.alloc (.cells (cs.toArray ++ news.toArray ++ Builtin.zeroCells z.cells (grownCap w (m + k) old e - (m + k))) e)) e i.size
        (.slice (some ⟨w.heap.size, 0, none⟩) (m + k) (grownCap w (m + k) old e)) (m + k) (cs ++ news) := by
    intro old ho
    have hge := grownCap_ge w (m + k) old e
    have hcm : grownCap w (m + k) old e ≤ maxLen := grownCap_le_maxLen w (m + k) old e h63
    refine ⟨hlen, .inr ⟨w.heap.size, _, _, rfl, .inr (Nat.le_refl _), heap_alloc_new w.drew _, hge, hcm, ?_, ?_⟩⟩
    · simp only [Array.size_append, List.size_toArray, size_zeroCells, hz, hown.1, hl, ← Nat.add_mul]
      congr 1
      omega
    · simp only [Array.toList_append, List.append_assoc]
      rw [← List.append_assoc, ← hlen]
      exact List.take_left
  have chg : ∀ M o, Chg M w (w.drew.alloc o) := fun M o => ⟨rfl, rfl, rfl, by simp, fun k hk _ => World.heap_old w.drew o hk⟩
  rcases hown.2 with ⟨rfl, rfl⟩ | ⟨g, cap, cur, rfl, hbg, hg, hnc, hcm, hcs, htake⟩
  · have hx : cs = [] := List.eq_nil_of_length_eq_zero (by simpa using hown.1)
    subst hx
    by_cases hm : k = 0
    · subst hm
      have hn : news = [] := List.eq_nil_of_length_eq_zero (by simpa using hl)
      subst hn
      refine ⟨.slice none 0 0, w, ?_, ⟨by simp, .inl ⟨rfl, rfl⟩⟩, Chg.refl _ _, .inl ⟨none, 0, rfl, rfl⟩⟩
      simp [Builtin.append_, run_underlying ht, sizeOf, typeInfo, hi, Builtin.lenOf, Builtin.firstCells, loadCells, loadCellsFrom]
    · have hr := run_append_nil (P := P) w t ty e i z ht hi hz' a k c news hl hnews (by omega) (by omega) (by have hb := hby; simp only [Nat.zero_add] at hb; omega)
      have hgr := grown 0 (by omega)
      simp only [Nat.zero_add, List.nil_append, Array.empty_append] at hgr ⊢
      exact ⟨_, _, hr, hgr, chg _ _, .inr ⟨chg _ _, fun b hb => by simp only [Value.ownBlock, Option.some.injEq] at hb; omega⟩⟩
  · by_cases hroom : m + k ≤ cap
    · have hfit : m * i.size + news.length ≤ cur.size := by rw [hl, hcs, ← Nat.add_mul]; exact Nat.mul_le_mul_right _ hroom
      have hr := run_append_room (P := P) w t ty e i ht hi g m cap cur hg a k c news hl hnews h1 hroom hfit
      refine ⟨_, _, hr, ⟨hlen, .inr ⟨g, cap, _, rfl, .inl hbg, setRow_heap w g cur _ e _ hg, hroom, hcm, ?_, ?_⟩⟩, Chg.setRow rfl, .inl ⟨_, _, rfl, rfl⟩⟩
      · simp only [List.size_toArray, List.length_append, List.length_take, List.length_drop, Array.length_toList]
        omega
      · rw [htake, ← hlen]
        exact List.take_left
    · have holds : ∀ j u, cs[j]? = some u → w.cell? ((⟨g, 0, none⟩ : Addr).add j) = some u := by
        intro j u hu
        rw [addr_add, Nat.zero_add]
        simp only [World.cell?, hg]
        rw [← htake, List.getElem?_take] at hu
        split at hu
        · simpa using hu
        · cases hu
      have hr := run_append_grow (P := P) w t ty e i z ht hi hz' ⟨g, 0, none⟩ m cap cs hown.1 holds a k c news hl hnews (by omega) (by omega) (growslice_fits (by omega) hby)
      exact ⟨_, _, hr, grown cap (by omega), chg _ _, .inr ⟨chg _ _, fun b hb => by simp only [Value.ownBlock, Option.some.injEq] at hb; omega⟩⟩
theorem Wl.append1K {x s : Operand} {t e : TypeId} {sz bytes : Nat} {agg : Bool} {z v u : Value} {y : α} {cs : List Value} (hR : GoodR R sz)
    (hown : OwnS R e sz Pb Pe w v xs) [ht : Und P t (.slice e)] [he : ElT P e sz bytes agg z] (hs : ev n F s = v) (hx : ev n F x = u) (hcs : u.cells.toList = cs) (hl : cs.length = sz) (hy : R (fun b => Pe b ∧ v.ownBlock ≠ some b) w y cs)
    (hsz : 0 < sz) (hsz2 : sz ≤ 16777216) (h63 : xs.length + 1 ≤ maxLen) (hby : (xs.length + 1) * bytes ≤ 140737488355328) (hd : Nat.blt d1 n = true) (hsd : (match s with | .tmp q => Nat.beq q d1 | _ => false) = false)
    (c : ∀ v' w' p, OwnS R e sz (fun b => Pb b ∨ w.heap.size ≤ b) Pe w' v' (xs ++ [y]) → Chg (fun b => v.ownBlock = some b) w w' → ((∃ p cap, v = .slice p xs.length cap ∧ v' = .slice p (xs.length + 1) cap) ∨ New w w' ∧ ∀ b, v'.ownBlock = some b → w.heap.size ≤ b) → Wl P n ds Q ops rest (upd (upd F d1 p) d2 v') w') :
    Wl P n ds Q ops (⟨some d1, .buildSlice t 1 #[(0, x)], ty1, pos1, aft1, none⟩ :: ⟨some d2, .call { callee := .builtin .append, args := #[s, .tmp d1], argTypes := #[t, t] }, ty2, pos2, aft2, none⟩ :: rest) F w := by
  obtain ⟨ocs, hoc, hoe⟩ := hown
  have h1 : ∀ c ∈ cs, c.oneCell' = true := hR.oc _ _ _ _ hy hl
  have huc : u.cells.size = sz := by rw [← hl, ← hcs]; simp
  have r1 := run_buildSlice1 (P := P) (w := w) ht.h he huc hsz hsz2
  let w1 := w.alloc (.cells u.cells e)
  have hk1 : New w w1 := Chg.alloc _ _ _
  have hnew : ∀ j q, cs[j]? = some q → w1.cell? ((⟨w.heap.size, 0, none⟩ : Addr).add j) = some q := by
    intro j q hq
    rw [addr_add, Nat.zero_add]
    have : w1.heap[w.heap.size]? = some (.cells u.cells e) := heap_alloc_new w _
    simp only [World.cell?, this]
    rw [← hcs] at hq
    simpa using hq
  obtain ⟨v', w', hr, h2, h3, h4⟩ := run_append_k (P := P) (w := w1) t ty2 e ht.h he hsz (hoc.keep hk1.keep) ⟨w.heap.size, 0, none⟩ 1 1 cs (by omega) hnew h1 h63 hby
  have hsize1 : w1.heap.size = w.heap.size + 1 := by simp [w1]
  have hel := elems_append (w := w1) (w' := w') (ys := [y]) (news := cs) hR hoc.1 (fun i x hx => hR.st _ _ _ _ _ hk1.keep (hoe i x hx))
    (fun i x hx => by
      have hi : i = 0 := by
        rcases Nat.eq_zero_or_pos i with h | h
        · exact h
        · rw [List.getElem?_eq_none (by simp; omega)] at hx; cases hx
      subst hi
      simp only [List.getElem?_cons_zero, Option.some.injEq] at hx
      subst hx
      simp only [Nat.zero_mul, List.drop_zero]
      rw [List.take_of_length_le (by omega)]
      exact hR.st _ _ _ _ _ hk1.keep hy) h3 (weak h4)
  refine Wl.val (w' := w1) (v := .slice (some ⟨w.heap.size, 0, none⟩) 1 1) ?_ (Wl.val (w' := w') (v := v') ?_ (c v' w' _ ⟨ocs ++ cs, ?_, hel⟩ ?_ (h4.imp id fun h => ⟨New.trans hk1 h.1, fun b hb => by have := h.2 b hb; omega⟩)))
  · simp only [execOp, List.map_toArray, List.map_cons, List.map_nil, hx, Sem.run_bind, r1, Result.andThen_ok, Sem.run_pure, w1]
  · have e1 : ev n (upd F d1 (.slice (some ⟨w.heap.size, 0, none⟩) 1 1)) s = v := by
      cases s with
      | tmp q =>
        simp only [ev] at hs ⊢
        rw [upd_eq, if_neg (Nat.ne_of_beq_eq_false hsd)]
        exact hs
      | _ => exact hs
    have e2 : ev n (upd F d1 (.slice (some ⟨w.heap.size, 0, none⟩) 1 1)) (.tmp d1) = .slice (some ⟨w.heap.size, 0, none⟩) 1 1 := by
      simp only [ev, hd, upd_eq, if_pos]
    simp only [execOp, resolve, invoke, builtin, Sem.run_bind, Sem.run_pure, Result.andThen_ok, List.map_toArray, List.map_cons, List.map_nil, e1, e2, hr]
  · rw [List.length_append, List.length_singleton]
    exact h2.mono fun b _ hb => hb.imp id (fun h => by omega)
  · exact hk1.any.trans h3 fun _ _ h => h
end
end Go.Proofs.YtjaendlcijmifaaGreatDoor.Wk
