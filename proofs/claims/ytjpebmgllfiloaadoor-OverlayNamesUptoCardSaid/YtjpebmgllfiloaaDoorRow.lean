/-
  The generic walking kit of this claim: stores of several cells into a list of one's own, and clear. It speaks of any program.
-/
import Derived.Test.YtjpebmgllfiloaaDoorNav
namespace Go.Proofs.YtjpebmgllfiloaaDoor.Wk
open Go Go.RowKit

theorem setRange_get (cs : List Value) (o : Nat) (new : List Value) (h : o + new.length ≤ cs.length) (q : Nat) : (setRange cs o new)[q]? = if o ≤ q ∧ q < o + new.length then new[q - o]? else cs[q]? := by
  unfold setRange
  rw [List.append_assoc, List.getElem?_append]
  simp only [List.length_take]
  split
  · rename_i h1
    rw [if_neg (by omega), List.getElem?_take, if_pos (by omega)]
  · rename_i h1
    rw [List.getElem?_append]
    split
    · rename_i h2
      rw [if_pos (by omega)]; congr 1; omega
    · rename_i h2
      rw [if_neg (by omega), List.getElem?_drop]; congr 1; omega
theorem setRange_length (cs : List Value) (o : Nat) (new : List Value) (h : o + new.length ≤ cs.length) : (setRange cs o new).length = cs.length := by
  unfold setRange; simp; omega
section
variable {P : Program} {n : Nat} {ds : List Deferred} {Q : Po} {F : Fr} {w w' : World} {ops rest : List Oper} {d d1 d2 : Nat} {ty ty1 ty2 : TypeId} {pos pos1 pos2 : String} {aft aft1 aft2 : Array Edge}
theorem OwnC.storeRange {Pb : Nat → Prop} {e : TypeId} {sz m g cap o : Nat} {v : Value} {cs new : List Value} (h : OwnC Pb w e sz v m cs) (hv : v = .slice (some ⟨g, 0, none⟩) m cap) (ho : o + new.length ≤ m * sz) (h1 : ∀ c ∈ new, c.oneCell' = true) :
    ∃ w', (storeCells ⟨g, o, none⟩ new 0).run P w = .ok () w' ∧ OwnC Pb w' e sz v m (setRange cs o new) ∧ Chg (fun b => v.ownBlock = some b) w w' := by
  obtain ⟨hl, hoc⟩ := h
  rcases hoc with ⟨rfl, _⟩ | ⟨g', cap', cur, rfl, hb, hg, h2, h3, h4, h5⟩
  · cases hv
  · cases hv
    have hms : m * sz ≤ cap * sz := Nat.mul_le_mul_right _ h2
    have hr := run_storeCells_at P g o e new 0 cur w hg (by omega) h1
    have hcl : cs.length = m * sz := hl
    refine ⟨_, hr, ⟨by rw [setRange_length _ _ _ (by omega)]; exact hl, .inr ⟨g, cap, _, rfl, hb, setRow_heap w g cur _ e _ hg, h2, h3, ?_, ?_⟩⟩, Chg.setRow rfl⟩
    · simp; omega
    · simp only [Nat.add_zero]
      apply List.ext_getElem?
      intro q
      rw [setRange_get cs o new (by omega)]
      rw [List.getElem?_take]
      have hcur : ∀ q, q < m * sz → cs[q]? = cur.toList[q]? := fun q hq => by rw [← h5, List.getElem?_take, if_pos hq]
      split
      · rename_i hq
        have := setRange_get cur.toList o new (by simp; omega) q
        unfold setRange at this
        rw [this]
        split
        · rfl
        · exact (hcur q hq).symm
      · rename_i hq
        rw [if_neg (by omega), List.getElem?_eq_none (by omega)]
/-- 's[j] = x', a struct into a list of one's own, the address told. -/
theorem Wl.storeOwnA {α : Type} {f : α → List Value} {Pb Pe : Nat → Prop} {xs : List α} {x y : Operand} {e sz bytes : Nat} {agg : Bool} {z v u : Value} {g j cap : Nat} {q : α} [he : ElT P e sz bytes agg z] (hf : ∀ x, (f x).length = sz) (h1 : ∀ x, ∀ c ∈ f x, c.oneCell' = true)
    (hown : OwnS (flat f) e sz Pb Pe w v xs) (hv : v = .slice (some ⟨g, 0, none⟩) xs.length cap) (hj : j < xs.length)
    (hx : ev n F x = .pointer (some ⟨g, j * sz, none⟩)) (hy : ev n F y = u) (hq : u.cells = (f q).toArray) (c : ∀ w', OwnS (flat f) e sz Pb Pe w' v (xs.set j q) → Chg (fun b => v.ownBlock = some b) w w' → Wl P n ds Q ops rest F w') :
    Wl P n ds Q ops (⟨none, .store e x y, ty, pos, aft, none⟩ :: rest) F w := by
  obtain ⟨cs, hoc, hel⟩ := hown
  have hjs : (j + 1) * sz ≤ xs.length * sz := Nat.mul_le_mul_right _ hj
  rw [Nat.add_mul] at hjs
  have hcl : cs.length = xs.length * sz := hoc.1
  obtain ⟨w', hr, hoc', hc⟩ := hoc.storeRange (P := P) (o := j * sz) (new := f q) hv (by rw [hf]; omega) (h1 q)
  refine Wl.unit (w' := w') ?_ (c w' ⟨setRange cs (j * sz) (f q), by simpa using hoc', fun i x hx => ?_⟩ hc)
  · have hs : u.cells.size = sz := by rw [hq]; simpa using hf q
    simp only [execOp, hx, hy, Instr.storeAt, Instr.sureAddr, storeVar, Sem.run_bind, Sem.run_pure, Result.andThen_ok, he.sizeOf, hq]
    rw [if_neg (by simp [hf])]
    simp only [hr, Result.andThen_ok]
  · have hi : i < xs.length := by have := (List.getElem?_eq_some_iff.1 hx).1; simpa using this
    have hi2 : (i + 1) * sz ≤ xs.length * sz := Nat.mul_le_mul_right _ hi
    rw [Nat.add_mul] at hi2
    rw [List.getElem?_set] at hx
    show _ = f x
    apply List.ext_getElem?
    intro k
    rw [List.getElem?_take, List.getElem?_drop, setRange_get _ _ _ (by rw [hf]; omega), hf]
    by_cases hk : k < sz
    · rw [if_pos hk]
      split at hx
      · rename_i e
        subst e
        simp only [hj, if_true, Option.some.injEq] at hx
        subst hx
        rw [if_pos (by omega)]; congr 1; omega
      · rename_i hne
        have hsep : ¬ (j * sz ≤ i * sz + k ∧ i * sz + k < j * sz + sz) := by
          rintro ⟨a1, a2⟩
          rcases Nat.lt_or_gt_of_ne hne with h | h
          · have : (j + 1) * sz ≤ i * sz := Nat.mul_le_mul_right _ h
            rw [Nat.add_mul] at this; omega
          · have : (i + 1) * sz ≤ j * sz := Nat.mul_le_mul_right _ h
            rw [Nat.add_mul] at this; omega
        rw [if_neg hsep]
        have h2 : (cs.drop (i * sz)).take sz = f x := hel i x hx
        rw [← h2, List.getElem?_take, if_pos hk, List.getElem?_drop]
    · rw [if_neg hk, List.getElem?_eq_none (by rw [hf]; omega)]
/-- 's[j].f = x', one cell of a struct in a list of one's own, the address told. -/
theorem Wl.storeOwnF {α : Type} {f : α → List Value} {Pb Pe : Nat → Prop} {xs : List α} {x y : Operand} {e e' sz bytes : Nat} {agg : Bool} {z v u : Value} {g j o cap : Nat} {p q : α} [he : ElT P e' 1 bytes agg z] (hf : ∀ x, (f x).length = sz) (ho : o < sz) (hu : u.oneCell' = true) (hp : xs[j]? = some p) (hpq : f q = (f p).set o u)
    (hown : OwnS (flat f) e sz Pb Pe w v xs) (hv : v = .slice (some ⟨g, 0, none⟩) xs.length cap)
    (hx : ev n F x = .pointer (some ⟨g, j * sz + o, none⟩)) (hy : ev n F y = u) (c : ∀ w', OwnS (flat f) e sz Pb Pe w' v (xs.set j q) → Chg (fun b => v.ownBlock = some b) w w' → Wl P n ds Q ops rest F w') :
    Wl P n ds Q ops (⟨none, .store e' x y, ty, pos, aft, none⟩ :: rest) F w := by
  obtain ⟨cs, hoc, hel⟩ := hown
  have hj : j < xs.length := (List.getElem?_eq_some_iff.1 hp).1
  have hjs : (j + 1) * sz ≤ xs.length * sz := Nat.mul_le_mul_right _ hj
  rw [Nat.add_mul] at hjs
  have hcl : cs.length = xs.length * sz := hoc.1
  have huc : u.cells = #[u] := by cases u <;> simp_all [Value.cells, Value.oneCell']
  obtain ⟨w', hr, hoc', hc⟩ := hoc.storeRange (P := P) (o := j * sz + o) (new := [u]) hv (by simp; omega) (by simpa using hu)
  refine Wl.unit (w' := w') ?_ (c w' ⟨setRange cs (j * sz + o) [u], by simpa using hoc', fun i x hx => ?_⟩ hc)
  · simp only [execOp, hx, hy, Instr.storeAt, Instr.sureAddr, storeVar, Sem.run_bind, Sem.run_pure, Result.andThen_ok, he.sizeOf, huc]
    rw [if_neg (by simp)]
    simp only [hr, Result.andThen_ok]
  · have hi : i < xs.length := by have := (List.getElem?_eq_some_iff.1 hx).1; simpa using this
    have hi2 : (i + 1) * sz ≤ xs.length * sz := Nat.mul_le_mul_right _ hi
    rw [Nat.add_mul] at hi2
    rw [List.getElem?_set] at hx
    show _ = f x
    apply List.ext_getElem?
    intro k
    rw [List.getElem?_take, List.getElem?_drop, setRange_get _ _ _ (by simp; omega), List.length_singleton]
    by_cases hk : k < sz
    · rw [if_pos hk]
      split at hx
      · rename_i e
        subst e
        simp only [hj, if_true, Option.some.injEq] at hx
        subst hx
        rw [hpq, List.getElem?_set]
        have h2 : (cs.drop (j * sz)).take sz = f p := hel j p hp
        by_cases hko : k = o
        · subst hko
          rw [if_pos (by omega), if_pos rfl, if_pos (by rw [hf]; exact hk), show j * sz + k - (j * sz + k) = 0 by omega]; rfl
        · rw [if_neg (by omega), if_neg (Ne.symm hko), ← h2, List.getElem?_take, if_pos hk, List.getElem?_drop]
      · rename_i hne
        have hsep : ¬ (j * sz + o ≤ i * sz + k ∧ i * sz + k < j * sz + o + 1) := by
          rintro ⟨a1, a2⟩
          rcases Nat.lt_or_gt_of_ne hne with h | h
          · have : (j + 1) * sz ≤ i * sz := Nat.mul_le_mul_right _ h
            rw [Nat.add_mul] at this; omega
          · have : (i + 1) * sz ≤ j * sz := Nat.mul_le_mul_right _ h
            rw [Nat.add_mul] at this; omega
        rw [if_neg hsep]
        have h2 : (cs.drop (i * sz)).take sz = f x := hel i x hx
        rw [← h2, List.getElem?_take, if_pos hk, List.getElem?_drop]
    · rw [if_neg hk, List.getElem?_eq_none (by rw [hf]; omega)]
/-- clear(s[i:]) of a list of one's own: what is ahead stays. -/
theorem run_clearTail {α : Type} {f : α → List Value} {Pb Pe : Nat → Prop} {xs : List α} {t e sz bytes : Nat} {agg : Bool} {z v : Value} {g cap i : Nat} (ht : P.underlying t = some (.slice e)) (he : ElT P e sz bytes agg z) (hz : ∀ c ∈ z.cells.toList, c.oneCell' = true)
    (hown : OwnS (flat f) e sz Pb Pe w v xs) (hv : v = .slice (some ⟨g, 0, none⟩) xs.length cap) (hi : i ≤ xs.length) (p : Addr) (hp : p = ⟨g, i * sz, none⟩ ∨ i = xs.length) :
    ∃ u w', (Builtin.clear_ #[t] ty #[.slice (some p) (xs.length - i) (cap - i)]).run P w = .ok u w' ∧ OwnS (flat f) e sz Pb Pe w' (.slice (some ⟨g, 0, none⟩) i cap) (xs.take i) ∧ Chg (fun b => v.ownBlock = some b) w w' := by
  have htk : ∀ w', OwnS (flat f) e sz Pb Pe w' v xs → OwnS (flat f) e sz Pb Pe w' (.slice (some ⟨g, 0, none⟩) i cap) (xs.take i) := fun w' h => h.take hi hv (by intro e; cases e)
  by_cases hie : i = xs.length
  · refine ⟨.tuple #[], w, ?_, htk w hown, Chg.refl _ _⟩
    subst hie
    simp [Builtin.clear_, run_underlying ht]
  · have hp' : p = ⟨g, i * sz, none⟩ := hp.resolve_right hie
    subst hp'
    obtain ⟨cs, hoc, hel⟩ := hown
    have hcl : cs.length = xs.length * sz := hoc.1
    have hle : i * sz ≤ xs.length * sz := Nat.mul_le_mul_right _ hi
    have hzl : (Builtin.zeroCells z.cells (xs.length - i)).toList.length = (xs.length - i) * sz := by rw [Array.length_toList, size_zeroCells, he.hz]
    obtain ⟨w', hr, hoc', hc⟩ := hoc.storeRange (P := P) (o := i * sz) (new := (Builtin.zeroCells z.cells (xs.length - i)).toList) hv (by rw [hzl, Nat.sub_mul]; omega) (by
      intro c hc
      simp only [Builtin.zeroCells, Array.toList_map, List.mem_map] at hc
      obtain ⟨q, hq, rfl⟩ := hc
      have hsz : 0 < z.cells.size := by
        rcases Nat.eq_zero_or_pos z.cells.size with h0 | h0
        · simp [h0] at hq
        · exact h0
      have hm := Nat.mod_lt q hsz
      refine hz _ ?_
      rw [getElem!_pos z.cells (q % z.cells.size) hm]
      simp)
    have hne : xs.length - i ≠ 0 := by omega
    refine ⟨.tuple #[], w', ?_, ?_, hc⟩
    · obtain ⟨k, hk⟩ : ∃ k, xs.length - i = k + 1 := ⟨xs.length - i - 1, by omega⟩
      rw [hk] at hr ⊢
      simp [Builtin.clear_, run_underlying ht, he.zeroValue, hr]
    · refine ⟨cs.take (i * sz), ⟨by rw [List.length_take, List.length_take, Nat.min_eq_left (by omega), Nat.min_eq_left hi], ?_⟩, fun q x hx => ?_⟩
      · rcases hoc'.2 with ⟨e1, _⟩ | ⟨g', cap', cur, e1, hb, hg, h1, h2, h3, h4⟩
        · rw [hv] at e1; cases e1
        · rw [hv] at e1
          cases e1
          have hl : (xs.take i).length = i := by simp; omega
          rw [hl]
          refine .inr ⟨g, cap, cur, rfl, hb, hg, by omega, h2, h3, ?_⟩
          have : cur.toList.take (i * sz) = (setRange cs (i * sz) (Builtin.zeroCells z.cells (xs.length - i)).toList).take (i * sz) := by rw [← h4, List.take_take, Nat.min_eq_left hle]
          rw [this]
          unfold setRange
          rw [List.append_assoc, List.take_append_of_le_length (by simp; omega), List.take_take, Nat.min_self]
      · rw [List.getElem?_take] at hx
        split at hx
        · rename_i hq
          have h1 := hel q x hx
          have : (q + 1) * sz ≤ i * sz := Nat.mul_le_mul_right _ hq
          rw [Nat.add_mul] at this
          show _ = f x
          rw [List.drop_take, List.take_take, Nat.min_eq_left (by omega)]
          exact h1
        · cases hx
/-- clear(s[i:]). -/
theorem Wl.clearTail {α : Type} {f : α → List Value} {Pb Pe : Nat → Prop} {xs : List α} {x lo : Operand} {t e sz bytes : Nat} {agg : Bool} {z v : Value} {k : IntKind} {g cap i : Nat} [ht : Und P t (.slice e)] [he : ElT P e sz bytes agg z] (hz : ∀ c ∈ z.cells.toList, c.oneCell' = true)
    (hown : OwnS (flat f) e sz Pb Pe w v xs) (hv : v = .slice (some ⟨g, 0, none⟩) xs.length cap) (hx : ev n F x = v) (hl : ev n F lo = .int k i) (hi : i ≤ xs.length) (hd : Nat.blt d1 n = true)
    (c : ∀ u w', OwnS (flat f) e sz Pb Pe w' (.slice (some ⟨g, 0, none⟩) i cap) (xs.take i) → Chg (fun b => v.ownBlock = some b) w w' → Wl P n ds Q ops rest (upd F d1 u) w') :
    Wl P n ds Q ops (⟨some d1, .slice t x (some lo) none none, ty1, pos1, aft1, none⟩ :: ⟨none, .call { callee := .builtin .clear, args := #[.tmp d1], argTypes := #[t] }, ty2, pos2, aft2, none⟩ :: rest) F w := by
  obtain ⟨_, cap', e1, hcap, _⟩ := hown.form
  have hcap2 : xs.length ≤ cap := by rw [hv] at e1; cases e1; exact hcap
  have hs := run_sliceS (P := P) (w := w) (p := some ⟨g, 0, none⟩) (l := xs.length) (cap := cap) (lo := some (.int k i)) (hi := none) (a := i) (b := xs.length) ht.h he (.inr ⟨k, rfl⟩) (.inl ⟨rfl, rfl⟩) hi hcap2
  have hp : (if cap = i then some (⟨g, 0, none⟩ : Addr) else Option.map (·.add (i * sz)) (some (⟨g, 0, none⟩ : Addr))) = some (if cap = i then ⟨g, 0, none⟩ else ⟨g, i * sz, none⟩) := by
    split
    · rfl
    · rw [Option.map_some, addr_add, Nat.zero_add]
  rw [hp] at hs
  obtain ⟨u, w', hr, ho, hc⟩ := run_clearTail (P := P) (ty := ty2) (w := w) ht.h he hz hown hv hi (if cap = i then ⟨g, 0, none⟩ else ⟨g, i * sz, none⟩) (by
    by_cases hci : cap = i
    · right; omega
    · left; rw [if_neg hci])
  refine Wl.val (w' := w) (v := .slice (some (if cap = i then ⟨g, 0, none⟩ else ⟨g, i * sz, none⟩)) (xs.length - i) (cap - i)) ?_ ?_
  · simp only [execOp, hx, hl, hv, Option.map_none, Option.map_some, Sem.run_bind, hs, Result.andThen_ok, Sem.run_pure]
  · refine Wl.valO (dst := none) (w' := w') (v := u) ?_ (c _ w' ho hc)
    have ed : ev n (upd F d1 (.slice (some (if cap = i then ⟨g, 0, none⟩ else ⟨g, i * sz, none⟩)) (xs.length - i) (cap - i))) (.tmp d1) = .slice (some (if cap = i then ⟨g, 0, none⟩ else ⟨g, i * sz, none⟩)) (xs.length - i) (cap - i) := by
      simp only [ev, hd, upd_eq, if_pos]
    simp only [execOp, resolve, invoke, builtin, Sem.run_bind, Sem.run_pure, Result.andThen_ok, List.map_toArray, List.map_cons, List.map_nil, ed, hr]
/-- x[:b], told. -/
theorem Wl.sliceToP {x hi : Operand} {t e sz bytes : Nat} {agg : Bool} {z : Value} {k : IntKind} {p : Option Addr} {l cap b : Nat} [ht : Und P t (.slice e)] [he : ElT P e sz bytes agg z] (hx : ev n F x = .slice p l cap) (hh : ev n F hi = .int k b) (h1 : b ≤ cap)
    (c : Wl P n ds Q ops rest (upd F d (.slice p b cap)) w) : Wl P n ds Q ops (⟨some d, .slice t x none (some hi) none, ty, pos, aft, none⟩ :: rest) F w := by
  have := run_sliceS (P := P) (w := w) (p := p) (l := l) (lo := none) (hi := some (.int k b)) (a := 0) (b := b) ht.h he (.inl ⟨rfl, rfl⟩) (.inr ⟨k, rfl⟩) (Nat.zero_le _) h1
  have hp : (if cap = 0 then p else p.map (·.add (0 * sz))) = p := by
    split
    · rfl
    · cases p with
      | none => rfl
      | some a => simp [Addr.add]
  refine Wl.val (w' := w) (v := .slice p b cap) ?_ c
  simp only [execOp, hx, hh, Option.map_none, Option.map_some, Sem.run_bind, this, Result.andThen_ok, Sem.run_pure, hp, Nat.sub_zero]
/-- What stands between two pieces of code, told: the ways of the first come together. -/
theorem Wc.cut {a b : Code} (M : Fr → World → Prop) (h1 : Wc P n ds (fun e F w => e = .normal ∧ M F w) a F w) (h2 : ∀ F w, M F w → Wc P n ds Q b F w) : Wc P n ds Q (.seq a b) F w := by
  unfold Wc at *
  refine wp_seq (wp_mono h1 ?_)
  rintro e a' w' ⟨F', rfl, he, hM⟩
  subst he
  exact h2 F' w' hM
end
end Go.Proofs.YtjpebmgllfiloaaDoor.Wk
