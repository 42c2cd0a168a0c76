/-
  The generic walking kit of this claim: variables behind pointers, and their fields. It speaks of any program.
-/
import Derived.Test.YtjpebmgllfiloaaDoorQuiet
import Derived.Lib.Builder
namespace Go.Proofs.YtjpebmgllfiloaaDoor.Wk
open Go Go.RowKit

/-- Block b is a variable (or a row) of the cells cs, of type T; no cell of it is frozen. -/
def Bk (w : World) (b : Nat) (T : TypeId) (cs : List Value) : Prop := w.heap[b]? = some (.cells cs.toArray T (0, 0))
section
variable {w w' : World} {b : Nat} {T : TypeId} {cs : List Value} {M Pb : Nat → Prop}
theorem Bk.lt (h : Bk w b T cs) : b < w.heap.size := heap_lt h
theorem Bk.keep (h : Bk w b T cs) (hk : Keep Pb w w') (hb : Pb b) : Bk w' b T cs := (hk b hb h.lt).trans h
theorem Bk.chg (h : Bk w b T cs) (hc : Chg M w w') (hb : ¬ M b) : Bk w' b T cs := (hc.block b h.lt hb).trans h
theorem Bk.cell (h : Bk w b T cs) {o : Nat} {u : Value} (hu : cs[o]? = some u) : w.cell? ⟨b, o, none⟩ = some u := by
  unfold Bk at h
  simp only [World.cell?, h]
  simpa using hu
theorem Bk.frozen (h : Bk w b T cs) (o : Nat) : w.frozen? ⟨b, o, none⟩ = false := by
  unfold Bk at h
  simp only [World.frozen?, h]
  simp
theorem Bk.shape {w : World} {b : Nat} {T : TypeId} {cs : List Value} (h : Bk w b T cs) : w.shape? b = some (T, cs.length) := by
  unfold Bk at h; simp [World.shape?, h]

theorem Bk.store (h : Bk w b T cs) (o : Nat) (u : Value) : Bk (w.setCell ⟨b, o, none⟩ u) b T (cs.set o u) := by
  unfold Bk at h ⊢
  rw [heap_setCell_same w b o _ T u h]
  simp
theorem Chg.store (b o : Nat) (u : Value) : Chg (fun k => k = b) w (w.setCell ⟨b, o, none⟩ u) :=
  ⟨rfl, rfl, rfl, by simp [World.setCell], fun k _ hn => heap_setCell_other w ⟨b, o, none⟩ k u hn⟩
end

section
variable {P : Program} {n : Nat} {ds : List Deferred} {Q : Po} {F : Fr} {w w' : World} {ops rest : List Oper} {d d1 d2 : Nat} {ty ty1 ty2 : TypeId} {pos pos1 pos2 : String} {aft aft1 aft2 : Array Edge}
theorem Wl.nilP {x : Operand} {a : Addr} (hx : ev n F x = .pointer (some a)) (c : Wl P n ds Q ops rest (upd F d (.pointer (some a))) w) :
    Wl P n ds Q ops (⟨some d, .nilCheck x, ty, pos, aft, none⟩ :: rest) F w :=
  Wl.val (by simp only [execOp, hx, Sem.run_pure]) c
theorem Wl.nilF {x : Operand} {g : FuncId} {first cap : Array Value} (hx : ev n F x = .func (.func g) first cap) (c : Wl P n ds Q ops rest (upd F d (.func (.func g) first cap)) w) :
    Wl P n ds Q ops (⟨some d, .nilCheck x, ty, pos, aft, none⟩ :: rest) F w :=
  Wl.val (by simp only [execOp, hx, Sem.run_pure]) c
theorem run_fieldAt {T i off fty : Nat} {sz bytes : Nat} {agg : Bool} {z : Value} {b o : Nat} (hf : Fld P T i off fty) (he : ElT P fty sz bytes agg z) (hz : sz ≠ 0) :
    (Instr.fieldAt T (.pointer (some ⟨b, o, none⟩)) i).run P w = .ok (.pointer (some ⟨b, o + off, none⟩)) w := by
  obtain ⟨fs, f, h1, h2, rfl, rfl⟩ := hf.ex
  simp [Instr.fieldAt, run_underlying h1, h2, Instr.sureAddr, fieldPlace, he.sizeOf, hz, addr_add]
theorem Wl.fieldAddr {x : Operand} {T i off fty : Nat} {sz bytes : Nat} {agg : Bool} {z : Value} {b o : Nat} [hf : Fld P T i off fty] [he : ElT P fty sz bytes agg z] (hx : ev n F x = .pointer (some ⟨b, o, none⟩)) (hz : Nat.beq sz 0 = false)
    (c : Wl P n ds Q ops rest (upd F d (.pointer (some ⟨b, o + off, none⟩))) w) : Wl P n ds Q ops (⟨some d, .fieldAddr T x i, ty, pos, aft, none⟩ :: rest) F w :=
  Wl.val (by simp only [execOp, hx, Sem.run_bind, run_fieldAt hf he (Nat.ne_of_beq_eq_false hz), Result.andThen_ok, Sem.run_pure]) c
theorem Wl.load1 {x : Operand} {e bytes : Nat} {z u : Value} {b o : Nat} [he : ElT P e 1 bytes false z] (hx : ev n F x = .pointer (some ⟨b, o, none⟩)) (hc : w.cell? ⟨b, o, none⟩ = some u)
    (c : Wl P n ds Q ops rest (upd F d u) w) : Wl P n ds Q ops (⟨some d, .load e x, ty, pos, aft, none⟩ :: rest) F w :=
  Wl.val (by simp only [execOp, hx, Sem.run_bind, run_load1 he hc, Result.andThen_ok, Sem.run_pure]) c
theorem run_storeO {e bytes : Nat} {agg : Bool} {z u : Value} {b o : Nat} {T : TypeId} {cs : List Value} (he : ElT P e 1 bytes agg z) (h : Bk w b T cs) (ho : o < cs.length) (hu : u.oneCell' = true) :
    (Instr.storeAt e (.pointer (some ⟨b, o, none⟩)) u).run P w = .ok () (w.setCell ⟨b, o, none⟩ u) := by
  have huc : u.cells = #[u] := by cases u <;> simp_all [Value.cells, Value.oneCell']
  simp only [Instr.storeAt, Instr.sureAddr, storeVar, Sem.run_bind, Sem.run_pure, Result.andThen_ok, he.sizeOf, huc]
  simp [storeCells, run_store P w _ _ _ hu, addr_add, h.cell (List.getElem?_eq_getElem ho), h.frozen]
theorem Wl.store1 {x y : Operand} {e bytes : Nat} {agg : Bool} {z u : Value} {b o : Nat} {T : TypeId} {cs : List Value} [he : ElT P e 1 bytes agg z] (h : Bk w b T cs) (hx : ev n F x = .pointer (some ⟨b, o, none⟩)) (ho : o < cs.length) (hy : ev n F y = u) (hu : u.oneCell' = true)
    (c : ∀ w', Bk w' b T (cs.set o u) → Chg (fun k => k = b) w w' → Wl P n ds Q ops rest F w') : Wl P n ds Q ops (⟨none, .store e x y, ty, pos, aft, none⟩ :: rest) F w :=
  Wl.unit (by simp only [execOp, hx, hy, Sem.run_bind, run_storeO he h ho hu, Result.andThen_ok, Sem.run_pure]) (c _ (h.store o u) (Chg.store b o u))
/-- 'var x T', or 'new(T)': a new variable, zero. -/
theorem Wl.alloc {e sz bytes : Nat} {agg : Bool} {z : Value} [he : ElT P e sz bytes agg z] (c : ∀ w', Bk w' w.heap.size e z.cells.toList → New w w' → w'.heap.size = w.heap.size + 1 → Wl P n ds Q ops rest (upd F d (.pointer (some ⟨w.heap.size, 0, none⟩))) w') :
    Wl P n ds Q ops (⟨some d, .alloc e, ty, pos, aft, none⟩ :: rest) F w := by
  refine Wl.val (w' := w.alloc (.cells z.cells e)) ?_ (c _ (by simpa [Bk] using heap_alloc_new w (.cells z.cells e)) (Chg.alloc _ _ _) (by simp))
  simp [execOp, Instr.alloc, he.zeroValue, newVar, newRow]
/-- A new variable that holds x. -/
theorem Wl.box {x : Operand} {e : TypeId} {u : Value} (hx : ev n F x = u) (c : ∀ w', Bk w' w.heap.size e u.cells.toList → New w w' → w'.heap.size = w.heap.size + 1 → Wl P n ds Q ops rest (upd F d (.pointer (some ⟨w.heap.size, 0, none⟩))) w') :
    Wl P n ds Q ops (⟨some d, .box e x, ty, pos, aft, none⟩ :: rest) F w := by
  refine Wl.val (w' := w.alloc (.cells u.cells e)) ?_ (c _ (by simpa [Bk] using heap_alloc_new w (.cells u.cells e)) (Chg.alloc _ _ _) (by simp))
  simp [execOp, Instr.box, hx, newVar, newRow]
theorem und_pointee {t e : TypeId} (h : P.underlying t = some (.pointer e)) : P.underlying t = some (.pointer (P.pointee t)) := by simp [Program.pointee, h]
/-- Pointers compared with nil. -/
theorem run_eqGuard_ptr {op : BinOp} {t : TypeId} {x y : Operand} {a b : Option Addr} : (eqGuard op t x y (.pointer a) (.pointer b)).run P w = .ok () w := by
  unfold eqGuard; split <;> simp
theorem Wl.peqNil {x y : Operand} {t t' e : TypeId} {a : Option Addr} [ht : Und P t (.pointer e)] (hx : ev n F x = .pointer a) (hy : ev n F y = .pointer none) (c : Wl P n ds Q ops rest (upd F d (.bool a.isNone)) w) :
    Wl P n ds Q ops (⟨some d, .binOp .eql t x y t', ty, pos, aft, none⟩ :: rest) F w := by
  refine Wl.val ?_ c
  simp only [execOp, hx, hy, Sem.run_bind, run_eqGuard_ptr, Result.andThen_ok, run_eql_pointer_nil w t a (und_pointee ht.h), Sem.run_pure]
theorem Wl.pneNil {x y : Operand} {t t' e : TypeId} {a : Option Addr} [ht : Und P t (.pointer e)] (hx : ev n F x = .pointer a) (hy : ev n F y = .pointer none) (c : Wl P n ds Q ops rest (upd F d (.bool !a.isNone)) w) :
    Wl P n ds Q ops (⟨some d, .binOp .neq t x y t', ty, pos, aft, none⟩ :: rest) F w := by
  refine Wl.val ?_ c
  simp only [execOp, hx, hy, Sem.run_bind, run_eqGuard_ptr, Result.andThen_ok, run_neq_pointer_nil w t a (und_pointee ht.h), Sem.run_pure]
theorem Wl.pneSame {x y : Operand} {t t' e : TypeId} {a : Addr} {sz bytes : Nat} {agg : Bool} {z : Value} [ht : Und P t (.pointer e)] [he : ElT P e sz bytes agg z] (hx : ev n F x = .pointer (some a)) (hy : ev n F y = .pointer (some a)) (c : Wl P n ds Q ops rest (upd F d (.bool false)) w) :
    Wl P n ds Q ops (⟨some d, .binOp .neq t x y t', ty, pos, aft, none⟩ :: rest) F w := by
  obtain ⟨i, hi, _⟩ := he.inf
  refine Wl.val ?_ c
  simp only [execOp, hx, hy, Sem.run_bind, run_eqGuard_ptr, Result.andThen_ok, Lib.run_neq_ptr_same w a ht.h hi, Sem.run_pure]
theorem Wl.convR {x : Operand} {t t' : TypeId} {v u : Value} (hx : ev n F x = v) (hr : (convert t t' v).run P w = .ok u w') (c : Wl P n ds Q ops rest (upd F d u) w') :
    Wl P n ds Q ops (⟨some d, .convert t t' x, ty, pos, aft, none⟩ :: rest) F w := Wl.val (by simp only [execOp, hx, Sem.run_bind, hr, Result.andThen_ok, Sem.run_pure]) c
/-- A function without a body that yields a value. -/
theorem Wl.extern {args : List Operand} {ts : Array TypeId} {f : FuncId} {vs : List Value} {v : Value}
    (hr : (callFunc f vs.toArray).run P w = .ok (.value v) w') (ha : args.map (ev n F) = vs) (c : Wl P n ds Q ops rest (upd F d v) w') :
    Wl P n ds Q ops (⟨some d, .call { callee := .value (.func f), args := args.toArray, argTypes := ts }, ty, pos, aft, none⟩ :: rest) F w := by
  refine Wl.val ?_ c
  subst ha
  have : #[] ++ (List.map (ev n F) args).toArray ++ #[] = (List.map (ev n F) args).toArray := by simp
  simp only [execOp, resolve, ev, Deferred.ofValue, Sem.run_bind, Sem.run_pure, Result.andThen_ok, invoke, List.map_toArray]
  rw [this, hr]

/-- &xs[j], an element of one cell, plain. -/
theorem Wl.idxAddrV {α : Type} {f : α → Value} {Pb : Nat → Prop} {xs : List α} {x i : Operand} {t e bytes : Nat} {z v : Value} {k : IntKind} {j : Int} {y : α}
    [ht : Und P t (.slice e)] [he : ElT P e 1 bytes false z] (h : RdS (one f) 1 Pb w v xs) (hx : ev n F x = v) (hi : ev n F i = .int k j) (h0 : 0 ≤ j) (hy : xs[j.toNat]? = some y)
    (c : ∀ b o, w.cell? ⟨b, o, none⟩ = some (f y) → Wl P n ds Q ops rest (upd F d (.pointer (some ⟨b, o, none⟩))) w) :
    Wl P n ds Q ops (⟨some d, .indexAddr t x i, ty, pos, aft, none⟩ :: rest) F w := by
  obtain ⟨b, off, cap, rfl, hlt, cs, hl, hR, hc⟩ := h.cells hy
  have hc0 := hc 0 (f y) (by rw [hR]; rfl)
  refine Wl.val (w' := w) (v := .pointer (some ((⟨b, off, none⟩ : Addr).add (j.toNat * 1)))) ?_ ?_
  · simp only [execOp, hx, hi, Sem.run_bind, run_indexAt ht.h he h0 (by omega : j < xs.length), Result.andThen_ok, Sem.run_pure]
  · rw [addr_add]; exact c _ _ (by simpa using hc0)

/-! Slices of slices, of strings. -/
theorem run_sliceBounds {isS : Bool} {l cap : Nat} {lo hi : Option Value} {a b : Nat} (hlo : lo = none ∧ a = 0 ∨ ∃ k, lo = some (.int k a)) (hhi : hi = none ∧ b = l ∨ ∃ k, hi = some (.int k b)) (hab : a ≤ b) (hb : b ≤ cap) :
    (Instr.sliceBounds isS l cap lo hi none).run P w = .ok (a, b, cap) w := by
  have h1 : ∀ (k : IntKind) (m : Nat) (c : BoundsCode) (q : Nat), q ≤ m → (Instr.sliceBound (.int k (q : Int)) m c).run P w = .ok q w := by
    intro k m c q hq
    have : (0 : Int) ≤ q ∧ (q : Int) ≤ m := by omega
    simp [Instr.sliceBound, asIntOf, hq]
  rcases hlo with ⟨rfl, rfl⟩ | ⟨k, rfl⟩ <;> rcases hhi with ⟨rfl, rfl⟩ | ⟨k', rfl⟩ <;> simp [Instr.sliceBounds, h1, hab, hb]
theorem run_sliceS {t e : TypeId} {sz bytes : Nat} {agg : Bool} {z : Value} {p : Option Addr} {l cap : Nat} {lo hi : Option Value} {a b : Nat} (ht : P.underlying t = some (.slice e)) (he : ElT P e sz bytes agg z)
    (hlo : lo = none ∧ a = 0 ∨ ∃ k, lo = some (.int k a)) (hhi : hi = none ∧ b = l ∨ ∃ k, hi = some (.int k b)) (hab : a ≤ b) (hb : b ≤ cap) :
    (Instr.sliceAt t (.slice p l cap) lo hi none).run P w = .ok (.slice (if cap = a then p else p.map (·.add (a * sz))) (b - a) (cap - a)) w := by
  simp only [Instr.sliceAt, Sem.run_bind, run_underlying ht, Result.andThen_ok, Instr.slice, run_sliceBounds hlo hhi hab hb, he.sizeOf, Sem.run_pure]
theorem RdS.sub {α : Type} {R : Rel α} {sz : Nat} {Pb : Nat → Prop} {w : World} {p : Option Addr} {l cap : Nat} {xs : List α} (h : RdS R sz Pb w (.slice p l cap) xs) {a b : Nat} (hab : a ≤ b) (hb : b ≤ xs.length) :
    RdS R sz Pb w (.slice (if cap = a then p else p.map (·.add (a * sz))) (b - a) (cap - a)) ((xs.take b).drop a) := by
  have h1 := h.take hb rfl
  cases p with
  | none =>
    rcases h with ⟨e, rfl⟩ | ⟨_, _, e, _⟩ | ⟨_, _, _, _, _, _, e, _⟩
    · cases e
      simp only [List.length_nil, Nat.le_zero_eq] at hb
      subst hb
      obtain rfl : a = 0 := by omega
      exact .inl ⟨by simp, by simp⟩
    · cases e
    · cases e
  | some q =>
    have hl : (xs.take b).length = b := by simp; omega
    have := h1.drop (m := a) (by omega) rfl (if cap = a then q else q.add (a * sz)) (by
      split
      · rename_i e; exact .inr ⟨e.symm, rfl⟩
      · exact .inl rfl)
    have e : (if cap = a then some q else Option.map (fun x => x.add (a * sz)) (some q)) = some (if cap = a then q else q.add (a * sz)) := by split <;> rfl
    rw [e]
    exact this
section
variable {α : Type} {R : Rel α} {Pb : Nat → Prop} {xs : List α} {x lo hi : Operand} {t e : TypeId} {sz bytes : Nat} {agg : Bool} {z v : Value} {k k' : IntKind} {a b : Int}
/-- x[:b], x[a:], x[a:b]. -/
theorem Wl.sliceTo [ht : Und P t (.slice e)] [he : ElT P e sz bytes agg z] (h : RdS R sz Pb w v xs) (hx : ev n F x = v) (hh : ev n F hi = .int k b) (h0 : 0 ≤ b) (h1 : b ≤ xs.length)
    (c : ∀ v', RdS R sz Pb w v' (xs.take b.toNat) → Wl P n ds Q ops rest (upd F d v') w) : Wl P n ds Q ops (⟨some d, .slice t x none (some hi) none, ty, pos, aft, none⟩ :: rest) F w := by
  obtain ⟨p, cap, rfl, hc, _⟩ := h.form
  obtain ⟨b, rfl⟩ := Int.eq_ofNat_of_zero_le h0
  have := run_sliceS (P := P) (w := w) (p := p) (l := xs.length) (lo := none) (hi := some (.int k b)) (a := 0) (b := b) ht.h he (.inl ⟨rfl, rfl⟩) (.inr ⟨k, rfl⟩) (Nat.zero_le _) (by omega : b ≤ cap)
  have hr := h.sub (a := 0) (b := b) (Nat.zero_le _) (by omega)
  rw [List.drop_zero] at hr
  refine Wl.val (w' := w) ?_ (c _ hr)
  simp only [execOp, hx, hh, Option.map_none, Option.map_some, Sem.run_bind, this, Result.andThen_ok, Sem.run_pure]
theorem Wl.sliceFrom [ht : Und P t (.slice e)] [he : ElT P e sz bytes agg z] (h : RdS R sz Pb w v xs) (hx : ev n F x = v) (hl : ev n F lo = .int k a) (h0 : 0 ≤ a) (h1 : a ≤ xs.length)
    (c : ∀ v', RdS R sz Pb w v' (xs.drop a.toNat) → Wl P n ds Q ops rest (upd F d v') w) : Wl P n ds Q ops (⟨some d, .slice t x (some lo) none none, ty, pos, aft, none⟩ :: rest) F w := by
  obtain ⟨p, cap, rfl, hc, _⟩ := h.form
  obtain ⟨a, rfl⟩ := Int.eq_ofNat_of_zero_le h0
  have := run_sliceS (P := P) (w := w) (p := p) (l := xs.length) (lo := some (.int k a)) (hi := none) (a := a) (b := xs.length) ht.h he (.inr ⟨k, rfl⟩) (.inl ⟨rfl, rfl⟩) (by omega) (by omega : xs.length ≤ cap)
  refine Wl.val (w' := w) ?_ (c _ (by simpa using h.sub (a := a) (b := xs.length) (by omega) (Nat.le_refl _)))
  simp only [execOp, hx, hl, Option.map_none, Option.map_some, Sem.run_bind, this, Result.andThen_ok, Sem.run_pure]
theorem Wl.sliceBoth [ht : Und P t (.slice e)] [he : ElT P e sz bytes agg z] (h : RdS R sz Pb w v xs) (hx : ev n F x = v) (hl : ev n F lo = .int k a) (hh : ev n F hi = .int k' b) (h0 : 0 ≤ a) (h1 : a ≤ b) (h2 : b ≤ xs.length)
    (c : ∀ v', RdS R sz Pb w v' ((xs.take b.toNat).drop a.toNat) → Wl P n ds Q ops rest (upd F d v') w) : Wl P n ds Q ops (⟨some d, .slice t x (some lo) (some hi) none, ty, pos, aft, none⟩ :: rest) F w := by
  obtain ⟨p, cap, rfl, hc, _⟩ := h.form
  obtain ⟨a, rfl⟩ := Int.eq_ofNat_of_zero_le h0
  obtain ⟨b, rfl⟩ := Int.eq_ofNat_of_zero_le (Int.le_trans h0 h1)
  have := run_sliceS (P := P) (w := w) (p := p) (l := xs.length) (lo := some (.int k a)) (hi := some (.int k' b)) (a := a) (b := b) ht.h he (.inr ⟨k, rfl⟩) (.inr ⟨k', rfl⟩) (by omega) (by omega : b ≤ cap)
  refine Wl.val (w' := w) ?_ (c _ (by simpa using h.sub (a := a) (b := b) (by omega) (by omega)))
  simp only [execOp, hx, hl, hh, Option.map_none, Option.map_some, Sem.run_bind, this, Result.andThen_ok, Sem.run_pure]
end
section
variable {x lo hi : Operand} {t : TypeId} {k k' : IntKind} {a b : Int} {l : List UInt8}
theorem run_sliceStr {lo hi : Option Value} {a b : Nat} (ht : P.underlying t = some .string) (hlo : lo = none ∧ a = 0 ∨ ∃ k, lo = some (.int k a)) (hhi : hi = none ∧ b = l.length ∨ ∃ k, hi = some (.int k b)) (hab : a ≤ b) (hb : b ≤ l.length) :
    (Instr.sliceAt t (vs l) lo hi none).run P w = .ok (vs ((l.take b).drop a)) w := by
  have hs : (⟨l.toArray⟩ : ByteArray).size = l.length := by simp [ByteArray.size]
  simp only [Instr.sliceAt, Sem.run_bind, run_underlying ht, Result.andThen_ok, Instr.slice, hs, run_sliceBounds hlo hhi hab hb, Option.isSome_none, Bool.false_eq_true, if_false, Sem.run_pure]
  rw [ByteArray.extract_mk, List.drop_take]
theorem Wl.strTo [ht : Und P t .string] (hx : ev n F x = vs l) (hh : ev n F hi = .int k b) (h0 : 0 ≤ b) (h1 : b ≤ l.length)
    (c : Wl P n ds Q ops rest (upd F d (vs (l.take b.toNat))) w) : Wl P n ds Q ops (⟨some d, .slice t x none (some hi) none, ty, pos, aft, none⟩ :: rest) F w := by
  obtain ⟨b, rfl⟩ := Int.eq_ofNat_of_zero_le h0
  have := run_sliceStr (P := P) (w := w) (l := l) (lo := none) (hi := some (.int k b)) (a := 0) (b := b) ht.h (.inl ⟨rfl, rfl⟩) (.inr ⟨k, rfl⟩) (Nat.zero_le _) (by omega)
  refine Wl.val (w' := w) ?_ c
  simp only [execOp, hx, hh, Option.map_none, Option.map_some, Sem.run_bind, this, Result.andThen_ok, Sem.run_pure, List.drop_zero, Int.toNat_natCast]
theorem Wl.strFrom [ht : Und P t .string] (hx : ev n F x = vs l) (hl : ev n F lo = .int k a) (h0 : 0 ≤ a) (h1 : a ≤ l.length)
    (c : Wl P n ds Q ops rest (upd F d (vs (l.drop a.toNat))) w) : Wl P n ds Q ops (⟨some d, .slice t x (some lo) none none, ty, pos, aft, none⟩ :: rest) F w := by
  obtain ⟨a, rfl⟩ := Int.eq_ofNat_of_zero_le h0
  have := run_sliceStr (P := P) (w := w) (l := l) (lo := some (.int k a)) (hi := none) (a := a) (b := l.length) ht.h (.inr ⟨k, rfl⟩) (.inl ⟨rfl, rfl⟩) (by omega) (Nat.le_refl _)
  refine Wl.val (w' := w) ?_ c
  simp only [execOp, hx, hl, Option.map_none, Option.map_some, Sem.run_bind, this, Result.andThen_ok, Sem.run_pure, List.take_length, Int.toNat_natCast]
theorem Wl.strBoth [ht : Und P t .string] (hx : ev n F x = vs l) (hl : ev n F lo = .int k a) (hh : ev n F hi = .int k' b) (h0 : 0 ≤ a) (h1 : a ≤ b) (h2 : b ≤ l.length)
    (c : Wl P n ds Q ops rest (upd F d (vs ((l.take b.toNat).drop a.toNat))) w) : Wl P n ds Q ops (⟨some d, .slice t x (some lo) (some hi) none, ty, pos, aft, none⟩ :: rest) F w := by
  obtain ⟨a, rfl⟩ := Int.eq_ofNat_of_zero_le h0
  obtain ⟨b, rfl⟩ := Int.eq_ofNat_of_zero_le (Int.le_trans h0 h1)
  have := run_sliceStr (P := P) (w := w) (l := l) (lo := some (.int k a)) (hi := some (.int k' b)) (a := a) (b := b) ht.h (.inr ⟨k, rfl⟩) (.inr ⟨k', rfl⟩) (by omega) (by omega)
  refine Wl.val (w' := w) ?_ c
  simp only [execOp, hx, hl, hh, Option.map_none, Option.map_some, Sem.run_bind, this, Result.andThen_ok, Sem.run_pure, Int.toNat_natCast]
end
end
end Go.Proofs.YtjpebmgllfiloaaDoor.Wk
