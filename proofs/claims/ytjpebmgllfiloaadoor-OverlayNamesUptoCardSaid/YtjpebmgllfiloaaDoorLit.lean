/-
  The generic walking kit of this claim: slices written out, several elements of several cells. It speaks of any program.
-/
import Derived.Test.YtjpebmgllfiloaaDoorCut
namespace Go.Proofs.YtjpebmgllfiloaaDoor.Wk
open Go Go.RowKit

def numb : Nat → List Value → List (Nat × Value)
  | _, [] => []
  | k, u :: us => (k, u) :: numb (k + 1) us
theorem fill_dense (sz : Nat) : ∀ (us : List Value) (k : Nat) (pre zs : List Value), pre.length = k * sz → zs.length = us.length * sz → (∀ u ∈ us, u.cells.size = sz) →
    Instr.fill (fun i => some (i * sz, sz)) (pre ++ zs).toArray (numb k us) = some (pre ++ us.flatMap fun u => u.cells.toList).toArray
  | [], k, pre, zs, hp, hz, _ => by
    have : zs = [] := List.eq_nil_of_length_eq_zero (by simpa using hz)
    subst this
    simp [numb, Instr.fill]
  | u :: us, k, pre, zs, hp, hz, h => by
    have hu := h u (by simp)
    simp only [List.length_cons, Nat.add_mul, Nat.one_mul] at hz
    simp only [numb, Instr.fill, hu]
    rw [if_neg (by simp; omega)]
    have hsp : zs = zs.take sz ++ zs.drop sz := (List.take_append_drop sz zs).symm
    have h1 := foldl_fill (k * sz) u.cells.toList 0 pre (zs.drop sz) (zs.take sz) (by simp [hu]; omega) (by omega)
    rw [List.append_assoc, ← hsp] at h1
    rw [← Array.foldl_toList, Array.toList_zipIdx]
    have h2 : List.foldl (fun (cs : Array Value) (x : Value × Nat) => match x with | (c, j) => cs.setIfInBounds (k * sz + j) c) (pre ++ zs).toArray (u.cells.toList.zipIdx) = (pre ++ u.cells.toList ++ zs.drop sz).toArray := h1
    rw [h2, fill_dense sz us (k + 1) (pre ++ u.cells.toList) (zs.drop sz) (by simp [hu, hp, Nat.add_mul]) (by simp; omega) fun v hv => h v (by simp [hv])]
    simp
def AllR {α : Type} (R : Rel α) (sz : Nat) (Pb : Nat → Prop) (w : World) : List α → List Value → Prop
  | [], [] => True
  | x :: xs, u :: us => u.cells.size = sz ∧ R Pb w x u.cells.toList ∧ AllR R sz Pb w xs us
  | _, _ => False
theorem AllR.length {α : Type} {R : Rel α} {sz : Nat} {Pb : Nat → Prop} {w : World} : ∀ {xs : List α} {us : List Value}, AllR R sz Pb w xs us → us.length = xs.length ∧ ∀ u ∈ us, u.cells.size = sz
  | [], [], _ => ⟨rfl, by simp⟩
  | x :: xs, u :: us, h => by
    obtain ⟨h1, _, h2⟩ := h
    have := h2.length
    exact ⟨by simp [this.1], fun v hv => by rcases List.mem_cons.1 hv with rfl | hv; exact h1; exact this.2 v hv⟩
  | [], _ :: _, h => h.elim
  | _ :: _, [], h => h.elim
theorem AllR.get {α : Type} {R : Rel α} {sz : Nat} {Pb : Nat → Prop} {w : World} : ∀ {xs : List α} {us : List Value} {i : Nat} {x : α}, AllR R sz Pb w xs us → xs[i]? = some x → R Pb w x (((us.flatMap fun u => u.cells.toList).drop (i * sz)).take sz)
  | [], [], i, x, _, h => by simp at h
  | y :: xs, u :: us, i, x, h, hx => by
    obtain ⟨h1, h2, h3⟩ := h
    have hl : u.cells.toList.length = sz := by simpa using h1
    cases i with
    | zero =>
      simp at hx
      subst hx
      simp only [List.flatMap_cons, Nat.zero_mul, List.drop_zero]
      rw [List.take_append_of_le_length (by omega), List.take_of_length_le (by omega)]
      exact h2
    | succ i =>
      have := h3.get (i := i) (by simpa using hx)
      rw [List.flatMap_cons, List.drop_append, List.drop_eq_nil_of_le (show u.cells.toList.length ≤ (i + 1) * sz by rw [hl, Nat.add_mul]; omega), List.nil_append, hl, Nat.add_mul, Nat.one_mul, Nat.add_sub_cancel]
      exact this
  | [], _ :: _, _, _, h, _ => h.elim
  | _ :: _, [], _, _, h, _ => h.elim
section
variable {P : Program} {n : Nat} {ds : List Deferred} {Q : Po} {F : Fr} {w w' : World} {ops rest : List Oper} {d d1 d2 : Nat} {ty ty1 ty2 : TypeId} {pos pos1 pos2 : String} {aft aft1 aft2 : Array Edge}
theorem flat_len {us : List Value} {sz : Nat} (h : ∀ u ∈ us, u.cells.size = sz) : (us.flatMap fun u => u.cells.toList).length = us.length * sz := by
  induction us with
  | nil => simp
  | cons u us ih => simp [ih fun v hv => h v (by simp [hv]), h u (by simp), Nat.add_mul]; omega
theorem run_buildSliceN {t e : TypeId} {sz bytes : Nat} {agg : Bool} {z : Value} {us : List Value} (ht : P.underlying t = some (.slice e)) (he : ElT P e sz bytes agg z) (hv : ∀ u ∈ us, u.cells.size = sz) (hs : 0 < us.length * sz) (hs2 : us.length * sz ≤ 16777216) :
    (Instr.buildSlice t us.length (numb 0 us).toArray).run P w = .ok (.slice (some ⟨w.heap.size, 0, none⟩) us.length us.length) (w.alloc (.cells (us.flatMap fun u => u.cells.toList).toArray e)) := by
  have hne : ¬ us.length * sz = 0 := by omega
  have hz := he.hz
  have e3 := fill_dense sz us 0 [] (((List.range (us.length * sz)).map fun i => z.cells[i % z.cells.size]!)) (by simp) (by simp) hv
  have e4 : (Array.range (us.length * sz)).map (fun i => z.cells[i % z.cells.size]!) = (((List.range (us.length * sz)).map fun i => z.cells[i % z.cells.size]!)).toArray := by
    apply Array.ext'
    simp [Array.toList_range]
  rw [List.nil_append, List.nil_append, ← e4] at e3
  simp only [Instr.buildSlice, Sem.run_bind, run_underlying ht, Result.andThen_ok, he.sizeOf]
  rw [if_neg (by omega), if_neg hne]
  simp only [Sem.run_bind, Result.andThen_ok, he.zeroValue, Sem.run_pure, e3, newRow, run_newObj]
  rfl
/-- []T{a, b, ..}, a list of one's own. -/
theorem Wl.buildSliceN {α : Type} {R : Rel α} {N : Nat} {ps : List (Nat × Operand)} {t e : TypeId} {sz bytes : Nat} {agg : Bool} {z : Value} {xs : List α} {us : List Value} {Pe : Nat → Prop} (hR : GoodR R sz) [ht : Und P t (.slice e)] [he : ElT P e sz bytes agg z] (hN : us.length = N) (hps : ps.map (fun p => (p.1, ev n F p.2)) = numb 0 us)
    (h : AllR R sz (fun b => Pe b ∧ w.heap.size ≠ b) w xs us) (hsz : 0 < us.length * sz) (hsz2 : us.length * sz ≤ 16777216)
    (c : ∀ v w', OwnS R e sz (fun b => b = w.heap.size) Pe w' v xs → New w w' → w'.heap.size = w.heap.size + 1 → v.ownBlock = some w.heap.size → Wl P n ds Q ops rest (upd F d v) w') :
    Wl P n ds Q ops (⟨some d, .buildSlice t N ps.toArray, ty, pos, aft, none⟩ :: rest) F w := by
  subst hN
  obtain ⟨hl, hall⟩ := h.length
  have hr := run_buildSliceN (P := P) (w := w) ht.h he hall hsz hsz2
  have hn : New w (w.alloc (.cells (us.flatMap fun u => u.cells.toList).toArray e)) := Chg.alloc _ _ _
  refine Wl.val (w' := w.alloc (.cells (us.flatMap fun u => u.cells.toList).toArray e)) ?_ (c _ _ ⟨us.flatMap fun u => u.cells.toList, ⟨by rw [flat_len hall, hl], .inr ⟨w.heap.size, us.length, (us.flatMap fun u => u.cells.toList).toArray, by rw [hl], rfl, heap_alloc_new w _, by omega, ?_, by simpa using flat_len hall, ?_⟩⟩, fun i x hx => ?_⟩ hn (by simp) rfl)
  · simp only [execOp, List.map_toArray, hps, Sem.run_bind, hr, Result.andThen_ok, Sem.run_pure]
    rw [hl]
  · have : 0 < sz := by rcases Nat.eq_zero_or_pos sz with h0 | h0; rw [h0] at hsz; simp at hsz; exact h0
    have : us.length * 1 ≤ us.length * sz := Nat.mul_le_mul_left _ this
    unfold maxLen; omega
  · show List.take (xs.length * sz) (us.flatMap fun u => u.cells.toList) = _
    rw [← hl, ← flat_len hall, List.take_length]
  · have h1 := hR.st _ _ _ _ _ hn.keep (h.get hx)
    exact hR.mo _ _ _ _ _ (fun b _ hb => ⟨hb.1, fun e => hb.2 (by simpa [Value.ownBlock] using e)⟩) h1
end
end Go.Proofs.YtjpebmgllfiloaaDoor.Wk
