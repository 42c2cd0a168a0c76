/-
  The generic walking kit of this claim: make and copy of lists of several cells an element. It speaks of any program.
-/
import Derived.Test.YtjpebmgllfiloaaDoorCut
namespace Go.Proofs.YtjpebmgllfiloaaDoor.Wk
open Go Go.RowKit

section
variable {P : Program} {n : Nat} {ds : List Deferred} {Q : Po} {F : Fr} {w w' : World} {ops rest : List Oper} {d d1 d2 : Nat} {ty ty1 ty2 : TypeId} {pos pos1 pos2 : String} {aft aft1 aft2 : Array Edge}
/-- 'make([]T, c)', of whatever elements. -/
theorem Wl.makeA {x y : Operand} {t e : TypeId} {sz bytes : Nat} {agg : Bool} {z : Value} {kl kc : IntKind} {m : Nat}
    [ht : Und P t (.slice e)] [he : ElT P e sz bytes agg z] (hx : ev n F x = .int kl m) (hy : ev n F y = .int kc m) (hby : bytes * m ≤ 281474976710656) (h63 : m ≤ maxLen)
    (c : ∀ w' cs, OwnC (fun b => b = w.heap.size) w' e sz (.slice (some ⟨w.heap.size, 0, none⟩) m m) m cs → New w w' → w'.heap.size = w.heap.size + 1 → Wl P n ds Q ops rest (upd F d (.slice (some ⟨w.heap.size, 0, none⟩) m m)) w') :
    Wl P n ds Q ops (⟨some d, .makeSlice t x y, ty, pos, aft, none⟩ :: rest) F w := by
  obtain ⟨i, hi, hsz', hby', hz'⟩ := he.inf
  have hb' : (i.bytes : Int) * (m : Int) ≤ 281474976710656 := by
    have h : ((i.bytes * m : Nat) : Int) ≤ 281474976710656 := by rw [hby']; omega
    rwa [Int.natCast_mul] at h
  have h63' := h63
  simp only [maxLen] at h63'
  have hr := run_make (P := P) w t e i z ht.h hi hz' kl kc m m (by omega) (Int.le_refl _) hb' (by omega)
  simp only [Int.toNat_natCast] at hr
  refine Wl.val (v := .slice (some ⟨w.heap.size, 0, none⟩) m m) (w' := w.alloc (.cells (madeCells z.cells (m * i.size)) e)) ?_ (c _ (madeCells z.cells (m * i.size)).toList ⟨by simp [size_madeCells, hsz'], .inr ⟨w.heap.size, m, _, rfl, rfl, heap_alloc_new w _, Nat.le_refl _, h63, by rw [size_madeCells, hsz'], ?_⟩⟩ (Chg.alloc _ _ _) (by simp))
  · simp only [execOp, hx, hy, Sem.run_bind, hr, Result.andThen_ok, Sem.run_pure]
  · rw [List.take_of_length_le]; simp [size_madeCells, hsz']
/-- 'copy(dst, src)', all of the one over all of the other. -/
theorem Wl.copyAll {α : Type} {R : Rel α} {x y : Operand} {t e : TypeId} {sz bytes : Nat} {agg : Bool} {z u v : Value} {Pb Pe Pr : Nat → Prop} {g m cap : Nat} {cs0 : List Value} {xs : List α} (hR : GoodR R sz)
    [ht : Und P t (.slice e)] [he : ElT P e sz bytes agg z] (hown : OwnC Pb w e sz v m cs0) (hv : v = .slice (some ⟨g, 0, none⟩) m cap) (hr : RdS R sz Pr w u xs) (hm : xs.length = m) (hp : ∀ x cs, R Pr w x cs → R (fun b => Pe b ∧ g ≠ b) w x cs) (hsz : 0 < sz)
    (hx : ev n F x = v) (hy : ev n F y = u)
    (c : ∀ w', OwnS R e sz Pb Pe w' v xs → Chg (fun b => b = g) w w' → w'.heap.size = w.heap.size → Wl P n ds Q ops rest (upd F d (vi m)) w') :
    Wl P n ds Q ops (⟨some d, .call { callee := .builtin .copy, args := #[x, y], argTypes := #[t, t] }, ty, pos, aft, none⟩ :: rest) F w := by
  obtain ⟨i, hi, hsz', hby', hz'⟩ := he.inf
  subst hm
  -- the source's cells
  have hsrc : ∃ (p : Option Addr) (cp : Nat) (cs : List Value), u = .slice p xs.length cp ∧ cs.length = xs.length * sz ∧ (∀ (i : Nat) (x : α), xs[i]? = some x → R Pr w x ((cs.drop (i * sz)).take sz)) ∧ (Builtin.firstCells sz xs.length u).run P w = .ok cs.toArray w := by
    rcases hr with ⟨rfl, rfl⟩ | ⟨a, cp, rfl, rfl, hc⟩ | ⟨b, off, cp, cur, e', fr, rfl, hb, hh, h1, h2, h3, h4⟩
    · exact ⟨none, 0, [], rfl, by simp, by simp, rfl⟩
    · exact ⟨some a, cp, [], rfl, by simp, by simp, by simp [Builtin.firstCells, loadCells, loadCellsFrom]⟩
    · have hcl : ((cur.toList.drop off).take (xs.length * sz)).length = xs.length * sz := by simp; omega
      refine ⟨_, cp, (cur.toList.drop off).take (xs.length * sz), rfl, hcl, fun i x hx => ?_, ?_⟩
      · have hil : i < xs.length := (List.getElem?_eq_some_iff.1 hx).1
        have hle : (i + 1) * sz ≤ xs.length * sz := Nat.mul_le_mul_right _ hil
        rw [Nat.add_mul] at hle
        rw [List.drop_take, List.take_take, Nat.min_eq_left (by omega), List.drop_drop]
        exact h4 i x hx
      · have hl := run_loadCells_list (P := P) w ⟨b, off, none⟩ ((cur.toList.drop off).take (xs.length * sz)) (fun j v hv => by
          rw [addr_add]
          rw [List.getElem?_take] at hv
          split at hv
          · rw [List.getElem?_drop] at hv
            simp only [World.cell?, hh]
            simpa using hv
          · cases hv)
        rw [hcl] at hl
        simp only [Builtin.firstCells]
        exact hl
  obtain ⟨p, cp, cs, rfl, hcl, hel, hfc⟩ := hsrc
  obtain ⟨hl0, hoc⟩ := hown
  rcases hoc with ⟨e1, _⟩ | ⟨g', cap', cur, e1, hb, hg, h1, h2, h3, h4⟩
  · rw [hv] at e1; cases e1
  · rw [hv] at e1
    cases e1
    have hle : xs.length * sz ≤ cap * sz := Nat.mul_le_mul_right _ h1
    have hoc : ∀ c ∈ cs, c.oneCell' = true := by
      intro q hq
      obtain ⟨j, hj, rfl⟩ := List.getElem_of_mem hq
      rw [hcl] at hj
      have hjs : j / sz < xs.length := Nat.div_lt_of_lt_mul (by rw [Nat.mul_comm]; exact hj)
      have h5 := hel (j / sz) xs[j / sz] (List.getElem?_eq_getElem hjs)
      have hle2 : (j / sz + 1) * sz ≤ xs.length * sz := Nat.mul_le_mul_right _ hjs
      rw [Nat.add_mul] at hle2
      refine hR.oc _ _ _ _ h5 (by simp; omega) _ ?_
      have hm : j % sz < sz := Nat.mod_lt _ hsz
      have hdm := Nat.div_add_mod j sz
      rw [Nat.mul_comm] at hdm
      refine List.mem_iff_getElem?.2 ⟨j % sz, ?_⟩
      rw [List.getElem?_take, if_pos hm, List.getElem?_drop, hdm, List.getElem?_eq_getElem]
    have hst := run_storeCells_at P g 0 e cs 0 cur w hg (by omega) hoc
    have hrun : (Builtin.copy_ #[t, t] ty #[v, .slice p xs.length cp]).run P w = .ok (vi xs.length) (w.setRow g (cur.toList.take 0 ++ cs ++ cur.toList.drop (0 + cs.length)).toArray) := by
      have hst' : (storeCells (⟨g, 0, none⟩ : Addr) cs 0).run P w = .ok () (w.setRow g (cur.toList.take 0 ++ cs ++ cur.toList.drop (0 + cs.length)).toArray) := hst
      have hfc' : (Builtin.firstCells i.size xs.length (.slice p xs.length cp)).run P w = .ok cs.toArray w := by rw [hsz']; exact hfc
      subst hv
      simp [Builtin.copy_, run_underlying ht.h, Builtin.lenOf, sizeOf, typeInfo, hi, hfc', hst', goInt]
    refine Wl.val (w' := w.setRow g (cur.toList.take 0 ++ cs ++ cur.toList.drop (0 + cs.length)).toArray) ?_ (c _ ⟨cs, ⟨hcl, .inr ⟨g, cap, _, hv, hb, setRow_heap w g cur _ e _ hg, h1, h2, ?_, ?_⟩⟩, fun i x hx => ?_⟩ (Chg.setRow rfl) (by simp))
    · simp only [execOp, resolve, Sem.run_bind, Sem.run_pure, Result.andThen_ok, invoke, builtin, List.map_toArray, List.map_cons, List.map_nil, hx, hy, hrun]
    · simp; omega
    · rw [← hcl]; simp
    · refine hR.mo (fun b => Pe b ∧ g ≠ b) _ _ _ _ (fun b _ hb => ⟨hb.1, fun e => hb.2 (by rw [hv] at e; simpa [Value.ownBlock] using e)⟩) ?_
      exact hR.st _ _ _ _ _ (Chg.keep (M := fun b => b = g) (Chg.setRow rfl) fun b _ hb e => hb.2 e.symm) (hp x _ (hel i x hx))
end
end Go.Proofs.YtjpebmgllfiloaaDoor.Wk
