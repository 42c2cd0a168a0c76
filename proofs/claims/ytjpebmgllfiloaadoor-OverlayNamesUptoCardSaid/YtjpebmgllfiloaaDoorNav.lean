/-
  The generic walking kit of this claim: elements of several cells by their address, variables of several cells, maps of the call's own, lists that are cut. It speaks of any program.
-/
import Derived.Test.YtjpebmgllfiloaaDoorMix
import Derived.Maps.Keyed
namespace Go.Proofs.YtjpebmgllfiloaaDoor.Wk
open Go Go.RowKit

section
variable {P : Program} {n : Nat} {ds : List Deferred} {Q : Po} {F : Fr} {w w' : World} {ops rest : List Oper} {d d1 d2 : Nat} {ty ty1 ty2 : TypeId} {pos pos1 pos2 : String} {aft aft1 aft2 : Array Edge}
variable {C : World → Prop} {K : Fr → Prop}
/-- The cells cs lie from (b, o) on. -/
def At (w : World) (b o : Nat) (cs : List Value) : Prop := ∀ (i : Nat) (u : Value), cs[i]? = some u → w.cell? ⟨b, o + i, none⟩ = some u
theorem At.get {b o : Nat} {cs : List Value} (h : At w b o cs) (i : Nat) {u : Value} (hu : cs[i]? = some u) : w.cell? ⟨b, o + i, none⟩ = some u := h i u hu
theorem Bk.at {b : Nat} {T : TypeId} {cs : List Value} (h : Bk w b T cs) : At w b 0 cs := fun i u hu => by rw [Nat.zero_add]; exact h.cell hu
theorem At.keep {Pb : Nat → Prop} {b o : Nat} {cs : List Value} (h : At w b o cs) (hk : Keep Pb w w') (hb : Pb b) (hl : b < w.heap.size) : At w' b o cs := fun i u hu => by
  have := h i u hu
  simp only [World.cell?] at this ⊢
  rw [hk b hb hl]; exact this

/-- &xs[j]. -/
theorem Wl.idxAddr {α : Type} {R : Rel α} {sz : Nat} {Pb : Nat → Prop} {xs : List α} {x i : Operand} {t e bytes : Nat} {agg : Bool} {z v : Value} {k : IntKind} {j : Int} {y : α}
    [ht : Und P t (.slice e)] [he : ElT P e sz bytes agg z] (h : RdS R sz Pb w v xs) (hx : ev n F x = v) (hi : ev n F i = .int k j) (h0 : 0 ≤ j) (hy : xs[j.toNat]? = some y)
    (c : ∀ b o cs, cs.length = sz → R Pb w y cs → At w b o cs → Wl P n ds Q ops rest (upd F d (.pointer (some ⟨b, o, none⟩))) w) :
    Wl P n ds Q ops (⟨some d, .indexAddr t x i, ty, pos, aft, none⟩ :: rest) F w := by
  obtain ⟨b, off, cap, rfl, hlt, cs, hl, hR, hc⟩ := h.cells hy
  refine Wl.val (w' := w) (v := .pointer (some ((⟨b, off, none⟩ : Addr).add (j.toNat * sz)))) ?_ ?_
  · simp only [execOp, hx, hi, Sem.run_bind, run_indexAt ht.h he h0 (by omega : j < xs.length), Result.andThen_ok, Sem.run_pure]
  · rw [addr_add]; exact c _ _ cs hl hR hc
/-- The same in a region that draws: in every world of the class the list reads so. -/
theorem Wq.idxAddr {α : Type} {R : Rel α} {sz : Nat} {Pb : Nat → Prop} {xs : List α} {x i : Operand} {t e bytes : Nat} {agg : Bool} {z v : Value} {k : IntKind} {j : Int} {y : α} {w : World}
    [ht : Und P t (.slice e)] [he : ElT P e sz bytes agg z] (h : RdS R sz Pb w v xs) (hC : ∀ w', C w' → Keep Pb w w') (hx : ev n F x = v) (hi : ev n F i = .int k j) (h0 : 0 ≤ j) (hy : xs[j.toNat]? = some y)
    (c : ∀ b o cs, cs.length = sz → R Pb w y cs → (∀ w', C w' → At w' b o cs) → Wq P n ds C K ops rest (upd F d (.pointer (some ⟨b, o, none⟩)))) :
    Wq P n ds C K ops (⟨some d, .indexAddr t x i, ty, pos, aft, none⟩ :: rest) F := by
  have hlt' : ∃ b off cap, v = .slice (some ⟨b, off, none⟩) xs.length cap ∧ ((0 < sz) → Pb b ∧ b < w.heap.size) ∧ j.toNat < xs.length ∧ ∃ cs : List Value, cs.length = sz ∧ R Pb w y cs ∧ At w b (off + j.toNat * sz) cs := by
    rcases h with ⟨rfl, rfl⟩ | ⟨a, cap, rfl, rfl, hc⟩ | ⟨b, off, cap, cur, e', fr, rfl, hb, hh, h1, h2, h3, h4⟩
    · simp at hy
    · simp at hy
    · have h' : RdS R sz Pb w (.slice (some ⟨b, off, none⟩) xs.length cap) xs := .inr (.inr ⟨b, off, cap, cur, e', fr, rfl, hb, hh, h1, h2, h3, h4⟩)
      obtain ⟨b', off', cap', e1, hlt, cs, hl, hR, hc⟩ := h'.cells hy
      cases e1
      exact ⟨b, off, cap, rfl, fun _ => ⟨hb, heap_lt hh⟩, hlt, cs, hl, hR, hc⟩
  obtain ⟨b, off, cap, rfl, hb, hlt, cs, hl, hR, hc⟩ := hlt'
  refine Wq.val (v := .pointer (some ((⟨b, off, none⟩ : Addr).add (j.toNat * sz)))) (fun w1 _ => ?_) ?_
  · simp only [execOp, hx, hi, Sem.run_bind, run_indexAt ht.h he h0 (by omega : j < xs.length), Result.andThen_ok, Sem.run_pure]
  · rw [addr_add]
    refine c _ _ cs hl hR fun w' hw' => ?_
    rcases Nat.eq_zero_or_pos sz with hz | hz
    · intro i u hu; rw [List.eq_nil_of_length_eq_zero (hl.trans hz)] at hu; simp at hu
    · exact hc.keep (hC w' hw') (hb hz).1 (hb hz).2
/-- The same, of a list that was read in an earlier world. -/
theorem Wl.idxAddrK {α : Type} {R : Rel α} {sz : Nat} {Pb : Nat → Prop} {xs : List α} {x i : Operand} {t e bytes : Nat} {agg : Bool} {z v : Value} {k : IntKind} {j : Int} {y : α} {w0 : World}
    [ht : Und P t (.slice e)] [he : ElT P e sz bytes agg z] (h : RdS R sz Pb w0 v xs) (hk : Keep Pb w0 w) (hx : ev n F x = v) (hi : ev n F i = .int k j) (h0 : 0 ≤ j) (hy : xs[j.toNat]? = some y)
    (c : ∀ b o cs, cs.length = sz → R Pb w0 y cs → At w b o cs → Wl P n ds Q ops rest (upd F d (.pointer (some ⟨b, o, none⟩))) w) :
    Wl P n ds Q ops (⟨some d, .indexAddr t x i, ty, pos, aft, none⟩ :: rest) F w := by
  rcases h with ⟨rfl, rfl⟩ | ⟨a, cap, rfl, rfl, hc⟩ | ⟨b, off, cap, cur, e', fr, rfl, hb, hh, h1, h2, h3, h4⟩
  · simp at hy
  · simp at hy
  · have h' : RdS R sz Pb w0 (.slice (some ⟨b, off, none⟩) xs.length cap) xs := .inr (.inr ⟨b, off, cap, cur, e', fr, rfl, hb, hh, h1, h2, h3, h4⟩)
    obtain ⟨b', off', cap', e1, hlt, cs, hl, hR, hc⟩ := h'.cells hy
    cases e1
    refine Wl.val (w' := w) (v := .pointer (some ((⟨b, off, none⟩ : Addr).add (j.toNat * sz)))) ?_ ?_
    · simp only [execOp, hx, hi, Sem.run_bind, run_indexAt ht.h he h0 (by omega : j < xs.length), Result.andThen_ok, Sem.run_pure]
    · rw [addr_add]; exact c _ _ cs hl hR (At.keep (w := w0) hc hk hb (heap_lt hh))
/-- xs[j] in a region that draws, an element of one cell. -/
theorem Wq.idxAddrV {α : Type} {f : α → Value} {Pb : Nat → Prop} {xs : List α} {x i : Operand} {t e bytes : Nat} {agg : Bool} {z v : Value} {k : IntKind} {j : Int} {y : α} {w : World}
    [ht : Und P t (.slice e)] [he : ElT P e 1 bytes agg z] (h : RdS (one f) 1 Pb w v xs) (hC : ∀ w', C w' → Keep Pb w w') (hx : ev n F x = v) (hi : ev n F i = .int k j) (h0 : 0 ≤ j) (hy : xs[j.toNat]? = some y)
    (c : ∀ b o, (∀ w', C w' → w'.cell? ⟨b, o, none⟩ = some (f y)) → Wq P n ds C K ops rest (upd F d (.pointer (some ⟨b, o, none⟩)))) :
    Wq P n ds C K ops (⟨some d, .indexAddr t x i, ty, pos, aft, none⟩ :: rest) F :=
  Wq.idxAddr h hC hx hi h0 hy fun b o cs _ hR hat => c b o fun w' hw' => by
    cases hR
    exact hat w' hw' 0 (f y) rfl
theorem Wl.loadAt {x : Operand} {e sz bytes : Nat} {z : Value} {b o : Nat} {cs : List Value} [he : ElT P e sz bytes true z] (h : At w b o cs) (hl : cs.length = sz) (hx : ev n F x = .pointer (some ⟨b, o, none⟩))
    (c : Wl P n ds Q ops rest (upd F d (.agg cs.toArray)) w) : Wl P n ds Q ops (⟨some d, .load e x, ty, pos, aft, none⟩ :: rest) F w :=
  Wl.val (by simp only [execOp, hx, Sem.run_bind, run_loadA he hl h, Result.andThen_ok, Sem.run_pure]) c
theorem Wq.loadAt {x : Operand} {e sz bytes : Nat} {z : Value} {b o : Nat} {cs : List Value} [he : ElT P e sz bytes true z] (h : ∀ w, C w → At w b o cs) (hl : cs.length = sz) (hx : ev n F x = .pointer (some ⟨b, o, none⟩))
    (c : Wq P n ds C K ops rest (upd F d (.agg cs.toArray))) : Wq P n ds C K ops (⟨some d, .load e x, ty, pos, aft, none⟩ :: rest) F :=
  Wq.val (fun w hw => by simp only [execOp, hx, Sem.run_bind, run_loadA he hl (h w hw), Result.andThen_ok, Sem.run_pure]) c

/-! Variables of several cells. -/
def setRange (cs : List Value) (o : Nat) (new : List Value) : List Value := cs.take o ++ new ++ cs.drop (o + new.length)
theorem run_storeAgg {e sz bytes : Nat} {agg : Bool} {z : Value} {b o : Nat} {T : TypeId} {cs new : List Value} {u : Value} (he : ElT P e sz bytes agg z) (h : Bk w b T cs) (hn : new.length = sz) (ho : o + sz ≤ cs.length) (hu : u.cells = new.toArray) (h1 : ∀ c ∈ new, c.oneCell' = true) :
    (Instr.storeAt e (.pointer (some ⟨b, o, none⟩)) u).run P w = .ok () (w.setRow b (setRange cs o new).toArray) := by
  have hr := run_storeCells_at P b o T new 0 cs.toArray w h (by simp; omega) (by intro c hc; exact h1 c hc)
  simp only [Instr.storeAt, Instr.sureAddr, storeVar, Sem.run_bind, Sem.run_pure, Result.andThen_ok, he.sizeOf, hu]
  rw [if_neg (by simp [hn])]
  simpa [setRange] using hr
theorem Bk.setRow {b : Nat} {T : TypeId} {cs new : List Value} (h : Bk w b T cs) : Bk (w.setRow b new.toArray) b T new := setRow_heap w b _ _ T _ h
/-- A struct is stored into a variable, or into a part of one. -/
theorem Wl.storeB {x y : Operand} {e sz bytes : Nat} {agg : Bool} {z u : Value} {b o : Nat} {T : TypeId} {cs new : List Value} [he : ElT P e sz bytes agg z] (h : Bk w b T cs) (hx : ev n F x = .pointer (some ⟨b, o, none⟩)) (hy : ev n F y = u) (hu : u.cells = new.toArray) (hn : new.length = sz) (ho : o + sz ≤ cs.length) (h1 : ∀ c ∈ new, c.oneCell' = true)
    (c : ∀ w', Bk w' b T (setRange cs o new) → Chg (fun k => k = b) w w' → w'.heap.size = w.heap.size → Wl P n ds Q ops rest F w') : Wl P n ds Q ops (⟨none, .store e x y, ty, pos, aft, none⟩ :: rest) F w :=
  Wl.unit (by simp only [execOp, hx, hy, Sem.run_bind, run_storeAgg he h hn ho hu h1, Result.andThen_ok, Sem.run_pure]) (c _ h.setRow (Chg.setRow rfl) (by simp))

/-! Maps of the call's own. -/
def MapL (P : Program) (k : TypeId) (w : World) (b : Nat) (l : List (Value × Value)) : Prop :=
  ∃ es clock, w.heap[b]? = some (.map es clock) ∧ es.toList.map (fun e => (e.key, e.val)) = l ∧ ∀ e ∈ es.toList, ∃ q, keyOf P k e.key = some q
theorem MapL.lt {k : TypeId} {b : Nat} {l : List (Value × Value)} (h : MapL P k w b l) : b < w.heap.size := by obtain ⟨_, _, h, _⟩ := h; exact (Array.getElem?_eq_some_iff.1 h).1
theorem MapL.keep {Pb : Nat → Prop} {k : TypeId} {b : Nat} {l : List (Value × Value)} (h : MapL P k w b l) (hk : Keep Pb w w') (hb : Pb b) : MapL P k w' b l := by
  have hl := h.lt
  obtain ⟨es, clock, h, r⟩ := h
  exact ⟨es, clock, (hk b hb hl).trans h, r⟩
theorem MapL.chg {M : Nat → Prop} {k : TypeId} {b : Nat} {l : List (Value × Value)} (h : MapL P k w b l) (hc : Chg M w w') (hb : ¬ M b) : MapL P k w' b l := by
  have hl := h.lt
  obtain ⟨es, clock, h, r⟩ := h
  exact ⟨es, clock, (hc.block b hl hb).trans h, r⟩
theorem Wl.makeMap {t : TypeId} {k : TypeId} (c : ∀ w', MapL P k w' w.heap.size [] → New w w' → w'.heap.size = w.heap.size + 1 → Wl P n ds Q ops rest (upd F d (.map (some w.heap.size))) w') :
    Wl P n ds Q ops (⟨some d, .makeMap t none, ty, pos, aft, none⟩ :: rest) F w := by
  refine Wl.val (w' := w.alloc (.map #[] 0)) (v := .map (some w.heap.size)) ?_ (c _ ⟨#[], 0, heap_alloc_new w _, by simp, by simp⟩ (Chg.alloc _ _ _) (by simp))
  simp [execOp, Instr.makeMap]
theorem run_lookup {t k e : TypeId} {sz bytes : Nat} {agg : Bool} {z : Value} {b : Nat} {l : List (Value × Value)} {key : Value} {q : Lit} (ht : P.underlying t = some (.map k e)) (he : ElT P e sz bytes agg z) (Kd : Maps.Keyed P k) (h : MapL P k w b l) (hq : keyOf P k key = some q) :
    ∃ r, (Instr.lookup t (.map (some b)) key false).run P w = .ok r w ∧ ((key, r) ∈ l ∨ r = z ∧ ∀ p ∈ l, p.1 ≠ key) := by
  obtain ⟨es, clock, hh, rfl, hk⟩ := h
  have hg := run_getObj_map (P := P) w b es clock hh
  rcases Kd.find w hq es.toList hk with ⟨hf, hn⟩ | ⟨j, e0, hf, hj, rfl⟩
  · refine ⟨z, ?_, .inr ⟨rfl, fun p hp => ?_⟩⟩
    · simp [Instr.lookup, run_underlying ht, hg, Kd.check w _ hq, hf, he.zeroValue]
    · obtain ⟨e1, he1, rfl⟩ := List.mem_map.1 hp; exact hn e1 he1
  · refine ⟨e0.val, ?_, .inl (List.mem_map.2 ⟨e0, List.mem_of_getElem? hj, rfl⟩)⟩
    simp [Instr.lookup, run_underlying ht, hg, Kd.check w _ hq, hf]
theorem Wl.lookup {x i : Operand} {t k e : TypeId} {sz bytes : Nat} {agg : Bool} {z : Value} {b : Nat} {l : List (Value × Value)} {key : Value} {q : Lit} [ht : Und P t (.map k e)] [he : ElT P e sz bytes agg z] (Kd : Maps.Keyed P k) (h : MapL P k w b l) (hq : keyOf P k key = some q)
    (hx : ev n F x = .map (some b)) (hi : ev n F i = key) (c : ∀ r, ((key, r) ∈ l ∨ r = z ∧ ∀ p ∈ l, p.1 ≠ key) → Wl P n ds Q ops rest (upd F d r) w) :
    Wl P n ds Q ops (⟨some d, .lookup t x i false, ty, pos, aft, none⟩ :: rest) F w := by
  obtain ⟨r, hr, hp⟩ := run_lookup ht.h he Kd h hq
  exact Wl.val (by simp only [execOp, hx, hi, Sem.run_bind, hr, Result.andThen_ok, Sem.run_pure]) (c r hp)
theorem Wq.lookup {x i : Operand} {t k e : TypeId} {sz bytes : Nat} {agg : Bool} {z u0 : Value} {b : Nat} {l : List (Value × Value)} {key : Value} {q : Lit} {w : World} [ht : Und P t (.map k e)] [he : ElT P e sz bytes agg z] (Kd : Maps.Keyed P k) (h : MapL P k w b l) (hall : ∀ p ∈ l, p.2 = u0) (hC : ∀ w', C w' → w'.heap[b]? = w.heap[b]?) (hq : keyOf P k key = some q)
    (hx : ev n F x = .map (some b)) (hi : ev n F i = key) (c1 : (key, u0) ∈ l → Wq P n ds C K ops rest (upd F d u0)) (c2 : (∀ p ∈ l, p.1 ≠ key) → Wq P n ds C K ops rest (upd F d z)) :
    Wq P n ds C K ops (⟨some d, .lookup t x i false, ty, pos, aft, none⟩ :: rest) F := by
  have hM : ∀ w', C w' → MapL P k w' b l := fun w' hw' => by obtain ⟨es, clock, hh, r⟩ := h; exact ⟨es, clock, (hC w' hw').trans hh, r⟩
  have run : ∀ w', C w' → ∃ r, (Instr.lookup t (.map (some b)) key false).run P w' = .ok r w' ∧ ((key, r) ∈ l ∨ r = z ∧ ∀ p ∈ l, p.1 ≠ key) := fun w' hw' => run_lookup ht.h he Kd (hM w' hw') hq
  by_cases hin : (key, u0) ∈ l
  · refine Wq.val (v := u0) (fun w' hw' => ?_) (c1 hin)
    obtain ⟨r, hr, hp⟩ := run w' hw'
    obtain rfl : r = u0 := by
      rcases hp with hp | ⟨_, hp⟩
      · exact hall _ hp
      · exact absurd rfl (hp _ hin)
    simp only [execOp, hx, hi, Sem.run_bind, hr, Result.andThen_ok, Sem.run_pure]
  · have hn : ∀ p ∈ l, p.1 ≠ key := fun p hp e => hin (by
      have h2 := hall p hp
      obtain ⟨p1, p2⟩ := p
      simp only at e h2
      subst e
      subst h2
      exact hp)
    refine Wq.val (v := z) (fun w' hw' => ?_) (c2 hn)
    obtain ⟨r, hr, hp⟩ := run w' hw'
    obtain rfl : r = z := by
      rcases hp with hp | ⟨hz, _⟩
      · exact absurd rfl (hn _ hp)
      · exact hz
    simp only [execOp, hx, hi, Sem.run_bind, hr, Result.andThen_ok, Sem.run_pure]
/-- A key that was not there. -/
theorem Wl.mapPut {x i y : Operand} {t k e : TypeId} {b : Nat} {l : List (Value × Value)} {key u : Value} {q : Lit} [ht : Und P t (.map k e)] (Kd : Maps.Keyed P k) (h : MapL P k w b l) (hq : keyOf P k key = some q) (hn : ∀ p ∈ l, p.1 ≠ key)
    (hx : ev n F x = .map (some b)) (hi : ev n F i = key) (hy : ev n F y = u) (c : ∀ w', MapL P k w' b (l ++ [(key, u)]) → Chg (fun j => j = b) w w' → w'.heap.size = w.heap.size → Wl P n ds Q ops rest F w') :
    Wl P n ds Q ops (⟨none, .mapUpdate t x i y, ty, pos, aft, none⟩ :: rest) F w := by
  have hlt := h.lt
  obtain ⟨es, clock, hh, rfl, hk⟩ := h
  have hg := run_getObj_map (P := P) w b es clock hh
  rcases Kd.find w hq es.toList hk with ⟨hf, _⟩ | ⟨j, e0, hf, hj, rfl⟩
  · have h1 : (w.heap.setIfInBounds b (.map (es.push { key, val := u, born := clock }) (clock + 1)))[b]? = some (.map (es.push { key, val := u, born := clock }) (clock + 1)) := by simp [Array.getElem?_setIfInBounds, hlt]
    have hset : (setObj b (.map (es.push { key, val := u, born := clock }) (clock + 1))).run P w = .ok () { w with heap := w.heap.setIfInBounds b (.map (es.push { key, val := u, born := clock }) (clock + 1)) } := by simp [setObj, Sem.run, hh]
    refine Wl.unit (w' := { w with heap := w.heap.setIfInBounds b (.map (es.push { key, val := u, born := clock }) (clock + 1)) }) ?_ (c _ ⟨_, _, h1, by simp, fun e he => ?_⟩ ⟨rfl, rfl, rfl, by simp, fun j _ hj => Array.getElem?_setIfInBounds_ne (Ne.symm hj)⟩ (by simp))
    · simp [execOp, hx, hi, hy, Instr.mapUpdate, run_underlying ht.h, hg, Kd.check w _ hq, hf, hset]
    · simp only [Array.toList_push, List.mem_append, List.mem_singleton] at he
      rcases he with he | rfl
      · exact hk e he
      · exact ⟨q, hq⟩
  · exact absurd rfl (hn (e0.key, e0.val) (List.mem_map.2 ⟨e0, List.mem_of_getElem? hj, rfl⟩))
end

/-! Lists of the call's own, beside one another. -/
def Plain {α : Type} (R : Rel α) : Prop := ∀ Pb Pb' w w' x cs, R Pb w x cs → R Pb' w' x cs
theorem plain_one {α : Type} (f : α → Value) : Plain (one f) := fun _ _ _ _ _ _ h => h
theorem plain_flat {α : Type} (f : α → List Value) : Plain (flat f) := fun _ _ _ _ _ _ h => h
theorem good_flat {α : Type} {sz : Nat} (f : α → List Value) (hl : ∀ x, (f x).length = sz) (h : ∀ x, ∀ c ∈ f x, c.oneCell' = true) : GoodR (flat f) sz :=
  ⟨stable_flat f, mono_flat f, fun _ _ x cs e _ c hc => by cases e; exact h x c hc⟩
/-- No block of v is u's. -/
def Sep (v u : Value) : Prop := ∀ k, v.ownBlock = some k → u.ownBlock ≠ some k
theorem Sep.symm {v u : Value} (h : Sep v u) : Sep u v := fun k h1 h2 => h k h2 h1
section
variable {α β : Type} {R : Rel α} {R' : Rel β} {e e' : TypeId} {sz sz' : Nat} {Pb Pe Qb Qe M : Nat → Prop} {w w' : World} {v u u' : Value} {xs : List α} {ys : List β}
theorem OwnS.chg (hR : Plain R) (h : OwnS R e sz Pb Pe w v xs) (c : Chg M w w') (s : ∀ k, v.ownBlock = some k → ¬ M k) : OwnS R e sz Pb Pe w' v xs := by
  obtain ⟨cs, ⟨hl, hoc⟩, he⟩ := h
  refine ⟨cs, ⟨hl, ?_⟩, fun i x hx => hR _ _ _ _ _ _ (he i x hx)⟩
  rcases hoc with hoc | ⟨b, cap, cur, rfl, hb, hg, r⟩
  · exact .inl hoc
  · exact .inr ⟨b, cap, cur, rfl, hb, (c.block b (heap_lt hg) (s b rfl)).trans hg, r⟩
theorem OwnS.keepSep (hR : Plain R) (h : OwnS R e sz Pb Pe w v xs) (c : Chg (fun k => u.ownBlock = some k) w w') (s : Sep v u) : OwnS R e sz Pb Pe w' v xs := h.chg hR c s
theorem OwnS.new (hR : Plain R) (h : OwnS R e sz Pb Pe w v xs) (c : New w w') : OwnS R e sz Pb Pe w' v xs := h.chg hR c fun _ _ e => e
theorem sepGrown (h : OwnS R e sz Pb Pe w v xs) (s : Sep v u) (lie : u'.ownBlock = u.ownBlock ∨ ∀ b, u'.ownBlock = some b → w.heap.size ≤ b) : Sep v u' := by
  intro k hk hk'
  rcases lie with lie | lie
  · exact s k hk (lie ▸ hk')
  · have := (h.lt hk).2
    have := lie k hk'
    omega
theorem sepOf (h : OwnS R e sz Pb Pe w v xs) (h' : OwnS R' e' sz' Qb Qe w u ys) (d : ∀ k, Pb k → ¬ Qb k) : Sep v u :=
  fun k hk hk' => d k (h.lt hk).1 (h'.lt hk').1
theorem OwnS.take (h : OwnS R e sz Pb Pe w v xs) {m : Nat} (hm : m ≤ xs.length) {a : Option Addr} {l cap : Nat} (hv : v = .slice a l cap) (hz : a = none → m = 0) : OwnS R e sz Pb Pe w (.slice a m cap) (xs.take m) := by
  obtain ⟨cs, ⟨hl, hoc⟩, he⟩ := h
  have hlen : (xs.take m).length = m := by simp; omega
  have hle : m * sz ≤ xs.length * sz := Nat.mul_le_mul_right _ hm
  refine ⟨cs.take (m * sz), ⟨by rw [hlen]; simp; omega, ?_⟩, fun i x hx => ?_⟩
  · rw [hlen]
    rcases hoc with ⟨rfl, h0⟩ | ⟨b, cap', cur, rfl, hb, hg, h1, h2, h3, h4⟩
    · cases hv
      exact .inl ⟨by rw [hz rfl], hz rfl⟩
    · cases hv
      exact .inr ⟨b, cap, cur, rfl, hb, hg, by omega, h2, h3, by rw [← h4, List.take_take, Nat.min_eq_left hle]⟩
  · rw [List.getElem?_take] at hx
    split at hx
    · rename_i hi
      have h1 := he i x hx
      have : (i + 1) * sz ≤ m * sz := Nat.mul_le_mul_right _ hi
      rw [Nat.add_mul] at this
      rw [List.drop_take, List.take_take, Nat.min_eq_left (by omega)]
      have e : (Value.slice a m cap).ownBlock = v.ownBlock := by subst hv; cases a <;> rfl
      rw [e]; exact h1
    · cases hx
end
section
variable {P : Program} {n : Nat} {ds : List Deferred} {Q : Po} {F : Fr} {w w' : World} {ops rest : List Oper} {d d1 d2 : Nat} {ty ty1 ty2 : TypeId} {pos pos1 pos2 : String} {aft aft1 aft2 : Array Edge}
/-- x[:b] of a list of one's own. -/
theorem Wl.sliceOwn {α : Type} {R : Rel α} {Pb Pe : Nat → Prop} {xs : List α} {x hi : Operand} {t e e' : TypeId} {sz sz' bytes : Nat} {agg : Bool} {z v : Value} {k : IntKind} {b : Int} [ht : Und P t (.slice e)] [he : ElT P e sz bytes agg z] (h : OwnS R e' sz' Pb Pe w v xs) (hx : ev n F x = v) (hh : ev n F hi = .int k b) (h0 : 0 ≤ b) (h1 : b ≤ xs.length)
    (c : ∀ v', OwnS R e' sz' Pb Pe w v' (xs.take b.toNat) → v'.ownBlock = v.ownBlock → Wl P n ds Q ops rest (upd F d v') w) : Wl P n ds Q ops (⟨some d, .slice t x none (some hi) none, ty, pos, aft, none⟩ :: rest) F w := by
  obtain ⟨p, cap, rfl, hc, _⟩ := h.form
  obtain ⟨b, rfl⟩ := Int.eq_ofNat_of_zero_le h0
  have := run_sliceS (P := P) (w := w) (p := p) (l := xs.length) (lo := none) (hi := some (.int k b)) (a := 0) (b := b) ht.h he (.inl ⟨rfl, rfl⟩) (.inr ⟨k, rfl⟩) (Nat.zero_le _) (by omega : b ≤ cap)
  have hp : (if cap = 0 then p else p.map (·.add (0 * sz))) = p := by
    split
    · rfl
    · cases p with
      | none => rfl
      | some a => simp [Addr.add]
  refine Wl.val (w' := w) (v := .slice p b cap) ?_ (c _ (h.take (m := b) (by omega) rfl ?_) (by cases p <;> rfl))
  · simp only [execOp, hx, hh, Option.map_none, Option.map_some, Sem.run_bind, this, Result.andThen_ok, Sem.run_pure, hp, Nat.sub_zero]
  · rintro rfl
    obtain ⟨cs, ⟨_, hoc⟩, _⟩ := h
    rcases hoc with ⟨e1, h2⟩ | ⟨_, _, _, e1, _⟩
    · omega
    · cases e1
/-- A slice compared with nil. -/
theorem run_eqGuard_sl {op : BinOp} {t : TypeId} {x y : Operand} {a b : Option Addr} {l c l' c' : Nat} : (eqGuard op t x y (.slice a l c) (.slice b l' c')).run P w = .ok () w := by
  unfold eqGuard; split <;> simp
theorem Wl.slNil {x y : Operand} {t t' e : TypeId} {a : Option Addr} {l cap : Nat} [ht : Und P t (.slice e)] (hx : ev n F x = .slice a l cap) (hy : ev n F y = .slice none 0 0) (c : Wl P n ds Q ops rest (upd F d (.bool a.isNone)) w) :
    Wl P n ds Q ops (⟨some d, .binOp .eql t x y t', ty, pos, aft, none⟩ :: rest) F w := by
  refine Wl.val ?_ c
  have h : (binOp .eql t (.slice a l cap) (.slice none 0 0)).run P w = .ok (.bool a.isNone) w := by
    have := run_equal_slice_nil (P := P) w t e a l cap ht.h
    simp [binOp, this]
  simp only [execOp, hx, hy, Sem.run_bind, run_eqGuard_sl, Result.andThen_ok, h, Sem.run_pure]
/-- The address of an element, told. -/
theorem Wl.idxP {x i : Operand} {t e sz bytes : Nat} {agg : Bool} {z : Value} {k : IntKind} {j : Int} {b off l cap : Nat} [ht : Und P t (.slice e)] [he : ElT P e sz bytes agg z] (hx : ev n F x = .slice (some ⟨b, off, none⟩) l cap) (hi : ev n F i = .int k j) (h0 : 0 ≤ j) (h1 : j < l)
    (c : Wl P n ds Q ops rest (upd F d (.pointer (some ⟨b, off + j.toNat * sz, none⟩))) w) : Wl P n ds Q ops (⟨some d, .indexAddr t x i, ty, pos, aft, none⟩ :: rest) F w := by
  refine Wl.val (w' := w) (v := .pointer (some ((⟨b, off, none⟩ : Addr).add (j.toNat * sz)))) ?_ ?_
  · simp only [execOp, hx, hi, Sem.run_bind, run_indexAt ht.h he h0 h1, Result.andThen_ok, Sem.run_pure]
  · rw [addr_add]; exact c
theorem Wq.idxP {C : World → Prop} {K : Fr → Prop} {x i : Operand} {t e sz bytes : Nat} {agg : Bool} {z : Value} {k : IntKind} {j : Int} {b off l cap : Nat} [ht : Und P t (.slice e)] [he : ElT P e sz bytes agg z] (hx : ev n F x = .slice (some ⟨b, off, none⟩) l cap) (hi : ev n F i = .int k j) (h0 : 0 ≤ j) (h1 : j < l)
    (c : Wq P n ds C K ops rest (upd F d (.pointer (some ⟨b, off + j.toNat * sz, none⟩)))) : Wq P n ds C K ops (⟨some d, .indexAddr t x i, ty, pos, aft, none⟩ :: rest) F := by
  refine Wq.val (v := .pointer (some ((⟨b, off, none⟩ : Addr).add (j.toNat * sz)))) (fun w _ => ?_) ?_
  · simp only [execOp, hx, hi, Sem.run_bind, run_indexAt ht.h he h0 h1, Result.andThen_ok, Sem.run_pure]
  · rw [addr_add]; exact c
/-- A list of one's own that holds something has a block. -/
theorem OwnS.blk {α : Type} {R : Rel α} {e : TypeId} {sz : Nat} {Pb Pe : Nat → Prop} {v : Value} {xs : List α} (h : OwnS R e sz Pb Pe w v xs) (h0 : xs ≠ []) : ∃ g cap, v = .slice (some ⟨g, 0, none⟩) xs.length cap ∧ Pb g ∧ g < w.heap.size ∧ v.ownBlock = some g := by
  obtain ⟨cs, ⟨hl, hoc⟩, he⟩ := h
  rcases hoc with ⟨rfl, h2⟩ | ⟨g, cap, cur, rfl, hb, hg, _⟩
  · exact absurd (List.eq_nil_of_length_eq_zero h2) h0
  · exact ⟨g, cap, rfl, hb, heap_lt hg, rfl⟩
theorem OwnS.reblk {α : Type} {R : Rel α} {e : TypeId} {sz : Nat} {Pb Pb' Pe : Nat → Prop} {v : Value} {xs : List α} (h : OwnS R e sz Pb Pe w v xs) (hb : ∀ b, v.ownBlock = some b → Pb b → Pb' b) : OwnS R e sz Pb' Pe w v xs := by
  obtain ⟨cs, ⟨hl, hoc⟩, he⟩ := h
  refine ⟨cs, ⟨hl, ?_⟩, he⟩
  rcases hoc with hoc | ⟨g, cap, cur, rfl, hg, r⟩
  · exact .inl hoc
  · exact .inr ⟨g, cap, cur, rfl, hb g rfl hg, r⟩
theorem OwnS.cell1 {α : Type} {f : α → Value} {e : TypeId} {Pb Pe : Nat → Prop} {v : Value} {xs : List α} {g l cap j : Nat} {y : α} (h : OwnS (one f) e 1 Pb Pe w v xs) (hv : v = .slice (some ⟨g, 0, none⟩) l cap) (hy : xs[j]? = some y) : w.cell? ⟨g, j, none⟩ = some (f y) := by
  obtain ⟨b, off, cap', e1, hlt, cs, hl, hR, hc⟩ := (h.rd (mono_one _)).cells hy
  rw [hv] at e1
  cases e1
  cases hR
  simpa using hc 0 (f y) rfl
/-- A store into a list of one's own, elements of one cell. -/
theorem Wl.storeOwn {α : Type} {f : α → Value} {Pb Pe : Nat → Prop} {xs : List α} {x y : Operand} {e bytes : Nat} {agg : Bool} {z v u : Value} {g j cap : Nat} {q : α} [he : ElT P e 1 bytes agg z] (hown : OwnS (one f) e 1 Pb Pe w v xs) (hv : v = .slice (some ⟨g, 0, none⟩) xs.length cap) (hj : j < xs.length)
    (hx : ev n F x = .pointer (some ⟨g, j, none⟩)) (hy : ev n F y = u) (hq : u = f q) (hu : u.oneCell' = true) (c : ∀ w', OwnS (one f) e 1 Pb Pe w' v (xs.set j q) → Chg (fun b => v.ownBlock = some b) w w' → Wl P n ds Q ops rest F w') :
    Wl P n ds Q ops (⟨none, .store e x y, ty, pos, aft, none⟩ :: rest) F w := by
  subst hq
  obtain ⟨cs, hoc, hel⟩ := hown
  have huc : (f q).cells = #[f q] := by cases hf : f q <;> simp_all [Value.cells, Value.oneCell']
  obtain ⟨w', hr, hoc', hc⟩ := run_store1 (P := P) (u := f q) he hoc hv (j := j) hj hu huc
  exact Wl.unit (by simp only [execOp, hx, hy, Sem.run_bind, hr, Result.andThen_ok, Sem.run_pure]) (c w' (OwnS.set1 rfl hoc hel _ _ hoc') hc)
/-- A closure. -/
theorem Wl.makeFunc {fn : Fn} {first cap : List Operand} {f1 c1 : List Value} (h1 : first.map (ev n F) = f1) (h2 : cap.map (ev n F) = c1) (c : Wl P n ds Q ops rest (upd F d (.func fn f1.toArray c1.toArray)) w) :
    Wl P n ds Q ops (⟨some d, .makeFunc fn first.toArray cap.toArray, ty, pos, aft, none⟩ :: rest) F w := by
  subst h1
  subst h2
  exact Wl.val (by simp [execOp, Instr.makeFunc]) c
/-- x[:b] in a region that draws. -/
theorem Wq.sliceTo {α : Type} {R : Rel α} {C : World → Prop} {K : Fr → Prop} {Pb : Nat → Prop} {xs : List α} {x hi : Operand} {t e : TypeId} {sz bytes : Nat} {agg : Bool} {z v : Value} {k : IntKind} {b : Int} [ht : Und P t (.slice e)] [he : ElT P e sz bytes agg z] (h : RdS R sz Pb w v xs) (hx : ev n F x = v) (hh : ev n F hi = .int k b) (h0 : 0 ≤ b) (h1 : b ≤ xs.length)
    (c : ∀ v', RdS R sz Pb w v' (xs.take b.toNat) → Wq P n ds C K ops rest (upd F d v')) : Wq P n ds C K ops (⟨some d, .slice t x none (some hi) none, ty, pos, aft, none⟩ :: rest) F := by
  obtain ⟨p, cap, rfl, hc, _⟩ := h.form
  obtain ⟨b, rfl⟩ := Int.eq_ofNat_of_zero_le h0
  have hr := h.sub (a := 0) (b := b) (Nat.zero_le _) (by omega)
  rw [List.drop_zero] at hr
  refine Wq.val (fun w' _ => ?_) (c _ hr)
  have := run_sliceS (P := P) (w := w') (p := p) (l := xs.length) (lo := none) (hi := some (.int k b)) (a := 0) (b := b) ht.h he (.inl ⟨rfl, rfl⟩) (.inr ⟨k, rfl⟩) (Nat.zero_le _) (by omega : b ≤ cap)
  simp only [execOp, hx, hh, Option.map_none, Option.map_some, Sem.run_bind, this, Result.andThen_ok, Sem.run_pure]
/-- min(a, b) of integers. -/
theorem Wl.minI {x y : Operand} {ts : Array TypeId} {k k' : IntKind} {a b : Int} (hx : ev n F x = .int k a) (hy : ev n F y = .int k' b) (c : Wl P n ds Q ops rest (upd F d (.int k (if b < a then b else a))) w) :
    Wl P n ds Q ops (⟨some d, .call { callee := .builtin .min, args := #[x, y], argTypes := ts }, ty, pos, aft, none⟩ :: rest) F w := by
  refine Wl.val (w' := w) ?_ c
  have hr : (Builtin.min_ ts ty #[.int k a, .int k' b]).run P w = .ok (.int k (if b < a then b else a)) w := run_min_int2 _ _ _ _ _ _ _
  simp only [execOp, resolve, Sem.run_bind, Sem.run_pure, Result.andThen_ok, invoke, builtin, List.map_toArray, List.map_cons, List.map_nil, hx, hy, hr]
/-- []T{x}, a list of one's own. -/
theorem Wl.buildSlice1 {α : Type} {R : Rel α} {x : Operand} {t e : TypeId} {sz bytes : Nat} {agg : Bool} {z u : Value} {y : α} {cs : List Value} {Pe : Nat → Prop} (hR : GoodR R sz) [ht : Und P t (.slice e)] [he : ElT P e sz bytes agg z] (hx : ev n F x = u) (hcs : u.cells.toList = cs) (hl : cs.length = sz) (hy : R (fun b => Pe b ∧ w.heap.size ≠ b) w y cs) (hsz : 0 < sz) (hsz2 : sz ≤ 16777216)
    (c : ∀ v w', OwnS R e sz (fun b => w.heap.size ≤ b) Pe w' v [y] → New w w' → w'.heap.size = w.heap.size + 1 → v.ownBlock = some w.heap.size → Wl P n ds Q ops rest (upd F d v) w') :
    Wl P n ds Q ops (⟨some d, .buildSlice t 1 #[(0, x)], ty, pos, aft, none⟩ :: rest) F w := by
  have hus : u.cells.size = sz := by rw [← hl, ← hcs]; simp
  have hr := run_buildSlice1 (P := P) (w := w) ht.h he hus hsz hsz2
  have hn : New w (w.alloc (.cells u.cells e)) := Chg.alloc _ _ _
  refine Wl.val (w' := w.alloc (.cells u.cells e)) ?_ (c _ _ ⟨cs, ⟨by simpa using hl, .inr ⟨w.heap.size, 1, u.cells, rfl, Nat.le_refl _, heap_alloc_new w _, Nat.le_refl _, by unfold maxLen; omega, by simpa using hus, by rw [hcs, List.take_of_length_le]; simp [hl]⟩⟩, fun i x hx => ?_⟩ hn (by simp) rfl)
  · simp only [execOp, List.map_toArray, List.map_cons, List.map_nil, hx, Sem.run_bind, hr, Result.andThen_ok, Sem.run_pure, List.length_singleton]
  · match i with
    | 0 =>
      simp at hx
      subst hx
      simp only [Nat.zero_mul, List.drop_zero]
      rw [List.take_of_length_le (by omega)]
      have h1 := hR.st _ _ _ _ _ hn.keep hy
      exact hR.mo _ _ _ _ _ (fun b _ hb => ⟨hb.1, fun e => hb.2 (by simpa [Value.ownBlock] using e)⟩) h1
    | i + 1 => simp at hx
end
end Go.Proofs.YtjpebmgllfiloaaDoor.Wk
