/-
  The generic walking kit of this claim, fourth part: slices of a call's own, which are appended to and written. It speaks of any program.
-/
import Derived.Test.YtjpebmgllfiloaaDoorMem
namespace Go.Proofs.YtjpebmgllfiloaaDoor.Wk
open Go Go.RowKit

/-! ### What a step turns -/
/-- From w to w' blocks may have come; of the old ones only those with M may have turned. -/
structure Chg (M : Nat → Prop) (w w' : World) : Prop where
  os : w'.os = w.os
  tape : w'.tape = w.tape
  output : w'.output = w.output
  size : w.heap.size ≤ w'.heap.size
  block : ∀ k, k < w.heap.size → ¬ M k → w'.heap[k]? = w.heap[k]?
/-- Nothing old has turned. -/
abbrev New (w w' : World) : Prop := Chg (fun _ => False) w w'
section
variable {M M' : Nat → Prop} {w w' w'' : World}
theorem Chg.refl (M : Nat → Prop) (w : World) : Chg M w w := ⟨rfl, rfl, rfl, Nat.le_refl _, fun _ _ _ => rfl⟩
theorem Chg.trans (h : Chg M w w') (h' : Chg M' w' w'') (hM : ∀ k, k < w.heap.size → M' k → M k) : Chg M w w'' :=
  ⟨h'.os.trans h.os, h'.tape.trans h.tape, h'.output.trans h.output, Nat.le_trans h.size h'.size, fun k hk hn =>
    (h'.block k (Nat.lt_of_lt_of_le hk h.size) fun e => hn (hM k hk e)).trans (h.block k hk hn)⟩
theorem Chg.mono (h : Chg M w w') (hM : ∀ k, k < w.heap.size → M k → M' k) : Chg M' w w' :=
  ⟨h.os, h.tape, h.output, h.size, fun k hk hn => h.block k hk fun e => hn (hM k hk e)⟩
theorem New.trans (h : New w w') (h' : New w' w'') : New w w'' := Chg.trans h h' fun _ _ e => e
theorem New.any (h : New w w') : Chg M w w' := h.mono fun _ _ e => e.elim
theorem Chg.alloc (M : Nat → Prop) (w : World) (o : Obj) : Chg M w (w.alloc o) := ⟨rfl, rfl, rfl, by simp, fun k hk _ => World.heap_old w o hk⟩
theorem Chg.drew (M : Nat → Prop) (w : World) : Chg M w w.drew := ⟨rfl, rfl, rfl, Nat.le_refl _, fun _ _ _ => rfl⟩
theorem Chg.below {B : Nat} (h : Chg M w w') (hM : ∀ k, k < B → ¬ M k) (hB : B ≤ w.heap.size) : Below B w w' := ⟨h.os, h.tape, h.output, h.size, fun k hk => h.block k (by omega) (hM k hk)⟩
theorem New.below (h : New w w') : Below w.heap.size w w' := Chg.below h (fun _ _ e => e) (Nat.le_refl _)
theorem Chg.ofBelow {B : Nat} (h : Below B w w') : Chg (fun b => B ≤ b) w w' := ⟨h.os, h.tape, h.output, h.size, fun k _ hn => h.block k (by omega)⟩
theorem New.ofBelow (h : Below w.heap.size w w') : New w w' := ⟨h.os, h.tape, h.output, h.size, fun k hk _ => h.block k hk⟩
theorem Chg.setRow {g : Nat} {cs : Array Value} (hg : M g) : Chg M w (w.setRow g cs) := ⟨rfl, rfl, rfl, by simp, fun k _ hn => setRow_other w g k cs fun e => hn (e ▸ hg)⟩
theorem Chg.keep {Pb : Nat → Prop} (h : Chg M w w') (hd : ∀ b, b < w.heap.size → Pb b → ¬ M b) : Keep Pb w w' := fun b hb hlt => h.block b hlt (hd b hlt hb)
theorem New.keep {Pb : Nat → Prop} (h : New w w') : Keep Pb w w' := fun b _ hlt => h.block b hlt fun e => e
end

/-! ### Rows of the call's own -/
def OwnC (Pb : Nat → Prop) (w : World) (e : TypeId) (sz : Nat) (v : Value) (m : Nat) (cs : List Value) : Prop :=
  cs.length = m * sz ∧ ((v = .slice none 0 0 ∧ m = 0) ∨
    ∃ g cap cur, v = .slice (some ⟨g, 0, none⟩) m cap ∧ Pb g ∧ w.heap[g]? = some (.cells cur e (0, 0)) ∧ m ≤ cap ∧ cap ≤ maxLen ∧ cur.size = cap * sz ∧ cur.toList.take (m * sz) = cs)
structure GoodR {α : Type} (R : Rel α) (sz : Nat) : Prop where
  st : Stable R
  mo : Mono R
  oc : ∀ Pb w x cs, R Pb w x cs → cs.length = sz → ∀ c ∈ cs, c.oneCell' = true
theorem good_one {α : Type} (f : α → Value) (h : ∀ x, (f x).oneCell' = true) : GoodR (one f) 1 := ⟨stable_one f, mono_one f, fun _ _ x cs e _ c hc => by cases e; simp at hc; rw [hc]; exact h x⟩
/-- A slice of the call's own that reads as xs: its block is in Pb; what the elements reach is in Pe, and is not that block. -/
def OwnS {α : Type} (R : Rel α) (e : TypeId) (sz : Nat) (Pb Pe : Nat → Prop) (w : World) (v : Value) (xs : List α) : Prop :=
  ∃ cs, OwnC Pb w e sz v xs.length cs ∧ ∀ (i : Nat) (x : α), xs[i]? = some x → R (fun b => Pe b ∧ v.ownBlock ≠ some b) w x ((cs.drop (i * sz)).take sz)
section
variable {α : Type} {R : Rel α} {e : TypeId} {sz : Nat} {Pb Pe Pb' Pe' M : Nat → Prop} {w w' : World} {v : Value} {xs : List α}
theorem OwnC.form {m : Nat} {cs : List Value} (h : OwnC Pb w e sz v m cs) : ∃ a cap, v = .slice a m cap ∧ m ≤ cap ∧ cap ≤ maxLen := by
  rcases h.2 with ⟨rfl, rfl⟩ | ⟨g, cap, cur, rfl, _, _, h1, h2, _⟩
  · exact ⟨none, 0, rfl, Nat.le_refl _, by unfold maxLen; omega⟩
  · exact ⟨_, cap, rfl, h1, h2⟩
theorem OwnC.lt {m : Nat} {cs : List Value} (h : OwnC Pb w e sz v m cs) {k : Nat} (hk : v.ownBlock = some k) : Pb k ∧ k < w.heap.size := by
  rcases h.2 with ⟨rfl, rfl⟩ | ⟨g, cap, cur, rfl, hb, hg, _⟩
  · cases hk
  · simp only [Value.ownBlock, Option.some.injEq] at hk
    subst hk
    exact ⟨hb, heap_lt hg⟩
theorem OwnC.keep {m : Nat} {cs : List Value} (h : OwnC Pb w e sz v m cs) (hk : Keep Pb w w') : OwnC Pb w' e sz v m cs := by
  refine ⟨h.1, ?_⟩
  rcases h.2 with h | ⟨g, cap, cur, hv, hb, hg, r⟩
  · exact .inl h
  · exact .inr ⟨g, cap, cur, hv, hb, (hk g hb (heap_lt hg)).trans hg, r⟩
theorem OwnC.mono {m : Nat} {cs : List Value} (h : OwnC Pb w e sz v m cs) (hP : ∀ b, b < w.heap.size → Pb b → Pb' b) : OwnC Pb' w e sz v m cs := by
  refine ⟨h.1, ?_⟩
  rcases h.2 with h | ⟨g, cap, cur, hv, hb, hg, r⟩
  · exact .inl h
  · exact .inr ⟨g, cap, cur, hv, hP g (heap_lt hg) hb, hg, r⟩
theorem OwnS.nil : OwnS R e sz Pb Pe w (.slice none 0 0) [] := ⟨[], ⟨by simp, .inl ⟨rfl, rfl⟩⟩, fun i x hx => by simp at hx⟩
theorem OwnS.form (h : OwnS R e sz Pb Pe w v xs) : ∃ a cap, v = .slice a xs.length cap ∧ xs.length ≤ cap ∧ cap ≤ maxLen := by
  obtain ⟨cs, h, _⟩ := h; exact h.form
theorem OwnS.lt (h : OwnS R e sz Pb Pe w v xs) {k : Nat} (hk : v.ownBlock = some k) : Pb k ∧ k < w.heap.size := by
  obtain ⟨cs, h, _⟩ := h; exact h.lt hk
theorem OwnS.keep (hR : Stable R) (h : OwnS R e sz Pb Pe w v xs) (hk : Keep Pb w w') (hk' : Keep Pe w w') : OwnS R e sz Pb Pe w' v xs := by
  obtain ⟨cs, h, he⟩ := h
  exact ⟨cs, h.keep hk, fun i x hx => hR _ _ _ _ _ (fun b hb => hk' b hb.1) (he i x hx)⟩
theorem OwnS.mono (hR : Mono R) (h : OwnS R e sz Pb Pe w v xs) (hP : ∀ b, b < w.heap.size → Pb b → Pb' b) (hP' : ∀ b, b < w.heap.size → Pe b → Pe' b) : OwnS R e sz Pb' Pe' w v xs := by
  obtain ⟨cs, h, he⟩ := h
  exact ⟨cs, h.mono hP, fun i x hx => hR _ _ _ _ _ (fun b hb hb' => ⟨hP' b hb hb'.1, hb'.2⟩) (he i x hx)⟩
theorem OwnS.keepP {f : α → Value} (h : OwnS (one f) e sz Pb Pe w v xs) (hk : Keep Pb w w') : OwnS (one f) e sz Pb Pe w' v xs := by
  obtain ⟨cs, h, he⟩ := h
  exact ⟨cs, h.keep hk, he⟩
/-- What a call owns can be read. -/
theorem OwnS.rd (hR : Mono R) (h : OwnS R e sz Pb Pe w v xs) : RdS R sz (fun b => Pb b ∨ Pe b) w v xs := by
  obtain ⟨cs, ⟨hl, h⟩, he⟩ := h
  rcases h with ⟨rfl, hm⟩ | ⟨g, cap, cur, rfl, hb, hg, h1, h2, h3, h4⟩
  · exact .inl ⟨rfl, List.eq_nil_of_length_eq_zero hm⟩
  · have hle : xs.length * sz ≤ cap * sz := Nat.mul_le_mul_right _ h1
    refine .inr <| .inr ⟨g, 0, cap, cur, e, _, rfl, .inl hb, hg, h1, h2, by omega, fun i x hx => ?_⟩
    have := hR _ (fun b => Pb b ∨ Pe b) _ _ _ (fun b _ hb => Or.inr hb.1) (he i x hx)
    rw [← h4] at this
    have hi : i < xs.length := (List.getElem?_eq_some_iff.1 hx).1
    have hi2 : (i + 1) * sz ≤ xs.length * sz := Nat.mul_le_mul_right _ hi
    rw [Nat.add_mul] at hi2
    rw [List.drop_take, List.take_take, Nat.min_eq_left (by omega)] at this
    rw [Nat.zero_add]
    exact this
end

section
variable {P : Program} {w : World}
theorem run_append_c (t ty e : TypeId) {sz bytes : Nat} {agg : Bool} {z : Value} (ht : P.underlying t = some (.slice e)) (he : ElT P e sz bytes agg z) (hsz : 0 < sz)
    {Pb : Nat → Prop} {v : Value} {m : Nat} {cs : List Value} (hown : OwnC Pb w e sz v m cs)
    (a : Addr) (k c : Nat) (news : List Value) (hl : news.length = k * sz) (hnews : ∀ j u, news[j]? = some u → w.cell? (a.add j) = some u) (h1 : ∀ u ∈ news, u.oneCell' = true)
    (h63 : m + k ≤ maxLen) (hby : (m + k) * bytes ≤ 140737488355328) :
    ∃ v' w', (Builtin.append_ #[t, t] ty #[v, .slice (some a) k c]).run P w = .ok v' w' ∧ OwnC (fun b => Pb b ∨ w.heap.size ≤ b) w' e sz v' (m + k) (cs ++ news) ∧ Chg (fun b => v.ownBlock = some b) w w' ∧
      (v'.ownBlock = v.ownBlock ∨ ∀ b, v'.ownBlock = some b → w.heap.size ≤ b) := by
  obtain ⟨i, hi, hsz', hby', hz'⟩ := he.inf
  have hz := he.hz
  subst hsz'
  subst hby'
  have hsmall : m + k ≤ 9223372036854775807 := by simp only [maxLen] at h63; omega
  have hlen : (cs ++ news).length = (m + k) * i.size := by rw [List.length_append, hown.1, hl, Nat.add_mul]
  have grown : ∀ (old : Nat), old < m + k →
      OwnC (fun b => Pb b ∨ w.heap.size ≤ b) (w.drew.alloc (.cells (cs.toArray ++ news.toArray ++ Builtin.zeroCells z.cells (grownCap w (m + k) old e - (m + k))) e)) e i.size
        (.slice (some ⟨w.heap.size, 0, none⟩) (m + k) (grownCap w (m + k) old e)) (m + k) (cs ++ news) := by
    intro old ho
    have hge := grownCap_ge w (m + k) old e
    have hcm : grownCap w (m + k) old e ≤ maxLen := grownCap_le_maxLen w (m + k) old e h63
    refine ⟨hlen, .inr ⟨w.heap.size, _, _, rfl, .inr (Nat.le_refl _), heap_alloc_new w.drew _, hge, hcm, ?_, ?_⟩⟩
    · simp only [Array.size_append, List.size_toArray, size_zeroCells, hz, hown.1, hl, ← Nat.add_mul]
      congr 1
      omega
    · simp only [Array.toList_append, List.append_assoc]
      rw [← List.append_assoc, ← hlen]
      exact List.take_left
  have chg : ∀ M o, Chg M w (w.drew.alloc o) := fun M o => ⟨rfl, rfl, rfl, by simp, fun k hk _ => World.heap_old w.drew o hk⟩
  rcases hown.2 with ⟨rfl, rfl⟩ | ⟨g, cap, cur, rfl, hbg, hg, hnc, hcm, hcs, htake⟩
  · have hx : cs = [] := List.eq_nil_of_length_eq_zero (by simpa using hown.1)
    subst hx
    by_cases hm : k = 0
    · subst hm
      have hn : news = [] := List.eq_nil_of_length_eq_zero (by simpa using hl)
      subst hn
      refine ⟨.slice none 0 0, w, ?_, ⟨by simp, .inl ⟨rfl, rfl⟩⟩, Chg.refl _ _, .inl rfl⟩
      simp [Builtin.append_, run_underlying ht, sizeOf, typeInfo, hi, Builtin.lenOf, Builtin.firstCells, loadCells, loadCellsFrom]
    · have hr := run_append_nil (P := P) w t ty e i z ht hi hz' a k c news hl hnews (by omega) (by omega) (by have hb := hby; simp only [Nat.zero_add] at hb; omega)
      have hgr := grown 0 (by omega)
      simp only [Nat.zero_add, List.nil_append, Array.empty_append] at hgr ⊢
      exact ⟨_, _, hr, hgr, chg _ _, .inr fun b hb => by simp only [Value.ownBlock, Option.some.injEq] at hb; omega⟩
  · by_cases hroom : m + k ≤ cap
    · have hfit : m * i.size + news.length ≤ cur.size := by rw [hl, hcs, ← Nat.add_mul]; exact Nat.mul_le_mul_right _ hroom
      have hr := run_append_room (P := P) w t ty e i ht hi g m cap cur hg a k c news hl hnews h1 hroom hfit
      refine ⟨_, _, hr, ⟨hlen, .inr ⟨g, cap, _, rfl, .inl hbg, setRow_heap w g cur _ e _ hg, hroom, hcm, ?_, ?_⟩⟩, Chg.setRow rfl, .inl rfl⟩
      · simp only [List.size_toArray, List.length_append, List.length_take, List.length_drop, Array.length_toList]
        omega
      · rw [htake, ← hlen]
        exact List.take_left
    · have holds : ∀ j u, cs[j]? = some u → w.cell? ((⟨g, 0, none⟩ : Addr).add j) = some u := by
        intro j u hu
        rw [addr_add, Nat.zero_add]
        simp only [World.cell?, hg]
        rw [← htake, List.getElem?_take] at hu
        split at hu
        · simpa using hu
        · cases hu
      have hr := run_append_grow (P := P) w t ty e i z ht hi hz' ⟨g, 0, none⟩ m cap cs hown.1 holds a k c news hl hnews (by omega) (by omega) (growslice_fits (by omega) hby)
      exact ⟨_, _, hr, grown cap (by omega), chg _ _, .inr fun b hb => by simp only [Value.ownBlock, Option.some.injEq] at hb; omega⟩
theorem run_append_c0 (t ty e : TypeId) {sz bytes : Nat} {agg : Bool} {z : Value} (ht : P.underlying t = some (.slice e)) (he : ElT P e sz bytes agg z)
    {Pb : Nat → Prop} {v : Value} {m : Nat} {cs : List Value} (hown : OwnC Pb w e sz v m cs) :
    (Builtin.append_ #[t, t] ty #[v, .slice none 0 0]).run P w = .ok v w := by
  obtain ⟨i, hi, _, _, _⟩ := he.inf
  rcases hown.2 with ⟨rfl, rfl⟩ | ⟨g, cap, cur, rfl, _, _, hnc, _⟩
  · simp [Builtin.append_, run_underlying ht, sizeOf, typeInfo, hi, Builtin.lenOf, Builtin.firstCells]
  · simp [Builtin.append_, run_underlying ht, sizeOf, typeInfo, hi, Builtin.lenOf, Builtin.firstCells, hnc, storeCells]
end

section
variable {α : Type} {R : Rel α} {Pb Pe : Nat → Prop} {xs : List α}
variable {P : Program} {n : Nat} {ds : List Deferred} {Q : Po} {F : Fr} {w w' : World} {ops rest : List Oper} {d d1 d2 : Nat} {ty ty1 ty2 : TypeId} {pos pos1 pos2 : String} {aft aft1 aft2 : Array Edge}

/-- An element that stays as it is though the row is appended to. -/
theorem elems_append {sz : Nat} {cs news : List Value} {ys : List α} {v v' : Value} (hR : GoodR R sz) (hlc : cs.length = xs.length * sz)
    (he : ∀ (i : Nat) (x : α), xs[i]? = some x → R (fun b => Pe b ∧ v.ownBlock ≠ some b) w x ((cs.drop (i * sz)).take sz))
    (hn : ∀ (i : Nat) (x : α), ys[i]? = some x → R (fun b => Pe b ∧ v.ownBlock ≠ some b) w x ((news.drop (i * sz)).take sz))
    (hc : Chg (fun b => v.ownBlock = some b) w w') (hv : v'.ownBlock = v.ownBlock ∨ ∀ b, v'.ownBlock = some b → w.heap.size ≤ b) :
    ∀ (i : Nat) (x : α), (xs ++ ys)[i]? = some x → R (fun b => Pe b ∧ v'.ownBlock ≠ some b) w' x (((cs ++ news).drop (i * sz)).take sz) := by
  have key : ∀ x l, R (fun b => Pe b ∧ v.ownBlock ≠ some b) w x l → R (fun b => Pe b ∧ v'.ownBlock ≠ some b) w' x l := by
    intro x l h
    have h1 := hR.mo _ (fun b => (Pe b ∧ v'.ownBlock ≠ some b) ∧ v.ownBlock ≠ some b) w x l (fun b hb hP => ⟨⟨hP.1, fun e => by
      rcases hv with e' | h'
      · exact hP.2 (e' ▸ e)
      · have := h' b e; omega⟩, hP.2⟩) h
    have h2 := hR.st _ _ _ _ _ (hc.keep (fun b _ hb => hb.2)) h1
    exact hR.mo _ _ _ _ _ (fun b _ hb => hb.1) h2
  intro i x hx
  rw [List.getElem?_append] at hx
  split at hx
  · rename_i hi
    have hle : (i + 1) * sz ≤ xs.length * sz := Nat.mul_le_mul_right _ hi
    rw [Nat.add_mul] at hle
    have e1 : ((cs ++ news).drop (i * sz)).take sz = (cs.drop (i * sz)).take sz := by
      rw [List.drop_append, List.take_append_of_le_length (by simp; omega)]
    rw [e1]
    exact key _ _ (he i x hx)
  · rename_i hi
    have hi' : xs.length ≤ i := Nat.not_lt.1 hi
    have e1 : ((cs ++ news).drop (i * sz)).take sz = (news.drop ((i - xs.length) * sz)).take sz := by
      have hle : xs.length * sz ≤ i * sz := Nat.mul_le_mul_right _ hi'
      rw [List.drop_append, List.drop_eq_nil_of_le (by omega), List.nil_append, hlc, Nat.sub_mul]
    rw [e1]
    exact key _ _ (hn _ x hx)

/-- 's = append(s, x)'. -/
theorem Wl.append1 {x s : Operand} {t e : TypeId} {sz bytes : Nat} {agg : Bool} {z v u : Value} {y : α} {cs : List Value} (hR : GoodR R sz)
    (hown : OwnS R e sz Pb Pe w v xs) [ht : Und P t (.slice e)] [he : ElT P e sz bytes agg z] (hs : ev n F s = v) (hx : ev n F x = u) (hcs : u.cells.toList = cs) (hl : cs.length = sz) (hy : R (fun b => Pe b ∧ v.ownBlock ≠ some b) w y cs)
    (hsz : 0 < sz) (hsz2 : sz ≤ 16777216) (h63 : xs.length + 1 ≤ maxLen) (hby : (xs.length + 1) * bytes ≤ 140737488355328) (hd : Nat.blt d1 n = true) (hsd : (match s with | .tmp q => Nat.beq q d1 | _ => false) = false)
    (c : ∀ v' w' p, OwnS R e sz (fun b => Pb b ∨ w.heap.size ≤ b) Pe w' v' (xs ++ [y]) → Chg (fun b => v.ownBlock = some b) w w' → (v'.ownBlock = v.ownBlock ∨ ∀ b, v'.ownBlock = some b → w.heap.size ≤ b) → Wl P n ds Q ops rest (upd (upd F d1 p) d2 v') w') :
    Wl P n ds Q ops (⟨some d1, .buildSlice t 1 #[(0, x)], ty1, pos1, aft1, none⟩ :: ⟨some d2, .call { callee := .builtin .append, args := #[s, .tmp d1], argTypes := #[t, t] }, ty2, pos2, aft2, none⟩ :: rest) F w := by
  obtain ⟨ocs, hoc, hoe⟩ := hown
  have h1 : ∀ c ∈ cs, c.oneCell' = true := hR.oc _ _ _ _ hy hl
  have huc : u.cells.size = sz := by rw [← hl, ← hcs]; simp
  have r1 := run_buildSlice1 (P := P) (w := w) ht.h he huc hsz hsz2
  let w1 := w.alloc (.cells u.cells e)
  have hk1 : New w w1 := Chg.alloc _ _ _
  have hnew : ∀ j q, cs[j]? = some q → w1.cell? ((⟨w.heap.size, 0, none⟩ : Addr).add j) = some q := by
    intro j q hq
    rw [addr_add, Nat.zero_add]
    have : w1.heap[w.heap.size]? = some (.cells u.cells e) := heap_alloc_new w _
    simp only [World.cell?, this]
    rw [← hcs] at hq
    simpa using hq
  obtain ⟨v', w', hr, h2, h3, h4⟩ := run_append_c (P := P) (w := w1) t ty2 e ht.h he hsz (hoc.keep hk1.keep) ⟨w.heap.size, 0, none⟩ 1 1 cs (by omega) hnew h1 h63 hby
  have hsize1 : w1.heap.size = w.heap.size + 1 := by simp [w1]
  have hel := elems_append (w := w1) (w' := w') (ys := [y]) (news := cs) hR hoc.1 (fun i x hx => hR.st _ _ _ _ _ hk1.keep (hoe i x hx))
    (fun i x hx => by
      have hi : i = 0 := by
        rcases Nat.eq_zero_or_pos i with h | h
        · exact h
        · rw [List.getElem?_eq_none (by simp; omega)] at hx; cases hx
      subst hi
      simp only [List.getElem?_cons_zero, Option.some.injEq] at hx
      subst hx
      simp only [Nat.zero_mul, List.drop_zero]
      rw [List.take_of_length_le (by omega)]
      exact hR.st _ _ _ _ _ hk1.keep hy) h3 h4
  refine Wl.val (w' := w1) (v := .slice (some ⟨w.heap.size, 0, none⟩) 1 1) ?_ (Wl.val (w' := w') (v := v') ?_ (c v' w' _ ⟨ocs ++ cs, ?_, hel⟩ ?_ (h4.imp id fun h b hb => by have := h b hb; omega)))
  · simp only [execOp, List.map_toArray, List.map_cons, List.map_nil, hx, Sem.run_bind, r1, Result.andThen_ok, Sem.run_pure, w1]
  · have e1 : ev n (upd F d1 (.slice (some ⟨w.heap.size, 0, none⟩) 1 1)) s = v := by
      cases s with
      | tmp q =>
        simp only [ev] at hs ⊢
        rw [upd_eq, if_neg (Nat.ne_of_beq_eq_false hsd)]
        exact hs
      | _ => exact hs
    have e2 : ev n (upd F d1 (.slice (some ⟨w.heap.size, 0, none⟩) 1 1)) (.tmp d1) = .slice (some ⟨w.heap.size, 0, none⟩) 1 1 := by
      simp only [ev, hd, upd_eq, if_pos]
    simp only [execOp, resolve, invoke, builtin, Sem.run_bind, Sem.run_pure, Result.andThen_ok, List.map_toArray, List.map_cons, List.map_nil, e1, e2, hr]
  · rw [List.length_append, List.length_singleton]
    exact h2.mono fun b _ hb => hb.imp id (fun h => by omega)
  · exact hk1.any.trans h3 fun _ _ h => h
/-- 's = append(s, l...)'. -/
theorem Wl.appendAll {x s : Operand} {t e : TypeId} {sz bytes : Nat} {agg : Bool} {z v u : Value} {Pr : Nat → Prop} {ys : List α} (hR : GoodR R sz)
    (hown : OwnS R e sz Pb Pe w v xs) (hr : RdS R sz Pr w u ys) (hp : ∀ y cs, R Pr w y cs → R (fun b => Pe b ∧ v.ownBlock ≠ some b) w y cs) [ht : Und P t (.slice e)] [he : ElT P e sz bytes agg z] (hs : ev n F s = v) (hx : ev n F x = u)
    (hsz : 0 < sz) (h63 : xs.length + ys.length ≤ maxLen) (hby : (xs.length + ys.length) * bytes ≤ 140737488355328)
    (c : ∀ v' w', OwnS R e sz (fun b => Pb b ∨ w.heap.size ≤ b) Pe w' v' (xs ++ ys) → Chg (fun b => v.ownBlock = some b) w w' → (v'.ownBlock = v.ownBlock ∨ ∀ b, v'.ownBlock = some b → w.heap.size ≤ b) → (Builtin.append_ #[t, t] ty #[v, u]).run P w = .ok v' w' → Wl P n ds Q ops rest (upd F d v') w') :
    Wl P n ds Q ops (⟨some d, .call { callee := .builtin .append, args := #[s, x], argTypes := #[t, t] }, ty, pos, aft, none⟩ :: rest) F w := by
  obtain ⟨ocs, hoc, hoe⟩ := hown
  have run : ∀ v' w', (Builtin.append_ #[t, t] ty #[v, u]).run P w = .ok v' w' → (execOp (ev n F) ⟨some d, .call { callee := .builtin .append, args := #[s, x], argTypes := #[t, t] }, ty, pos, aft, none⟩).run P w = .ok (.value v') w' := by
    intro v' w' h
    simp only [execOp, resolve, invoke, builtin, Sem.run_bind, Sem.run_pure, Result.andThen_ok, List.map_toArray, List.map_cons, List.map_nil, hs, hx, h]
  rcases hr with ⟨rfl, rfl⟩ | ⟨a, cap, rfl, rfl, _⟩ | ⟨b, off, cap, cur, e', fr, rfl, hb, hh, h1, h2, h3, h4⟩
  rotate_left
  · obtain ⟨v', w', hr, g2, g3, g4⟩ := run_append_c (P := P) (w := w) t ty e ht.h he hsz hoc a 0 cap [] (by simp) (fun j u hu => by simp at hu) (by simp) (by omega) (by simpa using hby)
    refine Wl.val (run _ _ hr) (c v' w' ⟨ocs ++ [], ?_, elems_append hR hoc.1 hoe (ys := []) (fun i x hx => by simp at hx) g3 g4⟩ g3 g4 hr)
    simpa using g2
  rotate_left
  · refine Wl.val (run _ _ (run_append_c0 (P := P) (w := w) t ty e ht.h he hoc)) (c v w ⟨ocs, by simpa using hoc.mono fun b _ hb => Or.inl hb, by simpa using hoe⟩ (Chg.refl _ _) (.inl rfl) (run_append_c0 (P := P) (w := w) t ty e ht.h he hoc))
  · let news := (cur.toList.drop off).take (ys.length * sz)
    have hnl : news.length = ys.length * sz := by simp [news]; omega
    have hnc : ∀ j u, news[j]? = some u → w.cell? ((⟨b, off, none⟩ : Addr).add j) = some u := by
      intro j q hq
      rw [addr_add]
      simp only [World.cell?, hh]
      simp only [news, List.getElem?_take, List.getElem?_drop] at hq
      split at hq
      · simpa using hq
      · cases hq
    have hne : ∀ (i : Nat) (y : α), ys[i]? = some y → R (fun b => Pe b ∧ v.ownBlock ≠ some b) w y ((news.drop (i * sz)).take sz) := by
      intro i y hy
      have hi : i < ys.length := (List.getElem?_eq_some_iff.1 hy).1
      have hle : (i + 1) * sz ≤ ys.length * sz := Nat.mul_le_mul_right _ hi
      rw [Nat.add_mul] at hle
      have e1 : (news.drop (i * sz)).take sz = (cur.toList.drop (off + i * sz)).take sz := by
        simp only [news]
        rw [List.drop_take, List.take_take, Nat.min_eq_left (by omega), List.drop_drop]
      rw [e1]
      exact hp _ _ (h4 i y hy)
    have h1c : ∀ u ∈ news, u.oneCell' = true := by
      intro q hq
      obtain ⟨j, hj, rfl⟩ := List.getElem_of_mem hq
      rw [hnl] at hj
      have hjs : j / sz < ys.length := Nat.div_lt_of_lt_mul (by rw [Nat.mul_comm]; exact hj)
      have h5 := hne (j / sz) ys[j / sz] (List.getElem?_eq_getElem hjs)
      have hle : (j / sz + 1) * sz ≤ ys.length * sz := Nat.mul_le_mul_right _ hjs
      rw [Nat.add_mul] at hle
      refine hR.oc _ _ _ _ h5 (by simp; omega) _ ?_
      have hm : j % sz < sz := Nat.mod_lt _ hsz
      have hdm := Nat.div_add_mod j sz
      rw [Nat.mul_comm] at hdm
      refine List.mem_iff_getElem?.2 ⟨j % sz, ?_⟩
      rw [List.getElem?_take, if_pos hm, List.getElem?_drop, hdm, List.getElem?_eq_getElem]
    obtain ⟨v', w', hr, g2, g3, g4⟩ := run_append_c (P := P) (w := w) t ty e ht.h he hsz hoc ⟨b, off, none⟩ ys.length cap news hnl hnc h1c h63 hby
    refine Wl.val (run _ _ hr) (c v' w' ⟨ocs ++ news, ?_, elems_append hR hoc.1 hoe hne g3 g4⟩ g3 g4 hr)
    rw [List.length_append]
    exact g2
/-- '[]T{}'. -/
theorem Wl.buildSlice0 {t e : TypeId} {sz bytes : Nat} {agg : Bool} {z : Value} [ht : Und P t (.slice e)] [he : ElT P e sz bytes agg z]
    (c : ∀ v w', OwnS R e sz (fun b => w.heap.size ≤ b) Pe w' v [] → New w w' → Wl P n ds Q ops rest (upd F d v) w') :
    Wl P n ds Q ops (⟨some d, .buildSlice t 0 #[], ty, pos, aft, none⟩ :: rest) F w := by
  have r : (Instr.buildSlice t 0 #[]).run P w = .ok (.slice (some ⟨w.heap.size, 0, none⟩) 0 0) (w.alloc (.cells #[] e)) := by
    simp [Instr.buildSlice, run_underlying ht.h, he.sizeOf, Instr.fill, newRow, Array.range_zero']
  refine Wl.val (w' := w.alloc (.cells #[] e)) (v := .slice (some ⟨w.heap.size, 0, none⟩) 0 0) (by simp only [execOp, List.map_toArray, List.map_nil, Sem.run_bind, r, Result.andThen_ok, Sem.run_pure]) (c _ _ ⟨[], ⟨by simp, .inr ⟨w.heap.size, 0, #[], rfl, Nat.le_refl _, heap_alloc_new w _, Nat.le_refl _, by unfold maxLen; omega, by simp, by simp⟩⟩, fun i x hx => by simp at hx⟩ (Chg.alloc _ _ _))
/-- 'make([]T, 0, c)'. -/
theorem Wl.make0 {x y : Operand} {t e : TypeId} {sz bytes : Nat} {agg : Bool} {z : Value} {kl kc : IntKind} {c : Int}
    [ht : Und P t (.slice e)] [he : ElT P e sz bytes agg z] (hx : ev n F x = .int kl 0) (hy : ev n F y = .int kc c) (h0 : 0 ≤ c) (hby : bytes * c.toNat ≤ 281474976710656) (h63 : c ≤ 9223372036854775807)
    (c : ∀ v w', OwnS R e sz (fun b => w.heap.size ≤ b) Pe w' v [] → New w w' → Wl P n ds Q ops rest (upd F d v) w') :
    Wl P n ds Q ops (⟨some d, .makeSlice t x y, ty, pos, aft, none⟩ :: rest) F w := by
  obtain ⟨m, rfl⟩ := Int.eq_ofNat_of_zero_le h0
  obtain ⟨i, hi, hsz', hby', hz'⟩ := he.inf
  rw [Int.toNat_natCast] at hby
  have hb' : (i.bytes : Int) * (m : Int) ≤ 281474976710656 := by
    have h : ((i.bytes * m : Nat) : Int) ≤ 281474976710656 := by rw [hby']; omega
    rwa [Int.natCast_mul] at h
  have hr := run_make (P := P) w t e i z ht.h hi hz' kl kc 0 m (Int.le_refl _) (by omega) hb' h63
  simp only [Int.toNat_zero, Int.toNat_natCast] at hr
  refine Wl.val (v := .slice (some ⟨w.heap.size, 0, none⟩) 0 m) (w' := w.alloc (.cells (madeCells z.cells (m * i.size)) e)) ?_ (c _ _ ⟨[], ⟨by simp, .inr ⟨w.heap.size, m, _, rfl, Nat.le_refl _, heap_alloc_new w _, Nat.zero_le _, by unfold maxLen; omega, ?_, by simp⟩⟩, fun i x hx => by simp at hx⟩ (Chg.alloc _ _ _))
  · simp only [execOp, hx, hy, Sem.run_bind, hr, Result.andThen_ok, Sem.run_pure]
  · rw [size_madeCells, hsz']
/-- 'make([]T, c)', plain elements of one cell. -/
theorem Wl.makeN {f : α → Value} {y0 : α} {x y : Operand} {t e : TypeId} {bytes : Nat} {agg : Bool} {z : Value} {kl kc : IntKind} {c : Int}
    [ht : Und P t (.slice e)] [he : ElT P e 1 bytes agg z] (hz0 : z.cells = #[f y0]) (hx : ev n F x = .int kl c) (hy : ev n F y = .int kc c) (h0 : 0 ≤ c) (hby : bytes * c.toNat ≤ 281474976710656) (h63 : c ≤ 9223372036854775807)
    (c : ∀ v w', OwnS (one f) e 1 (fun b => w.heap.size ≤ b) Pe w' v (List.replicate c.toNat y0) → New w w' → Wl P n ds Q ops rest (upd F d v) w') :
    Wl P n ds Q ops (⟨some d, .makeSlice t x y, ty, pos, aft, none⟩ :: rest) F w := by
  obtain ⟨m, rfl⟩ := Int.eq_ofNat_of_zero_le h0
  obtain ⟨i, hi, hsz', hby', hz'⟩ := he.inf
  rw [Int.toNat_natCast] at *
  have hb' : (i.bytes : Int) * (m : Int) ≤ 281474976710656 := by
    have h : ((i.bytes * m : Nat) : Int) ≤ 281474976710656 := by rw [hby']; omega
    rwa [Int.natCast_mul] at h
  have hr := run_make (P := P) w t e i z ht.h hi hz' kl kc m m (by omega) (Int.le_refl _) hb' h63
  simp only [Int.toNat_natCast, hsz', Nat.mul_one, hz0] at hr
  refine Wl.val (v := .slice (some ⟨w.heap.size, 0, none⟩) m m) (w' := w.alloc (.cells (madeCells #[f y0] m) e)) ?_ (c _ _ ⟨List.replicate m (f y0), ⟨by simp, .inr ⟨w.heap.size, m, madeCells #[f y0] m, by simp, Nat.le_refl _, heap_alloc_new w _, by simp, by unfold maxLen; omega, by rw [size_madeCells]; simp, ?_⟩⟩, fun i x hx => ?_⟩ (Chg.alloc _ _ _))
  · simp only [execOp, hx, hy, Sem.run_bind, hr, Result.andThen_ok, Sem.run_pure]
  · rw [toList_madeCells_one]; simp
  have hi2 : i < m := by have := (List.getElem?_eq_some_iff.1 hx).1; simpa using this
  rw [List.getElem?_replicate, if_pos hi2] at hx
  cases hx
  simp only [one, Nat.mul_one, List.drop_replicate, List.take_replicate]
  rw [Nat.min_eq_left (by omega)]; rfl
/-- 's[j] = x', one cell. -/
theorem run_store1 {e : TypeId} {bytes : Nat} {z u : Value} {agg : Bool} {m : Nat} {cs : List Value} {v : Value} (he : ElT P e 1 bytes agg z) (hoc : OwnC Pb w e 1 v m cs) {g cap : Nat} (hv : v = .slice (some ⟨g, 0, none⟩) m cap) {j : Nat} (hj : j < m) (hu : u.oneCell' = true) (huc : u.cells = #[u]) :
    ∃ w', (Instr.storeAt e (.pointer (some ⟨g, j, none⟩)) u).run P w = .ok () w' ∧ OwnC Pb w' e 1 v m (cs.set j u) ∧ Chg (fun b => v.ownBlock = some b) w w' := by
  obtain ⟨hl, h⟩ := hoc
  rcases h with ⟨rfl, _⟩ | ⟨g', cap', cur, rfl, hb, hg, h1, h2, h3, h4⟩
  · cases hv
  · cases hv
    have hr := run_storeCells_at P g j e [u] 0 cur w hg (by simp; omega) (by simpa using hu)
    have e1 : (cur.toList.take j ++ [u] ++ cur.toList.drop (j + 1)).toArray = cur.setIfInBounds j u := by
      apply Array.ext'
      rw [Array.toList_setIfInBounds, List.set_eq_take_append_cons_drop, if_pos (by simp; omega)]
      simp
    simp only [Nat.add_zero, List.length_singleton, e1] at hr
    refine ⟨w.setRow g (cur.setIfInBounds j u), ?_, ⟨by simpa using hl, .inr ⟨g, cap, cur.setIfInBounds j u, rfl, hb, setRow_heap w g cur _ e _ hg, h1, h2, by simpa using h3, ?_⟩⟩, Chg.setRow rfl⟩
    · simp only [Instr.storeAt, Instr.sureAddr, storeVar, Sem.run_bind, Sem.run_pure, Result.andThen_ok, he.sizeOf, huc]
      simpa using hr
    · rw [Array.toList_setIfInBounds, ← h4, List.take_set]
theorem OwnS.set1 {f : α → Value} {e : TypeId} {v : Value} {xs : List α} {m : Nat} {cs : List Value} (hm : m = xs.length) (hoc : OwnC Pb w e 1 v m cs) (he : ∀ (i : Nat) (x : α), xs[i]? = some x → one f (fun b => Pe b ∧ v.ownBlock ≠ some b) w x ((cs.drop (i * 1)).take 1)) (j : Nat) (y : α)
    (hoc' : OwnC Pb w' e 1 v m (cs.set j (f y))) : OwnS (one f) e 1 Pb Pe w' v (xs.set j y) := by
  subst hm
  refine ⟨cs.set j (f y), by simpa using hoc', fun i x hx => ?_⟩
  have hl : cs.length = xs.length := by simpa using hoc.1
  simp only [one, Nat.mul_one] at he ⊢
  have hi : i < xs.length := by have := (List.getElem?_eq_some_iff.1 hx).1; simpa using this
  have hi2 : i < (cs.set j (f y)).length := by simp; omega
  rw [List.drop_eq_getElem_cons hi2]
  simp only [List.take_succ_cons, List.take_zero, List.cons.injEq, and_true, List.getElem_set]
  rw [List.getElem?_set] at hx
  split
  · rename_i e; subst e; rw [if_pos rfl] at hx; simp only [hi, if_true] at hx; cases hx; rfl
  · rename_i hne
    rw [if_neg hne] at hx
    have := he i x hx
    rw [List.drop_eq_getElem_cons (show i < cs.length by omega), List.take_succ_cons, List.take_zero] at this
    exact (List.cons.inj this).1
/-- 's[j] = x', plain elements of one cell. -/
theorem Wl.idxStore {f : α → Value} {x i y : Operand} {t e e' : TypeId} {bytes : Nat} {agg : Bool} {z v u : Value} {k : IntKind} {j : Int} {q : α}
    (hown : OwnS (one f) e 1 Pb Pe w v xs) [ht : Und P t (.slice e)] [he : ElT P e 1 bytes agg z] (hx : ev n F x = v) (hi : ev n F i = .int k j) (h0 : 0 ≤ j) (hj : j < xs.length) (hy : ev n F y = u) (hq : u = f q) (hu : u.oneCell' = true) (hd : Nat.blt d1 n = true) (hyd : (match y with | .tmp q => Nat.beq q d1 | _ => false) = false) (hee : e' = e)
    (c : ∀ p w', OwnS (one f) e 1 Pb Pe w' v (xs.set j.toNat q) → Chg (fun b => v.ownBlock = some b) w w' → Wl P n ds Q ops rest (upd F d1 p) w') :
    Wl P n ds Q ops (⟨some d1, .indexAddr t x i, ty1, pos1, aft1, none⟩ :: ⟨none, .store e' (.tmp d1) y, ty2, pos2, aft2, none⟩ :: rest) F w := by
  subst hee
  subst hq
  obtain ⟨cs, hoc, hel⟩ := hown
  have huc : (f q).cells = #[f q] := by cases hf : f q <;> simp_all [Value.cells, Value.oneCell']
  rcases hoc.2 with ⟨rfl, hm⟩ | ⟨g, cap, cur, rfl, hb, hg, h1, h2, h3, h4⟩
  · omega
  · obtain ⟨w', hr, hoc', hc⟩ := run_store1 (P := P) (u := f q) he hoc rfl (j := j.toNat) (by omega) hu huc
    refine Wl.val (w' := w) (v := .pointer (some ⟨g, j.toNat, none⟩)) ?_ (Wl.unit (w' := w') ?_ (c _ w' (OwnS.set1 rfl hoc hel _ _ hoc') hc))
    · have := run_indexAt (P := P) (w := w) (a := ⟨g, 0, none⟩) (l := xs.length) (cap := cap) (k := k) ht.h he h0 hj
      rw [addr_add] at this
      simp only [execOp, hx, hi, Sem.run_bind, this, Result.andThen_ok, Sem.run_pure, Nat.zero_add, Nat.mul_one]
    · have e1 : ev n (upd F d1 (.pointer (some ⟨g, j.toNat, none⟩))) y = f q := by
        cases y with
        | tmp q' =>
          simp only [ev] at hy ⊢
          rw [upd_eq, if_neg (Nat.ne_of_beq_eq_false hyd)]
          exact hy
        | _ => exact hy
      simp only [execOp, e1, Sem.run_bind]
      simp only [ev, hd, upd_eq, if_pos, hr, Result.andThen_ok, Sem.run_pure]
theorem Wl.buildSliceE {t e : TypeId} {sz bytes : Nat} {agg : Bool} {z : Value} [ht : Und P t (.slice e)] [he : ElT P e sz bytes agg z]
    (c : ∀ w', w'.heap[w.heap.size]? = some (.cells #[] e (0, 0)) → New w w' → Wl P n ds Q ops rest (upd F d (.slice (some ⟨w.heap.size, 0, none⟩) 0 0)) w') :
    Wl P n ds Q ops (⟨some d, .buildSlice t 0 #[], ty, pos, aft, none⟩ :: rest) F w := by
  have r : (Instr.buildSlice t 0 #[]).run P w = .ok (.slice (some ⟨w.heap.size, 0, none⟩) 0 0) (w.alloc (.cells #[] e)) := by
    simp [Instr.buildSlice, run_underlying ht.h, he.sizeOf, Instr.fill, newRow, Array.range_zero']
  exact Wl.val (w' := w.alloc (.cells #[] e)) (v := .slice (some ⟨w.heap.size, 0, none⟩) 0 0) (by simp only [execOp, List.map_toArray, List.map_nil, Sem.run_bind, r, Result.andThen_ok, Sem.run_pure]) (c _ (heap_alloc_new w _) (Chg.alloc _ _ _))
/-- 'append([]T{}, l...)', the first a literal of no elements: nothing old turns. -/
theorem Wl.appendZ {x s : Operand} {t e : TypeId} {sz bytes : Nat} {agg : Bool} {z u : Value} {Pr : Nat → Prop} {ys : List α} {g : Nat} (hR : GoodR R sz)
    (hg : w.heap[g]? = some (.cells #[] e (0, 0))) (hr : RdS R sz Pr w u ys) (hp : ∀ y cs, R Pr w y cs → R (fun b => Pe b ∧ g ≠ b) w y cs) [ht : Und P t (.slice e)] [he : ElT P e sz bytes agg z] (hs : ev n F s = .slice (some ⟨g, 0, none⟩) 0 0) (hx : ev n F x = u)
    (hsz : 0 < sz) (h63 : ys.length ≤ maxLen) (hby : ys.length * bytes ≤ 140737488355328)
    (c : ∀ v' w', OwnS R e sz (fun b => b = g ∨ w.heap.size ≤ b) Pe w' v' ys → New w w' → Wl P n ds Q ops rest (upd F d v') w') :
    Wl P n ds Q ops (⟨some d, .call { callee := .builtin .append, args := #[s, x], argTypes := #[t, t] }, ty, pos, aft, none⟩ :: rest) F w := by
  have hown : OwnS R e sz (fun b => b = g) Pe w (.slice (some ⟨g, 0, none⟩) 0 0) ([] : List α) :=
    ⟨[], ⟨by simp, .inr ⟨g, 0, #[], rfl, rfl, hg, Nat.le_refl _, by unfold maxLen; omega, by simp, by simp⟩⟩, fun i x hx => by simp at hx⟩
  have hr0 := hr
  refine Wl.appendAll hR hown hr (fun y cs h => ?_) hs hx hsz (by simpa using h63) (by simpa using hby) fun v' w' o c' l hrun => ?_
  · have := hp y cs h
    simpa [Value.ownBlock] using this
  · rw [List.nil_append] at o
    refine c v' w' o ?_
    rcases hr0 with ⟨rfl, rfl⟩ | ⟨a, cap, rfl, rfl, _⟩ | ⟨b, off, cap, cur, e', fr, rfl, hb, hh, h1, h2, h3, h4⟩
    rotate_left
    · obtain ⟨i, hi, hsz', hby', hz'⟩ := he.inf
      have h := run_append_room (P := P) w t ty e i ht.h hi g 0 0 #[] hg a 0 cap [] (by simp) (fun j u hu => by simp at hu) (by simp) (by omega) (by simp)
      rw [h] at hrun
      cases hrun
      have e1 : (List.take (0 * i.size) (#[] : Array Value).toList ++ [] ++ List.drop (0 * i.size + ([] : List Value).length) (#[] : Array Value).toList).toArray = #[] := by simp
      rw [e1, setRow_self w g #[] e (0, 0) hg]
      exact Chg.refl _ _
    rotate_left
    · obtain ⟨ocs, hoc, _⟩ := hown
      have h := run_append_c0 (P := P) (w := w) t ty e ht.h he hoc
      rw [h] at hrun
      cases hrun
      exact Chg.refl _ _
    · obtain ⟨i, hi, hsz', hby', hz'⟩ := he.inf
      have hnc : ∀ j u, ((cur.toList.drop off).take (ys.length * sz))[j]? = some u → w.cell? ((⟨b, off, none⟩ : Addr).add j) = some u := by
        intro j q hq
        rw [addr_add]
        simp only [World.cell?, hh]
        simp only [List.getElem?_take, List.getElem?_drop] at hq
        split at hq
        · simpa using hq
        · cases hq
      by_cases hy : ys.length = 0
      · have h := run_append_room (P := P) w t ty e i ht.h hi g 0 0 #[] hg ⟨b, off, none⟩ ys.length cap [] (by simp [hy]) (fun j u hu => by simp at hu) (by simp) (by omega) (by simp)
        rw [h] at hrun
        cases hrun
        have e1 : (List.take (0 * i.size) (#[] : Array Value).toList ++ [] ++ List.drop (0 * i.size + ([] : List Value).length) (#[] : Array Value).toList).toArray = #[] := by simp
        rw [e1, setRow_self w g #[] e (0, 0) hg]
        exact Chg.refl _ _
      · have h := run_append_grow (P := P) w t ty e i z ht.h hi hz' ⟨g, 0, none⟩ 0 0 [] (by simp) (fun j u hu => by simp at hu) ⟨b, off, none⟩ ys.length cap ((cur.toList.drop off).take (ys.length * sz)) (by rw [hsz']; simp; omega) hnc (by omega) (by have : maxLen = 9223372036854775807 := rfl; omega) (growslice_fits (by omega) (by rw [hby']; simpa using hby))
        rw [h] at hrun
        cases hrun
        exact ⟨rfl, rfl, rfl, by simp, fun k hk _ => World.heap_old w.drew _ hk⟩
end
end Go.Proofs.YtjpebmgllfiloaaDoor.Wk
