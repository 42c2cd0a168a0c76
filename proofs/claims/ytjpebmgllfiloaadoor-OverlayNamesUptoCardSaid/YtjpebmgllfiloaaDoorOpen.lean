/-
  The generic part of this claim: what a law's arguments, read as data, come to as slices, strings and numbers. It speaks of any program.
-/
import Derived.Test.YtjpebmgllfiloaaDoorDraw
import Derived.ProofKit
namespace Go.Proofs.YtjpebmgllfiloaaDoor.Wk
open Go Go.RowKit

/-- What x is as data. -/
abbrev Dat (α : Type) := (H : Type) → α → DataW H → Prop
/-- Whatever reads as data of type t (spare places and all) is an x by R, x as that data by D; what it reaches are the places read. -/
def Opens {α : Type} (P : Program) (t : TypeId) (R : Rel α) (D : Dat α) : Prop :=
  ∀ (H : Type) (enc : TypeId × Value → H) (w : World) (fuel : Nat) (cs : List Value) (d : DataW H) (ps : List MemPlace), DataW.trod enc P w 0 (fun _ => true) true fuel t cs = some (d, ps) →
    ∃ x : α, (∀ Pb : Nat → Prop, (∀ p ∈ ps, Pb p.block) → R Pb w x cs) ∧ D H x d
def datInt (k : IntKind) : Dat Int := fun _ x d => d = .lit (.int k x) ∧ (Lit.int k x).wf = true
def datStr : Dat (List UInt8) := fun _ x d => d = .lit (.string x) ∧ x.length ≤ maxLen
def datBool : Dat Bool := fun _ x d => d = .lit (.bool x)
def datSl {α : Type} (D : Dat α) : Dat (List α) := fun H xs d => (d = .nil ∧ xs = []) ∨ ∃ es sp : List (DataW H), d = .slice es sp ∧ es.length = xs.length ∧ ∀ (i : Nat) (x : α), xs[i]? = some x → ∃ y, es[i]? = some y ∧ D H x y
def rSl {α : Type} (R : Rel α) (sz : Nat) : Rel (List α) := fun Pb w xs cs => ∃ v, cs = [v] ∧ RdS R sz Pb w v xs

section
variable {P : Program} {t e : TypeId}
theorem opens_int {k : IntKind} (ht : P.underlying t = some (.int k)) : Opens P t (one fun x : Int => .int k x) (datInt k) := by
  intro H enc w fuel cs d ps h
  obtain ⟨n, rfl, hx, hw⟩ := DataW.trod_int ht h
  cases hx
  exact ⟨n, fun _ _ => rfl, rfl, hw⟩
theorem opens_str (ht : P.underlying t = some .string) : Opens P t (one vs) datStr := by
  intro H enc w fuel cs d ps h
  obtain ⟨s, rfl, hx, hw⟩ := DataW.trod_string ht h
  cases hx
  exact ⟨s.data.toList, fun _ _ => rfl, rfl, hw⟩
theorem opens_bool (ht : P.underlying t = some .bool) : Opens P t (one fun x : Bool => .bool x) datBool := by
  intro H enc w fuel cs d ps h
  obtain ⟨b, rfl, hx⟩ := DataW.trod_bool ht h
  cases hx
  exact ⟨b, fun _ _ => rfl, rfl⟩
theorem cells?_get {w : World} {a : Addr} {n : Nat} {cs : List Value} (h : w.cells? 0 a n = some cs) : cs.length = n ∧ ∀ j, j < n → w.cell? (a.add j) = cs[j]? := by
  unfold World.cells? at h
  rw [if_pos (Nat.zero_le _)] at h
  refine ⟨by simpa using mapM_some_length h, fun j hj => ?_⟩
  have := mapM_some_get h j j (by simp [hj])
  exact this
theorem list_of {α : Type} {n : Nat} {Q : Nat → α → Prop} (h : ∀ i, i < n → ∃ x, Q i x) : ∃ xs : List α, xs.length = n ∧ ∀ (i : Nat) (x : α), xs[i]? = some x → Q i x := by
  induction n with
  | zero => exact ⟨[], rfl, fun i x hx => by simp at hx⟩
  | succ n ih =>
    obtain ⟨xs, h1, h2⟩ := ih fun i hi => h i (by omega)
    obtain ⟨x, hx⟩ := h n (by omega)
    refine ⟨xs ++ [x], by simp [h1], fun i y hy => ?_⟩
    rw [List.getElem?_append] at hy
    split at hy
    · exact h2 i y hy
    · rename_i hi
      have : i = n := by
        have := (List.getElem?_eq_some_iff.1 hy).1
        simp at this; omega
      subst this
      simp [h1] at hy
      rw [← hy]; exact hx
theorem opens_slice {α : Type} {R : Rel α} {D : Dat α} {sz : Nat} (ht : P.underlying t = some (.slice e)) (hc : P.cellsOf e = sz) (hsz : 0 < sz) (he : Opens P e R D) : Opens P t (rSl R sz) (datSl D) := by
  intro H enc w fuel cs d ps h
  rcases DataW.trod_slice ht h with ⟨rfl, hx⟩ | ⟨a, len, cap, elems, rest, m, rfl, rfl, hx, _, hl, hm, hlen, hel, hsp, _⟩
  · cases hx
    exact ⟨[], fun _ _ => ⟨_, rfl, RdS.nil⟩, .inl ⟨rfl, rfl⟩⟩
  · cases hx
    rw [hc] at *
    have each : ∀ i, i < len → ∃ cs' y, w.cells? 0 (a.add (i * sz)) sz = some cs' ∧ DataW.trod enc P w 0 (fun _ => true) true m e cs' = some y ∧ elems[i]? = some y := by
      intro i hi
      have h1 := hel i hi
      have h2 : i < elems.length := by omega
      rw [List.getElem?_eq_getElem h2] at h1
      obtain ⟨cs', h3, h4⟩ := Option.bind_eq_some_iff.1 h1
      exact ⟨cs', _, h3, h4, List.getElem?_eq_getElem h2⟩
    have key : ∀ i, i < len → ∃ x : α, ∃ y cs', w.cells? 0 (a.add (i * sz)) sz = some cs' ∧ elems[i]? = some y ∧ (∀ Pb : Nat → Prop, (∀ p ∈ y.2, Pb p.block) → R Pb w x cs') ∧ D H x y.1 := by
      intro i hi
      obtain ⟨cs', y, h1, h2, h3⟩ := each i hi
      obtain ⟨x, h4, h5⟩ := he H enc w m cs' y.1 y.2 h2
      exact ⟨x, y, cs', h1, h3, h4, h5⟩
    obtain ⟨xs, hxl, hxs⟩ := list_of key
    refine ⟨xs, fun Pb hP => ⟨_, rfl, ?_⟩, .inr ⟨_, _, rfl, by simp [hlen, hxl], fun i x hx => ?_⟩⟩
    · by_cases h0 : len = 0
      · subst h0
        have : xs = [] := List.eq_nil_of_length_eq_zero hxl
        subst this
        exact .inr (.inl ⟨a, cap, rfl, rfl, hm⟩)
      · -- the block, by its first cell
        have hx0 : xs[0]? = some xs[0] := List.getElem?_eq_getElem (by omega)
        obtain ⟨y0, cs0, hc0, _, _, _⟩ := hxs 0 _ hx0
        have g0 := (cells?_get hc0).2 0 hsz
        have hl0 := (cells?_get hc0).1
        have hsome : w.cell? a = some (cs0[0]'(by omega)) := by
          have e1 : (a.add (0 * sz)).add 0 = a := by simp [Addr.add]
          rw [e1] at g0
          rw [g0, List.getElem?_eq_getElem]
        obtain ⟨b, off, spot⟩ := a
        have hspot : spot = none := World.cell?_spot hsome
        subst hspot
        obtain ⟨cur, ee, fr, hh⟩ : ∃ cur ee fr, w.heap[b]? = some (.cells cur ee fr) := by
          simp only [World.cell?] at hsome
          split at hsome
          · rename_i c e f hh; exact ⟨c, e, f, hh⟩
          · cases hsome
        have hcell : ∀ o, w.cell? ⟨b, o, none⟩ = cur[o]? := fun o => by simp [World.cell?, hh]
        have hcs : ∀ i x, xs[i]? = some x → ∃ y cs', cs'.length = sz ∧ (∀ j, j < sz → cur[off + i * sz + j]? = cs'[j]?) ∧ elems[i]? = some y ∧ (∀ Pb : Nat → Prop, (∀ p ∈ y.2, Pb p.block) → R Pb w x cs') := by
          intro i x hx
          obtain ⟨y, cs', h1, h2, h3, _⟩ := hxs i x hx
          obtain ⟨h5, h6⟩ := cells?_get h1
          refine ⟨y, cs', h5, fun j hj => ?_, h2, h3⟩
          rw [← h6 j hj, addr_add, addr_add, hcell]
        have hbig : off + len * sz ≤ cur.size := by
          obtain ⟨q, hq⟩ : ∃ q, len = q + 1 := ⟨len - 1, by omega⟩
          have hxq : xs[q]? = some (xs[q]'(by omega)) := List.getElem?_eq_getElem (by omega)
          obtain ⟨_, cs', h1, h2, _, _⟩ := hcs q _ hxq
          have h3 := h2 (sz - 1) (by omega)
          rw [List.getElem?_eq_getElem (by omega)] at h3
          have h4 := (Array.getElem?_eq_some_iff.1 h3).1
          rw [hq, Nat.add_mul]
          omega
        refine .inr (.inr ⟨b, off, cap, cur, ee, fr, by rw [hxl], ?_, hh, by omega, hm, by rw [hxl]; exact hbig, fun i x hx => ?_⟩)
        · refine hP (.cell b off) ?_
          refine List.mem_append_left _ ?_
          simp only [MemPlace.row, List.mem_map, List.mem_range]
          refine ⟨0, Nat.mul_pos (by omega) hsz, by simp⟩
        · obtain ⟨y, cs', h1, h2, h3, h4⟩ := hcs i x hx
          have hi : i < len := by have := (List.getElem?_eq_some_iff.1 hx).1; omega
          have e1 : (cur.toList.drop (off + i * sz)).take sz = cs' := by
            apply List.ext_getElem?
            intro j
            rw [List.getElem?_take]
            split
            · rename_i hj
              rw [List.getElem?_drop, ← h2 j hj]
              simp
            · rename_i hj
              rw [List.getElem?_eq_none (by omega)]
          rw [e1]
          refine h4 Pb fun p hp => hP p ?_
          refine List.mem_append_right _ ?_
          rw [List.flatMap_append]
          exact List.mem_append_left _ (List.mem_flatMap.2 ⟨y, List.mem_of_getElem? h3, hp⟩)
    · obtain ⟨y, cs', _, h2, _, h4⟩ := hxs i x hx
      exact ⟨y.1, by simp [h2], h4⟩
end
end Go.Proofs.YtjpebmgllfiloaaDoor.Wk
