/-
  What the second form's bound gives: lengths.
-/
import Derived.Test.YtjpebmgllfiloaaDoorRows
import Derived.Test.YtjpebmgllfiloaaDoorOpen
namespace Go.Proofs.YtjpebmgllfiloaaDoor
open Go Wk

theorem bulk_one {H : Type} (d : DataW H) : 1 ≤ Rows.uptoBulk d := by
  cases d with
  | lit l => cases l <;> simp [Rows.uptoBulk]
  | _ => simp [Rows.uptoBulk]
theorem bulk_len {H : Type} (l : List (DataW H)) : l.length ≤ Rows.uptoBulkAll l := by
  induction l with
  | nil => simp [Rows.uptoBulkAll]
  | cons x r ih => have := bulk_one x; simp only [Rows.uptoBulkAll, List.length_cons]; omega
theorem bulk_sl {α : Type} {D : Dat α} {H : Type} {xs : List α} {d : DataW H} (h : datSl D H xs d) : xs.length ≤ Rows.uptoBulk d := by
  rcases h with ⟨rfl, rfl⟩ | ⟨es, sp, rfl, hl, _⟩
  · simp
  · have := bulk_len es
    simp only [Rows.uptoBulk]
    omega
/-- A measure of the elements, added up. -/
theorem bulk_sum {α : Type} {D : Dat α} {H : Type} (μ : α → Nat) (hμ : ∀ x d, D H x d → μ x ≤ Rows.uptoBulk d) : ∀ (xs : List α) (es : List (DataW H)), es.length = xs.length → (∀ (i : Nat) (x : α), xs[i]? = some x → ∃ y, es[i]? = some y ∧ D H x y) → (xs.map μ).sum ≤ Rows.uptoBulkAll es
  | [], es, _, _ => by simp
  | x :: xs, [], h, _ => by simp at h
  | x :: xs, e :: es, h, hd => by
    obtain ⟨y, hy, hD⟩ := hd 0 x rfl
    simp at hy
    subst hy
    have ih := bulk_sum μ hμ xs es (by simpa using h) (fun i x hx => by
      obtain ⟨y, hy, hD⟩ := hd (i + 1) x (by simpa using hx)
      exact ⟨y, by simpa using hy, hD⟩)
    have := hμ x e hD
    simp only [List.map_cons, List.sum_cons, Rows.uptoBulkAll]
    omega
theorem bulk_slsum {α : Type} {D : Dat α} {H : Type} {xs : List α} {d : DataW H} (μ : α → Nat) (hμ : ∀ x d, D H x d → μ x ≤ Rows.uptoBulk d) (h : datSl D H xs d) : (xs.map μ).sum ≤ Rows.uptoBulk d := by
  rcases h with ⟨rfl, rfl⟩ | ⟨es, sp, rfl, hl, hd⟩
  · simp
  · have := bulk_sum μ hμ xs es hl hd
    simp only [Rows.uptoBulk]
    omega
theorem bulk_str {H : Type} (l : List UInt8) (d : DataW H) (h : datStr H l d) : l.length + 1 ≤ Rows.uptoBulk d := by
  obtain ⟨rfl, _⟩ := h
  simp [Rows.uptoBulk]
theorem dat_mem {α : Type} {D : Dat α} {H : Type} {xs : List α} {d : DataW H} (h : datSl D H xs d) {x : α} (hx : x ∈ xs) : ∃ y, D H x y := by
  obtain ⟨i, hi⟩ := List.mem_iff_getElem?.1 hx
  rcases h with ⟨rfl, rfl⟩ | ⟨es, sp, rfl, hl, hd⟩
  · simp at hi
  · obtain ⟨y, _, hD⟩ := hd i x hi
    exact ⟨y, hD⟩
end Go.Proofs.YtjpebmgllfiloaaDoor
