/-
  What a law's nodes and pieces, read as data, come to.
-/
import Derived.Test.YtjpebmgllfiloaaDoorCk
import Derived.Test.YtjpebmgllfiloaaDoorBulk
import Derived.ChangeSame
namespace Go.Proofs.YtjpebmgllfiloaaDoor
open Go Wk Go.ChangeShapes

theorem cInt : Tryd.prog.cellsOf 3 = 1 := by kernel_rfl
theorem cStr : Tryd.prog.cellsOf 9 = 1 := by kernel_rfl
theorem cPrs : Tryd.prog.cellsOf 35 = 1 := by kernel_rfl
theorem cNds : Tryd.prog.cellsOf 22 = 1 := by kernel_rfl
theorem cStrs : Tryd.prog.cellsOf 23 = 1 := by kernel_rfl
theorem cPr : Tryd.prog.cellsOf 39 = 2 := by kernel_rfl
theorem cNd : Tryd.prog.cellsOf 37 = 3 := by kernel_rfl
theorem cPc : Tryd.prog.cellsOf 25 = 3 := by kernel_rfl

theorem len2 {α : Type} {l : List α} (h : l.length = 2) : ∃ a b, l = [a, b] := by
  match l, h with
  | [a, b], _ => exact ⟨a, b, rfl⟩
theorem len3 {α : Type} {l : List α} (h : l.length = 3) : ∃ a b c, l = [a, b, c] := by
  match l, h with
  | [a, b, c], _ => exact ⟨a, b, c, rfl⟩
def datPr : Dat Pr := fun H x d => ∃ d0 d1, d = .agg [d0, d1] ∧ datStr H x.1 d0 ∧ datStr H x.2 d1
def datNd : Dat Nd := fun H x d => ∃ d0 d1 d2, d = .agg [d0, d1, d2] ∧ datInt .i64 H x.parent d0 ∧ datStr H x.name d1 ∧ datSl datPr H x.props d2
def datPc : Dat Pc := fun H x d => ∃ d0 d1 d2, d = .agg [d0, d1, d2] ∧ datStr H x.target d0 ∧ datSl datNd H x.nodes d1 ∧ datSl datStr H x.drop d2
def rPc : Rel Pc := fun Pb w p cs => RdPc Pb w cs p
theorem opens_pr : Opens Tryd.prog 39 rPr datPr := by
  intro H enc w fuel cs d ps h
  obtain ⟨xs, n, rfl, hx, hl, hlen, hf⟩ := DataW.trod_struct Tryd.underlying39 h
  rw [cPr] at hl
  obtain ⟨c0, c1, rfl⟩ := len2 hl
  obtain ⟨y0, y1, rfl⟩ := len2 (show xs.length = 2 from hlen)
  have e0 : DataW.trod enc Tryd.prog w 0 (fun _ => true) true n 9 (([c0, c1].drop 0).take (Tryd.prog.cellsOf 9)) = some y0 := hf 0 _ rfl
  rw [cStr] at e0
  have e1 : DataW.trod enc Tryd.prog w 0 (fun _ => true) true n 9 (([c0, c1].drop 1).take (Tryd.prog.cellsOf 9)) = some y1 := hf 1 _ rfl
  rw [cStr] at e1
  cases hx
  obtain ⟨s0, r0, q0⟩ := opens_str Tryd.underlying9 H enc w n _ _ _ e0
  obtain ⟨s1, r1, q1⟩ := opens_str Tryd.underlying9 H enc w n _ _ _ e1
  have r0' : [c0] = [vs s0] := r0 (fun _ => True) (fun _ _ => trivial)
  have r1' : [c1] = [vs s1] := r1 (fun _ => True) (fun _ _ => trivial)
  cases r0'
  cases r1'
  exact ⟨(s0, s1), fun _ _ => rfl, _, _, rfl, q0, q1⟩
theorem opens_prs : Opens Tryd.prog 35 (rSl rPr 2) (datSl datPr) := opens_slice Tryd.underlying35 cPr (by decide) opens_pr
theorem opens_nd : Opens Tryd.prog 37 rNd datNd := by
  intro H enc w fuel cs d ps h
  obtain ⟨xs, n, rfl, hx, hl, hlen, hf⟩ := DataW.trod_struct Tryd.underlying37 h
  rw [cNd] at hl
  obtain ⟨c0, c1, c2, rfl⟩ := len3 hl
  obtain ⟨y0, y1, y2, rfl⟩ := len3 (show xs.length = 3 from hlen)
  have e0 : DataW.trod enc Tryd.prog w 0 (fun _ => true) true n 3 (([c0, c1, c2].drop 0).take (Tryd.prog.cellsOf 3)) = some y0 := hf 0 _ rfl
  rw [cInt] at e0
  have e1 : DataW.trod enc Tryd.prog w 0 (fun _ => true) true n 9 (([c0, c1, c2].drop 1).take (Tryd.prog.cellsOf 9)) = some y1 := hf 1 _ rfl
  rw [cStr] at e1
  have e2 : DataW.trod enc Tryd.prog w 0 (fun _ => true) true n 35 (([c0, c1, c2].drop 2).take (Tryd.prog.cellsOf 35)) = some y2 := hf 2 _ rfl
  rw [cPrs] at e2
  cases hx
  obtain ⟨s0, r0, q0⟩ := opens_int Tryd.underlying3 H enc w n _ _ _ e0
  obtain ⟨s1, r1, q1⟩ := opens_str Tryd.underlying9 H enc w n _ _ _ e1
  obtain ⟨s2, r2, q2⟩ := opens_prs H enc w n _ _ _ e2
  have r0' : [c0] = [vi s0] := r0 (fun _ => True) (fun _ _ => trivial)
  have r1' : [c1] = [vs s1] := r1 (fun _ => True) (fun _ _ => trivial)
  cases r0'
  cases r1'
  refine ⟨⟨s0, s1, s2⟩, fun Pb hP => ?_, _, _, _, rfl, q0, q1, q2⟩
  obtain ⟨v, hv, hr⟩ := r2 Pb fun p hp => hP p (by simp; exact .inr (.inr hp))
  have hv' : [c2] = [v] := hv
  cases hv'
  exact ⟨c2, rfl, hr⟩
theorem opens_nds : Opens Tryd.prog 22 (rSl rNd 3) (datSl datNd) := opens_slice Tryd.underlying22 cNd (by decide) opens_nd
theorem opens_strs : Opens Tryd.prog 23 (rSl (one vs) 1) (datSl datStr) := opens_slice Tryd.underlying23 cStr (by decide) (opens_str Tryd.underlying9)
theorem opens_pc : Opens Tryd.prog 25 rPc datPc := by
  intro H enc w fuel cs d ps h
  obtain ⟨xs, n, rfl, hx, hl, hlen, hf⟩ := DataW.trod_struct Tryd.underlying25 h
  rw [cPc] at hl
  obtain ⟨c0, c1, c2, rfl⟩ := len3 hl
  obtain ⟨y0, y1, y2, rfl⟩ := len3 (show xs.length = 3 from hlen)
  have e0 : DataW.trod enc Tryd.prog w 0 (fun _ => true) true n 9 (([c0, c1, c2].drop 0).take (Tryd.prog.cellsOf 9)) = some y0 := hf 0 _ rfl
  rw [cStr] at e0
  have e1 : DataW.trod enc Tryd.prog w 0 (fun _ => true) true n 22 (([c0, c1, c2].drop 1).take (Tryd.prog.cellsOf 22)) = some y1 := hf 1 _ rfl
  rw [cNds] at e1
  have e2 : DataW.trod enc Tryd.prog w 0 (fun _ => true) true n 23 (([c0, c1, c2].drop 2).take (Tryd.prog.cellsOf 23)) = some y2 := hf 2 _ rfl
  rw [cStrs] at e2
  cases hx
  obtain ⟨s0, r0, q0⟩ := opens_str Tryd.underlying9 H enc w n _ _ _ e0
  obtain ⟨s1, r1, q1⟩ := opens_nds H enc w n _ _ _ e1
  obtain ⟨s2, r2, q2⟩ := opens_strs H enc w n _ _ _ e2
  have r0' : [c0] = [vs s0] := r0 (fun _ => True) (fun _ _ => trivial)
  cases r0'
  refine ⟨⟨s0, s1, s2⟩, fun Pb hP => ?_, _, _, _, rfl, q0, q1, q2⟩
  obtain ⟨v1, hv1, hr1⟩ := r1 Pb fun p hp => hP p (by simp; exact .inr (.inl hp))
  obtain ⟨v2, hv2, hr2⟩ := r2 Pb fun p hp => hP p (by simp; exact .inr (.inr hp))
  have hv1' : [c1] = [v1] := hv1
  have hv2' : [c2] = [v2] := hv2
  cases hv1'
  cases hv2'
  exact ⟨c1, c2, rfl, hr1, hr2⟩
theorem opens_pcs : Opens Tryd.prog 48 (rSl rPc 3) (datSl datPc) := opens_slice Tryd.underlying48 cPc (by decide) opens_pc
theorem bulk_pc {H : Type} (x : Pc) (d : DataW H) (h : datPc H x d) : x.target.length ≤ Rows.uptoBulk d ∧ x.nodes.length ≤ Rows.uptoBulk d ∧ x.drop.length ≤ Rows.uptoBulk d := by
  obtain ⟨d0, d1, d2, rfl, h0, h1, h2⟩ := h
  have b0 := bulk_str x.target d0 h0
  have b1 := bulk_sl h1
  have b2 := bulk_sl h2
  simp only [Rows.uptoBulk, Rows.uptoBulkAll]
  omega
theorem sum_ge {l : List Nat} {x : Nat} (h : x ∈ l) : x ≤ l.sum := by
  induction l with
  | nil => simp at h
  | cons y r ih =>
    simp only [List.sum_cons]
    rcases List.mem_cons.1 h with rfl | h
    · omega
    · have := ih h; omega
theorem bulk_pcs {H : Type} {xs : List Pc} {d : DataW H} (h : datSl datPc H xs d) : ∀ p ∈ xs, p.target.length ≤ Rows.uptoBulk d := fun p hp => by
  have h1 := bulk_slsum (fun x : Pc => x.target.length) (fun x d h => (bulk_pc x d h).1) h
  have h2 := sum_ge (List.mem_map.2 ⟨p, hp, rfl⟩ : (fun x : Pc => x.target.length) p ∈ xs.map fun x : Pc => x.target.length)
  exact Nat.le_trans h2 h1
end Go.Proofs.YtjpebmgllfiloaaDoor
