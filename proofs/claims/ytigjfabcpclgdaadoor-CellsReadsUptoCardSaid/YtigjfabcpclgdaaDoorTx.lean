/-
  Walks of the functions that read a value's texts, the program's and the reference's.
-/
import Derived.Test.YtigjfabcpclgdaaDoorRe
import Derived.Lib.IndexLaws
import Derived.Lib.SplitLaws
import Derived.Shelf.Strings.SplitCore
namespace Go.Proofs.YtigjfabcpclgdaaDoor
open Go Wk
open Go.RowKit (Below)
attribute [local irreducible] Go.Calls

theorem goodStr : GoodR (one vs) 1 := good_one _ fun _ => rfl
/-- The pieces that zeros end, and what stands behind the last zero. -/
def stp (s : List (List UInt8) × List UInt8) (c : UInt8) : List (List UInt8) × List UInt8 := if c = 0 then (s.1 ++ [s.2], []) else (s.1, s.2 ++ [c])
def cutS (l : List UInt8) : List (List UInt8) × List UInt8 := l.foldl stp ([], [])
theorem cutS_snoc (l : List UInt8) (c : UInt8) : cutS (l ++ [c]) = stp (cutS l) c := by simp [cutS]
theorem cutS_take {l : List UInt8} {k : Nat} {c : UInt8} (h : l[k]? = some c) : cutS (l.take (k + 1)) = stp (cutS (l.take k)) c := by
  rw [List.take_add_one, h]; exact cutS_snoc _ _
theorem foldS (l : List UInt8) : ∀ (xs : List (List UInt8)) (q : List UInt8), l.foldl stp (xs, q) = (xs ++ (l.foldl stp ([], q)).1, (l.foldl stp ([], q)).2) := by
  induction l with
  | nil => intro xs q; simp
  | cons c l ih =>
    intro xs q
    by_cases e : c = 0
    · simp only [List.foldl_cons, stp, if_pos e]
      rw [ih (xs ++ [q]) [], ih ([] ++ [q]) []]
      simp
    · simp only [List.foldl_cons, stp, if_neg e]
      exact ih xs (q ++ [c])
theorem fold_free (l : List UInt8) : ∀ (q : List UInt8), (∀ c ∈ l, c ≠ 0) → l.foldl stp ([], q) = ([], q ++ l) := by
  induction l with
  | nil => intro q _; simp
  | cons c l ih =>
    intro q h
    simp only [List.foldl_cons, stp, if_neg (h c (by simp))]
    rw [ih _ fun d hd => h d (by simp [hd])]
    simp
theorem cutS_free {l : List UInt8} (h : ∀ c ∈ l, c ≠ 0) : cutS l = ([], l) := by
  unfold cutS; rw [fold_free l [] h]; simp
theorem cutS_zero {p : List UInt8} (h : ∀ c ∈ p, c ≠ 0) (r : List UInt8) : cutS (p ++ 0 :: r) = (p :: (cutS r).1, (cutS r).2) := by
  unfold cutS
  rw [List.foldl_append, fold_free p [] h, List.foldl_cons]
  simp only [stp, if_pos, List.nil_append]
  rw [foldS r [p] []]
  simp

/-- What Texts hands back. -/
def tform (l : List UInt8) : Int := if l = [] ∨ l.getLast? = some 0 then 0 else 4
def txts (l : List UInt8) : List (List UInt8) := if l = [] ∨ l.getLast? = some 0 then (cutS l).1 else []
theorem t_bad {l : List UInt8} (h : ¬ (l = [] ∨ l.getLast? = some 0)) : tform l = 4 ∧ txts l = [] := ⟨if_neg h, if_neg h⟩
theorem t_ok {l : List UInt8} (h : l = [] ∨ l.getLast? = some 0) : tform l = 0 ∧ txts l = (cutS l).1 := ⟨if_pos h, if_pos h⟩
theorem cutS_len (l : List UInt8) : (cutS l).1.length + (cutS l).2.length ≤ l.length := by
  have : ∀ k, k ≤ l.length → (cutS (l.take k)).1.length + (cutS (l.take k)).2.length ≤ k := by
    intro k
    induction k with
    | zero => intro _; simp [cutS]
    | succ k ih =>
      intro hk
      obtain ⟨c, hc⟩ := getC l (k := k) (by omega)
      have := ih (by omega)
      rw [cutS_take hc]
      unfold stp
      split
      · simp; omega
      · simp; omega
  have h := this l.length (Nat.le_refl _)
  rwa [List.take_length] at h

theorem refTexts_spec {w : World} {l : List UInt8} (hl : l.length ≤ 2000000) :
    Calls Tryd.prog 8 #[vs l] w (Ret fun r w' => ∃ v, r = .tuple #[v, vi (tform l)] ∧ OwnS (one vs) 9 1 (fun b => w.heap.size ≤ b) (fun _ => False) w' v (txts l) ∧ New w w') := by
  refine calls_of_Wc (n := 37) Tryd.func8 rfl rfl rfl ?_
  (repeat' (first | refine Wl.moveE (by conv => { lhs; whnf }) ?_ | refine Wl.assignE (by conv => { lhs; whnf }) ?_ | refine Wl.nil ?_ | refine Wl.extract rfl rfl ?_ | refine Wl.guardY rfl rfl ?_ | refine Wl.guardN rfl rfl ?_ | refine Wl.pickTE rfl (by conv => { lhs; whnf }) ?_ | refine Wl.pickFE rfl (by conv => { lhs; whnf }) ?_ | refine Wl.notB rfl ?_ | refine Wl.lenS rfl ?_ | refine Wl.lenStr rfl ?_ | refine Qseq.normal ?_ | refine Wc.seq ?_ | refine Wc.region ?_ | refine Wc.block ?_ | refine Wc.skip ?_ | refine Wc.exit ?_ | refine Wc.ret ?_ | refine Qseq.exit ?_ | refine Qseq.ret ?_ | refine Qblk.normal ?_ | refine Qblk.ret ?_ | refine Qblk.hit ?_ | refine Qblk.miss rfl ?_ | refine Qloop.exit ?_ | refine Qloop.ret ?_ | refine Wc.condT rfl ?_ | refine Wc.condF rfl ?_ | refine Wl.nilP rfl ?_ | refine Wl.fieldAddr rfl rfl ?_ | refine Wl.nilF rfl ?_ | refine Wl.add rfl rfl (by omega) (by omega) ?_ | refine Wl.sub rfl rfl (by omega) (by omega) ?_ | refine Wl.mul rfl rfl (by omega) (by omega) ?_ | refine Wl.convI rfl ?_ | (refine Wl.lss rfl rfl (fun _ => ?_) (fun _ => ?_) <;> (first | (exfalso; omega) | (exfalso; contradiction) | skip)) | (refine Wl.leq rfl rfl (fun _ => ?_) (fun _ => ?_) <;> (first | (exfalso; omega) | (exfalso; contradiction) | skip)) | (refine Wl.gtr rfl rfl (fun _ => ?_) (fun _ => ?_) <;> (first | (exfalso; omega) | (exfalso; contradiction) | skip)) | (refine Wl.geq rfl rfl (fun _ => ?_) (fun _ => ?_) <;> (first | (exfalso; omega) | (exfalso; contradiction) | skip)) | (refine Wl.eql rfl rfl (fun _ => ?_) (fun _ => ?_) <;> (first | (exfalso; omega) | (exfalso; contradiction) | skip)) | (refine Wl.neq rfl rfl (fun _ => ?_) (fun _ => ?_) <;> (first | (exfalso; omega) | (exfalso; contradiction) | skip)) | (refine Wl.seql rfl rfl (fun _ => ?_) (fun _ => ?_) <;> (first | (exfalso; omega) | (exfalso; contradiction) | skip)) | (refine Wl.sneq rfl rfl (fun _ => ?_) (fun _ => ?_) <;> (first | (exfalso; omega) | (exfalso; contradiction) | skip))))
  · have hne : l ≠ [] := by assumption
    have hpos : 0 < l.length := List.length_pos_iff.2 hne
    obtain ⟨c, hc⟩ := getC l (k := l.length - 1) (by omega)
    have hlast : l.getLast? = some c := by rw [List.getLast?_eq_getElem?]; exact hc
    refine Wl.idxStr (b := c) rfl rfl (by omega) (by have : ((l.length : Int) - 1).toNat = l.length - 1 := by omega
                                                     rw [this]; exact hc) ?_
    (repeat' (first | refine Wl.moveE (by conv => { lhs; whnf }) ?_ | refine Wl.assignE (by conv => { lhs; whnf }) ?_ | refine Wl.nil ?_ | refine Wl.extract rfl rfl ?_ | refine Wl.guardY rfl rfl ?_ | refine Wl.guardN rfl rfl ?_ | refine Wl.pickTE rfl (by conv => { lhs; whnf }) ?_ | refine Wl.pickFE rfl (by conv => { lhs; whnf }) ?_ | refine Wl.notB rfl ?_ | refine Wl.lenS rfl ?_ | refine Wl.lenStr rfl ?_ | refine Qseq.normal ?_ | refine Wc.seq ?_ | refine Wc.region ?_ | refine Wc.block ?_ | refine Wc.skip ?_ | refine Wc.exit ?_ | refine Wc.ret ?_ | refine Qseq.exit ?_ | refine Qseq.ret ?_ | refine Qblk.normal ?_ | refine Qblk.ret ?_ | refine Qblk.hit ?_ | refine Qblk.miss rfl ?_ | refine Qloop.exit ?_ | refine Qloop.ret ?_ | refine Wc.condT rfl ?_ | refine Wc.condF rfl ?_ | refine Wl.nilP rfl ?_ | refine Wl.fieldAddr rfl rfl ?_ | refine Wl.nilF rfl ?_ | refine Wl.add rfl rfl (by omega) (by omega) ?_ | refine Wl.sub rfl rfl (by omega) (by omega) ?_ | refine Wl.mul rfl rfl (by omega) (by omega) ?_ | refine Wl.convI rfl ?_ | (refine Wl.lss rfl rfl (fun _ => ?_) (fun _ => ?_) <;> (first | (exfalso; omega) | (exfalso; contradiction) | skip)) | (refine Wl.leq rfl rfl (fun _ => ?_) (fun _ => ?_) <;> (first | (exfalso; omega) | (exfalso; contradiction) | skip)) | (refine Wl.gtr rfl rfl (fun _ => ?_) (fun _ => ?_) <;> (first | (exfalso; omega) | (exfalso; contradiction) | skip)) | (refine Wl.geq rfl rfl (fun _ => ?_) (fun _ => ?_) <;> (first | (exfalso; omega) | (exfalso; contradiction) | skip)) | (refine Wl.eql rfl rfl (fun _ => ?_) (fun _ => ?_) <;> (first | (exfalso; omega) | (exfalso; contradiction) | skip)) | (refine Wl.neq rfl rfl (fun _ => ?_) (fun _ => ?_) <;> (first | (exfalso; omega) | (exfalso; contradiction) | skip)) | (refine Wl.seql rfl rfl (fun _ => ?_) (fun _ => ?_) <;> (first | (exfalso; omega) | (exfalso; contradiction) | skip)) | (refine Wl.sneq rfl rfl (fun _ => ?_) (fun _ => ?_) <;> (first | (exfalso; omega) | (exfalso; contradiction) | skip))))
    · have hc0 : c ≠ 0 := by intro e; subst e; simp at *
      obtain ⟨f1, f2⟩ := t_bad (l := l) (fun h => h.elim hne fun h => hc0 (Option.some.inj (hlast.symm.trans h)))
      rw [f1, f2]
      exact Qfn.ret2 rfl rfl rfl ⟨_, rfl, _, rfl, OwnS.nil, Chg.refl _ _⟩
    · have hc0 : c = 0 := by
        apply UInt8.toNat_inj.1
        simp only [UInt8.toNat_zero]
        omega
      subst hc0
      obtain ⟨f1, f2⟩ := t_ok (l := l) (.inr hlast)
      rw [f1, f2]
      refine Wc.loop (σ := Nat × Nat × Value) (fun s => [(0, vs l), (4, s.2.2), (5, vi s.2.1), (6, vi s.1)]) (fun s w' => s.1 ≤ l.length ∧ s.2.1 ≤ s.1 ∧ (l.take s.1).drop s.2.1 = (cutS (l.take s.1)).2 ∧ OwnS (one vs) 9 1 (fun b => w.heap.size ≤ b) (fun _ => False) w' s.2.2 (cutS (l.take s.1)).1 ∧ New w w') (fun s => l.length - s.1) (0, 0, .slice none 0 0)
        ⟨rfl, rfl, rfl, rfl, trivial⟩ ⟨Nat.zero_le _, Nat.le_refl _, rfl, OwnS.nil, Chg.refl _ _⟩ ?_
      rintro ⟨i, from', v⟩ G w1 ⟨hi, hf, hq, ho, hn⟩
      simp only at hi hf hq ho
      simp only [upds]
      (repeat' (first | refine Wl.moveE (by conv => { lhs; whnf }) ?_ | refine Wl.assignE (by conv => { lhs; whnf }) ?_ | refine Wl.nil ?_ | refine Wl.extract rfl rfl ?_ | refine Wl.guardY rfl rfl ?_ | refine Wl.guardN rfl rfl ?_ | refine Wl.pickTE rfl (by conv => { lhs; whnf }) ?_ | refine Wl.pickFE rfl (by conv => { lhs; whnf }) ?_ | refine Wl.notB rfl ?_ | refine Wl.lenS rfl ?_ | refine Wl.lenStr rfl ?_ | refine Qseq.normal ?_ | refine Wc.seq ?_ | refine Wc.region ?_ | refine Wc.block ?_ | refine Wc.skip ?_ | refine Wc.exit ?_ | refine Wc.ret ?_ | refine Qseq.exit ?_ | refine Qseq.ret ?_ | refine Qblk.normal ?_ | refine Qblk.ret ?_ | refine Qblk.hit ?_ | refine Qblk.miss rfl ?_ | refine Qloop.exit ?_ | refine Qloop.ret ?_ | refine Wc.condT rfl ?_ | refine Wc.condF rfl ?_ | refine Wl.nilP rfl ?_ | refine Wl.fieldAddr rfl rfl ?_ | refine Wl.nilF rfl ?_ | refine Wl.add rfl rfl (by omega) (by omega) ?_ | refine Wl.sub rfl rfl (by omega) (by omega) ?_ | refine Wl.mul rfl rfl (by omega) (by omega) ?_ | refine Wl.convI rfl ?_ | (refine Wl.lss rfl rfl (fun _ => ?_) (fun _ => ?_) <;> (first | (exfalso; omega) | (exfalso; contradiction) | skip)) | (refine Wl.leq rfl rfl (fun _ => ?_) (fun _ => ?_) <;> (first | (exfalso; omega) | (exfalso; contradiction) | skip)) | (refine Wl.gtr rfl rfl (fun _ => ?_) (fun _ => ?_) <;> (first | (exfalso; omega) | (exfalso; contradiction) | skip)) | (refine Wl.geq rfl rfl (fun _ => ?_) (fun _ => ?_) <;> (first | (exfalso; omega) | (exfalso; contradiction) | skip)) | (refine Wl.eql rfl rfl (fun _ => ?_) (fun _ => ?_) <;> (first | (exfalso; omega) | (exfalso; contradiction) | skip)) | (refine Wl.neq rfl rfl (fun _ => ?_) (fun _ => ?_) <;> (first | (exfalso; omega) | (exfalso; contradiction) | skip)) | (refine Wl.seql rfl rfl (fun _ => ?_) (fun _ => ?_) <;> (first | (exfalso; omega) | (exfalso; contradiction) | skip)) | (refine Wl.sneq rfl rfl (fun _ => ?_) (fun _ => ?_) <;> (first | (exfalso; omega) | (exfalso; contradiction) | skip))))
      · obtain ⟨c, hc⟩ := getC l (k := i) (by omega)
        have hct := cutS_take hc
        have hlen := cutS_len (l.take i)
        have hlt : (l.take i).length ≤ 2000000 := by simp only [List.length_take]; omega
        refine Wl.idxStr (b := c) rfl rfl (by omega) hc ?_
        (repeat' (first | refine Wl.moveE (by conv => { lhs; whnf }) ?_ | refine Wl.assignE (by conv => { lhs; whnf }) ?_ | refine Wl.nil ?_ | refine Wl.extract rfl rfl ?_ | refine Wl.guardY rfl rfl ?_ | refine Wl.guardN rfl rfl ?_ | refine Wl.pickTE rfl (by conv => { lhs; whnf }) ?_ | refine Wl.pickFE rfl (by conv => { lhs; whnf }) ?_ | refine Wl.notB rfl ?_ | refine Wl.lenS rfl ?_ | refine Wl.lenStr rfl ?_ | refine Qseq.normal ?_ | refine Wc.seq ?_ | refine Wc.region ?_ | refine Wc.block ?_ | refine Wc.skip ?_ | refine Wc.exit ?_ | refine Wc.ret ?_ | refine Qseq.exit ?_ | refine Qseq.ret ?_ | refine Qblk.normal ?_ | refine Qblk.ret ?_ | refine Qblk.hit ?_ | refine Qblk.miss rfl ?_ | refine Qloop.exit ?_ | refine Qloop.ret ?_ | refine Wc.condT rfl ?_ | refine Wc.condF rfl ?_ | refine Wl.nilP rfl ?_ | refine Wl.fieldAddr rfl rfl ?_ | refine Wl.nilF rfl ?_ | refine Wl.add rfl rfl (by omega) (by omega) ?_ | refine Wl.sub rfl rfl (by omega) (by omega) ?_ | refine Wl.mul rfl rfl (by omega) (by omega) ?_ | refine Wl.convI rfl ?_ | (refine Wl.lss rfl rfl (fun _ => ?_) (fun _ => ?_) <;> (first | (exfalso; omega) | (exfalso; contradiction) | skip)) | (refine Wl.leq rfl rfl (fun _ => ?_) (fun _ => ?_) <;> (first | (exfalso; omega) | (exfalso; contradiction) | skip)) | (refine Wl.gtr rfl rfl (fun _ => ?_) (fun _ => ?_) <;> (first | (exfalso; omega) | (exfalso; contradiction) | skip)) | (refine Wl.geq rfl rfl (fun _ => ?_) (fun _ => ?_) <;> (first | (exfalso; omega) | (exfalso; contradiction) | skip)) | (refine Wl.eql rfl rfl (fun _ => ?_) (fun _ => ?_) <;> (first | (exfalso; omega) | (exfalso; contradiction) | skip)) | (refine Wl.neq rfl rfl (fun _ => ?_) (fun _ => ?_) <;> (first | (exfalso; omega) | (exfalso; contradiction) | skip)) | (refine Wl.seql rfl rfl (fun _ => ?_) (fun _ => ?_) <;> (first | (exfalso; omega) | (exfalso; contradiction) | skip)) | (refine Wl.sneq rfl rfl (fun _ => ?_) (fun _ => ?_) <;> (first | (exfalso; omega) | (exfalso; contradiction) | skip))))
        · have hc0 : c = 0 := by
            apply UInt8.toNat_inj.1
            simp only [UInt8.toNat_zero]
            omega
          subst hc0
          rw [show stp (cutS (l.take i)) 0 = ((cutS (l.take i)).1 ++ [(cutS (l.take i)).2], []) from rfl] at hct
          refine Wl.strBoth rfl rfl rfl (by omega) (by omega) (by omega) ?_
          refine Wl.append1 (y := (cutS (l.take i)).2) goodStr ho rfl rfl rfl rfl (by show [vs ((l.take i).drop from')] = [vs (cutS (l.take i)).2]; rw [hq]) (by omega) (by omega) (by simp only [maxLen]; omega) (by omega) rfl rfl fun v2 w2 p ho2 hc2 _ => ?_
          have sn := hn.size
          (repeat' (first | refine Wl.moveE (by conv => { lhs; whnf }) ?_ | refine Wl.assignE (by conv => { lhs; whnf }) ?_ | refine Wl.nil ?_ | refine Wl.extract rfl rfl ?_ | refine Wl.guardY rfl rfl ?_ | refine Wl.guardN rfl rfl ?_ | refine Wl.pickTE rfl (by conv => { lhs; whnf }) ?_ | refine Wl.pickFE rfl (by conv => { lhs; whnf }) ?_ | refine Wl.notB rfl ?_ | refine Wl.lenS rfl ?_ | refine Wl.lenStr rfl ?_ | refine Qseq.normal ?_ | refine Wc.seq ?_ | refine Wc.region ?_ | refine Wc.block ?_ | refine Wc.skip ?_ | refine Wc.exit ?_ | refine Wc.ret ?_ | refine Qseq.exit ?_ | refine Qseq.ret ?_ | refine Qblk.normal ?_ | refine Qblk.ret ?_ | refine Qblk.hit ?_ | refine Qblk.miss rfl ?_ | refine Qloop.exit ?_ | refine Qloop.ret ?_ | refine Wc.condT rfl ?_ | refine Wc.condF rfl ?_ | refine Wl.nilP rfl ?_ | refine Wl.fieldAddr rfl rfl ?_ | refine Wl.nilF rfl ?_ | refine Wl.add rfl rfl (by omega) (by omega) ?_ | refine Wl.sub rfl rfl (by omega) (by omega) ?_ | refine Wl.mul rfl rfl (by omega) (by omega) ?_ | refine Wl.convI rfl ?_ | (refine Wl.lss rfl rfl (fun _ => ?_) (fun _ => ?_) <;> (first | (exfalso; omega) | (exfalso; contradiction) | skip)) | (refine Wl.leq rfl rfl (fun _ => ?_) (fun _ => ?_) <;> (first | (exfalso; omega) | (exfalso; contradiction) | skip)) | (refine Wl.gtr rfl rfl (fun _ => ?_) (fun _ => ?_) <;> (first | (exfalso; omega) | (exfalso; contradiction) | skip)) | (refine Wl.geq rfl rfl (fun _ => ?_) (fun _ => ?_) <;> (first | (exfalso; omega) | (exfalso; contradiction) | skip)) | (refine Wl.eql rfl rfl (fun _ => ?_) (fun _ => ?_) <;> (first | (exfalso; omega) | (exfalso; contradiction) | skip)) | (refine Wl.neq rfl rfl (fun _ => ?_) (fun _ => ?_) <;> (first | (exfalso; omega) | (exfalso; contradiction) | skip)) | (refine Wl.seql rfl rfl (fun _ => ?_) (fun _ => ?_) <;> (first | (exfalso; omega) | (exfalso; contradiction) | skip)) | (refine Wl.sneq rfl rfl (fun _ => ?_) (fun _ => ?_) <;> (first | (exfalso; omega) | (exfalso; contradiction) | skip))))
          refine Qloop.normal (i + 1, i + 1, v2) ⟨rfl, rfl, rfl, rfl, trivial⟩ ⟨by simp only; omega, Nat.le_refl _, ?_, ?_, Chg.trans hn hc2 fun b hb e => by have := (ho.lt e).1; omega⟩ (by simp only; omega)
          · simp only
            rw [hct, List.drop_eq_nil_of_le (by simp only [List.length_take]; omega)]
          · simp only
            rw [hct]
            exact ho2.mono goodStr.mo (fun b _ hb => by rcases hb with hb | hb <;> omega) (fun _ _ h => h)
        · have hc0 : c ≠ 0 := by intro e; subst e; simp at *
          have hst : stp (cutS (l.take i)) c = ((cutS (l.take i)).1, (cutS (l.take i)).2 ++ [c]) := if_neg hc0
          rw [hst] at hct
          refine Qloop.normal (i + 1, from', v) ⟨rfl, rfl, rfl, rfl, trivial⟩ ⟨by simp only; omega, by simp only; omega, ?_, ?_, hn⟩ (by simp only; omega)
          · simp only
            rw [hct, List.take_add_one, hc, List.drop_append_of_le_length (by simp only [List.length_take]; omega), hq]
            rfl
          · simp only
            rw [hct]; exact ho
      · have : i = l.length := by omega
        subst this
        rw [List.take_length] at ho
        exact Qfn.ret2 rfl rfl rfl ⟨_, rfl, _, rfl, ho, hn⟩
  · obtain ⟨f1, f2⟩ := t_ok (l := l) (.inl ‹l = []›)
    rw [f1, f2]
    refine Wc.loop (σ := Nat × Nat × Value) (fun s => [(0, vs l), (4, s.2.2), (5, vi s.2.1), (6, vi s.1)]) (fun s w' => s.1 ≤ l.length ∧ s.2.1 ≤ s.1 ∧ (l.take s.1).drop s.2.1 = (cutS (l.take s.1)).2 ∧ OwnS (one vs) 9 1 (fun b => w.heap.size ≤ b) (fun _ => False) w' s.2.2 (cutS (l.take s.1)).1 ∧ New w w') (fun s => l.length - s.1) (0, 0, .slice none 0 0)
      ⟨rfl, rfl, rfl, rfl, trivial⟩ ⟨Nat.zero_le _, Nat.le_refl _, rfl, OwnS.nil, Chg.refl _ _⟩ ?_
    rintro ⟨i, from', v⟩ G w1 ⟨hi, hf, hq, ho, hn⟩
    simp only at hi hf hq ho
    simp only [upds]
    (repeat' (first | refine Wl.moveE (by conv => { lhs; whnf }) ?_ | refine Wl.assignE (by conv => { lhs; whnf }) ?_ | refine Wl.nil ?_ | refine Wl.extract rfl rfl ?_ | refine Wl.guardY rfl rfl ?_ | refine Wl.guardN rfl rfl ?_ | refine Wl.pickTE rfl (by conv => { lhs; whnf }) ?_ | refine Wl.pickFE rfl (by conv => { lhs; whnf }) ?_ | refine Wl.notB rfl ?_ | refine Wl.lenS rfl ?_ | refine Wl.lenStr rfl ?_ | refine Qseq.normal ?_ | refine Wc.seq ?_ | refine Wc.region ?_ | refine Wc.block ?_ | refine Wc.skip ?_ | refine Wc.exit ?_ | refine Wc.ret ?_ | refine Qseq.exit ?_ | refine Qseq.ret ?_ | refine Qblk.normal ?_ | refine Qblk.ret ?_ | refine Qblk.hit ?_ | refine Qblk.miss rfl ?_ | refine Qloop.exit ?_ | refine Qloop.ret ?_ | refine Wc.condT rfl ?_ | refine Wc.condF rfl ?_ | refine Wl.nilP rfl ?_ | refine Wl.fieldAddr rfl rfl ?_ | refine Wl.nilF rfl ?_ | refine Wl.add rfl rfl (by omega) (by omega) ?_ | refine Wl.sub rfl rfl (by omega) (by omega) ?_ | refine Wl.mul rfl rfl (by omega) (by omega) ?_ | refine Wl.convI rfl ?_ | (refine Wl.lss rfl rfl (fun _ => ?_) (fun _ => ?_) <;> (first | (exfalso; omega) | (exfalso; contradiction) | skip)) | (refine Wl.leq rfl rfl (fun _ => ?_) (fun _ => ?_) <;> (first | (exfalso; omega) | (exfalso; contradiction) | skip)) | (refine Wl.gtr rfl rfl (fun _ => ?_) (fun _ => ?_) <;> (first | (exfalso; omega) | (exfalso; contradiction) | skip)) | (refine Wl.geq rfl rfl (fun _ => ?_) (fun _ => ?_) <;> (first | (exfalso; omega) | (exfalso; contradiction) | skip)) | (refine Wl.eql rfl rfl (fun _ => ?_) (fun _ => ?_) <;> (first | (exfalso; omega) | (exfalso; contradiction) | skip)) | (refine Wl.neq rfl rfl (fun _ => ?_) (fun _ => ?_) <;> (first | (exfalso; omega) | (exfalso; contradiction) | skip)) | (refine Wl.seql rfl rfl (fun _ => ?_) (fun _ => ?_) <;> (first | (exfalso; omega) | (exfalso; contradiction) | skip)) | (refine Wl.sneq rfl rfl (fun _ => ?_) (fun _ => ?_) <;> (first | (exfalso; omega) | (exfalso; contradiction) | skip))))
    · obtain ⟨c, hc⟩ := getC l (k := i) (by omega)
      have hct := cutS_take hc
      have hlen := cutS_len (l.take i)
      have hlt : (l.take i).length ≤ 2000000 := by simp only [List.length_take]; omega
      refine Wl.idxStr (b := c) rfl rfl (by omega) hc ?_
      (repeat' (first | refine Wl.moveE (by conv => { lhs; whnf }) ?_ | refine Wl.assignE (by conv => { lhs; whnf }) ?_ | refine Wl.nil ?_ | refine Wl.extract rfl rfl ?_ | refine Wl.guardY rfl rfl ?_ | refine Wl.guardN rfl rfl ?_ | refine Wl.pickTE rfl (by conv => { lhs; whnf }) ?_ | refine Wl.pickFE rfl (by conv => { lhs; whnf }) ?_ | refine Wl.notB rfl ?_ | refine Wl.lenS rfl ?_ | refine Wl.lenStr rfl ?_ | refine Qseq.normal ?_ | refine Wc.seq ?_ | refine Wc.region ?_ | refine Wc.block ?_ | refine Wc.skip ?_ | refine Wc.exit ?_ | refine Wc.ret ?_ | refine Qseq.exit ?_ | refine Qseq.ret ?_ | refine Qblk.normal ?_ | refine Qblk.ret ?_ | refine Qblk.hit ?_ | refine Qblk.miss rfl ?_ | refine Qloop.exit ?_ | refine Qloop.ret ?_ | refine Wc.condT rfl ?_ | refine Wc.condF rfl ?_ | refine Wl.nilP rfl ?_ | refine Wl.fieldAddr rfl rfl ?_ | refine Wl.nilF rfl ?_ | refine Wl.add rfl rfl (by omega) (by omega) ?_ | refine Wl.sub rfl rfl (by omega) (by omega) ?_ | refine Wl.mul rfl rfl (by omega) (by omega) ?_ | refine Wl.convI rfl ?_ | (refine Wl.lss rfl rfl (fun _ => ?_) (fun _ => ?_) <;> (first | (exfalso; omega) | (exfalso; contradiction) | skip)) | (refine Wl.leq rfl rfl (fun _ => ?_) (fun _ => ?_) <;> (first | (exfalso; omega) | (exfalso; contradiction) | skip)) | (refine Wl.gtr rfl rfl (fun _ => ?_) (fun _ => ?_) <;> (first | (exfalso; omega) | (exfalso; contradiction) | skip)) | (refine Wl.geq rfl rfl (fun _ => ?_) (fun _ => ?_) <;> (first | (exfalso; omega) | (exfalso; contradiction) | skip)) | (refine Wl.eql rfl rfl (fun _ => ?_) (fun _ => ?_) <;> (first | (exfalso; omega) | (exfalso; contradiction) | skip)) | (refine Wl.neq rfl rfl (fun _ => ?_) (fun _ => ?_) <;> (first | (exfalso; omega) | (exfalso; contradiction) | skip)) | (refine Wl.seql rfl rfl (fun _ => ?_) (fun _ => ?_) <;> (first | (exfalso; omega) | (exfalso; contradiction) | skip)) | (refine Wl.sneq rfl rfl (fun _ => ?_) (fun _ => ?_) <;> (first | (exfalso; omega) | (exfalso; contradiction) | skip))))
      · have hc0 : c = 0 := by
          apply UInt8.toNat_inj.1
          simp only [UInt8.toNat_zero]
          omega
        subst hc0
        rw [show stp (cutS (l.take i)) 0 = ((cutS (l.take i)).1 ++ [(cutS (l.take i)).2], []) from rfl] at hct
        refine Wl.strBoth rfl rfl rfl (by omega) (by omega) (by omega) ?_
        refine Wl.append1 (y := (cutS (l.take i)).2) goodStr ho rfl rfl rfl rfl (by show [vs ((l.take i).drop from')] = [vs (cutS (l.take i)).2]; rw [hq]) (by omega) (by omega) (by simp only [maxLen]; omega) (by omega) rfl rfl fun v2 w2 p ho2 hc2 _ => ?_
        have sn := hn.size
        (repeat' (first | refine Wl.moveE (by conv => { lhs; whnf }) ?_ | refine Wl.assignE (by conv => { lhs; whnf }) ?_ | refine Wl.nil ?_ | refine Wl.extract rfl rfl ?_ | refine Wl.guardY rfl rfl ?_ | refine Wl.guardN rfl rfl ?_ | refine Wl.pickTE rfl (by conv => { lhs; whnf }) ?_ | refine Wl.pickFE rfl (by conv => { lhs; whnf }) ?_ | refine Wl.notB rfl ?_ | refine Wl.lenS rfl ?_ | refine Wl.lenStr rfl ?_ | refine Qseq.normal ?_ | refine Wc.seq ?_ | refine Wc.region ?_ | refine Wc.block ?_ | refine Wc.skip ?_ | refine Wc.exit ?_ | refine Wc.ret ?_ | refine Qseq.exit ?_ | refine Qseq.ret ?_ | refine Qblk.normal ?_ | refine Qblk.ret ?_ | refine Qblk.hit ?_ | refine Qblk.miss rfl ?_ | refine Qloop.exit ?_ | refine Qloop.ret ?_ | refine Wc.condT rfl ?_ | refine Wc.condF rfl ?_ | refine Wl.nilP rfl ?_ | refine Wl.fieldAddr rfl rfl ?_ | refine Wl.nilF rfl ?_ | refine Wl.add rfl rfl (by omega) (by omega) ?_ | refine Wl.sub rfl rfl (by omega) (by omega) ?_ | refine Wl.mul rfl rfl (by omega) (by omega) ?_ | refine Wl.convI rfl ?_ | (refine Wl.lss rfl rfl (fun _ => ?_) (fun _ => ?_) <;> (first | (exfalso; omega) | (exfalso; contradiction) | skip)) | (refine Wl.leq rfl rfl (fun _ => ?_) (fun _ => ?_) <;> (first | (exfalso; omega) | (exfalso; contradiction) | skip)) | (refine Wl.gtr rfl rfl (fun _ => ?_) (fun _ => ?_) <;> (first | (exfalso; omega) | (exfalso; contradiction) | skip)) | (refine Wl.geq rfl rfl (fun _ => ?_) (fun _ => ?_) <;> (first | (exfalso; omega) | (exfalso; contradiction) | skip)) | (refine Wl.eql rfl rfl (fun _ => ?_) (fun _ => ?_) <;> (first | (exfalso; omega) | (exfalso; contradiction) | skip)) | (refine Wl.neq rfl rfl (fun _ => ?_) (fun _ => ?_) <;> (first | (exfalso; omega) | (exfalso; contradiction) | skip)) | (refine Wl.seql rfl rfl (fun _ => ?_) (fun _ => ?_) <;> (first | (exfalso; omega) | (exfalso; contradiction) | skip)) | (refine Wl.sneq rfl rfl (fun _ => ?_) (fun _ => ?_) <;> (first | (exfalso; omega) | (exfalso; contradiction) | skip))))
        refine Qloop.normal (i + 1, i + 1, v2) ⟨rfl, rfl, rfl, rfl, trivial⟩ ⟨by simp only; omega, Nat.le_refl _, ?_, ?_, Chg.trans hn hc2 fun b hb e => by have := (ho.lt e).1; omega⟩ (by simp only; omega)
        · simp only
          rw [hct, List.drop_eq_nil_of_le (by simp only [List.length_take]; omega)]
        · simp only
          rw [hct]
          exact ho2.mono goodStr.mo (fun b _ hb => by rcases hb with hb | hb <;> omega) (fun _ _ h => h)
      · have hc0 : c ≠ 0 := by intro e; subst e; simp at *
        have hst : stp (cutS (l.take i)) c = ((cutS (l.take i)).1, (cutS (l.take i)).2 ++ [c]) := if_neg hc0
        rw [hst] at hct
        refine Qloop.normal (i + 1, from', v) ⟨rfl, rfl, rfl, rfl, trivial⟩ ⟨by simp only; omega, by simp only; omega, ?_, ?_, hn⟩ (by simp only; omega)
        · simp only
          rw [hct, List.take_add_one, hc, List.drop_append_of_le_length (by simp only [List.length_take]; omega), hq]
          rfl
        · simp only
          rw [hct]; exact ho
    · have : i = l.length := by omega
      subst this
      rw [List.take_length] at ho
      exact Qfn.ret2 rfl rfl rfl ⟨_, rfl, _, rfl, ho, hn⟩
end Go.Proofs.YtigjfabcpclgdaaDoor
