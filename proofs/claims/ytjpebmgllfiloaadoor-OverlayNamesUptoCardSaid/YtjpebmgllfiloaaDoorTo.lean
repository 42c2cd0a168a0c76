/-
  Trees in memory of one's own: the nodes in one list, each node's props in another, all apart.
-/
import Derived.Test.YtjpebmgllfiloaaDoorKn
namespace Go.Proofs.YtjpebmgllfiloaaDoor
open Go Wk
open Go.RowKit (Below)
attribute [local irreducible] Go.Calls

abbrev Sl := Option Addr × Nat × Nat
abbrev slV (s : Sl) : Value := .slice s.1 s.2.1 s.2.2
def ndV (x : Nd × Sl) : List Value := [vi x.1.parent, vs x.1.name, slV x.2]
abbrev tNd : TypeId := 37
abbrev Lb := Nat → Option Nat
structure TrOwn (lo : Nat) (lab : Lb) (w : World) (v : Value) (t : List Nd) (pvs : List Sl) : Prop where
  len : pvs.length = t.length
  low : ∀ b c, lab b = some c → lo ≤ b ∧ b < w.heap.size
  arr : OwnS (flat ndV) tNd 3 (fun b => lab b = some 0) No w v (t.zip pvs)
  pr : ∀ i x pv, t[i]? = some x → pvs[i]? = some pv → OwnPr (fun b => lab b = some (i + 1)) w (slV pv) x.props
theorem goodNdV : GoodR (flat ndV) 3 := good_flat ndV (fun _ => rfl) fun x c hc => by
  simp [ndV] at hc
  rcases hc with rfl | rfl | rfl <;> rfl
section
variable {lo : Nat} {lab lab' : Lb} {w w' : World} {v : Value} {t : List Nd} {pvs : List Sl} {M : Nat → Prop}
theorem TrOwn.nil {lo : Nat} {w : World} : TrOwn lo (fun _ => none) w (.slice none 0 0) [] [] :=
  ⟨rfl, fun b c e => (by cases e), OwnS.nil, fun i x pv h => by simp at h⟩
theorem TrOwn.chg (h : TrOwn lo lab w v t pvs) (c : Chg M w w') (hM : ∀ b, b < w.heap.size → M b → lab b = none) : TrOwn lo lab w' v t pvs := by
  have c' : Chg (fun b => M b ∧ b < w.heap.size) w w' := c.mono fun k hk e => ⟨e, hk⟩
  exact ⟨h.len, fun b q e => ⟨(h.low b q e).1, Nat.lt_of_lt_of_le (h.low b q e).2 c.size⟩, h.arr.chg (plain_flat ndV) c' (fun b hb e => by have := (h.arr.lt hb).1; rw [hM b e.2 e.1] at this; cases this),
    fun i x pv hx hp => (h.pr i x pv hx hp).chg plainPr c' (fun b hb e => by have := ((h.pr i x pv hx hp).lt hb).1; rw [hM b e.2 e.1] at this; cases this)⟩
theorem TrOwn.new (h : TrOwn lo lab w v t pvs) (c : New w w') : TrOwn lo lab w' v t pvs := h.chg c fun _ _ e => e.elim
/-- It can be read. -/
theorem TrOwn.rd (h : TrOwn lo lab w v t pvs) : RdS rNd 3 (fun b => lo ≤ b) w v t := by
  have hr := h.arr.rd (mono_flat ndV)
  have hl : (t.zip pvs).length = t.length := by simp [h.len]
  rcases hr with ⟨rfl, e⟩ | ⟨a, cap, rfl, e, hc⟩ | ⟨b, off, cap, cur, e, fr, rfl, hb, hh, h1, h2, h3, h4⟩
  · refine .inl ⟨rfl, List.eq_nil_of_length_eq_zero ?_⟩
    rw [← hl, e]; rfl
  · have ht : t = [] := List.eq_nil_of_length_eq_zero (by rw [← hl, e]; rfl)
    exact .inr (.inl ⟨a, cap, rfl, ht, hc⟩)
  · rw [hl] at *
    refine .inr (.inr ⟨b, off, cap, cur, e, fr, rfl, ?_, hh, h1, h2, h3, fun i x hx => ?_⟩)
    · rcases hb with hb | hb
      · exact (h.low b 0 hb).1
      · exact hb.elim
    · have hi : i < t.length := (List.getElem?_eq_some_iff.1 hx).1
      obtain ⟨pv, hpv⟩ := get_lt pvs (k := i) (by rw [h.len]; exact hi)
      have hz : (t.zip pvs)[i]? = some (x, pv) := by simp [List.getElem?_zip_eq_some, hx, hpv]
      have := h4 i (x, pv) hz
      refine ⟨slV pv, this, ?_⟩
      have hp := (h.pr i x pv hx hpv).rd (mono_flat pC)
      exact hp.mono (mono_flat pC) fun b _ hb => by
        rcases hb with hb | hb
        · exact (h.low b _ hb).1
        · exact hb.elim
/-- A node behind the others. -/
theorem TrOwn.snoc {w2 w3 : World} (h : TrOwn lo lab w v t pvs) (hlo : lo ≤ w.heap.size) {x : Nd} {pv : Sl} {v' : Value} (n : New w w2) (hp : OwnPr (fun b => w.heap.size ≤ b) w2 (slV pv) x.props)
    (ha : OwnS (flat ndV) tNd 3 (fun b => lab b = some 0 ∨ w2.heap.size ≤ b) No w3 v' (t.zip pvs ++ [(x, pv)])) (c : Chg (fun b => v.ownBlock = some b) w2 w3) :
    ∃ lab', TrOwn lo lab' w3 v' (t ++ [x]) (pvs ++ [pv]) := by
  let lab' : Lb := fun b => if b < w.heap.size then lab b else if b < w2.heap.size then some (t.length + 1) else if b < w3.heap.size then some 0 else none
  have hold : ∀ b, b < w.heap.size → lab' b = lab b := fun b hb => if_pos hb
  have hpl : t.length = pvs.length := h.len.symm
  refine ⟨lab', ⟨by simp [h.len], fun b q e => ?_, ?_, fun i y qv hy hq => ?_⟩⟩
  · have := n.size
    have := c.size
    by_cases hb : b < w.heap.size
    · rw [hold b hb] at e; have := h.low b q e; omega
    · simp only [lab', if_neg hb] at e
      split at e
      · omega
      · split at e
        · omega
        · cases e
  · rw [List.zip_append hpl]
    refine ha.reblk fun b hb e => ?_
    have hlt := (ha.lt hb).2
    rcases e with e | e
    · exact (hold b (h.low b _ e).2).trans e
    · have := n.size
      simp only [lab', if_neg (show ¬ b < w.heap.size by omega), if_neg (show ¬ b < w2.heap.size by omega), if_pos hlt]
  · rw [List.getElem?_append] at hy hq
    have nv : ∀ b, v.ownBlock = some b → lab b = some 0 := fun b hb => (h.arr.lt hb).1
    split at hy
    · rename_i hi
      rw [if_pos (by omega)] at hq
      have h1 := ((h.pr i y qv hy hq).new plainPr n).chg plainPr c fun b hb e => by have := ((h.pr i y qv hy hq).lt hb).1; rw [nv b e] at this; cases this
      exact h1.reblk fun b hb e => (hold b (h.low b _ e).2).trans e
    · rename_i hi
      rw [if_neg (by omega)] at hq
      have hi0 : i = t.length := by
        have := (List.getElem?_eq_some_iff.1 hy).1
        simp at this; omega
      subst hi0
      simp at hy
      rw [hpl] at hq
      simp at hq
      subst hy
      subst hq
      have h1 := hp.chg plainPr c fun b hb e => by
        have h2 := (hp.lt hb).1
        have := (h.low b _ (nv b e)).2
        omega
      refine h1.reblk fun b hb e => ?_
      have := (hp.lt hb).2
      simp only [lab', if_neg (show ¬ b < w.heap.size by omega), if_pos this]
end
end Go.Proofs.YtjpebmgllfiloaaDoor
