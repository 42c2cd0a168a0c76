/-
  Three lists of the call's own, none in another's block: each may be written and grown, and the others stay.
-/
import Derived.Test.YtigjfabcpclgdaaDoorLk
import Derived.Test.YtigjfabcpclgdaaDoorCb
namespace Go.Proofs.YtigjfabcpclgdaaDoor
open Go Wk
open Go.RowKit (Below)

/-- No block of v is u's. -/
def Sep (v u : Value) : Prop := ∀ k, v.ownBlock = some k → u.ownBlock ≠ some k
theorem Sep.symm {v u : Value} (h : Sep v u) : Sep u v := fun k h1 h2 => h k h2 h1
section
variable {α β : Type} {f : α → Value} {g : β → Value} {e e' : TypeId} {Pb Pe Qb Qe : Nat → Prop} {w w' : World} {v u u' : Value} {xs : List α} {ys : List β}
/-- A list stays where a list in another block is written. -/
theorem keepSep (h : OwnS (one f) e 1 Pb Pe w v xs) (c : Chg (fun k => u.ownBlock = some k) w w') (s : Sep v u) : OwnS (one f) e 1 Pb Pe w' v xs := by
  obtain ⟨cs, ⟨hl, hoc⟩, he⟩ := h
  refine ⟨cs, ⟨hl, ?_⟩, he⟩
  rcases hoc with hoc | ⟨b, cap, cur, rfl, hb, hg, r⟩
  · exact .inl hoc
  · exact .inr ⟨b, cap, cur, rfl, hb, (c.block b (heap_lt hg) (s b rfl)).trans hg, r⟩
/-- And its block is still another one when that list has been grown. -/
theorem sepGrown (h : OwnS (one f) e 1 Pb Pe w v xs) (s : Sep v u) (lie : u'.ownBlock = u.ownBlock ∨ ∀ b, u'.ownBlock = some b → w.heap.size ≤ b) : Sep v u' := by
  intro k hk hk'
  rcases lie with lie | lie
  · exact s k hk (lie ▸ hk')
  · have := (h.lt hk).2
    have := lie k hk'
    omega
/-- Lists whose blocks lie apart. -/
theorem sepOf (h : OwnS (one f) e 1 Pb Pe w v xs) (h' : OwnS (one g) e' 1 Qb Qe w u ys) (d : ∀ k, Pb k → ¬ Qb k) : Sep v u :=
  fun k hk hk' => d k (h.lt hk).1 (h'.lt hk').1
end

/-- Three lists of the call's own that are turned, in three places that lie apart; all else of the world w9 stays. -/
structure Tri {α β γ : Type} (f1 : α → Value) (f2 : β → Value) (f3 : γ → Value) (e1 e2 e3 : TypeId) (I1 I2 I3 : Nat → Prop) (w9 w : World) (v1 v2 v3 : Value) (n1 n2 n3 : Nat) : Prop where
  o1 : ∃ xs : List α, xs.length = n1 ∧ OwnS (one f1) e1 1 (fun k => I1 k ∨ w9.heap.size ≤ k) (fun _ => False) w v1 xs
  o2 : ∃ xs : List β, xs.length = n2 ∧ OwnS (one f2) e2 1 (fun k => I2 k ∨ w9.heap.size ≤ k) (fun _ => False) w v2 xs
  o3 : ∃ xs : List γ, xs.length = n3 ∧ OwnS (one f3) e3 1 (fun k => I3 k ∨ w9.heap.size ≤ k) (fun _ => False) w v3 xs
  s12 : Sep v1 v2
  s13 : Sep v1 v3
  s23 : Sep v2 v3
  chg : Chg (fun k => I1 k ∨ I2 k ∨ I3 k) w9 w
section
variable {α β γ : Type} {f1 : α → Value} {f2 : β → Value} {f3 : γ → Value} {e1 e2 e3 : TypeId} {I1 I2 I3 : Nat → Prop} {w9 w w' : World} {v1 v2 v3 v' : Value} {n1 n2 n3 : Nat}
theorem Tri.turn1 (t : Tri f1 f2 f3 e1 e2 e3 I1 I2 I3 w9 w v1 v2 v3 n1 n2 n3) {xs : List α} {m : Nat} (hm : xs.length = m) (o : OwnS (one f1) e1 1 (fun b => (I1 b ∨ w9.heap.size ≤ b) ∨ w.heap.size ≤ b) (fun _ => False) w' v' xs)
    (c : Chg (fun b => v1.ownBlock = some b) w w') (lie : v'.ownBlock = v1.ownBlock ∨ ∀ b, v'.ownBlock = some b → w.heap.size ≤ b) : Tri f1 f2 f3 e1 e2 e3 I1 I2 I3 w9 w' v' v2 v3 m n2 n3 := by
  obtain ⟨⟨x1, l1, o1⟩, ⟨x2, l2, o2⟩, ⟨x3, l3, o3⟩, s12, s13, s23, ch⟩ := t
  have hs := ch.size
  refine ⟨⟨xs, hm, o.mono (mono_one _) (fun b _ h => by rcases h with h | h; exact h; exact .inr (by omega)) (fun _ _ h => h)⟩, ⟨x2, l2, keepSep o2 c s12.symm⟩, ⟨x3, l3, keepSep o3 c s13.symm⟩,
    (sepGrown o2 s12.symm lie).symm, (sepGrown o3 s13.symm lie).symm, s23, Chg.trans ch c fun k hk e => ?_⟩
  rcases (o1.lt e).1 with h | h
  · exact .inl h
  · omega
theorem Tri.turn2 (t : Tri f1 f2 f3 e1 e2 e3 I1 I2 I3 w9 w v1 v2 v3 n1 n2 n3) {xs : List β} {m : Nat} (hm : xs.length = m) (o : OwnS (one f2) e2 1 (fun b => (I2 b ∨ w9.heap.size ≤ b) ∨ w.heap.size ≤ b) (fun _ => False) w' v' xs)
    (c : Chg (fun b => v2.ownBlock = some b) w w') (lie : v'.ownBlock = v2.ownBlock ∨ ∀ b, v'.ownBlock = some b → w.heap.size ≤ b) : Tri f1 f2 f3 e1 e2 e3 I1 I2 I3 w9 w' v1 v' v3 n1 m n3 := by
  obtain ⟨⟨x1, l1, o1⟩, ⟨x2, l2, o2⟩, ⟨x3, l3, o3⟩, s12, s13, s23, ch⟩ := t
  have hs := ch.size
  refine ⟨⟨x1, l1, keepSep o1 c s12⟩, ⟨xs, hm, o.mono (mono_one _) (fun b _ h => by rcases h with h | h; exact h; exact .inr (by omega)) (fun _ _ h => h)⟩, ⟨x3, l3, keepSep o3 c s23.symm⟩,
    sepGrown o1 s12 lie, s13, (sepGrown o3 s23.symm lie).symm, Chg.trans ch c fun k hk e => ?_⟩
  rcases (o2.lt e).1 with h | h
  · exact .inr (.inl h)
  · omega
theorem Tri.turn3 (t : Tri f1 f2 f3 e1 e2 e3 I1 I2 I3 w9 w v1 v2 v3 n1 n2 n3) {xs : List γ} {m : Nat} (hm : xs.length = m) (o : OwnS (one f3) e3 1 (fun b => (I3 b ∨ w9.heap.size ≤ b) ∨ w.heap.size ≤ b) (fun _ => False) w' v' xs)
    (c : Chg (fun b => v3.ownBlock = some b) w w') (lie : v'.ownBlock = v3.ownBlock ∨ ∀ b, v'.ownBlock = some b → w.heap.size ≤ b) : Tri f1 f2 f3 e1 e2 e3 I1 I2 I3 w9 w' v1 v2 v' n1 n2 m := by
  obtain ⟨⟨x1, l1, o1⟩, ⟨x2, l2, o2⟩, ⟨x3, l3, o3⟩, s12, s13, s23, ch⟩ := t
  have hs := ch.size
  refine ⟨⟨x1, l1, keepSep o1 c s13⟩, ⟨x2, l2, keepSep o2 c s23⟩, ⟨xs, hm, o.mono (mono_one _) (fun b _ h => by rcases h with h | h; exact h; exact .inr (by omega)) (fun _ _ h => h)⟩,
    s12, sepGrown o1 s13 lie, sepGrown o2 s23 lie, Chg.trans ch c fun k hk e => ?_⟩
  rcases (o3.lt e).1 with h | h
  · exact .inr (.inr h)
  · omega
end
end Go.Proofs.YtigjfabcpclgdaaDoor
