/-
  The knots of overlay as a graph in memory: each knot a variable, its props and its kids lists of its own, all apart.
-/
import Derived.Test.YtjpebmgllfiloaaDoorTc
namespace Go.Proofs.YtjpebmgllfiloaaDoor
open Go Wk
open Go.RowKit (Below)
attribute [local irreducible] Go.Calls

abbrev ptrV : Nat → Value := fun b => .pointer (some ⟨b, 0, none⟩)
structure Kn where
  name : List UInt8
  props : List Pr
  kids : List Nat
deriving Inhabited
abbrev Lab := Nat → Option (Nat × Nat)
abbrev No : Nat → Prop := fun _ => False
abbrev OwnPr (Pb : Nat → Prop) (w : World) (v : Value) (l : List Pr) : Prop := OwnS rPr 39 2 Pb No w v l
abbrev OwnKids (Pb : Nat → Prop) (w : World) (v : Value) (l : List Nat) : Prop := OwnS (one ptrV) 78 1 Pb No w v l
abbrev tKn : TypeId := 77
structure KnAt (lab : Lab) (w : World) (bs : List Nat) (i : Nat) (k : Kn) (pv kv : Value) : Prop where
  lb : lab (bs.getD i 0) = some (i, 0)
  bk : Bk w (bs.getD i 0) tKn [vs k.name, pv, kv]
  pr : OwnPr (fun x => lab x = some (i, 1)) w pv k.props
  kd : OwnKids (fun x => lab x = some (i, 2)) w kv (k.kids.map fun j => bs.getD j 0)
structure KG (lo : Nat) (lab : Lab) (w : World) (bs : List Nat) (G : List Kn) : Prop where
  len : bs.length = G.length
  low : ∀ b c, lab b = some c → lo ≤ b ∧ b < w.heap.size ∧ c.1 < G.length
  at' : ∀ i k, G[i]? = some k → ∃ pv kv, KnAt lab w bs i k pv kv
  kid : ∀ i k, G[i]? = some k → ∀ j ∈ k.kids, i < j ∧ j < G.length
  nd : ∀ (i : Nat) (k : Kn), G[i]? = some k → k.kids.Nodup
section
variable {lo : Nat} {lab lab' : Lab} {w w' : World} {bs : List Nat} {G : List Kn} {M : Nat → Prop}
theorem KnAt.chg {i : Nat} {k : Kn} {pv kv : Value} (h : KnAt lab w bs i k pv kv) (c : Chg M w w') (hM : ∀ b, M b → ∀ q, lab b ≠ some (i, q)) : KnAt lab w' bs i k pv kv :=
  ⟨h.lb, h.bk.chg c fun e => hM _ e _ h.lb, h.pr.chg plainPr c fun b hb e => hM _ e _ (h.pr.lt hb).1, h.kd.chg (plain_one _) c fun b hb e => hM _ e _ (h.kd.lt hb).1⟩
theorem KnAt.relab {i : Nat} {k : Kn} {pv kv : Value} (h : KnAt lab w bs i k pv kv) (hl : ∀ b, b < w.heap.size → lab' b = lab b) : KnAt lab' w bs i k pv kv :=
  ⟨(hl _ h.bk.lt).trans h.lb, h.bk, h.pr.mono (mono_flat pC) (fun b hb e => (hl b hb).trans e) (fun _ _ e => e), h.kd.mono (mono_one _) (fun b hb e => (hl b hb).trans e) (fun _ _ e => e)⟩
theorem KG.chg (h : KG lo lab w bs G) (c : Chg M w w') (hM : ∀ b, b < w.heap.size → M b → lab b = none) : KG lo lab w' bs G := by
  have c' : Chg (fun b => M b ∧ b < w.heap.size) w w' := c.mono fun k hk e => ⟨e, hk⟩
  refine ⟨h.len, fun b q e => ⟨(h.low b q e).1, Nat.lt_of_lt_of_le (h.low b q e).2.1 c.size, (h.low b q e).2.2⟩, fun i k hk => ?_, h.kid, h.nd⟩
  obtain ⟨pv, kv, ha⟩ := h.at' i k hk
  exact ⟨pv, kv, ha.chg c' fun b hb q e => by rw [hM b hb.2 hb.1] at e; cases e⟩
theorem KG.new (h : KG lo lab w bs G) (c : New w w') : KG lo lab w' bs G := h.chg c fun _ _ e => e.elim
theorem KG.lab_none (h : KG lo lab w bs G) {b : Nat} (hb : w.heap.size ≤ b ∨ b < lo) : lab b = none := by
  cases e : lab b with
  | none => rfl
  | some c => have := h.low b c e; omega
/-- A knot gets another content. -/
theorem KG.set (h : KG lo lab w bs G) (hlo : lo ≤ w.heap.size) {i : Nat} {k k' : Kn} {pv' kv' : Value} (hi : G[i]? = some k) (c : Chg (fun b => ∃ q, lab b = some (i, q)) w w')
    (hb : Bk w' (bs.getD i 0) tKn [vs k'.name, pv', kv']) (hp : OwnPr (fun x => lab x = some (i, 1) ∨ w.heap.size ≤ x) w' pv' k'.props) (hk : OwnKids (fun x => lab x = some (i, 2) ∨ w.heap.size ≤ x) w' kv' (k'.kids.map fun j => bs.getD j 0))
    (hs : Sep pv' kv') (hkid : ∀ j ∈ k'.kids, i < j ∧ j < G.length) (hnd : k'.kids.Nodup) :
    ∃ lab', KG lo lab' w' bs (G.set i k') ∧ ∀ b, b < w.heap.size → lab' b = lab b := by
  have hil : i < G.length := (List.getElem?_eq_some_iff.1 hi).1
  obtain ⟨pv, kv, ha⟩ := h.at' i k hi
  let lab' : Lab := fun b => if b < w.heap.size then lab b else if b < w'.heap.size then (if pv'.ownBlock = some b then some (i, 1) else some (i, 2)) else none
  have hold : ∀ b, b < w.heap.size → lab' b = lab b := fun b hb => if_pos hb
  refine ⟨lab', ⟨by simp [h.len], fun b q e => ?_, fun j y hy => ?_, fun j y hy => ?_, fun j y hy => ?_⟩, hold⟩
  · by_cases hb : b < w.heap.size
    · rw [hold b hb] at e
      have := h.low b q e
      have := c.size
      simp only [List.length_set]; omega
    · simp only [lab', if_neg hb] at e
      split at e
      · simp only [List.length_set]
        split at e <;> cases e <;> exact ⟨by omega, by assumption, hil⟩
      · cases e
  · rw [List.getElem?_set] at hy
    split at hy
    · rename_i e
      subst e
      simp only [hil, if_true, Option.some.injEq] at hy
      subst hy
      refine ⟨pv', kv', (hold _ ha.bk.lt).trans ha.lb, hb, ?_, ?_⟩
      · obtain ⟨cs, hoc, he⟩ := hp
        refine ⟨cs, ⟨hoc.1, ?_⟩, fun i x hx => plainPr _ _ _ _ _ _ (he i x hx)⟩
        rcases hoc.2 with e | ⟨g, cap, cur, hv, hg, hh, r⟩
        · exact .inl e
        · refine .inr ⟨g, cap, cur, hv, ?_, hh, r⟩
          show lab' g = some (i, 1)
          rcases hg with hg | hg
          · rw [hold g (h.low _ _ hg).2.1]; exact hg
          · simp only [lab', if_neg (Nat.not_lt.2 hg), if_pos (heap_lt hh), hv, Value.ownBlock, if_true]
      · obtain ⟨cs, hoc, he⟩ := hk
        refine ⟨cs, ⟨hoc.1, ?_⟩, fun i x hx => plain_one _ _ _ _ _ _ _ (he i x hx)⟩
        rcases hoc.2 with e | ⟨g, cap, cur, hv, hg, hh, r⟩
        · exact .inl e
        · refine .inr ⟨g, cap, cur, hv, ?_, hh, r⟩
          show lab' g = some (i, 2)
          rcases hg with hg | hg
          · rw [hold g (h.low _ _ hg).2.1]; exact hg
          · have : pv'.ownBlock ≠ some g := fun e => hs g e (by rw [hv]; rfl)
            simp only [lab', if_neg (Nat.not_lt.2 hg), if_pos (heap_lt hh), if_neg this]
    · rename_i hne
      obtain ⟨pv, kv, hj⟩ := h.at' j y hy
      have hj' := hj.relab (lab' := lab') hold
      refine ⟨pv, kv, (hj'.chg (M := fun b => (∃ q, lab b = some (i, q)) ∧ b < w.heap.size) (c.mono fun b hb e => ⟨e, hb⟩) fun b ⟨⟨q, e⟩, hb⟩ q' e' => ?_)⟩
      rw [hold b hb, e] at e'
      simp only [Option.some.injEq, Prod.mk.injEq] at e'
      exact hne e'.1
  · rw [List.getElem?_set] at hy
    split at hy
    · rename_i e
      subst e
      simp only [hil, if_true, Option.some.injEq] at hy
      subst hy
      simpa using hkid
    · simpa using h.kid j y hy
  · rw [List.getElem?_set] at hy
    split at hy
    · rename_i e
      subst e
      simp only [hil, if_true, Option.some.injEq] at hy
      subst hy
      exact hnd
    · exact h.nd j y hy
/-- A new knot. -/
theorem KG.push (h : KG lo lab w bs G) (hlo : lo ≤ w.heap.size) {nb : Nat} {name : List UInt8} {props : List Pr} {pv : Value} (c : New w w') (hnb : w.heap.size ≤ nb)
    (hb : Bk w' nb tKn [vs name, pv, .slice none 0 0]) (hp : OwnPr (fun x => w.heap.size ≤ x ∧ x ≠ nb) w' pv props) :
    ∃ lab', KG lo lab' w' (bs ++ [nb]) (G ++ [⟨name, props, []⟩]) ∧ ∀ b, b < w.heap.size → lab' b = lab b := by
  let lab' : Lab := fun b => if b < w.heap.size then lab b else if b < w'.heap.size then (if b = nb then some (G.length, 0) else some (G.length, 1)) else none
  have hold : ∀ b, b < w.heap.size → lab' b = lab b := fun b hb => if_pos hb
  have hget : ∀ j, j < G.length → (bs ++ [nb]).getD j 0 = bs.getD j 0 := fun j hj => by
    simp only [List.getD_eq_getElem?_getD]
    rw [List.getElem?_append_left (by rw [h.len]; exact hj)]
  have hlast : (bs ++ [nb]).getD G.length 0 = nb := by
    simp only [List.getD_eq_getElem?_getD]
    rw [List.getElem?_append_right (by rw [h.len]; omega), h.len]; simp
  refine ⟨lab', ⟨by simp [h.len], fun b q e => ?_, fun j y hy => ?_, fun j y hy => ?_, fun j y hy => ?_⟩, hold⟩
  · by_cases hb : b < w.heap.size
    · rw [hold b hb] at e
      have := h.low b q e
      have := c.size
      simp only [List.length_append, List.length_singleton]; omega
    · simp only [lab', if_neg hb] at e
      split at e
      · simp only [List.length_append, List.length_singleton]
        split at e <;> cases e <;> exact ⟨by omega, by assumption, Nat.lt_succ_self _⟩
      · cases e
  · rw [List.getElem?_append] at hy
    split at hy
    · rename_i hj
      obtain ⟨pv, kv, ha⟩ := h.at' j y hy
      have ha' := (ha.relab (lab' := lab') hold).chg c (fun b e => e.elim)
      have e1 := hget j hj
      have e2 : (y.kids.map fun q => (bs ++ [nb]).getD q 0) = y.kids.map fun q => bs.getD q 0 := List.map_congr_left fun q hq => hget q (h.kid j y hy q hq).2
      exact ⟨pv, kv, ⟨by rw [e1]; exact ha'.lb, by rw [e1]; exact ha'.bk, ha'.pr, by rw [e2]; exact ha'.kd⟩⟩
    · rename_i hj
      have hj0 : j = G.length := by
        have := (List.getElem?_eq_some_iff.1 hy).1
        simp at this; omega
      subst hj0
      simp at hy
      subst hy
      refine ⟨pv, .slice none 0 0, ⟨?_, by rw [hlast]; exact hb, hp.mono (mono_flat pC) (fun b hb' e => ?_) (fun _ _ e => e), OwnS.nil⟩⟩
      · rw [hlast]
        simp only [lab', if_neg (Nat.not_lt.2 hnb), if_pos hb.lt, if_true]
      · simp only [lab', if_neg (Nat.not_lt.2 e.1), if_pos hb', if_neg e.2]
  · rw [List.getElem?_append] at hy
    split at hy
    · intro q hq
      have := h.kid j y hy q hq
      simp only [List.length_append, List.length_singleton]; omega
    · rename_i hj
      have hj0 : j = G.length := by
        have := (List.getElem?_eq_some_iff.1 hy).1
        simp at this; omega
      subst hj0
      simp at hy
      subst hy
      intro q hq; simp at hq
  · rw [List.getElem?_append] at hy
    split at hy
    · exact h.nd j y hy
    · rename_i hj
      have hj0 : j = G.length := by
        have := (List.getElem?_eq_some_iff.1 hy).1
        simp at this; omega
      subst hj0
      simp at hy
      subst hy
      exact List.nodup_nil
theorem nodup_bound : ∀ {m : Nat} {l : List Nat}, l.Nodup → (∀ j ∈ l, j < m) → l.length ≤ m
  | 0, l, _, hl => by
    cases l with
    | nil => simp
    | cons a r => have := hl a (by simp); omega
  | m + 1, l, h, hl => by
    by_cases hm : m ∈ l
    · have ih := nodup_bound (m := m) (h.erase m) fun j hj => by
        have h1 := (h.mem_erase_iff).1 hj
        have := hl j h1.2
        have := h1.1
        omega
      rw [List.length_erase_of_mem hm] at ih
      omega
    · have := nodup_bound (m := m) h fun j hj => by
        have := hl j hj
        have : j ≠ m := fun e => hm (e ▸ hj)
        omega
      omega
theorem KG.kids_le (h : KG lo lab w bs G) {i : Nat} {k : Kn} (hk : G[i]? = some k) : k.kids.length ≤ G.length := nodup_bound (h.nd i k hk) fun j hj => (h.kid i k hk j hj).2
end
end Go.Proofs.YtjpebmgllfiloaaDoor
