/-
  Trees as such, with no memory in sight: how they lie as nodes and as knots, and what laying a piece comes to.
-/
import Derived.Test.YtjpebmgllfiloaaDoorLy
namespace Go.Proofs.YtjpebmgllfiloaaDoor
open Go Wk

inductive T where
  | mk (name : List UInt8) (props : List Pr) (kids : List T)
def T.name : T → List UInt8 | .mk n _ _ => n
def T.props : T → List Pr | .mk _ p _ => p
def T.kids : T → List T | .mk _ _ k => k

mutual
def szT : T → Nat
  | .mk _ _ ks => 1 + szK ks
def szK : List T → Nat
  | [] => 0
  | t :: ts => szT t + szK ts
end
/-! The nodes of a tree, in preorder; its first one stands at a place, beneath another. -/
mutual
def flT : T → Int → Nat → List Nd
  | .mk nm ps ks, up, b => ⟨up, nm, ps⟩ :: flK ks b (b + 1)
def flK : List T → Nat → Nat → List Nd
  | [], _, _ => []
  | t :: ts, u, b => flT t (u : Int) b ++ flK ts u (b + szT t)
end
theorem szT_pos (t : T) : 0 < szT t := by cases t; simp only [szT]; omega
mutual
theorem flT_length : ∀ (t : T) (up : Int) (b : Nat), (flT t up b).length = szT t
  | .mk nm ps ks, up, b => by simp only [flT, szT, List.length_cons, flK_length ks]; omega
theorem flK_length : ∀ (ks : List T) (u b : Nat), (flK ks u b).length = szK ks
  | [], _, _ => rfl
  | t :: ts, u, b => by simp only [flK, szK, List.length_append, flT_length t, flK_length ts]
end
theorem flT_head (t : T) (up : Int) (b : Nat) : ∃ r, flT t up b = ⟨up, t.name, t.props⟩ :: r := by cases t; exact ⟨_, rfl⟩
/-! The parents of what lies. -/
mutual
theorem flT_par : ∀ (t : T) (up : Int) (b : Nat) (r : List Nd), flT t up b = ⟨up, t.name, t.props⟩ :: r → ∀ x ∈ r, (b : Int) ≤ x.parent ∧ x.parent < b + szT t
  | .mk nm ps ks, up, b, r, h, x, hx => by
    simp only [flT, List.cons.injEq] at h
    obtain ⟨_, rfl⟩ := h
    have := flK_par ks b (b + 1) (by omega) x hx
    simp only [szT]; omega
theorem flK_par : ∀ (ks : List T) (u b : Nat), u < b → ∀ x ∈ flK ks u b, x.parent = u ∨ (b : Int) ≤ x.parent ∧ x.parent < b + szK ks
  | [], _, _, _, x, hx => by simp [flK] at hx
  | t :: ts, u, b, hu, x, hx => by
    simp only [flK, List.mem_append] at hx
    simp only [szK]
    rcases hx with hx | hx
    · obtain ⟨r, hr⟩ := flT_head t (u : Int) b
      rw [hr, List.mem_cons] at hx
      rcases hx with rfl | hx
      · exact .inl rfl
      · have := flT_par t u b r hr x hx; right; omega
    · rcases flK_par ts u (b + szT t) (by omega) x hx with h | h
      · exact .inl h
      · right; omega
end

/-! The knots of a tree. -/
mutual
def Is (G : List Kn) : T → Nat → List Nat → Prop
  | .mk nm ps ks, i, ids => ∃ kk r, G[i]? = some ⟨nm, ps, kk⟩ ∧ ids = i :: r ∧ IsL G ks kk r
def IsL (G : List Kn) : List T → List Nat → List Nat → Prop
  | [], l, ids => l = [] ∧ ids = []
  | t :: ts, l, ids => ∃ j r a b, l = j :: r ∧ ids = a ++ b ∧ Is G t j a ∧ IsL G ts r b
end
mutual
theorem Is.frame {G G' : List Kn} : ∀ {τ : T} {i : Nat} {ids : List Nat}, Is G τ i ids → (∀ x ∈ ids, G'[x]? = G[x]?) → Is G' τ i ids
  | .mk nm ps ks, i, ids, h, hf => by
    simp only [Is] at h ⊢
    obtain ⟨kk, r, h1, rfl, h2⟩ := h
    exact ⟨kk, r, (hf i (by simp)).trans h1, rfl, h2.frame fun x hx => hf x (by simp [hx])⟩
theorem IsL.frame {G G' : List Kn} : ∀ {ks : List T} {l ids : List Nat}, IsL G ks l ids → (∀ x ∈ ids, G'[x]? = G[x]?) → IsL G' ks l ids
  | [], l, ids, h, _ => h
  | t :: ts, l, ids, h, hf => by
    simp only [IsL] at h ⊢
    obtain ⟨j, r, a, b, rfl, rfl, h1, h2⟩ := h
    exact ⟨j, r, a, b, rfl, rfl, h1.frame fun x hx => hf x (by simp [hx]), h2.frame fun x hx => hf x (by simp [hx])⟩
end
theorem Is.head {G : List Kn} {τ : T} {i : Nat} {ids : List Nat} (h : Is G τ i ids) : i ∈ ids := by
  cases τ
  simp only [Is] at h
  obtain ⟨_, _, _, rfl, _⟩ := h
  simp
theorem Is.get {G : List Kn} {τ : T} {i : Nat} {ids : List Nat} (h : Is G τ i ids) : ∃ kk, G[i]? = some ⟨τ.name, τ.props, kk⟩ := by
  cases τ
  simp only [Is] at h
  obtain ⟨kk, _, h, _, _⟩ := h
  exact ⟨kk, h⟩
mutual
theorem Is.length {G : List Kn} : ∀ {τ : T} {i : Nat} {ids : List Nat}, Is G τ i ids → ids.length = szT τ
  | .mk nm ps ks, i, ids, h => by
    simp only [Is] at h
    obtain ⟨kk, r, h1, rfl, h2⟩ := h
    have := h2.length
    simp only [szT, List.length_cons]; omega
theorem IsL.length {G : List Kn} : ∀ {ks : List T} {l ids : List Nat}, IsL G ks l ids → ids.length = szK ks
  | [], l, ids, h => by simp only [IsL] at h; rw [h.2]; rfl
  | t :: ts, l, ids, h => by
    simp only [IsL] at h
    obtain ⟨j, r, a, b, rfl, rfl, h1, h2⟩ := h
    rw [List.length_append, h1.length, h2.length]; rfl
end
theorem IsL.append {G : List Kn} : ∀ {k1 k2 : List T} {l1 l2 a b : List Nat}, IsL G k1 l1 a → IsL G k2 l2 b → IsL G (k1 ++ k2) (l1 ++ l2) (a ++ b)
  | [], k2, l1, l2, a, b, h1, h2 => by
    simp only [IsL] at h1
    obtain ⟨rfl, rfl⟩ := h1
    simpa using h2
  | t :: ts, k2, l1, l2, a, b, h1, h2 => by
    simp only [IsL] at h1
    obtain ⟨j, r, a1, a2, rfl, rfl, h3, h4⟩ := h1
    have := h4.append h2
    simp only [List.cons_append, IsL]
    exact ⟨j, r ++ l2, a1, a2 ++ b, rfl, by simp, h3, this⟩
theorem IsL.split {G : List Kn} : ∀ {k1 k2 : List T} {l ids : List Nat}, IsL G (k1 ++ k2) l ids → ∃ l1 l2 a b, l = l1 ++ l2 ∧ ids = a ++ b ∧ IsL G k1 l1 a ∧ IsL G k2 l2 b ∧ l1.length = k1.length
  | [], k2, l, ids, h => ⟨[], l, [], ids, rfl, rfl, by simp [IsL], h, rfl⟩
  | t :: ts, k2, l, ids, h => by
    simp only [List.cons_append, IsL] at h
    obtain ⟨j, r, a, b, rfl, rfl, h1, h2⟩ := h
    obtain ⟨l1, l2, a', b', rfl, rfl, h3, h4, h5⟩ := h2.split
    exact ⟨j :: l1, l2, a ++ a', b', rfl, by simp, by simp only [IsL]; exact ⟨j, l1, a, a', rfl, rfl, h1, h3⟩, h4, by simp [h5]⟩
theorem IsL.names {G : List Kn} : ∀ {ks : List T} {l ids : List Nat} {i j : Nat} {t : T}, IsL G ks l ids → ks[i]? = some t → l[i]? = some j → ∃ kk, G[j]? = some ⟨t.name, t.props, kk⟩
  | [], _, _, i, j, t, _, h, _ => by simp at h
  | s :: ts, l, ids, i, j, t, h, h1, h2 => by
    simp only [IsL] at h
    obtain ⟨j', r, a, b, rfl, rfl, h3, h4⟩ := h
    cases i with
    | zero => simp at h1 h2; subst h1; subst h2; exact h3.get
    | succ i => exact h4.names (by simpa using h1) (by simpa using h2)

/-! flat of knots that are a tree's. -/
mutual
theorem flatG_is {G : List Kn} : ∀ (τ : T) (i : Nat) (ids : List Nat) (f : Nat) (up : Int) (acc : List Nd), Is G τ i ids → szT τ ≤ f → flatG G f i up acc = acc ++ flT τ up acc.length
  | .mk nm ps ks, i, ids, 0, up, acc, h, hf => by simp only [szT] at hf; omega
  | .mk nm ps ks, i, ids, f + 1, up, acc, h, hf => by
    simp only [Is] at h
    obtain ⟨kk, r, hG, rfl, hl⟩ := h
    rw [flatG, hG]
    dsimp only
    rw [flatG_isL ks kk r f acc.length _ hl (by simp only [szT] at hf; omega)]
    simp [flT]
theorem flatG_isL {G : List Kn} : ∀ (ks : List T) (kk ids : List Nat) (f u : Nat) (acc : List Nd), IsL G ks kk ids → szK ks ≤ f → kk.foldl (fun a j => flatG G f j (u : Int) a) acc = acc ++ flK ks u acc.length
  | [], kk, ids, f, u, acc, h, _ => by simp only [IsL] at h; rw [h.1]; simp [flK]
  | t :: ts, kk, ids, f, u, acc, h, hf => by
    simp only [IsL] at h
    obtain ⟨j, r, a, b, rfl, rfl, h1, h2⟩ := h
    simp only [szK] at hf
    rw [List.foldl_cons, flatG_is t j a f u acc h1 (by omega), flatG_isL ts r b f u _ h2 (by omega)]
    simp only [flK, List.append_assoc, List.length_append, flT_length]
end

/-! Knots of a list of nodes that lies so. -/
def kpos : List T → Nat → List Nat
  | [], _ => []
  | t :: ts, b => b :: kpos ts (b + szT t)
mutual
def ndsT : T → Nat → List Kn
  | .mk nm ps ks, b => ⟨nm, ps, kpos ks (b + 1)⟩ :: ndsK ks (b + 1)
def ndsK : List T → Nat → List Kn
  | [], _ => []
  | t :: ts, b => ndsT t b ++ ndsK ts (b + szT t)
end
mutual
theorem ndsT_length : ∀ (t : T) (b : Nat), (ndsT t b).length = szT t
  | .mk nm ps ks, b => by simp only [ndsT, szT, List.length_cons, ndsK_length ks]; omega
theorem ndsK_length : ∀ (ks : List T) (b : Nat), (ndsK ks b).length = szK ks
  | [], _ => rfl
  | t :: ts, b => by simp only [ndsK, szK, List.length_append, ndsT_length t, ndsK_length ts]
end
def addKids (G : List Kn) (p : Nat) (l : List Nat) : List Kn := match G[p]? with | some k => G.set p { k with kids := k.kids ++ l } | none => G
theorem addKids_length (G : List Kn) (p : Nat) (l : List Nat) : (addKids G p l).length = G.length := by unfold addKids; split <;> simp
theorem addKids_app (G H : List Kn) (p : Nat) (l : List Nat) (hp : p < G.length) : addKids (G ++ H) p l = addKids G p l ++ H := by
  obtain ⟨k, hk⟩ := get_lt G hp
  unfold addKids
  rw [List.getElem?_append_left hp, hk]
  exact List.set_append_left _ _ hp
theorem addKids_nil (G : List Kn) (p : Nat) : addKids G p [] = G := by
  unfold addKids
  split
  · rename_i k hk
    obtain ⟨h1, h2⟩ := List.getElem?_eq_some_iff.1 hk
    rw [List.append_nil]
    show G.set p k = G
    rw [← h2]; exact List.set_getElem_self h1
  · rfl
theorem addKids_two (G : List Kn) (p : Nat) (l m : List Nat) : addKids (addKids G p l) p m = addKids G p (l ++ m) := by
  cases h : G[p]? with
  | none => unfold addKids; simp [h]
  | some k =>
    have hl := (List.getElem?_eq_some_iff.1 h).1
    unfold addKids
    simp only [h]
    rw [List.getElem?_set, if_pos rfl, if_pos hl]
    simp [List.set_set]
theorem addKids_last {G : List Kn} {b : Nat} {nm : List UInt8} {ps : List Pr} {l : List Nat} (hb : G.length = b) : addKids (G ++ [⟨nm, ps, []⟩]) b l = G ++ [⟨nm, ps, l⟩] := by
  subst hb
  unfold addKids
  rw [List.getElem?_append_right (Nat.le_refl _)]
  simp
theorem addKid_eq (G : List Kn) (p j : Nat) : addKid G p j = addKids G p [j] := rfl
mutual
theorem knots_T : ∀ (τ : T) (G : List Kn) (u : Nat), u < G.length → (flT τ u G.length).foldl addN G = addKids G u [G.length] ++ ndsT τ G.length
  | .mk nm ps ks, G, u, hu => by
    have hne : G.length ≠ 0 := by omega
    simp only [flT, List.foldl_cons]
    unfold addN
    rw [if_neg hne]
    dsimp only
    rw [addKid_eq, Int.toNat_natCast, addKids_app _ _ _ _ hu]
    have hl : (addKids G u [G.length] ++ [(⟨nm, ps, []⟩ : Kn)]).length = G.length + 1 := by simp [addKids_length]
    have := knots_K ks (addKids G u [G.length] ++ [⟨nm, ps, []⟩]) G.length (by omega)
    rw [hl] at this
    change List.foldl addN _ _ = _ at this
    refine Eq.trans this ?_
    rw [addKids_last (by rw [addKids_length])]
    simp [ndsT]
theorem knots_K : ∀ (ks : List T) (G : List Kn) (u : Nat), u < G.length → (flK ks u G.length).foldl addN G = addKids G u (kpos ks G.length) ++ ndsK ks G.length
  | [], G, u, hu => by simp [flK, kpos, ndsK, addKids_nil]
  | t :: ts, G, u, hu => by
    simp only [flK, List.foldl_append, kpos, ndsK]
    rw [knots_T t G u hu]
    have hl : (addKids G u [G.length] ++ ndsT t G.length).length = G.length + szT t := by simp [addKids_length, ndsT_length]
    have := knots_K ts (addKids G u [G.length] ++ ndsT t G.length) u (by omega)
    rw [hl] at this
    rw [this, addKids_app _ _ _ _ (by rw [addKids_length]; exact hu), addKids_two]
    simp
end
/-- They are the tree's. -/
def GetsAt (H : List Kn) (b : Nat) (L : List Kn) : Prop := ∀ (i : Nat) (k : Kn), L[i]? = some k → H[b + i]? = some k
theorem GetsAt.left {H : List Kn} {b : Nat} {L M : List Kn} (h : GetsAt H b (L ++ M)) : GetsAt H b L := fun i k hk => h i k (by rw [List.getElem?_append_left (List.getElem?_eq_some_iff.1 hk).1]; exact hk)
theorem GetsAt.right {H : List Kn} {b : Nat} {L M : List Kn} (h : GetsAt H b (L ++ M)) : GetsAt H (b + L.length) M := fun i k hk => by
  have := h (L.length + i) k (by rw [List.getElem?_append_right (by omega), Nat.add_sub_cancel_left]; exact hk)
  rwa [← Nat.add_assoc] at this
mutual
theorem is_nds {H : List Kn} : ∀ (τ : T) (b : Nat), GetsAt H b (ndsT τ b) → Is H τ b (List.range' b (szT τ))
  | .mk nm ps ks, b, h => by
    simp only [ndsT] at h
    have h0 := h 0 _ rfl
    rw [Nat.add_zero] at h0
    have h1 : GetsAt H (b + 1) (ndsK ks (b + 1)) := GetsAt.right (L := [⟨nm, ps, kpos ks (b + 1)⟩]) h
    simp only [Is, szT]
    refine ⟨_, List.range' (b + 1) (szK ks), h0, ?_, isL_nds ks (b + 1) h1⟩
    rw [Nat.add_comm 1, List.range'_succ]
theorem isL_nds {H : List Kn} : ∀ (ks : List T) (b : Nat), GetsAt H b (ndsK ks b) → IsL H ks (kpos ks b) (List.range' b (szK ks))
  | [], b, _ => by simp [IsL, kpos, szK]
  | t :: ts, b, h => by
    simp only [ndsK] at h
    have h2 := h.right
    rw [ndsT_length] at h2
    simp only [IsL, kpos, szK]
    refine ⟨b, kpos ts (b + szT t), List.range' b (szT t), List.range' (b + szT t) (szK ts), rfl, ?_, is_nds t b h.left, isL_nds ts (b + szT t) h2⟩
    rw [← List.range'_append_1]
end
theorem knotsM_T (τ : T) : knotsM (flT τ (-1) 0) = ndsT τ 0 := by
  cases τ with
  | mk nm ps ks =>
    unfold knotsM
    simp only [flT, List.foldl_cons]
    unfold addN
    simp only [List.length_nil, if_true, List.nil_append]
    have := knots_K ks [⟨nm, ps, []⟩] 0 (by simp)
    simp only [List.length_singleton] at this
    change List.foldl addN _ _ = _ at this
    refine Eq.trans this ?_
    have e := addKids_last (G := []) (b := 0) (nm := nm) (ps := ps) (l := kpos ks 1) rfl
    simp only [List.nil_append] at e
    rw [e]
    simp [ndsT]
theorem knotsM_is (τ : T) : Is (knotsM (flT τ (-1) 0)) τ 0 (List.range (szT τ)) := by
  rw [knotsM_T, List.range_eq_range']
  exact is_nds τ 0 fun i k hk => by rwa [Nat.zero_add]
end Go.Proofs.YtjpebmgllfiloaaDoor
