/-
  Two pieces beside one another, as trees: in either order they come to the same.
-/
import Derived.Test.YtjpebmgllfiloaaDoorSf
namespace Go.Proofs.YtjpebmgllfiloaaDoor
open Go Wk

/-! A tree without its props. -/
mutual
def stT : T → T
  | .mk n _ ks => .mk n [] (stK ks)
def stK : List T → List T
  | [] => []
  | t :: ts => stT t :: stK ts
end
theorem stT_name (t : T) : (stT t).name = t.name := by cases t; rfl
theorem stT_kids (t : T) : (stT t).kids = stK t.kids := by cases t; rfl
mutual
theorem szT_st : ∀ t : T, szT (stT t) = szT t
  | .mk n p ks => by simp only [stT, szT, szK_st ks]
theorem szK_st : ∀ ks : List T, szK (stK ks) = szK ks
  | [] => rfl
  | t :: ts => by simp only [stK, szK, szT_st t, szK_st ts]
end
def stN (x : Nd) : Nd := ⟨x.parent, x.name, []⟩
mutual
theorem flT_st : ∀ (t : T) (up : Int) (b : Nat), flT (stT t) up b = (flT t up b).map stN
  | .mk n p ks, up, b => by simp only [stT, flT, List.map_cons, flK_st ks]; rfl
theorem flK_st : ∀ (ks : List T) (u b : Nat), flK (stK ks) u b = (flK ks u b).map stN
  | [], _, _ => rfl
  | t :: ts, u, b => by simp only [stK, flK, List.map_append, flT_st t, flK_st ts, szT_st]
end
mutual
theorem okT_st : ∀ (t : T) (d : Nat) (up : Int) (b : Nat), okT d t = true ↔ okT d (stT t) = true ∧ ∀ x ∈ flT t up b, propsOk x.props = true
  | .mk n p ks, d, up, b => by
    have h := okK_st ks (d + 1) [] b (b + 1)
    simp only [okT, stT, flT, Bool.and_eq_true, List.mem_cons, forall_eq_or_imp, h]
    constructor
    · rintro ⟨h1, h2, h3, h4⟩
      exact ⟨⟨rfl, h2, h3⟩, h1, h4⟩
    · rintro ⟨⟨_, h2, h3⟩, h1, h4⟩
      exact ⟨h1, h2, h3, h4⟩
theorem okK_st : ∀ (ks : List T) (d : Nat) (seen : List Nm) (u b : Nat), okK d seen ks = true ↔ okK d seen (stK ks) = true ∧ ∀ x ∈ flK ks u b, propsOk x.props = true
  | [], d, seen, u, b => by simp [okK, stK, flK]
  | t :: ts, d, seen, u, b => by
    have h1 := okT_st t d u b
    have h2 := okK_st ts d (seen ++ [t.name]) u (b + szT t)
    simp only [okK, stK, flK, stT_name, Bool.and_eq_true, List.mem_append, h1, h2]
    constructor
    · rintro ⟨a, b', ⟨c, d'⟩, e, f⟩
      exact ⟨⟨a, b', c, e⟩, fun x hx => hx.elim (d' x) (f x)⟩
    · rintro ⟨⟨a, b', c, e⟩, f⟩
      exact ⟨a, b', ⟨c, fun x hx => f x (.inl hx)⟩, e, fun x hx => f x (.inr hx)⟩
end
theorem okTree_st (t : T) : okTree t = true ↔ okTree (stT t) = true ∧ ∀ x ∈ flT t (-1) 0, propsOk x.props = true := by
  unfold okTree
  rw [stT_name, szT_st]
  simp only [Bool.and_eq_true]
  have h := okT_st t 1 (-1) 0
  constructor
  · rintro ⟨h1, h2, h3⟩
    exact ⟨⟨h1, h2, (h.1 h3).1⟩, (h.1 h3).2⟩
  · rintro ⟨⟨h1, h2, h3⟩, h4⟩
    exact ⟨h1, h2, h.2 ⟨h3, h4⟩⟩
theorem stK_append : ∀ (a b : List T), stK (a ++ b) = stK a ++ stK b
  | [], b => rfl
  | t :: ts, b => by simp only [List.cons_append, stK, stK_append ts b]
theorem insK_st {g g' : T → T} {nm : Nm} (h : ∀ t, stT (g t) = g' (stT t)) : ∀ ks : List T, stK (insK g nm ks) = insK g' nm (stK ks)
  | [] => by simp only [insK, stK, h]; rfl
  | k :: ks => by
    simp only [insK, stK, stT_name]
    split
    · simp only [stK, h]
    · simp only [stK, insK_st h ks]
mutual
theorem layT_st : ∀ (π τ : T), stT (layT π τ) = layT (stT π) (stT τ)
  | .mk pn qs js, .mk n ps ks => by simp only [layT, stT, List.foldl_nil, layK_st js ks]
theorem layK_st : ∀ (js ks : List T), stK (layK js ks) = layK (stK js) (stK ks)
  | [], ks => rfl
  | j :: js, ks => by
    simp only [layK, stK, layK_st js, stT_name]
    rw [insK_st (g' := layT (stT j)) fun t => layT_st j t]
end
mutual
theorem layT_same : ∀ (π τ : T), szT (layT π τ) = szT τ → stT (layT π τ) = stT τ
  | .mk pn qs js, .mk n ps ks, h => by
    simp only [layT, szT] at h
    simp only [layT, stT, layK_same js ks (by omega)]
theorem layK_same : ∀ (js ks : List T), szK (layK js ks) = szK ks → stK (layK js ks) = stK ks
  | [], ks, _ => rfl
  | j :: js, ks, h => by
    rw [layK] at h ⊢
    have hm := (layK_mono js (insK (layT j) j.name ks)).1
    rcases insK_cases (layT j) j.name ks with ⟨k1, t, k2, rfl, _, _, h3⟩ | ⟨_, h3⟩
    · have h4 := (layT_mono j t).1
      rw [h3] at h hm ⊢
      simp only [szK_append, szK] at h hm
      rw [layK_same js _ (by simp only [szK_append, szK]; omega), stK_append, stK_append, stK, stK, layT_same j t (by omega)]
    · have h4 := szT_pos (layT j (.mk j.name [] []))
      rw [h3] at h hm
      simp only [szK_append, szK] at h hm
      omega
end
theorem updK_st {g g' : T → T} {nm : Nm} (h : ∀ t, stT (g t) = g' (stT t)) : ∀ ks : List T, stK (updK nm g ks) = updK nm g' (stK ks)
  | [] => rfl
  | k :: ks => by
    simp only [updK, stK, stT_name]
    split
    · simp only [stK, h]
    · simp only [stK, updK_st h ks]
theorem updP_st {g g' : T → T} (h : ∀ t, stT (g t) = g' (stT t)) : ∀ (nms : List Nm) (τ : T), stT (updP g nms τ) = updP g' nms (stT τ)
  | [], τ => h τ
  | nm :: r, .mk n p ks => by simp only [updP, stT, updK_st fun t => updP_st h r t]
theorem dropT_nil (t : T) : dropT [] t = t := by
  cases t
  simp [dropT, dropPr]
theorem layO_nil (nms : List Nm) (π τ : T) : layO [] nms π τ = updP (layT π) nms τ := by
  unfold layO
  congr 1
  funext σ
  rw [dropT_nil]
theorem layO_st (nms : List Nm) (π τ : T) : stT (layO [] nms π τ) = layO [] nms (stT π) (stT τ) := by
  rw [layO_nil, layO_nil, updP_st fun t => layT_st π t]
theorem kidAt_st {nm : Nm} : ∀ (ks : List T) (b : Nat), kidAt nm (stK ks) b = (kidAt nm ks b).map fun q => (stT q.1, q.2)
  | [], _ => rfl
  | t :: ts, b => by
    simp only [stK, kidAt, stT_name, szT_st]
    split
    · rfl
    · exact kidAt_st ts _
theorem atP_st : ∀ (ν : List Nm) (τ : T) (b : Nat), atP ν (stT τ) b = (atP ν τ b).map fun q => (stT q.1, q.2)
  | [], τ, b => rfl
  | nm :: r, τ, b => by
    rw [atP, atP, stT_kids, kidAt_st]
    cases kidAt nm τ.kids (b + 1) with
    | none => rfl
    | some q => exact atP_st r q.1 q.2
theorem updP_same {g : T → T} : ∀ {nms : List Nm} {τ σ : T} {b a : Nat}, atP nms τ b = some (σ, a) → stT (g σ) = stT σ → stT (updP g nms τ) = stT τ
  | [], τ, σ, b, a, h, hg => by
    simp only [atP, Option.some.injEq, Prod.mk.injEq] at h
    obtain ⟨rfl, _⟩ := h
    exact hg
  | nm :: r, .mk n p ks, σ, b, a, h, hg => by
    rw [atP] at h
    simp only [T.kids] at h
    cases hk : kidAt nm ks (b + 1) with
    | none => rw [hk] at h; cases h
    | some q =>
      rw [hk] at h
      obtain ⟨k1, k2, rfl, _, _, _, h4⟩ := kidAt_split hk
      simp only [updP, h4, stT, stK_append, stK, updP_same h hg]
theorem layO_same {nms : List Nm} {π τ σ : T} {b a : Nat} (h : atP nms τ b = some (σ, a)) (hs : szT (layO [] nms π τ) = szT τ) : stT (layO [] nms π τ) = stT τ := by
  rw [layO_nil] at hs ⊢
  rw [updP_const h] at hs
  have := (szT_upd (σ' := layT π σ) h).1
  exact updP_same h (layT_same π σ (by omega))

/-! Props that a piece lays over a path. -/
def over (nms : List Nm) (π : T) (ν : List Nm) : Option (List Pr) := if nms.isPrefixOf ν = true then gp (ν.drop nms.length) π else none
def apO (o : Option (List Pr)) (ps : List Pr) : List Pr := match o with | some qs => qs.foldl setPr ps | none => ps
theorem over_app {nms : List Nm} {π : T} {μ : List Nm} : over nms π (nms ++ μ) = gp μ π := by
  unfold over
  rw [if_pos (List.isPrefixOf_iff_prefix.2 ⟨μ, rfl⟩), List.drop_left]
theorem over_none {nms : List Nm} {π : T} {ν : List Nm} (h : ∀ μ, ν ≠ nms ++ μ) : over nms π ν = none := by
  unfold over
  rw [if_neg fun e => by obtain ⟨μ, rfl⟩ := List.isPrefixOf_iff_prefix.1 e; exact h μ rfl]
theorem gp_layO {nms : List Nm} {π τ σ : T} {i0 : Nat} (hat : atP nms τ 0 = some (σ, i0)) (hπ : okTree π = true) {ν : List Nm} {ps : List Pr} (h : gp ν τ = some ps) : gp ν (layO [] nms π τ) = some (apO (over nms π ν) ps) := by
  rw [layO_nil]
  have hup := gp_upd (g := layT π) (layT_name π) (ν := ν) hat
  by_cases hpre : ∃ μ, ν = nms ++ μ
  · obtain ⟨μ, rfl⟩ := hpre
    have hs : gp (nms ++ μ) τ = gp μ σ := by
      have := (gp_upd (g := fun x => x) (fun _ => rfl) (ν := nms ++ μ) hat).1 μ rfl
      rw [updP_id] at this
      exact this
    rw [hup.1 μ rfl, gp_lay (okT_of hπ), over_app, ← hs, h]
    cases gp μ π <;> rfl
  · rw [hup.2 fun μ e => hpre ⟨μ, e⟩, over_none fun μ e => hpre ⟨μ, e⟩, h]; rfl
/-- Props that may be but for their number. -/
def GoodP (l : List Pr) : Prop := (l.map (·.1)).Nodup ∧ ∀ p ∈ l, nameOk p.1 = true ∧ p.2.length ≤ 1024
theorem propsOk_iff (l : List Pr) : propsOk l = true ↔ l.length ≤ 32 ∧ GoodP l := by
  have key : ∀ (l : List Pr) (seen : List Nm), (l.map (·.1)).Nodup → (∀ p ∈ l, p.1 ∉ seen) → (∀ p ∈ l, nameOk p.1 = true ∧ p.2.length ≤ 1024) → propsGo seen l = true := by
    intro l
    induction l with
    | nil => intros; rfl
    | cons p r ih =>
      intro seen h1 h2 h3
      rw [List.map_cons, List.nodup_cons] at h1
      simp only [propsGo, Bool.and_eq_true, decide_eq_true_eq, Bool.not_eq_true']
      refine ⟨(h3 p (by simp)).1, (h3 p (by simp)).2, ?_, ih _ h1.2 (fun q hq e => ?_) fun q hq => h3 q (by simp [hq])⟩
      · rw [Bool.eq_false_iff]; intro e; exact h2 p (by simp) (List.contains_iff_mem.1 e)
      · rcases List.mem_append.1 e with e | e
        · exact h2 q (by simp [hq]) e
        · simp at e; exact h1.1 (by rw [← e]; exact List.mem_map.2 ⟨q, hq, rfl⟩)
  unfold propsOk GoodP
  simp only [Bool.and_eq_true, decide_eq_true_eq]
  constructor
  · rintro ⟨h1, h2⟩
    have := propsGo_nodup l [] h2
    exact ⟨h1, this.1, fun p hp => (this.2 p hp).2⟩
  · rintro ⟨h1, h2, h3⟩
    exact ⟨h1, key l [] h2 (by simp) h3⟩
theorem setPr_mem {ps : List Pr} {p q : Pr} (h : q ∈ setPr ps p) : q ∈ ps ∨ q = p := by
  unfold setPr at h
  split at h
  · rcases List.mem_or_eq_of_mem_set h with h | h
    · exact .inl h
    · exact .inr h
  · rcases List.mem_append.1 h with h | h
    · exact .inl h
    · exact .inr (by simpa using h)
theorem setPr_good {ps : List Pr} {p : Pr} (h : GoodP ps) (hp : nameOk p.1 = true ∧ p.2.length ≤ 1024) : GoodP (setPr ps p) := by
  refine ⟨?_, fun q hq => ?_⟩
  · rw [setPr_names]
    split
    · exact h.1
    · rename_i hc
      rw [List.nodup_append]
      refine ⟨h.1, by simp, fun a ha b hb e => ?_⟩
      simp at hb
      subst hb
      subst e
      exact hc (List.contains_iff_mem.2 ha)
  · rcases setPr_mem hq with h' | rfl
    · exact h.2 q h'
    · exact hp
theorem fold_good : ∀ {qs ps : List Pr}, GoodP ps → (∀ q ∈ qs, nameOk q.1 = true ∧ q.2.length ≤ 1024) → GoodP (qs.foldl setPr ps)
  | [], _, h, _ => h
  | q :: qs, ps, h, hq => by
    rw [List.foldl_cons]
    exact fold_good (setPr_good h (hq q (by simp))) fun x hx => hq x (by simp [hx])
theorem val_some_mem {ps : List Pr} {nm : Nm} {v : List UInt8} (h : val ps nm = some v) : (nm, v) ∈ ps := by
  unfold val at h
  obtain ⟨q, hq, rfl⟩ := Option.map_eq_some_iff.1 h
  have := List.find?_some hq
  simp at this
  rw [← this]
  exact List.mem_of_find?_eq_some hq
theorem sub_len {α : Type} [DecidableEq α] : ∀ {l m : List α}, l.Nodup → (∀ x ∈ l, x ∈ m) → l.length ≤ m.length
  | [], _, _, _ => by simp
  | x :: l, m, h, hs => by
    rw [List.nodup_cons] at h
    have hx := hs x (by simp)
    have := sub_len (m := m.erase x) h.2 fun y hy => (List.mem_erase_of_ne (fun e => h.1 (by rw [← e]; exact hy))).2 (hs y (by simp [hy]))
    rw [List.length_erase_of_mem hx] at this
    have hm := List.length_pos_of_mem hx
    simp only [List.length_cons]; omega
theorem good_len {l m : List Pr} (hl : GoodP l) (hm : GoodP m) (h : ∀ nm, val l nm = val m nm) : l.length = m.length := by
  have key : ∀ {l m : List Pr}, GoodP l → (∀ nm, val l nm = val m nm) → l.length ≤ m.length := fun {l m} hl h => by
    have := sub_len (m := m.map (·.1)) hl.1 fun x hx => by
      obtain ⟨p, hp, rfl⟩ := List.mem_map.1 hx
      have h1 := val_mem hl.1 hp
      rw [h] at h1
      exact List.mem_map.2 ⟨_, val_some_mem h1, rfl⟩
    simpa using this
  exact Nat.le_antisymm (key hl h) (key hm fun nm => (h nm).symm)
/-- Two ways of laying, at one path. -/
theorem two_ways {o1 o2 : Option (List Pr)} {ps : List Pr} (hp : GoodP ps) (h1 : ∀ qs, o1 = some qs → GoodP qs) (h2 : ∀ qs, o2 = some qs → GoodP qs)
    (hd : ∀ nm, (∃ qs, o1 = some qs ∧ (val qs nm).isSome = true) → ¬ ∃ qs, o2 = some qs ∧ (val qs nm).isSome = true) :
    GoodP (apO o2 (apO o1 ps)) ∧ GoodP (apO o1 (apO o2 ps)) ∧ ∀ nm, val (apO o2 (apO o1 ps)) nm = val (apO o1 (apO o2 ps)) nm := by
  have g : ∀ (o : Option (List Pr)) (l : List Pr), GoodP l → (∀ qs, o = some qs → GoodP qs) → GoodP (apO o l) := fun o l hl ho => by
    cases o with
    | none => exact hl
    | some qs => exact fold_good hl (ho qs rfl).2
  have v : ∀ (o : Option (List Pr)) (l : List Pr) (nm : Nm), (∀ qs, o = some qs → GoodP qs) → val (apO o l) nm = (match o.bind fun qs => val qs nm with | some v => some v | none => val l nm) := fun o l nm ho => by
    cases o with
    | none => rfl
    | some qs => exact val_foldl qs l nm (ho qs rfl).1
  refine ⟨g _ _ (g _ _ hp h1) h2, g _ _ (g _ _ hp h2) h1, fun nm => ?_⟩
  rw [v o2 _ nm h2, v o1 _ nm h1, v o1 _ nm h1, v o2 _ nm h2]
  have := hd nm
  cases e1 : o1.bind fun qs => val qs nm with
  | none => rfl
  | some v1 =>
    cases e2 : o2.bind fun qs => val qs nm with
    | none => rfl
    | some v2 =>
      obtain ⟨q1, hq1, hv1⟩ := Option.bind_eq_some_iff.1 e1
      obtain ⟨q2, hq2, hv2⟩ := Option.bind_eq_some_iff.1 e2
      exact absurd ⟨q2, hq2, by rw [hv2]; rfl⟩ (this ⟨q1, hq1, by rw [hv1]; rfl⟩)

mutual
theorem flT_inj' : ∀ (t s : T) (up up' : Int) (b : Nat) (r r' : List Nd), flT t up b ++ r = flT s up' b ++ r' → Off b (szT t) r → Off b (szT s) r' → t = s ∧ r = r'
  | .mk n p ks, .mk n' p' ks', up, up', b, r, r', h, h1, h2 => by
    simp only [flT, List.cons_append, List.cons.injEq, Nd.mk.injEq] at h
    obtain ⟨⟨_, rfl, rfl⟩, h⟩ := h
    simp only [szT] at h1 h2
    have := flK_inj ks ks' b (b + 1) r r' (by omega) h (fun x hx => by rcases h1 x hx with e | e; exact ⟨by omega, .inl (by omega)⟩; exact ⟨by omega, .inr (by omega)⟩) (fun x hx => by rcases h2 x hx with e | e; exact ⟨by omega, .inl (by omega)⟩; exact ⟨by omega, .inr (by omega)⟩)
    exact ⟨by rw [this.1], this.2⟩
theorem flK_inj : ∀ (ks js : List T) (u b : Nat) (r r' : List Nd), u < b → flK ks u b ++ r = flK js u b ++ r' → (∀ x ∈ r, x.parent ≠ u ∧ (x.parent < b ∨ (b + szK ks : Int) ≤ x.parent)) → (∀ x ∈ r', x.parent ≠ u ∧ (x.parent < b ∨ (b + szK js : Int) ≤ x.parent)) → ks = js ∧ r = r'
  | [], [], u, b, r, r', _, h, _, _ => ⟨rfl, by simpa [flK] using h⟩
  | [], j :: js, u, b, r, r', _, h, h1, _ => by
    obtain ⟨q, hq⟩ := flT_head j (u : Int) b
    simp only [flK, hq, List.nil_append, List.append_assoc, List.cons_append] at h
    exact absurd rfl (h1 ⟨u, j.name, j.props⟩ (by rw [h]; simp)).1
  | k :: ks, [], u, b, r, r', _, h, _, h2 => by
    obtain ⟨q, hq⟩ := flT_head k (u : Int) b
    simp only [flK, hq, List.nil_append, List.append_assoc, List.cons_append] at h
    exact absurd rfl (h2 ⟨u, k.name, k.props⟩ (by rw [← h]; simp)).1
  | k :: ks, j :: js, u, b, r, r', hu, h, h1, h2 => by
    simp only [flK, List.append_assoc] at h
    simp only [szK] at h1 h2
    have off : ∀ (k : T) (ks : List T) (r : List Nd), (∀ x ∈ r, x.parent ≠ u ∧ (x.parent < b ∨ ((b : Int) + ((szT k + szK ks : Nat) : Int)) ≤ x.parent)) → Off b (szT k) (flK ks u (b + szT k) ++ r) := fun k ks r h x hx => by
      rcases List.mem_append.1 hx with hx | hx
      · rcases flK_par ks u (b + szT k) (by omega) x hx with e | e
        · left; omega
        · right; omega
      · rcases (h x hx).2 with e | e
        · left; omega
        · right; omega
    have h3 := flT_inj' k j u u b _ _ h (off k ks r h1) (off j js r' h2)
    obtain ⟨rfl, h4⟩ := h3
    have h5 := flK_inj ks js u (b + szT k) r r' (by omega) h4 (fun x hx => ⟨(h1 x hx).1, by rcases (h1 x hx).2 with e | e; left; omega; right; omega⟩) (fun x hx => ⟨(h2 x hx).1, by rcases (h2 x hx).2 with e | e; left; omega; right; omega⟩)
    exact ⟨by rw [h5.1], h5.2⟩
end
theorem flT_inj {t s : T} (h : flT t (-1) 0 = flT s (-1) 0) : t = s :=
  (flT_inj' t s (-1) (-1) 0 [] [] (by simpa using h) (fun x hx => by simp at hx) (fun x hx => by simp at hx)).1
theorem nmsF_st (l : List Nd) : ∀ f i, nmsF (l.map stN) f i = nmsF l f i
  | 0, _ => rfl
  | f + 1, i => by
    simp only [nmsF, List.getElem?_map]
    split
    · rfl
    · cases l[i]? with
      | none => rfl
      | some x => simp only [Option.map_some, stN, nmsF_st l f]
theorem nmsOf_st (l : List Nd) (i : Nat) : nmsOf (l.map stN) i = nmsOf l i := nmsF_st l i i
theorem laid_path {t u : List Nd} {p : Pc} {τ π σ : T} {nms : List Nm} {i0 : Nat} (h : layM t p = (u, 0)) (L : Laid t u p τ π σ nms i0) : pathN p.target = some nms := by
  have := layM_T L.pk L.n L.ot
  rw [← L.t, h] at this
  cases hn : pathN p.target with
  | none => rw [hn] at this; simp at this
  | some n' =>
    rw [hn] at this
    simp only [Option.bind_some] at this
    cases ha : atP n' τ 0 with
    | none => rw [ha] at this; simp at this
    | some q =>
      have h1 := pathN_S hn
      rw [L.tg] at h1
      have hg : ∀ n ∈ n', GoodN n := fun n hn => by
        rw [← (nms_atP L.ot ha).1] at hn
        exact (nmsOf_good (by rw [treeOk_flT]; exact L.ot) _ n hn).1
      rw [pathS_inj L.good hg h1]

/-! The statement's look. -/
structure AlikeP (c d : List Nd) : Prop where
  len : c.length = d.length
  nd : ∀ (i : Nat) (x y : Nd), c[i]? = some x → d[i]? = some y → x.parent = y.parent ∧ x.name = y.name ∧ x.props.length = y.props.length ∧ ∀ r ∈ x.props, val y.props r.1 = some r.2
/-- Each node of a tree of the same make. -/
theorem at_same {τ τ' : T} (hτ : okTree (stT τ) = true) (hs : stT τ' = stT τ) {i : Nat} {x : Nd} (hx : (flT τ (-1) 0)[i]? = some x) : ∃ y, (flT τ' (-1) 0)[i]? = some y ∧ y.parent = x.parent ∧ y.name = x.name ∧ gp (nmsOf (flT (stT τ) (-1) 0) i) τ' = some y.props := by
  have hi := (List.getElem?_eq_some_iff.1 hx).1
  rw [flT_length] at hi
  obtain ⟨σ, hσ⟩ := atP_nms hτ i (by rw [szT_st]; exact hi)
  rw [← hs, atP_st] at hσ
  obtain ⟨⟨ρ, j⟩, hρ, e⟩ := Option.map_eq_some_iff.1 hσ
  simp only [Prod.mk.injEq] at e
  obtain ⟨_, rfl⟩ := e
  obtain ⟨up, rest, h1, _⟩ := atP_pos (l := flT τ' (-1) 0) (up := -1) (rest := []) (by simp) (fun x hx => by simp at hx) hρ
  have hg := get_flT h1
  have e2 := flT_st τ (-1) 0
  rw [← hs, flT_st] at e2
  have e3 := congrArg (fun q => q[j]?) e2
  simp only [List.getElem?_map, hg, hx, Option.map_some, Option.some.injEq] at e3
  simp only [stN, Nd.mk.injEq, and_true] at e3
  refine ⟨_, hg, e3.1, e3.2, ?_⟩
  rw [← hs]
  exact gp_some hρ
theorem over_good {nms : List Nm} {π : T} (hπ : okTree π = true) {ν : List Nm} {qs : List Pr} (h : over nms π ν = some qs) : GoodP qs := by
  unfold over at h
  split at h
  · obtain ⟨k, x, hx, _, rfl⟩ := nms_of_gp hπ h
    exact ((propsOk_iff _).1 (treeOk_nd (by rw [treeOk_flT]; exact hπ) hx).pr).2
  · cases h
/-- What the law comes to. -/
theorem beside {t a b : List Nd} {p q : Pc} (hpd : p.drop = []) (hqd : q.drop = []) (ha : layM t p = (a, 0)) (hb : layM t q = (b, 0)) (hla : a.length = t.length) (hlb : b.length = t.length)
    (hd : ∀ i x, a[i]? = some x → ∀ r ∈ x.props, ¬ (namesB p (pathS (nmsOf t i)) r.1 = true ∧ namesB q (pathS (nmsOf t i)) r.1 = true)) :
    (layM a q).2 = (layM b p).2 ∧ ((layM a q).2 = 0 → AlikeP (layM a q).1 (layM b p).1) := by
  obtain ⟨τ, π, σ1, n1, i1, L1⟩ := laid_of ha
  obtain ⟨τ', ρ, σ2, n2, i2, L2⟩ := laid_of hb
  have hττ : τ' = τ := by
    have h1 := L1.t
    rw [L2.t] at h1
    exact flT_inj h1
  subst hττ
  have hst1 : stT (layO [] n1 π τ') = stT τ' := layO_same L1.at' (by have := L1.u; rw [hpd] at this; rw [this, L1.t, flT_length, flT_length] at hla; exact hla)
  have hst2 : stT (layO [] n2 ρ τ') = stT τ' := layO_same L2.at' (by have := L2.u; rw [hqd] at this; rw [this, L2.t, flT_length, flT_length] at hlb; exact hlb)
  have au := L1.u
  have ao := L1.ou
  rw [hpd] at au ao
  have bu := L2.u
  have bo := L2.ou
  rw [hqd] at bu bo
  -- the target of the one in the tree with the other
  have tgt : ∀ (τa : T) (nms : List Nm) (σ : T) (i : Nat), stT τa = stT τ' → atP nms τ' 0 = some (σ, i) → ∃ σ', atP nms τa 0 = some (σ', i) ∧ stT σ' = stT σ := fun τa nms σ i hs h => by
    have h1 := atP_st nms τa 0
    rw [hs, atP_st, h] at h1
    simp only [Option.map_some] at h1
    obtain ⟨⟨σ', j⟩, h2, e⟩ := Option.map_eq_some_iff.1 h1.symm
    simp only [Prod.mk.injEq] at e
    obtain ⟨e1, rfl⟩ := e
    exact ⟨σ', h2, e1⟩
  obtain ⟨σ1', at1, sσ1⟩ := tgt _ n2 σ2 i2 hst1 L2.at'
  obtain ⟨σ2', at2, sσ2⟩ := tgt _ n1 σ1 i1 hst2 L1.at'
  have pn1 : pathN p.target = some n1 := laid_path ha L1
  have pn2 : pathN q.target = some n2 := laid_path hb L2
  have e1 : layM a q = if okTree (layO [] n2 ρ (layO [] n1 π τ')) = true then (flT (layO [] n2 ρ (layO [] n1 π τ')) (-1) 0, 0) else ([], 40) := by
    rw [au, layM_T L2.pk L2.n ao, pn2, Option.bind_some, at1]
    simp only [Option.map_some, hqd]
  have e2 : layM b p = if okTree (layO [] n1 π (layO [] n2 ρ τ')) = true then (flT (layO [] n1 π (layO [] n2 ρ τ')) (-1) 0, 0) else ([], 40) := by
    rw [bu, layM_T L1.pk L1.n bo, pn1, Option.bind_some, at2]
    simp only [Option.map_some, hpd]
  have sc : stT (layO [] n2 ρ (layO [] n1 π τ')) = stT τ' := by rw [layO_st, hst1, ← layO_st, hst2]
  have sd : stT (layO [] n1 π (layO [] n2 ρ τ')) = stT τ' := by rw [layO_st, hst2, ← layO_st, hst1]
  have okst : okTree (stT τ') = true := ((okTree_st τ').1 L1.ot).1
  have hnms : ∀ i, nmsOf (flT (stT τ') (-1) 0) i = nmsOf t i := fun i => by rw [flT_st, L1.t]; exact nmsOf_st _ i
  -- each node's props
  have each : ∀ (i : Nat) (x : Nd), (flT τ' (-1) 0)[i]? = some x → ∃ y z : Nd, (flT (layO [] n2 ρ (layO [] n1 π τ')) (-1) 0)[i]? = some y ∧ (flT (layO [] n1 π (layO [] n2 ρ τ')) (-1) 0)[i]? = some z ∧ y.parent = z.parent ∧ y.name = z.name ∧ GoodP y.props ∧ GoodP z.props ∧ ∀ nm, val y.props nm = val z.props nm := by
    intro i x hx
    obtain ⟨x', hx', _, _, gx⟩ := at_same okst rfl hx
    rw [hx] at hx'
    cases hx'
    obtain ⟨y, hy, py, ny, gy⟩ := at_same okst sc hx
    obtain ⟨z, hz, pz, nz, gz⟩ := at_same okst sd hx
    obtain ⟨xa, hxa, _, _, ga⟩ := at_same okst hst1 hx
    obtain ⟨xb, hxb, _, _, gb⟩ := at_same okst hst2 hx
    have ga' := gp_layO L1.at' L1.on gx
    have gb' := gp_layO L2.at' L2.on gx
    have gc' := gp_layO at1 L2.on ga
    have gd' := gp_layO at2 L1.on gb
    rw [ga] at ga'
    rw [gb] at gb'
    rw [gy] at gc'
    rw [gz] at gd'
    simp only [Option.some.injEq] at ga' gb' gc' gd'
    have hxg : GoodP x.props := ((propsOk_iff _).1 (treeOk_nd (by rw [treeOk_flT]; exact L1.ot) hx).pr).2
    have hg : ∀ n ∈ nmsOf t i, GoodN n := fun n hn => (nmsOf_good (by rw [L1.t, treeOk_flT]; exact L1.ot) i n hn).1
    rw [hnms] at ga' gb' gc' gd'
    have hnm1 : ∀ nm, (∃ qs, over n1 π (nmsOf t i) = some qs ∧ (val qs nm).isSome = true) → namesB p (pathS (nmsOf t i)) nm = true := fun nm ⟨qs, ho, hv⟩ => by
      refine (L1.names hg).2 (.inr ?_)
      unfold over at ho
      split at ho
      · rename_i hpre
        obtain ⟨μ, hμ⟩ := List.isPrefixOf_iff_prefix.1 hpre
        rw [← hμ, List.drop_left] at ho
        exact ⟨μ, qs, hμ.symm, ho, hv⟩
      · cases ho
    have hnm2 : ∀ nm, (∃ qs, over n2 ρ (nmsOf t i) = some qs ∧ (val qs nm).isSome = true) → namesB q (pathS (nmsOf t i)) nm = true := fun nm ⟨qs, ho, hv⟩ => by
      refine (L2.names hg).2 (.inr ?_)
      unfold over at ho
      split at ho
      · rename_i hpre
        obtain ⟨μ, hμ⟩ := List.isPrefixOf_iff_prefix.1 hpre
        rw [← hμ, List.drop_left] at ho
        exact ⟨μ, qs, hμ.symm, ho, hv⟩
      · cases ho
    have tw := two_ways (o1 := over n1 π (nmsOf t i)) (o2 := over n2 ρ (nmsOf t i)) hxg (fun qs h => over_good L1.on h) (fun qs h => over_good L2.on h) (fun nm h1 h2 => by
      obtain ⟨qs, ho, hv⟩ := h1
      have hin : ∃ v, val xa.props nm = some v := by
        rw [ga', ho]
        obtain ⟨v, hv'⟩ := Option.isSome_iff_exists.1 hv
        exact ⟨v, by show val (qs.foldl setPr x.props) nm = _; rw [val_foldl _ _ _ (over_good L1.on ho).1, hv']⟩
      obtain ⟨v, hv'⟩ := hin
      rw [au] at hd
      exact hd i xa hxa _ (val_some_mem hv') ⟨hnm1 nm ⟨qs, ho, hv⟩, hnm2 nm h2⟩)
    rw [← ga', ← gb', ← gc', ← gd'] at tw
    exact ⟨y, z, hy, hz, py.trans pz.symm, ny.trans nz.symm, tw⟩
  have szc : szT (layO [] n2 ρ (layO [] n1 π τ')) = szT τ' := by rw [← szT_st, sc, szT_st]
  have szd : szT (layO [] n1 π (layO [] n2 ρ τ')) = szT τ' := by rw [← szT_st, sd, szT_st]
  have hok : okTree (layO [] n2 ρ (layO [] n1 π τ')) = true ↔ okTree (layO [] n1 π (layO [] n2 ρ τ')) = true := by
    rw [okTree_st, okTree_st (layO [] n1 π _), sc, sd]
    constructor
    · rintro ⟨h1, h2⟩
      refine ⟨h1, fun z hz => ?_⟩
      obtain ⟨i, hi⟩ := List.mem_iff_getElem?.1 hz
      have hl := (List.getElem?_eq_some_iff.1 hi).1
      rw [flT_length, szd] at hl
      obtain ⟨x, hx⟩ := get_lt (flT τ' (-1) 0) (k := i) (by rw [flT_length]; exact hl)
      obtain ⟨y, z', hy, hz', _, _, g1, g2, hv⟩ := each i x hx
      rw [hi] at hz'
      cases hz'
      have := (propsOk_iff _).1 (h2 y (List.mem_of_getElem? hy))
      exact (propsOk_iff _).2 ⟨by rw [← good_len g1 g2 hv]; exact this.1, g2⟩
    · rintro ⟨h1, h2⟩
      refine ⟨h1, fun y hy => ?_⟩
      obtain ⟨i, hi⟩ := List.mem_iff_getElem?.1 hy
      have hl := (List.getElem?_eq_some_iff.1 hi).1
      rw [flT_length, szc] at hl
      obtain ⟨x, hx⟩ := get_lt (flT τ' (-1) 0) (k := i) (by rw [flT_length]; exact hl)
      obtain ⟨y', z, hy', hz, _, _, g1, g2, hv⟩ := each i x hx
      rw [hi] at hy'
      cases hy'
      have := (propsOk_iff _).1 (h2 z (List.mem_of_getElem? hz))
      exact (propsOk_iff _).2 ⟨by rw [good_len g1 g2 hv]; exact this.1, g1⟩
  by_cases hc : okTree (layO [] n2 ρ (layO [] n1 π τ')) = true
  · have hdk := hok.1 hc
    rw [e1, e2, if_pos hc, if_pos hdk]
    refine ⟨rfl, fun _ => ⟨by rw [flT_length, flT_length, szc, szd], fun i y z hy hz => ?_⟩⟩
    have hl := (List.getElem?_eq_some_iff.1 hy).1
    rw [flT_length, szc] at hl
    obtain ⟨x, hx⟩ := get_lt (flT τ' (-1) 0) (k := i) (by rw [flT_length]; exact hl)
    obtain ⟨y', z', hy', hz', h1, h2, g1, g2, hv⟩ := each i x hx
    dsimp only at hy hz
    rw [hy] at hy'
    rw [hz] at hz'
    cases hy'
    cases hz'
    exact ⟨h1, h2, good_len g1 g2 hv, fun r hr => by rw [← hv, val_mem g1.1 hr]⟩
  · have hdk : ¬ okTree (layO [] n1 π (layO [] n2 ρ τ')) = true := fun h => hc (hok.2 h)
    rw [e1, e2, if_neg hc, if_neg hdk]
    exact ⟨rfl, fun e => by simp at e⟩
end Go.Proofs.YtjpebmgllfiloaaDoor
