/-
  What stands in a laid tree: each node by its path, its props by their names.
-/
import Derived.Test.YtjpebmgllfiloaaDoorPw
namespace Go.Proofs.YtjpebmgllfiloaaDoor
open Go Wk

theorem join_split : ∀ l : List UInt8, (splitR 47 l).flatMap (fun n => 47 :: n) = 47 :: l
  | [] => rfl
  | b :: l => by
    have ih := join_split l
    rw [splitR]
    split
    · rename_i hb
      subst hb
      rw [List.flatMap_cons, ih]; rfl
    · split
      · rename_i h t e
        rw [e, List.flatMap_cons] at ih
        rw [List.flatMap_cons]
        simp only [List.cons_append, List.cons.injEq, true_and] at ih ⊢
        exact ih
      · rename_i e
        exact absurd e (splitR_ne 47 l)
theorem pathN_S {s : List UInt8} {nms : List Nm} (h : pathN s = some nms) : s = pathS nms := by
  unfold pathN at h
  split at h
  · rename_i hp
    have hs : s = 47 :: Lib.trimPrefix s [47] := by
      unfold Lib.trimPrefix
      rw [if_pos hp]
      unfold Lib.hasPrefix at hp
      have := List.isPrefixOf_iff_prefix.1 hp
      obtain ⟨r, rfl⟩ := this
      simp
    split at h
    · rename_i he
      cases h
      rw [hs, he]; rfl
    · rename_i he
      cases h
      unfold pathS
      rw [if_neg (splitR_ne 47 _), join_split]; exact hs
  · cases h
theorem nms_inj {t : List Nd} (ht : treeOk t = true) {j k : Nat} (hj : j < t.length) (hk : k < t.length) (h : pathS (nmsOf t j) = pathS (nmsOf t k)) : j = k := by
  have h2 := pathS_inj (fun n hn => (nmsOf_good ht j n hn).1) (fun n hn => (nmsOf_good ht k n hn).1) h
  obtain ⟨τ, rfl, hτ⟩ := treeOk_parse ht
  rw [flT_length] at hj hk
  obtain ⟨σ, h3⟩ := atP_nms hτ j hj
  obtain ⟨ρ, h4⟩ := atP_nms hτ k hk
  rw [h2, h4] at h3
  simp only [Option.some.injEq, Prod.mk.injEq] at h3
  exact h3.2.symm
theorem gp_of_nms {τ : T} (hτ : okTree τ = true) {i : Nat} {x : Nd} (hx : (flT τ (-1) 0)[i]? = some x) : gp (nmsOf (flT τ (-1) 0) i) τ = some x.props := by
  have hi := (List.getElem?_eq_some_iff.1 hx).1
  rw [flT_length] at hi
  obtain ⟨σ, h⟩ := atP_nms hτ i hi
  obtain ⟨_, _, up, h2⟩ := nms_atP hτ h
  rw [hx] at h2
  cases h2
  exact gp_some h
theorem nms_of_gp {τ : T} (hτ : okTree τ = true) {ν : List Nm} {ps : List Pr} (h : gp ν τ = some ps) : ∃ k x, (flT τ (-1) 0)[k]? = some x ∧ nmsOf (flT τ (-1) 0) k = ν ∧ x.props = ps := by
  rw [← gp_at (b := 0)] at h
  cases ha : atP ν τ 0 with
  | none => rw [ha] at h; cases h
  | some q =>
    rw [ha] at h
    obtain ⟨σ, k⟩ := q
    cases h
    obtain ⟨h1, _, up, h2⟩ := nms_atP hτ ha
    exact ⟨k, _, h2, h1, rfl⟩
theorem gp_drop {D : List Nm} {σ : T} {μ : List Nm} : gp μ (dropT D σ) = if μ = [] then some (dropPr D σ.props) else gp μ σ := by
  cases σ
  cases μ with
  | nil => rfl
  | cons _ _ => rfl
theorem updP_id : ∀ (nms : List Nm) (τ : T), updP (fun x => x) nms τ = τ
  | [], τ => rfl
  | nm :: r, .mk n p ks => by
    simp only [updP]
    congr 1
    induction ks with
    | nil => rfl
    | cons k ks ih =>
      rw [updK]
      split
      · rw [updP_id r k]
      · rw [ih]
/-- A laid tree, taken apart. -/
structure Laid (t u : List Nd) (p : Pc) (τ π σ : T) (nms : List Nm) (i0 : Nat) : Prop where
  t : t = flT τ (-1) 0
  ot : okTree τ = true
  n : p.nodes = flT π (-1) 0
  on : okTree π = true
  tg : p.target = pathS nms
  at' : atP nms τ 0 = some (σ, i0)
  u : u = flT (layO p.drop nms π τ) (-1) 0
  ou : okTree (layO p.drop nms π τ) = true
  pk : pieceOk p = true
theorem laid_of {t u : List Nd} {p : Pc} (h : layM t p = (u, 0)) : ∃ τ π σ nms i0, Laid t u p τ π σ nms i0 := by
  have h0 := h
  unfold layM at h0
  split at h0
  · rename_i ht
    split at h0
    · rename_i hp
      clear h0
      obtain ⟨τ, rfl, hτ⟩ := treeOk_parse ht
      obtain ⟨π, hπ, hπo⟩ := treeOk_parse (pieceOk_nodes hp)
      rw [layM_T hp hπ hτ] at h
      cases hn : pathN p.target with
      | none => rw [hn] at h; simp at h
      | some nms =>
        rw [hn] at h
        simp only [Option.bind_some] at h
        cases ha : atP nms τ 0 with
        | none => rw [ha] at h; simp at h
        | some q =>
          obtain ⟨σ, i0⟩ := q
          rw [ha] at h
          simp only [Option.map_some] at h
          split at h
          · rename_i ho
            simp only [Prod.mk.injEq, and_true] at h
            exact ⟨τ, π, σ, nms, i0, rfl, hτ, hπ, hπo, pathN_S hn, ha, h.symm, ho, hp⟩
          · simp at h
    · simp at h0
  · simp at h0
section
variable {t u : List Nd} {p : Pc} {τ π σ : T} {nms : List Nm} {i0 : Nat}
theorem lay_gname {D : List Nm} (t : T) : (layT π (dropT D t)).name = t.name := by rw [layT_name]; cases t; rfl
theorem Laid.good (h : Laid t u p τ π σ nms i0) : ∀ n ∈ nms, GoodN n := by
  have h1 := (nms_atP h.ot h.at').1
  intro n hn
  rw [← h1] at hn
  exact (nmsOf_good (by rw [treeOk_flT]; exact h.ot) i0 n hn).1
theorem okT_of (h : okTree τ = true) : okT 1 τ = true := by unfold okTree at h; simp only [Bool.and_eq_true] at h; exact h.2.2
theorem Laid.full (h : Laid t u p τ π σ nms i0) {j : Nat} : fullP p j = pathS (nms ++ nmsOf p.nodes j) := by
  have hg := h.good
  have hm : ∀ n ∈ nmsOf p.nodes j, GoodN n := fun n hn => (nmsOf_good (pieceOk_nodes h.pk) j n hn).1
  unfold fullP
  rw [h.tg]
  split
  · rename_i e
    have : nms = [] := pathS_inj hg (by simp) (by rw [e]; rfl)
    rw [this, List.nil_append]
  · rename_i e
    split
    · rename_i e2
      have : nmsOf p.nodes j = [] := pathS_inj hm (by simp) (by rw [e2]; rfl)
      rw [this, List.append_nil]
    · rename_i e2
      have h1 : nms ≠ [] := fun e' => e (by rw [e']; rfl)
      have h2 : nmsOf p.nodes j ≠ [] := fun e' => e2 (by rw [e']; rfl)
      unfold pathS
      rw [if_neg h1, if_neg h2, if_neg (by simp [h1]), List.flatMap_append]
theorem Laid.names (h : Laid t u p τ π σ nms i0) {ν : List Nm} (hν : ∀ n ∈ ν, GoodN n) {q : Nm} : namesB p (pathS ν) q = true ↔ (ν = nms ∧ q ∈ p.drop) ∨ ∃ μ qs, ν = nms ++ μ ∧ gp μ π = some qs ∧ (val qs q).isSome = true := by
  have hg := h.good
  unfold namesB
  rw [Bool.or_eq_true, Bool.and_eq_true, decide_eq_true_eq, List.contains_iff_mem, List.any_eq_true]
  constructor
  · rintro (⟨h1, h2⟩ | ⟨j, hj, h1⟩)
    · rw [h.tg] at h1
      exact .inl ⟨pathS_inj hν hg h1, h2⟩
    · rw [Bool.and_eq_true, decide_eq_true_eq, h.full] at h1
      have hm : ∀ n ∈ nms ++ nmsOf p.nodes j, GoodN n := fun n hn => by
        rcases List.mem_append.1 hn with hn | hn
        · exact hg n hn
        · exact (nmsOf_good (pieceOk_nodes h.pk) j n hn).1
      have h2 := pathS_inj hm hν h1.1
      obtain ⟨x, hx⟩ := get_lt p.nodes (List.mem_range.1 hj)
      have h3 := h1.2
      unfold hasV at h3
      rw [hx] at h3
      rw [h.n] at hx h2
      exact .inr ⟨_, _, h2.symm, gp_of_nms h.on hx, h3⟩
  · rintro (⟨h1, h2⟩ | ⟨μ, qs, h1, h2, h3⟩)
    · exact .inl ⟨by rw [h1, h.tg], h2⟩
    · obtain ⟨k, x, hx, hk, hps⟩ := nms_of_gp h.on h2
      rw [← h.n] at hx hk
      refine .inr ⟨k, List.mem_range.2 (List.getElem?_eq_some_iff.1 hx).1, ?_⟩
      rw [h.full, hk, ← h1]
      unfold hasV
      rw [hx]
      dsimp only
      rw [hps, h3, decide_eq_true rfl]; rfl
theorem pieceOk_drop (h : pieceOk p = true) {x : Nd} (hx : p.nodes[0]? = some x) : ∀ d ∈ p.drop, val x.props d = none := by
  unfold pieceOk at h
  simp only [Bool.and_eq_true] at h
  have h2 := h.2.2
  cases hn : p.nodes with
  | nil => rw [hn] at hx; cases hx
  | cons y r =>
    rw [hn] at h2 hx
    simp at hx
    subst hx
    dsimp only at h2
    have key : ∀ (l : List Nm) (seen : List Nm), dropGo y.props seen l = true → ∀ d ∈ l, val y.props d = none := by
      intro l
      induction l with
      | nil => intro seen _ d hd; simp at hd
      | cons s r ih =>
        intro seen h d hd
        simp only [dropGo, Bool.and_eq_true, Bool.not_eq_true'] at h
        rcases List.mem_cons.1 hd with rfl | hd
        · refine val_none.2 fun q hq e => ?_
          have := List.any_eq_false.1 h.2.2.1 q hq
          simp [e] at this
        · exact ih _ h.2.2.2 d hd
    exact key p.drop [] h2
/-- The props at a path of the laid tree. -/
theorem Laid.gp (h : Laid t u p τ π σ nms i0) {ν : List Nm} {ps : List Pr} (hν : Go.Proofs.YtjpebmgllfiloaaDoor.gp ν τ = some ps) (hgν : ∀ n ∈ ν, GoodN n) : ∃ ps', Go.Proofs.YtjpebmgllfiloaaDoor.gp ν (layO p.drop nms π τ) = some ps' ∧ ∀ q, namesB p (pathS ν) q = false → val ps' q = val ps q := by
  have hup := gp_upd (g := fun σ => layT π (dropT p.drop σ)) lay_gname (ν := ν) h.at'
  unfold layO
  by_cases hpre : ∃ μ, ν = nms ++ μ
  · obtain ⟨μ, rfl⟩ := hpre
    rw [hup.1 μ rfl, gp_lay (okT_of h.on), gp_drop]
    have hs : Go.Proofs.YtjpebmgllfiloaaDoor.gp (nms ++ μ) τ = Go.Proofs.YtjpebmgllfiloaaDoor.gp μ σ := by
      have := (gp_upd (g := fun x => x) (fun _ => rfl) (ν := nms ++ μ) h.at').1 μ rfl
      rw [updP_id] at this
      exact this
    rw [hs] at hν
    have hb : ∃ b, (if μ = [] then some (dropPr p.drop σ.props) else Go.Proofs.YtjpebmgllfiloaaDoor.gp μ σ) = some b ∧ ∀ q, (μ = [] → q ∉ p.drop) → val b q = val ps q := by
      split
      · rename_i e
        subst e
        have : σ.props = ps := Option.some.inj hν
        subst this
        refine ⟨_, rfl, fun q hq => ?_⟩
        rw [val_drop, if_neg (fun hc => hq rfl (List.contains_iff_mem.1 hc))]
      · exact ⟨ps, hν, fun _ _ => rfl⟩
    obtain ⟨b, hb1, hb2⟩ := hb
    rw [hb1]
    have hnm : ∀ q, namesB p (pathS (nms ++ μ)) q = false → (μ = [] → q ∉ p.drop) := fun q hq e hd => by
      subst e
      rw [(h.names (by simpa using hgν)).2 (.inl ⟨by simp, hd⟩)] at hq
      cases hq
    cases hπ : Go.Proofs.YtjpebmgllfiloaaDoor.gp μ π with
    | none => exact ⟨b, rfl, fun q hq => hb2 q (hnm q hq)⟩
    | some qs =>
      refine ⟨_, rfl, fun q hq => ?_⟩
      obtain ⟨k, x, hx, _, hps⟩ := nms_of_gp h.on hπ
      have hnd := propsOk_nodup (treeOk_nd (by rw [treeOk_flT]; exact h.on) hx).pr
      rw [hps] at hnd
      rw [val_foldl qs _ q hnd]
      cases hv : val qs q with
      | none => exact hb2 q (hnm q hq)
      | some v =>
        rw [(h.names hgν).2 (.inr ⟨μ, qs, rfl, hπ, by rw [hv]; rfl⟩)] at hq
        cases hq
  · rw [hup.2 fun μ e => hpre ⟨μ, e⟩]
    exact ⟨ps, hν, fun _ _ => rfl⟩
end
/-- What the law asks of a laid tree. -/
structure LayF (t u : List Nd) (p : Pc) : Prop where
  tt : treeOk t = true
  tu : treeOk u = true
  tn : treeOk p.nodes = true
  len : t.length ≤ u.length
  node : ∀ i x, t[i]? = some x → ∃ k y, u[k]? = some y ∧ pathS (nmsOf u k) = pathS (nmsOf t i) ∧ ∀ q, namesB p (pathS (nmsOf t i)) q = false → val y.props q = val x.props q
  tgt : ∃ k y, u[k]? = some y ∧ pathS (nmsOf u k) = p.target ∧ (∀ d ∈ p.drop, val y.props d = none) ∧ ∀ x, p.nodes[0]? = some x → ∀ q ∈ x.props, val y.props q.1 = some q.2
theorem layF {t u : List Nd} {p : Pc} (h : layM t p = (u, 0)) : LayF t u p := by
  obtain ⟨τ, π, σ, nms, i0, L⟩ := laid_of h
  have ht : treeOk t = true := by rw [L.t, treeOk_flT]; exact L.ot
  have hu : treeOk u = true := by rw [L.u, treeOk_flT]; exact L.ou
  refine ⟨ht, hu, pieceOk_nodes L.pk, ?_, fun i x hx => ?_, ?_⟩
  · rw [L.t, L.u, flT_length, flT_length]
    unfold layO
    rw [updP_const L.at']
    have h1 := (szT_upd (σ' := layT π (dropT p.drop σ)) L.at').1
    have h2 := (layT_mono π (dropT p.drop σ)).1
    rw [szT_drop] at h2
    omega
  · have hg : ∀ n ∈ nmsOf t i, GoodN n := fun n hn => (nmsOf_good ht i n hn).1
    have hx' := hx
    rw [L.t] at hx' hg
    obtain ⟨ps', h1, h2⟩ := L.gp (gp_of_nms L.ot hx') hg
    obtain ⟨k, y, h3, h4, h5⟩ := nms_of_gp L.ou h1
    rw [← L.u] at h3 h4
    rw [← L.t] at h4 h2
    exact ⟨k, y, h3, by rw [h4], fun q hq => by rw [h5, h2 q hq]⟩
  · have hup := (gp_upd (g := fun σ => layT π (dropT p.drop σ)) lay_gname (ν := nms) L.at').1 [] (by simp)
    have hps : gp [] (layT π (dropT p.drop σ)) = some (π.props.foldl setPr (dropPr p.drop σ.props)) := by
      cases π; cases σ; rfl
    rw [hps] at hup
    obtain ⟨k, y, h3, h4, h5⟩ := nms_of_gp L.ou hup
    rw [← L.u] at h3 h4
    have hr := get_flT (l := flT π (-1) 0) (rest := []) (b := 0) (τ := π) (up := -1) (by simp)
    rw [← L.n] at hr
    have hnd := propsOk_nodup (treeOk_nd (pieceOk_nodes L.pk) hr).pr
    dsimp only at hnd
    refine ⟨k, y, h3, by rw [h4, L.tg], fun d hd => ?_, fun x hx q hq => ?_⟩
    · have := pieceOk_drop L.pk hr d hd
      dsimp only at this
      rw [h5, val_foldl _ _ _ hnd, this, val_drop, if_pos (List.contains_iff_mem.2 hd)]
    · rw [hr] at hx
      cases hx
      rw [h5, val_foldl _ _ _ hnd, val_mem hnd hq]
end Go.Proofs.YtjpebmgllfiloaaDoor
