/-
  Laid twice is laid once; what is taken off again.
-/
import Derived.Test.YtjpebmgllfiloaaDoorBs
import Derived.Test.YtjpebmgllfiloaaDoorTk
namespace Go.Proofs.YtjpebmgllfiloaaDoor
open Go Wk

theorem setPr_id {ps : List Pr} {q : Pr} (h : val ps q.1 = some q.2) : setPr ps q = ps := by
  unfold setPr
  cases hf : ps.findIdx? (fun y => decide (y.1 = q.1)) with
  | none =>
    have hn := List.findIdx?_eq_none_iff.1 hf
    rw [val_none.2 fun p hp e => by have := hn p hp; simp [e] at this] at h
    cases h
  | some i =>
    obtain ⟨hi, hp, hb⟩ := List.findIdx?_eq_some_iff_getElem.1 hf
    have hpe : (ps[i]).1 = q.1 := by simpa using hp
    dsimp only
    have hv : val ps q.1 = some (ps[i]).2 := by
      have hsplit : ps = ps.take i ++ ps[i] :: ps.drop (i + 1) := by rw [← List.drop_eq_getElem_cons hi, List.take_append_drop]
      unfold val
      conv => lhs; rw [hsplit]
      have h0 : (ps.take i).find? (fun p => decide (p.1 = q.1)) = none := List.find?_eq_none.2 fun x hx => by
        obtain ⟨j, hj⟩ := List.mem_iff_getElem?.1 hx
        rw [List.getElem?_take] at hj
        split at hj
        · rename_i hji
          obtain ⟨h1, rfl⟩ := List.getElem?_eq_some_iff.1 hj
          have := hb j hji
          simpa using this
        · cases hj
      rw [List.find?_append, h0, Option.none_or, List.find?_cons, hpe, decide_eq_true rfl]; rfl
    rw [h] at hv
    have e : (q.1, q.2) = ps[i] := Prod.ext hpe.symm (Option.some.inj hv)
    rw [e]; exact List.set_getElem_self hi
theorem foldl_id {qs ps : List Pr} (h : ∀ q ∈ qs, val ps q.1 = some q.2) : qs.foldl setPr ps = ps := by
  induction qs with
  | nil => rfl
  | cons q qs ih =>
    rw [List.foldl_cons, setPr_id (h q (by simp))]
    exact ih fun x hx => h x (by simp [hx])
theorem foldl_twice {qs ps : List Pr} (h : (qs.map (·.1)).Nodup) : qs.foldl setPr (qs.foldl setPr ps) = qs.foldl setPr ps :=
  foldl_id fun q hq => by rw [val_foldl _ _ _ h, val_mem h hq]
theorem insK_id {g : T → T} {nm : Nm} {ks : List T} {t : T} (h : kidF nm ks = some t) (hg : g t = t) : insK g nm ks = ks := by
  rcases insK_cases g nm ks with ⟨k1, t', k2, rfl, hn, ht, e⟩ | ⟨hn, e⟩
  · have h0 : k1.find? (fun t => decide (t.name = nm)) = none := List.find?_eq_none.2 fun x hx => by simpa using hn x hx
    unfold kidF at h
    rw [List.find?_append, h0, Option.none_or, List.find?_cons, decide_eq_true ht] at h
    cases h
    rw [e, hg]
  · exfalso
    unfold kidF at h
    rw [List.find?_eq_none.2 fun x hx => by simpa using hn x hx] at h
    cases h
theorem layK_id : ∀ (js ks : List T), (∀ j ∈ js, ∃ t, kidF j.name ks = some t ∧ layT j t = t) → layK js ks = ks
  | [], ks, _ => rfl
  | j :: js, ks, h => by
    obtain ⟨t, h1, h2⟩ := h j (by simp)
    rw [layK, insK_id h1 h2]
    exact layK_id js ks fun x hx => h x (by simp [hx])
theorem layT_twice : ∀ (π τ : T) (d : Nat), okT d π = true → layT π (layT π τ) = layT π τ
  | .mk pn qs js, .mk n ps ks, d, h => by
    simp only [okT, Bool.and_eq_true] at h
    obtain ⟨hall, hnd⟩ := okK_all h.2.2
    simp only [layT]
    rw [foldl_twice (propsOk_nodup h.1), layK_id js (layK js ks) fun j hj => ?_]
    have hj' : kidF j.name js = some j := by
      have key : ∀ (l : List T), (l.map T.name).Nodup → j ∈ l → kidF j.name l = some j := by
        intro l
        induction l with
        | nil => intro _ h; simp at h
        | cons x r ih =>
          intro h1 h2
          rw [List.map_cons, List.nodup_cons] at h1
          unfold kidF at ih ⊢
          rw [List.find?_cons]
          rcases List.mem_cons.1 h2 with rfl | h2
          · rw [decide_eq_true rfl]
          · have : x.name ≠ j.name := fun e => h1.1 (by rw [e]; exact List.mem_map.2 ⟨j, h2, rfl⟩)
            rw [decide_eq_false this]
            exact ih h1.2 h2
      exact key js hnd hj
    refine ⟨_, by rw [kidF_layK js ks hnd, hj'], layT_twice j _ _ (hall j hj).1⟩
termination_by π => szT π
decreasing_by
  simp only [szT]
  have key : ∀ (l : List T), j ∈ l → szT j ≤ szK l := by
    intro l
    induction l with
    | nil => intro h; simp at h
    | cons x r ih =>
      intro h
      simp only [szK]
      rcases List.mem_cons.1 h with rfl | h
      · omega
      · have := ih h; omega
  have := key js hj
  omega
theorem updP_twice {g : T → T} (hg : ∀ t, (g t).name = t.name) : ∀ {nms : List Nm} {τ σ : T} {b a : Nat}, atP nms τ b = some (σ, a) → g (g σ) = g σ → updP g nms (updP g nms τ) = updP g nms τ
  | [], τ, σ, b, a, h, hgg => by
    simp only [atP, Option.some.injEq, Prod.mk.injEq] at h
    obtain ⟨rfl, _⟩ := h
    exact hgg
  | nm :: r, .mk n p ks, σ, b, a, h, hgg => by
    rw [atP] at h
    simp only [T.kids] at h
    cases hk : kidAt nm ks (b + 1) with
    | none => rw [hk] at h; cases h
    | some q =>
      rw [hk] at h
      obtain ⟨k1, k2, rfl, hno, hnm, _, h4⟩ := kidAt_split hk
      have hun : (updP g r q.1).name = nm := by
        rw [← hnm]
        cases r with
        | nil => exact hg _
        | cons _ _ => cases q.1; rfl
      simp only [updP, h4]
      rw [updK_app hno hun, updP_twice hg h hgg]
theorem dropPr_id {D : List Nm} {ps : List Pr} (h : ∀ p ∈ ps, p.1 ∉ D) : dropPr D ps = ps := by
  unfold dropPr
  refine List.filter_eq_self.2 fun p hp => ?_
  have : D.contains p.1 = false := by rw [Bool.eq_false_iff]; intro e; exact h p hp (List.contains_iff_mem.1 e)
  rw [this]; rfl
theorem fold_mem : ∀ {qs ps : List Pr} {p : Pr}, p ∈ qs.foldl setPr ps → p ∈ ps ∨ p ∈ qs
  | [], ps, p, h => .inl h
  | q :: qs, ps, p, h => by
    rw [List.foldl_cons] at h
    rcases fold_mem h with h | h
    · rcases setPr_mem h with h | rfl
      · exact .inl h
      · exact .inr (by simp)
    · exact .inr (by simp [h])
/-- Laid twice is laid once. -/
theorem layM_twice {t u : List Nd} {p : Pc} (h : layM t p = (u, 0)) : layM u p = (u, 0) := by
  obtain ⟨τ, π, σ, nms, i0, L⟩ := laid_of h
  have hgg : layT π (dropT p.drop (layT π (dropT p.drop σ))) = layT π (dropT p.drop σ) := by
    have hr := get_flT (l := flT π (-1) 0) (rest := []) (b := 0) (τ := π) (up := -1) (by simp)
    rw [← L.n] at hr
    have hd := pieceOk_drop L.pk hr
    have e1 : dropT p.drop (layT π (dropT p.drop σ)) = layT π (dropT p.drop σ) := by
      cases π with
      | mk pn qs js =>
        cases σ with
        | mk n ps ks =>
          simp only [dropT, layT]
          rw [dropPr_id fun q hq => ?_]
          rcases fold_mem hq with hq | hq
          · intro hm
            have h2 := (List.mem_filter.1 hq).2
            rw [List.contains_iff_mem.2 hm] at h2
            simp at h2
          · exact fun hm => val_none.1 (hd q.1 hm) q hq rfl
    rw [e1, layT_twice π _ 1 (okT_of L.on)]
  have hup : layO p.drop nms π (layO p.drop nms π τ) = layO p.drop nms π τ := updP_twice (g := fun σ => layT π (dropT p.drop σ)) lay_gname L.at' hgg
  have hp := laid_path h L
  have h1 := layM_T L.pk L.n L.ou
  rw [← L.u, hp, Option.bind_some] at h1
  have hg := (gp_upd (g := fun σ => layT π (dropT p.drop σ)) lay_gname (ν := nms) L.at').1 [] (by simp)
  rw [← gp_at (b := 0)] at hg
  cases ha : atP nms (layO p.drop nms π τ) 0 with
  | none => unfold layO at ha; rw [ha] at hg; cases layT π (dropT p.drop σ); cases hg
  | some q =>
    rw [ha] at h1
    simp only [Option.map_some] at h1
    rw [hup, if_pos L.ou, ← L.u] at h1
    exact h1

/-! Stacks. -/
theorem stkTake_last {base : List Nd} {pre : List SRow} {r : SRow} {laid : Int} (h : ∀ x ∈ pre, x.n ≠ r.n) : stkTake ⟨base, pre ++ [r], laid⟩ r.n = (⟨base, pre, laid⟩, 0) := by
  have hf : (pre ++ [r]).findIdx? (fun x => decide (x.n = r.n)) = some pre.length := by
    rw [List.findIdx?_append, List.findIdx?_eq_none_iff.2 fun x hx => by simpa using h x hx]
    simp [List.findIdx?_cons]
  unfold stkTake
  dsimp only
  rw [hf]
  dsimp only
  rw [List.drop_eq_nil_of_le (by simp)]
  simp [relay]
theorem stkTop_pre {base : List Nd} {pre post : List SRow} {laid laid' : Int} {k : Nat} (hk : k ≤ pre.length) : stkTop ⟨base, pre ++ post, laid⟩ k = stkTop ⟨base, pre, laid'⟩ k := by
  unfold stkTop
  split
  · rfl
  · dsimp only
    rw [List.getElem?_append_left (by omega)]
theorem stkTop_last {base : List Nd} {pre : List SRow} {r : SRow} {laid : Int} : stkTop ⟨base, pre ++ [r], laid⟩ (pre ++ [r]).length = r.tree := by
  unfold stkTop
  rw [if_neg (by simp)]
  dsimp only
  rw [show (pre ++ [r]).length - 1 = pre.length by simp, List.getElem?_append_right (Nat.le_refl _)]
  simp
theorem wf_push {S : Stk} (wf : WfS S) {r : SRow} {laid : Int} (hl : S.rows.length < 16) (hr : treeOk r.tree = true ∧ pieceOk r.piece = true ∧ r.piece.target.length ≤ 2000000) (h0 : 0 ≤ laid ∧ laid ≤ 1000000) : WfS ⟨S.base, S.rows ++ [r], laid⟩ :=
  ⟨wf.base, by simp only [List.length_append, List.length_singleton]; omega, fun x hx => by
    rcases List.mem_append.1 hx with h | h
    · exact wf.row x h
    · simp at h; subst h; exact hr, h0⟩
end Go.Proofs.YtjpebmgllfiloaaDoor
