/-
  The node of a path; a tree with a part of it turned; what laying a piece over nodes comes to.
-/
import Derived.Test.YtjpebmgllfiloaaDoorPc
namespace Go.Proofs.YtjpebmgllfiloaaDoor
open Go Wk

def kidAt (nm : List UInt8) : List T → Nat → Option (T × Nat)
  | [], _ => none
  | t :: ts, b => if t.name = nm then some (t, b) else kidAt nm ts (b + szT t)
def atP : List (List UInt8) → T → Nat → Option (T × Nat)
  | [], τ, b => some (τ, b)
  | nm :: r, τ, b => match kidAt nm τ.kids (b + 1) with | some p => atP r p.1 p.2 | none => none
def updK (nm : List UInt8) (g : T → T) : List T → List T
  | [] => []
  | k :: ks => if k.name = nm then g k :: ks else k :: updK nm g ks
def updP (g : T → T) : List (List UInt8) → T → T
  | [], τ => g τ
  | nm :: r, .mk n p ks => .mk n p (updK nm (updP g r) ks)
theorem kidAt_split {nm : List UInt8} : ∀ {ks : List T} {b : Nat} {p : T × Nat}, kidAt nm ks b = some p → ∃ k1 k2, ks = k1 ++ p.1 :: k2 ∧ (∀ x ∈ k1, x.name ≠ nm) ∧ p.1.name = nm ∧ p.2 = b + szK k1 ∧ ∀ g, updK nm g ks = k1 ++ g p.1 :: k2
  | [], b, p, h => by simp [kidAt] at h
  | t :: ts, b, p, h => by
    rw [kidAt] at h
    split at h
    · rename_i hn
      cases h
      exact ⟨[], ts, rfl, by simp, hn, by simp [szK], fun g => by rw [updK, if_pos hn]; rfl⟩
    · rename_i hn
      obtain ⟨k1, k2, rfl, h1, h2, h3, h4⟩ := kidAt_split h
      exact ⟨t :: k1, k2, rfl, by simpa [hn] using h1, h2, by rw [h3]; simp only [szK]; omega, fun g => by rw [updK, if_neg hn, h4]; rfl⟩
theorem kidAt_none {nm : List UInt8} : ∀ {ks : List T} {b : Nat}, kidAt nm ks b = none → ∀ x ∈ ks, x.name ≠ nm
  | [], _, _, x, hx => by simp at hx
  | t :: ts, b, h, x, hx => by
    rw [kidAt] at h
    split at h
    · cases h
    · rename_i hn
      rcases List.mem_cons.1 hx with rfl | hx
      · exact hn
      · exact kidAt_none h x hx
theorem kidIn_skip {u : Int} {nm : List UInt8} : ∀ {l1 : List Nd} {l2 : List Nd} {i : Nat}, (∀ x ∈ l1, x.parent ≠ u) → kidIn u nm i (l1 ++ l2) = kidIn u nm (i + l1.length) l2
  | [], l2, i, _ => rfl
  | x :: r, l2, i, h => by
    rw [List.cons_append, kidIn, if_neg (fun e => h x (by simp) e.1), kidIn_skip (fun y hy => h y (by simp [hy]))]
    congr 1; simp only [List.length_cons]; omega
theorem kidIn_none {u : Int} {nm : List UInt8} {l : List Nd} {i : Nat} (h : ∀ x ∈ l, x.parent ≠ u) : kidIn u nm i l = none := by
  have := kidIn_skip (l2 := []) (nm := nm) (i := i) h
  rw [List.append_nil] at this
  rw [this]; rfl
theorem kidIn_fl {u : Nat} {nm : List UInt8} {rest : List Nd} (hr : ∀ x ∈ rest, x.parent ≠ (u : Int)) : ∀ (ks : List T) (b : Nat), u < b → kidIn u nm b (flK ks u b ++ rest) = (kidAt nm ks b).map (·.2)
  | [], b, _ => by simp only [flK, List.nil_append, kidAt, Option.map_none]; exact kidIn_none hr
  | t :: ts, b, hu => by
    obtain ⟨r, hh⟩ := flT_head t (u : Int) b
    have hp := flT_par t u b r hh
    simp only [flK, kidAt]
    rw [hh, List.append_assoc, List.cons_append, kidIn]
    by_cases hn : t.name = nm
    · rw [if_pos ⟨rfl, hn⟩, if_pos hn]; rfl
    · rw [if_neg (fun e => hn e.2), if_neg hn, kidIn_skip (fun x hx => by have := hp x hx; omega)]
      have hl := flT_length t (u : Int) b
      rw [hh, List.length_cons] at hl
      rw [show b + 1 + r.length = b + szT t by omega]
      exact kidIn_fl hr ts (b + szT t) (by omega)
theorem drop_sub {l r1 r2 : List Nd} {a n : Nat} (h : l.drop a = r1 ++ r2) (hn : r1.length = n) : l.drop (a + n) = r2 := by
  rw [← List.drop_drop, h, ← hn, List.drop_left]
/-- A part of a list of nodes that lies so: its kids. -/
theorem sub_kid {l rest : List Nd} {nm : List UInt8} {ps : List Pr} {k1 k2 : List T} {σ : T} {up : Int} {a : Nat} (h : l.drop a = flT (.mk nm ps (k1 ++ σ :: k2)) up a ++ rest) (hoff : Off a (szT (.mk nm ps (k1 ++ σ :: k2))) rest) :
    ∃ rest', l.drop (a + 1 + szK k1) = flT σ (a : Int) (a + 1 + szK k1) ++ rest' ∧ Off (a + 1 + szK k1) (szT σ) rest' := by
  have app : ∀ (x y : List T) (u b : Nat), flK (x ++ y) u b = flK x u b ++ flK y u (b + szK x) := fun x y u => by
    induction x with
    | nil => intro b; simp [flK, szK]
    | cons t ts ih => intro b; simp only [List.cons_append, flK, szK, ih, List.append_assoc, Nat.add_assoc]
  simp only [flT, szT, szK_append, szK] at h hoff
  rw [app] at h
  simp only [flK] at h
  refine ⟨flK k2 a (a + 1 + szK k1 + szT σ) ++ rest, ?_, fun x hx => ?_⟩
  · have h1 : l.drop (a + 1) = flK k1 a (a + 1) ++ (flT σ (a : Int) (a + 1 + szK k1) ++ (flK k2 a (a + 1 + szK k1 + szT σ) ++ rest)) := by
      have := drop_sub (r1 := [⟨up, nm, ps⟩]) (n := 1) (by simpa using h) rfl
      simpa using this
    exact drop_sub h1 (flK_length _ _ _)
  · rcases List.mem_append.1 hx with hx | hx
    · rcases flK_par k2 a (a + 1 + szK k1 + szT σ) (by omega) x hx with h | h
      · left; omega
      · right; omega
    · rcases hoff x hx with h | h
      · left; omega
      · right; omega
theorem findGo_T {l : List Nd} : ∀ (nms : List (List UInt8)) (τ : T) (up : Int) (a : Nat) (rest : List Nd), l.drop a = flT τ up a ++ rest → Off a (szT τ) rest → findGo l a nms = (atP nms τ a).map (·.2)
  | [], τ, up, a, rest, _, _ => rfl
  | nm :: r, .mk n p ks, up, a, rest, h, hoff => by
    rw [findGo, atP]
    have h1 : l.drop (a + 1) = flK ks a (a + 1) ++ rest := drop_sub (r1 := [⟨up, n, p⟩]) (n := 1) (by simpa [flT] using h) rfl
    rw [h1, kidIn_fl (fun x hx => by have := hoff x hx; have := szT_pos (.mk n p ks); omega) ks (a + 1) (by omega)]
    simp only [T.kids]
    cases hk : kidAt nm ks (a + 1) with
    | none => rfl
    | some q =>
      obtain ⟨σ, b⟩ := q
      obtain ⟨k1, k2, rfl, _, _, hb, _⟩ := kidAt_split hk
      simp only at hb
      subst hb
      obtain ⟨rest', h2, h3⟩ := sub_kid h hoff
      exact findGo_T r σ a (a + 1 + szK k1) rest' h2 h3
/-- The names that lead to a path's node. -/
def pathN (s : List UInt8) : Option (List (List UInt8)) :=
  if Lib.hasPrefix s [47] = true then (if Lib.trimPrefix s [47] = [] then some [] else some (splitR 47 (Lib.trimPrefix s [47]))) else none
theorem findM_T (τ : T) (s : List UInt8) : findM (flT τ (-1) 0) s = (pathN s).bind fun nms => (atP nms τ 0).map (·.2) := by
  unfold findM pathN
  split
  · split
    · rfl
    · exact findGo_T _ τ (-1) 0 [] (by simp) (fun x hx => by simp at hx)
  · rfl

/-! Knots of a tree with a part turned. -/
theorem updK_app {nm : List UInt8} {k1 k2 : List T} {σ : T} (h1 : ∀ x ∈ k1, x.name ≠ nm) (h2 : σ.name = nm) (g : T → T) : updK nm g (k1 ++ σ :: k2) = k1 ++ g σ :: k2 := by
  induction k1 with
  | nil => rw [List.nil_append, updK, if_pos h2]; rfl
  | cons t ts ih => rw [List.cons_append, updK, if_neg (h1 t (by simp)), ih fun x hx => h1 x (by simp [hx])]; rfl
theorem updP_const {nms : List (List UInt8)} {g : T → T} : ∀ {τ σ : T} {b a : Nat}, atP nms τ b = some (σ, a) → updP g nms τ = updP (fun _ => g σ) nms τ := by
  induction nms with
  | nil => intro τ σ b a h; simp only [atP, Option.some.injEq, Prod.mk.injEq] at h; obtain ⟨rfl, _⟩ := h; rfl
  | cons nm r ih =>
    intro τ σ b a h
    cases τ with
    | mk n p ks =>
      rw [atP] at h
      simp only [T.kids] at h
      cases hk : kidAt nm ks (b + 1) with
      | none => rw [hk] at h; cases h
      | some q =>
        rw [hk] at h
        obtain ⟨k1, k2, _, _, _, _, h4⟩ := kidAt_split hk
        simp only [updP, h4, ih h]
theorem szT_upd {nms : List (List UInt8)} {σ' : T} : ∀ {τ σ : T} {b a : Nat}, atP nms τ b = some (σ, a) → szT (updP (fun _ => σ') nms τ) + szT σ = szT τ + szT σ' ∧ (bigT σ' = true → bigT (updP (fun _ => σ') nms τ) = true) := by
  induction nms with
  | nil => intro τ σ b a h; simp only [atP, Option.some.injEq, Prod.mk.injEq] at h; obtain ⟨rfl, _⟩ := h; simp only [updP]; exact ⟨by omega, id⟩
  | cons nm r ih =>
    intro τ σ b a h
    cases τ with
    | mk n p ks =>
      rw [atP] at h
      simp only [T.kids] at h
      cases hk : kidAt nm ks (b + 1) with
      | none => rw [hk] at h; cases h
      | some q =>
        rw [hk] at h
        obtain ⟨k1, k2, rfl, _, _, _, h4⟩ := kidAt_split hk
        have := ih h
        simp only [updP, h4, szT, szK_append, szK, bigT, bigK_append, bigK, Bool.or_eq_true]
        exact ⟨by omega, fun hb => .inr (.inr (.inl (this.2 hb)))⟩
theorem is_upd {G : List Kn} {nms : List (List UInt8)} : ∀ {τ σ : T} {i a : Nat}, Is G τ i (List.range' i (szT τ)) → atP nms τ i = some (σ, a) →
    Is G σ a (List.range' a (szT σ)) ∧ i ≤ a ∧ a + szT σ ≤ i + szT τ ∧
    ∀ (G' : List Kn) (σ' : T) (A' : List Nat), Is G' σ' a A' → (∀ x, i ≤ x → x < i + szT τ → ¬ (a ≤ x ∧ x < a + szT σ) → G'[x]? = G[x]?) → ∃ ids', Is G' (updP (fun _ => σ') nms τ) i ids' := by
  induction nms with
  | nil =>
    intro τ σ i a h hat
    simp only [atP, Option.some.injEq, Prod.mk.injEq] at hat
    obtain ⟨rfl, rfl⟩ := hat
    exact ⟨h, Nat.le_refl _, Nat.le_refl _, fun G' σ' A' h' _ => ⟨A', h'⟩⟩
  | cons nm r ih =>
    intro τ σ i a h hat
    cases τ with
    | mk n p ks =>
      rw [atP] at hat
      simp only [T.kids] at hat
      cases hk : kidAt nm ks (i + 1) with
      | none => rw [hk] at hat; cases hat
      | some q =>
        rw [hk] at hat
        obtain ⟨κ, b⟩ := q
        obtain ⟨k1, k2, rfl, hno, hnm, hb, h4⟩ := kidAt_split hk
        simp only at hb hat hnm h4
        subst hb
        simp only [Is, szT, szK_append, szK] at h
        obtain ⟨kk, r0, hG, hids, hl⟩ := h
        obtain ⟨l1, l2, A, B, rfl, rfl, i1, i2, _⟩ := hl.split
        simp only [IsL] at i2
        obtain ⟨j, l3, C, D, rfl, rfl, iC, i3⟩ := i2
        have lA := i1.length
        have lC := iC.length
        have lD := i3.length
        rw [Nat.add_comm 1, List.range'_succ, List.cons.injEq] at hids
        have hids2 := hids.2.symm
        rw [← List.range'_append_1, ← List.range'_append_1] at hids2
        have hA := List.append_inj_left hids2 (by rw [lA]; simp)
        have hCD := List.append_inj_right hids2 (by rw [lA]; simp)
        have hC := List.append_inj_left hCD (by rw [lC]; simp)
        have hD := List.append_inj_right hCD (by rw [lC]; simp)
        subst hA
        subst hC
        subst hD
        have hj : j = i + 1 + szK k1 := by
          have hpos := szT_pos κ
          obtain ⟨m, hm⟩ : ∃ m, szT κ = m + 1 := ⟨szT κ - 1, by omega⟩
          rw [hm, List.range'_succ] at iC
          cases κ with
          | mk kn kp kks =>
            simp only [Is] at iC
            obtain ⟨_, _, _, e, _⟩ := iC
            exact (List.cons.inj e).1.symm
        subst hj
        obtain ⟨g1, g2, g3, g4⟩ := ih iC hat
        simp only [szT, szK_append, szK]
        refine ⟨g1, by omega, by omega, fun G' σ' A' h' hfr => ?_⟩
        obtain ⟨ids', h5⟩ := g4 G' σ' A' h' (fun x h1 h2 h3 => hfr x (by omega) (by omega) h3)
        simp only [updP, h4, Is]
        refine ⟨i :: (List.range' (i + 1) (szK k1) ++ (ids' ++ List.range' (i + 1 + szK k1 + szT κ) (szK k2))), l1 ++ (i + 1 + szK k1) :: l3, List.range' (i + 1) (szK k1) ++ (ids' ++ List.range' (i + 1 + szK k1 + szT κ) (szK k2)), (hfr i (Nat.le_refl _) (by omega) (by omega)).trans hG, rfl, ?_⟩
        refine (i1.frame fun x hx => ?_).append (b := ids' ++ List.range' (i + 1 + szK k1 + szT κ) (szK k2)) ?_
        · simp only [List.mem_range'_1] at hx
          exact hfr x (by omega) (by omega) (by omega)
        · simp only [IsL]
          refine ⟨_, l3, ids', _, rfl, rfl, h5, i3.frame fun x hx => ?_⟩
          simp only [List.mem_range'_1] at hx
          exact hfr x (by omega) (by omega) (by omega)

/-! Laying. -/
def dropPr (D : List (List UInt8)) (l : List Pr) : List Pr := l.filter fun y => !D.contains y.1
def dropT (D : List (List UInt8)) : T → T | .mk n p k => .mk n (dropPr D p) k
def dropG (D : List (List UInt8)) (G : List Kn) (i : Nat) : List Kn := match G[i]? with | some k => G.set i { k with props := dropPr D k.props } | none => G
/-- What overlay.Lay hands back. -/
def layM (t : List Nd) (p : Pc) : List Nd × Int :=
  if treeOk t = true then
    (if pieceOk p = true then
      (match findM t p.target with
      | some i => (match layG p.nodes p.nodes.length i 0 (dropG p.drop (knotsM t) i) (t.length : Int) with
        | (true, G, _) => if treeOk (flatG G G.length 0 (-1) []) = true then (flatG G G.length 0 (-1) [], 0) else ([], 40)
        | (false, _, _) => ([], 40))
      | none => ([], 51))
    else ([], 50))
  else ([], 40)
mutual
theorem okT_big : ∀ (t : T) (d : Nat), okT d t = true → bigT t = false
  | .mk n p ks, d, h => by
    simp only [okT, Bool.and_eq_true] at h
    have := propsOk_len h.1
    simp only [bigT, okK_big ks _ _ h.2.2, Bool.or_false, decide_eq_false_iff_not]; omega
theorem okK_big : ∀ (ks : List T) (d : Nat) (seen : List (List UInt8)), okK d seen ks = true → bigK ks = false
  | [], _, _, _ => rfl
  | t :: ts, d, seen, h => by
    simp only [okK, Bool.and_eq_true] at h
    simp only [bigK, okT_big t d h.2.2.1, okK_big ts d _ h.2.2.2, Bool.or_self]
end
/-- The turned tree. -/
def layO (D : List (List UInt8)) (nms : List (List UInt8)) (π τ : T) : T := updP (fun σ => layT π (dropT D σ)) nms τ
theorem szT_drop (D : List (List UInt8)) (t : T) : szT (dropT D t) = szT t := by cases t; rfl
theorem lay_run {τ π σ : T} {D nms : List (List UInt8)} {i : Nat} (hat : atP nms τ 0 = some (σ, i)) (r : LayR)
    (hr : layG (flT π (-1) 0) (flT π (-1) 0).length i 0 (dropG D (knotsM (flT τ (-1) 0)) i) ((flT τ (-1) 0).length : Int) = r) :
    (r.1 = true → flatG r.2.1 r.2.1.length 0 (-1) [] = flT (layO D nms π τ) (-1) 0 ∧ r.2.1.length = szT (layO D nms π τ) ∧ r.2.2 = (r.2.1.length : Int)) ∧ (r.1 = false → okTree (layO D nms π τ) = false) := by
  have h0 := knotsM_is τ
  rw [List.range_eq_range'] at h0
  obtain ⟨g1, g2, g3, g4⟩ := is_upd h0 hat
  have hlen : (knotsM (flT τ (-1) 0)).length = szT τ := by rw [knotsM_length, flT_length]
  generalize knotsM (flT τ (-1) 0) = G at h0 g1 g4 hlen hr
  obtain ⟨kk, hk⟩ := g1.get
  have hdl : (dropG D G i).length = G.length := by unfold dropG; rw [hk]; simp
  have hdk : ∀ x, x ≠ i → (dropG D G i)[x]? = G[x]? := fun x hx => by unfold dropG; rw [hk]; dsimp only; rw [List.getElem?_set, if_neg (fun e => hx e.symm)]
  have hil : i < G.length := by have := szT_pos σ; omega
  have hdi : Is (dropG D G i) (dropT D σ) i (List.range' i (szT σ)) := by
    cases σ with
    | mk n p ks =>
      simp only [Is, dropT, szT] at g1 ⊢
      obtain ⟨kk', r', e1, e2, e3⟩ := g1
      refine ⟨kk', r', ?_, e2, e3.frame fun x hx => hdk x fun e => ?_⟩
      · unfold dropG
        rw [e1]
        dsimp only
        rw [List.getElem?_set, if_pos rfl, if_pos hil]
      · rw [Nat.add_comm 1, List.range'_succ, List.cons.injEq] at e2
        have := e2.2.symm ▸ hx
        rw [List.mem_range'_1] at this
        omega
  have hlay := layG_is (pn := flT π (-1) 0) π 0 (-1) [] (flT π (-1) 0).length i (dropG D G i) (dropT D σ) (List.range' i (szT σ)) (by simp) (fun x hx => by simp at hx) (by rw [flT_length]; exact Nat.le_refl _) hdi List.nodup_range' (fun x hx => by rw [List.mem_range'_1] at hx; omega) r (by
    rw [hdl, hlen]
    rw [flT_length τ] at hr
    exact hr)
  have hsz := szT_upd (σ' := layT π (dropT D σ)) hat
  unfold layO
  rw [updP_const hat]
  rw [szT_drop] at hlay
  refine ⟨fun e => ?_, fun e => ?_⟩
  · obtain ⟨A', h1, h2, h3, h4⟩ := hlay.1 e
    obtain ⟨ids', h5⟩ := g4 r.2.1 _ A' h1 (fun x hx1 hx2 hx3 => by
      rw [h2.old x (by omega) (by rw [List.mem_range'_1]; exact hx3), hdk x (by rintro rfl; have := szT_pos σ; omega)])
    have hle : r.2.1.length = szT (updP (fun _ => layT π (dropT D σ)) nms τ) := by omega
    refine ⟨?_, hle, h3⟩
    have := flatG_is _ 0 ids' r.2.1.length (-1) [] h5 (by omega)
    rw [this]; rfl
  · cases hok : okTree (updP (fun _ => layT π (dropT D σ)) nms τ) with
    | false => rfl
    | true =>
      unfold okTree at hok
      simp only [Bool.and_eq_true, decide_eq_true_eq] at hok
      rcases hlay.2 e with h | h
      · have := hsz.2 h
        rw [okT_big _ _ hok.2.2] at this
        cases this
      · omega
/-- What laying comes to, as trees. -/
theorem layM_T {τ π : T} {p : Pc} (hp : pieceOk p = true) (hπ : p.nodes = flT π (-1) 0) (hτ : okTree τ = true) :
    layM (flT τ (-1) 0) p = match (pathN p.target).bind fun nms => (atP nms τ 0).map fun q => (nms, q) with
      | none => ([], 51)
      | some (nms, _) => if okTree (layO p.drop nms π τ) = true then (flT (layO p.drop nms π τ) (-1) 0, 0) else ([], 40) := by
  unfold layM
  rw [if_pos (by rw [treeOk_flT]; exact hτ), if_pos hp, findM_T, hπ]
  cases hn : pathN p.target with
  | none => rfl
  | some nms =>
    simp only [Option.bind_some]
    cases ha : atP nms τ 0 with
    | none => rfl
    | some q =>
      obtain ⟨σ, i⟩ := q
      simp only [Option.map_some]
      have h := lay_run (π := π) (D := p.drop) ha _ rfl
      generalize layG (flT π (-1) 0) (flT π (-1) 0).length i 0 (dropG p.drop (knotsM (flT τ (-1) 0)) i) ((flT τ (-1) 0).length : Int) = r at h ⊢
      obtain ⟨ok, G, c⟩ := r
      cases ok with
      | false =>
        simp only
        rw [if_neg (by rw [h.2 rfl]; simp)]
      | true =>
        simp only
        rw [(h.1 rfl).1, treeOk_flT]
end Go.Proofs.YtjpebmgllfiloaaDoor
