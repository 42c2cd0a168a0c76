/-
  When nodes are a tree; the node of a path; a tree with a part of it turned.
-/
import Derived.Test.YtjpebmgllfiloaaDoorPb
namespace Go.Proofs.YtjpebmgllfiloaaDoor
open Go Wk

mutual
def okT : Nat → T → Bool
  | d, .mk _ ps ks => propsOk ps && (decide (d ≤ 16) && okK (d + 1) [] ks)
def okK : Nat → List (List UInt8) → List T → Bool
  | _, _, [] => true
  | d, seen, k :: ks => nameOk k.name && (!seen.contains k.name && (okT d k && okK d (seen ++ [k.name]) ks))
end
def okTree (τ : T) : Bool := decide (τ.name = []) && (decide (szT τ ≤ 512) && okT 1 τ)
theorem getD_left {α : Type} {l m : List α} {i : Nat} {z : α} (h : i < l.length) : (l ++ m).getD i z = l.getD i z := by
  rw [List.getD_eq_getElem?_getD, List.getElem?_append_left h, ← List.getD_eq_getElem?_getD]
theorem getD_last {α : Type} {l : List α} {x z : α} {i : Nat} (h : l.length = i) : (l ++ [x]).getD i z = x := by
  subst h; rw [List.getD_eq_getElem?_getD, List.getElem?_append_right (Nat.le_refl _)]; simp
theorem getD_take {α : Type} {l m : List α} {i d : Nat} {z : α} (h : l.take d = m.take d) (hi : i < d) : l.getD i z = m.getD i z := by
  have := congrArg (fun q => q[i]?) h
  simp only [List.getElem?_take, if_pos hi] at this
  rw [List.getD_eq_getElem?_getD, this, ← List.getD_eq_getElem?_getD]
mutual
theorem chk_T : ∀ (t : T) (u b d : Nat) (seen : List (List UInt8)) (dp pt : List Int) (sn : List Kid) (rest : List Nd),
    b + szT t ≤ 512 → dp.length = b → u < b → dp.getD u 0 = (d : Int) → 1 ≤ d → d ≤ pt.length → pt.getD (d - 1) 0 = (u : Int) → (∀ nm, sn.contains ((u : Int), nm) = seen.contains nm) → (∀ p ∈ sn, p.1 < (b : Int)) →
    ((nameOk t.name && (!seen.contains t.name && okT (d + 1) t)) = true → ∃ dp2 pt2 sn2, chkGo b dp pt sn (flT t u b ++ rest) = chkGo (b + szT t) (dp ++ dp2) pt2 (sn ++ (((u : Int), t.name) :: sn2)) rest ∧ dp2.length = szT t ∧ pt2.take d = pt.take d ∧ d ≤ pt2.length ∧ ∀ p ∈ sn2, (b : Int) ≤ p.1 ∧ p.1 < b + szT t) ∧
    ((nameOk t.name && (!seen.contains t.name && okT (d + 1) t)) = false → (chkGo b dp pt sn (flT t u b ++ rest)).2 = none)
  | .mk nm ps ks, u, b, d, seen, dp, pt, sn, rest, hsz, hdl, hu, hdu, hd1, hdp, hpt, hsn, hsb => by
    simp only [szT] at hsz
    simp only [flT, List.cons_append, T.name]
    rw [chkGo]
    have htn : ((u : Int)).toNat = u := Int.toNat_natCast u
    have htd : ((d : Int) - 1).toNat = d - 1 := by omega
    have htd' : ((d : Int)).toNat = d := Int.toNat_natCast d
    simp only [htn, hdu, htd, htd', hpt, hsn]
    cases hpo : propsOk ps with
    | false =>
      rw [if_pos (.inr rfl)]
      exact ⟨fun h => by simp [okT, hpo] at h, fun _ => rfl⟩
    | true =>
      rw [if_neg (by simp; omega), if_neg (by omega)]
      cases hno : nameOk nm with
      | false =>
        rw [if_pos (.inl rfl)]
        exact ⟨fun h => by simp at h, fun _ => rfl⟩
      | true =>
        rw [if_neg (by simp; omega)]
        cases hse : seen.contains nm with
        | true =>
          rw [if_pos (.inr (.inr (.inr rfl)))]
          exact ⟨fun h => by simp at h, fun _ => rfl⟩
        | false =>
          by_cases h16 : d + 1 ≤ 16
          · rw [if_neg (by simp; omega)]
            have hdl' : (dp ++ [(d : Int) + 1]).length = b + 1 := by simp [hdl]
            have hk := chk_K ks b (b + 1) (d + 1) [] (dp ++ [(d : Int) + 1]) (pt.take d ++ [(b : Int)]) (sn ++ [((u : Int), nm)]) rest (by omega) hdl' (by omega) (by rw [getD_last hdl]; rfl) (by omega) (by simp; omega) (by
              rw [Nat.add_sub_cancel, getD_last (by simp; omega)]) (fun x => by
              rw [Bool.eq_iff_iff]
              simp only [List.contains_iff_mem, List.mem_append, List.mem_singleton, Prod.mk.injEq, List.not_mem_nil, iff_false, not_or]
              exact ⟨fun h => by have := hsb _ h; simp only at this; omega, fun h => by omega⟩) (fun p hp => by
              rcases List.mem_append.1 hp with h | h
              · have := hsb p h; omega
              · simp at h; subst h; simp only; omega)
            have e1 : ((true && (!false && okT (d + 1) (.mk nm ps ks))) : Bool) = okK (d + 1 + 1) [] ks := by simp only [okT, hpo, decide_eq_true h16, Bool.not_false, Bool.true_and]
            rw [e1]
            refine ⟨fun h => ?_, hk.2⟩
            obtain ⟨dp2, pt2, sn2, h1, h2, h3, h4, h5⟩ := hk.1 h
            refine ⟨((d : Int) + 1) :: dp2, pt2, sn2, ?_, by simp only [List.length_cons, szT, h2]; omega, ?_, by omega, fun p hp => by
              rcases h5 p hp with h | h
              · simp only [szT]; omega
              · simp only [szT]; omega⟩
            · rw [h1]
              simp only [szT, List.append_assoc, List.singleton_append]
              congr 1; omega
            · have := congrArg (List.take d) h3
              rw [List.take_take, Nat.min_eq_left (by omega), List.take_take, Nat.min_eq_left (by omega), List.take_append_of_le_length (by simp; omega), List.take_take, Nat.min_self] at this
              exact this
          · rw [if_pos (.inr (.inr (.inl (by omega))))]
            exact ⟨fun h => by simp [okT, h16] at h, fun _ => rfl⟩
theorem chk_K : ∀ (ks : List T) (u b d : Nat) (seen : List (List UInt8)) (dp pt : List Int) (sn : List Kid) (rest : List Nd),
    b + szK ks ≤ 512 → dp.length = b → u < b → dp.getD u 0 = (d : Int) → 1 ≤ d → d ≤ pt.length → pt.getD (d - 1) 0 = (u : Int) → (∀ nm, sn.contains ((u : Int), nm) = seen.contains nm) → (∀ p ∈ sn, p.1 < (b : Int)) →
    (okK (d + 1) seen ks = true → ∃ dp2 pt2 sn2, chkGo b dp pt sn (flK ks u b ++ rest) = chkGo (b + szK ks) (dp ++ dp2) pt2 (sn ++ sn2) rest ∧ dp2.length = szK ks ∧ pt2.take d = pt.take d ∧ d ≤ pt2.length ∧ ∀ p ∈ sn2, p.1 = (u : Int) ∨ (b : Int) ≤ p.1 ∧ p.1 < b + szK ks) ∧
    (okK (d + 1) seen ks = false → (chkGo b dp pt sn (flK ks u b ++ rest)).2 = none)
  | [], u, b, d, seen, dp, pt, sn, rest, hsz, hdl, hu, hdu, hd1, hdp, hpt, hsn, hsb =>
    ⟨fun _ => ⟨[], pt, [], by simp [flK, szK], rfl, rfl, hdp, by simp⟩, fun h => by simp [okK] at h⟩
  | t :: ts, u, b, d, seen, dp, pt, sn, rest, hsz, hdl, hu, hdu, hd1, hdp, hpt, hsn, hsb => by
    simp only [szK] at hsz
    simp only [flK, List.append_assoc]
    have hT := chk_T t u b d seen dp pt sn (flK ts u (b + szT t) ++ rest) (by omega) hdl hu hdu hd1 hdp hpt hsn hsb
    have e : okK (d + 1) seen (t :: ts) = ((nameOk t.name && (!seen.contains t.name && okT (d + 1) t)) && okK (d + 1) (seen ++ [t.name]) ts) := by
      simp only [okK, Bool.and_assoc]
    rw [e]
    cases h1 : (nameOk t.name && (!seen.contains t.name && okT (d + 1) t)) with
    | false => exact ⟨fun h => by simp at h, fun _ => hT.2 h1⟩
    | true =>
      rw [Bool.true_and]
      obtain ⟨dp2, pt2, sn2, g1, g2, g3, g4, g5⟩ := hT.1 h1
      rw [g1]
      have hK := chk_K ts u (b + szT t) d (seen ++ [t.name]) (dp ++ dp2) pt2 (sn ++ (((u : Int), t.name) :: sn2)) rest (by omega) (by rw [List.length_append, hdl, g2]) (by omega) (by rw [getD_left (by omega)]; exact hdu) hd1 g4 (by
        rw [getD_take g3 (by omega)]; exact hpt) (fun x => by
        rw [Bool.eq_iff_iff]
        have := hsn x
        rw [Bool.eq_iff_iff] at this
        simp only [List.contains_iff_mem, List.mem_append, List.mem_cons, List.not_mem_nil, Prod.mk.injEq, true_and, or_false] at this ⊢
        constructor
        · rintro (h | h | h)
          · exact .inl (this.1 h)
          · exact .inr h
          · have := (g5 _ h).1; simp only at this; omega
        · rintro (h | h)
          · exact .inl (this.2 h)
          · exact .inr (.inl h)) (fun p hp => by
        simp only [List.mem_append, List.mem_cons] at hp
        rcases hp with h | rfl | h
        · have := hsb p h; omega
        · simp only; omega
        · have := (g5 p h).2; omega)
      refine ⟨fun h => ?_, hK.2⟩
      obtain ⟨dp3, pt3, sn3, k1, k2, k3, k4, k5⟩ := hK.1 h
      refine ⟨dp2 ++ dp3, pt3, ((u : Int), t.name) :: sn2 ++ sn3, ?_, by simp only [List.length_append, szK, g2, k2], k3.trans g3, k4, fun p hp => ?_⟩
      · rw [k1]
        simp only [szK, List.append_assoc, List.cons_append]
        congr 1; omega
      · simp only [List.cons_append, List.mem_cons, List.mem_append] at hp
        simp only [szK]
        rcases hp with rfl | h | h
        · exact .inl rfl
        · have := g5 p h; right; omega
        · rcases k5 p h with h | h
          · exact .inl h
          · right; omega
end
theorem treeOk_flT (τ : T) : treeOk (flT τ (-1) 0) = okTree τ := by
  by_cases hsz : szT τ ≤ 512
  · cases τ with
    | mk nm ps ks =>
      unfold treeOk okTree
      simp only [flT, T.name, List.length_cons]
      rw [chkGo]
      simp only [szT] at hsz
      cases hpo : propsOk ps with
      | false => rw [if_pos (.inr rfl)]; simp [okT, hpo]
      | true =>
        rw [if_neg (by simp), if_pos rfl]
        by_cases hn : nm = []
        · subst hn
          rw [if_neg (by simp)]
          have h := chk_K ks 0 1 1 [] [1] [0] [] [] (by omega) rfl (by omega) rfl (by omega) (by simp) rfl (by simp) (by simp)
          rw [List.append_nil] at h
          simp only [List.nil_append]
          have e : okT 1 (.mk [] ps ks) = okK 2 [] ks := by simp [okT, hpo]
          rw [e]
          have e2 : decide (szT (.mk [] ps ks) ≤ 512) = true := decide_eq_true (by simpa only [szT] using hsz)
          have e3 : decide (0 < (flT (.mk [] ps ks) (-1) 0).length) = true := decide_eq_true (by simp [flT])
          simp only [flT, List.length_cons] at e3
          rw [e2, e3, decide_true, Bool.true_and, Bool.true_and, Bool.and_true]
          cases hk : okK 2 [] ks with
          | false => rw [show (chkGo 1 [1] [0] [] (flK ks 0 (0 + 1))).2 = none from h.2 hk]; rfl
          | true =>
            obtain ⟨dp2, pt2, sn2, h1, _⟩ := h.1 hk
            rw [show chkGo 1 [1] [0] [] (flK ks 0 (0 + 1)) = chkGo (1 + szK ks) ([1] ++ dp2) pt2 ([] ++ sn2) [] from h1, chkGo]
            rfl
        · rw [if_pos (.inr hn)]; simp [hn]
  · have h1 : treeOk (flT τ (-1) 0) = false := by
      cases h : treeOk (flT τ (-1) 0) with
      | false => rfl
      | true => have := treeOk_len h; rw [flT_length] at this; omega
    rw [h1]
    unfold okTree
    simp [hsz]

/-! Every list of nodes that is a tree lies so. -/
mutual
def spT : T → Nat → List Nat
  | .mk _ _ ks, b => b :: spK ks (b + 1)
def spK : List T → Nat → List Nat
  | [], _ => []
  | t :: ts, b => if ts.isEmpty then spT t b else spK ts (b + szT t)
end
mutual
def addT (nm : List UInt8) (ps : List Pr) : Nat → T → T
  | e, .mk n p ks => .mk n p (addK nm ps e ks)
def addK (nm : List UInt8) (ps : List Pr) : Nat → List T → List T
  | _, [] => [.mk nm ps []]
  | e, t :: ts => if ts.isEmpty then (match e with | 0 => [t, .mk nm ps []] | e + 1 => [addT nm ps e t]) else t :: addK nm ps e ts
end
theorem sp_ne (t : T) (b : Nat) : spT t b ≠ [] := by cases t; simp [spT]
mutual
theorem addT_fl (nm : List UInt8) (ps : List Pr) : ∀ (t : T) (e : Nat) (up : Int) (b : Nat), e < (spT t b).length →
    flT (addT nm ps e t) up b = flT t up b ++ [⟨(((spT t b).getD e 0 : Nat) : Int), nm, ps⟩] ∧ spT (addT nm ps e t) b = (spT t b).take (e + 1) ++ [b + szT t] ∧ szT (addT nm ps e t) = szT t + 1
  | .mk n p ks, e, up, b, he => by
    simp only [spT, List.length_cons] at he
    have h := addK_fl nm ps ks e b (b + 1) (by omega)
    simp only [addT, flT, spT, szT]
    refine ⟨?_, ?_, by omega⟩
    · rw [h.1, List.cons_append]
    · rw [h.2.1, List.take_succ_cons, List.cons_append]
      congr 3; omega
theorem addK_fl (nm : List UInt8) (ps : List Pr) : ∀ (ks : List T) (e u b : Nat), e ≤ (spK ks b).length →
    flK (addK nm ps e ks) u b = flK ks u b ++ [⟨(((u :: spK ks b).getD e 0 : Nat) : Int), nm, ps⟩] ∧ spK (addK nm ps e ks) b = (spK ks b).take e ++ [b + szK ks] ∧ szK (addK nm ps e ks) = szK ks + 1
  | [], e, u, b, he => by
    simp only [spK, List.length_nil] at he
    obtain rfl : e = 0 := by omega
    simp [addK, flK, flT, spK, spT, szK, szT]
  | [t], e, u, b, he => by
    simp only [spK, List.isEmpty_nil, if_true] at he
    cases e with
    | zero => simp [addK, flK, flT, spK, spT, szK, szT]
    | succ e =>
      have h := addT_fl nm ps t e (u : Int) b (by omega)
      simp only [addK, flK, spK, szK, List.isEmpty_nil, if_true, h.1, h.2.1, h.2.2]
      simp
  | t :: s :: ts, e, u, b, he => by
    simp only [spK, List.isEmpty_cons, Bool.false_eq_true, if_false] at he
    have h := addK_fl nm ps (s :: ts) e u (b + szT t) (by simpa [spK] using he)
    have hne : (addK nm ps e (s :: ts)).isEmpty = false := by
      cases hh : addK nm ps e (s :: ts) with
      | nil => have := h.2.2; rw [hh] at this; simp [szK] at this
      | cons _ _ => rfl
    have hs : ∀ b, spK (t :: s :: ts) b = spK (s :: ts) (b + szT t) := fun b => by rw [spK]; simp
    have ha : addK nm ps e (t :: s :: ts) = t :: addK nm ps e (s :: ts) := by cases e <;> simp [addK]
    have hs2 : spK (t :: addK nm ps e (s :: ts)) b = spK (addK nm ps e (s :: ts)) (b + szT t) := by rw [spK, hne]; simp
    have hf : flK (t :: s :: ts) u b = flT t (u : Int) b ++ flK (s :: ts) u (b + szT t) := by rw [flK]
    have hz : ∀ l, szK (t :: l) = szT t + szK l := fun l => by rw [szK]
    rw [ha, hs2, hs, hf, hz, hz, flK, h.1, h.2.1, h.2.2, List.append_assoc]
    exact ⟨rfl, by rw [Nat.add_assoc], by omega⟩
end
theorem chk_parse : ∀ (r : List Nd) (τ : T) (dp : List Int) (sn : List Kid), dp.length = szT τ → (∀ v ∈ dp, 1 ≤ v) →
    (chkGo (szT τ) dp ((spT τ 0).map fun (n : Nat) => (n : Int)) sn r).2.isSome = true → ∃ τ', flT τ (-1) 0 ++ r = flT τ' (-1) 0
  | [], τ, _, _, _, _, _ => ⟨τ, by simp⟩
  | x :: r, τ, dp, sn, hdl, hdv, h => by
    rw [chkGo] at h
    have hp := szT_pos τ
    split at h
    · cases h
    · rw [if_neg (by omega)] at h
      split at h
      · cases h
      · rename_i h2
        simp only [not_or, Bool.not_eq_false, Int.not_lt, Int.not_le] at h2
        split at h
        · cases h
        · rename_i h3
          simp only [not_or, Int.not_lt, Decidable.not_not] at h3
          have hd1 : 1 ≤ dp.getD x.parent.toNat 0 := by
            have hl : x.parent.toNat < dp.length := by omega
            rw [List.getD_eq_getElem?_getD, List.getElem?_eq_getElem hl]
            exact hdv _ (List.getElem_mem hl)
          obtain ⟨d, hd⟩ := Int.eq_ofNat_of_zero_le (show 0 ≤ dp.getD x.parent.toNat 0 by omega)
          rw [hd] at h h3 hd1
          rw [List.length_map] at h3
          have htd : ((d : Int) - 1).toNat = d - 1 := by omega
          rw [htd] at h3
          have hel : d - 1 < (spT τ 0).length := by omega
          have hpe : (((spT τ 0).getD (d - 1) 0 : Nat) : Int) = x.parent := by
            have := h3.2.1
            rw [List.getD_eq_getElem?_getD, List.getElem?_map, List.getElem?_eq_getElem hel] at this
            rw [List.getD_eq_getElem?_getD, List.getElem?_eq_getElem hel]
            exact this
          obtain ⟨a1, a2, a3⟩ := addT_fl x.name x.props τ (d - 1) (-1) 0 hel
          rw [hpe] at a1
          rw [Int.toNat_natCast] at h
          have e1 : d - 1 + 1 = d := by omega
          have e2 : List.take d (List.map (fun (n : Nat) => (n : Int)) (spT τ 0)) ++ [((szT τ : Nat) : Int)] = (spT (addT x.name x.props (d - 1) τ) 0).map fun (n : Nat) => (n : Int) := by
            rw [a2, e1, List.map_append, List.map_take, Nat.zero_add]; rfl
          rw [e2, ← a3] at h
          obtain ⟨τ', hτ⟩ := chk_parse r (addT x.name x.props (d - 1) τ) _ _ (by simp [hdl, a3]) (fun v hv => by
            rcases List.mem_append.1 hv with hv | hv
            · exact hdv v hv
            · simp at hv; omega) h
          refine ⟨τ', ?_⟩
          rw [← hτ, a1, List.append_assoc]
          rfl
theorem treeOk_parse {l : List Nd} (h : treeOk l = true) : ∃ τ, l = flT τ (-1) 0 ∧ okTree τ = true := by
  have key : ∃ τ, l = flT τ (-1) 0 := by
    have h0 := h
    unfold treeOk at h
    simp only [Bool.and_eq_true, decide_eq_true_eq] at h
    obtain ⟨h1, h2⟩ := h
    cases l with
    | nil => simp at h2
    | cons x r =>
      have hx := (treeOk_nd h0 (j := 0) (x := x) rfl).root rfl
      rw [chkGo] at h1
      split at h1
      · cases h1
      · rw [if_pos rfl, if_neg (by simp [hx.1, hx.2])] at h1
        obtain ⟨τ, hτ⟩ := chk_parse r (.mk x.name x.props []) [1] [] (by simp [szT, szK]) (by simp) (by simpa [spT, spK, szT, szK] using h1)
        refine ⟨τ, ?_⟩
        rw [← hτ]
        obtain ⟨xp, xn, xps⟩ := x
        simp only at hx
        obtain ⟨rfl, rfl⟩ := hx
        simp [flT, flK]
  obtain ⟨τ, rfl⟩ := key
  exact ⟨τ, rfl, by rw [← treeOk_flT]; exact h⟩
end Go.Proofs.YtjpebmgllfiloaaDoor
