/-
  Paths of nodes and of trees; what a laid tree has at a path.
-/
import Derived.Test.YtjpebmgllfiloaaDoorPd
namespace Go.Proofs.YtjpebmgllfiloaaDoor
open Go Wk

abbrev Nm := List UInt8
def nmsF (t : List Nd) : Nat → Nat → List Nm
  | 0, _ => []
  | f + 1, i => if i = 0 then [] else match t[i]? with | some x => nmsF t f x.parent.toNat ++ [x.name] | none => []
/-- The names from the root down to a node. -/
def nmsOf (t : List Nd) (i : Nat) : List Nm := nmsF t i i
theorem nmsF_eq {t : List Nd} (ht : treeOk t = true) : ∀ (f i : Nat), i ≤ f → nmsF t f i = nmsOf t i := by
  have key : ∀ (i f g : Nat), i ≤ f → i ≤ g → nmsF t f i = nmsF t g i := by
    intro i
    induction i using Nat.strongRecOn with
    | ind i ih =>
      intro f g hf hg
      cases f with
      | zero => cases g with
        | zero => rfl
        | succ g => obtain rfl : i = 0 := by omega
                    simp [nmsF]
      | succ f =>
        cases g with
        | zero => obtain rfl : i = 0 := by omega
                  simp [nmsF]
        | succ g =>
          simp only [nmsF]
          split
          · rfl
          · rename_i h0
            split
            · rename_i x hx
              have := (treeOk_nd ht hx).kid h0
              rw [ih x.parent.toNat (by omega) f g (by omega) (by omega)]
            · rfl
  exact fun f i h => key i f i h (Nat.le_refl _)
theorem nmsOf_zero (t : List Nd) : nmsOf t 0 = [] := rfl
theorem nmsOf_step {t : List Nd} (ht : treeOk t = true) {i : Nat} {x : Nd} (hx : t[i]? = some x) (h0 : i ≠ 0) : nmsOf t i = nmsOf t x.parent.toNat ++ [x.name] := by
  obtain ⟨m, rfl⟩ : ∃ m, i = m + 1 := ⟨i - 1, by omega⟩
  have := (treeOk_nd ht hx).kid h0
  show nmsF t (m + 1) (m + 1) = _
  rw [nmsF, if_neg h0, hx]
  dsimp only
  rw [nmsF_eq ht m x.parent.toNat (by omega)]
/-- A path. -/
def pathS (l : List Nm) : List UInt8 := if l = [] then [47] else l.flatMap fun n => 47 :: n
def GoodN (n : Nm) : Prop := n ≠ [] ∧ ∀ b ∈ n, b ≠ 47
theorem nameOk_good {n : Nm} (h : nameOk n = true) : GoodN n := by
  unfold nameOk at h
  simp only [Bool.and_eq_true, decide_eq_true_eq] at h
  refine ⟨h.1.1, fun b hb e => ?_⟩
  have := List.all_eq_true.1 h.2 b hb
  subst e
  rw [signs_eq] at this
  simp at this
theorem split_join : ∀ (l : List Nm) (n : Nm), (∀ b ∈ n, b ≠ 47) → (∀ m ∈ l, ∀ b ∈ m, b ≠ 47) → splitR 47 (n ++ l.flatMap fun n => 47 :: n) = n :: l
  | [], n, hn, _ => by simp [splitR_free hn]
  | m :: l, n, hn, hl => by
    rw [List.flatMap_cons, List.cons_append, splitR_at hn, split_join l m (hl m (by simp)) fun x hx => hl x (by simp [hx])]
theorem pathS_inj {l m : List Nm} (hl : ∀ n ∈ l, GoodN n) (hm : ∀ n ∈ m, GoodN n) (h : pathS l = pathS m) : l = m := by
  have key : ∀ (x : Nm) (r : List Nm), GoodN x → pathS (x :: r) ≠ [47] := fun x r hx e => by
    unfold pathS at e
    rw [if_neg (by simp), List.flatMap_cons, List.cons_append] at e
    have := (List.cons.inj e).2
    exact hx.1 (List.append_eq_nil_iff.1 this).1
  cases l with
  | nil => cases m with
    | nil => rfl
    | cons x r => exact absurd (h.symm.trans (by unfold pathS; rw [if_pos rfl])) (key x r (hm x (by simp)))
  | cons x r => cases m with
    | nil => exact absurd (h.trans (by unfold pathS; rw [if_pos rfl])) (key x r (hl x (by simp)))
    | cons y s =>
      unfold pathS at h
      rw [if_neg (by simp), if_neg (by simp), List.flatMap_cons, List.flatMap_cons, List.cons_append, List.cons_append] at h
      have h2 := congrArg (splitR 47) (List.cons.inj h).2
      rwa [split_join r x (hl x (by simp)).2 fun z hz => (hl z (by simp [hz])).2, split_join s y (hm y (by simp)).2 fun z hz => (hm z (by simp [hz])).2] at h2
theorem nmsOf_good {t : List Nd} (ht : treeOk t = true) : ∀ (i : Nat), ∀ n ∈ nmsOf t i, GoodN n ∧ n.length ≤ 31 := by
  intro i
  induction i using Nat.strongRecOn with
  | ind i ih =>
    intro n hn
    by_cases h0 : i = 0
    · subst h0; simp [nmsOf_zero] at hn
    · by_cases hi : i < t.length
      · obtain ⟨x, hx⟩ := get_lt t hi
        have hk := (treeOk_nd ht hx).kid h0
        rw [nmsOf_step ht hx h0] at hn
        rcases List.mem_append.1 hn with hn | hn
        · exact ih _ (by omega) n hn
        · simp at hn; subst hn; exact ⟨nameOk_good hk.2.2, nameOk_len hk.2.2⟩
      · obtain ⟨m, rfl⟩ : ∃ m, i = m + 1 := ⟨i - 1, by omega⟩
        unfold nmsOf at hn
        rw [nmsF, if_neg h0, List.getElem?_eq_none (by omega)] at hn
        simp at hn
theorem nmsOf_len {t : List Nd} (ht : treeOk t = true) : ∀ (i : Nat), (nmsOf t i).length ≤ i := by
  intro i
  induction i using Nat.strongRecOn with
  | ind i ih =>
    by_cases h0 : i = 0
    · subst h0; simp [nmsOf_zero]
    · by_cases hi : i < t.length
      · obtain ⟨x, hx⟩ := get_lt t hi
        have hk := (treeOk_nd ht hx).kid h0
        rw [nmsOf_step ht hx h0]
        have := ih x.parent.toNat (by omega)
        simp only [List.length_append, List.length_singleton]; omega
      · obtain ⟨m, rfl⟩ : ∃ m, i = m + 1 := ⟨i - 1, by omega⟩
        unfold nmsOf
        rw [nmsF, if_neg h0, List.getElem?_eq_none (by omega)]
        simp
theorem pathS_len {l : List Nm} (h : ∀ n ∈ l, n.length ≤ 31) : (pathS l).length ≤ 32 * l.length + 1 := by
  have key : (l.flatMap fun n => 47 :: n).length ≤ 32 * l.length := by
    induction l with
    | nil => simp
    | cons x r ih =>
      have h1 := ih fun n hn => h n (by simp [hn])
      have h2 := h x (by simp)
      simp only [List.flatMap_cons, List.length_append, List.length_cons] at h1 ⊢
      omega
  unfold pathS
  split
  · simp
  · omega
theorem pathS_step {l : List Nm} {n : Nm} (h : ∀ m ∈ l, GoodN m) : pathS (l ++ [n]) = (if pathS l = [47] then [] else pathS l) ++ [47] ++ n := by
  by_cases hl : l = []
  · subst hl; simp [pathS]
  · have hne : pathS l ≠ [47] := fun e => hl (pathS_inj h (by simp) (by rw [e]; rfl))
    rw [if_neg hne]
    unfold pathS
    rw [if_neg (by simp), if_neg hl, List.flatMap_append]; simp

/-! Where a path's node stands. -/
theorem okK_all : ∀ {ks : List T} {d : Nat} {seen : List Nm}, okK d seen ks = true → (∀ t ∈ ks, okT d t = true ∧ nameOk t.name = true ∧ t.name ∉ seen) ∧ (ks.map T.name).Nodup
  | [], _, _, _ => ⟨by simp, by simp⟩
  | t :: ts, d, seen, h => by
    simp only [okK, Bool.and_eq_true, Bool.not_eq_true'] at h
    obtain ⟨h1, h2, h3, h4⟩ := h
    obtain ⟨h5, h6⟩ := okK_all h4
    have hns : t.name ∉ seen := fun e => by rw [List.contains_iff_mem.2 e] at h2; cases h2
    refine ⟨fun x hx => ?_, ?_⟩
    · rcases List.mem_cons.1 hx with rfl | hx
      · exact ⟨h3, h1, hns⟩
      · have := h5 x hx
        exact ⟨this.1, this.2.1, fun e => this.2.2 (by simp [e])⟩
    · rw [List.map_cons, List.nodup_cons]
      refine ⟨fun e => ?_, h6⟩
      obtain ⟨x, hx, e⟩ := List.mem_map.1 e
      exact (h5 x hx).2.2 (by simp [e])
theorem kidAt_app {nm : Nm} {σ : T} (h2 : σ.name = nm) : ∀ {k1 k2 : List T} {b : Nat}, (∀ x ∈ k1, x.name ≠ nm) → kidAt nm (k1 ++ σ :: k2) b = some (σ, b + szK k1)
  | [], k2, b, _ => by rw [List.nil_append, kidAt, if_pos h2]; rfl
  | t :: ts, k2, b, h => by
    rw [List.cons_append, kidAt, if_neg (h t (by simp)), kidAt_app h2 fun x hx => h x (by simp [hx])]
    simp only [szK]; congr 2; omega
theorem atP_ok {ν : List Nm} : ∀ {τ σ : T} {b a d : Nat}, okT d τ = true → atP ν τ b = some (σ, a) → okT (d + ν.length) σ = true := by
  induction ν with
  | nil => intro τ σ b a d h hat; simp only [atP, Option.some.injEq, Prod.mk.injEq] at hat; obtain ⟨rfl, rfl⟩ := hat; exact h
  | cons nm r ih =>
    intro τ σ b a d h hat
    cases τ with
    | mk n p ks =>
      rw [atP] at hat
      simp only [T.kids] at hat
      cases hk : kidAt nm ks (b + 1) with
      | none => rw [hk] at hat; cases hat
      | some q =>
        rw [hk] at hat
        obtain ⟨k1, k2, rfl, _, _, hb, _⟩ := kidAt_split hk
        simp only [okT, Bool.and_eq_true] at h
        have := ih ((okK_all h.2.2).1 q.1 (by simp)).1 hat
        rwa [List.length_cons, show d + (r.length + 1) = d + 1 + r.length by omega]
theorem atP_pos {l : List Nd} {ν : List Nm} : ∀ {τ σ : T} {b a : Nat} {up : Int} {rest : List Nd}, l.drop b = flT τ up b ++ rest → Off b (szT τ) rest → atP ν τ b = some (σ, a) → ∃ up' rest', l.drop a = flT σ up' a ++ rest' ∧ Off a (szT σ) rest' := by
  induction ν with
  | nil => intro τ σ b a up rest h ho hat; simp only [atP, Option.some.injEq, Prod.mk.injEq] at hat; obtain ⟨rfl, rfl⟩ := hat; exact ⟨up, rest, h, ho⟩
  | cons nm r ih =>
    intro τ σ b a up rest h ho hat
    cases τ with
    | mk n p ks =>
      rw [atP] at hat
      simp only [T.kids] at hat
      cases hk : kidAt nm ks (b + 1) with
      | none => rw [hk] at hat; cases hat
      | some q =>
        rw [hk] at hat
        obtain ⟨κ, c⟩ := q
        obtain ⟨k1, k2, rfl, _, _, hb, _⟩ := kidAt_split hk
        simp only at hb hat
        subst hb
        obtain ⟨rest', h1, h2⟩ := sub_kid h ho
        exact ih h1 h2 hat
theorem atP_snoc {ν : List Nm} {nm : Nm} : ∀ {τ : T} {b : Nat}, atP (ν ++ [nm]) τ b = (atP ν τ b).bind fun q => kidAt nm q.1.kids (q.2 + 1) := by
  induction ν with
  | nil =>
    intro τ b
    simp only [List.nil_append, atP, Option.bind_some]
    cases kidAt nm τ.kids (b + 1) <;> rfl
  | cons n r ih =>
    intro τ b
    simp only [List.cons_append, atP]
    cases kidAt n τ.kids (b + 1) with
    | none => rfl
    | some q => exact ih
theorem get_flT {l rest : List Nd} {τ : T} {up : Int} {b : Nat} (h : l.drop b = flT τ up b ++ rest) : l[b]? = some ⟨up, τ.name, τ.props⟩ := by
  obtain ⟨r, hr⟩ := flT_head τ up b
  have := drop_get (i := 0) h
  rw [hr] at this
  simpa using this
/-- Each node is found by its names. -/
theorem atP_nms {τ : T} (hτ : okTree τ = true) : ∀ (i : Nat), i < szT τ → ∃ σ, atP (nmsOf (flT τ (-1) 0) i) τ 0 = some (σ, i) := by
  have ht : treeOk (flT τ (-1) 0) = true := by rw [treeOk_flT]; exact hτ
  have hok : okT 1 τ = true := by unfold okTree at hτ; simp only [Bool.and_eq_true] at hτ; exact hτ.2.2
  intro i
  induction i using Nat.strongRecOn with
  | ind i ih =>
    intro hi
    by_cases h0 : i = 0
    · subst h0; exact ⟨τ, rfl⟩
    · obtain ⟨x, hx⟩ := get_lt (flT τ (-1) 0) (k := i) (by rw [flT_length]; exact hi)
      have hk := (treeOk_nd ht hx).kid h0
      obtain ⟨p, hp⟩ := Int.eq_ofNat_of_zero_le hk.1
      obtain ⟨σ, hσ⟩ := ih p (by omega) (by omega)
      rw [nmsOf_step ht hx h0, hp, Int.toNat_natCast, atP_snoc, hσ, Option.bind_some]
      obtain ⟨up, rest, h1, h2⟩ := atP_pos (l := flT τ (-1) 0) (up := -1) (rest := []) (by simp) (fun x hx => by simp at hx) hσ
      have hσo := atP_ok hok hσ
      cases σ with
      | mk n ps ks =>
        simp only [okT, Bool.and_eq_true] at hσo
        obtain ⟨hall, hnd⟩ := okK_all hσo.2.2
        have hget := drop_get (i := i - p) h1
        rw [Nat.add_sub_cancel' (by omega), hx] at hget
        simp only [flT, List.cons_append] at hget
        obtain ⟨m, hm⟩ : ∃ m, i - p = m + 1 := ⟨i - p - 1, by omega⟩
        rw [hm, List.getElem?_cons_succ] at hget
        have him : i = p + 1 + m := by omega
        have hlt : m < szK ks := by
          rcases Nat.lt_or_ge m (szK ks) with h | h
          · exact h
          · rw [List.getElem?_append_right (by rw [flK_length]; exact h)] at hget
            rcases h2 x (List.mem_of_getElem? hget.symm) with h3 | h3
            · omega
            · simp only [szT] at h3; omega
        rw [List.getElem?_append_left (by rw [flK_length]; exact hlt)] at hget
        have find : ∀ (ks : List T) (b m : Nat), p < b → (flK ks p b)[m]? = some x → ∃ k1 σ k2, ks = k1 ++ σ :: k2 ∧ m = szK k1 ∧ σ.name = x.name := by
          intro ks
          induction ks with
          | nil => intro b m _ h; simp [flK] at h
          | cons t ts ih2 =>
            intro b m hb h
            simp only [flK] at h
            rw [List.getElem?_append, flT_length] at h
            split at h
            · obtain ⟨r, hr⟩ := flT_head t (p : Int) b
              rw [hr] at h
              cases m with
              | zero =>
                simp at h
                exact ⟨[], t, ts, rfl, rfl, by rw [← h]⟩
              | succ m =>
                simp only [List.getElem?_cons_succ] at h
                have := flT_par t p b r hr x (List.mem_of_getElem? h)
                omega
            · obtain ⟨k1, σ, k2, rfl, h3, h4⟩ := ih2 (b + szT t) (m - szT t) (by omega) h
              exact ⟨t :: k1, σ, k2, rfl, by simp only [szK]; omega, h4⟩
        obtain ⟨k1, κ, k2, rfl, hm2, hnm⟩ := find ks (p + 1) m (by omega) hget.symm
        refine ⟨κ, ?_⟩
        simp only [T.kids]
        rw [kidAt_app hnm fun y hy e => ?_]
        · congr 2; omega
        · rw [List.map_append, List.map_cons, List.nodup_append] at hnd
          exact hnd.2.2 y.name (List.mem_map.2 ⟨y, hy, rfl⟩) κ.name (by simp) (e.trans hnm.symm)
theorem nms_atP {τ : T} (hτ : okTree τ = true) {ν : List Nm} : ∀ {σ : T} {k : Nat}, atP ν τ 0 = some (σ, k) → nmsOf (flT τ (-1) 0) k = ν ∧ k < szT τ ∧ ∃ up, (flT τ (-1) 0)[k]? = some ⟨up, σ.name, σ.props⟩ := by
  have ht : treeOk (flT τ (-1) 0) = true := by rw [treeOk_flT]; exact hτ
  have key : ∀ (n : Nat) (ν : List Nm), ν.length = n → ∀ {σ : T} {k : Nat}, atP ν τ 0 = some (σ, k) → nmsOf (flT τ (-1) 0) k = ν ∧ k < szT τ ∧ ∃ up, (flT τ (-1) 0)[k]? = some ⟨up, σ.name, σ.props⟩ := by
    intro n
    induction n with
    | zero =>
      intro ν hν σ k h
      obtain rfl := List.eq_nil_of_length_eq_zero hν
      simp only [atP, Option.some.injEq, Prod.mk.injEq] at h
      obtain ⟨rfl, rfl⟩ := h
      exact ⟨rfl, szT_pos τ, -1, get_flT (l := flT τ (-1) 0) (rest := []) (b := 0) (by simp)⟩
    | succ n ih =>
      intro ν hν σ k h
      obtain ⟨μ, nm, rfl⟩ : ∃ μ nm, ν = μ ++ [nm] := ⟨ν.dropLast, ν.getLast (by rintro rfl; cases hν), (List.dropLast_concat_getLast _).symm⟩
      have h0 := h
      rw [atP_snoc] at h
      cases hμ : atP μ τ 0 with
      | none => rw [hμ] at h; cases h
      | some q =>
        obtain ⟨ρ, a⟩ := q
        rw [hμ] at h
        simp only [Option.bind_some] at h
        have hi := ih μ (by simpa using hν) hμ
        obtain ⟨k1, k2, hks, _, hnm, hb, _⟩ := kidAt_split h
        simp only at hks hnm hb
        obtain ⟨up, rest, h1, h2⟩ := atP_pos (l := flT τ (-1) 0) (up := -1) (rest := []) (by simp) (fun x hx => by simp at hx) hμ
        cases ρ with
        | mk n' ps ks =>
          simp only [T.kids] at hks
          subst hks
          obtain ⟨rest', h3, _⟩ := sub_kid h1 h2
          have hg := get_flT h3
          rw [← hb] at hg
          have hkl := (List.getElem?_eq_some_iff.1 hg).1
          rw [flT_length] at hkl
          refine ⟨?_, hkl, _, hg⟩
          rw [nmsOf_step ht hg (by omega)]
          simp only [Int.toNat_natCast]
          rw [hi.1, hnm]
  intro σ k h
  exact key ν.length ν rfl h

/-! Props at a path. -/
def kidF (nm : Nm) (ks : List T) : Option T := ks.find? fun t => decide (t.name = nm)
def gp : List Nm → T → Option (List Pr)
  | [], τ => some τ.props
  | nm :: r, τ => (kidF nm τ.kids).bind (gp r)
theorem kidF_at {nm : Nm} : ∀ {ks : List T} {b : Nat}, (kidAt nm ks b).map (·.1) = kidF nm ks
  | [], b => rfl
  | t :: ts, b => by
    unfold kidF
    rw [kidAt, List.find?_cons]
    by_cases h : t.name = nm
    · rw [if_pos h, decide_eq_true h]; rfl
    · rw [if_neg h, decide_eq_false h]
      exact kidF_at
theorem gp_at {ν : List Nm} : ∀ {τ : T} {b : Nat}, (atP ν τ b).map (fun q => q.1.props) = gp ν τ := by
  induction ν with
  | nil => intro τ b; rfl
  | cons nm r ih =>
    intro τ b
    rw [atP, gp, ← kidF_at (b := b + 1)]
    cases kidAt nm τ.kids (b + 1) with
    | none => rfl
    | some q => exact ih
theorem gp_some {ν : List Nm} {τ σ : T} {b a : Nat} (h : atP ν τ b = some (σ, a)) : gp ν τ = some σ.props := by rw [← gp_at (b := b), h]; rfl
theorem kidF_ins_ne {g : T → T} {m nm : Nm} (hg : ∀ t, (g t).name = t.name) (h : m ≠ nm) (ks : List T) : kidF nm (insK g m ks) = kidF nm ks := by
  unfold kidF
  rcases insK_cases g m ks with ⟨k1, t, k2, rfl, _, ht, e⟩ | ⟨_, e⟩
  · rw [e, List.find?_append, List.find?_append, List.find?_cons, List.find?_cons, hg, decide_eq_false (fun e => h (ht.symm.trans e))]
  · rw [e, List.find?_append, List.find?_cons, hg, show (T.mk m [] []).name = m from rfl, decide_eq_false h]
    simp
theorem kidF_ins_eq {g : T → T} {nm : Nm} (hg : ∀ t, (g t).name = t.name) (ks : List T) : kidF nm (insK g nm ks) = some (g ((kidF nm ks).getD (.mk nm [] []))) := by
  unfold kidF
  rcases insK_cases g nm ks with ⟨k1, t, k2, rfl, hn, ht, e⟩ | ⟨hn, e⟩
  · have h0 : k1.find? (fun t => decide (t.name = nm)) = none := List.find?_eq_none.2 fun x hx => by simpa using hn x hx
    rw [e, List.find?_append, List.find?_append, List.find?_cons, List.find?_cons, hg, decide_eq_true ht, h0]; rfl
  · have h0 : ks.find? (fun t => decide (t.name = nm)) = none := List.find?_eq_none.2 fun x hx => by simpa using hn x hx
    rw [e, List.find?_append, List.find?_cons, hg, h0]
    simp only [T.name, decide_true, Option.none_or, Option.getD_none]
theorem kidF_layK {nm : Nm} : ∀ (js ks : List T), (js.map T.name).Nodup → kidF nm (layK js ks) = match kidF nm js with | none => kidF nm ks | some j => some (layT j ((kidF nm ks).getD (.mk nm [] [])))
  | [], ks, _ => rfl
  | j :: js, ks, h => by
    rw [List.map_cons, List.nodup_cons] at h
    rw [layK, kidF_layK js _ h.2]
    have hc : kidF nm (j :: js) = if j.name = nm then some j else kidF nm js := by
      unfold kidF
      rw [List.find?_cons]
      by_cases e : j.name = nm
      · rw [if_pos e, decide_eq_true e]
      · rw [if_neg e, decide_eq_false e]
    rw [hc]
    by_cases e : j.name = nm
    · rw [if_pos e]
      have h0 : kidF nm js = none := List.find?_eq_none.2 fun x hx => by
        simp only [decide_eq_true_eq]
        exact fun e' => h.1 (List.mem_map.2 ⟨x, hx, e'.trans e.symm⟩)
      rw [h0]
      dsimp only
      subst e
      rw [kidF_ins_eq (layT_name j)]
    · rw [if_neg e]
      rw [kidF_ins_ne (layT_name j) e]
theorem gp_lay {ν : List Nm} : ∀ {π τ : T} {d : Nat}, okT d π = true → gp ν (layT π τ) = match gp ν π with | none => gp ν τ | some qs => some (qs.foldl setPr ((gp ν τ).getD [])) := by
  induction ν with
  | nil => intro π τ d _; cases π; cases τ; rfl
  | cons nm r ih =>
    intro π τ d h
    cases π with
    | mk pn qs js =>
      cases τ with
      | mk n ps ks =>
        simp only [okT, Bool.and_eq_true] at h
        obtain ⟨hall, hnd⟩ := okK_all h.2.2
        simp only [layT, gp, T.kids]
        rw [kidF_layK js ks hnd]
        cases hj : kidF nm js with
        | none => rfl
        | some j =>
          dsimp only [Option.bind_some]
          have hjm : j ∈ js := List.mem_of_find?_eq_some hj
          rw [ih (hall j hjm).1]
          cases hk : kidF nm ks with
          | some k => rfl
          | none =>
            simp only [Option.getD_none, Option.bind_none]
            cases r with
            | nil => rfl
            | cons m r => rfl
theorem gp_upd {g : T → T} (hg : ∀ t, (g t).name = t.name) {nms : List Nm} : ∀ {τ σ : T} {b a : Nat} {ν : List Nm}, atP nms τ b = some (σ, a) → (∀ μ, ν = nms ++ μ → gp ν (updP g nms τ) = gp μ (g σ)) ∧ ((∀ μ, ν ≠ nms ++ μ) → gp ν (updP g nms τ) = gp ν τ) := by
  have hun : ∀ (r : List Nm) (t : T), (updP g r t).name = t.name := fun r t => by
    cases r with
    | nil => exact hg t
    | cons _ _ => cases t; rfl
  induction nms with
  | nil =>
    intro τ σ b a ν h
    simp only [atP, Option.some.injEq, Prod.mk.injEq] at h
    obtain ⟨rfl, rfl⟩ := h
    exact ⟨fun μ e => by subst e; rfl, fun hn => absurd rfl (hn ν)⟩
  | cons nm r ih =>
    intro τ σ b a ν h
    cases τ with
    | mk n p ks =>
      rw [atP] at h
      simp only [T.kids] at h
      cases hk : kidAt nm ks (b + 1) with
      | none => rw [hk] at h; cases h
      | some q =>
        rw [hk] at h
        obtain ⟨κ, c⟩ := q
        obtain ⟨k1, k2, rfl, hno, hnm, hb, hup⟩ := kidAt_split hk
        simp only at hno hnm hb hup h
        simp only [updP, hup]
        have h0 : k1.find? (fun t => decide (t.name = nm)) = none := List.find?_eq_none.2 fun x hx => by simpa using hno x hx
        have hkf : ∀ (x : T), x.name = nm → kidF nm (k1 ++ x :: k2) = some x := fun x hx => by
          unfold kidF
          rw [List.find?_append, h0, Option.none_or, List.find?_cons, decide_eq_true hx]
        refine ⟨fun μ e => ?_, fun hn => ?_⟩
        · subst e
          simp only [List.cons_append, gp, T.kids]
          rw [hkf _ ((hun r κ).trans hnm), Option.bind_some]
          exact (ih h).1 μ rfl
        · cases ν with
          | nil => rfl
          | cons m ν =>
            simp only [gp, T.kids]
            by_cases e : m = nm
            · subst e
              rw [hkf _ ((hun r κ).trans hnm), hkf κ hnm, Option.bind_some, Option.bind_some]
              exact (ih h).2 fun μ e => hn μ (by rw [e]; rfl)
            · congr 1
              unfold kidF
              rw [List.find?_append, List.find?_append, List.find?_cons, List.find?_cons, hun, hnm, decide_eq_false (fun e' => e e'.symm)]

/-! Values. -/
def val (ps : List Pr) (nm : Nm) : Option (List UInt8) := (ps.find? fun p => decide (p.1 = nm)).map (·.2)
theorem val_none {ps : List Pr} {nm : Nm} : val ps nm = none ↔ ∀ p ∈ ps, p.1 ≠ nm := by
  unfold val
  rw [Option.map_eq_none_iff, List.find?_eq_none]
  simp
theorem val_mem {ps : List Pr} (h : (ps.map (·.1)).Nodup) {p : Pr} (hp : p ∈ ps) : val ps p.1 = some p.2 := by
  induction ps with
  | nil => simp at hp
  | cons q r ih =>
    rw [List.map_cons, List.nodup_cons] at h
    unfold val
    rw [List.find?_cons]
    rcases List.mem_cons.1 hp with rfl | hp
    · simp
    · have : q.1 ≠ p.1 := fun e => h.1 (by rw [e]; exact List.mem_map.2 ⟨p, hp, rfl⟩)
      rw [decide_eq_false this]
      exact ih h.2 hp
theorem val_drop {D : List Nm} {ps : List Pr} {nm : Nm} : val (dropPr D ps) nm = if D.contains nm = true then none else val ps nm := by
  induction ps with
  | nil => simp [val, dropPr]
  | cons q r ih =>
    unfold dropPr at ih ⊢
    rw [List.filter_cons]
    unfold val at ih ⊢
    by_cases hq : q.1 = nm
    · subst hq
      cases hc : D.contains q.1 with
      | true => rw [hc] at ih; simpa using ih
      | false => simp
    · split
      · rw [List.find?_cons, decide_eq_false hq, List.find?_cons, decide_eq_false hq]; exact ih
      · rw [List.find?_cons (a := q), decide_eq_false hq]; exact ih
theorem setPr_names (ps : List Pr) (p : Pr) : (setPr ps p).map (·.1) = if (ps.map (·.1)).contains p.1 = true then ps.map (·.1) else ps.map (·.1) ++ [p.1] := by
  unfold setPr
  cases h : ps.findIdx? (fun y => decide (y.1 = p.1)) with
  | none =>
    have hn : (ps.map (·.1)).contains p.1 = false := by
      rw [Bool.eq_false_iff]; intro hc
      obtain ⟨y, hy, e⟩ := List.mem_map.1 (List.contains_iff_mem.1 hc)
      have := List.findIdx?_eq_none_iff.1 h y hy
      simp [e] at this
    rw [if_neg (by rw [hn]; simp)]
    simp
  | some i =>
    obtain ⟨hi, hp, _⟩ := List.findIdx?_eq_some_iff_getElem.1 h
    have hpe : (ps[i]).1 = p.1 := by simpa using hp
    have hc : (ps.map (·.1)).contains p.1 = true := List.contains_iff_mem.2 (List.mem_map.2 ⟨ps[i], List.getElem_mem hi, hpe⟩)
    rw [if_pos hc]
    dsimp only
    rw [List.map_set]
    apply List.ext_getElem?
    intro j
    rw [List.getElem?_set]
    split
    · rename_i e
      subst e
      rw [List.length_map, if_pos hi, List.getElem?_map, List.getElem?_eq_getElem hi]
      simp [hpe]
    · rfl
theorem val_set (ps : List Pr) (p : Pr) (nm : Nm) : val (setPr ps p) nm = if p.1 = nm then some p.2 else val ps nm := by
  unfold setPr
  cases h : ps.findIdx? (fun y => decide (y.1 = p.1)) with
  | none =>
    have hn := List.findIdx?_eq_none_iff.1 h
    dsimp only
    unfold val
    rw [List.find?_append, List.find?_cons]
    by_cases e : p.1 = nm
    · subst e
      have h0 : ps.find? (fun q => decide (q.1 = p.1)) = none := List.find?_eq_none.2 fun x hx => by simpa using hn x hx
      rw [if_pos rfl, h0]; simp
    · rw [if_neg e, decide_eq_false e]; simp
  | some i =>
    obtain ⟨hi, hp, hb⟩ := List.findIdx?_eq_some_iff_getElem.1 h
    have hpe : (ps[i]).1 = p.1 := by simpa using hp
    dsimp only
    have hsplit : ps = ps.take i ++ ps[i] :: ps.drop (i + 1) := by rw [← List.drop_eq_getElem_cons hi, List.take_append_drop]
    have hset : ps.set i (p.1, p.2) = ps.take i ++ (p.1, p.2) :: ps.drop (i + 1) := by rw [List.set_eq_take_append_cons_drop, if_pos hi]
    rw [hset]
    unfold val
    conv => rhs; rw [hsplit]
    rw [List.find?_append, List.find?_append, List.find?_cons, List.find?_cons, hpe]
    by_cases e : p.1 = nm
    · rw [if_pos e]
      have h0 : (ps.take i).find? (fun q => decide (q.1 = nm)) = none := List.find?_eq_none.2 fun x hx => by
        obtain ⟨j, hj⟩ := List.mem_iff_getElem?.1 hx
        rw [List.getElem?_take] at hj
        split at hj
        · rename_i hji
          obtain ⟨h1, rfl⟩ := List.getElem?_eq_some_iff.1 hj
          have := hb j hji
          simpa [← e] using this
        · cases hj
      rw [h0]; simp [e]
    · rw [if_neg e]; simp [e]
theorem val_foldl : ∀ (qs ps : List Pr) (nm : Nm), (qs.map (·.1)).Nodup → val (qs.foldl setPr ps) nm = match val qs nm with | some v => some v | none => val ps nm
  | [], ps, nm, _ => rfl
  | q :: qs, ps, nm, h => by
    rw [List.map_cons, List.nodup_cons] at h
    rw [List.foldl_cons, val_foldl qs _ nm h.2, val_set]
    have hc : val (q :: qs) nm = if q.1 = nm then some q.2 else val qs nm := by
      unfold val
      rw [List.find?_cons]
      by_cases e : q.1 = nm
      · rw [if_pos e, decide_eq_true e]; rfl
      · rw [if_neg e, decide_eq_false e]
    rw [hc]
    by_cases e : q.1 = nm
    · have : val qs nm = none := val_none.2 fun p hp e' => h.1 (List.mem_map.2 ⟨p, hp, e'.trans e.symm⟩)
      rw [if_pos e, if_pos e, this]
    · rw [if_neg e, if_neg e]
theorem propsGo_nodup : ∀ (l : List Pr) (seen : List Nm), propsGo seen l = true → (l.map (·.1)).Nodup ∧ ∀ p ∈ l, p.1 ∉ seen ∧ nameOk p.1 = true ∧ p.2.length ≤ 1024
  | [], _, _ => ⟨by simp, by simp⟩
  | p :: r, seen, h => by
    simp only [propsGo, Bool.and_eq_true, decide_eq_true_eq, Bool.not_eq_true'] at h
    obtain ⟨h1, h2, h3, h4⟩ := h
    obtain ⟨h5, h6⟩ := propsGo_nodup r _ h4
    have hns : p.1 ∉ seen := fun e => by rw [List.contains_iff_mem.2 e] at h3; cases h3
    refine ⟨?_, fun x hx => ?_⟩
    · rw [List.map_cons, List.nodup_cons]
      refine ⟨fun e => ?_, h5⟩
      obtain ⟨y, hy, e⟩ := List.mem_map.1 e
      exact (h6 y hy).1 (by simp [e])
    · rcases List.mem_cons.1 hx with rfl | hx
      · exact ⟨hns, h1, h2⟩
      · exact ⟨fun e => (h6 x hx).1 (by simp [e]), (h6 x hx).2⟩
theorem propsOk_nodup {l : List Pr} (h : propsOk l = true) : (l.map (·.1)).Nodup := by
  unfold propsOk at h
  simp only [Bool.and_eq_true] at h
  exact (propsGo_nodup l [] h.2).1
end Go.Proofs.YtjpebmgllfiloaaDoor
