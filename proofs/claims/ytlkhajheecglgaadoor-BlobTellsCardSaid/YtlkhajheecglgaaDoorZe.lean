/-
  Texts of this claim, one behind the other: Hb, Hc, Hd, Ka, Ea, Ga, Go, Ec, Kb.
-/
import Derived.Test.YtlkhajheecglgaaDoorZd
import Derived.ChangeSame
import Derived.SizedLaws
namespace Go.Proofs.YtlkhajheecglgaaDoor
open Go Wk
open Go.RowKit (Below)
attribute [local irreducible] Go.Calls

def ancI (l : List Nd) (i : Int) : List Nat := if i < 0 then [] else anc l i.toNat
theorem ancI_length {l : List Nd} {n : Nat} (h : Down l n) {i : Int} (hi : i < n) (h0 : -1 ≤ i) : ((ancI l i).length : Int) ≤ i + 1 := by
  unfold ancI
  split
  · simp; omega
  · have := anc_length h i.toNat (by omega)
    omega
theorem ancI_step {l : List Nd} {n : Nat} (h : Down l n) {c : Int} {x : Nd} (h0 : 0 ≤ c) (hc : c < n) (hx : l[c.toNat]? = some x) : ancI l c = c.toNat :: ancI l x.parent := by
  unfold ancI
  rw [if_neg (by omega), anc_step h (by omega) hx]
set_option maxRecDepth 4000 in
theorem Depth_spec {Pb : Nat → Prop} {w : World} {v : Value} {l : List Nd} {n i : Nat} (h : RdS rNd 3 Pb w v l) (hd : Down l n) (hi : i < n) (hl : i < l.length) :
    Calls Tryd.prog 48 #[v, vi i] w (Ret fun r w' => r = vi (anc l i).length ∧ New w w') := by
  obtain ⟨a, cap, rfl, hc1, hc2⟩ := h.form
  simp only [maxLen] at hc2
  have hal := anc_length hd i hi
  refine calls_of_Wc Tryd.func48 rfl Tryd.ntmps48 rfl ?_
  (repeat' (first | refine Wl.assignE (by conv => { lhs; whnf }) ?_ | refine Wl.nil ?_ | refine Qseq.normal ?_ | refine Wc.seq ?_ | refine Wc.region ?_ | refine Wc.block ?_))
  refine Wc.loop (σ := Int × Nat) (fun s => [(0, .slice a l.length cap), (1, vi s.1), (5, vi s.2)]) (fun s w' => s.1 ≤ i ∧ (anc l i).length = s.2 + (ancI l s.1).length ∧ New w w') (fun s => (s.1 + 1).toNat) ((i : Int), 0) ⟨rfl, rfl, rfl, trivial⟩ ⟨Int.le_refl _, ?_, Chg.refl _ _⟩ ?_
  · unfold ancI
    rw [if_neg (by omega), Nat.zero_add]; rfl
  rintro ⟨c, k⟩ G w1 ⟨hc, hgo, n1⟩
  dsimp only at hc hgo
  simp only [upds]
  (repeat' (first | refine Wl.moveE (by conv => { lhs; whnf }) ?_ | refine Wl.assignE (by conv => { lhs; whnf }) ?_ | refine Wl.nil ?_ | refine Qseq.normal ?_ | refine Wc.seq ?_ | refine Wc.region ?_ | refine Wc.block ?_ | refine Wc.skip ?_ | refine Wc.exit ?_ | refine Wc.ret ?_ | refine Qseq.exit ?_ | refine Qblk.hit ?_ | refine Qloop.exit ?_ | refine Wc.condT rfl ?_ | refine Wc.condF rfl ?_ | refine Wl.geq rfl rfl (fun _ => ?_) (fun _ => ?_)))
  · obtain ⟨x, hx⟩ := get_lt l (k := c.toNat) (by omega)
    have hst := ancI_step hd (c := c) (by omega) (by omega) hx
    rw [hst, List.length_cons] at hgo
    have hdx := hd c.toNat x (by omega) hx
    refine Wl.idxAddr (h.keep stableNd n1.keep) rfl rfl (by omega) hx fun b o cs hl hR hat => ?_
    obtain ⟨pv, rfl, _⟩ := hR
    (repeat' (refine Wl.fieldAddr rfl rfl ?_))
    refine Wl.load1 rfl (hat.get 0 rfl) ?_
    (repeat' (first | refine Wl.moveE (by conv => { lhs; whnf }) ?_ | refine Wl.assignE (by conv => { lhs; whnf }) ?_ | refine Wl.nil ?_ | refine Qseq.normal ?_ | refine Wc.region ?_ | refine Qblk.normal ?_ | refine Wl.add rfl rfl (by omega) (by omega) ?_))
    exact Qloop.normal (x.parent, k + 1) ⟨rfl, rfl, rfl, trivial⟩ ⟨by dsimp only; omega, by dsimp only; omega, n1⟩ (by dsimp only; omega)
  · have e : ancI l c = [] := by unfold ancI; rw [if_pos (by omega)]
    rw [e, List.length_nil] at hgo
    rw [hgo]
    exact Qfn.ret1 rfl rfl ⟨_, rfl, rfl, n1⟩
set_option maxRecDepth 4000 in
theorem above_spec {Pb : Nat → Prop} {w : World} {v : Value} {l : List Nd} {n i : Nat} {p : Int} (h : RdS rNd 3 Pb w v l) (hd : Down l n) (hi : i < n) (hl : i < l.length) (hp : 0 ≤ p) :
    Calls Tryd.prog 47 #[v, vi p, vi i] w (Ret fun r w' => r = .bool ((anc l i).contains p.toNat) ∧ New w w') := by
  obtain ⟨a, cap, rfl, hc1, hc2⟩ := h.form
  simp only [maxLen] at hc2
  refine calls_of_Wc Tryd.func47 rfl Tryd.ntmps47 rfl ?_
  (repeat' (first | refine Wl.assignE (by conv => { lhs; whnf }) ?_ | refine Wl.nil ?_ | refine Qseq.normal ?_ | refine Wc.seq ?_ | refine Wc.region ?_ | refine Wc.block ?_))
  refine Wc.loop (σ := Int) (fun c => [(0, .slice a l.length cap), (1, vi p), (2, vi c)]) (fun c w' => c ≤ i ∧ (anc l i).contains p.toNat = (ancI l c).contains p.toNat ∧ New w w') (fun c => (c + 1).toNat) (i : Int) ⟨rfl, rfl, rfl, trivial⟩ ⟨Int.le_refl _, ?_, Chg.refl _ _⟩ ?_
  · unfold ancI
    rw [if_neg (by omega)]; rfl
  rintro c G w1 ⟨hc, hgo, n1⟩
  simp only [upds]
  (repeat' (first | refine Wl.moveE (by conv => { lhs; whnf }) ?_ | refine Wl.assignE (by conv => { lhs; whnf }) ?_ | refine Wl.nil ?_ | refine Qseq.normal ?_ | refine Wc.seq ?_ | refine Wc.region ?_ | refine Wc.block ?_ | refine Wc.skip ?_ | refine Wc.exit ?_ | refine Wc.ret ?_ | refine Qseq.exit ?_ | refine Qseq.ret ?_ | refine Qblk.ret ?_ | refine Qblk.hit ?_ | refine Qloop.exit ?_ | refine Qloop.ret ?_ | refine Wc.condT rfl ?_ | refine Wc.condF rfl ?_ | refine Wl.geq rfl rfl (fun _ => ?_) (fun _ => ?_) | refine Wl.eql rfl rfl (fun _ => ?_) (fun _ => ?_)))
  · obtain ⟨x, hx⟩ := get_lt l (k := c.toNat) (by omega)
    rw [hgo, ancI_step hd (c := c) (by omega) (by omega) hx]
    have e : c.toNat = p.toNat := by omega
    rw [e]
    refine Qfn.ret1 rfl rfl ⟨_, rfl, ?_, n1⟩
    rw [show (p.toNat :: ancI l x.parent).contains p.toNat = true by simp]; rfl
  · obtain ⟨x, hx⟩ := get_lt l (k := c.toNat) (by omega)
    have hdx := hd c.toNat x (by omega) hx
    rw [ancI_step hd (c := c) (by omega) (by omega) hx] at hgo
    refine Wl.idxAddr (h.keep stableNd n1.keep) rfl rfl (by omega) hx fun b o cs hl hR hat => ?_
    obtain ⟨pv, rfl, _⟩ := hR
    (repeat' (refine Wl.fieldAddr rfl rfl ?_))
    refine Wl.load1 rfl (hat.get 0 rfl) ?_
    (repeat' (first | refine Wl.assignE (by conv => { lhs; whnf }) ?_ | refine Wl.nil ?_ | refine Qblk.normal ?_))
    refine Qloop.normal x.parent ⟨rfl, rfl, rfl, trivial⟩ ⟨by omega, ?_, n1⟩ (by omega)
    rw [hgo, List.contains_cons, show (p.toNat == c.toNat) = false from by simp; omega, Bool.false_or]
  · have e : ancI l c = [] := by unfold ancI; rw [if_pos (by omega)]
    rw [hgo, e]
    exact Qfn.ret1 rfl rfl ⟨_, rfl, rfl, n1⟩
theorem any_take {α : Type} {p : α → Bool} {l : List α} {k i : Nat} {x : α} (hk : k < i) (h1 : 1 ≤ k) (hx : l[k]? = some x) (hp : p x = true) : ((l.take i).drop 1).any p = true := by
  rw [List.any_eq_true]
  refine ⟨x, List.mem_iff_getElem?.2 ⟨k - 1, ?_⟩, hp⟩
  rw [List.getElem?_drop, List.getElem?_take, if_pos (by omega), show 1 + (k - 1) = k by omega]
  exact hx
theorem any_none {α : Type} {p : α → Bool} {l : List α} {i : Nat} (h : ∀ (k : Nat) (x : α), 1 ≤ k → k < i → l[k]? = some x → p x = false) : ((l.take i).drop 1).any p = false := by
  rw [List.any_eq_false]
  intro x hx
  obtain ⟨k, hk⟩ := List.mem_iff_getElem?.1 hx
  rw [List.getElem?_drop, List.getElem?_take] at hk
  split at hk
  · rw [h (1 + k) x (by omega) (by omega) hk]; simp
  · cases hk
set_option maxRecDepth 4000 in
set_option maxHeartbeats 2000000 in
theorem TreeR_spec {Pb : Nat → Prop} {w : World} {v : Value} {l : List Nd} (h : RdS rNd 3 Pb w v l) (hz : Sz l) :
    Calls Tryd.prog 30 #[v] w (Ret fun r w' => r = .bool (treeOk l) ∧ New w w') := by
  obtain ⟨a, cap, rfl, hc1, hc2⟩ := h.form
  simp only [maxLen] at hc2
  have hno : ∀ {i : Nat}, i < l.length → nextOk l i = false → treeOk l = false := fun {i} hi hn => by
    cases ht : treeOk l with
    | false => rfl
    | true => rw [((treeOk_next l).1 ht).1 i hi] at hn; cases hn
  have hzp : ∀ x ∈ l, TxOk x.props := fun x hx p hp => by
    have := (hz.tx x hx p hp).1
    simp only [maxLen]; omega
  refine calls_of_Wc Tryd.func30 rfl Tryd.ntmps30 rfl ?_
  (repeat' (first | refine Wl.moveE (by conv => { lhs; whnf }) ?_ | refine Wl.assignE (by conv => { lhs; whnf }) ?_ | refine Wl.nil ?_ | refine Wl.guardY rfl rfl ?_ | refine Wl.guardN rfl rfl ?_ | refine Wl.pickTE rfl (by conv => { lhs; whnf }) ?_ | refine Wl.pickFE rfl (by conv => { lhs; whnf }) ?_ | refine Wl.lenS rfl ?_ | refine Qseq.normal ?_ | refine Wc.seq ?_ | refine Wc.region ?_ | refine Wc.ret ?_ | refine Qseq.ret ?_ | refine Wc.condT rfl ?_ | refine Wl.lss rfl rfl (fun _ => ?_) (fun _ => ?_) | refine Wl.gtr rfl rfl (fun _ => ?_) (fun _ => ?_)))
  · have e : treeOk l = false := by
      cases ht : treeOk l with
      | false => rfl
      | true => have := ((treeOk_next l).1 ht).2; omega
    rw [e]
    exact Qfn.ret1 rfl rfl ⟨_, rfl, rfl, Chg.refl _ _⟩
  · obtain ⟨x, hx⟩ := get_lt l (k := 512) (by omega)
    rw [hno (i := 512) (by omega) (by unfold nextOk; rw [hx]; rfl)]
    exact Qfn.ret1 rfl rfl ⟨_, rfl, rfl, Chg.refl _ _⟩
  obtain ⟨x, hx⟩ := get_lt l (k := 0) (by omega)
  have hn0 : nextOk l 0 = (propsOk x.props && (decide (x.parent = -1) && decide (x.name = []))) := by unfold nextOk; rw [hx]; rfl
  refine Wl.idxAddr h rfl rfl (by omega) hx fun b o cs hl hR hat => ?_
  obtain ⟨pv, rfl, hpr⟩ := hR
  (repeat' (first | refine Wl.guardY rfl rfl ?_ | refine Wl.fieldAddr rfl rfl ?_))
  refine Wl.load1 rfl (hat.get 0 rfl) ?_
  (repeat' (first | refine Wl.moveE (by conv => { lhs; whnf }) ?_ | refine Wl.assignE (by conv => { lhs; whnf }) ?_ | refine Wl.nil ?_ | refine Wl.guardY rfl rfl ?_ | refine Wl.guardN rfl rfl ?_ | refine Wl.pickTE rfl (by conv => { lhs; whnf }) ?_ | refine Wl.pickFE rfl (by conv => { lhs; whnf }) ?_ | refine Qseq.normal ?_ | refine Wc.seq ?_ | refine Wc.region ?_ | refine Wc.ret ?_ | refine Qseq.ret ?_ | refine Wc.condT rfl ?_ | refine Wl.neq rfl rfl (fun _ => ?_) (fun _ => ?_)))
  · rw [hno (i := 0) (by omega) (by rw [hn0, decide_eq_false (by assumption)]; simp)]
    exact Qfn.ret1 rfl rfl ⟨_, rfl, rfl, Chg.refl _ _⟩
  refine Wl.idxAddr h rfl rfl (by omega) hx fun b o cs hl hR hat => ?_
  obtain ⟨pv, rfl, hpr⟩ := hR
  (repeat' (first | refine Wl.guardY rfl rfl ?_ | refine Wl.fieldAddr rfl rfl ?_))
  refine Wl.load1 rfl (hat.get 1 rfl) ?_
  (repeat' (first | refine Wl.moveE (by conv => { lhs; whnf }) ?_ | refine Wl.assignE (by conv => { lhs; whnf }) ?_ | refine Wl.nil ?_ | refine Wl.guardY rfl rfl ?_ | refine Wl.guardN rfl rfl ?_ | refine Wl.pickTE rfl (by conv => { lhs; whnf }) ?_ | refine Wl.pickFE rfl (by conv => { lhs; whnf }) ?_ | refine Qseq.normal ?_ | refine Wc.seq ?_ | refine Wc.region ?_ | refine Wc.ret ?_ | refine Qseq.ret ?_ | refine Wc.condT rfl ?_ | refine Wl.sneq rfl rfl (fun _ => ?_) (fun _ => ?_)))
  · rw [hno (i := 0) (by omega) (by rw [hn0, decide_eq_false (show ¬ x.name = [] by assumption)]; simp)]
    exact Qfn.ret1 rfl rfl ⟨_, rfl, rfl, Chg.refl _ _⟩
  refine Wl.idxAddr h rfl rfl (by omega) hx fun b o cs hl hR hat => ?_
  obtain ⟨pv, rfl, hpr⟩ := hR
  obtain ⟨pa, pc, rfl, _, _⟩ := hpr.form
  (repeat' (first | refine Wl.guardY rfl rfl ?_ | refine Wl.fieldAddr rfl rfl ?_))
  refine Wl.load1 rfl (hat.get 2 rfl) ?_
  (try refine Wl.guardY rfl rfl ?_)
  refine Wl.call (propsR_spec hpr (hzp x (List.mem_of_getElem? hx))) rfl ?_
  rintro _ w1 ⟨rfl, n1⟩
  cases hpo : propsOk x.props with
  | false =>
    (repeat' (first | refine Wl.assignE (by conv => { lhs; whnf }) ?_ | refine Wl.nil ?_ | refine Wl.guardY rfl rfl ?_ | refine Wl.pickFE rfl (by conv => { lhs; whnf }) ?_ | refine Wl.notB rfl ?_ | refine Qseq.normal ?_ | refine Wc.seq ?_ | refine Wc.region ?_ | refine Wc.ret ?_ | refine Qseq.ret ?_ | refine Wc.condT rfl ?_))
    rw [hno (i := 0) (by omega) (by rw [hn0, hpo]; rfl)]
    exact Qfn.ret1 rfl rfl ⟨_, rfl, rfl, n1⟩
  | true =>
    have h0 : nextOk l 0 = true := by
      rw [hn0, hpo, decide_eq_true (by omega), decide_eq_true (by assumption)]; rfl
    clear hat
    (repeat' (first | refine Wl.assignE (by conv => { lhs; whnf }) ?_ | refine Wl.nil ?_ | refine Wl.guardY rfl rfl ?_ | refine Wl.pickFE rfl (by conv => { lhs; whnf }) ?_ | refine Wl.notB rfl ?_ | refine Qseq.normal ?_ | refine Wc.seq ?_ | refine Wc.region ?_ | refine Wc.block ?_ | refine Wc.skip ?_ | refine Wc.condF rfl ?_))
    refine Wc.loop (σ := Nat) (fun i => [(0, .slice a l.length cap), (3, vi i)]) (fun i w' => i ≤ l.length ∧ 1 ≤ i ∧ (∀ j, j < i → nextOk l j = true) ∧ New w w') (fun i => l.length - i) 1 ⟨rfl, rfl, trivial⟩ ⟨by omega, Nat.le_refl _, fun j hj => (show 0 = j by omega) ▸ h0, n1⟩ ?_
    clear hx hn0 hpo h0 hpr n1
    rintro i G w1 ⟨hi, hi1, hall, n1⟩
    simp only [upds]
    (repeat' (first | refine Wl.moveE (by conv => { lhs; whnf }) ?_ | refine Wl.assignE (by conv => { lhs; whnf }) ?_ | refine Wl.nil ?_ | refine Wl.lenS rfl ?_ | refine Qseq.normal ?_ | refine Wc.seq ?_ | refine Wc.region ?_ | refine Wc.block ?_ | refine Wc.skip ?_ | refine Wc.exit ?_ | refine Wc.ret ?_ | refine Qseq.exit ?_ | refine Qblk.hit ?_ | refine Qloop.exit ?_ | refine Wc.condT rfl ?_ | refine Wc.condF rfl ?_ | refine Wl.lss rfl rfl (fun _ => ?_) (fun _ => ?_)))
    · obtain ⟨x, hx⟩ := get_lt l (k := i) (by omega)
      have hxm := List.mem_of_getElem? hx
      have hxn := hz.nm x hxm
      have hdn := nextOk_down hall
      have hil : i < l.length := by omega
      have hnx : nextOk l i = (propsOk x.props && (nameOk x.name && (decide (0 ≤ x.parent) && (decide (x.parent < i) && ((anc l (i - 1)).contains x.parent.toNat && (decide ((anc l x.parent.toNat).length + 1 ≤ 16) && !((l.take i).drop 1).any (sameKid x))))))) := by
        unfold nextOk; rw [hx]; dsimp only; rw [decide_eq_true (show i < 512 by omega), if_neg (by omega), Bool.true_and]
      refine Wl.idxAddr (h.keep stableNd n1.keep) rfl rfl (by omega) hx fun b o cs hl hR hat => ?_
      obtain ⟨pv, rfl, hpr⟩ := hR
      refine Wl.loadAt hat rfl rfl ?_
      clear hat
      refine Wl.alloc fun w2 b2 n2 s2 => ?_
      refine Wl.storeB (new := [vi x.parent, vs x.name, pv]) b2 rfl rfl rfl rfl (show (3 : Nat) ≤ 3 from Nat.le_refl 3) (goodNd.oc Pb w1 x _ ⟨pv, rfl, hpr⟩ rfl) fun w3 b3 c3 s3 => ?_
      replace b3 : Bk w3 w1.heap.size tNd [vi x.parent, vs x.name, pv] := b3
      have n13 : New w1 w3 := Chg.trans n2 c3 fun k hk e => by omega
      clear b2 c3 n2
      (repeat' (first | refine Wl.nil ?_ | refine Qseq.normal ?_ | refine Wc.seq ?_ | refine Wc.region ?_ | refine Wl.fieldAddr rfl rfl ?_))
      refine Wl.load1 rfl (b3.cell (o := 1) rfl) ?_
      refine Wl.call (NameR_spec (s := x.name) (by omega)) rfl ?_
      rintro _ w4 ⟨rfl, n4⟩
      have b4 := b3.keep n4.keep (Pb := fun _ => True) trivial
      have n14 := New.trans n13 n4
      clear b3
      cases hnm : nameOk x.name with
      | false =>
        (repeat' (first | refine Wl.moveE (by conv => { lhs; whnf }) ?_ | refine Wl.assignE (by conv => { lhs; whnf }) ?_ | refine Wl.nil ?_ | refine Wl.guardN rfl rfl ?_ | refine Wl.pickTE rfl (by conv => { lhs; whnf }) ?_ | refine Wl.notB rfl ?_ | refine Qseq.normal ?_ | refine Wc.seq ?_ | refine Wc.region ?_ | refine Wc.ret ?_ | refine Qseq.ret ?_ | refine Qblk.ret ?_ | refine Qloop.ret ?_ | refine Wc.condT rfl ?_))
        rw [hno hil (by rw [hnx, hnm]; simp)]
        exact Qfn.ret1 rfl rfl ⟨_, rfl, rfl, New.trans n1 n14⟩
      | true =>
        (repeat' (first | refine Wl.moveE (by conv => { lhs; whnf }) ?_ | refine Wl.guardY rfl rfl ?_ | refine Wl.notB rfl ?_ | refine Wl.fieldAddr rfl rfl ?_))
        refine Wl.load1 rfl (b4.cell (o := 2) rfl) ?_
        (try refine Wl.guardY rfl rfl ?_)
        refine Wl.call (propsR_spec (hpr.keep (stable_flat pC) n14.keep) (hzp x hxm)) rfl ?_
        rintro _ w5 ⟨rfl, n5⟩
        have b5 := b4.keep n5.keep (Pb := fun _ => True) trivial
        have n15 := New.trans n14 n5
        have n05 := New.trans n1 n15
        clear b4
        cases hpo : propsOk x.props with
        | false =>
          (repeat' (first | refine Wl.moveE (by conv => { lhs; whnf }) ?_ | refine Wl.assignE (by conv => { lhs; whnf }) ?_ | refine Wl.nil ?_ | refine Wl.guardY rfl rfl ?_ | refine Wl.guardN rfl rfl ?_ | refine Wl.pickTE rfl (by conv => { lhs; whnf }) ?_ | refine Wl.pickFE rfl (by conv => { lhs; whnf }) ?_ | refine Wl.notB rfl ?_ | refine Qseq.normal ?_ | refine Wc.seq ?_ | refine Wc.region ?_ | refine Wc.ret ?_ | refine Qseq.ret ?_ | refine Qblk.ret ?_ | refine Qloop.ret ?_ | refine Wc.condT rfl ?_))
          rw [hno hil (by rw [hnx, hpo]; simp)]
          exact Qfn.ret1 rfl rfl ⟨_, rfl, rfl, n05⟩
        | true =>
          (repeat' (first | refine Wl.moveE (by conv => { lhs; whnf }) ?_ | refine Wl.guardY rfl rfl ?_ | refine Wl.pickFE rfl (by conv => { lhs; whnf }) ?_ | refine Wl.notB rfl ?_ | refine Wl.fieldAddr rfl rfl ?_))
          refine Wl.load1 rfl (b5.cell (o := 0) rfl) ?_
          (repeat' (first | refine Wl.moveE (by conv => { lhs; whnf }) ?_ | refine Wl.assignE (by conv => { lhs; whnf }) ?_ | refine Wl.nil ?_ | refine Wl.guardY rfl rfl ?_ | refine Wl.guardN rfl rfl ?_ | refine Wl.pickTE rfl (by conv => { lhs; whnf }) ?_ | refine Wl.pickFE rfl (by conv => { lhs; whnf }) ?_ | refine Qseq.normal ?_ | refine Wc.seq ?_ | refine Wc.region ?_ | refine Wc.ret ?_ | refine Qseq.ret ?_ | refine Qblk.ret ?_ | refine Qloop.ret ?_ | refine Wc.condT rfl ?_ | refine Wl.fieldAddr rfl rfl ?_ | refine Wl.lss rfl rfl (fun _ => ?_) (fun _ => ?_)))
          · rw [hno hil (by rw [hnx, decide_eq_false (show ¬ 0 ≤ x.parent by omega)]; simp)]
            exact Qfn.ret1 rfl rfl ⟨_, rfl, rfl, n05⟩
          refine Wl.load1 rfl (b5.cell (o := 0) rfl) ?_
          (repeat' (first | refine Wl.moveE (by conv => { lhs; whnf }) ?_ | refine Wl.assignE (by conv => { lhs; whnf }) ?_ | refine Wl.nil ?_ | refine Wl.guardY rfl rfl ?_ | refine Wl.guardN rfl rfl ?_ | refine Wl.pickTE rfl (by conv => { lhs; whnf }) ?_ | refine Wl.pickFE rfl (by conv => { lhs; whnf }) ?_ | refine Qseq.normal ?_ | refine Wc.seq ?_ | refine Wc.region ?_ | refine Wc.ret ?_ | refine Qseq.ret ?_ | refine Qblk.ret ?_ | refine Qloop.ret ?_ | refine Wc.condT rfl ?_ | refine Wl.fieldAddr rfl rfl ?_ | refine Wl.geq rfl rfl (fun _ => ?_) (fun _ => ?_)))
          · rw [hno hil (by rw [hnx, decide_eq_false (show ¬ x.parent < i by omega)]; simp)]
            exact Qfn.ret1 rfl rfl ⟨_, rfl, rfl, n05⟩
          have hdn1 : Down l (i + 1) := fun j y hj hy => by
            rcases Nat.lt_or_ge j i with hji | hji
            · exact hdn j y hji hy
            · obtain rfl : j = i := by omega
              rw [hx] at hy; cases hy; assumption
          have hai : (anc l i).length = (anc l x.parent.toNat).length + 1 := by
            rw [anc_step hdn1 (by omega) hx, if_neg (by omega), List.length_cons]
          refine Wl.load1 rfl (b5.cell (o := 0) rfl) ?_
          (repeat' (first | refine Wl.moveE (by conv => { lhs; whnf }) ?_ | refine Wl.guardY rfl rfl ?_ | refine Wl.sub rfl rfl (by omega) (by omega) ?_))
          have hab := above_spec (i := i - 1) (p := x.parent) (h.keep stableNd n05.keep) hdn (by omega) (by omega) (by omega)
          rw [show ((i - 1 : Nat) : Int) = (i : Int) - 1 by omega] at hab
          refine Wl.call hab rfl ?_
          rintro _ w6 ⟨rfl, n6⟩
          have b6 := b5.keep n6.keep (Pb := fun _ => True) trivial
          have n06 := New.trans n05 n6
          clear b5
          cases hha : (anc l (i - 1)).contains x.parent.toNat with
          | false =>
            (repeat' (first | refine Wl.moveE (by conv => { lhs; whnf }) ?_ | refine Wl.assignE (by conv => { lhs; whnf }) ?_ | refine Wl.nil ?_ | refine Wl.guardY rfl rfl ?_ | refine Wl.guardN rfl rfl ?_ | refine Wl.pickTE rfl (by conv => { lhs; whnf }) ?_ | refine Wl.pickFE rfl (by conv => { lhs; whnf }) ?_ | refine Wl.notB rfl ?_ | refine Qseq.normal ?_ | refine Wc.seq ?_ | refine Wc.region ?_ | refine Wc.ret ?_ | refine Qseq.ret ?_ | refine Qblk.ret ?_ | refine Qloop.ret ?_ | refine Wc.condT rfl ?_))
            rw [hno hil (by rw [hnx, hha]; simp)]
            exact Qfn.ret1 rfl rfl ⟨_, rfl, rfl, n06⟩
          | true =>
            (repeat' (first | refine Wl.moveE (by conv => { lhs; whnf }) ?_ | refine Wl.guardY rfl rfl ?_ | refine Wl.pickFE rfl (by conv => { lhs; whnf }) ?_ | refine Wl.notB rfl ?_))
            refine Wl.call (Depth_spec (i := i) (h.keep stableNd n06.keep) hdn1 (by omega) (by omega)) rfl ?_
            rintro _ w7 ⟨rfl, n7⟩
            have b7 := b6.keep n7.keep (Pb := fun _ => True) trivial
            have n07 := New.trans n06 n7
            clear b6
            (repeat' (first | refine Wl.assignE (by conv => { lhs; whnf }) ?_ | refine Wl.nil ?_ | refine Wl.guardY rfl rfl ?_ | refine Wl.pickFE rfl (by conv => { lhs; whnf }) ?_ | refine Qseq.normal ?_ | refine Wc.seq ?_ | refine Wc.region ?_ | refine Wc.block ?_ | refine Wc.skip ?_ | refine Wc.ret ?_ | refine Qseq.ret ?_ | refine Qblk.ret ?_ | refine Qloop.ret ?_ | refine Wc.condT rfl ?_ | refine Wc.condF rfl ?_ | refine Wl.gtr rfl rfl (fun _ => ?_) (fun _ => ?_)))
            · rw [hno hil (by rw [hnx, decide_eq_false (show ¬ (anc l x.parent.toNat).length + 1 ≤ 16 by omega)]; simp)]
              exact Qfn.ret1 rfl rfl ⟨_, rfl, rfl, n07⟩
            have hnl : nextOk l i = !((l.take i).drop 1).any (sameKid x) := by
              rw [hnx, hpo, hnm, hha, decide_eq_true (show 0 ≤ x.parent by omega), decide_eq_true (show x.parent < i by omega), decide_eq_true (show (anc l x.parent.toNat).length + 1 ≤ 16 by omega)]
              simp only [Bool.true_and]
            refine Wc.loop (σ := Nat) (fun k => [(0, .slice a l.length cap), (3, vi i), (4, ptrV w1.heap.size), (5, vi k)]) (fun k w' => k ≤ i ∧ 1 ≤ k ∧ (∀ (j : Nat) (y : Nd), 1 ≤ j → j < k → l[j]? = some y → sameKid x y = false) ∧ Bk w' w1.heap.size tNd [vi x.parent, vs x.name, pv] ∧ New w w') (fun k => i - k) 1 ⟨rfl, rfl, rfl, rfl, trivial⟩ ⟨by omega, by omega, fun j y h1 h2 => by omega, b7, n07⟩ ?_
            clear b7 n07 n06 n05 hnx hpr
            rintro k G w8 ⟨hk, hk1, hnk, b8, n8⟩
            simp only [upds]
            have h8 := h.keep stableNd n8.keep
            (repeat' (first | refine Wl.moveE (by conv => { lhs; whnf }) ?_ | refine Wl.assignE (by conv => { lhs; whnf }) ?_ | refine Wl.nil ?_ | refine Qseq.normal ?_ | refine Wc.seq ?_ | refine Wc.region ?_ | refine Wc.block ?_ | refine Wc.skip ?_ | refine Wc.exit ?_ | refine Qseq.exit ?_ | refine Qblk.normal ?_ | refine Qblk.hit ?_ | refine Qloop.exit ?_ | refine Wc.condT rfl ?_ | refine Wc.condF rfl ?_ | refine Wl.add rfl rfl (by omega) (by omega) ?_ | refine Wl.lss rfl rfl (fun _ => ?_) (fun _ => ?_)))
            · obtain ⟨y, hy⟩ := get_lt l (k := k) (by omega)
              refine Wc.regionN rfl (by kernel_rfl) ?_
              (repeat' (refine Wq.moveE (by conv => { lhs; whnf }) ?_))
              refine Wq.idxAddr h8 (fun w' hw => New.keep hw) rfl rfl (by omega) hy fun b o cs hl hR hat => ?_
              obtain ⟨yv, rfl, _⟩ := hR
              (repeat' (refine Wq.fieldAddr rfl rfl ?_))
              refine Wq.load1 rfl (fun w' hw => (hat w' hw).get 0 rfl) ?_
              clear hat
              (repeat' (refine Wq.fieldAddr rfl rfl ?_))
              refine Wq.load1 rfl (fun w' hw => (b8.chg hw id).cell (o := 0) rfl) ?_
              (repeat' (first | refine Wq.moveE (by conv => { lhs; whnf }) ?_ | refine Wq.nil ?_ | refine Wq.guardY rfl rfl ?_ | refine Wq.guardN rfl rfl ?_ | refine Wq.pickFE rfl (by conv => { lhs; whnf }) ?_ | refine Wq.eql rfl rfl (fun _ => ?_) (fun _ => ?_)))
              · refine Wq.idxAddr h8 (fun w' hw => New.keep hw) rfl rfl (by omega) hy fun b o cs hl hR hat => ?_
                obtain ⟨yv', rfl, _⟩ := hR
                (repeat' (first | refine Wq.guardY rfl rfl ?_ | refine Wq.fieldAddr rfl rfl ?_))
                refine Wq.load1 rfl (fun w' hw => (hat w' hw).get 1 rfl) ?_
                clear hat
                (repeat' (first | refine Wq.guardY rfl rfl ?_ | refine Wq.fieldAddr rfl rfl ?_))
                refine Wq.load1 rfl (fun w' hw => (b8.chg hw id).cell (o := 1) rfl) ?_
                (repeat' (first | refine Wq.nil ?_ | refine Wq.guardY rfl rfl ?_ | refine Wq.pickTE rfl (by conv => { lhs; whnf }) ?_ | refine Wq.seql rfl rfl (fun _ => ?_) (fun _ => ?_)))
                · intro w9 n9
                  (repeat' (first | refine Wl.assignE (by conv => { lhs; whnf }) ?_ | refine Wl.nil ?_ | refine Qseq.normal ?_ | refine Wc.seq ?_ | refine Wc.region ?_ | refine Wc.ret ?_ | refine Qseq.ret ?_ | refine Qblk.ret ?_ | refine Qloop.ret ?_ | refine Wc.condT rfl ?_))
                  rw [hno hil (by rw [hnl, any_take (p := sameKid x) (x := y) (k := k) (by omega) hk1 hy (by unfold sameKid; rw [decide_eq_true (by assumption), decide_eq_true (by assumption)]; rfl)]; rfl)]
                  exact Qfn.ret1 rfl rfl ⟨_, rfl, rfl, New.trans n8 n9⟩
                · intro w9 n9
                  (repeat' (first | refine Wl.moveE (by conv => { lhs; whnf }) ?_ | refine Wl.assignE (by conv => { lhs; whnf }) ?_ | refine Wl.nil ?_ | refine Qseq.normal ?_ | refine Wc.region ?_ | refine Wc.skip ?_ | refine Qblk.normal ?_ | refine Wc.condF rfl ?_ | refine Wl.add rfl rfl (by omega) (by omega) ?_))
                  refine Qloop.normal (k + 1) ⟨rfl, rfl, rfl, rfl, trivial⟩ ⟨by omega, by omega, fun j z h1 h2 hz => ?_, b8.chg n9 id, New.trans n8 n9⟩ (by omega)
                  rcases Nat.lt_or_ge j k with h3 | h3
                  · exact hnk j z h1 h3 hz
                  · obtain rfl : j = k := by omega
                    rw [hy] at hz
                    cases hz
                    unfold sameKid
                    rw [decide_eq_false (show ¬ y.name = x.name by assumption), Bool.and_false]
              · intro w9 n9
                (repeat' (first | refine Wl.moveE (by conv => { lhs; whnf }) ?_ | refine Wl.assignE (by conv => { lhs; whnf }) ?_ | refine Wl.nil ?_ | refine Qseq.normal ?_ | refine Wc.region ?_ | refine Wc.skip ?_ | refine Qblk.normal ?_ | refine Wc.condF rfl ?_ | refine Wl.add rfl rfl (by omega) (by omega) ?_))
                refine Qloop.normal (k + 1) ⟨rfl, rfl, rfl, rfl, trivial⟩ ⟨by omega, by omega, fun j z h1 h2 hz => ?_, b8.chg n9 id, New.trans n8 n9⟩ (by omega)
                rcases Nat.lt_or_ge j k with h3 | h3
                · exact hnk j z h1 h3 hz
                · obtain rfl : j = k := by omega
                  rw [hy] at hz
                  cases hz
                  unfold sameKid
                  rw [decide_eq_false (show ¬ y.parent = x.parent by assumption), Bool.false_and]
            · have e : k = i := by omega
              subst e
              rw [any_none (p := sameKid x) hnk] at hnl
              refine Qloop.normal (k + 1) ⟨rfl, rfl, trivial⟩ ⟨by omega, by omega, fun j hj => ?_, n8⟩ (by omega)
              rcases Nat.lt_or_ge j k with h3 | h3
              · exact hall j h3
              · obtain rfl : j = k := by omega
                exact hnl
    · have e : i = l.length := by omega
      rw [(treeOk_next l).2 ⟨fun j hj => hall j (by omega), by omega⟩]
      exact Qfn.ret1 rfl rfl ⟨_, rfl, rfl, n1⟩
end Go.Proofs.YtlkhajheecglgaaDoor

namespace Go.Proofs.YtlkhajheecglgaaDoor
open Go Wk
open Go.RowKit (Below)
attribute [local irreducible] Go.Calls

theorem cell_quo (n : Nat) (h : n ≤ 4000000000) : [(0, Value.int .u8 (IntKind.u8.wrap (IntKind.i64.wrap ((n : Int).tdiv 16777216)))), (1, Value.int .u8 (IntKind.u8.wrap (IntKind.i64.wrap ((n : Int).tdiv 65536)))), (2, Value.int .u8 (IntKind.u8.wrap (IntKind.i64.wrap ((n : Int).tdiv 256)))), (3, Value.int .u8 (IntKind.u8.wrap (n : Int)))] = numb 0 ((cell4 n).map by8) := by
  have hu : ∀ k : Nat, IntKind.u8.wrap (k : Int) = ((UInt8.ofNat k).toNat : Int) := fun k => by rw [UInt8.toNat_ofNat', IntKind.wrap_u8]; omega
  have hi : ∀ k : Nat, k ≤ 4000000000 → IntKind.i64.wrap (k : Int) = k := fun k hk => by rw [IntKind.wrap_i64]; omega
  have hd : ∀ k : Nat, (n : Int).tdiv (k : Int) = ((n / k : Nat) : Int) := fun k => rfl
  have h1 : (n : Int).tdiv 16777216 = _ := hd 16777216
  have h2 : (n : Int).tdiv 65536 = _ := hd 65536
  have h3 : (n : Int).tdiv 256 = _ := hd 256
  rw [h1, h2, h3, hi _ (Nat.le_trans (Nat.div_le_self _ _) h), hi _ (Nat.le_trans (Nat.div_le_self _ _) h), hi _ (Nat.le_trans (Nat.div_le_self _ _) h), hu, hu, hu, hu]
  rfl
theorem cellR_spec {w : World} {n : Nat} (h : n ≤ 4000000000) : Calls Tryd.prog 33 #[vi n] w (Ret fun r w' => r = vs (cell4 n) ∧ New w w') := by
  refine calls_of_Wc Tryd.func33 rfl Tryd.ntmps33 rfl ?_
  (repeat' (first | refine Wl.moveE (by conv => { lhs; whnf }) ?_ | refine Wl.assignE (by conv => { lhs; whnf }) ?_ | refine Wl.nil ?_ | refine Qseq.normal ?_ | refine Wc.seq ?_ | refine Wc.region ?_))
  refine Wl.quoW rfl rfl (by omega) ?_
  (repeat' (first | refine Wl.moveE (by conv => { lhs; whnf }) ?_ | refine Wl.convI rfl ?_))
  refine Wl.quoW rfl rfl (by omega) ?_
  (repeat' (first | refine Wl.moveE (by conv => { lhs; whnf }) ?_ | refine Wl.convI rfl ?_))
  refine Wl.quoW rfl rfl (by omega) ?_
  (repeat' (first | refine Wl.moveE (by conv => { lhs; whnf }) ?_ | refine Wl.convI rfl ?_))
  refine Wl.buildSliceN (R := one by8) (N := 4) (ps := [(0, .tmp 5), (1, .tmp 8), (2, .tmp 11), (3, .tmp 13)]) (xs := cell4 n) (us := (cell4 n).map by8) (Pe := No8) goodR8 rfl (cell_quo n h) ⟨rfl, rfl, rfl, rfl, rfl, rfl, rfl, rfl, trivial⟩ (by simp [cell4]) (by simp [cell4]) fun v1 w1 o1 n1 s1 ob1 => ?_
  refine Wl.bytesStr (o1.rd mono8) rfl ?_
  (repeat' (first | refine Wl.assignE (by conv => { lhs; whnf }) ?_ | refine Wl.nil ?_ | refine Qseq.normal ?_ | refine Wc.ret ?_))
  exact Qfn.ret1 rfl rfl ⟨_, rfl, rfl, n1⟩
theorem filledR_spec {w : World} {s : List UInt8} (hs : s.length ≤ 100000000000) : Calls Tryd.prog 49 #[vs s] w (Ret fun r w' => r = vs (fil s) ∧ New w w') := by
  refine calls_of_Wc Tryd.func49 rfl Tryd.ntmps49 rfl ?_
  (repeat' (first | refine Wl.assignE (by conv => { lhs; whnf }) ?_ | refine Wl.nil ?_ | refine Qseq.normal ?_ | refine Wc.seq ?_ | refine Wc.region ?_ | refine Wc.block ?_))
  refine Wc.loop (σ := Nat) (fun k => [(0, vs (s ++ List.replicate k 0))]) (fun k w' => k ≤ (4 - s.length % 4) % 4 ∧ New w w') (fun k => 4 - k) 0 ⟨by rw [List.replicate_zero, List.append_nil]; rfl, trivial⟩ ⟨Nat.zero_le _, Chg.refl _ _⟩ ?_
  rintro k G w2 ⟨hk, n2⟩
  simp only [upds]
  have hp := pad_step s.length k hk
  have hlen : (s ++ List.replicate k (0 : UInt8)).length = s.length + k := by simp
  (repeat' (first | refine Wl.moveE (by conv => { lhs; whnf }) ?_ | refine Wl.lenStr rfl ?_ | refine Wc.seq ?_ | refine Wc.region ?_))
  rw [hlen]
  refine Wl.remW rfl rfl (by omega) ?_
  refine Wl.neq rfl rfl (fun hne => ?_) (fun he => ?_)
  · have hk2 : k < (4 - s.length % 4) % 4 := by have : ¬ k = _ := fun e => hne (hp.2 e); omega
    (repeat' (first | refine Wl.moveE (by conv => { lhs; whnf }) ?_ | refine Wl.nil ?_ | refine Qseq.normal ?_ | refine Wc.region ?_ | refine Wc.block ?_ | refine Wc.skip ?_ | refine Wc.condT rfl ?_))
    refine Wl.sadd rfl (b := [0]) rfl (by rw [hlen]; simp only [List.length_singleton]; omega) ?_
    (repeat' (first | refine Wl.assignE (by conv => { lhs; whnf }) ?_ | refine Wl.nil ?_ | refine Qblk.normal ?_))
    refine Qloop.normal (k + 1) ⟨?_, trivial⟩ ⟨by omega, n2⟩ (by omega)
    show vs _ = vs _
    rw [List.replicate_succ', ← List.append_assoc]
  · have hk2 := hp.1 he
    (repeat' (first | refine Wl.moveE (by conv => { lhs; whnf }) ?_ | refine Wl.assignE (by conv => { lhs; whnf }) ?_ | refine Wl.nil ?_ | refine Qseq.normal ?_ | refine Wc.seq ?_ | refine Wc.region ?_ | refine Wc.exit ?_ | refine Wc.ret ?_ | refine Qseq.exit ?_ | refine Qblk.hit ?_ | refine Qloop.exit ?_ | refine Wc.condF rfl ?_))
    refine Qfn.ret1 rfl rfl ⟨_, rfl, ?_, n2⟩
    unfold fil
    rw [← hk2]; rfl
set_option maxRecDepth 4000 in
set_option maxHeartbeats 1000000 in
theorem namesR_spec {Pb : Nat → Prop} {w : World} {v : Value} {l : List Nd} (h : RdS rNd 3 Pb w v l) (hp : ∀ x ∈ l, propsOk x.props = true) (hl : l.length ≤ 512) :
    Calls Tryd.prog 34 #[v] w (Ret fun r w' => OwnS (one vs) 9 1 (Up w) No8 w' r (namesN [] l) ∧ New w w') := by
  obtain ⟨a, cap, rfl, hc1, hc2⟩ := h.form
  replace h := h.mono monoNd (Pb' := fun b => b < w.heap.size) fun b hb _ => hb
  refine calls_of_Wc Tryd.func34 rfl Tryd.ntmps34 rfl ?_
  (repeat' (first | refine Wl.assignE (by conv => { lhs; whnf }) ?_ | refine Wl.nil ?_ | refine Qseq.normal ?_ | refine Wc.seq ?_ | refine Wc.region ?_ | refine Wc.block ?_))
  refine Wc.loop (σ := Nat × Value) (fun s => [(0, .slice a l.length cap), (3, s.2), (4, vi s.1)]) (fun s w' => s.1 ≤ l.length ∧ OwnS (one vs) 9 1 (Up w) No8 w' s.2 (namesN [] (l.take s.1)) ∧ New w w') (fun s => l.length - s.1) (0, .slice none 0 0) ⟨rfl, rfl, rfl, trivial⟩ ⟨Nat.zero_le _, OwnS.nil, Chg.refl _ _⟩ ?_
  rintro ⟨i, vo⟩ G w1 ⟨hi, o1, n1⟩
  dsimp only at hi o1 n1
  simp only [upds]
  (repeat' (first | refine Wl.moveE (by conv => { lhs; whnf }) ?_ | refine Wl.assignE (by conv => { lhs; whnf }) ?_ | refine Wl.nil ?_ | refine Wl.lenS rfl ?_ | refine Qseq.normal ?_ | refine Wc.seq ?_ | refine Wc.region ?_ | refine Wc.block ?_ | refine Wc.skip ?_ | refine Wc.exit ?_ | refine Wc.ret ?_ | refine Qseq.exit ?_ | refine Qblk.hit ?_ | refine Qloop.exit ?_ | refine Wc.condT rfl ?_ | refine Wc.condF rfl ?_ | refine Wl.lss rfl rfl (fun _ => ?_) (fun _ => ?_)))
  · obtain ⟨x, hx⟩ := get_lt l (k := i) (by omega)
    have hps := propsOk_all (hp x (List.mem_of_getElem? hx))
    have hps1 := hps.1
    refine Wc.loop (σ := Nat × Value) (fun s => [(0, .slice a l.length cap), (3, s.2), (4, vi i), (5, vi s.1)]) (fun s w' => s.1 ≤ x.props.length ∧ OwnS (one vs) 9 1 (Up w) No8 w' s.2 (namesP (namesN [] (l.take i)) (x.props.take s.1)) ∧ New w w') (fun s => x.props.length - s.1) (0, vo) ⟨rfl, rfl, rfl, rfl, trivial⟩ ⟨Nat.zero_le _, o1, n1⟩ ?_
    clear o1 n1
    rintro ⟨j, vo⟩ G w2 ⟨hj, o2, n2⟩
    dsimp only at hj o2 n2
    obtain ⟨oa, oc, rfl, ho1, ho2⟩ := o2.form
    have h2 := h.keep stableNd n2.keep
    simp only [upds]
    (repeat' (first | refine Wl.moveE (by conv => { lhs; whnf }) ?_ | refine Wc.seq ?_ | refine Wc.region ?_))
    refine Wl.idxAddr h2 rfl rfl (by omega) hx fun b o cs hcl hR hat => ?_
    obtain ⟨pv, rfl, hpr⟩ := hR
    obtain ⟨pa, pc, rfl, _, hpm⟩ := hpr.form
    (repeat' (refine Wl.fieldAddr rfl rfl ?_))
    refine Wl.load1 rfl (hat.get 2 rfl) ?_
    clear hat
    (repeat' (first | refine Wl.moveE (by conv => { lhs; whnf }) ?_ | refine Wl.assignE (by conv => { lhs; whnf }) ?_ | refine Wl.nil ?_ | refine Wl.lenS rfl ?_ | refine Qseq.normal ?_ | refine Wc.seq ?_ | refine Wc.region ?_ | refine Wc.block ?_ | refine Wc.skip ?_ | refine Wc.exit ?_ | refine Qseq.exit ?_ | refine Qblk.normal ?_ | refine Qblk.hit ?_ | refine Qloop.exit ?_ | refine Wc.condT rfl ?_ | refine Wc.condF rfl ?_ | refine Wl.add rfl rfl (by omega) (by omega) ?_ | refine Wl.lss rfl rfl (fun _ => ?_) (fun _ => ?_)))
    · obtain ⟨q, hq⟩ := get_lt x.props (k := j) (by omega)
      have hsz := names_part hp hx (j := j)
      have hln := len_size (namesP (namesN [] (l.take i)) (x.props.take j))
      have hsn := namesP_snoc hq (namesN [] (l.take i))
      generalize namesP (namesN [] (l.take i)) (x.props.take j) = all at *
      refine Wc.loop (σ := Nat) (fun k => [(0, .slice a l.length cap), (3, .slice oa all.length oc), (4, vi i), (5, vi j), (6, vi k)]) (fun k w' => k ≤ all.length ∧ q.1 ∉ all.take k ∧ OwnS (one vs) 9 1 (Up w) No8 w' (.slice oa all.length oc) all ∧ New w w') (fun k => all.length - k) 0 ⟨rfl, rfl, rfl, rfl, rfl, trivial⟩ ⟨Nat.zero_le _, by simp, o2, n2⟩ ?_
      clear o2 n2 hpr h2
      rintro k G w3 ⟨hk, hno, o3, n3⟩
      have h3 := h.keep stableNd n3.keep
      simp only [upds]
      (repeat' (refine Wc.seq ?_))
      refine Wc.regionN rfl (by kernel_rfl) ?_
      (repeat' (first | refine Wq.moveE (by conv => { lhs; whnf }) ?_ | refine Wq.nil ?_ | refine Wq.guardY rfl rfl ?_ | refine Wq.guardN rfl rfl ?_ | refine Wq.pickFE rfl (by conv => { lhs; whnf }) ?_ | refine Wq.lenS rfl ?_ | refine Wq.lss rfl rfl (fun _ => ?_) (fun _ => ?_)))
      · obtain ⟨s, hs⟩ := get_lt all (k := k) (by omega)
        refine Wq.idxAddr (o3.rd (mono_one _)) (fun w' hw => New.keep hw) rfl rfl (by omega) hs fun b o cs hl hR hat => ?_
        obtain rfl : cs = [vs s] := hR
        (repeat' (refine Wq.guardY rfl rfl ?_))
        refine Wq.load1 rfl (fun w' hw => (hat w' hw).get 0 rfl) ?_
        clear hat
        (repeat' (first | refine Wq.moveE (by conv => { lhs; whnf }) ?_ | refine Wq.guardY rfl rfl ?_))
        refine Wq.idxAddr h3 (fun w' hw => New.keep hw) rfl rfl (by omega) hx fun b o cs hl hR hat => ?_
        obtain ⟨pv, rfl, hpr⟩ := hR
        obtain ⟨pa, pc, rfl, _, hpm⟩ := hpr.form
        (repeat' (first | refine Wq.guardY rfl rfl ?_ | refine Wq.fieldAddr rfl rfl ?_))
        refine Wq.load1 rfl (fun w' hw => (hat w' hw).get 2 rfl) ?_
        clear hat
        (repeat' (first | refine Wq.moveE (by conv => { lhs; whnf }) ?_ | refine Wq.guardY rfl rfl ?_))
        refine Wq.idxAddr hpr (fun w' hw => New.keep hw) rfl rfl (by omega) hq fun b o cs hl hR hat => ?_
        obtain rfl : cs = pC q := hR
        (repeat' (first | refine Wq.guardY rfl rfl ?_ | refine Wq.fieldAddr rfl rfl ?_))
        refine Wq.load1 rfl (fun w' hw => (hat w' hw).get 0 rfl) ?_
        clear hat
        (repeat' (first | refine Wq.nil ?_ | refine Wq.guardY rfl rfl ?_ | refine Wq.pickTE rfl (by conv => { lhs; whnf }) ?_ | refine Wq.sneq rfl rfl (fun _ => ?_) (fun _ => ?_)))
        · intro w4 n4
          (repeat' (first | refine Wl.moveE (by conv => { lhs; whnf }) ?_ | refine Wl.assignE (by conv => { lhs; whnf }) ?_ | refine Wl.nil ?_ | refine Qseq.normal ?_ | refine Wc.region ?_ | refine Wc.block ?_ | refine Wc.skip ?_ | refine Qblk.normal ?_ | refine Wc.condT rfl ?_ | refine Wl.add rfl rfl (by omega) (by omega) ?_))
          refine Qloop.normal (k + 1) ⟨rfl, rfl, rfl, rfl, rfl, trivial⟩ ⟨by omega, ?_, o3.new (plain_one _) n4, New.trans n3 n4⟩ (by omega)
          rw [take_snoc hs, List.mem_append, List.mem_singleton]
          rintro (e | e)
          · exact hno e
          · first | exact absurd e.symm (by assumption) | exact absurd e (by assumption)
        · intro w4 n4
          (repeat' (first | refine Wl.moveE (by conv => { lhs; whnf }) ?_ | refine Wl.assignE (by conv => { lhs; whnf }) ?_ | refine Wl.nil ?_ | refine Wl.lenS rfl ?_ | refine Qseq.normal ?_ | refine Wc.seq ?_ | refine Wc.region ?_ | refine Wc.skip ?_ | refine Wc.exit ?_ | refine Qseq.exit ?_ | refine Qblk.normal ?_ | refine Qblk.hit ?_ | refine Qloop.exit ?_ | refine Wc.condF rfl ?_ | refine Wl.add rfl rfl (by omega) (by omega) ?_ | (refine Wl.eql rfl rfl (fun _ => ?_) (fun _ => ?_) <;> (first | (exfalso; omega) | skip))))
          have hsq : q.1 = s := by first | assumption | exact Eq.symm (by assumption)
          rw [addNm_in (by rw [hsq]; exact List.mem_of_getElem? hs)] at hsn
          refine Qloop.normal (j + 1, .slice oa all.length oc) ⟨rfl, rfl, rfl, rfl, trivial⟩ ⟨by dsimp only; omega, ?_, New.trans n3 n4⟩ (by dsimp only; omega)
          dsimp only
          rw [hsn]
          exact o3.new (plain_one _) n4
      · intro w4 n4
        have e : k = all.length := by omega
        subst e
        rw [List.take_length] at hno
        rw [addNm_out hno] at hsn
        have n04 := New.trans n3 n4
        have o4 := o3.new (plain_one _) n4
        (repeat' (first | refine Wl.moveE (by conv => { lhs; whnf }) ?_ | refine Wl.nil ?_ | refine Wl.lenS rfl ?_ | refine Qseq.normal ?_ | refine Wc.seq ?_ | refine Wc.region ?_ | refine Wc.exit ?_ | refine Qseq.exit ?_ | refine Qblk.hit ?_ | refine Qloop.exit ?_ | refine Wc.condT rfl ?_ | refine Wc.condF rfl ?_ | (refine Wl.eql rfl rfl (fun _ => ?_) (fun _ => ?_) <;> (first | (exfalso; omega) | skip))))
        refine Wl.idxAddr (h.keep stableNd n04.keep) rfl rfl (by omega) hx fun b o cs hcl hR hat => ?_
        obtain ⟨pv, rfl, hpr⟩ := hR
        obtain ⟨pa, pc, rfl, _, hpm⟩ := hpr.form
        (repeat' (refine Wl.fieldAddr rfl rfl ?_))
        refine Wl.load1 rfl (hat.get 2 rfl) ?_
        clear hat
        (repeat' (refine Wl.moveE (by conv => { lhs; whnf }) ?_))
        refine Wl.idxAddr hpr rfl rfl (by omega) hq fun b o cs hl hR hat => ?_
        obtain rfl : cs = pC q := hR
        (repeat' (refine Wl.fieldAddr rfl rfl ?_))
        refine Wl.load1 rfl (hat.get 0 rfl) ?_
        clear hat
        refine Wl.buildSlice1 (R := one vs) (y := q.1) (Pe := No8) goodVs rfl rfl rfl rfl (by omega) (by omega) fun mv w5 oM n5 s5 hob5 => ?_
        refine Wl.appendAll goodVs (o4.new (plain_one _) n5) (oM.rd (mono_one _)) (fun y cs hy => hy) rfl rfl (by omega) (by simp only [maxLen, List.length_singleton]; omega) (by simp only [List.length_singleton]; omega) fun vo' w6 o6 c6 lie _ => ?_
        have n05 := New.trans n04 n5
        have z5 := n05.size
        (repeat' (first | refine Wl.moveE (by conv => { lhs; whnf }) ?_ | refine Wl.assignE (by conv => { lhs; whnf }) ?_ | refine Wl.nil ?_ | refine Qseq.normal ?_ | refine Wc.region ?_ | refine Qblk.normal ?_ | refine Wl.add rfl rfl (by omega) (by omega) ?_))
        refine Qloop.normal (j + 1, vo') ⟨rfl, rfl, rfl, rfl, trivial⟩ ⟨by dsimp only; omega, ?_, Chg.trans n05 c6 fun b hb e => by have : w.heap.size ≤ b := (o4.lt e).1; omega⟩ (by dsimp only; omega)
        dsimp only
        rw [hsn]
        exact o6.mono (mono_one _) (fun b hb e => by rcases e with e | e; exact e; show w.heap.size ≤ b; omega) (fun _ _ e => e)
    · have e : j = x.props.length := by omega
      subst e
      skip
      refine Qloop.normal (i + 1, _) ⟨rfl, rfl, rfl, trivial⟩ ⟨by dsimp only; omega, ?_, n2⟩ (by dsimp only; omega)
      dsimp only
      rw [namesN_snoc hx]
      rwa [List.take_length] at o2 ⊢
  · have e : i = l.length := by omega
    subst e
    rw [List.take_length] at o1
    obtain ⟨oa, oc, rfl, ho1, ho2⟩ := o1.form
    exact Qfn.ret1 rfl rfl ⟨_, rfl, o1, n1⟩
theorem place_at {all : List Nm} {nm : Nm} : ∀ {k : Nat}, nm ∉ all.take k → (all[k]? = some nm ∨ k = all.length) → placeN all nm = sizeN (all.take k) := by
  induction all with
  | nil => intro k _ _; simp [placeN, sizeN]
  | cons s r ih =>
    intro k hno hk
    cases k with
    | zero =>
      rcases hk with hk | hk
      · simp at hk; rw [placeN, if_pos hk]; rfl
      · simp at hk
    | succ k =>
      rw [List.take_succ_cons] at hno ⊢
      have h1 : ¬ s = nm := fun e => hno (by rw [e]; simp)
      rw [placeN, if_neg h1, sizeN, ih (k := k) (fun e => hno (List.mem_cons_of_mem _ e)) (by simpa using hk)]
set_option maxRecDepth 4000 in
theorem placeR_spec {Pb : Nat → Prop} {w : World} {v : Value} {all : List Nm} {nm : Nm} (h : RdS (one vs) 1 Pb w v all) (hz : sizeN all ≤ 100000000000) :
    Calls Tryd.prog 50 #[v, vs nm] w (Ret fun r w' => r = vi (placeN all nm) ∧ New w w') := by
  obtain ⟨a, cap, rfl, hc1, hc2⟩ := h.form
  have hln := len_size all
  refine calls_of_Wc Tryd.func50 rfl Tryd.ntmps50 rfl ?_
  (repeat' (first | refine Wl.assignE (by conv => { lhs; whnf }) ?_ | refine Wl.nil ?_ | refine Qseq.normal ?_ | refine Wc.seq ?_ | refine Wc.region ?_ | refine Wc.block ?_))
  refine Wc.loop (σ := Nat) (fun k => [(0, .slice a all.length cap), (1, vs nm), (5, vi (sizeN (all.take k))), (6, vi k)]) (fun k w' => k ≤ all.length ∧ nm ∉ all.take k ∧ New w w') (fun k => all.length - k) 0 ⟨rfl, rfl, rfl, rfl, trivial⟩ ⟨Nat.zero_le _, by simp, Chg.refl _ _⟩ ?_
  rintro k G w1 ⟨hk, hno, n1⟩
  have hst := sizeN_take all k
  simp only [upds]
  (repeat' (first | refine Wl.moveE (by conv => { lhs; whnf }) ?_ | refine Wl.assignE (by conv => { lhs; whnf }) ?_ | refine Wl.nil ?_ | refine Wl.guardY rfl rfl ?_ | refine Wl.guardN rfl rfl ?_ | refine Wl.pickFE rfl (by conv => { lhs; whnf }) ?_ | refine Wl.lenS rfl ?_ | refine Qseq.normal ?_ | refine Wc.seq ?_ | refine Wc.region ?_ | refine Wc.exit ?_ | refine Wc.ret ?_ | refine Qseq.exit ?_ | refine Qblk.hit ?_ | refine Qloop.exit ?_ | refine Wc.condF rfl ?_ | refine Wl.lss rfl rfl (fun _ => ?_) (fun _ => ?_)))
  · obtain ⟨s, hs⟩ := get_lt all (k := k) (by omega)
    have hst2 := sizeN_take all (k + 1)
    have hsn : sizeN (all.take (k + 1)) = sizeN (all.take k) + (s.length + 1) := by rw [take_snoc hs, sizeN_snoc]
    refine Wl.idxAddr (h.keep (stable_one _) n1.keep) rfl rfl (by omega) hs fun b o cs hl hR hat => ?_
    obtain rfl : cs = [vs s] := hR
    (try refine Wl.guardY rfl rfl ?_)
    refine Wl.load1 rfl (hat.get 0 rfl) ?_
    (repeat' (first | refine Wl.moveE (by conv => { lhs; whnf }) ?_ | refine Wl.assignE (by conv => { lhs; whnf }) ?_ | refine Wl.nil ?_ | refine Wl.guardY rfl rfl ?_ | refine Wl.pickTE rfl (by conv => { lhs; whnf }) ?_ | refine Qseq.normal ?_ | refine Wc.seq ?_ | refine Wc.region ?_ | refine Wc.block ?_ | refine Wc.skip ?_ | refine Wc.exit ?_ | refine Wc.ret ?_ | refine Qseq.exit ?_ | refine Qblk.hit ?_ | refine Qloop.exit ?_ | refine Wc.condT rfl ?_ | refine Wc.condF rfl ?_ | refine Wl.sneq rfl rfl (fun _ => ?_) (fun _ => ?_)))
    · refine Wl.idxAddr (h.keep (stable_one _) n1.keep) rfl rfl (by omega) hs fun b o cs hl hR hat => ?_
      obtain rfl : cs = [vs s] := hR
      refine Wl.load1 rfl (hat.get 0 rfl) ?_
      (repeat' (first | refine Wl.moveE (by conv => { lhs; whnf }) ?_ | refine Wl.assignE (by conv => { lhs; whnf }) ?_ | refine Wl.nil ?_ | refine Wl.lenStr rfl ?_ | refine Qseq.normal ?_ | refine Wc.region ?_ | refine Qblk.normal ?_ | refine Wl.add rfl rfl (by omega) (by omega) ?_))
      refine Qloop.normal (k + 1) ⟨rfl, rfl, ?_, rfl, trivial⟩ ⟨by omega, ?_, n1⟩ (by omega)
      · show vi _ = vi _
        congr 1; omega
      · rw [take_snoc hs, List.mem_append, List.mem_singleton]
        rintro (e | e)
        · exact hno e
        · first | exact absurd e.symm (by assumption) | exact absurd e (by assumption)
    · have hsq : nm = s := by first | assumption | exact Eq.symm (by assumption)
      rw [place_at hno (.inl (by rw [hsq]; exact hs))]
      exact Qfn.ret1 rfl rfl ⟨_, rfl, rfl, n1⟩
  · have e : k = all.length := by omega
    rw [place_at hno (.inr e)]
    exact Qfn.ret1 rfl rfl ⟨_, rfl, rfl, n1⟩
set_option maxRecDepth 4000 in
theorem stringsR_spec {Pb : Nat → Prop} {w : World} {v : Value} {l : List Nd} (h : RdS rNd 3 Pb w v l) (hp : ∀ x ∈ l, propsOk x.props = true) (hl : l.length ≤ 512) (hz : sizeN (namesN [] l) ≤ 100000000000) :
    Calls Tryd.prog 32 #[v] w (Ret fun r w' => r = vs (stringsL l) ∧ New w w') := by
  unfold stringsL
  refine calls_of_Wc Tryd.func32 rfl Tryd.ntmps32 rfl ?_
  (repeat' (first | refine Wl.moveE (by conv => { lhs; whnf }) ?_ | refine Wl.assignE (by conv => { lhs; whnf }) ?_ | refine Wl.nil ?_ | refine Qseq.normal ?_ | refine Wc.seq ?_ | refine Wc.region ?_))
  refine Wl.call (namesR_spec h hp hl) rfl ?_
  rintro vo w1 ⟨o1, n1⟩
  obtain ⟨oa, oc, rfl, ho1, ho2⟩ := o1.form
  generalize namesN [] l = all at *
  have hln := len_size all
  (repeat' (first | refine Wl.assignE (by conv => { lhs; whnf }) ?_ | refine Wl.nil ?_ | refine Qseq.normal ?_ | refine Wc.seq ?_ | refine Wc.region ?_ | refine Wc.block ?_))
  refine Wc.loop (σ := Nat) (fun k => [(3, .slice oa all.length oc), (4, vs (strsN (all.take k))), (5, vi k)]) (fun k w' => k ≤ all.length ∧ New w1 w') (fun k => all.length - k) 0 ⟨rfl, rfl, rfl, trivial⟩ ⟨Nat.zero_le _, Chg.refl _ _⟩ ?_
  rintro k G w2 ⟨hk, n2⟩
  have hst := sizeN_take all k
  have hsl := strsN_length (all.take k)
  simp only [upds]
  (repeat' (first | refine Wl.moveE (by conv => { lhs; whnf }) ?_ | refine Wl.assignE (by conv => { lhs; whnf }) ?_ | refine Wl.nil ?_ | refine Wl.lenS rfl ?_ | refine Qseq.normal ?_ | refine Wc.seq ?_ | refine Wc.region ?_ | refine Wc.block ?_ | refine Wc.skip ?_ | refine Wc.exit ?_ | refine Wc.ret ?_ | refine Qseq.exit ?_ | refine Qblk.hit ?_ | refine Qloop.exit ?_ | refine Wc.condT rfl ?_ | refine Wc.condF rfl ?_ | refine Wl.lss rfl rfl (fun _ => ?_) (fun _ => ?_)))
  · obtain ⟨s, hs⟩ := get_lt all (k := k) (by omega)
    have hst2 := sizeN_take all (k + 1)
    have hsn : sizeN (all.take (k + 1)) = sizeN (all.take k) + (s.length + 1) := by rw [take_snoc hs, sizeN_snoc]
    have hsk := strsN_take hs
    refine Wl.idxAddr ((o1.new (plain_one _) n2).rd (mono_one _)) rfl rfl (by omega) hs fun b o cs hl hR hat => ?_
    obtain rfl : cs = [vs s] := hR
    refine Wl.load1 rfl (hat.get 0 rfl) ?_
    refine Wl.sadd rfl rfl (by omega) ?_
    refine Wl.sadd rfl (b := [0]) rfl (by rw [List.length_append, List.length_singleton]; omega) ?_
    (repeat' (first | refine Wl.moveE (by conv => { lhs; whnf }) ?_ | refine Wl.assignE (by conv => { lhs; whnf }) ?_ | refine Wl.nil ?_ | refine Qseq.normal ?_ | refine Wc.region ?_ | refine Qblk.normal ?_ | refine Wl.add rfl rfl (by omega) (by omega) ?_))
    refine Qloop.normal (k + 1) ⟨rfl, ?_, rfl, trivial⟩ ⟨by omega, n2⟩ (by omega)
    show vs _ = vs _
    rw [hsk]
  · have e : k = all.length := by omega
    subst e
    rw [List.take_length]
    exact Qfn.ret1 rfl rfl ⟨_, rfl, rfl, New.trans n1 n2⟩
end Go.Proofs.YtlkhajheecglgaaDoor

namespace Go.Proofs.YtlkhajheecglgaaDoor
open Go Wk
open Go.RowKit (Below)
attribute [local irreducible] Go.Calls

def stS (all : List Nm) (l : List Nd) (i : Nat) : List UInt8 × Nat := (((depL l).zip l).take i).foldl (stepB all) ([], 0)
section
variable {all : List Nm} {l : List Nd}
theorem stS_zero : stS all l 0 = ([], 0) := rfl
theorem zip_dep {i : Nat} {x : Nd} (hx : l[i]? = some x) : ((depL l).zip l)[i]? = some ((anc l i).length, x) := by
  have hi := (List.getElem?_eq_some_iff.1 hx).1
  rw [List.getElem?_zip_eq_some]
  refine ⟨?_, hx⟩
  unfold depL
  rw [List.getElem?_map, List.getElem?_range hi]; rfl
theorem stS_succ {i : Nat} {x : Nd} (hx : l[i]? = some x) : stS all l (i + 1) = ((stS all l i).1 ++ closes ((stS all l i).2 + 1 - (anc l i).length) ++ nodeB all x.name x.props, (anc l i).length) := by
  unfold stS
  rw [take_snoc (zip_dep hx), List.foldl_append]; rfl
theorem stS_all : stL all l = (stS all l l.length).1 ++ closes (stS all l l.length).2 := by
  unfold stL stS
  rw [List.take_of_length_le (by rw [List.length_zip]; omega)]
theorem anc_pos (i : Nat) : 1 ≤ (anc l i).length := by
  obtain ⟨r, h⟩ := anc_head l i
  rw [h]; simp
theorem next_parts {i : Nat} {x : Nd} (hx : l[i]? = some x) (h : nextOk l i = true) : (i = 0 ∧ x.parent = -1) ∨ (1 ≤ i ∧ 0 ≤ x.parent ∧ x.parent < i ∧ x.parent.toNat ∈ anc l (i - 1) ∧ (anc l x.parent.toNat).length + 1 ≤ 16) := by
  unfold nextOk at h
  rw [hx] at h
  dsimp only at h
  by_cases h0 : i = 0
  · rw [if_pos h0] at h
    simp only [Bool.and_eq_true, decide_eq_true_eq] at h
    exact .inl ⟨h0, h.2.2.1⟩
  · rw [if_neg h0] at h
    simp only [Bool.and_eq_true, decide_eq_true_eq] at h
    exact .inr ⟨by omega, h.2.2.2.1, h.2.2.2.2.1, List.contains_iff_mem.1 h.2.2.2.2.2.1, h.2.2.2.2.2.2.1⟩
/-- A node stands at most one deeper than the node ahead of it. -/
theorem dep_step (ht : treeOk l = true) {i : Nat} {x : Nd} (hx : l[i]? = some x) : (anc l i).length ≤ (stS all l i).2 + 1 ∧ (anc l i).length ≤ 16 := by
  have hi := (List.getElem?_eq_some_iff.1 hx).1
  have hall := ((treeOk_next l).1 ht).1
  have hd := down_of ht
  rcases next_parts hx (hall i hi) with ⟨rfl, hp⟩ | ⟨h1, h0, hlt, hmem, h16⟩
  · have e : (anc l 0).length = 1 := by rw [anc_step hd hi hx, if_pos (by omega)]; rfl
    omega
  · have e := anc_par hd hi hx (p := x.parent.toNat) (by omega)
    obtain ⟨y, hy⟩ := get_lt l (k := i - 1) (by omega)
    obtain ⟨pre, hpre⟩ := anc_mem hd (i - 1) (by omega) (by omega) hmem
    have e2 := congrArg List.length hpre
    rw [List.length_append] at e2
    have e3 := stS_succ (all := all) hy
    rw [show i - 1 + 1 = i by omega] at e3
    have e4 := congrArg Prod.snd e3
    dsimp only at e4
    omega
theorem closes_length (k : Nat) : (closes k).length = 4 * k := by
  induction k with
  | zero => rfl
  | succ k ih => rw [closes_succ, List.length_append, ih, cell4_length]; omega
theorem stS_len (hN : NdB all l) (ht : treeOk l = true) : ∀ i, i ≤ l.length → (stS all l i).1.length ≤ 41000 * i ∧ (stS all l i).2 ≤ 16 := by
  intro i
  induction i with
  | zero => intro _; exact ⟨by rw [stS_zero]; simp, by rw [stS_zero]; simp⟩
  | succ i ih =>
    intro hi
    obtain ⟨x, hx⟩ := get_lt l (k := i) (by omega)
    have hxm := List.mem_of_getElem? hx
    have ih := ih (by omega)
    have hb := nodeB_length all (hN.nm x hxm) (hN.cnt x hxm) fun p hp => (hN.pr x hxm p hp).2.2
    have hd := (dep_step (all := all) ht hx).2
    rw [stS_succ hx]
    dsimp only
    rw [List.length_append, List.length_append, closes_length]
    omega
theorem placeN_le : ∀ (all : List Nm) (nm : Nm), placeN all nm ≤ sizeN all
  | [], _ => Nat.le_refl _
  | s :: r, nm => by
    have := placeN_le r nm
    unfold placeN sizeN
    split <;> omega
end
theorem nmOk_of' {l : List Nd} {x : Nd} (hx : x ∈ l) {p : Pr} (hp : p ∈ x.props) (ht : treeOk l = true) : NmOk p.1 := ((propsOk_all (tree_pr ht x hx)).2 p hp).1
theorem bsUp {w0 w4 w' : World} {v' : Value} {l' : List UInt8} (hs : w0.heap.size ≤ w4.heap.size) (g : Bs (fun b => Up w0 b ∨ w4.heap.size ≤ b) w' v' l') : Bs (Up w0) w' v' l' := g.mono mono8 (fun b _ e => by rcases e with e | e; exact e; show _ ≤ _; omega) (fun _ _ e => e)
set_option maxRecDepth 8000 in
set_option maxHeartbeats 4000000 in
theorem structR_spec {Pb : Nat → Prop} {w : World} {v : Value} {l : List Nd} (h : RdS rNd 3 Pb w v l) (ht : treeOk l = true) :
    Calls Tryd.prog 31 #[v] w (Ret fun r w' => r = vs (structL l) ∧ New w w') := by
  obtain ⟨a, cap, rfl, hc1, hc2⟩ := h.form
  replace h := h.mono monoNd (Pb' := fun b => b < w.heap.size) fun b hb _ => hb
  have hN := tree_NdB ht
  have hz := names_size ht
  have hdn := down_of ht
  have hlen := hN.len
  unfold structL
  refine calls_of_Wc Tryd.func31 rfl Tryd.ntmps31 rfl ?_
  (repeat' (first | refine Wl.moveE (by conv => { lhs; whnf }) ?_ | refine Wl.assignE (by conv => { lhs; whnf }) ?_ | refine Wl.nil ?_ | refine Qseq.normal ?_ | refine Wc.seq ?_ | refine Wc.region ?_))
  refine Wl.call (namesR_spec h (tree_pr ht) hN.len) rfl ?_
  rintro vo w1 ⟨o1, n1⟩
  obtain ⟨oa, oc, rfl, ho1, ho2⟩ := o1.form
  generalize namesN [] l = all at *
  have z1 := n1.size
  have h1 := h.keep stableNd n1.keep
  (repeat' (first | refine Wl.assignE (by conv => { lhs; whnf }) ?_ | refine Wl.nil ?_ | refine Qseq.normal ?_ | refine Wc.seq ?_ | refine Wc.region ?_ | refine Wc.block ?_))
  refine Wc.loop (σ := Nat × Value) (fun s => [(0, .slice a l.length cap), (3, .slice oa all.length oc), (4, s.2), (5, vi (stS all l s.1).2), (6, vi s.1)])
    (fun s w' => s.1 ≤ l.length ∧ Bs (Up w1) w' s.2 (stS all l s.1).1 ∧ New w1 w') (fun s => l.length - s.1) (0, .slice none 0 0) ⟨rfl, rfl, rfl, rfl, rfl, trivial⟩ ⟨Nat.zero_le _, OwnS.nil, Chg.refl _ _⟩ ?_
  rintro ⟨i, bv⟩ G w2 ⟨hi, o2, n2⟩
  dsimp only at hi o2 n2
  have z2 := n2.size
  have hsl := stS_len hN ht i hi
  simp only [upds]
  (repeat' (first | refine Wl.moveE (by conv => { lhs; whnf }) ?_ | refine Wl.nil ?_ | refine Wl.lenS rfl ?_ | refine Qseq.normal ?_ | refine Wc.seq ?_ | refine Wc.region ?_ | refine Wc.block ?_ | refine Wc.skip ?_ | refine Wc.exit ?_ | refine Qseq.exit ?_ | refine Qblk.hit ?_ | refine Qloop.exit ?_ | refine Wc.condT rfl ?_ | refine Wc.condF rfl ?_ | refine Wl.lss rfl rfl (fun _ => ?_) (fun _ => ?_)))
  · obtain ⟨x, hx⟩ := get_lt l (k := i) (by omega)
    have hxm := List.mem_of_getElem? hx
    have hds := dep_step (all := all) ht hx
    have hdp := anc_pos (l := l) i
    have hss := stS_succ (all := all) hx
    refine Wl.call (Depth_spec (i := i) (h1.keep stableNd n2.keep) hdn (by omega) (by omega)) rfl ?_
    rintro _ w3 ⟨rfl, n3⟩
    have n13 := New.trans n2 n3
    have z3 := n3.size
    replace o2 := o2.new (plain_one _) n3
    generalize (anc l i).length = d at *
    generalize stS all l i = r at *
    obtain ⟨r1, r2⟩ := r
    dsimp only at *
    (repeat' (first | refine Wl.assignE (by conv => { lhs; whnf }) ?_ | refine Wl.nil ?_ | refine Qseq.normal ?_ | refine Wc.seq ?_ | refine Wc.block ?_))
    refine Wc.loop (σ := Nat × Value) (fun s => [(0, .slice a l.length cap), (3, .slice oa all.length oc), (4, s.2), (5, vi (r2 - s.1 : Nat)), (6, vi i), (7, vi d)])
      (fun s w' => s.1 ≤ r2 + 1 - d ∧ Bs (Up w1) w' s.2 (r1 ++ closes s.1) ∧ New w1 w') (fun s => r2 + 1 - d - s.1) (0, bv) ⟨rfl, rfl, rfl, rfl, rfl, rfl, trivial⟩ ⟨Nat.zero_le _, by rw [closes_zero, List.append_nil]; exact o2, n13⟩ ?_
    clear o2 n2 n3 n13 z2 z3
    rintro ⟨j, bv⟩ G w2 ⟨hj, o2, n2⟩
    dsimp only at hj o2 n2
    have z2 := n2.size
    have hcl := closes_length j
    simp only [upds]
    (repeat' (first | refine Wl.moveE (by conv => { lhs; whnf }) ?_ | refine Wl.assignE (by conv => { lhs; whnf }) ?_ | refine Wl.nil ?_ | refine Qseq.normal ?_ | refine Wc.seq ?_ | refine Wc.region ?_ | refine Wc.block ?_ | refine Wc.skip ?_ | refine Wc.exit ?_ | refine Qseq.exit ?_ | refine Qblk.hit ?_ | refine Qloop.exit ?_ | refine Wc.condT rfl ?_ | refine Wc.condF rfl ?_ | refine Wl.add rfl rfl (by omega) (by omega) ?_ | refine Wl.geq rfl rfl (fun _ => ?_) (fun _ => ?_)))
    · refine Wl.call (cellR_spec (n := 2) (by omega)) rfl ?_
      rintro _ w3 ⟨rfl, n3⟩
      have z3 := n3.size
      refine Wl.appendStr (o2.new (plain_one _) n3) rfl rfl (by simp only [maxLen, List.length_append, cell4_length]; omega) (by simp only [List.length_append, cell4_length]; omega) fun bv4 w4 o4 c4 l4 => ?_
      (repeat' (first | refine Wl.moveE (by conv => { lhs; whnf }) ?_ | refine Wl.assignE (by conv => { lhs; whnf }) ?_ | refine Wl.nil ?_ | refine Qseq.normal ?_ | refine Wc.region ?_ | refine Qblk.normal ?_ | refine Wl.sub rfl rfl (by omega) (by omega) ?_))
      refine Qloop.normal (j + 1, bv4) ⟨rfl, rfl, rfl, ?_, rfl, rfl, trivial⟩ ⟨by dsimp only; omega, ?_, Chg.trans (New.trans n2 n3) c4 fun b hb e => by have : w1.heap.size ≤ b := (o2.lt e).1; omega⟩ (by dsimp only; omega)
      · show vi _ = vi _
        congr 1; omega
      · dsimp only
        rw [closes_succ, ← List.append_assoc]
        exact bsUp (by omega) o4
    · have hje : j = r2 + 1 - d := by omega
      have hop : ((r2 - j : Nat) : Int) + 1 = d := by omega
      skip
      rw [hop]
      obtain ⟨R1, hR1⟩ : ∃ R1, R1 = r1 ++ closes j := ⟨_, rfl⟩
      have hR1l : R1.length ≤ 41000 * i + 4 * j := by rw [hR1, List.length_append, hcl]; omega
      rw [← hR1] at o2
      have hnl := hN.nm x hxm
      have h2 := h1.keep stableNd n2.keep
      have hM : ∀ b, bv.ownBlock = some b → w1.heap.size ≤ b := fun b e => (o2.lt e).1
      have hkM : ∀ w', Chg (fun b => bv.ownBlock = some b) w2 w' → Keep (fun b => b < w.heap.size) w2 w' := fun w' hw => hw.keep fun b hb e1 e2 => by have := hM b e2; omega
      have hfl := fil_length (x.name ++ [0])
      have hul : up4 (x.name ++ [(0 : UInt8)]).length ≤ 40 := by rw [List.length_append, List.length_singleton]; unfold up4; omega
      have hcf : (cell4 1 ++ fil (x.name ++ [0])).length ≤ 44 := by rw [List.length_append, hfl, cell4_length]; omega
      refine Wc.regionT rfl (by kernel_rfl) (fun w' => Chg (fun b => bv.ownBlock = some b) w2 w') (Chg.drew _ _) ?_
      intro w3 n3
      (repeat' (refine Wt.quiet rfl (Wq.moveE (by conv => { lhs; whnf }) (Wq.nil ?_))))
      refine Wt.chain rfl (Wl.call (cellR_spec (n := 1) (by omega)) rfl ?_)
      rintro _ w4 ⟨rfl, n4⟩
      have n24 := New.trans n3 n4
      refine Wl.nil ⟨rfl, n24.any, ?_⟩
      (repeat' (refine Wt.quiet rfl (Wq.moveE (by conv => { lhs; whnf }) (Wq.nil ?_))))
      refine Wt.quiet rfl (Wq.idxAddr h2 hkM rfl rfl (by omega) hx fun b o cs hcs hR hat => Wq.nil ?_)
      obtain ⟨pv, rfl, hpr⟩ := hR
      (repeat' (refine Wt.quiet rfl (Wq.fieldAddr rfl rfl (Wq.nil ?_))))
      refine Wt.quiet rfl (Wq.load1 rfl (fun w' hw => (hat w' hw).get 1 rfl) (Wq.nil ?_))
      clear hat hpr
      refine Wt.quiet rfl (Wq.sadd rfl (b := [0]) rfl (by simp only [List.length_singleton]; omega) (Wq.nil ?_))
      refine Wt.chain rfl (Wl.call (filledR_spec (s := x.name ++ [0]) (by rw [List.length_append, List.length_singleton]; omega)) rfl ?_)
      rintro _ w5 ⟨rfl, n5⟩
      have n25 := New.trans n24 n5
      have z25 := n25.size
      refine Wl.nil ⟨rfl, n25.any, ?_⟩
      refine Wt.quiet rfl (Wq.sadd rfl rfl (by rw [hfl, cell4_length]; omega) (Wq.nil ?_))
      refine Wt.chain rfl (Wl.appendStr (o2.new (plain_one _) n25) rfl rfl (by simp only [maxLen]; omega) (by omega) fun bv6 w6 o6 c6 l6 => ?_)
      have c26 : Chg (fun b => bv.ownBlock = some b) w2 w6 := Chg.trans n25.any c6 fun b hb e => e
      refine Wl.nil ⟨rfl, c26, ?_⟩
      (repeat' (first | refine Wt.nil ?_ | refine Wt.quiet rfl (Wq.assignE (by conv => { lhs; whnf }) (Wq.nil ?_))))
      replace o6 : Bs (Up w1) w6 bv6 _ := bsUp (by omega) o6
      have n16 : New w1 w6 := Chg.trans n2 c26 fun b hb e => by have := hM b e; omega
      clear c6 c26 l6 o2 hkM n2 h2 n3 n4 n5 n24 n25 z25 hM z2
      (repeat' (first | refine Wl.assignE (by conv => { lhs; whnf }) ?_ | refine Wl.nil ?_ | refine Qseq.normal ?_ | refine Wc.seq ?_ | refine Wc.region ?_ | refine Wc.block ?_))
      have hxc := hN.cnt x hxm
      have hfm : ∀ k, k ≤ x.props.length → ((x.props.take k).flatMap (propB all)).length ≤ 1040 * k := fun k hk => by
        have := flat_le (all := all) (x.props.take k) fun p hp => ⟨nmOk_of' hxm (List.mem_of_mem_take hp) ht, (hN.pr x hxm p (List.mem_of_mem_take hp)).2.2⟩
        rw [List.length_take] at this; omega
      obtain ⟨R2, hR2⟩ : ∃ R2, R2 = R1 ++ (cell4 1 ++ fil (x.name ++ [0])) := ⟨_, rfl⟩
      have hR2l : R2.length ≤ 41000 * i + 4 * j + 44 := by rw [hR2, List.length_append]; omega
      rw [← hR2] at o6
      refine Wc.loop (σ := Nat × Value) (fun s => [(0, .slice a l.length cap), (3, .slice oa all.length oc), (4, s.2), (5, vi d), (6, vi i), (8, vi s.1)])
        (fun s w' => s.1 ≤ x.props.length ∧ Bs (Up w1) w' s.2 (R2 ++ (x.props.take s.1).flatMap (propB all)) ∧ New w1 w') (fun s => x.props.length - s.1) (0, bv6) ⟨rfl, rfl, rfl, rfl, rfl, rfl, trivial⟩ ⟨Nat.zero_le _, by simpa using o6, n16⟩ ?_
      clear o6 n16
      rintro ⟨k, bv⟩ G w2 ⟨hk, o2, n2⟩
      dsimp only at hk o2 n2
      have z2 := n2.size
      have hfk := hfm k hk
      have h2 := h1.keep stableNd n2.keep
      simp only [upds]
      (repeat' (first | refine Wl.moveE (by conv => { lhs; whnf }) ?_ | refine Wc.seq ?_ | refine Wc.region ?_))
      refine Wl.idxAddr h2 rfl rfl (by omega) hx fun b o cs hcs hR hat => ?_
      obtain ⟨pv, rfl, hpr⟩ := hR
      obtain ⟨pa, pc, rfl, _, hpm⟩ := hpr.form
      (repeat' (refine Wl.fieldAddr rfl rfl ?_))
      refine Wl.load1 rfl (hat.get 2 rfl) ?_
      clear hat
      (repeat' (first | refine Wl.moveE (by conv => { lhs; whnf }) ?_ | refine Wl.assignE (by conv => { lhs; whnf }) ?_ | refine Wl.nil ?_ | refine Wl.lenS rfl ?_ | refine Qseq.normal ?_ | refine Wc.seq ?_ | refine Wc.region ?_ | refine Wc.block ?_ | refine Wc.skip ?_ | refine Wc.exit ?_ | refine Qseq.exit ?_ | refine Qblk.normal ?_ | refine Qblk.hit ?_ | refine Qloop.exit ?_ | refine Wc.condT rfl ?_ | refine Wc.condF rfl ?_ | refine Wl.add rfl rfl (by omega) (by omega) ?_ | refine Wl.lss rfl rfl (fun _ => ?_) (fun _ => ?_)))
      · obtain ⟨p, hp⟩ := get_lt x.props (k := k) (by omega)
        have hpp := hN.pr x hxm p (List.mem_of_getElem? hp)
        refine Wl.idxAddr h2 rfl rfl (by omega) hx fun b o cs hcs hR hat => ?_
        obtain ⟨pv, rfl, hpr⟩ := hR
        obtain ⟨pa, pc, rfl, _, hpm⟩ := hpr.form
        (repeat' (refine Wl.fieldAddr rfl rfl ?_))
        refine Wl.load1 rfl (hat.get 2 rfl) ?_
        clear hat
        (repeat' (refine Wl.moveE (by conv => { lhs; whnf }) ?_))
        refine Wl.idxAddr hpr rfl rfl (by omega) hp fun b o cs hl hR hat => ?_
        obtain rfl : cs = pC p := hR
        refine Wl.loadAt hat rfl rfl ?_
        refine Wl.alloc fun w8 b8 n8 s8 => ?_
        refine Wl.storeB (new := pC p) b8 rfl rfl rfl rfl (show (2 : Nat) ≤ 2 from Nat.le_refl 2) (goodPr.oc (fun _ => True) w p _ rfl rfl) fun w9 b9 c9 s9 => ?_
        replace b9 : Bk w9 w2.heap.size 41 (pC p) := b9
        have n29 : New w2 w9 := Chg.trans n8 c9 fun k hk e => by omega
        have o9 := o2.new (plain_one _) n29
        have n19 := New.trans n2 n29
        have hM : ∀ b, bv.ownBlock = some b → w1.heap.size ≤ b ∧ b < w2.heap.size := fun b e => o2.lt e
        clear hat b8 c9 n8 o2
        have hb9 : ∀ w', Chg (fun b => bv.ownBlock = some b) w9 w' → Bk w' w2.heap.size 41 (pC p) := fun w' hw => b9.chg hw fun e => by have := hM _ e; omega
        have hal : ∀ w', New w1 w' → RdS (one vs) 1 (fun b => Up w b ∨ No8 b) w' (.slice oa all.length oc) all := fun w' hw => (o1.new (plain_one _) hw).rd (mono_one _)
        have hpl := placeN_le all p.1
        have hfv := fil_length p.2
        have huv : up4 p.2.length ≤ 1030 := by unfold up4; omega
        obtain ⟨B1, hB1⟩ : ∃ B1, B1 = ((cell4 3 ++ cell4 p.2.length) ++ cell4 (placeN all p.1)) ++ fil p.2 := ⟨_, rfl⟩
        have hB1l : B1.length ≤ 1042 := by rw [hB1]; simp only [List.length_append, cell4_length, hfv]; omega
        have hB1p : propB all p = B1 := by rw [hB1]; unfold propB; simp only [List.append_assoc]
        have hBl : (R2 ++ (x.props.take k).flatMap (propB all)).length ≤ 41000 * i + 4 * j + 44 + 1040 * k := by rw [List.length_append]; omega
        (repeat' (first | refine Wl.nil ?_ | refine Qseq.normal ?_))
        refine Wc.regionT rfl (by kernel_rfl) (fun w' => Chg (fun b => bv.ownBlock = some b) w9 w') (Chg.drew _ _) ?_
        intro w3 n3
        (repeat' (refine Wt.quiet rfl (Wq.moveE (by conv => { lhs; whnf }) (Wq.nil ?_))))
        refine Wt.chain rfl (Wl.call (cellR_spec (n := 3) (by omega)) rfl ?_)
        rintro _ w4 ⟨rfl, n4⟩
        have n4' := New.trans n3 n4
        refine Wl.nil ⟨rfl, n4'.any, ?_⟩
        (repeat' (refine Wt.quiet rfl (Wq.fieldAddr rfl rfl (Wq.nil ?_))))
        refine Wt.quiet rfl (Wq.load1 rfl (fun w' hw => (hb9 w' hw).cell (o := 1) rfl) (Wq.nil ?_))
        (repeat' (refine Wt.quiet rfl (Wq.lenStr rfl (Wq.nil ?_))))
        refine Wt.chain rfl (Wl.call (cellR_spec (n := p.2.length) (by omega)) rfl ?_)
        rintro _ w5 ⟨rfl, n5⟩
        have n5' := New.trans n4' n5
        refine Wl.nil ⟨rfl, n5'.any, ?_⟩
        refine Wt.quiet rfl (Wq.sadd rfl rfl (by rw [cell4_length, cell4_length]; omega) (Wq.nil ?_))
        (repeat' (first | refine Wt.quiet rfl (Wq.moveE (by conv => { lhs; whnf }) (Wq.nil ?_)) | refine Wt.quiet rfl (Wq.fieldAddr rfl rfl (Wq.nil ?_))))
        refine Wt.quiet rfl (Wq.load1 rfl (fun w' hw => (hb9 w' hw).cell (o := 0) rfl) (Wq.nil ?_))
        refine Wt.chain rfl (Wl.call (placeR_spec (nm := p.1) (hal _ (New.trans n19 n5')) (by omega)) rfl ?_)
        rintro _ w6 ⟨rfl, n6⟩
        have n6' := New.trans n5' n6
        refine Wl.nil ⟨rfl, n6'.any, ?_⟩
        refine Wt.chain rfl (Wl.call (cellR_spec (n := placeN all p.1) (by omega)) rfl ?_)
        rintro _ w7 ⟨rfl, n7⟩
        have n7' := New.trans n6' n7
        refine Wl.nil ⟨rfl, n7'.any, ?_⟩
        refine Wt.quiet rfl (Wq.sadd rfl rfl (by rw [List.length_append, cell4_length, cell4_length, cell4_length]; omega) (Wq.nil ?_))
        (repeat' (refine Wt.quiet rfl (Wq.fieldAddr rfl rfl (Wq.nil ?_))))
        refine Wt.quiet rfl (Wq.load1 rfl (fun w' hw => (hb9 w' hw).cell (o := 1) rfl) (Wq.nil ?_))
        refine Wt.chain rfl (Wl.call (filledR_spec (s := p.2) (by omega)) rfl ?_)
        rintro _ w10 ⟨rfl, n10⟩
        have n10' := New.trans n7' n10
        have z10 := n10'.size
        have z29 := n29.size
        refine Wl.nil ⟨rfl, n10'.any, ?_⟩
        refine Wt.quiet rfl (Wq.sadd rfl rfl (by simp only [List.length_append, cell4_length, hfv]; omega) (Wq.nil ?_))
        rw [← hB1]
        refine Wt.chain rfl (Wl.appendStr (o9.new (plain_one _) n10') rfl rfl (by simp only [maxLen]; omega) (by omega) fun bv11 w11 o11 c11 l11 => ?_)
        have c911 : Chg (fun b => bv.ownBlock = some b) w9 w11 := Chg.trans n10'.any c11 fun b hb e => e
        refine Wl.nil ⟨rfl, c911, ?_⟩
        (repeat' (first | refine Wt.nil ?_ | refine Wt.quiet rfl (Wq.assignE (by conv => { lhs; whnf }) (Wq.nil ?_))))
        (repeat' (first | refine Wl.moveE (by conv => { lhs; whnf }) ?_ | refine Wl.assignE (by conv => { lhs; whnf }) ?_ | refine Wl.nil ?_ | refine Qseq.normal ?_ | refine Wc.region ?_ | refine Qblk.normal ?_ | refine Wl.add rfl rfl (by omega) (by omega) ?_))
        refine Qloop.normal (k + 1, bv11) ⟨rfl, rfl, rfl, rfl, rfl, rfl, trivial⟩ ⟨by dsimp only; omega, ?_, Chg.trans n19 c911 fun b hb e => by have := hM b e; omega⟩ (by dsimp only; omega)
        dsimp only
        rw [take_snoc hp, List.flatMap_append, List.flatMap_singleton, hB1p, ← List.append_assoc]
        exact bsUp (by omega) o11
      · have e : k = x.props.length := by omega
        subst e
        rw [List.take_length] at o2
        skip
        refine Qloop.normal (i + 1, bv) ⟨rfl, rfl, rfl, ?_, rfl, trivial⟩ ⟨by dsimp only; omega, ?_, n2⟩ (by dsimp only; omega)
        · dsimp only; rw [hss]; rfl
        · dsimp only; rw [hss]
          dsimp only
          rw [hR2, hR1, hje] at o2
          unfold nodeB
          simpa only [List.append_assoc] using o2
  · have e : i = l.length := by omega
    subst e
    rw [stS_all]
    generalize stS all l l.length = r at *
    obtain ⟨r1, r2⟩ := r
    dsimp only at *
    skip
    refine Wc.loop (σ := Nat × Value) (fun s => [(4, s.2), (5, vi (r2 - s.1 : Nat))]) (fun s w' => s.1 ≤ r2 ∧ Bs (Up w1) w' s.2 (r1 ++ closes s.1) ∧ New w1 w') (fun s => r2 - s.1) (0, bv) ⟨rfl, rfl, trivial⟩ ⟨Nat.zero_le _, by rw [closes_zero, List.append_nil]; exact o2, n2⟩ ?_
    clear o2 n2 z2
    rintro ⟨j, bv⟩ G w2 ⟨hj, o2, n2⟩
    dsimp only at hj o2 n2
    have z2 := n2.size
    have hcl := closes_length j
    simp only [upds]
    (repeat' (first | refine Wl.moveE (by conv => { lhs; whnf }) ?_ | refine Wl.nil ?_ | refine Qseq.normal ?_ | refine Wc.seq ?_ | refine Wc.region ?_ | refine Wc.block ?_ | refine Wc.skip ?_ | refine Wc.exit ?_ | refine Qseq.exit ?_ | refine Qblk.hit ?_ | refine Qloop.exit ?_ | refine Wc.condT rfl ?_ | refine Wc.condF rfl ?_ | refine Wl.gtr rfl rfl (fun _ => ?_) (fun _ => ?_)))
    · refine Wl.call (cellR_spec (n := 2) (by omega)) rfl ?_
      rintro _ w3 ⟨rfl, n3⟩
      have z3 := n3.size
      refine Wl.appendStr (o2.new (plain_one _) n3) rfl rfl (by simp only [maxLen, List.length_append, cell4_length]; omega) (by simp only [List.length_append, cell4_length]; omega) fun bv4 w4 o4 c4 l4 => ?_
      (repeat' (first | refine Wl.moveE (by conv => { lhs; whnf }) ?_ | refine Wl.assignE (by conv => { lhs; whnf }) ?_ | refine Wl.nil ?_ | refine Qseq.normal ?_ | refine Wc.region ?_ | refine Qblk.normal ?_ | refine Wl.sub rfl rfl (by omega) (by omega) ?_))
      refine Qloop.normal (j + 1, bv4) ⟨rfl, ?_, trivial⟩ ⟨by dsimp only; omega, ?_, Chg.trans (New.trans n2 n3) c4 fun b hb e => by have : w1.heap.size ≤ b := (o2.lt e).1; omega⟩ (by dsimp only; omega)
      · show vi _ = vi _
        congr 1; omega
      · dsimp only
        rw [closes_succ, ← List.append_assoc]
        exact bsUp (by omega) o4
    · have e : j = r2 := by omega
      subst e
      refine Wl.call (cellR_spec (n := 9) (by omega)) rfl ?_
      rintro _ w3 ⟨rfl, n3⟩
      have z3 := n3.size
      refine Wl.appendStr (o2.new (plain_one _) n3) rfl rfl (by simp only [maxLen, List.length_append, cell4_length]; omega) (by simp only [List.length_append, cell4_length]; omega) fun bv4 w4 o4 c4 l4 => ?_
      refine Wl.bytesStr (o4.rd mono8) rfl ?_
      (repeat' (first | refine Wl.assignE (by conv => { lhs; whnf }) ?_ | refine Wl.nil ?_ | refine Qseq.normal ?_ | refine Wc.ret ?_))
      exact Qfn.ret1 rfl rfl ⟨_, rfl, rfl, New.trans n1 (Chg.trans (New.trans n2 n3) c4 fun b hb e => by have : w1.heap.size ≤ b := (o2.lt e).1; omega)⟩
set_option maxRecDepth 4000 in
theorem StringsR_spec {Pb : Nat → Prop} {w : World} {v : Value} {l : List Nd} (h : RdS rNd 3 Pb w v l) (hz : Sz l) :
    Calls Tryd.prog 15 #[v] w (Ret fun r w' => ∃ sv, r = .tuple #[sv, vi (if treeOk l then 0 else 40)] ∧ OwnS (one vs) 9 1 (Up w) No8 w' sv (if treeOk l then namesN [] l else []) ∧ New w w') := by
  refine calls_of_Wc Tryd.func15 rfl Tryd.ntmps15 rfl ?_
  (repeat' (first | refine Wl.moveE (by conv => { lhs; whnf }) ?_ | refine Wl.assignE (by conv => { lhs; whnf }) ?_ | refine Wl.nil ?_ | refine Qseq.normal ?_ | refine Wc.seq ?_ | refine Wc.region ?_))
  refine Wl.call (TreeR_spec h hz) rfl ?_
  rintro _ w1 ⟨rfl, n1⟩
  cases ht : treeOk l with
  | false =>
    (repeat' (first | refine Wl.assignE (by conv => { lhs; whnf }) ?_ | refine Wl.nil ?_ | refine Wl.notB rfl ?_ | refine Qseq.normal ?_ | refine Wc.seq ?_ | refine Wc.region ?_ | refine Wc.ret ?_ | refine Qseq.ret ?_ | refine Wc.condT rfl ?_))
    exact Qfn.ret2 rfl rfl rfl ⟨_, rfl, _, rfl, OwnS.nil, n1⟩
  | true =>
    have hN := tree_NdB ht
    (repeat' (first | refine Wl.moveE (by conv => { lhs; whnf }) ?_ | refine Wl.nil ?_ | refine Wl.notB rfl ?_ | refine Qseq.normal ?_ | refine Wc.seq ?_ | refine Wc.region ?_ | refine Wc.skip ?_ | refine Wc.condF rfl ?_))
    refine Wl.call (namesR_spec (h.keep stableNd n1.keep) (tree_pr ht) hN.len) rfl ?_
    rintro sv w2 ⟨o2, n2⟩
    obtain ⟨oa, oc, rfl, ho1, ho2⟩ := o2.form
    have z1 := n1.size
    (repeat' (first | refine Wl.assignE (by conv => { lhs; whnf }) ?_ | refine Wl.nil ?_ | refine Qseq.normal ?_ | refine Wc.ret ?_))
    refine Qfn.ret2 rfl rfl rfl ⟨_, rfl, _, rfl, ?_, New.trans n1 n2⟩
    rw [if_pos rfl]
    exact o2.mono (mono_one _) (fun b _ e => by have : w1.heap.size ≤ b := e; show w.heap.size ≤ b; omega) (fun _ _ e => e)
set_option maxRecDepth 8000 in
set_option maxHeartbeats 1000000 in
theorem EncodeR_spec {Pb : Nat → Prop} {w : World} {v : Value} {l : List Nd} (h : RdS rNd 3 Pb w v l) (hz : Sz l) :
    Calls Tryd.prog 13 #[v] w (Ret fun r w' => r = .tuple #[vs (if treeOk l then encL l else []), vi (if treeOk l then 0 else 40)] ∧ New w w') := by
  obtain ⟨a, cap, rfl, hc1, hc2⟩ := h.form
  refine calls_of_Wc Tryd.func13 rfl Tryd.ntmps13 rfl ?_
  (repeat' (first | refine Wl.moveE (by conv => { lhs; whnf }) ?_ | refine Wl.assignE (by conv => { lhs; whnf }) ?_ | refine Wl.nil ?_ | refine Qseq.normal ?_ | refine Wc.seq ?_ | refine Wc.region ?_))
  refine Wl.call (TreeR_spec h hz) rfl ?_
  rintro _ w1 ⟨rfl, n1⟩
  cases ht : treeOk l with
  | false =>
    (repeat' (first | refine Wl.assignE (by conv => { lhs; whnf }) ?_ | refine Wl.nil ?_ | refine Wl.notB rfl ?_ | refine Qseq.normal ?_ | refine Wc.seq ?_ | refine Wc.region ?_ | refine Wc.ret ?_ | refine Qseq.ret ?_ | refine Wc.condT rfl ?_))
    exact Qfn.ret2 rfl rfl rfl ⟨_, rfl, rfl, n1⟩
  | true =>
    rw [if_pos rfl, if_pos rfl]
    have hN := tree_NdB ht
    have hnl := hN.len
    have hs1 := struct_size ht
    have hs2 := names_size ht
    have hs3 := strings_size l
    have he : encL l = ((((((((([208, 13, 254, 237] ++ cell4 (32 + (structL l).length + (stringsL l).length)) ++ cell4 32) ++ cell4 (structL l).length) ++ cell4 (32 + (structL l).length)) ++ cell4 (stringsL l).length) ++ cell4 17) ++ cell4 l.length) ++ structL l) ++ stringsL l) := by
      unfold encL headB
      rw [← magic_cell]
      simp only [List.append_assoc]
    rw [he]
    clear he
    (repeat' (first | refine Wl.moveE (by conv => { lhs; whnf }) ?_ | refine Wl.nil ?_ | refine Wl.notB rfl ?_ | refine Qseq.normal ?_ | refine Wc.seq ?_ | refine Wc.region ?_ | refine Wc.skip ?_ | refine Wc.condF rfl ?_))
    refine Wl.call (structR_spec (h.keep stableNd n1.keep) ht) rfl ?_
    rintro _ w2 ⟨rfl, n2⟩
    have n02 := New.trans n1 n2
    (repeat' (first | refine Wl.moveE (by conv => { lhs; whnf }) ?_ | refine Wl.assignE (by conv => { lhs; whnf }) ?_ | refine Wl.nil ?_ | refine Qseq.normal ?_ | refine Wc.seq ?_ | refine Wc.region ?_))
    refine Wl.call (stringsR_spec (h.keep stableNd n02.keep) (tree_pr ht) hnl (by omega)) rfl ?_
    rintro _ w3 ⟨rfl, n3⟩
    have n03 := New.trans n02 n3
    generalize structL l = S at *
    generalize stringsL l = T at *
    (repeat' (first | refine Wl.moveE (by conv => { lhs; whnf }) ?_ | refine Wl.assignE (by conv => { lhs; whnf }) ?_ | refine Wl.nil ?_ | refine Wl.lenStr rfl ?_ | refine Qseq.normal ?_ | refine Wc.seq ?_ | refine Wc.region ?_ | refine Wl.add rfl rfl (by omega) (by omega) ?_))
    have k4 := fun w => cellR_spec (w := w) (n := 32 + S.length + T.length) (by omega)
    rw [show ((32 + S.length + T.length : Nat) : Int) = 32 + (S.length : Int) + (T.length : Int) by omega] at k4
    have k7 := fun w => cellR_spec (w := w) (n := 32 + S.length) (by omega)
    rw [show ((32 + S.length : Nat) : Int) = 32 + (S.length : Int) by omega] at k7
    refine Wl.call (k4 _) rfl ?_
    rintro _ w4 ⟨rfl, n4⟩
    refine Wl.sadd (a := [208, 13, 254, 237]) rfl rfl (by simp only [List.length_append, List.length_cons, List.length_nil, cell4_length]; omega) ?_
    refine Wl.call (cellR_spec (n := 32) (by omega)) rfl ?_
    rintro _ w5 ⟨rfl, n5⟩
    refine Wl.sadd rfl rfl (by simp only [List.length_append, List.length_cons, List.length_nil, cell4_length]; omega) ?_
    (repeat' (first | refine Wl.moveE (by conv => { lhs; whnf }) ?_ | refine Wl.lenStr rfl ?_))
    refine Wl.call (cellR_spec (n := S.length) (by omega)) rfl ?_
    rintro _ w6 ⟨rfl, n6⟩
    refine Wl.sadd rfl rfl (by simp only [List.length_append, List.length_cons, List.length_nil, cell4_length]; omega) ?_
    (repeat' (first | refine Wl.moveE (by conv => { lhs; whnf }) ?_ | refine Wl.lenStr rfl ?_ | refine Wl.add rfl rfl (by omega) (by omega) ?_))
    refine Wl.call (k7 _) rfl ?_
    rintro _ w7 ⟨rfl, n7⟩
    refine Wl.sadd rfl rfl (by simp only [List.length_append, List.length_cons, List.length_nil, cell4_length]; omega) ?_
    (repeat' (first | refine Wl.moveE (by conv => { lhs; whnf }) ?_ | refine Wl.lenStr rfl ?_))
    refine Wl.call (cellR_spec (n := T.length) (by omega)) rfl ?_
    rintro _ w8 ⟨rfl, n8⟩
    refine Wl.sadd rfl rfl (by simp only [List.length_append, List.length_cons, List.length_nil, cell4_length]; omega) ?_
    refine Wl.call (cellR_spec (n := 17) (by omega)) rfl ?_
    rintro _ w9 ⟨rfl, n9⟩
    refine Wl.sadd rfl rfl (by simp only [List.length_append, List.length_cons, List.length_nil, cell4_length]; omega) ?_
    (repeat' (first | refine Wl.moveE (by conv => { lhs; whnf }) ?_ | refine Wl.lenS rfl ?_))
    refine Wl.call (cellR_spec (n := l.length) (by omega)) rfl ?_
    rintro _ w10 ⟨rfl, n10⟩
    refine Wl.sadd rfl rfl (by simp only [List.length_append, List.length_cons, List.length_nil, cell4_length]; omega) ?_
    (repeat' (refine Wl.moveE (by conv => { lhs; whnf }) ?_))
    refine Wl.sadd rfl rfl (by simp only [List.length_append, List.length_cons, List.length_nil, cell4_length]; omega) ?_
    (repeat' (refine Wl.moveE (by conv => { lhs; whnf }) ?_))
    refine Wl.sadd rfl rfl (by simp only [List.length_append, List.length_cons, List.length_nil, cell4_length]; omega) ?_
    (repeat' (first | refine Wl.assignE (by conv => { lhs; whnf }) ?_ | refine Wl.nil ?_ | refine Qseq.normal ?_ | refine Wc.ret ?_))
    exact Qfn.ret2 rfl rfl rfl ⟨_, rfl, rfl, New.trans (New.trans (New.trans (New.trans (New.trans (New.trans (New.trans n03 n4) n5) n6) n7) n8) n9) n10⟩
end Go.Proofs.YtlkhajheecglgaaDoor

namespace Go.Proofs.YtlkhajheecglgaaDoor
open Go Wk
open Go.RowKit (Below)
attribute [local irreducible] Go.Calls

theorem list_set_self {α : Type} {l : List α} {i : Nat} {x : α} (h : l[i]? = some x) : l.set i x = l := by
  obtain ⟨h1, h2⟩ := List.getElem?_eq_some_iff.1 h
  rw [← h2]; exact List.set_getElem_self h1
theorem own_map {α : Type} {f : α → List Value} {e : TypeId} {sz : Nat} {Pb Pe : Nat → Prop} {w : World} {v : Value} {xs ys : List α} (h : OwnS (flat f) e sz Pb Pe w v xs) (hm : xs.map f = ys.map f) : OwnS (flat f) e sz Pb Pe w v ys := by
  obtain ⟨cs, oc, el⟩ := h
  have hl : xs.length = ys.length := by simpa using congrArg List.length hm
  refine ⟨cs, hl ▸ oc, fun i y hy => ?_⟩
  have h1 : (ys.map f)[i]? = some (f y) := by rw [List.getElem?_map, hy]; rfl
  rw [← hm, List.getElem?_map] at h1
  obtain ⟨x, hx, hxy⟩ := Option.map_eq_some_iff.1 h1
  show _ = f y
  rw [← hxy]
  exact el i x hx
/-- One list of props in a tree of one's own is another one. -/
theorem TrOwn.putProps {lo : Nat} {lab : Lb} {w w' : World} {v : Value} {t : List Nd} {pvs : List Sl} (h : TrOwn lo lab w v t pvs) {i : Nat} {x : Nd} {pv : Sl} {ps : List Pr} (hx : t[i]? = some x) (hp : pvs[i]? = some pv)
    (c : Chg (fun b => lab b = some (i + 1)) w w') (o : OwnPr (fun b => lab b = some (i + 1)) w' (slV pv) ps) : TrOwn lo lab w' v (t.set i { x with props := ps }) pvs := by
  refine ⟨by simpa using h.len, fun b q e => ⟨(h.low b q e).1, Nat.lt_of_lt_of_le (h.low b q e).2 c.size⟩, ?_, fun j y qv hy hq => ?_⟩
  · refine own_map (h.arr.chg (plain_flat ndV) c fun b e1 e2 => by rw [(h.arr.lt e1).1] at e2; cases e2) ?_
    apply List.ext_getElem?
    intro j
    rw [List.getElem?_map, List.getElem?_map]
    have : (t.set i { x with props := ps }).zip pvs = (t.zip pvs).set i ({ x with props := ps }, pv) := by rw [zip_set2, list_set_self hp]
    rw [this, List.getElem?_set]
    split
    · rename_i e
      subst e
      have hz : (t.zip pvs)[i]? = some (x, pv) := List.getElem?_zip_eq_some.2 ⟨hx, hp⟩
      rw [if_pos (List.getElem?_eq_some_iff.1 hz).1, hz]
      rfl
    · rfl
  · rw [List.getElem?_set] at hy
    split at hy
    · rename_i e
      subst e
      rw [if_pos (List.getElem?_eq_some_iff.1 hx).1] at hy
      cases hy
      rw [hp] at hq
      cases hq
      exact o
    · rename_i e
      have ho := h.pr j y qv hy hq
      exact ho.chg plainPr c fun b e1 e2 => by have := (ho.lt e1).1; rw [e2] at this; cases this; exact e rfl
theorem TrL.setProps {lo : Nat} {lab : Lb} {w w' : World} {a : Option Addr} {cap : Nat} {t : List Nd} {pvs : List Sl} (h : TrL lo lab w a cap t pvs) {i : Nat} {x : Nd} {pv : Sl} {ps : List Pr} (hx : t[i]? = some x) (hp : pvs[i]? = some pv)
    (c : Chg (fun b => lab b = some (i + 1)) w w') (o : LentP (fun b => lab b = some (i + 1)) w' pv ps) : TrL lo lab w' a cap (t.set i { x with props := ps }) pvs := by
  have hz : (t.zip pvs)[i]? = some (x, pv) := List.getElem?_zip_eq_some.2 ⟨hx, hp⟩
  have hzi := (List.getElem?_eq_some_iff.1 hz).1
  refine ⟨by simpa using h.len, fun b q e => ⟨(h.low b q e).1, Nat.lt_of_lt_of_le (h.low b q e).2 c.size⟩, ?_, fun j y qv hy hq => ?_⟩
  · have ha := h.arr.chg (plain_flat ndV) c fun b e1 e2 => by rw [(h.arr.lt e1).1] at e2; cases e2
    rw [List.length_set]
    refine own_map ha ?_
    rw [List.map_append, List.map_append]
    congr 1
    apply List.ext_getElem?
    intro j
    rw [List.getElem?_map, List.getElem?_map]
    have : (t.set i { x with props := ps }).zip pvs = (t.zip pvs).set i ({ x with props := ps }, pv) := by rw [zip_set2, list_set_self hp]
    rw [this, List.getElem?_set]
    simp only [hzi, if_true]
    split
    · rename_i e
      subst e
      rw [hz]
      rfl
    · rfl
  · rw [List.getElem?_set] at hy
    split at hy
    · rename_i e
      subst e
      rw [if_pos (List.getElem?_eq_some_iff.1 hx).1] at hy
      cases hy
      rw [hp] at hq
      cases hq
      exact o
    · rename_i e
      obtain ⟨pa, pc, e1, ho⟩ := h.pr j y qv hy hq
      exact ⟨pa, pc, e1, ho.chg plainPr c fun b e1 e2 => by have := (ho.lt e1).1; rw [e2] at this; cases this; exact e rfl⟩
theorem mk_get {t : List Nd} {pvs : List Sl} (h : pvs.length = t.length) : (t.zip pvs ++ [mkN])[((t.length : Int)).toNat]? = some mkN := by
  rw [Int.toNat_natCast, List.getElem?_append_right (by simp [h])]
  simp [h]
set_option maxHeartbeats 1000000 in
set_option maxRecDepth 4000 in
theorem kept_spec {Pt : Nat → Prop} {lo : Nat} {lab : Lb} {w : World} {a : Option Addr} {cap : Nat} {t : List Nd} {pvs : List Sl} {tv : Value} (hx : TrL lo lab w a cap t pvs) (ht : RdS rNd 3 Pt w tv t) (hs : Short t) :
    Calls Tryd.prog 17 #[.slice a t.length cap, tv] w (Ret fun r w' => r = .bool true ∧ New w w') := by
  obtain ⟨ta, tc, rfl, htc1, htc2⟩ := ht.form
  simp only [maxLen] at htc2
  have hzl : (t.zip pvs ++ [mkN]).length = t.length + 1 := by simp [hx.len]
  obtain ⟨a', cap', e, hcap, hcm⟩ := hx.arr.form
  simp only [Value.slice.injEq] at e
  obtain ⟨rfl, _, rfl⟩ := e
  rw [hzl] at hcap
  simp only [maxLen] at hcm
  refine calls_of_Wc Tryd.func17 rfl Tryd.ntmps17 rfl ?_
  (repeat' (first | refine Wl.moveE (by conv => { lhs; whnf }) ?_ | refine Wl.assignE (by conv => { lhs; whnf }) ?_ | refine Wl.nil ?_ | refine Wl.lenS rfl ?_ | refine Qseq.normal ?_ | refine Wc.seq ?_ | refine Wc.region ?_ | refine Wl.add rfl rfl (by omega) (by omega) ?_))
  refine Wl.sliceToP (b := t.length + 1) rfl rfl (by omega) ?_
  (repeat' (first | refine Wl.moveE (by conv => { lhs; whnf }) ?_ | refine Wl.lenS rfl ?_))
  refine Wl.idxAddr (hx.arr.rd (mono_flat ndV)) rfl rfl (by omega) (mk_get hx.len) fun b o cs hl hR hat => ?_
  obtain rfl : cs = ndV mkN := hR
  (repeat' (refine Wl.fieldAddr rfl rfl ?_))
  refine Wl.load1 rfl (hat.get 0 rfl) ?_
  clear hat
  (repeat' (first | refine Wl.moveE (by conv => { lhs; whnf }) ?_ | refine Wl.guardY rfl rfl ?_ | (refine Wl.neq rfl rfl (fun _ => ?_) (fun _ => ?_) <;> (first | (exfalso; contradiction) | skip))))
  refine Wl.call (Same_spec hx.own.rd ht hs) rfl ?_
  rintro _ w1 ⟨rfl, n1⟩
  have hx1 := hx.new n1
  have ht1 := ht.keep stableNd n1.keep
  have hz1 := hx1.arr.rd (mono_flat ndV)
  (repeat' (first | refine Wl.assignE (by conv => { lhs; whnf }) ?_ | refine Wl.nil ?_ | refine Wl.guardY rfl rfl ?_ | refine Wl.pickFE rfl (by conv => { lhs; whnf }) ?_ | refine Wl.notB rfl ?_ | refine Qseq.normal ?_ | refine Wc.seq ?_ | refine Wc.region ?_ | refine Wc.block ?_ | refine Wc.skip ?_ | refine Wc.condF rfl ?_))
  refine Wc.loop (σ := Nat) (fun i => [(0, .slice a t.length cap), (1, .slice ta t.length tc), (5, vi i)]) (fun i w' => i ≤ t.length ∧ w' = w1) (fun i => t.length - i) 0 ⟨rfl, rfl, rfl, trivial⟩ ⟨Nat.zero_le _, rfl⟩ ?_
  rintro i G _ ⟨hi, rfl⟩
  simp only [upds]
  (repeat' (first | refine Wl.moveE (by conv => { lhs; whnf }) ?_ | refine Wl.assignE (by conv => { lhs; whnf }) ?_ | refine Wl.nil ?_ | refine Wl.lenS rfl ?_ | refine Qseq.normal ?_ | refine Wc.seq ?_ | refine Wc.region ?_ | refine Wc.block ?_ | refine Wc.skip ?_ | refine Wc.exit ?_ | refine Wc.ret ?_ | refine Qseq.exit ?_ | refine Qblk.hit ?_ | refine Qloop.exit ?_ | refine Wc.condT rfl ?_ | refine Wc.condF rfl ?_ | refine Wl.lss rfl rfl (fun _ => ?_) (fun _ => ?_)))
  · obtain ⟨x, hxi⟩ := get_lt t (k := i) (by omega)
    obtain ⟨pv, hpv⟩ := get_lt pvs (k := i) (by rw [hx.len]; omega)
    obtain ⟨pa, pc, rfl, ho⟩ := hx1.pr i x pv hxi hpv
    have hz : (t.zip pvs ++ [mkN])[((i : Int)).toNat]? = some (x, (pa, x.props.length, pc)) := by
      rw [Int.toNat_natCast, List.getElem?_append_left (by simp [hx.len]; omega), List.getElem?_zip_eq_some]
      exact ⟨hxi, hpv⟩
    obtain ⟨pa', pc', e, hpc, hpm⟩ := ho.form
    simp only [Value.slice.injEq] at e
    obtain ⟨rfl, _, rfl⟩ := e
    rw [List.length_append, List.length_singleton] at hpc
    simp only [maxLen] at hpm
    have hmp : (x.props ++ [mkP])[((x.props.length : Int)).toNat]? = some mkP := by
      rw [Int.toNat_natCast, List.getElem?_append_right (Nat.le_refl _)]
      simp
    refine Wl.idxAddr (hz1.take (m := t.length) (by simp [hx.len]) rfl) rfl rfl (by omega) (y := (x, (pa, x.props.length, pc))) (by rw [Int.toNat_natCast] at hz ⊢; rw [List.getElem?_take, if_pos (by omega)]; exact hz) fun b o cs hl hR hat => ?_
    obtain rfl : cs = ndV (x, _) := hR
    (repeat' (refine Wl.fieldAddr rfl rfl ?_))
    refine Wl.load1 (u := .slice pa x.props.length pc) rfl (hat.get 2 rfl) ?_
    clear hat
    (repeat' (first | refine Wl.moveE (by conv => { lhs; whnf }) ?_ | refine Wl.assignE (by conv => { lhs; whnf }) ?_ | refine Wl.nil ?_ | refine Wl.lenS rfl ?_ | refine Qseq.normal ?_ | refine Wc.seq ?_ | refine Wc.region ?_ | refine Wl.add rfl rfl (by omega) (by omega) ?_))
    refine Wl.sliceToP (b := x.props.length + 1) rfl rfl (by omega) ?_
    (repeat' (first | refine Wl.moveE (by conv => { lhs; whnf }) ?_ | refine Wl.lenS rfl ?_))
    refine Wl.idxAddr (ho.rd (mono_flat pC)) rfl rfl (by omega) hmp fun b o cs hl hR hat => ?_
    obtain rfl : cs = pC mkP := hR
    (repeat' (refine Wl.fieldAddr rfl rfl ?_))
    refine Wl.load1 rfl (hat.get 0 rfl) ?_
    refine Wl.sneqSame (a := [33]) rfl rfl ?_
    clear hat
    (repeat' (first | refine Wl.moveE (by conv => { lhs; whnf }) ?_ | refine Wl.assignE (by conv => { lhs; whnf }) ?_ | refine Wl.nil ?_ | refine Qseq.normal ?_ | refine Wc.region ?_ | refine Wc.skip ?_ | refine Qblk.normal ?_ | refine Wc.condF rfl ?_ | refine Wl.add rfl rfl (by omega) (by omega) ?_))
    exact Qloop.normal (i + 1) ⟨rfl, rfl, rfl, trivial⟩ ⟨by omega, rfl⟩ (by omega)
  · exact Qfn.ret1 rfl rfl ⟨_, rfl, rfl, n1⟩
set_option maxRecDepth 4000 in
theorem texts_spec {Pa Pb : Nat → Prop} {w : World} {av bv : Value} {l : List Nm} (ha : RdS (one vs) 1 Pa w av l) (hb : RdS (one vs) 1 Pb w bv l) :
    Calls Tryd.prog 16 #[av, bv] w (Ret fun r w' => r = .bool true ∧ New w w') := by
  obtain ⟨aa, ac, rfl, ha1, ha2⟩ := ha.form
  obtain ⟨ba, bc, rfl, hb1, hb2⟩ := hb.form
  simp only [maxLen] at ha2
  refine calls_of_Wc Tryd.func16 rfl Tryd.ntmps16 rfl ?_
  (repeat' (first | refine Wl.moveE (by conv => { lhs; whnf }) ?_ | refine Wl.assignE (by conv => { lhs; whnf }) ?_ | refine Wl.nil ?_ | refine Wl.lenS rfl ?_ | refine Qseq.normal ?_ | refine Wc.seq ?_ | refine Wc.region ?_ | refine Wc.block ?_ | refine Wc.skip ?_ | refine Wc.condF rfl ?_ | (refine Wl.neq rfl rfl (fun _ => ?_) (fun _ => ?_) <;> (first | (exfalso; omega) | skip))))
  refine Wc.loop (σ := Nat) (fun i => [(0, .slice aa l.length ac), (1, .slice ba l.length bc), (5, vi i)]) (fun i w' => i ≤ l.length ∧ New w w') (fun i => l.length - i) 0 ⟨rfl, rfl, rfl, trivial⟩ ⟨Nat.zero_le _, Chg.refl _ _⟩ ?_
  rintro i G w1 ⟨hi, n1⟩
  simp only [upds]
  (repeat' (first | refine Wl.moveE (by conv => { lhs; whnf }) ?_ | refine Wl.assignE (by conv => { lhs; whnf }) ?_ | refine Wl.nil ?_ | refine Wl.lenS rfl ?_ | refine Qseq.normal ?_ | refine Wc.seq ?_ | refine Wc.region ?_ | refine Wc.block ?_ | refine Wc.skip ?_ | refine Wc.exit ?_ | refine Wc.ret ?_ | refine Qseq.exit ?_ | refine Qblk.hit ?_ | refine Qloop.exit ?_ | refine Wc.condT rfl ?_ | refine Wc.condF rfl ?_ | refine Wl.lss rfl rfl (fun _ => ?_) (fun _ => ?_)))
  · obtain ⟨s, hs⟩ := get_lt l (k := i) (by omega)
    refine Wc.regionN rfl (by kernel_rfl) ?_
    (repeat' (refine Wq.moveE (by conv => { lhs; whnf }) ?_))
    refine Wq.idxAddr (ha.keep (stable_one _) n1.keep) (fun w' hw => New.keep hw) rfl rfl (by omega) hs fun b o cs hl hR hat => ?_
    obtain rfl : cs = [vs s] := hR
    refine Wq.load1 rfl (fun w' hw => (hat w' hw).get 0 rfl) ?_
    clear hat
    (repeat' (refine Wq.moveE (by conv => { lhs; whnf }) ?_))
    refine Wq.idxAddr (hb.keep (stable_one _) n1.keep) (fun w' hw => New.keep hw) rfl rfl (by omega) hs fun b o cs hl hR hat => ?_
    obtain rfl : cs = [vs s] := hR
    refine Wq.load1 rfl (fun w' hw => (hat w' hw).get 0 rfl) ?_
    clear hat
    (repeat' (first | refine Wq.nil ?_ | (refine Wq.sneq rfl rfl (fun _ => ?_) (fun _ => ?_) <;> (first | (exfalso; contradiction) | skip))))
    intro w2 n2
    (repeat' (first | refine Wl.moveE (by conv => { lhs; whnf }) ?_ | refine Wl.assignE (by conv => { lhs; whnf }) ?_ | refine Wl.nil ?_ | refine Qseq.normal ?_ | refine Wc.region ?_ | refine Wc.skip ?_ | refine Qblk.normal ?_ | refine Wc.condF rfl ?_ | refine Wl.add rfl rfl (by omega) (by omega) ?_))
    exact Qloop.normal (i + 1) ⟨rfl, rfl, rfl, trivial⟩ ⟨by omega, New.trans n1 n2⟩ (by omega)
  · exact Qfn.ret1 rfl rfl ⟨_, rfl, rfl, n1⟩
set_option maxHeartbeats 2000000 in
set_option maxRecDepth 4000 in
theorem Twin_spec {Pt : Nat → Prop} {w : World} {v : Value} {t : List Nd} (h : RdS rNd 3 Pt w v t) (hz : Sz t) :
    Calls Tryd.prog 18 #[v] w (Ret fun r w' => ∃ lab pvs, TrOwn w.heap.size lab w' r t pvs ∧ New w w') := by
  replace h := h.mono monoNd (Pb' := fun b => b < w.heap.size) fun b hb _ => hb
  obtain ⟨ta, tc, rfl, htc1, htc2⟩ := h.form
  have hzl := hz.len
  refine calls_of_Wc Tryd.func18 rfl Tryd.ntmps18 rfl ?_
  (repeat' (first | refine Wl.assignE (by conv => { lhs; whnf }) ?_ | refine Wl.nil ?_ | refine Qseq.normal ?_ | refine Wc.seq ?_ | refine Wc.region ?_ | refine Wc.block ?_))
  refine Wc.loop (σ := Nat × Value × Lb × List Sl) (fun s => [(0, .slice ta t.length tc), (3, s.2.1), (4, vi s.1)])
    (fun s w' => s.1 ≤ t.length ∧ TrOwn w.heap.size s.2.2.1 w' s.2.1 (t.take s.1) s.2.2.2 ∧ New w w') (fun s => t.length - s.1) (0, .slice none 0 0, fun _ => none, []) ⟨rfl, rfl, rfl, trivial⟩ ⟨Nat.zero_le _, TrOwn.nil, Chg.refl _ _⟩ ?_
  rintro ⟨i, vo, lab, pvs⟩ G w1 ⟨hi, to1, n1⟩
  dsimp only at hi to1 n1
  have sz1 := n1.size
  simp only [upds]
  (repeat' (first | refine Wl.moveE (by conv => { lhs; whnf }) ?_ | refine Wl.assignE (by conv => { lhs; whnf }) ?_ | refine Wl.nil ?_ | refine Wl.lenS rfl ?_ | refine Qseq.normal ?_ | refine Wc.seq ?_ | refine Wc.region ?_ | refine Wc.block ?_ | refine Wc.skip ?_ | refine Wc.exit ?_ | refine Wc.ret ?_ | refine Qseq.exit ?_ | refine Qblk.hit ?_ | refine Qloop.exit ?_ | refine Wc.condT rfl ?_ | refine Wc.condF rfl ?_ | refine Wl.lss rfl rfl (fun _ => ?_) (fun _ => ?_)))
  · obtain ⟨x, hx⟩ := get_lt t (k := i) (by omega)
    have hpz := hz.pl x (List.mem_of_getElem? hx)
    refine Wl.idxAddr (h.keep stableNd n1.keep) rfl rfl (by omega) hx fun b o cs hl hR hat => ?_
    obtain ⟨xv, rfl, hpr⟩ := hR
    obtain ⟨xa, xc, rfl, hxc1, hxc2⟩ := hpr.form
    refine Wl.loadAt hat rfl rfl ?_
    clear hat
    refine Wl.alloc fun w2 b2 n2 s2 => ?_
    refine Wl.storeB (new := [vi x.parent, vs x.name, .slice xa x.props.length xc]) b2 rfl rfl rfl rfl (show (3 : Nat) ≤ 3 from Nat.le_refl 3) (by intro c hc; simp at hc; rcases hc with rfl | rfl | rfl <;> rfl) fun w4 b4 c4 s4 => ?_
    replace b4 : Bk w4 w1.heap.size tNd [vi x.parent, vs x.name, .slice xa x.props.length xc] := b4
    have n14 : New w1 w4 := Chg.trans n2 c4 fun k hk e => by omega
    have z4 := n14.size
    clear b2 c4 n2
    (repeat' (first | refine Wl.nil ?_ | refine Qseq.normal ?_ | refine Wc.seq ?_ | refine Wc.region ?_))
    refine Wl.buildSliceE fun w5 hg5 n5 => ?_
    have b5 := b4.chg n5 id
    have z5 := n5.size
    (repeat' (refine Wl.fieldAddr rfl rfl ?_))
    refine Wl.load1 rfl (b5.cell (o := 2) rfl) ?_
    refine Wl.appendZ (Pe := No) goodPr hg5 ((hpr.keep (stable_flat pC) n14.keep).keep (stable_flat pC) n5.keep) (fun y cs hy => hy) rfl rfl (by omega) (by simp only [maxLen]; omega) (by omega) fun dv w6 oD n6 => ?_
    obtain ⟨da, dc, rfl, hdc, _⟩ := oD.form
    have b6 := b5.chg n6 id
    have z6 := n6.size
    (repeat' (refine Wl.fieldAddr rfl rfl ?_))
    refine Wl.store1 b6 rfl (show (2 : Nat) < 3 by omega) rfl rfl fun w10 b10 c10 => ?_
    replace b10 : Bk w10 w1.heap.size tNd [vi x.parent, vs x.name, .slice da x.props.length dc] := b10
    have z10 := c10.size
    have o10 := oD.chg plainPr c10 fun b hb e => by have := (oD.lt hb).1; omega
    have n110 : New w1 w10 := Chg.trans (New.trans (New.trans n14 n5) n6) c10 fun k hk e => by omega
    have to10 := to1.new n110
    have hzz : ((t.take i).zip pvs).length = i := by simp [to1.len]; omega
    (repeat' (first | refine Wl.moveE (by conv => { lhs; whnf }) ?_ | refine Wl.nil ?_ | refine Qseq.normal ?_ | refine Wc.region ?_))
    refine Wl.loadB b10 rfl rfl ?_
    refine Wl.buildSlice1 (R := flat ndV) (y := (x, (da, x.props.length, dc))) (Pe := No) goodNdV rfl rfl rfl rfl (by omega) (by omega) fun vt w11 ot n11 s11 hobt => ?_
    refine Wl.appendAll goodNdV (to10.arr.new (plain_flat ndV) n11) (ot.rd (mono_flat ndV)) (fun y cs hy => hy) rfl rfl (by omega) (by rw [hzz]; simp only [maxLen, List.length_singleton]; omega) (by rw [hzz]; simp only [List.length_singleton]; omega) fun vo' w12 o12 c12 lie _ => ?_
    have z11 := n11.size
    have n111 : New w1 w11 := New.trans n110 n11
    obtain ⟨lab', to12, _⟩ := to1.snoc sz1 (x := x) (pv := (da, x.props.length, dc)) (w2 := w11) (w3 := w12) n111 ((o10.new plainPr n11).mono (mono_flat pC) (fun b hb e => by omega) fun _ _ e => e) o12 c12
    rw [← take_snoc hx] at to12
    have n12 : New w w12 := Chg.trans (New.trans n1 n111) c12 fun b hb e => by have h1 := (to1.arr.lt e).1; have := (to1.low b _ h1).1; omega
    (repeat' (first | refine Wl.moveE (by conv => { lhs; whnf }) ?_ | refine Wl.assignE (by conv => { lhs; whnf }) ?_ | refine Wl.nil ?_ | refine Qseq.normal ?_ | refine Wc.region ?_ | refine Qblk.normal ?_ | refine Wl.add rfl rfl (by omega) (by omega) ?_))
    exact Qloop.normal (i + 1, vo', lab', pvs ++ [(da, x.props.length, dc)]) ⟨rfl, rfl, rfl, trivial⟩ ⟨by dsimp only; omega, to12, n12⟩ (by dsimp only; omega)
  · have e : i = t.length := by omega
    subst e
    rw [List.take_length] at to1
    obtain ⟨qa, qc, rfl, _, _⟩ := to1.arr.form
    exact Qfn.ret1 rfl rfl ⟨_, rfl, lab, pvs, to1, n1⟩
end Go.Proofs.YtlkhajheecglgaaDoor

namespace Go.Proofs.YtlkhajheecglgaaDoor
open Go Wk
open Go.RowKit (Below)
attribute [local irreducible] Go.Calls

theorem decM_cases (s : List UInt8) : (∃ l, decM s = (l, 0) ∧ treeOk l = true ∧ s = encL l) ∨ decM s = ([], 4) := by
  unfold decM
  cases h : readM s with
  | none => exact .inr rfl
  | some q =>
    obtain ⟨l, hd⟩ := q
    obtain ⟨h1, h2, _⟩ := readM_sound h
    exact .inl ⟨l, rfl, h1, h2⟩
theorem mod_range {a : Int} {L : Nat} (h : 0 < L) : ∃ n : Nat, ((a.tmod L) + L).tmod L = (n : Int) ∧ n < L ∧ -(L : Int) < a.tmod L ∧ a.tmod L < L := by
  have h1 : -(L : Int) < a.tmod L := by
    have := Int.lt_tmod_of_pos a (b := (L : Int)) (by omega)
    exact this
  have h2 : a.tmod L < L := Int.tmod_lt_of_pos a (by omega)
  obtain ⟨m, hm⟩ := Int.eq_ofNat_of_zero_le (show 0 ≤ a.tmod L + L by omega)
  refine ⟨m % L, ?_, Nat.mod_lt _ h, h1, h2⟩
  rw [hm]; rfl
section
variable {P : Program} {n : Nat} {ds : List Deferred} {Q : Po} {F : Fr} {w : World} {ops rest : List Oper} {d : Nat} {ty : TypeId} {pos : String} {aft : Array Edge}
theorem run_xor8 (c e : UInt8) : Op.intBits .xor .u8 (c.toNat : Int) (e.toNat : Int) = pure (.int .u8 ((c ^^^ e).toNat : Int)) := by
  have hb : ∀ c : UInt8, BitVec.ofInt IntKind.u8.bits (c.toNat : Int) = c.toBitVec := fun c => by
    show BitVec.ofInt 8 (c.toNat : Int) = c.toBitVec
    rw [BitVec.ofInt_natCast]; exact BitVec.ofNat_uInt8ToNat c
  have h1 : (BitVec.ofInt IntKind.u8.bits (c.toNat : Int) ^^^ BitVec.ofInt IntKind.u8.bits (e.toNat : Int)).toNat = (c ^^^ e).toNat := by rw [hb, hb]; rfl
  simp only [Op.intBits, h1]
  have := (c ^^^ e).toNat_lt
  rw [wrap_u rfl (by omega) (by show _ < (2 : Int) ^ 8; omega)]
theorem Wk.Wl.xor8 {x y : Operand} {t t' : TypeId} {c e : UInt8} (hx : ev n F x = by8 c) (hy : ev n F y = by8 e) (k : Wl P n ds Q ops rest (upd F d (by8 (c ^^^ e))) w) : Wl P n ds Q ops (⟨some d, .binOp .xor t x y t', ty, pos, aft, none⟩ :: rest) F w := by
  refine Wl.val ?_ k
  simp only [execOp, hx, hy, by8, Sem.run_bind, run_eqGuard_int, Result.andThen_ok]
  have : binOp .xor t (.int .u8 (c.toNat : Int)) (.int .u8 (e.toNat : Int)) = Op.intBits .xor .u8 (c.toNat : Int) (e.toNat : Int) := by simp [binOp]
  rw [this, run_xor8]; rfl
theorem Wk.Wl.beql {x y : Operand} {t t' : TypeId} {a b : Bool} [ht : Und P t .bool] (hx : ev n F x = .bool a) (hy : ev n F y = .bool b) (c : Wl P n ds Q ops rest (upd F d (.bool (a == b))) w) : Wl P n ds Q ops (⟨some d, .binOp .eql t x y t', ty, pos, aft, none⟩ :: rest) F w := by
  refine Wl.val ?_ c
  have h : (Op.equalIn 10000 t (.bool a) (.bool b)).run P w = .ok (a == b) w := run_equalIn_bool' (P := P) w 9999 t a b ht.h
  have hb : (binOp .eql t (.bool a) (.bool b)).run P w = .ok (.bool (a == b)) w := by
    simp only [binOp]
    simp [Op.equal, Op.maxDepth, h]
  simp only [execOp, hx, hy, Sem.run_bind, run_eqGuard_bool, Result.andThen_ok, hb, Sem.run_pure]
theorem Wk.Wl.strBytesF {x : Operand} {t t' e : TypeId} {l : List UInt8} [ht : Und P t .string] [ht' : Und P t' (.slice e)] [he : Und P e (.int .u8)] (hx : ev n F x = vs l) (hlm : l.length ≤ maxLen)
    (c : ∀ w' cap C, w'.heap[w.heap.size]? = some (.cells C e (C.size, C.size + 1)) → C.toList.take l.length = l.map (fun b => .int .u8 b.toNat) → l.length ≤ C.size → New w w' → w'.heap.size = w.heap.size + 1 →
      RdS (one fun b : UInt8 => .int .u8 b.toNat) 1 (fun b => w.heap.size ≤ b) w' (.slice (some ⟨w.heap.size, 0, none⟩) l.length cap) l → Wl P n ds Q ops rest (upd F d (.slice (some ⟨w.heap.size, 0, none⟩) l.length cap)) w') :
    Wl P n ds Q ops (⟨some d, .convert t t' x, ty, pos, aft, none⟩ :: rest) F w := by
  have hs : (⟨l.toArray⟩ : ByteArray).size = l.length := by simp [ByteArray.size]
  have hr := Lib.run_convert_string_bytes (P := P) w t t' e ⟨l.toArray⟩ ht.h ht'.h he.h
  have hge := grownCap_ge w l.length 0 e
  have hle := grownCap_le_maxLen w l.length 0 e hlm
  rw [hs] at hr
  have hC : Lib.bytesCells w e ⟨l.toArray⟩ = (l.map (fun b => Value.int .u8 b.toNat)).toArray ++ Array.replicate (grownCap w l.length 0 e - l.length) (.int .u8 0) := by
    simp [Lib.bytesCells, hs]
  have hnew := Lib.bytesWorld_at_new w e ⟨l.toArray⟩
  have htk : (Lib.bytesCells w e ⟨l.toArray⟩).toList.take l.length = l.map (fun b => Value.int .u8 b.toNat) := by
    rw [hC, Array.toList_append, List.take_append_of_le_length (by simp), List.take_of_length_le (by simp)]
  have hsz : l.length ≤ (Lib.bytesCells w e ⟨l.toArray⟩).size := by rw [hC]; simp
  have hn : New w (Lib.bytesWorld w e ⟨l.toArray⟩) := by
    refine ⟨rfl, rfl, rfl, by rw [Lib.bytesWorld_size]; omega, fun k hk _ => Lib.bytesWorld_at_old w e _ k hk⟩
  refine Wl.val (w' := Lib.bytesWorld w e ⟨l.toArray⟩) ?_ (c _ (grownCap w l.length 0 e) _ hnew htk hsz hn (Lib.bytesWorld_size w e _) ?_)
  · simp only [execOp, hx, Sem.run_bind, hr, Result.andThen_ok, Sem.run_pure]
  · refine .inr (.inr ⟨w.heap.size, 0, _, _, _, _, rfl, Nat.le_refl _, hnew, hge, hle, by omega, fun i b hb => ?_⟩)
    have hi : i < l.length := (List.getElem?_eq_some_iff.1 hb).1
    have h1 := congrArg (fun q => q[i]?) htk
    simp only [List.getElem?_take, if_pos hi, List.getElem?_map, hb, Option.map_some] at h1
    obtain ⟨h2, h3⟩ := List.getElem?_eq_some_iff.1 h1
    simp only [one, Nat.zero_add, Nat.mul_one]
    rw [List.drop_eq_getElem_cons h2, h3]; rfl

/-- A store into a row of which a part beside is frozen. -/
theorem Wk.Wl.storeF {x y : Operand} {e bytes : Nat} {agg : Bool} {z u : Value} {b o : Nat} {T : TypeId} {C : Array Value} {fr : Nat × Nat} [he : ElT P e 1 bytes agg z] (h : w.heap[b]? = some (.cells C T fr)) (hx : ev n F x = .pointer (some ⟨b, o, none⟩)) (ho : o < C.size) (hfr : o < fr.1) (hy : ev n F y = u) (hu : u.oneCell' = true)
    (c : ∀ w', w'.heap[b]? = some (.cells (C.setIfInBounds o u) T fr) → Chg (fun k => k = b) w w' → Wl P n ds Q ops rest F w') : Wl P n ds Q ops (⟨none, .store e x y, ty, pos, aft, none⟩ :: rest) F w := by
  have huc : u.cells = #[u] := by cases u <;> simp_all [Value.cells, Value.oneCell']
  have hc : w.cell? ⟨b, o, none⟩ = some C[o] := by simp [World.cell?, h, ho]
  have hz : w.frozen? ⟨b, o, none⟩ = false := by simp [World.frozen?, h]; omega
  refine Wl.unit (w' := w.setCell ⟨b, o, none⟩ u) ?_ (c _ ?_ (Chg.store b o u))
  · simp only [execOp, hx, hy, Sem.run_bind, Instr.storeAt, Instr.sureAddr, storeVar, Sem.run_pure, Result.andThen_ok, he.sizeOf, huc]
    simp [storeCells, run_store P w _ _ _ hu, addr_add, hc, hz]
  · simp [World.setCell, Array.getElem?_modify, h]
end
theorem xor_ne {s : List UInt8} {n : Nat} {c e : UInt8} (h : s[n]? = some c) : s.set n (c ^^^ e) = s ↔ e = 0 := by
  have hn := (List.getElem?_eq_some_iff.1 h).1
  constructor
  · intro he
    have h1 : (s.set n (c ^^^ e))[n]? = s[n]? := by rw [he]
    rw [List.getElem?_set, if_pos rfl, if_pos hn, h] at h1
    have h2 : c ^^^ e = c := by simpa using h1
    have h3 : c ^^^ (c ^^^ e) = c ^^^ c := by rw [h2]
    rw [← UInt8.xor_assoc, UInt8.xor_self, UInt8.zero_xor] at h3
    exact h3
  · rintro rfl
    rw [UInt8.xor_zero]
    obtain ⟨h1, h2⟩ := List.getElem?_eq_some_iff.1 h
    rw [← h2]; exact List.set_getElem_self h1
theorem tree_TxOk {l : List Nd} (h : treeOk l = true) : ∀ x ∈ l, TxOk x.props := fun x hx p hp => by
  have := ((propsOk_all (tree_pr h x hx)).2 p hp).1.2
  simp only [maxLen]; omega
set_option maxRecDepth 4000 in
set_option maxHeartbeats 4000000 in
theorem one_law {w : World} {s : List UInt8} {at_ : Int} {y : UInt8} (hs : s.length ≤ 9223372036854775806) :
    Calls Tryd.prog 3 #[vs s, vi at_, by8 y] w (Ret fun r w' => r = .bool true ∧ New w w') := by
  refine calls_of_Wc Tryd.func3 rfl Tryd.ntmps3 rfl ?_
  (repeat' (first | refine Wl.moveE (by conv => { lhs; whnf }) ?_ | refine Wl.assignE (by conv => { lhs; whnf }) ?_ | refine Wl.nil ?_ | refine Qseq.normal ?_ | refine Wc.seq ?_ | refine Wc.region ?_))
  refine Wl.call (Decode_spec hs) rfl ?_
  rintro _ w1 ⟨nv, lab, pvs, rfl, tr, n1⟩
  rcases decM_cases s with ⟨l, hd, hok, hse⟩ | hd
  rotate_left
  · rw [hd] at tr ⊢
    obtain ⟨na, nc, rfl, _, _⟩ := tr.rd.form
    (repeat' (first | refine Wl.moveE (by conv => { lhs; whnf }) ?_ | refine Wl.assignE (by conv => { lhs; whnf }) ?_ | refine Wl.nil ?_ | refine Wl.extract rfl rfl ?_ | refine Wl.guardY rfl rfl ?_ | refine Wl.lenS rfl ?_ | refine Qseq.normal ?_ | refine Wc.seq ?_ | refine Wc.region ?_ | refine Wc.condT rfl ?_ | (refine Wl.eql rfl rfl (fun _ => ?_) (fun _ => ?_) <;> (first | (exfalso; contradiction) | skip)) | (refine Wl.neq rfl rfl (fun _ => ?_) (fun _ => ?_) <;> (first | (exfalso; omega) | skip))))
    refine Wl.call awake_spec rfl ?_
    rintro _ w2 ⟨rfl, n2⟩
    (repeat' (first | refine Wl.assignE (by conv => { lhs; whnf }) ?_ | refine Wl.nil ?_ | refine Wl.pickTE rfl (by conv => { lhs; whnf }) ?_ | refine Qseq.normal ?_ | refine Wc.ret ?_ | refine Qseq.ret ?_))
    exact Qfn.ret1 rfl rfl ⟨_, rfl, rfl, New.trans n1 n2⟩
  rw [hd] at tr ⊢
  have htx := tree_TxOk hok
  have rl := tr.rd
  obtain ⟨na, nc, hnv, _, _⟩ := rl.form
  (repeat' (first | refine Wl.moveE (by conv => { lhs; whnf }) ?_ | refine Wl.assignE (by conv => { lhs; whnf }) ?_ | refine Wl.nil ?_ | refine Wl.extract rfl rfl ?_ | refine Qseq.normal ?_ | refine Wc.seq ?_ | refine Wc.region ?_ | refine Wc.skip ?_ | refine Wc.condF rfl ?_ | (refine Wl.neq rfl rfl (fun _ => ?_) (fun _ => ?_) <;> (first | (exfalso; omega) | skip))))
  refine Wl.call (Encode_spec rl htx) rfl ?_
  rintro _ w2 ⟨rfl, n2⟩
  have rl2 := rl.keep stableNd n2.keep
  have n02 := New.trans n1 n2
  rw [if_pos hok, if_pos hok, ← hse]
  have hel := encL_length l
  rw [← hse] at hel
  have hs1 := struct_size hok
  have hs2 := names_size hok
  have hs3 := strings_size l
  obtain ⟨n, hn, hnl, hm1, hm2⟩ := mod_range (a := at_) (L := s.length) (by omega)
  obtain ⟨c, hc⟩ := get_lt s (k := n) hnl
  (repeat' (first | refine Wl.moveE (by conv => { lhs; whnf }) ?_ | refine Wl.assignE (by conv => { lhs; whnf }) ?_ | refine Wl.nil ?_ | refine Wl.extract rfl rfl ?_ | refine Wl.guardY rfl rfl ?_ | refine Wl.pickFE rfl (by conv => { lhs; whnf }) ?_ | refine Wl.lenStr rfl ?_ | refine Qseq.normal ?_ | refine Wc.seq ?_ | refine Wc.region ?_ | refine Wc.skip ?_ | refine Wc.condF rfl ?_ | (refine Wl.neq rfl rfl (fun _ => ?_) (fun _ => ?_) <;> (first | (exfalso; omega) | skip)) | (refine Wl.sneq rfl rfl (fun _ => ?_) (fun _ => ?_) <;> (first | (exfalso; contradiction) | skip))))
  refine Wl.remW rfl rfl (by omega) ?_
  (repeat' (first | refine Wl.moveE (by conv => { lhs; whnf }) ?_ | refine Wl.lenStr rfl ?_ | refine Wl.add rfl rfl (by omega) (by omega) ?_))
  refine Wl.remW rfl rfl (by omega) ?_
  rw [hn]
  (repeat' (first | refine Wl.moveE (by conv => { lhs; whnf }) ?_ | refine Wl.assignE (by conv => { lhs; whnf }) ?_ | refine Wl.nil ?_ | refine Qseq.normal ?_ | refine Wc.seq ?_ | refine Wc.region ?_))
  refine Wl.strBytesF rfl (by simp only [maxLen]; omega) fun w3 cap C hC htk hsz n3 s3 rb => ?_
  (repeat' (first | refine Wl.moveE (by conv => { lhs; whnf }) ?_ | refine Wl.assignE (by conv => { lhs; whnf }) ?_ | refine Wl.nil ?_ | refine Qseq.normal ?_ | refine Wc.seq ?_ | refine Wc.region ?_))
  refine Wl.idxLoadV rb rfl rfl (by omega) (by rw [Int.toNat_natCast]; exact hc) rfl rfl fun p3 => ?_
  (repeat' (refine Wl.moveE (by conv => { lhs; whnf }) ?_))
  refine Wl.xor8 rfl rfl ?_
  refine Wl.idxP rfl rfl (by omega) (by omega) ?_
  rw [show 0 + (n : Int).toNat * 1 = n by omega]
  refine Wl.storeF (u := by8 (c ^^^ y)) hC rfl (by omega) (by dsimp only; omega) rfl rfl fun w4 hC4 c4 => ?_
  have n34 : New w2 w4 := Chg.trans n3 c4 fun k hk e => by omega
  have n04 := New.trans n02 n34
  have rl4 := rl2.keep stableNd n34.keep
  have rb4 : RdS (one by8) 1 (fun b => w2.heap.size ≤ b) w4 (.slice (some ⟨w2.heap.size, 0, none⟩) s.length cap) (s.set n (c ^^^ y)) := by
    rcases rb with ⟨e, _⟩ | ⟨a, cap', e, e2, _⟩ | ⟨b, off, cap', cur, e', fr, e, hb, hh, h1, h2, h3, h4⟩
    · cases e
    · rw [e2] at hnl; simp at hnl
    · simp only [Value.slice.injEq, Option.some.injEq, Addr.mk.injEq] at e
      obtain ⟨⟨rfl, rfl, _⟩, _, rfl⟩ := e
      rw [hC] at hh
      cases hh
      refine .inr (.inr ⟨_, 0, cap, _, _, _, by rw [List.length_set], Nat.le_refl _, hC4, by rw [List.length_set]; exact h1, h2, by rw [List.length_set]; simpa using h3, fun i x hx => ?_⟩)
      have hi : i < s.length := by have := (List.getElem?_eq_some_iff.1 hx).1; simpa using this
      rw [List.getElem?_set] at hx
      simp only [one, Nat.zero_add, Nat.mul_one, Array.toList_setIfInBounds] at h4 ⊢
      have hlen : i < (C.toList.set n (by8 (c ^^^ y))).length := by simp; omega
      rw [List.drop_eq_getElem_cons hlen, List.getElem_set]
      by_cases hni : n = i
      · subst hni
        rw [if_pos rfl, if_pos hnl] at hx
        cases hx
        rw [if_pos rfl]; rfl
      · rw [if_neg hni] at hx
        rw [if_neg hni]
        have h5 := h4 i x hx
        rw [List.drop_eq_getElem_cons (by simp; omega)] at h5
        simpa using h5
  (repeat' (first | refine Wl.moveE (by conv => { lhs; whnf }) ?_ | refine Wl.nil ?_ | refine Qseq.normal ?_ | refine Wc.seq ?_ | refine Wc.region ?_))
  refine Wl.bytesStr rb4 rfl ?_
  have hx := xor_ne (e := y) hc
  have hbl : (s.set n (c ^^^ y)).length = s.length := List.length_set
  generalize hB : s.set n (c ^^^ y) = B at *
  refine Wl.call (Decode_spec (s := B) (by omega)) rfl ?_
  rintro _ w5 ⟨mv, lab5, pvs5, rfl, tr5, n5⟩
  have n05 := New.trans n04 n5
  have hy0 : (y.toNat : Int) = 0 ↔ y = 0 := ⟨fun h => UInt8.toNat_inj.1 (by rw [UInt8.toNat_zero]; omega), fun h => by rw [h]; rfl⟩
  rcases decM_cases B with ⟨m, hdm, hokm, hme⟩ | hdm
  rotate_left
  · rw [hdm] at tr5 ⊢
    obtain ⟨ma, mc, rfl, _, _⟩ := tr5.rd.form
    have hyn : ¬ (y.toNat : Int) = 0 := fun h => by
      rw [hx.2 (hy0.1 h), hd] at hdm
      cases hdm
    (repeat' (first | refine Wl.moveE (by conv => { lhs; whnf }) ?_ | refine Wl.assignE (by conv => { lhs; whnf }) ?_ | refine Wl.nil ?_ | refine Wl.extract rfl rfl ?_ | refine Wl.guardY rfl rfl ?_ | refine Wl.pickTE rfl (by conv => { lhs; whnf }) ?_ | refine Wl.lenS rfl ?_ | refine Qseq.normal ?_ | refine Wc.seq ?_ | refine Wc.region ?_ | refine Wc.condT rfl ?_ | (refine Wl.eql rfl rfl (fun _ => ?_) (fun _ => ?_) <;> (first | (exfalso; omega) | (exfalso; contradiction) | skip)) | (refine Wl.neq rfl rfl (fun _ => ?_) (fun _ => ?_) <;> (first | (exfalso; omega) | skip))))
    refine Wl.call awake_spec rfl ?_
    rintro _ w6 ⟨rfl, n6⟩
    (repeat' (first | refine Wl.assignE (by conv => { lhs; whnf }) ?_ | refine Wl.nil ?_ | refine Wl.pickTE rfl (by conv => { lhs; whnf }) ?_ | refine Qseq.normal ?_ | refine Wc.ret ?_ | refine Qseq.ret ?_))
    exact Qfn.ret1 rfl rfl ⟨_, rfl, rfl, New.trans n05 n6⟩
  rw [hdm] at tr5 ⊢
  have htm := tree_TxOk hokm
  have rm := tr5.rd
  obtain ⟨ma, mc, hmv, _, _⟩ := rm.form
  (repeat' (first | refine Wl.moveE (by conv => { lhs; whnf }) ?_ | refine Wl.assignE (by conv => { lhs; whnf }) ?_ | refine Wl.nil ?_ | refine Wl.extract rfl rfl ?_ | refine Qseq.normal ?_ | refine Wc.seq ?_ | refine Wc.region ?_ | refine Wc.skip ?_ | refine Wc.condF rfl ?_ | (refine Wl.neq rfl rfl (fun _ => ?_) (fun _ => ?_) <;> (first | (exfalso; omega) | skip))))
  refine Wl.call (Encode_spec rm htm) rfl ?_
  rintro _ w6 ⟨rfl, n6⟩
  rw [if_pos hokm, if_pos hokm, ← hme]
  have n56 := New.trans n5 n6
  have rb6 := rb4.keep (stable_one _) n56.keep
  (repeat' (first | refine Wl.moveE (by conv => { lhs; whnf }) ?_ | refine Wl.assignE (by conv => { lhs; whnf }) ?_ | refine Wl.nil ?_ | refine Wl.extract rfl rfl ?_ | refine Wl.guardY rfl rfl ?_ | refine Qseq.normal ?_ | refine Wc.seq ?_ | refine Wc.region ?_ | (refine Wl.eql rfl rfl (fun _ => ?_) (fun _ => ?_) <;> (first | (exfalso; omega) | skip))))
  refine Wl.bytesStr rb6 rfl ?_
  (repeat' (first | refine Wl.moveE (by conv => { lhs; whnf }) ?_ | refine Wl.guardY rfl rfl ?_ | refine Wl.pickTE rfl (by conv => { lhs; whnf }) ?_ | (refine Wl.seql rfl rfl (fun _ => ?_) (fun _ => ?_) <;> (first | (exfalso; contradiction) | skip))))
  refine Wl.call (alike_spec (rl4.keep stableNd n56.keep) (rm.keep stableNd n6.keep)) rfl ?_
  rintro _ w7 ⟨q, rfl, hq, n7⟩
  (repeat' (first | refine Wl.moveE (by conv => { lhs; whnf }) ?_ | refine Wl.guardY rfl rfl ?_ | refine Wl.eql rfl rfl (fun _ => ?_) (fun _ => ?_)))
  · have hyy : y = 0 := hy0.1 (by assumption)
    have hBs := hx.2 hyy
    rw [hBs, hd] at hdm
    have hlm : l = m := by cases hdm; rfl
    obtain rfl : q = true := hq.2 hlm
    refine Wl.beql rfl rfl ?_
    rw [show (true == true) = true from rfl]
    (repeat' (first | refine Wl.moveE (by conv => { lhs; whnf }) ?_ | refine Wl.guardY rfl rfl ?_ | refine Wl.pickTE rfl (by conv => { lhs; whnf }) ?_))
    refine Wl.call awake_spec rfl ?_
    rintro _ w8 ⟨rfl, n8⟩
    (repeat' (first | refine Wl.assignE (by conv => { lhs; whnf }) ?_ | refine Wl.nil ?_ | refine Wl.pickTE rfl (by conv => { lhs; whnf }) ?_ | refine Qseq.normal ?_ | refine Wc.ret ?_))
    exact Qfn.ret1 rfl rfl ⟨_, rfl, rfl, New.trans (New.trans (New.trans n05 n6) n7) n8⟩
  · have hyy : y ≠ 0 := fun e => absurd (hy0.2 e) (by assumption)
    have hqf : q = false := by
      cases q with
      | false => rfl
      | true =>
        have e : l = m := hq.1 rfl
        exact absurd (hx.1 (by rw [hme, hse, e])) hyy
    subst hqf
    refine Wl.beql rfl rfl ?_
    rw [show (false == false) = true from rfl]
    (repeat' (first | refine Wl.moveE (by conv => { lhs; whnf }) ?_ | refine Wl.guardY rfl rfl ?_ | refine Wl.pickTE rfl (by conv => { lhs; whnf }) ?_))
    refine Wl.call awake_spec rfl ?_
    rintro _ w8 ⟨rfl, n8⟩
    (repeat' (first | refine Wl.assignE (by conv => { lhs; whnf }) ?_ | refine Wl.nil ?_ | refine Wl.pickTE rfl (by conv => { lhs; whnf }) ?_ | refine Qseq.normal ?_ | refine Wc.ret ?_))
    exact Qfn.ret1 rfl rfl ⟨_, rfl, rfl, New.trans (New.trans (New.trans n05 n6) n7) n8⟩
end Go.Proofs.YtlkhajheecglgaaDoor

namespace Go.Proofs.YtlkhajheecglgaaDoor
open Go Wk

theorem enc_lt {l : List Nd} (h : treeOk l = true) : (encL l).length < 4294967296 := by
  have h1 := encL_length l
  have h2 := struct_size h
  have h3 := names_size h
  have h4 := strings_size l
  omega
theorem take8 {x y r s : List UInt8} (hx : x.length = 4) (hy : y.length = 4) : ((x ++ (y ++ r)) ++ s).take 8 = x ++ y := by
  rw [show x ++ (y ++ r) ++ s = (x ++ y) ++ (r ++ s) by simp]
  rw [show (8 : Nat) = (x ++ y).length by simp [hx, hy]]
  exact List.take_left
theorem encL_head (l : List Nd) : (encL l).take 8 = cell4 0xD00DFEED ++ cell4 (encL l).length := by
  rw [encL_length]
  unfold encL headB
  exact take8 (cell4_length _) (cell4_length _)
theorem enc_len_of {l m : List Nd} (h : treeOk l = true) (h' : treeOk m = true) (e : (encL l).take 8 = (encL m).take 8) : (encL l).length = (encL m).length := by
  rw [encL_head, encL_head] at e
  have e2 := List.append_cancel_left e
  have e3 := congrArg num4 e2
  rwa [num4_cell (enc_lt h), num4_cell (enc_lt h')] at e3
theorem enc_ge (l : List Nd) : 32 ≤ (encL l).length := by rw [encL_length]; omega
theorem decM_cut {l : List Nd} (h : treeOk l = true) {n : Nat} (hn : n < (encL l).length) : decM ((encL l).take n) = ([], 4) := by
  rcases decM_cases ((encL l).take n) with ⟨m, _, hm, he⟩ | hd
  · exfalso
    have hg := enc_ge m
    have hl : (encL m).length = n := by rw [← he, List.length_take]; omega
    have e8 : (encL l).take 8 = (encL m).take 8 := by
      rw [← he, List.take_take]; congr 1; omega
    have := enc_len_of h hm e8
    omega
  · exact hd
theorem decM_more {l : List Nd} (h : treeOk l = true) {more : List UInt8} (hn : more ≠ []) : decM (encL l ++ more) = ([], 4) := by
  rcases decM_cases (encL l ++ more) with ⟨m, _, hm, he⟩ | hd
  · exfalso
    have hg := enc_ge l
    have e8 : (encL l).take 8 = (encL m).take 8 := by
      rw [← he, List.take_append_of_le_length (by omega)]
    have h1 := enc_len_of h hm e8
    have h2 := congrArg List.length he
    rw [List.length_append] at h2
    exact hn (List.eq_nil_of_length_eq_zero (by omega))
  · exact hd
theorem enc_inj {l m : List Nd} (h : treeOk l = true) (h' : treeOk m = true) : encL l = encL m ↔ l = m := by
  refine ⟨fun e => ?_, fun e => by rw [e]⟩
  have h1 := dec_full h
  have h2 := dec_full h'
  rw [e, h2] at h1
  exact (Prod.mk.inj h1).1.symm
theorem up4_mod (n : Nat) : up4 n % 4 = 0 := by unfold up4; omega
theorem flat_mod (all : List Nm) : ∀ ps : List Pr, (ps.flatMap (propB all)).length % 4 = 0
  | [] => rfl
  | p :: ps => by
    have := flat_mod all ps
    have := up4_mod p.2.length
    simp only [List.flatMap_cons, List.length_append, propB, cell4_length, fil_length]
    omega
mutual
theorem stT_mod (all : List Nm) : ∀ τ : T, (stT all τ).length % 4 = 0
  | .mk nm ps ks => by
    have h1 := stK_mod all ks
    have h2 := flat_mod all ps
    have h3 := up4_mod (nm ++ [0]).length
    simp only [stT, nodeB, List.length_append, cell4_length, fil_length] at h3 ⊢
    omega
theorem stK_mod (all : List Nm) : ∀ ks : List T, (stK all ks).length % 4 = 0
  | [] => rfl
  | t :: ts => by
    have h1 := stT_mod all t
    have h2 := stK_mod all ts
    simp only [stK, List.length_append]
    omega
end
theorem struct_mod {l : List Nd} (h : treeOk l = true) : (structL l).length % 4 = 0 := by
  obtain ⟨τ, rfl, _⟩ := treeOk_parse h
  rw [structL_T h]
  have := stT_mod (namesN [] (flT τ (-1) 0)) τ
  rw [List.length_append, cell4_length]
  omega
end Go.Proofs.YtlkhajheecglgaaDoor

namespace Go.Proofs.YtlkhajheecglgaaDoor
open Go Wk Go.ChangeShapes

theorem cInt : Tryd.prog.cellsOf 3 = 1 := by kernel_rfl
theorem cStr : Tryd.prog.cellsOf 9 = 1 := by kernel_rfl
theorem cPrs : Tryd.prog.cellsOf 37 = 1 := by kernel_rfl
theorem cNds : Tryd.prog.cellsOf 22 = 1 := by kernel_rfl
theorem cPr : Tryd.prog.cellsOf 41 = 2 := by kernel_rfl
theorem cNd : Tryd.prog.cellsOf 39 = 3 := by kernel_rfl
theorem cTwo : Tryd.prog.cellsOf 53 = 4 := by kernel_rfl

theorem len2 {α : Type} {l : List α} (h : l.length = 2) : ∃ a b, l = [a, b] := by
  match l, h with
  | [a, b], _ => exact ⟨a, b, rfl⟩
theorem len3 {α : Type} {l : List α} (h : l.length = 3) : ∃ a b c, l = [a, b, c] := by
  match l, h with
  | [a, b, c], _ => exact ⟨a, b, c, rfl⟩
def datPr : Dat Pr := fun H x d => ∃ d0 d1, d = .agg [d0, d1] ∧ datStr H x.1 d0 ∧ datStr H x.2 d1
def datNd : Dat Nd := fun H x d => ∃ d0 d1 d2, d = .agg [d0, d1, d2] ∧ datInt .i64 H x.parent d0 ∧ datStr H x.name d1 ∧ datSl datPr H x.props d2
theorem opens_pr : Opens Tryd.prog 41 rPr datPr := by
  intro H enc w fuel cs d ps h
  obtain ⟨xs, n, rfl, hx, hl, hlen, hf⟩ := DataW.trod_struct Tryd.underlying41 h
  rw [cPr] at hl
  obtain ⟨c0, c1, rfl⟩ := len2 hl
  obtain ⟨y0, y1, rfl⟩ := len2 (show xs.length = 2 from hlen)
  have e0 : DataW.trod enc Tryd.prog w 0 (fun _ => true) true n 9 (([c0, c1].drop 0).take (Tryd.prog.cellsOf 9)) = some y0 := hf 0 _ rfl
  rw [cStr] at e0
  have e1 : DataW.trod enc Tryd.prog w 0 (fun _ => true) true n 9 (([c0, c1].drop 1).take (Tryd.prog.cellsOf 9)) = some y1 := hf 1 _ rfl
  rw [cStr] at e1
  cases hx
  obtain ⟨s0, r0, q0⟩ := opens_str Tryd.underlying9 H enc w n _ _ _ e0
  obtain ⟨s1, r1, q1⟩ := opens_str Tryd.underlying9 H enc w n _ _ _ e1
  have r0' : [c0] = [vs s0] := r0 (fun _ => True) (fun _ _ => trivial)
  have r1' : [c1] = [vs s1] := r1 (fun _ => True) (fun _ _ => trivial)
  cases r0'
  cases r1'
  exact ⟨(s0, s1), fun _ _ => rfl, _, _, rfl, q0, q1⟩
theorem opens_prs : Opens Tryd.prog 37 (rSl rPr 2) (datSl datPr) := opens_slice Tryd.underlying37 cPr (by decide) opens_pr
theorem opens_nd : Opens Tryd.prog 39 rNd datNd := by
  intro H enc w fuel cs d ps h
  obtain ⟨xs, n, rfl, hx, hl, hlen, hf⟩ := DataW.trod_struct Tryd.underlying39 h
  rw [cNd] at hl
  obtain ⟨c0, c1, c2, rfl⟩ := len3 hl
  obtain ⟨y0, y1, y2, rfl⟩ := len3 (show xs.length = 3 from hlen)
  have e0 : DataW.trod enc Tryd.prog w 0 (fun _ => true) true n 3 (([c0, c1, c2].drop 0).take (Tryd.prog.cellsOf 3)) = some y0 := hf 0 _ rfl
  rw [cInt] at e0
  have e1 : DataW.trod enc Tryd.prog w 0 (fun _ => true) true n 9 (([c0, c1, c2].drop 1).take (Tryd.prog.cellsOf 9)) = some y1 := hf 1 _ rfl
  rw [cStr] at e1
  have e2 : DataW.trod enc Tryd.prog w 0 (fun _ => true) true n 37 (([c0, c1, c2].drop 2).take (Tryd.prog.cellsOf 37)) = some y2 := hf 2 _ rfl
  rw [cPrs] at e2
  cases hx
  obtain ⟨s0, r0, q0⟩ := opens_int Tryd.underlying3 H enc w n _ _ _ e0
  obtain ⟨s1, r1, q1⟩ := opens_str Tryd.underlying9 H enc w n _ _ _ e1
  obtain ⟨s2, r2, q2⟩ := opens_prs H enc w n _ _ _ e2
  have r0' : [c0] = [vi s0] := r0 (fun _ => True) (fun _ _ => trivial)
  have r1' : [c1] = [vs s1] := r1 (fun _ => True) (fun _ _ => trivial)
  cases r0'
  cases r1'
  refine ⟨⟨s0, s1, s2⟩, fun Pb hP => ?_, _, _, _, rfl, q0, q1, q2⟩
  obtain ⟨v, hv, hr⟩ := r2 Pb fun p hp => hP p (by simp; exact .inr (.inr hp))
  have hv' : [c2] = [v] := hv
  cases hv'
  exact ⟨c2, rfl, hr⟩
theorem opens_nds : Opens Tryd.prog 22 (rSl rNd 3) (datSl datNd) := opens_slice Tryd.underlying22 cNd (by decide) opens_nd

theorem len4 {α : Type} {l : List α} (h : l.length = 4) : ∃ a b c d, l = [a, b, c, d] := by
  match l, h with
  | [a, b, c, d], _ => exact ⟨a, b, c, d, rfl⟩
structure Tw where
  one : List Nd
  other : List Nd
  cut : Int
  more : List UInt8
def datTw : Dat Tw := fun H x d => ∃ d0 d1 d2 d3, d = .agg [d0, d1, d2, d3] ∧ datSl datNd H x.one d0 ∧ datSl datNd H x.other d1 ∧ datInt .i64 H x.cut d2 ∧ datStr H x.more d3
def rTw : Rel Tw := fun Pb w x cs => ∃ v0 v1, cs = [v0, v1, vi x.cut, vs x.more] ∧ RdS rNd 3 Pb w v0 x.one ∧ RdS rNd 3 Pb w v1 x.other
theorem opens_tw : Opens Tryd.prog 53 rTw datTw := by
  intro H enc w fuel cs d ps h
  obtain ⟨xs, n, rfl, hx, hl, hlen, hf⟩ := DataW.trod_struct Tryd.underlying53 h
  rw [cTwo] at hl
  obtain ⟨c0, c1, c2, c3, rfl⟩ := len4 hl
  obtain ⟨y0, y1, y2, y3, rfl⟩ := len4 (show xs.length = 4 from hlen)
  have e0 : DataW.trod enc Tryd.prog w 0 (fun _ => true) true n 22 (([c0, c1, c2, c3].drop 0).take (Tryd.prog.cellsOf 22)) = some y0 := hf 0 _ rfl
  rw [cNds] at e0
  have e1 : DataW.trod enc Tryd.prog w 0 (fun _ => true) true n 22 (([c0, c1, c2, c3].drop 1).take (Tryd.prog.cellsOf 22)) = some y1 := hf 1 _ rfl
  rw [cNds] at e1
  have e2 : DataW.trod enc Tryd.prog w 0 (fun _ => true) true n 3 (([c0, c1, c2, c3].drop 2).take (Tryd.prog.cellsOf 3)) = some y2 := hf 2 _ rfl
  rw [cInt] at e2
  have e3 : DataW.trod enc Tryd.prog w 0 (fun _ => true) true n 9 (([c0, c1, c2, c3].drop 3).take (Tryd.prog.cellsOf 9)) = some y3 := hf 3 _ rfl
  rw [cStr] at e3
  cases hx
  obtain ⟨s0, r0, q0⟩ := opens_nds H enc w n _ _ _ e0
  obtain ⟨s1, r1, q1⟩ := opens_nds H enc w n _ _ _ e1
  obtain ⟨s2, r2, q2⟩ := opens_int Tryd.underlying3 H enc w n _ _ _ e2
  obtain ⟨s3, r3, q3⟩ := opens_str Tryd.underlying9 H enc w n _ _ _ e3
  have r2' : [c2] = [vi s2] := r2 (fun _ => True) (fun _ _ => trivial)
  have r3' : [c3] = [vs s3] := r3 (fun _ => True) (fun _ _ => trivial)
  cases r2'
  cases r3'
  refine ⟨⟨s0, s1, s2, s3⟩, fun Pb hP => ?_, _, _, _, _, rfl, q0, q1, q2, q3⟩
  obtain ⟨v0, hv0, hr0⟩ := r0 Pb fun p hp => hP p (by simp; exact .inl hp)
  obtain ⟨v1, hv1, hr1⟩ := r1 Pb fun p hp => hP p (by simp; exact .inr (.inl hp))
  have hv0' : [c0] = [v0] := hv0
  have hv1' : [c1] = [v1] := hv1
  cases hv0'
  cases hv1'
  exact ⟨c0, c1, rfl, hr0, hr1⟩
/-! Sizes. -/
def Wok {H : Type} (t : TypeId) (d : DataW H) : Prop := ∀ n ∈ d.weights Tryd.prog t, n ≤ reachBytes
theorem wAll_mem {H : Type} {P : Program} {e : TypeId} : ∀ {ds : List (DataW H)} {i : Nat} {d : DataW H}, ds[i]? = some d → ∀ n ∈ d.weights P e, n ∈ DataW.weightsAll P e ds
  | d0 :: ds, 0, d, h, n, hn => by
    simp only [List.getElem?_cons_zero, Option.some.injEq] at h
    subst h
    simp only [DataW.weightsAll, List.mem_append]
    exact .inl hn
  | d0 :: ds, i + 1, d, h, n, hn => by
    simp only [List.getElem?_cons_succ] at h
    simp only [DataW.weightsAll, List.mem_append]
    exact .inr (wAll_mem h n hn)
  | [], _, _, h, _, _ => by simp at h
theorem wok_str {H : Type} {t : TypeId} {x : List UInt8} {d : DataW H} (h : datStr H x d) (hw : Wok t d) : x.length ≤ reachBytes := by
  obtain ⟨rfl, _⟩ := h
  exact hw _ (by simp [DataW.weights])
theorem wok_sl {H : Type} {α : Type} {D : Dat α} {t e : TypeId} {xs : List α} {d : DataW H} (ht : Tryd.prog.underlying t = some (.slice e)) (h : datSl D H xs d) (hw : Wok t d) :
    xs.length * Tryd.prog.bytesOf e ≤ reachBytes ∧ ∀ x ∈ xs, ∃ y, D H x y ∧ Wok e y := by
  rcases h with ⟨rfl, rfl⟩ | ⟨es, sp, rfl, hl, hd⟩
  · exact ⟨by simp, fun x hx => by simp at hx⟩
  · have hd' : ∀ n, n = (es.length + sp.length) * Tryd.prog.bytesOf e ∨ n ∈ DataW.weightsAll Tryd.prog e es → n ≤ reachBytes := fun n hn => hw n (by
      simp only [DataW.weights, ht, List.mem_cons, List.mem_append]
      rcases hn with h | h
      · exact .inl h
      · exact .inr (.inl h))
    refine ⟨?_, fun x hx => ?_⟩
    · have h1 := hd' _ (.inl rfl)
      have h2 : xs.length * Tryd.prog.bytesOf e ≤ (es.length + sp.length) * Tryd.prog.bytesOf e := Nat.mul_le_mul_right _ (by omega)
      exact Nat.le_trans h2 h1
    · obtain ⟨i, hi⟩ := List.mem_iff_getElem?.1 hx
      obtain ⟨y, hy, hD⟩ := hd i x hi
      exact ⟨y, hD, fun n hn => hd' n (.inr (wAll_mem hy n hn))⟩
theorem wok_pr {H : Type} {x : Pr} {d : DataW H} (h : datPr H x d) (hw : Wok 41 d) : x.1.length ≤ reachBytes ∧ x.2.length ≤ reachBytes := by
  obtain ⟨d0, d1, rfl, h0, h1⟩ := h
  have e : (DataW.agg [d0, d1]).weights Tryd.prog 41 = DataW.weightsEach Tryd.prog [9, 9] [d0, d1] := by
    simp only [DataW.weights, Tryd.underlying41]
    rfl
  refine ⟨wok_str (t := 9) h0 fun n hn => hw n ?_, wok_str (t := 9) h1 fun n hn => hw n ?_⟩
  · rw [e]; exact DataW.weights_mem_each (j := 0) rfl rfl n hn
  · rw [e]; exact DataW.weights_mem_each (j := 1) rfl rfl n hn
theorem bytesPr : Tryd.prog.bytesOf 41 = 32 := by kernel_rfl
theorem bytesNd : Tryd.prog.bytesOf 39 = 48 := by kernel_rfl
theorem wok_nd {H : Type} {x : Nd} {d : DataW H} (h : datNd H x d) (hw : Wok 39 d) :
    x.name.length ≤ reachBytes ∧ x.props.length * 32 ≤ reachBytes ∧ ∀ p ∈ x.props, p.1.length ≤ reachBytes ∧ p.2.length ≤ reachBytes := by
  obtain ⟨d0, d1, d2, rfl, h0, h1, h2⟩ := h
  have e : (DataW.agg [d0, d1, d2]).weights Tryd.prog 39 = DataW.weightsEach Tryd.prog [3, 9, 37] [d0, d1, d2] := by
    simp only [DataW.weights, Tryd.underlying39]
    rfl
  have h3 := wok_sl (t := 37) Tryd.underlying37 h2 fun n hn => hw n (by rw [e]; exact DataW.weights_mem_each (j := 2) rfl rfl n hn)
  rw [bytesPr] at h3
  refine ⟨wok_str (t := 9) h1 fun n hn => hw n ?_, h3.1, fun p hp => ?_⟩
  · rw [e]; exact DataW.weights_mem_each (j := 1) rfl rfl n hn
  · obtain ⟨y, hy, hwy⟩ := h3.2 p hp
    exact wok_pr hy hwy
theorem sz_nds {H : Type} {t : List Nd} {d : DataW H} (h : datSl datNd H t d) (hw : Wok 22 d) : Sz t := by
  have h1 := wok_sl (t := 22) Tryd.underlying22 h hw
  rw [bytesNd] at h1
  have h2 : ∀ x ∈ t, x.name.length ≤ reachBytes ∧ x.props.length * 32 ≤ reachBytes ∧ ∀ p ∈ x.props, p.1.length ≤ reachBytes ∧ p.2.length ≤ reachBytes := fun x hx => by
    obtain ⟨y, hy, hwy⟩ := h1.2 x hx
    exact wok_nd hy hwy
  exact ⟨h1.1, fun x hx => (h2 x hx).2.1, fun x hx => (h2 x hx).1, fun x hx p hp => by have := (h2 x hx).2.2 p hp; have e : reachBytes = 140737488351232 := rfl; omega⟩
theorem sz1_nds {H : Type} {t : List Nd} {d : DataW H} (h : datSl datNd H t d) (hw : Wok 22 d) : ∀ x ∈ t, ∀ p ∈ x.props, p.1.length ≤ 140737488351232 := fun x hx p hp => by
  obtain ⟨y, hy, hwy⟩ := (wok_sl (t := 22) Tryd.underlying22 h hw).2 x hx
  exact ((wok_nd hy hwy).2.2 p hp).1
theorem sz_tw {H : Type} {x : Tw} {d : DataW H} (h : datTw H x d) (hw : Wok 53 d) : Sz x.one ∧ Sz x.other ∧ x.more.length ≤ reachBytes := by
  obtain ⟨d0, d1, d2, d3, rfl, h0, h1, h2, h3⟩ := h
  have e : (DataW.agg [d0, d1, d2, d3]).weights Tryd.prog 53 = DataW.weightsEach Tryd.prog [22, 22, 3, 9] [d0, d1, d2, d3] := by
    simp only [DataW.weights, Tryd.underlying53]
    rfl
  refine ⟨sz_nds h0 fun n hn => hw n ?_, sz_nds h1 fun n hn => hw n ?_, wok_str (t := 9) h3 fun n hn => hw n ?_⟩
  · rw [e]; exact DataW.weights_mem_each (j := 0) rfl rfl n hn
  · rw [e]; exact DataW.weights_mem_each (j := 1) rfl rfl n hn
  · rw [e]; exact DataW.weights_mem_each (j := 3) rfl rfl n hn
/-- The weights of an argument. -/
theorem wok_arg {H : Type} {ts : List TypeId} {ds : List (DataW H)} (h : (DataW.weightsEach Tryd.prog ts ds).all (· ≤ reachBytes) = true) {j : Nat} {t : TypeId} {d : DataW H} (ht : ts[j]? = some t) (hd : ds[j]? = some d) : Wok t d := fun n hn => by
  have := List.all_eq_true.1 h _ (DataW.weights_mem_each ht hd n hn)
  simpa using this
end Go.Proofs.YtlkhajheecglgaaDoor

namespace Go.Proofs.YtlkhajheecglgaaDoor
open Go Wk
open Go.RowKit (Below)
attribute [local irreducible] Go.Calls

section
variable {P : Program} {n : Nat} {ds : List Deferred} {Q : Po} {F : Fr} {w : World} {ops rest : List Oper} {d : Nat} {ty t t' : TypeId} {pos : String} {aft : Array Edge}
theorem Wk.Wl.bneq {x y : Operand} {a b : Bool} [ht : Und P t .bool] (hx : ev n F x = .bool a) (hy : ev n F y = .bool b) (c : Wl P n ds Q ops rest (upd F d (.bool !(a == b))) w) : Wl P n ds Q ops (⟨some d, .binOp .neq t x y t', ty, pos, aft, none⟩ :: rest) F w := by
  refine Wl.val ?_ c
  have h : (Op.equalIn 10000 t (.bool a) (.bool b)).run P w = .ok (a == b) w := run_equalIn_bool' (P := P) w 9999 t a b ht.h
  have hb : (binOp .neq t (.bool a) (.bool b)).run P w = .ok (.bool !(a == b)) w := by
    simp only [binOp]
    simp [Op.equal, Op.maxDepth, h]
  simp only [execOp, hx, hy, Sem.run_bind, run_eqGuard_bool, Result.andThen_ok, hb, Sem.run_pure]
end
theorem Sz.txok {t : List Nd} (h : Sz t) : ∀ x ∈ t, TxOk x.props := fun x hx p hp => by
  have := (h.tx x hx p hp).1
  simp only [maxLen]; omega
theorem lookM_some {s : List UInt8} {l : List Nd} {hd : List Nat} (h : readM s = some (l, hd)) : lookM s = (hd, 0) := by unfold lookM; rw [h]
theorem look_full {l : List Nd} (h : treeOk l = true) : lookM (encL l) = (headL l, 0) := lookM_some (readM_full h)
set_option maxRecDepth 4000 in
set_option maxHeartbeats 4000000 in
theorem back_law {Pt : Nat → Prop} {w : World} {x : Tw} {v0 v1 : Value} (h0 : RdS rNd 3 Pt w v0 x.one) (h1 : RdS rNd 3 Pt w v1 x.other) (z0 : Sz x.one) (z1 : Sz x.other) (zm : x.more.length ≤ 140737488351232) :
    Calls Tryd.prog 6 #[.agg #[v0, v1, vi x.cut, vs x.more]] w (Ret fun r w' => r = .bool true ∧ New w w') := by
  obtain ⟨a0, c0, rfl, ha0, hc0⟩ := h0.form
  obtain ⟨a1, c1, rfl, ha1, hc1⟩ := h1.form
  obtain ⟨l, m, cut, more⟩ := x
  dsimp only at *
  refine calls_of_Wc Tryd.func6 rfl Tryd.ntmps6 rfl ?_
  (repeat' (first | refine Wc.seq ?_ | refine Wc.region ?_))
  refine Wl.box rfl fun w1 b1 n1 s1 => ?_
  replace b1 : Bk w1 w.heap.size 53 [.slice a0 l.length c0, .slice a1 m.length c1, vi cut, vs more] := b1
  (repeat' (first | refine Wl.assignE (by conv => { lhs; whnf }) ?_ | refine Wl.nil ?_ | refine Qseq.normal ?_ | refine Wc.seq ?_ | refine Wc.region ?_ | refine Wl.fieldAddr rfl rfl ?_))
  refine Wl.load1 rfl (b1.cell (o := 0) rfl) ?_
  (repeat' (first | refine Wl.assignE (by conv => { lhs; whnf }) ?_ | refine Wl.nil ?_ | refine Qseq.normal ?_ | refine Wc.seq ?_ | refine Wc.region ?_ | refine Wl.fieldAddr rfl rfl ?_))
  refine Wl.load1 rfl (b1.cell (o := 1) rfl) ?_
  (repeat' (first | refine Wl.moveE (by conv => { lhs; whnf }) ?_ | refine Wl.assignE (by conv => { lhs; whnf }) ?_ | refine Wl.nil ?_ | refine Qseq.normal ?_ | refine Wc.seq ?_ | refine Wc.region ?_))
  refine Wl.call (lent_spec (h0.keep stableNd n1.keep) z0) rfl ?_
  rintro _ w2 ⟨lab2, a2, cap2, pv2, rfl, t2, n2⟩
  have n02 := New.trans n1 n2
  refine Wl.call (Encode_spec t2.own.rd z0.txok) rfl ?_
  rintro _ w3 ⟨rfl, n3⟩
  have n03 := New.trans n02 n3
  (repeat' (first | refine Wl.moveE (by conv => { lhs; whnf }) ?_ | refine Wl.assignE (by conv => { lhs; whnf }) ?_ | refine Wl.nil ?_ | refine Wl.extract rfl rfl ?_ | refine Qseq.normal ?_ | refine Wc.seq ?_ | refine Wc.region ?_))
  refine Wl.call (lent_spec (h1.keep stableNd n03.keep) z1) rfl ?_
  rintro _ w4 ⟨lab4, a4, cap4, pv4, rfl, t4, n4⟩
  have n04 := New.trans n03 n4
  refine Wl.call (Encode_spec t4.own.rd z1.txok) rfl ?_
  rintro _ w5 ⟨rfl, n5⟩
  have n05 := New.trans n04 n5
  cases hok : treeOk l with
  | false =>
    rw [if_neg (by simp), if_neg (by simp)]
    (repeat' (first | refine Wl.moveE (by conv => { lhs; whnf }) ?_ | refine Wl.assignE (by conv => { lhs; whnf }) ?_ | refine Wl.nil ?_ | refine Wl.extract rfl rfl ?_ | refine Wl.guardY rfl rfl ?_ | refine Qseq.normal ?_ | refine Wc.seq ?_ | refine Wc.region ?_ | refine Wc.condT rfl ?_ | (refine Wl.neq rfl rfl (fun _ => ?_) (fun _ => ?_) <;> (first | (exfalso; omega) | skip)) | (refine Wl.seql rfl rfl (fun _ => ?_) (fun _ => ?_) <;> (first | (exfalso; contradiction) | skip))))
    refine Wl.call awake_spec rfl ?_
    rintro _ w6 ⟨rfl, n6⟩
    (repeat' (first | refine Wl.assignE (by conv => { lhs; whnf }) ?_ | refine Wl.nil ?_ | refine Wl.pickTE rfl (by conv => { lhs; whnf }) ?_ | refine Qseq.normal ?_ | refine Wc.ret ?_ | refine Qseq.ret ?_))
    exact Qfn.ret1 rfl rfl ⟨_, rfl, rfl, New.trans n05 n6⟩
  | true =>
  rw [if_pos rfl, if_pos rfl]
  obtain ⟨B, fv, hB, hf, hBf⟩ : ∃ (B : List UInt8) (fv : Int), (if treeOk m = true then encL m else []) = B ∧ (if treeOk m = true then (0 : Int) else 40) = fv ∧ (fv = 40 ∨ (fv = 0 ∧ B = encL m ∧ treeOk m = true)) := by
    cases hm : treeOk m with
    | false => exact ⟨_, _, rfl, rfl, .inl rfl⟩
    | true => exact ⟨_, _, rfl, rfl, .inr ⟨rfl, rfl, rfl⟩⟩
  rw [hB, hf]
  clear hB hf
  have hA1 := encL_length l
  have hA2 := enc_lt hok
  have hA3 := dec_full hok
  have hA4 : lookM (encL l) = ([(encL l).length, (structL l).length, (stringsL l).length, l.length], 0) := look_full hok
  have hA5 := struct_mod hok
  have hA6 : ∀ n, n < (encL l).length → decM ((encL l).take n) = ([], 4) := fun n hn => decM_cut hok hn
  have hA7 : more ≠ [] → decM (encL l ++ more) = ([], 4) := fun hm => decM_more hok hm
  have hA8 : treeOk m = true → (encL l = encL m ↔ l = m) := fun hm => enc_inj hok hm
  generalize encL l = A at *
  generalize (structL l).length = sn at *
  generalize (stringsL l).length = tn at *
  (repeat' (first | refine Wl.moveE (by conv => { lhs; whnf }) ?_ | refine Wl.assignE (by conv => { lhs; whnf }) ?_ | refine Wl.nil ?_ | refine Wl.extract rfl rfl ?_ | refine Qseq.normal ?_ | refine Wc.seq ?_ | refine Wc.region ?_ | refine Wc.skip ?_ | refine Wc.condF rfl ?_ | (refine Wl.neq rfl rfl (fun _ => ?_) (fun _ => ?_) <;> (first | (exfalso; omega) | skip))))
  refine Wl.call (Decode_spec (s := A) (by omega)) rfl ?_
  rintro _ w6 ⟨nv, lab6, pv6, rfl, t6, n6⟩
  have n06 := New.trans n05 n6
  rw [hA3] at t6 ⊢
  have r6 := t6.rd
  obtain ⟨na, nc, rfl, hna, hnc⟩ := r6.form
  (repeat' (first | refine Wl.moveE (by conv => { lhs; whnf }) ?_ | refine Wl.assignE (by conv => { lhs; whnf }) ?_ | refine Wl.nil ?_ | refine Wl.extract rfl rfl ?_ | refine Qseq.normal ?_ | refine Wc.seq ?_ | refine Wc.region ?_))
  refine Wl.call (Look_spec (s := A) (by omega)) rfl ?_
  rintro _ w7 ⟨rfl, n7⟩
  have n07 := New.trans n06 n7
  rw [hA4]
  (repeat' (first | refine Wl.moveE (by conv => { lhs; whnf }) ?_ | refine Wl.extract rfl rfl ?_))
  refine Wl.alloc fun w8 b8 n8 s8 => ?_
  skip
  refine Wl.storeB (new := [vi A.length, vi sn, vi tn, vi l.length]) b8 rfl rfl rfl rfl (show (4 : Nat) ≤ 4 from Nat.le_refl 4) (by intro c hc; simp at hc; rcases hc with rfl | rfl | rfl | rfl <;> rfl) fun w9 b9 c9 s9 => ?_
  replace b9 : Bk w9 w7.heap.size 44 [vi A.length, vi sn, vi tn, vi l.length] := b9
  have n79 : New w7 w9 := Chg.trans n8 c9 fun k hk e => by omega
  have n09 := New.trans n07 n79
  clear b8 c9
  (repeat' (first | refine Wl.moveE (by conv => { lhs; whnf }) ?_ | refine Wl.assignE (by conv => { lhs; whnf }) ?_ | refine Wl.nil ?_ | refine Wl.guardY rfl rfl ?_ | refine Wl.pickFE rfl (by conv => { lhs; whnf }) ?_ | refine Qseq.normal ?_ | refine Wc.seq ?_ | refine Wc.region ?_ | (refine Wl.neq rfl rfl (fun _ => ?_) (fun _ => ?_) <;> (first | (exfalso; omega) | skip))))
  refine Wl.call (alike_spec (r6.keep stableNd (New.trans n7 n79).keep) (h0.keep stableNd n09.keep)) rfl ?_
  rintro _ w10 ⟨q, rfl, hq, n10⟩
  obtain rfl : q = true := hq.2 rfl
  have n010 := New.trans n09 n10
  have b10 := b9.keep n10.keep (Pb := fun _ => True) trivial
  have b110 := b1.keep (New.trans (New.trans (New.trans (New.trans (New.trans (New.trans (New.trans n2 n3) n4) n5) n6) n7) n79) n10).keep (Pb := fun _ => True) trivial
  clear b9
  (repeat' (first | refine Wl.moveE (by conv => { lhs; whnf }) ?_ | refine Wl.guardY rfl rfl ?_ | refine Wl.pickFE rfl (by conv => { lhs; whnf }) ?_ | refine Wl.notB rfl ?_ | refine Wl.fieldAddr rfl rfl ?_))
  refine Wl.load1 rfl (b10.cell (o := 0) rfl) ?_
  (repeat' (first | refine Wl.moveE (by conv => { lhs; whnf }) ?_ | refine Wl.guardY rfl rfl ?_ | refine Wl.pickFE rfl (by conv => { lhs; whnf }) ?_ | refine Wl.lenStr rfl ?_ | refine Wl.fieldAddr rfl rfl ?_ | (refine Wl.neq rfl rfl (fun _ => ?_) (fun _ => ?_) <;> (first | (exfalso; omega) | skip))))
  refine Wl.load1 rfl (b10.cell (o := 0) rfl) ?_
  (repeat' (first | refine Wl.guardY rfl rfl ?_ | refine Wl.fieldAddr rfl rfl ?_))
  refine Wl.load1 rfl (b10.cell (o := 1) rfl) ?_
  (repeat' (first | refine Wl.guardY rfl rfl ?_ | refine Wl.fieldAddr rfl rfl ?_ | refine Wl.add rfl rfl (by omega) (by omega) ?_))
  refine Wl.load1 rfl (b10.cell (o := 2) rfl) ?_
  (repeat' (first | refine Wl.moveE (by conv => { lhs; whnf }) ?_ | refine Wl.guardY rfl rfl ?_ | refine Wl.pickFE rfl (by conv => { lhs; whnf }) ?_ | refine Wl.fieldAddr rfl rfl ?_ | refine Wl.add rfl rfl (by omega) (by omega) ?_ | (refine Wl.neq rfl rfl (fun _ => ?_) (fun _ => ?_) <;> (first | (exfalso; omega) | skip))))
  refine Wl.load1 rfl (b10.cell (o := 3) rfl) ?_
  (repeat' (first | refine Wl.moveE (by conv => { lhs; whnf }) ?_ | refine Wl.guardY rfl rfl ?_ | refine Wl.pickFE rfl (by conv => { lhs; whnf }) ?_ | refine Wl.lenS rfl ?_ | refine Wl.fieldAddr rfl rfl ?_ | (refine Wl.neq rfl rfl (fun _ => ?_) (fun _ => ?_) <;> (first | (exfalso; omega) | skip))))
  refine Wl.load1 rfl (b10.cell (o := 1) rfl) ?_
  (repeat' (refine Wl.guardY rfl rfl ?_))
  refine Wl.remW rfl rfl (by omega) ?_
  rw [show (sn : Int).tmod 4 = 0 by show ((sn % 4 : Nat) : Int) = 0; omega]
  clear b10
  (repeat' (first | refine Wl.moveE (by conv => { lhs; whnf }) ?_ | refine Wl.nil ?_ | refine Wl.guardY rfl rfl ?_ | refine Wl.guardN rfl rfl ?_ | refine Wl.pickFE rfl (by conv => { lhs; whnf }) ?_ | refine Qseq.normal ?_ | refine Wc.seq ?_ | refine Wc.region ?_ | refine Wc.skip ?_ | refine Wc.condF rfl ?_ | refine Wl.fieldAddr rfl rfl ?_ | refine Wl.eql rfl rfl (fun _ => ?_) (fun _ => ?_) | (refine Wl.neq rfl rfl (fun _ => ?_) (fun _ => ?_) <;> (first | (exfalso; omega) | skip)) | refine Wl.seql rfl rfl (fun _ => ?_) (fun _ => ?_)))
  all_goals first
    | (rcases hBf with hBf | ⟨_, hBe, hmo⟩
       · omega
       have hAB := hA8 hmo
       rw [← hBe] at hAB
       refine Wl.call (alike_spec (h0.keep stableNd n010.keep) (h1.keep stableNd n010.keep)) rfl ?_
       rintro _ w11 ⟨q, rfl, hq2, n11⟩
       obtain rfl : q = true := hq2.2 (hAB.1 (by assumption))
       (try refine Wl.guardY rfl rfl ?_)
       refine Wl.bneq rfl rfl ?_
       rw [show (!(true == true)) = false from rfl]
       have n011 := New.trans n010 n11
       have b11 := b110.keep n11.keep (Pb := fun _ => True) trivial
       clear b110 hAB hA8 hq2 hBe hmo
       (repeat' (first | refine Wl.nil ?_ | refine Wl.pickTE rfl (by conv => { lhs; whnf }) ?_ | refine Qseq.normal ?_ | refine Wc.seq ?_ | refine Wc.region ?_ | refine Wc.skip ?_ | refine Wc.condF rfl ?_ | refine Wl.fieldAddr rfl rfl ?_)))
    | (rcases hBf with hBf | ⟨_, hBe, hmo⟩
       · omega
       have hAB := hA8 hmo
       rw [← hBe] at hAB
       refine Wl.call (alike_spec (h0.keep stableNd n010.keep) (h1.keep stableNd n010.keep)) rfl ?_
       rintro _ w11 ⟨q, rfl, hq2, n11⟩
       have hqf : q = false := by
         cases q with
         | false => rfl
         | true => exact absurd (hAB.2 (hq2.1 rfl)) (by assumption)
       subst hqf
       (try refine Wl.guardY rfl rfl ?_)
       refine Wl.bneq rfl rfl ?_
       rw [show (!(false == false)) = false from rfl]
       have n011 := New.trans n010 n11
       have b11 := b110.keep n11.keep (Pb := fun _ => True) trivial
       clear b110 hAB hA8 hq2 hBe hmo
       (repeat' (first | refine Wl.nil ?_ | refine Wl.pickTE rfl (by conv => { lhs; whnf }) ?_ | refine Qseq.normal ?_ | refine Wc.seq ?_ | refine Wc.region ?_ | refine Wc.skip ?_ | refine Wc.condF rfl ?_ | refine Wl.fieldAddr rfl rfl ?_)))
    | (have n011 := n010
       have b11 := b110
       clear b110 hA8)
  all_goals
    obtain ⟨n, hn, hnl, hm1, hm2⟩ := mod_range (a := cut) (L := A.length) (by omega)
    refine Wl.load1 rfl (b11.cell (o := 2) rfl) ?_
    (repeat' (first | refine Wl.moveE (by conv => { lhs; whnf }) ?_ | refine Wl.lenStr rfl ?_))
    refine Wl.remW rfl rfl (by omega) ?_
    (repeat' (first | refine Wl.moveE (by conv => { lhs; whnf }) ?_ | refine Wl.lenStr rfl ?_ | refine Wl.add rfl rfl (by omega) (by omega) ?_))
    refine Wl.remW rfl rfl (by omega) ?_
    rw [hn]
    (repeat' (first | refine Wl.moveE (by conv => { lhs; whnf }) ?_ | refine Wl.assignE (by conv => { lhs; whnf }) ?_ | refine Wl.nil ?_ | refine Qseq.normal ?_ | refine Wc.seq ?_ | refine Wc.region ?_))
    refine Wl.strTo rfl rfl (by omega) (by omega) ?_
    rw [Int.toNat_natCast]
    refine Wl.call (Decode_spec (s := A.take n) (by rw [List.length_take]; omega)) rfl ?_
    rintro _ w12 ⟨nv12, lab12, pv12, rfl, t12, n12⟩
    rw [hA6 n hnl] at t12 ⊢
    obtain ⟨ea, ec, rfl, _, _⟩ := t12.rd.form
    have b12 := b11.keep n12.keep (Pb := fun _ => True) trivial
    (repeat' (first | refine Wl.moveE (by conv => { lhs; whnf }) ?_ | refine Wl.assignE (by conv => { lhs; whnf }) ?_ | refine Wl.nil ?_ | refine Wl.extract rfl rfl ?_ | refine Qseq.normal ?_ | refine Wc.seq ?_ | refine Wc.region ?_ | refine Wl.fieldAddr rfl rfl ?_))
    refine Wl.load1 rfl (b12.cell (o := 3) rfl) ?_
    refine Wl.sadd rfl rfl (by omega) ?_
    refine Wl.call (Decode_spec (s := A ++ more) (by rw [List.length_append]; omega)) rfl ?_
    rintro _ w13 ⟨nv13, lab13, pv13, rfl, t13, n13⟩
    have b13 := b12.keep n13.keep (Pb := fun _ => True) trivial
    have n013 := New.trans (New.trans n011 n12) n13
    obtain ⟨fa, fc, rfl, _, _⟩ := t13.rd.form
    clear t13 t12
    by_cases hmo : more = []
    · subst hmo
      rw [List.append_nil, hA3]
      (repeat' (first | refine Wl.moveE (by conv => { lhs; whnf }) ?_ | refine Wl.assignE (by conv => { lhs; whnf }) ?_ | refine Wl.nil ?_ | refine Wl.extract rfl rfl ?_ | refine Wl.guardY rfl rfl ?_ | refine Qseq.normal ?_ | refine Wc.seq ?_ | refine Wc.region ?_ | refine Wl.fieldAddr rfl rfl ?_ | (refine Wl.eql rfl rfl (fun _ => ?_) (fun _ => ?_) <;> (first | (exfalso; omega) | skip))))
      refine Wl.load1 rfl (b13.cell (o := 3) rfl) ?_
      (try refine Wl.guardY rfl rfl ?_)
      refine Wl.seqlSame (a := []) rfl rfl ?_
      (try refine Wl.guardY rfl rfl ?_)
      refine Wl.beql rfl rfl ?_
      rw [show (true == true) = true from rfl]
      (repeat' (first | refine Wl.moveE (by conv => { lhs; whnf }) ?_ | refine Wl.guardY rfl rfl ?_ | refine Wl.pickTE rfl (by conv => { lhs; whnf }) ?_))
      refine Wl.call awake_spec rfl ?_
      rintro _ w14 ⟨rfl, n14⟩
      (repeat' (first | refine Wl.assignE (by conv => { lhs; whnf }) ?_ | refine Wl.nil ?_ | refine Wl.pickTE rfl (by conv => { lhs; whnf }) ?_ | refine Qseq.normal ?_ | refine Wc.ret ?_))
      exact Qfn.ret1 rfl rfl ⟨_, rfl, rfl, New.trans n013 n14⟩
    · rw [hA7 hmo]
      (repeat' (first | refine Wl.moveE (by conv => { lhs; whnf }) ?_ | refine Wl.assignE (by conv => { lhs; whnf }) ?_ | refine Wl.nil ?_ | refine Wl.extract rfl rfl ?_ | refine Wl.guardY rfl rfl ?_ | refine Qseq.normal ?_ | refine Wc.seq ?_ | refine Wc.region ?_ | refine Wl.fieldAddr rfl rfl ?_ | (refine Wl.eql rfl rfl (fun _ => ?_) (fun _ => ?_) <;> (first | (exfalso; omega) | skip))))
      refine Wl.load1 rfl (b13.cell (o := 3) rfl) ?_
      (repeat' (first | refine Wl.guardY rfl rfl ?_ | (refine Wl.seql rfl rfl (fun _ => ?_) (fun _ => ?_) <;> (first | (exfalso; contradiction) | skip))))
      refine Wl.beql rfl rfl ?_
      rw [show (false == false) = true from rfl]
      (repeat' (first | refine Wl.moveE (by conv => { lhs; whnf }) ?_ | refine Wl.guardY rfl rfl ?_ | refine Wl.pickTE rfl (by conv => { lhs; whnf }) ?_))
      refine Wl.call awake_spec rfl ?_
      rintro _ w14 ⟨rfl, n14⟩
      (repeat' (first | refine Wl.assignE (by conv => { lhs; whnf }) ?_ | refine Wl.nil ?_ | refine Wl.pickTE rfl (by conv => { lhs; whnf }) ?_ | refine Qseq.normal ?_ | refine Wc.ret ?_))
      exact Qfn.ret1 rfl rfl ⟨_, rfl, rfl, New.trans n013 n14⟩
end Go.Proofs.YtlkhajheecglgaaDoor

namespace Go.Proofs.YtlkhajheecglgaaDoor
open Go Wk
open Go.RowKit (Below)
attribute [local irreducible] Go.Calls

/-- A prop, a node under other names. -/
def ren (p : Pr) : Pr := (112 :: p.1, p.2)
def renN (x : Nd) : Nd := { x with props := x.props.map ren }
def LA (t : List Nd) (i : Nat) : List Nd := (t.take i).map renN ++ t.drop i
def psB (x : Nd) (k : Nat) : List Pr := (x.props.take k).map ren ++ x.props.drop k
def ndB (x : Nd) (k : Nat) : Nd := { x with props := psB x k }
def LB (t : List Nd) (i : Nat) (x : Nd) (k : Nat) : List Nd := (LA t i).set i (ndB x k)
section
variable {t : List Nd} {i k : Nat} {x : Nd} {q : Pr}
theorem mix_at {α : Type} {f : α → α} {l : List α} {i : Nat} {x : α} (hx : l[i]? = some x) : ((l.take i).map f ++ l.drop i)[i]? = some x := by
  have hi := (List.getElem?_eq_some_iff.1 hx).1
  have hl : ((l.take i).map f).length = i := by rw [List.length_map, List.length_take]; omega
  rw [List.getElem?_append_right (by omega), hl, List.getElem?_drop, Nat.sub_self, Nat.add_zero, hx]
theorem mix_set {α : Type} {f : α → α} {l : List α} {i : Nat} {x : α} (hx : l[i]? = some x) : ((l.take i).map f ++ l.drop i).set i (f x) = (l.take (i + 1)).map f ++ l.drop (i + 1) := by
  have hi := (List.getElem?_eq_some_iff.1 hx).1
  have hl : ((l.take i).map f).length = i := by rw [List.length_map, List.length_take]; omega
  rw [List.set_append_right _ _ (by omega), hl, Nat.sub_self, List.drop_eq_getElem_cons hi, List.set_cons_zero, take_snoc hx, List.map_append, List.append_assoc]
  rfl
theorem mix_len {α : Type} {f : α → α} (l : List α) (i : Nat) : ((l.take i).map f ++ l.drop i).length = l.length := by
  rw [List.length_append, List.length_map, List.length_take, List.length_drop]; omega
theorem LA_len : (LA t i).length = t.length := mix_len t i
theorem LA_zero : LA t 0 = t := rfl
theorem LA_all : LA t t.length = t.map renN := by unfold LA; rw [List.take_length, List.drop_length, List.append_nil]
theorem LA_at (hx : t[i]? = some x) : (LA t i)[i]? = some x := mix_at hx
theorem psB_len : (psB x k).length = x.props.length := mix_len x.props k
theorem psB_at (hq : x.props[k]? = some q) : (psB x k)[k]? = some q := mix_at hq
theorem psB_set (hq : x.props[k]? = some q) : (psB x k).set k (ren q) = psB x (k + 1) := mix_set hq
theorem psB_zero : psB x 0 = x.props := rfl
theorem psB_all : psB x x.props.length = x.props.map ren := by unfold psB; rw [List.take_length, List.drop_length, List.append_nil]
theorem LB_len : (LB t i x k).length = t.length := by unfold LB; rw [List.length_set, LA_len]
theorem LB_at (hx : t[i]? = some x) : (LB t i x k)[i]? = some (ndB x k) := by
  unfold LB
  rw [List.getElem?_set, if_pos rfl, if_pos (by rw [LA_len]; exact (List.getElem?_eq_some_iff.1 hx).1)]
theorem LB_zero (hx : t[i]? = some x) : LB t i x 0 = LA t i := by
  unfold LB
  apply List.ext_getElem?
  intro j
  rw [List.getElem?_set]
  split
  · rename_i e
    subst e
    rw [if_pos (by rw [LA_len]; exact (List.getElem?_eq_some_iff.1 hx).1), LA_at hx]; rfl
  · rfl
theorem LB_set (hq : x.props[k]? = some q) : (LB t i x k).set i { ndB x k with props := (psB x k).set k (ren q) } = LB t i x (k + 1) := by
  unfold LB
  rw [List.set_set, psB_set hq]; rfl
theorem LB_all (hx : t[i]? = some x) : LB t i x x.props.length = LA t (i + 1) := by
  unfold LB
  have : ndB x x.props.length = renN x := by unfold ndB renN; rw [psB_all]
  rw [this]
  exact mix_set hx
end
set_option maxRecDepth 8000 in
set_option maxHeartbeats 8000000 in
theorem tells_law {Pt : Nat → Prop} {w : World} {v : Value} {t : List Nd} (h : RdS rNd 3 Pt w v t) (hz : Sz t) (hz1 : ∀ x ∈ t, ∀ p ∈ x.props, p.1.length ≤ 140737488351232) :
    Calls Tryd.prog 4 #[v] w (Ret fun r w' => r = .bool true ∧ New w w') := by
  replace h := h.mono monoNd (Pb' := fun b => b < w.heap.size) fun b hb _ => hb
  obtain ⟨ta, tc, rfl, htc1, htc2⟩ := h.form
  simp only [maxLen] at htc2
  have hzl := hz.len
  refine calls_of_Wc Tryd.func4 rfl Tryd.ntmps4 rfl ?_
  (repeat' (first | refine Wl.moveE (by conv => { lhs; whnf }) ?_ | refine Wl.assignE (by conv => { lhs; whnf }) ?_ | refine Wl.nil ?_ | refine Qseq.normal ?_ | refine Wc.seq ?_ | refine Wc.region ?_))
  refine Wl.call (lent_spec h hz) rfl ?_
  rintro _ w1 ⟨lab1, a1, cap1, pv1, rfl, m1, n1⟩
  have hlo1 := m1.low
  (repeat' (first | refine Wl.moveE (by conv => { lhs; whnf }) ?_ | refine Wl.assignE (by conv => { lhs; whnf }) ?_ | refine Wl.nil ?_ | refine Qseq.normal ?_ | refine Wc.seq ?_ | refine Wc.region ?_))
  refine Wl.call (Encode_spec m1.own.rd hz.txok) rfl ?_
  rintro _ w2 ⟨rfl, n2⟩
  have n02 := New.trans n1 n2
  (repeat' (first | refine Wl.moveE (by conv => { lhs; whnf }) ?_ | refine Wl.assignE (by conv => { lhs; whnf }) ?_ | refine Wl.nil ?_ | refine Wl.extract rfl rfl ?_ | refine Qseq.normal ?_ | refine Wc.seq ?_ | refine Wc.region ?_))
  refine Wl.call (EncodeR_spec (h.keep stableNd n02.keep) hz) rfl ?_
  rintro _ w3 ⟨rfl, n3⟩
  have n03 := New.trans n02 n3
  have m3 := m1.new (New.trans n2 n3)
  (repeat' (first | refine Wl.moveE (by conv => { lhs; whnf }) ?_ | refine Wl.assignE (by conv => { lhs; whnf }) ?_ | refine Wl.nil ?_ | refine Wl.extract rfl rfl ?_ | refine Qseq.normal ?_ | refine Wc.seq ?_ | refine Wc.region ?_))
  refine Wl.call (Strings_spec m3.own.rd hz.txok) rfl ?_
  rintro _ w4 ⟨xv, rfl, ox, n4⟩
  have n04 := New.trans n03 n4
  (repeat' (first | refine Wl.moveE (by conv => { lhs; whnf }) ?_ | refine Wl.assignE (by conv => { lhs; whnf }) ?_ | refine Wl.nil ?_ | refine Wl.extract rfl rfl ?_ | refine Qseq.normal ?_ | refine Wc.seq ?_ | refine Wc.region ?_))
  refine Wl.call (StringsR_spec (h.keep stableNd n04.keep) hz) rfl ?_
  rintro _ w5 ⟨yv, rfl, oy, n5⟩
  have n05 := New.trans n04 n5
  have m5 := m3.new (New.trans n4 n5)
  (repeat' (first | refine Wl.moveE (by conv => { lhs; whnf }) ?_ | refine Wl.assignE (by conv => { lhs; whnf }) ?_ | refine Wl.nil ?_ | refine Wl.extract rfl rfl ?_ | refine Qseq.normal ?_ | refine Wc.seq ?_ | refine Wc.region ?_))
  refine Wl.call (Strings_spec m5.own.rd hz.txok) rfl ?_
  rintro _ w6 ⟨zv, rfl, oz, n6⟩
  have n06 := New.trans n05 n6
  have m6 := m5.new n6
  have z1 := n1.size
  have z2 := n2.size
  have z3 := n3.size
  have z4 := n4.size
  have z5 := n5.size
  have z6 := n6.size
  have hnl : (if treeOk t then namesN [] t else []).length ≤ 524288 := by
    split
    · rename_i ht
      exact Nat.le_trans (len_size _) (names_size ht)
    · simp
  generalize (if treeOk t then namesN [] t else []) = NM at *
  generalize (if treeOk t = true then encL t else []) = E at *
  generalize (if treeOk t = true then (0 : Int) else 40) = e at *
  obtain ⟨xa, xc, rfl, _, _⟩ := ox.form
  obtain ⟨ya, yc, rfl, _, _⟩ := oy.form
  obtain ⟨za, zc, rfl, _, _⟩ := oz.form
  let Mx : Nat → Prop := fun b => (w3.heap.size ≤ b ∧ b < w4.heap.size) ∨ w6.heap.size ≤ b
  have oxM : OwnS (one vs) 9 1 Mx No8 w4 (.slice xa NM.length xc) NM := ox.reblk fun b hb e => .inl ⟨e, (ox.lt hb).2⟩
  have ry6 : ∀ {w' : World} {M : Nat → Prop}, Chg M w6 w' → (∀ b, M b → Mx b) → RdS (one vs) 1 (fun b => Up w4 b ∨ No8 b) w' (.slice ya NM.length yc) NM := fun {w' M} c hM => ((oy.new (plain_one _) n6).chg (plain_one _) c fun b e1 e2 => by
    have h1 := (oy.lt e1).1
    have h2 := (oy.lt e1).2
    have h3 : w4.heap.size ≤ b := h1
    rcases hM b e2 with h4 | h4 <;> omega).rd (mono_one _)
  have rz6 : ∀ {w' : World} {M : Nat → Prop}, Chg M w6 w' → (∀ b, M b → Mx b) → RdS (one vs) 1 (fun b => Up w5 b ∨ No8 b) w' (.slice za NM.length zc) NM := fun {w' M} c hM => (oz.chg (plain_one _) c fun b e1 e2 => by
    have h1 := (oz.lt e1).1
    have h2 := (oz.lt e1).2
    have h3 : w5.heap.size ≤ b := h1
    rcases hM b e2 with h4 | h4 <;> omega).rd (mono_one _)
  have hm6 : ∀ {w' : World} {M : Nat → Prop}, Chg M w6 w' → (∀ b, M b → Mx b) → TrL w.heap.size lab1 w' a1 cap1 t pv1 := fun {w' M} c hM => m6.chg c fun b hb e => by
    cases hq : lab1 b with
    | none => rfl
    | some q => have := (hlo1 b q hq).2; rcases hM b e with h4 | h4 <;> omega
  have ht6 : ∀ {w' : World} {M : Nat → Prop}, Chg M w6 w' → (∀ b, M b → Mx b) → New w w' := fun {w' M} c hM => Chg.trans n06 c fun b hb e => by rcases hM b e with h4 | h4 <;> omega
  have ox6 := (oxM.new (plain_one _) n5).new (plain_one _) n6
  clear ox oxM oy oz n1 n2 n3 n4 n5 n02 n03 n04 n05 m1 m3 m5
  (repeat' (first | refine Wl.moveE (by conv => { lhs; whnf }) ?_ | refine Wl.assignE (by conv => { lhs; whnf }) ?_ | refine Wl.nil ?_ | refine Wl.extract rfl rfl ?_ | refine Wl.guardY rfl rfl ?_ | refine Wl.pickFE rfl (by conv => { lhs; whnf }) ?_ | refine Qseq.normal ?_ | refine Wc.seq ?_ | refine Wc.region ?_ | (refine Wl.neq rfl rfl (fun _ => ?_) (fun _ => ?_) <;> (first | (exfalso; omega) | skip)) | (refine Wl.sneq rfl rfl (fun _ => ?_) (fun _ => ?_) <;> (first | (exfalso; contradiction) | skip))))
  refine Wl.call (texts_spec (ox6.rd (mono_one _)) (ry6 (Chg.refl (fun _ => False) _) fun _ e => e.elim)) rfl ?_
  rintro _ w7 ⟨rfl, n7⟩
  (repeat' (first | refine Wl.moveE (by conv => { lhs; whnf }) ?_ | refine Wl.guardY rfl rfl ?_ | refine Wl.pickFE rfl (by conv => { lhs; whnf }) ?_ | refine Wl.notB rfl ?_))
  refine Wl.call (kept_spec (hm6 n7 fun _ e => e.elim) (h.keep stableNd (ht6 n7 fun _ e => e.elim).keep) hz.short) rfl ?_
  rintro _ w8 ⟨rfl, n8⟩
  have n68 := New.trans n7 n8
  (repeat' (first | refine Wl.assignE (by conv => { lhs; whnf }) ?_ | refine Wl.nil ?_ | refine Wl.guardY rfl rfl ?_ | refine Wl.pickFE rfl (by conv => { lhs; whnf }) ?_ | refine Wl.notB rfl ?_ | refine Qseq.normal ?_ | refine Wc.seq ?_ | refine Wc.region ?_ | refine Wc.block ?_ | refine Wc.skip ?_ | refine Wc.condF rfl ?_))
  refine Wc.loop (σ := Nat × List Nm) (fun q => [(0, .slice ta t.length tc), (3, .slice a1 t.length cap1), (8, .slice xa NM.length xc), (10, .slice ya NM.length yc), (12, .slice za NM.length zc), (14, vi q.1)])
    (fun q w' => q.1 ≤ NM.length ∧ q.2.length = NM.length ∧ OwnS (one vs) 9 1 Mx No8 w' (.slice xa NM.length xc) q.2 ∧ Chg Mx w6 w') (fun q => NM.length - q.1) (0, NM) ⟨rfl, rfl, rfl, rfl, rfl, rfl, trivial⟩ ⟨Nat.zero_le _, rfl, ox6.new (plain_one _) n68, n68.any⟩ ?_
  have zz16 : w1.heap.size ≤ w6.heap.size := by omega
  clear n7 n8 n68 ox6 z2 z3 z4 z5
  rintro ⟨i, xs⟩ G w9 ⟨hi, hxs, o9, c9⟩
  dsimp only at hi hxs o9 c9
  simp only [upds]
  (repeat' (first | refine Wl.moveE (by conv => { lhs; whnf }) ?_ | refine Wl.assignE (by conv => { lhs; whnf }) ?_ | refine Wl.nil ?_ | refine Wl.lenS rfl ?_ | refine Qseq.normal ?_ | refine Wc.seq ?_ | refine Wc.region ?_ | refine Wc.block ?_ | refine Wc.skip ?_ | refine Wc.exit ?_ | refine Qseq.exit ?_ | refine Qblk.hit ?_ | refine Qloop.exit ?_ | refine Wc.condT rfl ?_ | refine Wc.condF rfl ?_ | refine Wl.lss rfl rfl (fun _ => ?_) (fun _ => ?_)))
  · refine Wl.idxStore (q := [126]) o9 rfl rfl (by omega) (by omega) rfl rfl rfl rfl rfl rfl fun p w10 o10 c10 => ?_
    (repeat' (first | refine Wl.moveE (by conv => { lhs; whnf }) ?_ | refine Wl.assignE (by conv => { lhs; whnf }) ?_ | refine Wl.nil ?_ | refine Qseq.normal ?_ | refine Wc.region ?_ | refine Qblk.normal ?_ | refine Wl.add rfl rfl (by omega) (by omega) ?_))
    exact Qloop.normal (i + 1, _) ⟨rfl, rfl, rfl, rfl, rfl, rfl, trivial⟩ ⟨by dsimp only; omega, by dsimp only; rw [List.length_set]; exact hxs, o10, Chg.trans c9 c10 fun b _ e => (o9.lt e).1⟩ (by dsimp only; omega)
  refine Wc.loop (σ := Nat × Value × List Nm) (fun q => [(0, .slice ta t.length tc), (3, .slice a1 t.length cap1), (8, q.2.1), (10, .slice ya NM.length yc), (12, .slice za NM.length zc), (15, vi q.1)])
    (fun q w' => q.1 ≤ 40 ∧ q.2.2.length = NM.length + q.1 ∧ OwnS (one vs) 9 1 Mx No8 w' q.2.1 q.2.2 ∧ Chg Mx w6 w') (fun q => 40 - q.1) (0, .slice xa NM.length xc, xs) ⟨rfl, rfl, rfl, rfl, rfl, rfl, trivial⟩ ⟨Nat.zero_le _, hxs, o9, c9⟩ ?_
  clear o9 c9 hxs hi
  rintro ⟨j, xv, xs⟩ G w9 ⟨hj, hxs, o9, c9⟩
  dsimp only at hj hxs o9 c9
  obtain ⟨xa, xc, rfl, _, _⟩ := o9.form
  have z9 := c9.size
  simp only [upds]
  (repeat' (first | refine Wl.moveE (by conv => { lhs; whnf }) ?_ | refine Wl.nil ?_ | refine Qseq.normal ?_ | refine Wc.seq ?_ | refine Wc.region ?_ | refine Wc.block ?_ | refine Wc.skip ?_ | refine Wc.exit ?_ | refine Qseq.exit ?_ | refine Qblk.hit ?_ | refine Qloop.exit ?_ | refine Wc.condT rfl ?_ | refine Wc.condF rfl ?_ | refine Wl.lss rfl rfl (fun _ => ?_) (fun _ => ?_)))
  · refine Wl.append1 (R := one vs) (y := [94]) goodVs o9 rfl rfl rfl rfl rfl (by omega) (by omega) (by simp only [maxLen]; omega) (by omega) rfl rfl fun v' w10 p o10 c10 lie => ?_
    (repeat' (first | refine Wl.moveE (by conv => { lhs; whnf }) ?_ | refine Wl.assignE (by conv => { lhs; whnf }) ?_ | refine Wl.nil ?_ | refine Qseq.normal ?_ | refine Wc.region ?_ | refine Qblk.normal ?_ | refine Wl.add rfl rfl (by omega) (by omega) ?_))
    exact Qloop.normal (j + 1, v', _) ⟨rfl, rfl, rfl, rfl, rfl, rfl, trivial⟩ ⟨by dsimp only; omega, by dsimp only; rw [List.length_append, hxs]; rfl, o10.reblk fun b _ e => (by rcases e with e | e; exact e; exact .inr (by omega)), Chg.trans c9 c10 fun b _ e => (o9.lt e).1⟩ (by dsimp only; omega)
  refine Wl.call (texts_spec (rz6 c9 fun _ e => e) (ry6 c9 fun _ e => e)) rfl ?_
  rintro _ w10 ⟨rfl, n10⟩
  have c10 : Chg Mx w6 w10 := Chg.trans c9 n10 fun b _ e => e.elim
  (repeat' (first | refine Wl.moveE (by conv => { lhs; whnf }) ?_ | refine Wl.guardY rfl rfl ?_ | refine Wl.notB rfl ?_))
  refine Wl.call (kept_spec (hm6 c10 fun _ e => e) (h.keep stableNd (ht6 c10 fun _ e => e).keep) hz.short) rfl ?_
  rintro _ w11 ⟨rfl, n11⟩
  have c11 : Chg Mx w6 w11 := Chg.trans c10 n11 fun b _ e => e.elim
  have m11 := hm6 c11 fun _ e => e
  have n011 := ht6 c11 fun _ e => e
  have z11 : w6.heap.size ≤ w11.heap.size := c11.size
  clear hm6 ht6 ry6 rz6 c10 c9 o9 n10 n11 m6 n06
  (repeat' (first | refine Wl.moveE (by conv => { lhs; whnf }) ?_ | refine Wl.nil ?_ | refine Wl.guardY rfl rfl ?_ | refine Wl.pickFE rfl (by conv => { lhs; whnf }) ?_ | refine Wl.notB rfl ?_ | refine Qseq.normal ?_ | refine Wc.seq ?_ | refine Wc.region ?_ | refine Wc.skip ?_ | refine Wc.condF rfl ?_))
  refine Wl.call (Twin_spec (h.keep stableNd n011.keep) hz) rfl ?_
  rintro tv w12 ⟨lab2, pv2, t12, n12⟩
  obtain ⟨a2, c2, rfl, _, _⟩ := t12.rd.form
  have hlo2 := t12.low
  have n012 := New.trans n011 n12
  have n012s : w.heap.size ≤ w11.heap.size := n011.size
  have m12 := m11.new n12
  clear m11 n011 c11
  (repeat' (first | refine Wl.assignE (by conv => { lhs; whnf }) ?_ | refine Wl.nil ?_ | refine Qseq.normal ?_ | refine Wc.seq ?_ | refine Wc.region ?_ | refine Wc.block ?_))
  refine Wc.loop (σ := Nat) (fun i => [(0, .slice ta t.length tc), (3, .slice a1 t.length cap1), (16, .slice a2 t.length c2), (17, vi i)])
    (fun i w' => i ≤ t.length ∧ TrL w.heap.size lab1 w' a1 cap1 (LA t i) pv1 ∧ TrOwn w11.heap.size lab2 w' (.slice a2 t.length c2) (LA t i) pv2 ∧ New w w') (fun i => t.length - i) 0 ⟨rfl, rfl, rfl, rfl, trivial⟩ ⟨Nat.zero_le _, m12, t12, n012⟩ ?_
  clear m12 t12 n012
  rintro i G w13 ⟨hi, m13, t13, n13⟩
  simp only [upds]
  (repeat' (first | refine Wl.moveE (by conv => { lhs; whnf }) ?_ | refine Wl.assignE (by conv => { lhs; whnf }) ?_ | refine Wl.nil ?_ | refine Wl.lenS rfl ?_ | refine Qseq.normal ?_ | refine Wc.seq ?_ | refine Wc.region ?_ | refine Wc.block ?_ | refine Wc.skip ?_ | refine Wc.exit ?_ | refine Qseq.exit ?_ | refine Qblk.hit ?_ | refine Qloop.exit ?_ | refine Wc.condT rfl ?_ | refine Wc.condF rfl ?_ | refine Wl.lss rfl rfl (fun _ => ?_) (fun _ => ?_)))
  · obtain ⟨x, hx⟩ := get_lt t (k := i) (by omega)
    have hxm := List.mem_of_getElem? hx
    have hpz := hz.pl x hxm
    have hi' : i < t.length := by omega
    obtain ⟨p1, hp1⟩ := get_lt pv1 (k := i) (by rw [m13.len, LA_len]; omega)
    obtain ⟨p2, hp2⟩ := get_lt pv2 (k := i) (by rw [t13.len, LA_len]; omega)
    rw [← LB_zero hx] at m13 t13
    refine Wc.loop (σ := Nat) (fun k => [(0, .slice ta t.length tc), (3, .slice a1 t.length cap1), (16, .slice a2 t.length c2), (17, vi i), (18, vi k)])
      (fun k w' => k ≤ x.props.length ∧ TrL w.heap.size lab1 w' a1 cap1 (LB t i x k) pv1 ∧ TrOwn w11.heap.size lab2 w' (.slice a2 t.length c2) (LB t i x k) pv2 ∧ New w w') (fun k => x.props.length - k) 0 ⟨rfl, rfl, rfl, rfl, rfl, trivial⟩ ⟨Nat.zero_le _, m13, t13, n13⟩ ?_
    clear m13 t13 n13
    rintro k G w14 ⟨hk, m14, t14, n14⟩
    have h14 := h.keep stableNd n14.keep
    simp only [upds]
    (repeat' (first | refine Wl.moveE (by conv => { lhs; whnf }) ?_ | refine Wc.seq ?_ | refine Wc.region ?_))
    refine Wl.idxAddr h14 rfl rfl (by omega) hx fun b o cs hcl hR hat => ?_
    obtain ⟨xv, rfl, hpr⟩ := hR
    obtain ⟨xa, xc, rfl, _, hpm⟩ := hpr.form
    (repeat' (refine Wl.fieldAddr rfl rfl ?_))
    refine Wl.load1 rfl (hat.get 2 rfl) ?_
    clear hat
    (repeat' (first | refine Wl.moveE (by conv => { lhs; whnf }) ?_ | refine Wl.assignE (by conv => { lhs; whnf }) ?_ | refine Wl.nil ?_ | refine Wl.lenS rfl ?_ | refine Qseq.normal ?_ | refine Wc.seq ?_ | refine Wc.region ?_ | refine Wc.block ?_ | refine Wc.skip ?_ | refine Wc.exit ?_ | refine Qseq.exit ?_ | refine Qblk.normal ?_ | refine Qblk.hit ?_ | refine Qloop.exit ?_ | refine Wc.condT rfl ?_ | refine Wc.condF rfl ?_ | refine Wl.add rfl rfl (by omega) (by omega) ?_ | refine Wl.lss rfl rfl (fun _ => ?_) (fun _ => ?_)))
    · obtain ⟨q, hq⟩ := get_lt x.props (k := k) (by omega)
      have hql := hz1 x hxm q (List.mem_of_getElem? hq)
      have hlen : (ndB x k).props.length = x.props.length := psB_len
      have hne : (ndB x k).props ≠ [] := fun e => by rw [e] at hlen; simp at hlen; omega
      have ow := t14.pr i (ndB x k) p2 (LB_at hx) hp2
      obtain ⟨pa, pl, pc⟩ := p2
      obtain ⟨ra, rc, re, _, _⟩ := ow.form
      simp only [slV, Value.slice.injEq] at re
      obtain ⟨rfl, rfl, rfl⟩ := re
      simp only [slV] at ow
      obtain ⟨g, gc, ge, hgl, hgs, hgo⟩ := ow.blk hne
      simp only [Value.slice.injEq] at ge
      obtain ⟨rfl, _, rfl⟩ := ge
      have hz2 : ((LB t i x k).zip pv2)[i]? = some (ndB x k, (some ⟨g, 0, none⟩, (ndB x k).props.length, pc)) := List.getElem?_zip_eq_some.2 ⟨LB_at hx, hp2⟩
      refine Wc.regionT rfl (by kernel_rfl) (New w14) (Chg.drew _ _) ?_
      intro w15 n15
      (repeat' (refine Wt.quiet rfl (Wq.moveE (by conv => { lhs; whnf }) (Wq.nil ?_))))
      refine Wt.quiet rfl (Wq.idxAddr (t14.arr.rd (mono_flat ndV)) (fun w' hw => New.keep hw) rfl rfl (by omega) (by rw [Int.toNat_natCast]; exact hz2) fun b o cs hcl hR hat => Wq.nil ?_)
      obtain rfl : cs = ndV (ndB x k, _) := hR
      (repeat' (refine Wt.quiet rfl (Wq.fieldAddr rfl rfl (Wq.nil ?_))))
      refine Wt.quiet rfl (Wq.load1 (u := .slice (some ⟨g, 0, none⟩) (ndB x k).props.length pc) rfl (fun w' hw => (hat w' hw).get 2 rfl) (Wq.nil ?_))
      clear hat
      (repeat' (refine Wt.quiet rfl (Wq.moveE (by conv => { lhs; whnf }) (Wq.nil ?_))))
      refine Wt.quiet rfl (Wq.idxAddr h14 (fun w' hw => New.keep hw) rfl rfl (by omega) hx fun b o cs hcl hR hat => Wq.nil ?_)
      obtain ⟨xv, rfl, hpr⟩ := hR
      obtain ⟨xa, xc, rfl, _, _⟩ := hpr.form
      (repeat' (refine Wt.quiet rfl (Wq.fieldAddr rfl rfl (Wq.nil ?_))))
      refine Wt.quiet rfl (Wq.load1 rfl (fun w' hw => (hat w' hw).get 2 rfl) (Wq.nil ?_))
      clear hat
      (repeat' (refine Wt.quiet rfl (Wq.moveE (by conv => { lhs; whnf }) (Wq.nil ?_))))
      refine Wt.quiet rfl (Wq.idxAddr hpr (fun w' hw => New.keep hw) rfl rfl (by omega) hq fun b o cs hcl hR hat => Wq.nil ?_)
      obtain rfl : cs = pC q := hR
      (repeat' (refine Wt.quiet rfl (Wq.fieldAddr rfl rfl (Wq.nil ?_))))
      refine Wt.quiet rfl (Wq.load1 rfl (fun w' hw => (hat w' hw).get 0 rfl) (Wq.nil ?_))
      clear hat
      refine Wt.quiet rfl (Wq.sadd (a := [112]) rfl rfl (by simp only [List.length_singleton]; omega) (Wq.nil ?_))
      refine Wt.quiet rfl (Wq.idxP rfl rfl (by omega) (by omega) (Wq.nil ?_))
      (repeat' (refine Wt.quiet rfl (Wq.fieldAddr rfl rfl (Wq.nil ?_))))
      refine Wt.last rfl (Wl.storeOwnF (f := pC) (g := g) (j := k) (o := 0) (cap := pc) (p := q) (q := ren q) (u := vs (112 :: q.1)) (fun _ => rfl) (by omega) rfl (psB_at hq) rfl (ow.new plainPr n15) rfl (by show Value.pointer (some ⟨g, 0 + (k : Int).toNat * 2 + 0, none⟩) = _; simp) rfl fun w16 o16 c16 => ?_)
      have t16 : TrOwn w11.heap.size lab2 w16 (.slice a2 t.length c2) (LB t i x (k + 1)) pv2 := by
        rw [← LB_set hq]
        exact (t14.new n15).putProps (LB_at hx) hp2 (c16.mono fun b _ e => (ow.lt e).1) o16
      have m16 := (m14.new n15).chg c16 fun b hb e => by
        cases hq1 : lab1 b with
        | none => rfl
        | some r => have h1 := (hlo1 b r hq1).2; have h2 := (t14.low b _ (ow.lt e).1).1; omega
      have n16 : New w w16 := Chg.trans (New.trans n14 n15) c16 fun b hb e => by have h2 := (t14.low b _ (ow.lt e).1).1; have := n012s; omega
      clear t14 m14 n14 h14 ow o16 c16 hz2 n15
      (repeat' (first | refine Wl.nil ?_ | refine Qseq.normal ?_))
      have h16 := h.keep stableNd n16.keep
      have mo := m16.own
      rw [LB_len] at mo
      obtain ⟨qa, qc, rfl, o1⟩ := m16.pr i (ndB x k) p1 (LB_at hx) hp1
      obtain ⟨g1, gc1, ge1, hgl1, hgs1, hgo1⟩ := o1.blk (by simp)
      rw [List.length_append, List.length_singleton] at ge1
      simp only [Value.slice.injEq] at ge1
      obtain ⟨rfl, _, rfl⟩ := ge1
      have hz3 : ((LB t i x k).zip pv1)[i]? = some (ndB x k, (some ⟨g1, 0, none⟩, (ndB x k).props.length, qc)) := List.getElem?_zip_eq_some.2 ⟨LB_at hx, hp1⟩
      have hpk : ((ndB x k).props ++ [mkP])[k]? = some q := by rw [List.getElem?_append_left (by omega)]; exact psB_at hq
      refine Wc.regionT rfl (by kernel_rfl) (New w16) (Chg.drew _ _) ?_
      intro w17 n17
      (repeat' (refine Wt.quiet rfl (Wq.moveE (by conv => { lhs; whnf }) (Wq.nil ?_))))
      refine Wt.quiet rfl (Wq.idxAddr (mo.arr.rd (mono_flat ndV)) (fun w' hw => New.keep hw) rfl rfl (by omega) (by rw [Int.toNat_natCast]; exact hz3) fun b o cs hcl hR hat => Wq.nil ?_)
      obtain rfl : cs = ndV (ndB x k, _) := hR
      (repeat' (refine Wt.quiet rfl (Wq.fieldAddr rfl rfl (Wq.nil ?_))))
      refine Wt.quiet rfl (Wq.load1 (u := .slice (some ⟨g1, 0, none⟩) (ndB x k).props.length qc) rfl (fun w' hw => (hat w' hw).get 2 rfl) (Wq.nil ?_))
      clear hat
      (repeat' (refine Wt.quiet rfl (Wq.moveE (by conv => { lhs; whnf }) (Wq.nil ?_))))
      refine Wt.quiet rfl (Wq.idxAddr h16 (fun w' hw => New.keep hw) rfl rfl (by omega) hx fun b o cs hcl hR hat => Wq.nil ?_)
      obtain ⟨xv, rfl, hpr⟩ := hR
      obtain ⟨xa, xc, rfl, _, _⟩ := hpr.form
      (repeat' (refine Wt.quiet rfl (Wq.fieldAddr rfl rfl (Wq.nil ?_))))
      refine Wt.quiet rfl (Wq.load1 rfl (fun w' hw => (hat w' hw).get 2 rfl) (Wq.nil ?_))
      clear hat
      (repeat' (refine Wt.quiet rfl (Wq.moveE (by conv => { lhs; whnf }) (Wq.nil ?_))))
      refine Wt.quiet rfl (Wq.idxAddr hpr (fun w' hw => New.keep hw) rfl rfl (by omega) hq fun b o cs hcl hR hat => Wq.nil ?_)
      obtain rfl : cs = pC q := hR
      (repeat' (refine Wt.quiet rfl (Wq.fieldAddr rfl rfl (Wq.nil ?_))))
      refine Wt.quiet rfl (Wq.load1 rfl (fun w' hw => (hat w' hw).get 0 rfl) (Wq.nil ?_))
      clear hat
      refine Wt.quiet rfl (Wq.sadd (a := [112]) rfl rfl (by simp only [List.length_singleton]; omega) (Wq.nil ?_))
      refine Wt.quiet rfl (Wq.idxP rfl rfl (by omega) (by omega) (Wq.nil ?_))
      (repeat' (refine Wt.quiet rfl (Wq.fieldAddr rfl rfl (Wq.nil ?_))))
      refine Wt.last rfl (Wl.storeOwnF (f := pC) (g := g1) (j := k) (o := 0) (cap := qc) (p := q) (q := ren q) (u := vs (112 :: q.1)) (fun _ => rfl) (by omega) rfl hpk rfl (o1.new plainPr n17) (by rw [List.length_append, List.length_singleton]) (by show Value.pointer (some ⟨g1, 0 + (k : Int).toNat * 2 + 0, none⟩) = _; simp) rfl fun w18 o18 c18 => ?_)
      rw [List.set_append_left _ _ (by omega)] at o18
      have m18 : TrL w.heap.size lab1 w18 a1 cap1 (LB t i x (k + 1)) pv1 := by
        rw [← LB_set hq]
        exact (m16.new n17).setProps (ps := (ndB x k).props.set k (ren q)) (LB_at hx) hp1 (c18.mono fun b _ e => (o1.lt e).1) ⟨_, _, by rw [List.length_set], by rw [List.length_set]; exact o18⟩
      have t18 := (t16.new n17).chg c18 fun b hb e => by
        cases hq1 : lab2 b with
        | none => rfl
        | some r => have h1 := (hlo2 b r hq1).1; have h2 := (hlo1 b _ (o1.lt e).1).2; omega
      have n18 : New w w18 := Chg.trans (New.trans n16 n17) c18 fun b hb e => by have h2 := (hlo1 b _ (o1.lt e).1).1; omega
      (repeat' (first | refine Wl.moveE (by conv => { lhs; whnf }) ?_ | refine Wl.assignE (by conv => { lhs; whnf }) ?_ | refine Wl.nil ?_ | refine Qseq.normal ?_ | refine Wc.region ?_ | refine Qblk.normal ?_ | refine Wl.add rfl rfl (by omega) (by omega) ?_))
      exact Qloop.normal (k + 1) ⟨rfl, rfl, rfl, rfl, rfl, trivial⟩ ⟨by omega, m18, t18, n18⟩ (by omega)
    · have e : k = x.props.length := by omega
      subst e
      rw [LB_all hx] at m14 t14
      exact Qloop.normal (i + 1) ⟨rfl, rfl, rfl, rfl, trivial⟩ ⟨by omega, m14, t14, n14⟩ (by omega)
  · have e : i = t.length := by omega
    subst e
    rw [LA_all] at m13 t13
    have mo := m13.own
    have hml : (t.map renN).length = t.length := List.length_map _
    rw [hml] at mo
    have hzT : Sz (t.map renN) := by
      refine ⟨by rw [hml]; exact hz.len, fun y hy => ?_, fun y hy => ?_, fun y hy p hp => ?_⟩
      all_goals obtain ⟨x, hx, rfl⟩ := List.mem_map.1 hy
      · show (x.props.map ren).length * 32 ≤ _
        rw [List.length_map]; exact hz.pl x hx
      · exact hz.nm x hx
      · obtain ⟨q, hq, rfl⟩ := List.mem_map.1 (show p ∈ x.props.map ren from hp)
        have h1 := hz1 x hx q hq
        have h2 := (hz.tx x hx q hq).2
        exact ⟨by show (112 :: q.1).length ≤ _; rw [List.length_cons]; omega, h2⟩
    refine Wl.call (Encode_spec mo.rd hzT.txok) rfl ?_
    rintro _ w14 ⟨rfl, n14⟩
    (repeat' (first | refine Wl.moveE (by conv => { lhs; whnf }) ?_ | refine Wl.assignE (by conv => { lhs; whnf }) ?_ | refine Wl.nil ?_ | refine Wl.extract rfl rfl ?_ | refine Qseq.normal ?_ | refine Wc.seq ?_ | refine Wc.region ?_))
    refine Wl.call (EncodeR_spec (t13.new n14).rd hzT) rfl ?_
    rintro _ w15 ⟨rfl, n15⟩
    generalize (if treeOk (t.map renN) = true then encL (t.map renN) else []) = E2 at *
    generalize (if treeOk (t.map renN) = true then (0 : Int) else 40) = e2 at *
    (repeat' (first | refine Wl.moveE (by conv => { lhs; whnf }) ?_ | refine Wl.assignE (by conv => { lhs; whnf }) ?_ | refine Wl.nil ?_ | refine Wl.extract rfl rfl ?_ | refine Wl.guardY rfl rfl ?_ | refine Wl.pickTE rfl (by conv => { lhs; whnf }) ?_ | refine Qseq.normal ?_ | refine Wc.seq ?_ | refine Wc.region ?_ | (refine Wl.eql rfl rfl (fun _ => ?_) (fun _ => ?_) <;> (first | (exfalso; omega) | skip)) | (refine Wl.seql rfl rfl (fun _ => ?_) (fun _ => ?_) <;> (first | (exfalso; contradiction) | skip))))
    refine Wl.call awake_spec rfl ?_
    rintro _ w16 ⟨rfl, n16⟩
    (repeat' (first | refine Wl.assignE (by conv => { lhs; whnf }) ?_ | refine Wl.nil ?_ | refine Wl.pickTE rfl (by conv => { lhs; whnf }) ?_ | refine Qseq.normal ?_ | refine Wc.ret ?_))
    exact Qfn.ret1 rfl rfl ⟨_, rfl, rfl, New.trans (New.trans (New.trans n13 n14) n15) n16⟩
end Go.Proofs.YtlkhajheecglgaaDoor
