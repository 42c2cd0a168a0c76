/-
  Texts of this claim, one behind the other: Pr, Br, Pl8, Pl9, PlA, Xp, Bulk, Xo.
-/
import Derived.Test.YtjaendlcijmifaaGreatDoorZd
import Derived.Test.YtjaendlcijmifaaGreatDoorRows
import Derived.Lib.LaidTab
import Derived.ChangeSame
namespace Go.Proofs.YtjaendlcijmifaaGreatDoor
open Go Wk
open Go.RowKit (Below)
attribute [local irreducible] Go.Calls

theorem dropC {α : Type} {l : List α} {i : Nat} {x : α} (h : l[i]? = some x) : l.drop i = x :: l.drop (i + 1) := by
  obtain ⟨h1, rfl⟩ := List.getElem?_eq_some_iff.1 h
  exact List.drop_eq_getElem_cons h1
theorem pathM_cons {r : List UInt8} (hr : r ≠ []) : pathM (47 :: r) = (decide ((splitR 47 r).length ≤ 15) && (splitR 47 r).all nameOk) := by
  unfold pathM
  rw [decide_eq_false (by simpa using hr), Bool.false_or]
  have e : splitR 47 (47 :: r) = [] :: splitR 47 r := by rw [splitR, if_pos rfl]
  have hn := splitR_ne 47 r
  rw [e]
  have hp := List.length_pos_iff.2 hn
  rw [show (decide (([] :: splitR 47 r)[0]? = some ([] : List UInt8))) = true from rfl, Bool.true_and, decide_eq_true (by simp; omega), Bool.true_and]
  simp only [List.drop_succ_cons, List.drop_zero, List.length_cons]
  congr 1
  · apply decide_eq_decide.2; omega
  · rw [List.all_eq_not_any_not]
theorem pathM_no {s : List UInt8} (h : s[0]? ≠ some 47) : pathM s = false := by
  unfold pathM
  cases s with
  | nil => rfl
  | cons b l =>
    have hb : b ≠ 47 := fun e => h (by rw [e]; rfl)
    rw [decide_eq_false (fun e => by cases e; exact hb rfl), Bool.false_or]
    have : (splitR 47 (b :: l))[0]? ≠ some [] := by
      rw [splitR, if_neg hb]
      split <;> simp
    rw [decide_eq_false this]; rfl
/-- How far the scan is: what lies behind, what begins at 'from'. -/
structure ScanP (r : List UInt8) (i from' names : Nat) : Prop where
  hle : from' ≤ i
  hi : i ≤ r.length
  done : ∃ d, splitR 47 r = d ++ splitR 47 (r.drop from') ∧ d.length = names ∧ d.all nameOk = true
  free : ∀ b ∈ (r.drop from').take (i - from'), b ≠ 47
theorem ScanP.last {r : List UInt8} {f m : Nat} (h : ScanP r r.length f m) : ∃ d, splitR 47 r = d ++ [(r.take r.length).drop f] ∧ d.length = m ∧ d.all nameOk = true := by
  obtain ⟨d, h1, h2, h3⟩ := h.done
  refine ⟨d, ?_, h2, h3⟩
  rw [h1, List.take_length, splitR_free fun b hb => h.free b (by rw [List.take_of_length_le (by simp)]; exact hb)]
theorem ScanP.at {r : List UInt8} {i f m : Nat} (h : ScanP r i f m) (hi : r[i]? = some 47) : ∃ d, splitR 47 r = d ++ (r.take i).drop f :: splitR 47 (r.drop (i + 1)) ∧ d.length = m ∧ d.all nameOk = true := by
  obtain ⟨d, h1, h2, h3⟩ := h.done
  have hle := h.hle
  refine ⟨d, ?_, h2, h3⟩
  have e : r.drop f = (r.take i).drop f ++ 47 :: r.drop (i + 1) := by
    have e1 : r = r.take i ++ 47 :: r.drop (i + 1) := by
      rw [← dropC hi, List.take_append_drop]
    have hl := (List.getElem?_eq_some_iff.1 hi).1
    conv => lhs; rw [e1]
    rw [List.drop_append_of_le_length (by simp; omega)]
  rw [h1]
  conv => lhs; rw [e]
  rw [splitR_at fun b hb => h.free b (by rw [List.drop_take] at hb; exact hb)]
theorem ScanP.step {r : List UInt8} {i f m : Nat} {c : UInt8} (h : ScanP r i f m) (hi : r[i]? = some c) (hc : c ≠ 47) : ScanP r (i + 1) f m := by
  have hl := (List.getElem?_eq_some_iff.1 hi).1
  have hle := h.hle
  refine ⟨by omega, by omega, h.done, fun b hb => ?_⟩
  rw [show i + 1 - f = (i - f) + 1 by omega, take_snoc' (y := c) (by rw [List.getElem?_drop, show f + (i - f) = i by omega]; exact hi)] at hb
  rcases List.mem_append.1 hb with hb | hb
  · exact h.free b hb
  · rw [List.mem_singleton.1 hb]; exact hc
theorem ScanP.next {r : List UInt8} {i f m : Nat} (h : ScanP r i f m) (hi : r[i]? = some 47) (hn : nameOk ((r.take i).drop f) = true) : ScanP r (i + 1) (i + 1) (m + 1) := by
  have hl := (List.getElem?_eq_some_iff.1 hi).1
  obtain ⟨d, h1, h2, h3⟩ := h.at hi
  refine ⟨Nat.le_refl _, by omega, ⟨d ++ [(r.take i).drop f], by rw [h1, List.append_assoc]; rfl, by simp [h2], by simp [h3, hn]⟩, fun b hb => by simp at hb⟩
theorem scan0 (r : List UInt8) : ScanP r 0 0 0 := ⟨Nat.le_refl _, Nat.zero_le _, ⟨[], rfl, rfl, rfl⟩, fun b hb => by simp at hb⟩
set_option maxHeartbeats 1000000 in
theorem PathR_spec {w : World} {s : List UInt8} (hl : s.length ≤ 100000000) : Calls Tryz.prog 34 #[vs s] w (Ret fun r w' => r = .bool (pathM s) ∧ New w w') := by
  refine calls_of_Wc Tryz.func34 rfl Tryz.ntmps34 rfl ?_
  (repeat' (first | refine Wl.moveE (by conv => { lhs; whnf }) ?_ | refine Wl.assignE (by conv => { lhs; whnf }) ?_ | refine Wl.nil ?_ | refine Wl.guardY rfl rfl ?_ | refine Wl.guardN rfl rfl ?_ | refine Wl.pickTE rfl (by conv => { lhs; whnf }) ?_ | refine Qseq.normal ?_ | refine Wc.seq ?_ | refine Wc.region ?_ | refine Wc.skip ?_ | refine Wc.ret ?_ | refine Qseq.ret ?_ | refine Wc.condT rfl ?_ | refine Wc.condF rfl ?_ | refine Wl.seql rfl rfl (fun _ => ?_) (fun _ => ?_)))
  · have e : s = [47] := by assumption
    subst e
    exact Qfn.ret1 rfl rfl ⟨_, rfl, rfl, Chg.refl _ _⟩
  · have e : s = [] := by assumption
    subst e
    exact Qfn.ret1 rfl rfl ⟨_, rfl, rfl, Chg.refl _ _⟩
  have hne : s ≠ [47] := by assumption
  have hs0 : s ≠ [] := by assumption
  obtain ⟨c0, r, rfl⟩ : ∃ c r, s = c :: r := by cases s with
    | nil => exact absurd rfl hs0
    | cons c r => exact ⟨c, r, rfl⟩
  refine Wl.idxStr (j := 0) (l := c0 :: r) (b := c0) rfl rfl (Int.le_refl 0) rfl ?_
  (repeat' (first | refine Wl.assignE (by conv => { lhs; whnf }) ?_ | refine Wl.nil ?_ | refine Wl.guardY rfl rfl ?_ | refine Wl.pickFE rfl (by conv => { lhs; whnf }) ?_ | refine Qseq.normal ?_ | refine Wc.seq ?_ | refine Wc.region ?_ | refine Wc.block ?_ | refine Wc.skip ?_ | refine Wc.ret ?_ | refine Qseq.ret ?_ | refine Wc.condT rfl ?_ | refine Wc.condF rfl ?_ | refine Wl.neq rfl rfl (fun _ => ?_) (fun _ => ?_)))
  · have hc : c0 ≠ 47 := fun e => (by assumption : ¬ ((c0.toNat : Int) = 47)) (by rw [e]; rfl)
    rw [pathM_no (by simpa using hc)]
    exact Qfn.ret1 rfl rfl ⟨_, rfl, rfl, Chg.refl _ _⟩
  have hc : c0 = 47 := UInt8.toNat_inj.1 (by have h : (c0.toNat : Int) = 47 := by assumption
                                             show c0.toNat = 47; omega)
  subst hc
  have hr : r ≠ [] := fun e => hne (by rw [e])
  rw [pathM_cons hr]
  have hrl : r.length + 1 ≤ 100000000 := hl
  have hsl : (47 :: r : List UInt8).length = r.length + 1 := rfl
  refine Wc.loop (σ := Nat × Nat × Nat) (fun x => [(0, vs (47 :: r)), (3, vi x.2.2), (4, vi (x.2.1 + 1 : Nat)), (5, vi (x.1 + 1 : Nat))]) (fun x W => (ScanP r x.1 x.2.1 x.2.2 ∨ x.1 = r.length + 1 ∧ (splitR 47 r).length = x.2.2 ∧ (splitR 47 r).all nameOk = true) ∧ x.1 ≤ r.length + 1 ∧ x.2.2 ≤ x.1 ∧ New w W) (fun x => r.length + 1 - x.1) (0, 0, 0) ⟨rfl, rfl, rfl, rfl, trivial⟩
    ⟨.inl (scan0 r), Nat.zero_le _, Nat.le_refl _, Chg.refl _ _⟩ ?_
  rintro ⟨i, f, m⟩ G W ⟨hS, hi1, hm, n1⟩
  dsimp only at hS hi1 hm
  simp only [upds]
  have bad : ∀ d t x, splitR 47 r = d ++ x :: t → nameOk x = false → (splitR 47 r).all nameOk = false := fun d t x e h => by
    rw [e, List.all_append, List.all_cons, h, Bool.false_and, Bool.and_false]
  (repeat' (first | refine Wl.moveE (by conv => { lhs; whnf }) ?_ | refine Wl.assignE (by conv => { lhs; whnf }) ?_ | refine Wl.nil ?_ | refine Wl.guardY rfl rfl ?_ | refine Wl.guardN rfl rfl ?_ | refine Wl.pickTE rfl (by conv => { lhs; whnf }) ?_ | refine Wl.lenStr rfl ?_ | refine Qseq.normal ?_ | refine Wc.seq ?_ | refine Wc.region ?_ | refine Wc.block ?_ | refine Wc.skip ?_ | refine Wc.exit ?_ | refine Wc.ret ?_ | refine Qseq.exit ?_ | refine Qblk.hit ?_ | refine Qloop.exit ?_ | refine Wc.condT rfl ?_ | refine Wc.condF rfl ?_ | refine Wl.leq rfl rfl (fun _ => ?_) (fun _ => ?_) | refine Wl.eql rfl rfl (fun _ => ?_) (fun _ => ?_)))
  · rcases hS with hS | ⟨he, _⟩
    rotate_left
    · omega
    have hle := hS.hle
    have hi := hS.hi
    have ei : i = r.length := by omega
    subst ei
    obtain ⟨d, h1, h2, h3⟩ := hS.last
    refine Wl.strBoth (l := 47 :: r) rfl rfl rfl (by omega) (by omega) (by omega) ?_
    rw [show ((47 :: r).take ((r.length + 1 : Nat) : Int).toNat).drop ((f + 1 : Nat) : Int).toNat = (r.take r.length).drop f from rfl]
    refine Wl.call (NameR_spec (by simp; omega)) rfl ?_
    rintro _ w2 ⟨rfl, n2⟩
    cases hno : nameOk ((r.take r.length).drop f) with
    | false =>
      (repeat' (first | refine Wl.assignE (by conv => { lhs; whnf }) ?_ | refine Wl.nil ?_ | refine Wl.notB rfl ?_ | refine Qseq.normal ?_ | refine Wc.seq ?_ | refine Wc.region ?_ | refine Wc.ret ?_ | refine Qseq.ret ?_ | refine Qblk.ret ?_ | refine Qloop.ret ?_ | refine Wc.condT rfl ?_))
      rw [bad d [] _ h1 hno, Bool.and_false]
      exact Qfn.ret1 rfl rfl ⟨_, rfl, rfl, n1.trans n2⟩
    | true =>
      (repeat' (first | refine Wl.moveE (by conv => { lhs; whnf }) ?_ | refine Wl.assignE (by conv => { lhs; whnf }) ?_ | refine Wl.nil ?_ | refine Wl.notB rfl ?_ | refine Qseq.normal ?_ | refine Wc.seq ?_ | refine Wc.region ?_ | refine Wc.skip ?_ | refine Qblk.normal ?_ | refine Wc.condF rfl ?_ | refine Wl.add rfl rfl (by omega) (by omega) ?_))
      exact Qloop.normal (r.length + 1, r.length + 1, m + 1) ⟨rfl, rfl, rfl, rfl, trivial⟩ ⟨.inr ⟨rfl, by rw [h1]; simp [h2], by rw [h1]; simp [h3]; simpa using hno⟩, Nat.le_refl _, by dsimp only; omega, n1.trans n2⟩ (by dsimp only; omega)
  · rcases hS with hS | ⟨he, _⟩
    rotate_left
    · omega
    have hle := hS.hle
    have hi := hS.hi
    obtain ⟨c, hc⟩ := get_byte r (k := i) (by omega)
    refine Wl.idxStr (l := 47 :: r) (b := c) rfl rfl (by omega) (by rw [Int.toNat_natCast]; exact hc) ?_
    (repeat' (first | refine Wl.moveE (by conv => { lhs; whnf }) ?_ | refine Wl.assignE (by conv => { lhs; whnf }) ?_ | refine Wl.nil ?_ | refine Wl.guardY rfl rfl ?_ | refine Wl.pickFE rfl (by conv => { lhs; whnf }) ?_ | refine Qseq.normal ?_ | refine Wc.seq ?_ | refine Wc.region ?_ | refine Wc.skip ?_ | refine Qblk.normal ?_ | refine Wc.condT rfl ?_ | refine Wc.condF rfl ?_ | refine Wl.add rfl rfl (by omega) (by omega) ?_ | refine Wl.eql rfl rfl (fun _ => ?_) (fun _ => ?_)))
    · have e : c = 47 := UInt8.toNat_inj.1 (by have h : (c.toNat : Int) = 47 := by assumption
                                               show c.toNat = 47; omega)
      subst e
      obtain ⟨d, h1, h2, h3⟩ := hS.at hc
      refine Wl.strBoth (l := 47 :: r) rfl rfl rfl (by omega) (by omega) (by omega) ?_
      rw [show ((47 :: r).take ((i + 1 : Nat) : Int).toNat).drop ((f + 1 : Nat) : Int).toNat = (r.take i).drop f from rfl]
      refine Wl.call (NameR_spec (by simp; omega)) rfl ?_
      rintro _ w2 ⟨rfl, n2⟩
      cases hno : nameOk ((r.take i).drop f) with
      | false =>
        (repeat' (first | refine Wl.assignE (by conv => { lhs; whnf }) ?_ | refine Wl.nil ?_ | refine Wl.notB rfl ?_ | refine Qseq.normal ?_ | refine Wc.seq ?_ | refine Wc.region ?_ | refine Wc.ret ?_ | refine Qseq.ret ?_ | refine Qblk.ret ?_ | refine Qloop.ret ?_ | refine Wc.condT rfl ?_))
        rw [bad d _ _ h1 hno, Bool.and_false]
        exact Qfn.ret1 rfl rfl ⟨_, rfl, rfl, n1.trans n2⟩
      | true =>
        (repeat' (first | refine Wl.moveE (by conv => { lhs; whnf }) ?_ | refine Wl.assignE (by conv => { lhs; whnf }) ?_ | refine Wl.nil ?_ | refine Wl.notB rfl ?_ | refine Qseq.normal ?_ | refine Wc.seq ?_ | refine Wc.region ?_ | refine Wc.skip ?_ | refine Qblk.normal ?_ | refine Wc.condF rfl ?_ | refine Wl.add rfl rfl (by omega) (by omega) ?_))
        exact Qloop.normal (i + 1, i + 1, m + 1) ⟨rfl, rfl, rfl, rfl, trivial⟩ ⟨.inl (hS.next hc hno), by dsimp only; omega, by dsimp only; omega, n1.trans n2⟩ (by dsimp only; omega)
    · have e : c ≠ 47 := fun e => (by assumption : ¬ ((c.toNat : Int) = 47)) (by rw [e]; rfl)
      exact Qloop.normal (i + 1, f, m) ⟨rfl, rfl, rfl, rfl, trivial⟩ ⟨.inl (hS.step hc e), by dsimp only; omega, by dsimp only; omega, n1⟩ (by dsimp only; omega)
  · rcases hS with hS | ⟨he, h1, h2⟩
    · have := hS.hi; omega
    rw [h1, h2, Bool.and_true, decide_eq_true (by omega)]
    exact Qfn.ret1 rfl rfl ⟨_, rfl, rfl, n1⟩
  · rcases hS with hS | ⟨he, h1, h2⟩
    · have := hS.hi; omega
    rw [h1, h2, Bool.and_true, decide_eq_false (by omega)]
    exact Qfn.ret1 rfl rfl ⟨_, rfl, rfl, n1⟩
end Go.Proofs.YtjaendlcijmifaaGreatDoor

namespace Go.Proofs.YtjaendlcijmifaaGreatDoor.Wk
open Go Go.RowKit

def boundL (ops : Array Oper) (j : Nat) : List Nat := match ops[j]? with | some o => (o.after.toList.filter (Region.binds .any)).map (·.on) | none => []
def availB (ops : Array Oper) (l : List Nat) (j : Nat) : Bool := (boundL ops j).all fun k => !l.contains k
def nextQ (ops : Array Oper) (l : List Nat) : Option Nat := l.find? fun i => isQ ops i && availB ops l i
def okPairG (ops : Array Oper) (i j : Nat) : Bool := (boundL ops j).contains i || (match ops[i]?, ops[j]? with | some oi, some oj => oi.apart ops oj && oj.apart ops oi | _, _ => false)
def okG (ops : Array Oper) : Bool :=
  Region.noSelect ops && (List.range ops.size).all (fun j => (List.range j).all fun i => okPairG ops i j) && (List.range ops.size).all (fun j => (boundL ops j).all fun k => decide (k < j))
def out (j : Nat) (l : List Nat) : List Nat := l.filter fun k => k != j
section
variable {P : Program} {ops : Array Oper} {C : World → Prop} {Q : Exit → Act → World → Prop}
def TG (P : Program) (ops : Array Oper) (C : World → Prop) (Q : Exit → Act → World → Prop) : Nat → List Nat → Act → World → Prop
  | 0, _, a, w => Q .normal a w
  | f + 1, l, a, w => match nextQ ops l with
    | some q => ∃ o v, ops[q]? = some o ∧ YieldsIn P ops C o v a ∧ TG P ops C Q f (out q l) (a.put o.dst v) w
    | none => ∀ j ∈ l, availB ops l j = true → if j + 1 = ops.size then wpOp P ops Q j (fun a' w' => Q .normal a' w') a w else wpOp P ops QF j (fun a' w' => C w' ∧ TG P ops C Q f (out j l) a' w') a w
theorem out_comm (i j : Nat) (l : List Nat) : out i (out j l) = out j (out i l) := by
  unfold out; rw [List.filter_filter, List.filter_filter]; congr 1; funext k; rw [Bool.and_comm]
theorem mem_out {i j : Nat} {l : List Nat} : i ∈ out j l ↔ i ∈ l ∧ i ≠ j := by unfold out; rw [List.mem_filter]; simp
theorem avail_out {i j : Nat} {l : List Nat} (h : availB ops l i = true) : availB ops (out j l) i = true := by
  unfold availB at h ⊢
  rw [List.all_eq_true] at h ⊢
  intro k hk
  have := h k hk
  simp only [Bool.not_eq_true', Bool.eq_false_iff, ne_eq, List.contains_iff_mem] at this ⊢
  exact fun e => this (mem_out.1 e).1
theorem out_len {j : Nat} {l : List Nat} (hn : l.Nodup) (hj : j ∈ l) : (out j l).length + 1 = l.length := by
  have : out j l = l.erase j := by unfold out; rw [hn.erase_eq_filter]
  rw [this, List.length_erase_of_mem hj]
  have := List.length_pos_of_mem hj
  omega
/-- Two that may both come up now stand apart. -/
structure Ap (ops : Array Oper) (i j : Nat) (oi oj : Oper) : Prop where
  ij : oi.apart ops oj = true
  ji : oj.apart ops oi = true
  si : ∀ cs b, oi.op ≠ .select cs b
  sj : ∀ cs b, oj.op ≠ .select cs b
theorem apart_of (hok : okG ops = true) {l : List Nat} {i j : Nat} {oi oj : Oper} (hi : ops[i]? = some oi) (hj : ops[j]? = some oj) (hil : i ∈ l) (hjl : j ∈ l) (ai : availB ops l i = true) (aj : availB ops l j = true) (hne : i ≠ j) : Ap ops i j oi oj := by
  simp only [okG, Bool.and_eq_true] at hok
  obtain ⟨⟨hns, hpair⟩, _⟩ := hok
  have hsel := Region.noSelect_spec hns
  have his := (Array.getElem?_eq_some_iff.1 hi).1
  have hjs := (Array.getElem?_eq_some_iff.1 hj).1
  have key : ∀ {i j : Nat} {oi oj : Oper}, ops[i]? = some oi → ops[j]? = some oj → i ∈ l → availB ops l j = true → i < j → oi.apart ops oj = true ∧ oj.apart ops oi = true := by
    intro i j oi oj hi hj hil aj hij
    have hjs := (Array.getElem?_eq_some_iff.1 hj).1
    have h3 := List.all_eq_true.1 (List.all_eq_true.1 hpair j (List.mem_range.2 hjs)) i (List.mem_range.2 hij)
    unfold okPairG at h3
    simp only [hi, hj, Bool.or_eq_true, Bool.and_eq_true] at h3
    rcases h3 with h3 | h3
    · exfalso
      have := List.all_eq_true.1 aj i (by simpa using h3)
      rw [List.contains_iff_mem.2 hil] at this
      cases this
    · exact h3
  have sel : ∀ {i : Nat} {o : Oper}, ops[i]? = some o → ∀ cs b, o.op ≠ .select cs b := fun h cs b => hsel _ _ cs b h
  rcases Nat.lt_or_ge i j with h | h
  · have := key hi hj hil aj h; exact ⟨this.1, this.2, sel hi, sel hj⟩
  · have := key hj hi hjl ai (by omega); exact ⟨this.2, this.1, sel hi, sel hj⟩
/-- What only reads and may come up now may be taken now, or had been. -/
theorem TG_quiet (hok : okG ops = true) : ∀ (f : Nat) (q : Nat) (oq : Oper), ops[q]? = some oq → isQ ops q = true → ∀ (l : List Nat) (a : Act) (w : World), l.length = f + 1 → l.Nodup → (∀ i ∈ l, i < ops.size) → q ∈ l → availB ops l q = true →
    (TG P ops C Q (f + 1) l a w ↔ ∃ v, YieldsIn P ops C oq v a ∧ TG P ops C Q f (out q l) (a.put oq.dst v) w) := by
  intro f
  induction f with
  | zero =>
    intro q oq hq hqq l a w hl hn hlt hm ha
    obtain ⟨x, rfl⟩ : ∃ x, l = [x] := by cases l with | nil => cases hl | cons x r => cases r with | nil => exact ⟨x, rfl⟩ | cons y s => simp at hl
    obtain rfl : q = x := by simpa using hm
    have hnq : nextQ ops [q] = some q := by simp [nextQ, hqq, ha]
    rw [TG, hnq]
    simp only [hq, Option.some.injEq]
    exact ⟨fun ⟨o, v, e, h⟩ => by cases e; exact ⟨v, h⟩, fun ⟨v, h⟩ => ⟨oq, v, rfl, h⟩⟩
  | succ f ih =>
    intro q oq hq hqq l a w hl hn hlt hm ha
    rw [TG]
    cases hnq : nextQ ops l with
    | none =>
      exfalso
      have := List.find?_eq_none.1 hnq q hm
      simp [hqq, ha] at this
    | some r =>
      have hr := List.find?_some hnq
      have hrm := List.mem_of_find?_eq_some hnq
      simp only [Bool.and_eq_true] at hr
      dsimp only
      by_cases hrq : r = q
      · subst hrq
        simp only [hq, Option.some.injEq]
        exact ⟨fun ⟨o, v, e, h⟩ => by cases e; exact ⟨v, h⟩, fun ⟨v, h⟩ => ⟨oq, v, rfl, h⟩⟩
      · obtain ⟨or', hor⟩ : ∃ o, ops[r]? = some o := ⟨ops[r]'(hlt r hrm), Array.getElem?_eq_getElem (hlt r hrm)⟩
        have ap := apart_of hok hor hq hrm hm hr.2 ha hrq
        have hne := (Oper.apart_spec ap.ij).2.1
        have lr := out_len hn hrm
        have lq := out_len hn hm
        have nr : (out r l).Nodup := hn.filter _
        have nq : (out q l).Nodup := hn.filter _
        have e1 := fun a' => ih q oq hq hqq (out r l) a' w (by omega) nr (fun i hi => hlt i (mem_out.1 hi).1) (mem_out.2 ⟨hm, fun e => hrq e.symm⟩) (avail_out ha)
        have e2 := fun a' => ih r or' hor hr.1 (out q l) a' w (by omega) nq (fun i hi => hlt i (mem_out.1 hi).1) (mem_out.2 ⟨hrm, hrq⟩) (avail_out hr.2)
        constructor
        · rintro ⟨o, vr, eo, hy, ht⟩
          rw [hor] at eo
          cases eo
          obtain ⟨vq, hyq, ht2⟩ := (e1 _).1 ht
          refine ⟨vq, (yields_unput ap.ij ap.sj).1 hyq, (e2 _).2 ⟨vr, (yields_unput ap.ji ap.si).2 hy, ?_⟩⟩
          rw [out_comm, ← Act.put_comm a vr vq hne]
          exact ht2
        · rintro ⟨vq, hyq, ht⟩
          obtain ⟨vr, hyr, ht2⟩ := (e2 _).1 ht
          refine ⟨or', vr, hor, (yields_unput ap.ji ap.si).1 hyr, (e1 _).2 ⟨vq, (yields_unput ap.ij ap.sj).2 hyq, ?_⟩⟩
          rw [out_comm, Act.put_comm a vr vq hne]
          exact ht2
/-- Another operation that may come up now may be taken first. -/
theorem TG_chain (hok : okG ops = true) {j : Nat} {oj : Oper} (hj : ops[j]? = some oj) (hjq : isQ ops j = false) (hjl : j + 1 ≠ ops.size) : ∀ (f : Nat) (l : List Nat) (a : Act) (w : World), l.length = f + 1 → l.Nodup → (∀ i ∈ l, i < ops.size) → j ∈ l → availB ops l j = true →
    TG P ops C Q (f + 1) l a w → wpOp P ops QF j (fun a' w' => C w' ∧ TG P ops C Q f (out j l) a' w') a w := by
  intro f
  induction f with
  | zero =>
    intro l a w hl hn hlt hm ha h
    obtain ⟨x, rfl⟩ : ∃ x, l = [x] := by cases l with | nil => cases hl | cons x r => cases r with | nil => exact ⟨x, rfl⟩ | cons y s => simp at hl
    obtain rfl : j = x := by simpa using hm
    have hnq : nextQ ops [j] = none := by simp [nextQ, hjq]
    rw [TG, hnq] at h
    have := h j (by simp) ha
    rwa [if_neg hjl] at this
  | succ f ih =>
    intro l a w hl hn hlt hm ha h
    have h0 := h
    rw [TG] at h
    cases hnq : nextQ ops l with
    | none =>
      rw [hnq] at h
      have := h j hm ha
      rwa [if_neg hjl] at this
    | some r =>
      have hr := List.find?_some hnq
      have hrm := List.mem_of_find?_eq_some hnq
      simp only [Bool.and_eq_true] at hr
      obtain ⟨or', hor⟩ : ∃ o, ops[r]? = some o := ⟨ops[r]'(hlt r hrm), Array.getElem?_eq_getElem (hlt r hrm)⟩
      have hrj : r ≠ j := fun e => by rw [e, hjq] at hr; cases hr.1
      have ap := apart_of hok hor hj hrm hm hr.2 ha hrj
      have lr := out_len hn hrm
      have lj := out_len hn hm
      have nr : (out r l).Nodup := hn.filter _
      have nj : (out j l).Nodup := hn.filter _
      obtain ⟨v, hy, ht⟩ := (TG_quiet hok (f + 1) r or' hor hr.1 l a w hl hn hlt hrm hr.2).1 h0
      have hw := ih (out r l) _ w (by omega) nr (fun i hi => hlt i (mem_out.1 hi).1) (mem_out.2 ⟨hm, fun e => hrj e.symm⟩) (avail_out ha) ht
      refine wpOp_mono (fun a' w' h' => ?_) (wpOp_put hj ap.ij ap.si ap.sj hy hw)
      obtain ⟨hy', hC', ht'⟩ := h'
      refine ⟨hC', (TG_quiet hok f r or' hor hr.1 (out j l) a' w' (by omega) nj (fun i hi => hlt i (mem_out.1 hi).1) (mem_out.2 ⟨hrm, hrj⟩) (avail_out hr.2)).2 ⟨v, hy', ?_⟩⟩
      rw [out_comm]; exact ht'
def okGL (ops : Array Oper) : Bool := okG ops && (isQ ops (ops.size - 1) || (List.range ops.size).all fun k => (ahead ops ops.size [ops.size - 1]).contains k)
theorem wpAny_of_TG (hok2 : okGL ops = true) : ∀ (fuel : Nat) (listed : Array Bool) (a : Act) (w : World), listed.size = ops.size → (left ops listed).length = fuel → Clos ops listed → (fuel ≠ 0 → C w) → TG P ops C Q fuel (left ops listed) a w → wpAny P .any ops Q fuel listed a w := by
  have hok : okG ops = true := by unfold okGL at hok2; simp only [Bool.and_eq_true] at hok2; exact hok2.1
  have hlast : (isQ ops (ops.size - 1) || (List.range ops.size).all fun k => (ahead ops ops.size [ops.size - 1]).contains k) = true := by unfold okGL at hok2; simp only [Bool.and_eq_true] at hok2; exact hok2.2
  have hdown : ∀ (j : Nat) (o : Oper), ops[j]? = some o → ∀ e ∈ o.after, Region.binds .any e = true → e.on < j := by
    intro j o ho e he hb
    have := hok
    simp only [okG, Bool.and_eq_true] at this
    have h3 := List.all_eq_true.1 this.2 j (List.mem_range.2 (Array.getElem?_eq_some_iff.1 ho).1)
    have hm : e.on ∈ boundL ops j := by
      unfold boundL; rw [ho]
      exact List.mem_map.2 ⟨e, List.mem_filter.2 ⟨by simpa using he, hb⟩, rfl⟩
    exact of_decide_eq_true (List.all_eq_true.1 h3 _ hm)
  have rdy : ∀ listed : Array Bool, listed.size = ops.size → ∀ i, i ∈ Region.ready .any ops listed → i ∈ left ops listed ∧ availB ops (left ops listed) i = true := by
    intro listed hs i hi
    obtain ⟨h0, o, ho, hall⟩ := mem_ready.1 hi
    refine ⟨?_, ?_⟩
    · unfold left
      rw [List.mem_filter, List.mem_range]
      exact ⟨(Array.getElem?_eq_some_iff.1 ho).1, by simp [h0]⟩
    · unfold availB boundL
      rw [ho, List.all_eq_true]
      intro k hk
      obtain ⟨e, he, rfl⟩ := List.mem_map.1 hk
      rw [List.mem_filter] at he
      have h1 := hall e (by simpa using he.1) he.2
      simp only [Bool.not_eq_true', Bool.eq_false_iff, ne_eq, List.contains_iff_mem]
      intro hm
      unfold left at hm
      rw [List.mem_filter, List.mem_range] at hm
      have hlt : e.on < listed.size := by rw [hs]; exact hm.1
      have h2 := hm.2
      simp [Array.getD_eq_getD_getElem?, Array.getElem?_eq_getElem hlt] at h1 h2
      rw [h1] at h2; cases h2
  intro fuel
  induction fuel with
  | zero =>
    intro listed a w hs hl hcl hC h
    have hnil : left ops listed = [] := List.eq_nil_of_length_eq_zero hl
    refine ⟨?_, h⟩
    rw [List.eq_nil_iff_forall_not_mem]
    intro i hi
    have := (rdy listed hs i hi).1
    rw [hnil] at this
    cases this
  | succ fuel ih =>
    intro listed a w hs hl hcl hC h
    replace hC := hC (by simp)
    have hnd : (left ops listed).Nodup := List.Nodup.sublist List.filter_sublist List.nodup_range
    have hunl : ∀ i ∈ left ops listed, i < ops.size ∧ listed.getD i true = false := fun i hi => by
      unfold left at hi
      rw [List.mem_filter, List.mem_range] at hi
      exact ⟨hi.1, by simpa using hi.2⟩
    refine ⟨fun h0 => ?_, fun j hj => ?_⟩
    · exfalso
      cases hL : left ops listed with
      | nil => rw [hL] at hl; cases hl
      | cons i l =>
        have hmem : i ∈ left ops listed := by rw [hL]; simp
        obtain ⟨his, hun⟩ := hunl i hmem
        have hall : ∀ k, k < i → listed.getD k false = true := by
          intro k hk
          have hks : k < ops.size := by omega
          cases hb : listed.getD k true with
          | true => simpa [Array.getD_eq_getD_getElem?, hs, hks] using hb
          | false =>
            have hkm : k ∈ left ops listed := by unfold left; rw [List.mem_filter, List.mem_range]; exact ⟨hks, by simp [hb]⟩
            have hsort : (left ops listed).Pairwise (· < ·) := List.Pairwise.sublist List.filter_sublist List.pairwise_lt_range
            rw [hL] at hkm hsort
            rcases List.mem_cons.1 hkm with e | e
            · omega
            · have := (List.pairwise_cons.1 hsort).1 k e; omega
        have : i ∈ Region.ready .any ops listed := mem_ready.2 ⟨hun, ops[i], Array.getElem?_eq_getElem his, fun e he hb => hall e.on (hdown i _ (Array.getElem?_eq_getElem his) e he hb)⟩
        rw [h0] at this
        cases this
    · obtain ⟨hjm, hja⟩ := rdy listed hs j hj
      have hjs := (hunl j hjm).1
      have hoj : ops[j]? = some ops[j] := Array.getElem?_eq_getElem hjs
      have hset : left ops (listed.setIfInBounds j true) = out j (left ops listed) := left_set hs hjs
      have hlen := out_len hnd hjm
      have hcl' := hcl.set hj
      have hlen' : (left ops (listed.setIfInBounds j true)).length = fuel := by rw [hset]; omega
      cases hjq : isQ ops j with
      | true =>
        obtain ⟨v, hy, ht⟩ := (TG_quiet hok fuel j _ hoj hjq (left ops listed) a w hl hnd (fun i hi => (hunl i hi).1) hjm hja).1 h
        have hrj : readB ops[j].op = true := by unfold isQ at hjq; rw [hoj] at hjq; exact hjq
        exact YieldsS.wpOp hoj hy hrj hC (ih _ _ w (by simpa using hs) hlen' hcl' (fun _ => hC) (by rw [hset]; exact ht))
      | false =>
        by_cases hjl : j + 1 = ops.size
        · have hj1 : ops.size - 1 = j := by omega
          rw [hj1, hjq, Bool.false_or] at hlast
          have hbehind : ∀ k, k ∈ ahead ops ops.size [j] → k = j ∨ listed.getD k false = true := ahead_spec hcl hj _ _ (by simp)
          have all : ∀ i ∈ left ops listed, i = j := fun i hi => by
            obtain ⟨his, hun⟩ := hunl i hi
            rcases hbehind i (by simpa using List.all_eq_true.1 hlast i (List.mem_range.2 his)) with e | e
            · exact e
            · simp [Array.getD_eq_getD_getElem?, hs, his] at hun e
              rw [hun] at e; cases e
          have hL : left ops listed = [j] := by
            cases hh : left ops listed with
            | nil => rw [hh] at hl; cases hl
            | cons x r =>
              rw [hh] at all hnd
              obtain rfl := all x (by simp)
              cases r with
              | nil => rfl
              | cons y s =>
                have := all y (by simp)
                subst this
                exact absurd (by simp) (List.nodup_cons.1 hnd).1
          have hf : fuel = 0 := by rw [hL] at hl; simpa using hl.symm
          subst hf
          rw [hL] at h hja
          have hnq : nextQ ops [j] = none := by simp [nextQ, hjq]
          rw [TG, hnq] at h
          have hw := h j (by simp) hja
          rw [if_pos hjl] at hw
          exact wpOp_mono (fun a' w' h' => ih _ a' w' (by simpa using hs) hlen' hcl' (fun hne => absurd rfl hne) h') hw
        · exact wpOp_of_QF (fun a' w' h' => ih _ a' w' (by simpa using hs) hlen' hcl' (fun _ => h'.1) (by rw [hset]; exact h'.2)) (TG_chain hok hoj hjq hjl fuel (left ops listed) a w hl hnd (fun i hi => (hunl i hi).1) hjm hja h)
end
section
variable {P : Program} {n : Nat} {ds : List Deferred} {Q : Po} {F : Fr} {ops : List Oper} {C : World → Prop} {w : World}
/-- The walk that parts: by frames. -/
def Wg (P : Program) (n : Nat) (ds : List Deferred) (C : World → Prop) (Q : Po) (ops : List Oper) : Nat → List Nat → Fr → World → Prop
  | 0, _, F, w => Q .normal F w
  | f + 1, l, F, w => match nextQ ops.toArray l with
    | some q => ∃ o, ops[q]? = some o ∧ Wq P n ds C (fun F' => Wg P n ds C Q ops f (out q l) F' w) ops [o] F
    | none => ∀ j ∈ l, availB ops.toArray l j = true → ∃ o, ops[j]? = some o ∧ (if j + 1 = ops.length then Wl P n ds Q ops [o] F w else Wl P n ds (fun e F' w' => e = .normal ∧ C w' ∧ Wg P n ds C Q ops f (out j l) F' w') ops [o] F w)
theorem Wg.nil {l : List Nat} (h : Q .normal F w) : Wg P n ds C Q ops 0 l F w := h
theorem Wg.quiet {f q : Nat} {l l' : List Nat} {o : Oper} (h : nextQ ops.toArray l = some q) (ho : ops[q]? = some o) (hl : out q l = l') (k : Wq P n ds C (fun F' => Wg P n ds C Q ops f l' F' w) ops [o] F) : Wg P n ds C Q ops (f + 1) l F w := by
  subst hl
  rw [Wg, h]
  exact ⟨o, ho, k⟩
theorem Wg.one {f j : Nat} {l l' : List Nat} {o : Oper} (h : nextQ ops.toArray l = none) (hr : l.filter (availB ops.toArray l) = [j]) (ho : ops[j]? = some o) (hjl : Nat.beq (j + 1) ops.length = false) (hl : out j l = l')
    (k : Wl P n ds (fun e F' w' => e = .normal ∧ C w' ∧ Wg P n ds C Q ops f l' F' w') ops [o] F w) : Wg P n ds C Q ops (f + 1) l F w := by
  subst hl
  rw [Wg, h]
  intro i hi ha
  have hm : i ∈ l.filter (availB ops.toArray l) := List.mem_filter.2 ⟨hi, ha⟩
  rw [hr] at hm
  obtain rfl : i = j := by simpa using hm
  exact ⟨o, ho, by rw [if_neg (Nat.ne_of_beq_eq_false hjl)]; exact k⟩
theorem Wg.two {f j1 j2 : Nat} {l l1 l2 : List Nat} {o1 o2 : Oper} (h : nextQ ops.toArray l = none) (hr : l.filter (availB ops.toArray l) = [j1, j2]) (ho1 : ops[j1]? = some o1) (ho2 : ops[j2]? = some o2)
    (hjl1 : Nat.beq (j1 + 1) ops.length = false) (hjl2 : Nat.beq (j2 + 1) ops.length = false) (hl1 : out j1 l = l1) (hl2 : out j2 l = l2)
    (k1 : Wl P n ds (fun e F' w' => e = .normal ∧ C w' ∧ Wg P n ds C Q ops f l1 F' w') ops [o1] F w) (k2 : Wl P n ds (fun e F' w' => e = .normal ∧ C w' ∧ Wg P n ds C Q ops f l2 F' w') ops [o2] F w) : Wg P n ds C Q ops (f + 1) l F w := by
  subst hl1
  subst hl2
  rw [Wg, h]
  intro i hi ha
  have hm : i ∈ l.filter (availB ops.toArray l) := List.mem_filter.2 ⟨hi, ha⟩
  rw [hr] at hm
  have : i = j1 ∨ i = j2 := by simpa using hm
  rcases this with rfl | rfl
  · exact ⟨o1, ho1, by rw [if_neg (Nat.ne_of_beq_eq_false hjl1)]; exact k1⟩
  · exact ⟨o2, ho2, by rw [if_neg (Nat.ne_of_beq_eq_false hjl2)]; exact k2⟩
theorem Wg.last {f j : Nat} {l : List Nat} {o : Oper} (h : nextQ ops.toArray l = none) (hr : l = [j]) (ho : ops[j]? = some o) (hjl : j + 1 = ops.length) (k : Wl P n ds Q ops [o] F w) : Wg P n ds C Q ops (f + 1) l F w := by
  rw [Wg, h]
  subst hr
  intro i hi ha
  obtain rfl : i = j := by simpa using hi
  exact ⟨o, ho, by rw [if_pos hjl]; exact k⟩
theorem TG_of_Wg : ∀ (f : Nat) (l : List Nat) (F : Fr) (w : World), Wg P n ds C Q ops f l F w → TG P ops.toArray C (QA n ds Q) f l (act n ds F) w
  | 0, l, F, w, h => ⟨F, rfl, h⟩
  | f + 1, l, F, w, h => by
    rw [TG]
    rw [Wg] at h
    cases hq : nextQ ops.toArray l with
    | some q =>
      rw [hq] at h
      obtain ⟨o, ho, h⟩ := h
      have ho' : ops.toArray[q]? = some o := by simpa using ho
      unfold Wq at h
      have hst : qOp P ops.toArray C q (fun a => ∃ F', a = act n ds F' ∧ Wg P n ds C Q ops f (out q l) F' w) (act n ds F) := by unfold qOp; simp only [ho']; exact h
      obtain ⟨v, hy, F', hF, hw⟩ := yieldsIn_of_qOp ho' hst
      refine ⟨o, v, ho', hy, ?_⟩
      rw [hF]
      exact TG_of_Wg f (out q l) F' w hw
    | none =>
      rw [hq] at h
      intro j hj ha
      obtain ⟨o, ho, h⟩ := h j hj ha
      have hsz : ops.toArray.size = ops.length := by simp
      rw [hsz]
      split
      · rename_i he
        rw [if_pos he] at h
        exact wpOp_of_Wl ho h
      · rename_i he
        rw [if_neg he] at h
        refine wpOp_noQ ?_ ?_ (wpOp_of_Wl ho h)
        · rintro e a' w' hne ⟨F', _, h', _⟩; exact hne h'
        · rintro a' w' ⟨F', rfl, _, hC, h'⟩
          exact ⟨hC, TG_of_Wg f (out j l) F' w' h'⟩
/-- A region that draws its order, by a walk that parts. -/
theorem Wc.regionG {rid m : Nat} (hm : P.follows .mixedOrders = true) (hB : okGL ops.toArray = true) (C : World → Prop) (hC : C w.drew) (hlen : ops.length = m) (h : ∀ w', New w w' → Wg P n ds C Q ops m (List.range m) F w') : Wc P n ds Q (.region rid ops.toArray true) F w := by
  subst hlen
  unfold Wc
  refine wp_region_any hm ?_
  have hleft : left ops.toArray (Array.replicate ops.toArray.size false) = List.range ops.length := by
    unfold left
    simp only [List.size_toArray]
    refine List.filter_eq_self.2 fun k hk => ?_
    have := List.mem_range.1 hk
    simp [Array.getD_eq_getD_getElem?, Array.getElem?_replicate, this]
  have h0 : Clos ops.toArray (Array.replicate ops.toArray.size false) := by
    intro j o hj
    exfalso
    simp only [Array.getD_eq_getD_getElem?, Array.getElem?_replicate] at hj
    split at hj <;> simp at hj
  refine wpAny_of_TG (C := C) hB _ _ _ _ (by simp) (by rw [hleft]; simp) h0 (fun _ => hC) ?_
  rw [hleft]
  have := TG_of_Wg ops.length (List.range ops.length) F w.drew (h _ (Chg.drew _ _))
  simpa using this
end
attribute [irreducible] Wg
end Go.Proofs.YtjaendlcijmifaaGreatDoor.Wk

namespace Go.Proofs.YtjaendlcijmifaaGreatDoor
open Go Wk
open Go.RowKit (Below)
attribute [local irreducible] Go.Calls

section
variable {P : Program} {n : Nat} {ds : List Deferred} {F : Fr} {ops rest : List Oper} {d : Nat} {ty t t' : TypeId} {pos : String} {aft : Array Edge} {x y : Operand} {a b : List UInt8} {C : World → Prop} {K : Fr → Prop}
theorem Wk.Wq.slss (hx : ev n F x = vs a) (hy : ev n F y = vs b) (ht : a < b → Wq P n ds C K ops rest (upd F d (.bool true))) (hf : ¬ a < b → Wq P n ds C K ops rest (upd F d (.bool false))) :
    Wq P n ds C K ops (⟨some d, .binOp .lss t x y t', ty, pos, aft, none⟩ :: rest) F := by
  by_cases h : a < b
  · exact Wq.val (fun w _ => by simp only [execOp, hx, hy, Sem.run_bind, run_eqGuard_str, Result.andThen_ok, binOp_string_lss, ByteArray.toList_mk, Sem.run_pure, bytesLess_eq, decide_eq_true h]) (ht h)
  · exact Wq.val (fun w _ => by simp only [execOp, hx, hy, Sem.run_bind, run_eqGuard_str, Result.andThen_ok, binOp_string_lss, ByteArray.toList_mk, Sem.run_pure, bytesLess_eq, decide_eq_false h]) (hf h)
end
section
variable {P : Program} {n : Nat} {ds : List Deferred} {F : Fr} {w : World} {ops rest : List Oper} {d : Nat} {ty : TypeId} {pos : String} {aft : Array Edge} {C : World → Prop} {K : Fr → Prop}
theorem Wk.Wq.sliceToP {x hi : Operand} {t e : TypeId} {sz bytes : Nat} {agg : Bool} {z : Value} {k : IntKind} {p : Option Addr} {l cap b : Nat} [ht : Und P t (.slice e)] [he : ElT P e sz bytes agg z] (hx : ev n F x = .slice p l cap) (hh : ev n F hi = .int k b) (hb : b ≤ cap)
    (c : Wq P n ds C K ops rest (upd F d (.slice p b cap))) : Wq P n ds C K ops (⟨some d, .slice t x none (some hi) none, ty, pos, aft, none⟩ :: rest) F := by
  refine Wq.val (fun w _ => ?_) c
  have hr := run_sliceS (P := P) (w := w) (t := t) (p := p) (l := l) (cap := cap) (lo := none) (hi := some (.int k b)) (a := 0) (b := b) ht.h he (.inl ⟨rfl, rfl⟩) (.inr ⟨k, rfl⟩) (Nat.zero_le _) hb
  have e1 : (if cap = 0 then p else p.map (·.add (0 * sz))) = p := by
    split
    · rfl
    · rw [Nat.zero_mul]; cases p with
      | none => rfl
      | some q => simp [Addr.add]
  rw [e1, Nat.sub_zero, Nat.sub_zero] at hr
  simp only [execOp, Option.map_none, Option.map_some, hx, hh, Sem.run_bind, hr, Result.andThen_ok, Sem.run_pure]
theorem Wk.Wg.joinP {Q : Po} {f m : Nat} {l : List Nat} (l' : List Nat) (D : Fr → World → Prop) (k : ∀ F' w', D F' w' → Wg P n ds C Q ops f l' F' w') (h : (∀ F' w', D F' w' → Wg P n ds C Q ops f l' F' w') → Wg P n ds C Q ops (f + m) l F w) : Wg P n ds C Q ops (f + m) l F w := h k
end
section
variable {P : Program} {n : Nat} {ds : List Deferred} {Q : Po} {F : Fr} {w : World} {ops : List Oper} {C : World → Prop}
theorem Wk.Wg.qh {f q : Nat} {r : List Nat} {o : Oper} (h : nextQ ops.toArray (q :: r) = some q) (ho : ops[q]? = some o) (hl : out q (q :: r) = r) (k : Wq P n ds C (fun F' => Wg P n ds C Q ops f r F' w) ops [o] F) : Wg P n ds C Q ops (f + 1) (q :: r) F w :=
  Wg.quiet h ho hl k
theorem Wk.Wg.oneH {f j : Nat} {r : List Nat} {o : Oper} (h : nextQ ops.toArray (j :: r) = none) (hr : (j :: r).filter (availB ops.toArray (j :: r)) = [j]) (ho : ops[j]? = some o) (hjl : Nat.beq (j + 1) ops.length = false) (hl : out j (j :: r) = r)
    (k : Wl P n ds (fun e F' w' => e = .normal ∧ C w' ∧ Wg P n ds C Q ops f r F' w') ops [o] F w) : Wg P n ds C Q ops (f + 1) (j :: r) F w := Wg.one h hr ho hjl hl k
end
theorem ownB (a : Option Addr) (l l' c : Nat) : (Value.slice a l c).ownBlock = (Value.slice a l' c).ownBlock := by cases a <;> rfl
/-- What the reference's Play answers. -/
def PlayQ (w : World) (l : List Ev) (r : Value) (w' : World) : Prop :=
  (∀ n, playM l = .inl n → r = .tuple #[.slice none 0 0, vi n, vi 300]) ∧ (∀ S, playM l = .inr S → ∃ v R, SortOf S R ∧ r = .tuple #[v, vi 0, vi 0] ∧ OwnS (Wk.flat dvE) tDr 5 (fun k => w.heap.size ≤ k) No w' v R) ∧ New w w'
theorem PlayQ.bad {w w' : World} {l : List Ev} {i : Nat} (h : playM l = .inl i) (n : New w w') : PlayQ w l (.tuple #[.slice none 0 0, vi i, vi 300]) w' :=
  ⟨fun m hm => by rw [h] at hm; cases hm; rfl, fun S hS => (by rw [h] at hS; cases hS), n⟩
set_option maxRecDepth 8000 in
set_option maxHeartbeats 4000000 in
theorem PlayR_spec {Pb : Nat → Prop} {w : World} {v : Value} {l : List Ev} (h : RdS rEv 6 Pb w v l) (hl : l.length ≤ 2000000) (hw : ∀ e ∈ l, e.kd < 256 ∧ e.pa.length ≤ 100000000) :
    Calls Tryz.prog 19 #[v] w (Ret fun r w' => PlayQ w l r w') := by
  obtain ⟨a, cp, rfl, hc1, hc2⟩ := h.form
  simp only [maxLen] at hc2
  replace h := h.mono (Pb' := fun k => k < w.heap.size) (mono_flat _) fun k hk _ => hk
  refine calls_of_Wc Tryz.func19 rfl Tryz.ntmps19 rfl ?_
  (repeat' (first | refine Wl.assignE (by conv => { lhs; whnf }) ?_ | refine Wl.nil ?_ | refine Qseq.normal ?_ | refine Wc.seq ?_ | refine Wc.region ?_ | refine Wc.block ?_))
  refine Wc.loop (σ := Nat × DS × Value) (fun s => [(0, .slice a l.length cp), (5, s.2.2), (6, vi s.1)]) (fun s W => s.1 ≤ l.length ∧ s.2.1.length ≤ s.1 ∧ New w W ∧ OwnS (Wk.flat dvE) tDr 5 (fun k => w.heap.size ≤ k) No W s.2.2 s.2.1 ∧ ∃ S, SortOf S s.2.1 ∧ playS ((l.take s.1).map pk) 0 [] = .inr S) (fun s => l.length - s.1) (0, [], .slice none 0 0) ⟨rfl, rfl, rfl, trivial⟩ ⟨Nat.zero_le _, Nat.le_refl _, Chg.refl _ _, OwnS.nil, [], ⟨.nil, .nil⟩, by simp [playS]⟩ ?_
  rintro ⟨i, R, u⟩ G W ⟨hi, hfew, nW, ou, S, hS, hplay⟩
  dsimp only at hi hfew ou hS hplay
  simp only [upds]
  have zW := nW.size
  have hks := Keys.play (S := []) .nil hplay
  have hub : ∀ k, u.ownBlock = some k → w.heap.size ≤ k ∧ k < W.heap.size := fun k hk => ou.lt hk
  (repeat' (first | refine Wl.moveE (by conv => { lhs; whnf }) ?_ | refine Wl.assignE (by conv => { lhs; whnf }) ?_ | refine Wl.nil ?_ | refine Wl.lenS rfl ?_ | refine Qseq.normal ?_ | refine Wc.seq ?_ | refine Wc.region ?_ | refine Wc.block ?_ | refine Wc.skip ?_ | refine Wc.exit ?_ | refine Wc.ret ?_ | refine Qseq.exit ?_ | refine Qblk.hit ?_ | refine Qloop.exit ?_ | refine Wc.condT rfl ?_ | refine Wc.condF rfl ?_ | refine Wl.lss rfl rfl (fun _ => ?_) (fun _ => ?_)))
  · obtain ⟨y, hy⟩ := get_lt l (k := i) (by omega)
    obtain ⟨hyk, hyp⟩ := hw y (List.mem_of_getElem? hy)
    have hil := (List.getElem?_eq_some_iff.1 hy).1
    have bad : ∀ W', New w W' → stepD S y.pa y.kd = none → PlayQ w l (.tuple #[.slice none 0 0, vi i, vi 300]) W' := fun W' n hs => .bad (play_err hplay hy hs) n
    refine Wl.idxAddr (h.keep (stable_flat _) nW.keep) rfl rfl (by omega) (by rw [Int.toNat_natCast]; exact hy) fun bb o cs hcl hR hat => ?_
    obtain rfl : cs = evC y := hR
    (repeat' (refine Wl.fieldAddr rfl rfl ?_))
    refine Wl.load1 (u := vs y.pa) rfl (hat.get 4 rfl) ?_
    refine Wl.call (PathR_spec hyp) rfl ?_
    rintro _ W1 ⟨rfl, n1⟩
    cases hpa : pathM y.pa with
    | false =>
      (repeat' (first | refine Wl.moveE (by conv => { lhs; whnf }) ?_ | refine Wl.assignE (by conv => { lhs; whnf }) ?_ | refine Wl.nil ?_ | refine Wl.notB rfl ?_ | refine Qseq.normal ?_ | refine Wc.seq ?_ | refine Wc.region ?_ | refine Wc.ret ?_ | refine Qseq.ret ?_ | refine Qblk.ret ?_ | refine Qloop.ret ?_ | refine Wc.condT rfl ?_))
      refine Qfn.ret3 rfl rfl rfl rfl ⟨_, rfl, bad _ (nW.trans n1) ?_⟩
      unfold stepD
      rw [if_neg (fun hc => by rw [hpa] at hc; exact absurd hc.2.1 (by simp))]
    | true =>
    have n01 := nW.trans n1
    have o1 := ou.new (plain_flat _) n1
    obtain ⟨ua, uc, hu, hu1, hu2⟩ := ou.form
    subst hu
    simp only [maxLen] at hu2
    clear hat
    (repeat' (first | refine Wl.nil ?_ | refine Wl.notB rfl ?_ | refine Qseq.normal ?_ | refine Wc.skip ?_ | refine Wc.condF rfl ?_))
    refine Wc.seq ?_
    (repeat' (first | refine Wl.assignE (by conv => { lhs; whnf }) ?_ | refine Wl.nil ?_ | refine Qseq.normal ?_ | refine Wc.region ?_))
    refine Wc.cutR (fun F W' => ∃ k : Nat, agrees F [(0, .slice a l.length cp), (5, .slice ua R.length uc), (6, vi i), (7, vi k)] ∧ New W1 W' ∧ k ≤ R.length ∧ (∀ (j : Nat) (x : List UInt8 × Dv), j < k → R[j]? = some x → x.1 < y.pa) ∧ (∀ x, R[k]? = some x → ¬ x.1 < y.pa)) ?_ ?_
    · (repeat' (refine Wc.block ?_))
      refine Wc.loop (σ := Nat) (fun k => [(0, .slice a l.length cp), (5, .slice ua R.length uc), (6, vi i), (7, vi k)]) (fun k W' => k ≤ R.length ∧ New W1 W' ∧ ∀ (j : Nat) (x : List UInt8 × Dv), j < k → R[j]? = some x → x.1 < y.pa) (fun k => R.length - k) 0 ⟨rfl, rfl, rfl, rfl, trivial⟩ ⟨Nat.zero_le _, Chg.refl _ _, fun j x hj => absurd hj (Nat.not_lt_zero _)⟩ ?_
      rintro k G2 W2 ⟨hk, n2, hlo⟩
      simp only [upds]
      have o2 := o1.new (plain_flat _) n2
      (repeat' (refine Wc.seq ?_))
      refine Wc.regionN rfl (by kernel_rfl) ?_
      by_cases hkl : k < R.length
      · obtain ⟨x, hx⟩ := get_lt R hkl
        (repeat' (first | refine Wq.moveE (by conv => { lhs; whnf }) ?_ | refine Wq.guardY rfl rfl ?_ | refine Wq.lenS rfl ?_ | (refine Wq.lss rfl rfl (fun _ => ?_) (fun _ => ?_) <;> (first | (exfalso; omega) | skip))))
        refine Wq.idxAddr (o2.rd goodDv.mo) (fun w' n => n.keep) rfl rfl (by omega) (by rw [Int.toNat_natCast]; exact hx) fun bb o cs hcl hR hat => ?_
        obtain rfl : cs = dvE x := hR
        (repeat' (first | refine Wq.guardY rfl rfl ?_ | refine Wq.fieldAddr rfl rfl ?_))
        refine Wq.load1 (u := vs x.1) rfl (fun w' n => (hat w' n).get 0 rfl) ?_
        (repeat' (first | refine Wq.moveE (by conv => { lhs; whnf }) ?_ | refine Wq.guardY rfl rfl ?_))
        refine Wq.idxAddr (h.keep (stable_flat _) (n01.trans n2).keep) (fun w' n => n.keep) rfl rfl (by omega) (by rw [Int.toNat_natCast]; exact hy) fun bb o cs hcl hR hat => ?_
        obtain rfl : cs = evC y := hR
        (repeat' (first | refine Wq.guardY rfl rfl ?_ | refine Wq.fieldAddr rfl rfl ?_))
        refine Wq.load1 (u := vs y.pa) rfl (fun w' n => (hat w' n).get 4 rfl) ?_
        (try refine Wq.guardY rfl rfl ?_)
        refine Wk.Wq.slss rfl rfl (fun hlt => ?_) (fun hlt => ?_)
        · (repeat' (first | refine Wq.nil ?_ | refine Wq.pickTE rfl (by conv => { lhs; whnf }) ?_))
          intro W3 n3
          (repeat' (first | refine Wl.moveE (by conv => { lhs; whnf }) ?_ | refine Wl.assignE (by conv => { lhs; whnf }) ?_ | refine Wl.nil ?_ | refine Qseq.normal ?_ | refine Wc.region ?_ | refine Wc.block ?_ | refine Wc.skip ?_ | refine Qblk.normal ?_ | refine Wc.condT rfl ?_ | refine Wl.add rfl rfl (by omega) (by omega) ?_))
          refine Qloop.normal (k + 1) ⟨rfl, rfl, rfl, rfl, trivial⟩ ⟨by omega, n2.trans n3, fun j z hj hz => ?_⟩ (by omega)
          rcases Nat.lt_or_ge j k with hjk | hjk
          · exact hlo j z hjk hz
          · obtain rfl : j = k := by omega
            cases hx.symm.trans hz; exact hlt
        · (repeat' (first | refine Wq.nil ?_ | refine Wq.pickTE rfl (by conv => { lhs; whnf }) ?_))
          intro W3 n3
          (repeat' (first | refine Qseq.normal ?_ | refine Wc.exit ?_ | refine Qseq.exit ?_ | refine Qblk.hit ?_ | refine Qloop.exit ?_ | refine Wc.condF rfl ?_))
          exact Qm.normal ⟨k, ⟨rfl, rfl, rfl, rfl, trivial⟩, n2.trans n3, hk, hlo, fun z hz => by cases hx.symm.trans hz; exact hlt⟩
      · (repeat' (first | refine Wq.moveE (by conv => { lhs; whnf }) ?_ | refine Wq.nil ?_ | refine Wq.guardN rfl rfl ?_ | refine Wq.pickFE rfl (by conv => { lhs; whnf }) ?_ | refine Wq.lenS rfl ?_ | (refine Wq.lss rfl rfl (fun _ => ?_) (fun _ => ?_) <;> (first | (exfalso; omega) | skip))))
        intro W3 n3
        (repeat' (first | refine Qseq.normal ?_ | refine Wc.exit ?_ | refine Qseq.exit ?_ | refine Qblk.hit ?_ | refine Qloop.exit ?_ | refine Wc.condF rfl ?_))
        exact Qm.normal ⟨k, ⟨rfl, rfl, rfl, rfl, trivial⟩, n2.trans n3, hk, hlo, fun z hz => absurd (List.getElem?_eq_some_iff.1 hz).1 hkl⟩
    · rintro F2 W2 ⟨k, ag, n2, hk, hlo, hhi⟩
      refine Wc.frame _ ag fun G2 => ?_
      simp only [upds]
      clear ag
      have o2 := o1.new (plain_flat _) n2
      have n02 := n01.trans n2
      have z2 := n02.size
      have h2 := h.keep (stable_flat _) n02.keep
      have hub2 : ∀ k, (Value.slice ua R.length uc).ownBlock = some k → w.heap.size ≤ k ∧ k < W2.heap.size := fun k hk => o2.lt hk
      refine Wc.cutR (fun F W' => ∃ (u1 : Value) (R1 : DS) (d : Dv), agrees F [(0, .slice a l.length cp), (5, u1), (6, vi i), (7, vi k)] ∧ New w W' ∧ OwnS (Wk.flat dvE) tDr 5 (fun k => w.heap.size ≤ k) No W' u1 R1 ∧ R1.length ≤ i + 1 ∧ R1[k]? = some (y.pa, d) ∧ d = (look S y.pa).getD dv0 ∧ ∀ d', SortOf (putD S y.pa d') (R1.set k (y.pa, d'))) ?_ ?_
      · (repeat' (refine Wc.seq ?_))
        refine Wc.regionN rfl (by kernel_rfl) ?_
        by_cases hthere : ∃ d, R[k]? = some (y.pa, d)
        · obtain ⟨d, hx⟩ := hthere
          have hkl := (List.getElem?_eq_some_iff.1 hx).1
          have hth := fun d' => hS.there (d' := d') hks hx
          (repeat' (first | refine Wq.moveE (by conv => { lhs; whnf }) ?_ | refine Wq.guardY rfl rfl ?_ | refine Wq.lenS rfl ?_ | (refine Wq.eql rfl rfl (fun _ => ?_) (fun _ => ?_) <;> (first | (exfalso; omega) | skip))))
          refine Wq.idxAddr (o2.rd goodDv.mo) (fun w' n => n.keep) rfl rfl (by omega) (by rw [Int.toNat_natCast]; exact hx) fun bb o cs hcl hR hat => ?_
          obtain rfl : cs = dvE (y.pa, d) := hR
          (repeat' (first | refine Wq.guardY rfl rfl ?_ | refine Wq.fieldAddr rfl rfl ?_))
          refine Wq.load1 (u := vs y.pa) rfl (fun w' n => (hat w' n).get 0 rfl) ?_
          (repeat' (first | refine Wq.moveE (by conv => { lhs; whnf }) ?_ | refine Wq.guardY rfl rfl ?_))
          refine Wq.idxAddr h2 (fun w' n => n.keep) rfl rfl (by omega) (by rw [Int.toNat_natCast]; exact hy) fun bb o cs hcl hR hat => ?_
          obtain rfl : cs = evC y := hR
          (repeat' (first | refine Wq.guardY rfl rfl ?_ | refine Wq.fieldAddr rfl rfl ?_))
          refine Wq.load1 (u := vs y.pa) rfl (fun w' n => (hat w' n).get 4 rfl) ?_
          (try refine Wq.guardY rfl rfl ?_)
          refine Wq.sneq rfl rfl (fun e => absurd rfl e) (fun _ => ?_)
          (repeat' (first | refine Wq.nil ?_ | refine Wq.pickFE rfl (by conv => { lhs; whnf }) ?_))
          intro W3 n3
          (repeat' (first | refine Qseq.normal ?_ | refine Wc.skip ?_ | refine Wc.condF rfl ?_))
          exact Qm.normal ⟨_, R, d, ⟨rfl, rfl, rfl, rfl, trivial⟩, n02.trans n3, o2.new (plain_flat _) n3, by omega, hx, by rw [(hth d).1]; rfl, fun d' => (hth d').2⟩
        · have hgt : ∀ x, R[k]? = some x → y.pa < x.1 := fun x hx => lt_of_not (hhi x hx) fun e => hthere ⟨x.2, by rw [hx, ← e]⟩
          have hfr := fun d' => hS.fresh (d' := d') hlo hgt hk
          have hset : ∀ d', (R.take k ++ [(y.pa, dv0)] ++ R.drop k).set k (y.pa, d') = R.take k ++ (y.pa, d') :: R.drop k := fun d' => by
            have htl : (R.take k).length = k := by simp; omega
            rw [List.append_assoc, List.set_append_right _ _ (by omega), htl, Nat.sub_self]; rfl
          rcases Nat.lt_or_eq_of_le hk with hkl | hkl
          case' inr => (repeat' (first | refine Wq.moveE (by conv => { lhs; whnf }) ?_ | refine Wq.nil ?_ | refine Wq.guardN rfl rfl ?_ | refine Wq.pickTE rfl (by conv => { lhs; whnf }) ?_ | refine Wq.lenS rfl ?_ | (refine Wq.eql rfl rfl (fun _ => ?_) (fun _ => ?_) <;> (first | (exfalso; omega) | skip))))
          case' inl =>
            obtain ⟨x, hx⟩ := get_lt R (k := k) (by omega)
            have hne : x.1 ≠ y.pa := fun e => hthere ⟨x.2, by rw [hx, ← e]⟩
            (repeat' (first | refine Wq.moveE (by conv => { lhs; whnf }) ?_ | refine Wq.guardY rfl rfl ?_ | refine Wq.lenS rfl ?_ | (refine Wq.eql rfl rfl (fun _ => ?_) (fun _ => ?_) <;> (first | (exfalso; omega) | skip))))
            refine Wq.idxAddr (o2.rd goodDv.mo) (fun w' n => n.keep) rfl rfl (by omega) (by rw [Int.toNat_natCast]; exact hx) fun bb o cs hcl hR hat => ?_
            obtain rfl : cs = dvE x := hR
            (repeat' (first | refine Wq.guardY rfl rfl ?_ | refine Wq.fieldAddr rfl rfl ?_))
            refine Wq.load1 (u := vs x.1) rfl (fun w' n => (hat w' n).get 0 rfl) ?_
            (repeat' (first | refine Wq.moveE (by conv => { lhs; whnf }) ?_ | refine Wq.guardY rfl rfl ?_))
            refine Wq.idxAddr h2 (fun w' n => n.keep) rfl rfl (by omega) (by rw [Int.toNat_natCast]; exact hy) fun bb o cs hcl hR hat => ?_
            obtain rfl : cs = evC y := hR
            (repeat' (first | refine Wq.guardY rfl rfl ?_ | refine Wq.fieldAddr rfl rfl ?_))
            refine Wq.load1 (u := vs y.pa) rfl (fun w' n => (hat w' n).get 4 rfl) ?_
            (try refine Wq.guardY rfl rfl ?_)
            refine Wq.sneq rfl rfl (fun _ => ?_) (fun e => absurd e hne)
            (repeat' (first | refine Wq.nil ?_ | refine Wq.pickFE rfl (by conv => { lhs; whnf }) ?_))
          all_goals
            intro W3 n3
            have o3 := o2.new (plain_flat _) n3
            have n03 := n02.trans n3
            have z3 := n3.size
            (repeat' (first | refine Qseq.normal ?_ | refine Wc.seq ?_ | refine Wc.region ?_ | refine Wc.condT rfl ?_))
            refine Wl.buildSlice0 (R := Wk.flat dvE) (Pe := No) fun v4 W4 o4 n4 => ?_
            have o34 := o3.new (plain_flat _) n4
            have n04 := n03.trans n4
            have z4 := n4.size
            (repeat' (refine Wl.moveE (by conv => { lhs; whnf }) ?_))
            refine Wl.sliceFrom (o34.rd goodDv.mo) rfl rfl (by omega) (by omega) fun v5 h5 => ?_
            rw [Int.toNat_natCast] at h5
            refine Wl.appendAll goodDv o4 h5 (fun y cs hy => hy) rfl rfl (by omega) (by simp only [maxLen, List.length_nil, List.length_drop]; omega) (by simp only [List.length_nil, List.length_drop]; omega) fun v6 W6 o6 c6 lie6 _ => ?_
            rw [List.nil_append] at o6
            have hv4 : ∀ j, v4.ownBlock = some j → W3.heap.size ≤ j := fun j hj => (o4.lt hj).1
            have c36 : New W3 W6 := Chg.trans n4 c6 fun j hj e => by have := hv4 j e; omega
            have o36 := o3.new (plain_flat _) c36
            have n06 := n03.trans c36
            have z6 := c36.size
            have h6 := h.keep (stable_flat _) n06.keep
            have hv6 : ∀ j, v6.ownBlock = some j → W3.heap.size ≤ j := fun j hj => by have := (o6.lt hj).1; omega
            obtain ⟨r6, q6, hv6', _, _⟩ := o6.form
            subst hv6'
            clear o4 h5 c6 lie6 o34
            (repeat' (first | refine Wl.assignE (by conv => { lhs; whnf }) ?_ | refine Wl.nil ?_ | refine Qseq.normal ?_))
            refine Wc.regionT rfl (by kernel_rfl) (fun w' => Chg (fun j => (Value.slice ua R.length uc).ownBlock = some j) W6 w') (Chg.drew _ _) ?_
            intro W7 n7
            have hkeep : ∀ w', Chg (fun j => (Value.slice ua R.length uc).ownBlock = some j) W6 w' → Keep (fun j => j < w.heap.size) W6 w' := fun w' c => c.keep fun j hj e e' => by have := (hub2 j e').1; omega
            (repeat' (refine Wt.quiet rfl (Wq.moveE (by conv => { lhs; whnf }) (Wq.nil ?_))))
            refine Wt.quiet rfl (Wk.Wq.sliceToP rfl rfl (by omega) (Wq.nil ?_))
            (repeat' (refine Wt.quiet rfl (Wq.moveE (by conv => { lhs; whnf }) (Wq.nil ?_))))
            refine Wt.quiet rfl (Wq.idxAddr h6 hkeep rfl rfl (by omega) (by rw [Int.toNat_natCast]; exact hy) fun bb o cs hcl hR hat => Wq.nil ?_)
            obtain rfl : cs = evC y := hR
            (repeat' (refine Wt.quiet rfl (Wq.fieldAddr rfl rfl (Wq.nil ?_))))
            refine Wt.quiet rfl (Wq.load1 (u := vs y.pa) rfl (fun w' n => (hat w' n).get 4 rfl) (Wq.nil ?_))
            refine Wt.chain rfl (Wl.buildG (u := dvV y.pa dv0) rfl (by kernel_rfl) (Wl.nil ⟨rfl, n7.any, ?_⟩))
            refine Wt.chain rfl (Wl.buildSlice1 (R := Wk.flat dvE) (Pe := No) (y := (y.pa, dv0)) goodDv rfl rfl rfl rfl (by omega) (by omega) fun v8 W8 o8 m8 s8 e8 => Wl.nil ⟨rfl, (n7.trans m8).any, ?_⟩)
            have m68 := n7.trans m8
            have z8 := m68.size
            have hua : ua = none → R.length = 0 := by
              intro e
              subst e
              obtain ⟨cs, ⟨_, h0⟩, _⟩ := o36
              rcases h0 with h0 | ⟨_, _, _, h0, _⟩
              · exact h0.2
              · cases h0
            have otk := (o36.new (plain_flat _) m68).take (m := k) hk rfl (fun e => by have := hua e; omega)
            have htl : (R.take k).length = k := by simp; omega
            refine Wt.chain rfl (Wl.appendAll (R := Wk.flat dvE) goodDv otk (o8.rd goodDv.mo) (fun y cs hy => hy) rfl rfl (by omega) (by simp only [maxLen, List.length_singleton]; omega) (by simp only [List.length_singleton]; omega) fun v9 W9 o9 c9 lie9 _ => ?_)
            have c69 : Chg (fun j => (Value.slice ua R.length uc).ownBlock = some j) W6 W9 := Chg.trans m68.any c9 fun j _ e => (ownB ua k R.length uc) ▸ e
            have z9 := c9.size
            refine Wl.nil ⟨rfl, c69, ?_⟩
            have o69 := o6.chg (plain_flat _) c69 fun j hj e => by have := (hub2 j e).2; have := hv6 j hj; omega
            (repeat' (refine Wt.quiet rfl (Wq.moveE (by conv => { lhs; whnf }) (Wq.nil ?_))))
            refine Wt.chain rfl (Wl.appendAll (R := Wk.flat dvE) goodDv o9 (o69.rd goodDv.mo) (fun y cs hy => hy) rfl rfl (by omega) (by simp only [maxLen, List.length_append, List.length_singleton, List.length_drop]; omega) (by simp only [List.length_append, List.length_singleton, List.length_drop]; omega) fun va Wa oa ca liea _ => ?_)
            have c6a : Chg (fun j => (Value.slice ua R.length uc).ownBlock = some j) W6 Wa := Chg.trans c69 ca fun j hj e => by
              rcases lie9 with lie | lie
              · rw [lie, ownB ua k R.length uc] at e; exact e
              · have := lie j e; omega
            refine Wl.nil ⟨rfl, c6a, ?_⟩
            (repeat' (first | refine Wt.nil ?_ | refine Wt.quiet rfl (Wq.assignE (by conv => { lhs; whnf }) (Wq.nil ?_))))
            skip
            refine Qm.normal ⟨_, R.take k ++ [(y.pa, dv0)] ++ R.drop k, dv0, ⟨rfl, rfl, rfl, rfl, trivial⟩, Chg.trans n06 c6a fun j hj e => by have := (hub2 j e).1; omega, oa.mono goodDv.mo (fun j _ e => ?_) (fun _ _ e => e), ?_, ?_, by rw [(hfr dv0).1]; rfl, fun d' => ?_⟩
            · rcases e with (e | e) | e <;> omega
            · simp only [List.length_append, List.length_singleton, List.length_drop]; omega
            · rw [List.append_assoc, List.getElem?_append_right (by omega), htl, Nat.sub_self]; rfl
            · rw [hset]; exact (hfr d').2
      · rintro F3 W3 ⟨u1, R1, d, ag, n3, o3, hlen, hk1, hd, hput⟩
        refine Wc.frame _ ag fun G3 => ?_
        simp only [upds]
        clear ag
        have h3 := h.keep (stable_flat _) n3.keep
        have z3 := n3.size
        obtain ⟨g, cg, hu1', _, hglt, _⟩ := o3.blk (fun e => by rw [e] at hk1; simp at hk1)
        subst hu1'
        have hkl := (List.getElem?_eq_some_iff.1 hk1).1
        clear hub2 o2 n02 h2 hlo hhi
        skip
        refine Wc.seq ?_
        refine Wc.regionG (m := 16) rfl (by kernel_rfl) (New W3) (Chg.drew _ _) rfl ?_
        intro W4 n4
        show Wg _ _ _ _ _ _ _ [0, 1, 2, 3, 4, 5, 6, 7, 8, 9, 10, 11, 12, 13, 14, 15] _ _
        (repeat' (first | refine Wg.nil ?_ | (refine Wg.qh rfl rfl rfl ?_; (try refine Wq.guardY rfl rfl ?_); (first | refine Wq.moveE (by conv => { lhs; whnf }) ?_ | refine Wq.assignE (by conv => { lhs; whnf }) ?_ | refine Wq.extract rfl rfl ?_ | refine Wq.pickTE rfl (by conv => { lhs; whnf }) ?_ | refine Wq.pickFE rfl (by conv => { lhs; whnf }) ?_ | refine Wq.notB rfl ?_ | refine Wq.lenS rfl ?_ | refine Wq.lenStr rfl ?_ | refine Wq.nilP rfl ?_ | refine Wq.fieldAddr rfl rfl ?_ | refine Wq.add rfl rfl (by omega) (by omega) ?_ | refine Wq.sub rfl rfl (by omega) (by omega) ?_ | refine Wq.mul rfl rfl (by omega) (by omega) ?_ | refine Wq.convI rfl ?_ | (refine Wq.lss rfl rfl (fun _ => ?_) (fun _ => ?_) <;> (first | (exfalso; omega) | (exfalso; contradiction) | skip)) | (refine Wq.leq rfl rfl (fun _ => ?_) (fun _ => ?_) <;> (first | (exfalso; omega) | (exfalso; contradiction) | skip)) | (refine Wq.gtr rfl rfl (fun _ => ?_) (fun _ => ?_) <;> (first | (exfalso; omega) | (exfalso; contradiction) | skip)) | (refine Wq.geq rfl rfl (fun _ => ?_) (fun _ => ?_) <;> (first | (exfalso; omega) | (exfalso; contradiction) | skip)) | (refine Wq.eql rfl rfl (fun _ => ?_) (fun _ => ?_) <;> (first | (exfalso; omega) | (exfalso; contradiction) | skip)) | (refine Wq.neq rfl rfl (fun _ => ?_) (fun _ => ?_) <;> (first | (exfalso; omega) | (exfalso; contradiction) | skip)) | (refine Wq.seql rfl rfl (fun _ => ?_) (fun _ => ?_) <;> (first | (exfalso; omega) | (exfalso; contradiction) | skip)) | (refine Wq.sneq rfl rfl (fun _ => ?_) (fun _ => ?_) <;> (first | (exfalso; omega) | (exfalso; contradiction) | skip))); all_goals (try refine Wq.nil ?_))))
        refine Wk.Wg.qh rfl rfl rfl (Wq.idxAddr (o3.rd goodDv.mo) (fun w' n => n.keep) rfl rfl (by omega) (by rw [Int.toNat_natCast]; exact hk1) fun bb o cs hcl hR hat => Wq.nil ?_)
        obtain rfl : cs = dvE (y.pa, d) := hR
        refine Wk.Wg.qh rfl rfl rfl (Wq.loadAt hat rfl rfl (Wq.nil ?_))
        (repeat' (first | refine Wg.nil ?_ | (refine Wg.qh rfl rfl rfl ?_; (try refine Wq.guardY rfl rfl ?_); (first | refine Wq.moveE (by conv => { lhs; whnf }) ?_ | refine Wq.assignE (by conv => { lhs; whnf }) ?_ | refine Wq.extract rfl rfl ?_ | refine Wq.pickTE rfl (by conv => { lhs; whnf }) ?_ | refine Wq.pickFE rfl (by conv => { lhs; whnf }) ?_ | refine Wq.notB rfl ?_ | refine Wq.lenS rfl ?_ | refine Wq.lenStr rfl ?_ | refine Wq.nilP rfl ?_ | refine Wq.fieldAddr rfl rfl ?_ | refine Wq.add rfl rfl (by omega) (by omega) ?_ | refine Wq.sub rfl rfl (by omega) (by omega) ?_ | refine Wq.mul rfl rfl (by omega) (by omega) ?_ | refine Wq.convI rfl ?_ | (refine Wq.lss rfl rfl (fun _ => ?_) (fun _ => ?_) <;> (first | (exfalso; omega) | (exfalso; contradiction) | skip)) | (refine Wq.leq rfl rfl (fun _ => ?_) (fun _ => ?_) <;> (first | (exfalso; omega) | (exfalso; contradiction) | skip)) | (refine Wq.gtr rfl rfl (fun _ => ?_) (fun _ => ?_) <;> (first | (exfalso; omega) | (exfalso; contradiction) | skip)) | (refine Wq.geq rfl rfl (fun _ => ?_) (fun _ => ?_) <;> (first | (exfalso; omega) | (exfalso; contradiction) | skip)) | (refine Wq.eql rfl rfl (fun _ => ?_) (fun _ => ?_) <;> (first | (exfalso; omega) | (exfalso; contradiction) | skip)) | (refine Wq.neq rfl rfl (fun _ => ?_) (fun _ => ?_) <;> (first | (exfalso; omega) | (exfalso; contradiction) | skip)) | (refine Wq.seql rfl rfl (fun _ => ?_) (fun _ => ?_) <;> (first | (exfalso; omega) | (exfalso; contradiction) | skip)) | (refine Wq.sneq rfl rfl (fun _ => ?_) (fun _ => ?_) <;> (first | (exfalso; omega) | (exfalso; contradiction) | skip))); all_goals (try refine Wq.nil ?_))))
        refine Wk.Wg.qh rfl rfl rfl (Wq.idxAddr h3 (fun w' n => n.keep) rfl rfl (by omega) (by rw [Int.toNat_natCast]; exact hy) fun bb' o' cs hcl hR hat' => Wq.nil ?_)
        obtain rfl : cs = evC y := hR
        (repeat' (first | refine Wg.nil ?_ | (refine Wg.qh rfl rfl rfl ?_; (try refine Wq.guardY rfl rfl ?_); (first | refine Wq.moveE (by conv => { lhs; whnf }) ?_ | refine Wq.assignE (by conv => { lhs; whnf }) ?_ | refine Wq.extract rfl rfl ?_ | refine Wq.pickTE rfl (by conv => { lhs; whnf }) ?_ | refine Wq.pickFE rfl (by conv => { lhs; whnf }) ?_ | refine Wq.notB rfl ?_ | refine Wq.lenS rfl ?_ | refine Wq.lenStr rfl ?_ | refine Wq.nilP rfl ?_ | refine Wq.fieldAddr rfl rfl ?_ | refine Wq.add rfl rfl (by omega) (by omega) ?_ | refine Wq.sub rfl rfl (by omega) (by omega) ?_ | refine Wq.mul rfl rfl (by omega) (by omega) ?_ | refine Wq.convI rfl ?_ | (refine Wq.lss rfl rfl (fun _ => ?_) (fun _ => ?_) <;> (first | (exfalso; omega) | (exfalso; contradiction) | skip)) | (refine Wq.leq rfl rfl (fun _ => ?_) (fun _ => ?_) <;> (first | (exfalso; omega) | (exfalso; contradiction) | skip)) | (refine Wq.gtr rfl rfl (fun _ => ?_) (fun _ => ?_) <;> (first | (exfalso; omega) | (exfalso; contradiction) | skip)) | (refine Wq.geq rfl rfl (fun _ => ?_) (fun _ => ?_) <;> (first | (exfalso; omega) | (exfalso; contradiction) | skip)) | (refine Wq.eql rfl rfl (fun _ => ?_) (fun _ => ?_) <;> (first | (exfalso; omega) | (exfalso; contradiction) | skip)) | (refine Wq.neq rfl rfl (fun _ => ?_) (fun _ => ?_) <;> (first | (exfalso; omega) | (exfalso; contradiction) | skip)) | (refine Wq.seql rfl rfl (fun _ => ?_) (fun _ => ?_) <;> (first | (exfalso; omega) | (exfalso; contradiction) | skip)) | (refine Wq.sneq rfl rfl (fun _ => ?_) (fun _ => ?_) <;> (first | (exfalso; omega) | (exfalso; contradiction) | skip))); all_goals (try refine Wq.nil ?_))))
        refine Wk.Wg.qh rfl rfl rfl (Wq.load1 (u := .int .u8 y.kd) rfl (fun w' n => (hat' w' n).get 3 rfl) (Wq.nil ?_))
        refine Wk.Wg.joinP (f := 2) (m := 5) [14, 15] (fun F' w' => ∃ xb, agrees F' [(0, .slice a l.length cp), (5, .slice (some ⟨g, 0, none⟩) R1.length cg), (6, vi i), (7, vi k), (9, pT xb), (90, dvV y.pa (doM d y.kd)), (91, .bool (mayM d y.kd))] ∧ New W3 w' ∧ Bk w' xb tDr (dvC [] dv0) ∧ W3.heap.size ≤ xb) ?_ (fun K => ?_)
        rotate_left
        · have z4 := n4.size
          refine Wg.two rfl rfl rfl rfl rfl rfl rfl rfl
            (Wl.call (does_spec (d := d)) rfl fun r W5 hh => ?_)
            (Wl.alloc fun W5 b5 n5 s5 => ?_)
          · obtain ⟨rfl, n5⟩ := hh
            have z5 := n5.size
            refine Wl.nil ⟨rfl, n4.trans n5, ?_⟩
            (repeat' (first | refine Wg.nil ?_ | (refine Wg.qh rfl rfl rfl ?_; (try refine Wq.guardY rfl rfl ?_); (first | refine Wq.moveE (by conv => { lhs; whnf }) ?_ | refine Wq.assignE (by conv => { lhs; whnf }) ?_ | refine Wq.extract rfl rfl ?_ | refine Wq.pickTE rfl (by conv => { lhs; whnf }) ?_ | refine Wq.pickFE rfl (by conv => { lhs; whnf }) ?_ | refine Wq.notB rfl ?_ | refine Wq.lenS rfl ?_ | refine Wq.lenStr rfl ?_ | refine Wq.nilP rfl ?_ | refine Wq.fieldAddr rfl rfl ?_ | refine Wq.add rfl rfl (by omega) (by omega) ?_ | refine Wq.sub rfl rfl (by omega) (by omega) ?_ | refine Wq.mul rfl rfl (by omega) (by omega) ?_ | refine Wq.convI rfl ?_ | (refine Wq.lss rfl rfl (fun _ => ?_) (fun _ => ?_) <;> (first | (exfalso; omega) | (exfalso; contradiction) | skip)) | (refine Wq.leq rfl rfl (fun _ => ?_) (fun _ => ?_) <;> (first | (exfalso; omega) | (exfalso; contradiction) | skip)) | (refine Wq.gtr rfl rfl (fun _ => ?_) (fun _ => ?_) <;> (first | (exfalso; omega) | (exfalso; contradiction) | skip)) | (refine Wq.geq rfl rfl (fun _ => ?_) (fun _ => ?_) <;> (first | (exfalso; omega) | (exfalso; contradiction) | skip)) | (refine Wq.eql rfl rfl (fun _ => ?_) (fun _ => ?_) <;> (first | (exfalso; omega) | (exfalso; contradiction) | skip)) | (refine Wq.neq rfl rfl (fun _ => ?_) (fun _ => ?_) <;> (first | (exfalso; omega) | (exfalso; contradiction) | skip)) | (refine Wq.seql rfl rfl (fun _ => ?_) (fun _ => ?_) <;> (first | (exfalso; omega) | (exfalso; contradiction) | skip)) | (refine Wq.sneq rfl rfl (fun _ => ?_) (fun _ => ?_) <;> (first | (exfalso; omega) | (exfalso; contradiction) | skip))); all_goals (try refine Wq.nil ?_))))
            refine Wg.one rfl rfl rfl rfl rfl (Wl.alloc fun W6 b6 n6 s6 => ?_)
            exact Wl.nil ⟨rfl, (n4.trans n5).trans n6, K _ _ ⟨_, ⟨rfl, rfl, rfl, rfl, rfl, rfl, rfl, trivial⟩, (n4.trans n5).trans n6, b6, by omega⟩⟩
          · refine Wl.nil ⟨rfl, n4.trans n5, ?_⟩
            refine Wg.one rfl rfl rfl rfl rfl (Wl.call (does_spec (d := d)) rfl fun r W6 hh => ?_)
            obtain ⟨rfl, n6⟩ := hh
            refine Wl.nil ⟨rfl, (n4.trans n5).trans n6, ?_⟩
            (repeat' (first | refine Wg.nil ?_ | (refine Wg.qh rfl rfl rfl ?_; (try refine Wq.guardY rfl rfl ?_); (first | refine Wq.moveE (by conv => { lhs; whnf }) ?_ | refine Wq.assignE (by conv => { lhs; whnf }) ?_ | refine Wq.extract rfl rfl ?_ | refine Wq.pickTE rfl (by conv => { lhs; whnf }) ?_ | refine Wq.pickFE rfl (by conv => { lhs; whnf }) ?_ | refine Wq.notB rfl ?_ | refine Wq.lenS rfl ?_ | refine Wq.lenStr rfl ?_ | refine Wq.nilP rfl ?_ | refine Wq.fieldAddr rfl rfl ?_ | refine Wq.add rfl rfl (by omega) (by omega) ?_ | refine Wq.sub rfl rfl (by omega) (by omega) ?_ | refine Wq.mul rfl rfl (by omega) (by omega) ?_ | refine Wq.convI rfl ?_ | (refine Wq.lss rfl rfl (fun _ => ?_) (fun _ => ?_) <;> (first | (exfalso; omega) | (exfalso; contradiction) | skip)) | (refine Wq.leq rfl rfl (fun _ => ?_) (fun _ => ?_) <;> (first | (exfalso; omega) | (exfalso; contradiction) | skip)) | (refine Wq.gtr rfl rfl (fun _ => ?_) (fun _ => ?_) <;> (first | (exfalso; omega) | (exfalso; contradiction) | skip)) | (refine Wq.geq rfl rfl (fun _ => ?_) (fun _ => ?_) <;> (first | (exfalso; omega) | (exfalso; contradiction) | skip)) | (refine Wq.eql rfl rfl (fun _ => ?_) (fun _ => ?_) <;> (first | (exfalso; omega) | (exfalso; contradiction) | skip)) | (refine Wq.neq rfl rfl (fun _ => ?_) (fun _ => ?_) <;> (first | (exfalso; omega) | (exfalso; contradiction) | skip)) | (refine Wq.seql rfl rfl (fun _ => ?_) (fun _ => ?_) <;> (first | (exfalso; omega) | (exfalso; contradiction) | skip)) | (refine Wq.sneq rfl rfl (fun _ => ?_) (fun _ => ?_) <;> (first | (exfalso; omega) | (exfalso; contradiction) | skip))); all_goals (try refine Wq.nil ?_))))
            exact K _ _ ⟨_, ⟨rfl, rfl, rfl, rfl, rfl, rfl, rfl, trivial⟩, (n4.trans n5).trans n6, b5.chg n6 (fun e => e), by omega⟩
        rintro F4 W5 ⟨xb, hag, n5, b5, hxb⟩
        rw [← upds_of_agrees hag]
        simp only [upds]
        clear hag
        refine Wg.one rfl rfl rfl rfl rfl (Wl.storeB (o := 0) (new := dvC y.pa (doM d y.kd)) b5 rfl rfl rfl rfl (Nat.le_refl 5) (dvC_one _ _) fun W6 b6 c6 s6 => ?_)
        replace b6 : Bk W6 xb tDr (dvC y.pa (doM d y.kd)) := b6
        have n36 : New W3 W6 := Chg.trans n5 c6 fun k hk e => by omega
        refine Wl.nil ⟨rfl, n36, ?_⟩
        (repeat' (first | refine Wg.nil ?_ | (refine Wg.qh rfl rfl rfl ?_; (try refine Wq.guardY rfl rfl ?_); (first | refine Wq.moveE (by conv => { lhs; whnf }) ?_ | refine Wq.assignE (by conv => { lhs; whnf }) ?_ | refine Wq.extract rfl rfl ?_ | refine Wq.pickTE rfl (by conv => { lhs; whnf }) ?_ | refine Wq.pickFE rfl (by conv => { lhs; whnf }) ?_ | refine Wq.notB rfl ?_ | refine Wq.lenS rfl ?_ | refine Wq.lenStr rfl ?_ | refine Wq.nilP rfl ?_ | refine Wq.fieldAddr rfl rfl ?_ | refine Wq.add rfl rfl (by omega) (by omega) ?_ | refine Wq.sub rfl rfl (by omega) (by omega) ?_ | refine Wq.mul rfl rfl (by omega) (by omega) ?_ | refine Wq.convI rfl ?_ | (refine Wq.lss rfl rfl (fun _ => ?_) (fun _ => ?_) <;> (first | (exfalso; omega) | (exfalso; contradiction) | skip)) | (refine Wq.leq rfl rfl (fun _ => ?_) (fun _ => ?_) <;> (first | (exfalso; omega) | (exfalso; contradiction) | skip)) | (refine Wq.gtr rfl rfl (fun _ => ?_) (fun _ => ?_) <;> (first | (exfalso; omega) | (exfalso; contradiction) | skip)) | (refine Wq.geq rfl rfl (fun _ => ?_) (fun _ => ?_) <;> (first | (exfalso; omega) | (exfalso; contradiction) | skip)) | (refine Wq.eql rfl rfl (fun _ => ?_) (fun _ => ?_) <;> (first | (exfalso; omega) | (exfalso; contradiction) | skip)) | (refine Wq.neq rfl rfl (fun _ => ?_) (fun _ => ?_) <;> (first | (exfalso; omega) | (exfalso; contradiction) | skip)) | (refine Wq.seql rfl rfl (fun _ => ?_) (fun _ => ?_) <;> (first | (exfalso; omega) | (exfalso; contradiction) | skip)) | (refine Wq.sneq rfl rfl (fun _ => ?_) (fun _ => ?_) <;> (first | (exfalso; omega) | (exfalso; contradiction) | skip))); all_goals (try refine Wq.nil ?_))))
        cases hmay : mayM d y.kd with
        | false =>
          (repeat' (first | refine Wl.moveE (by conv => { lhs; whnf }) ?_ | refine Wl.assignE (by conv => { lhs; whnf }) ?_ | refine Wl.nil ?_ | refine Wl.notB rfl ?_ | refine Qseq.normal ?_ | refine Wc.seq ?_ | refine Wc.region ?_ | refine Wc.ret ?_ | refine Qseq.ret ?_ | refine Qblk.ret ?_ | refine Qloop.ret ?_ | refine Wc.condT rfl ?_))
          refine Qfn.ret3 rfl rfl rfl rfl ⟨_, rfl, bad _ (n3.trans n36) ?_⟩
          unfold stepD
          rw [if_neg (fun hc => by rw [← hd, hmay] at hc; exact absurd hc.2.2 (by simp))]
        | true =>
          (repeat' (first | refine Wl.moveE (by conv => { lhs; whnf }) ?_ | refine Wl.nil ?_ | refine Wl.notB rfl ?_ | refine Qseq.normal ?_ | refine Wc.seq ?_ | refine Wc.region ?_ | refine Wc.skip ?_ | refine Wc.condF rfl ?_))
          refine Wl.loadB b6 rfl rfl ?_
          refine Wl.idxP rfl rfl (by omega) (by omega) ?_
          refine Wl.storeOwnA (f := dvE) (q := (y.pa, doM d y.kd)) (j := k) (cap := cg) (fun _ => rfl) (fun x => dvC_one _ _) (o3.new (plain_flat _) n36) rfl (by omega) (by show Value.pointer _ = _; rw [Int.toNat_natCast, Nat.zero_add]) rfl rfl fun W7 o7 c7 => ?_
          (repeat' (first | refine Wl.moveE (by conv => { lhs; whnf }) ?_ | refine Wl.assignE (by conv => { lhs; whnf }) ?_ | refine Wl.nil ?_ | refine Qseq.normal ?_ | refine Wc.region ?_ | refine Qblk.normal ?_ | refine Wl.add rfl rfl (by omega) (by omega) ?_))
          have hkd : nameK y.kd ≠ [] := fun e => by
            rw [nameK_nil] at e
            have : mayM d y.kd = false := by unfold mayM; split <;> first | rfl | omega
            rw [hmay] at this; cases this
          have hs : stepD S y.pa y.kd = some (putD S y.pa (doM d y.kd)) := by
            unfold stepD
            rw [← hd, if_pos ⟨hkd, hpa, hmay⟩]
          have hob : ∀ k, (Value.slice (some ⟨g, 0, none⟩) R1.length cg).ownBlock = some k → w.heap.size ≤ k := fun k hk => (o3.lt hk).1
          exact Qloop.normal (i + 1, R1.set k (y.pa, doM d y.kd), _) ⟨rfl, rfl, rfl, trivial⟩ ⟨by dsimp only; omega, by dsimp only; rw [List.length_set]; omega, Chg.trans (n3.trans n36) c7 fun k hk e => by have := hob k e; omega, o7, _, hput _, play_ok hplay hy hs⟩ (by dsimp only; omega)
  · have e : i = l.length := by omega
    subst e
    rw [List.take_length] at hplay
    exact Qfn.ret3 rfl rfl rfl rfl ⟨_, rfl, fun m hm => (by unfold playM at hm; rw [hplay] at hm; cases hm), fun S' hS' => (by unfold playM at hS'; rw [hplay] at hS'; cases hS'; exact ⟨_, R, hS, rfl, ou⟩), nW⟩
end Go.Proofs.YtjaendlcijmifaaGreatDoor

namespace Go.Proofs.YtjaendlcijmifaaGreatDoor
open Go Wk
open Go.RowKit (Below)
attribute [local irreducible] Go.Calls

section
variable {P : Program} {n : Nat} {ds : List Deferred} {F : Fr} {ops rest : List Oper} {d : Nat} {ty t t' : TypeId} {pos : String} {aft : Array Edge} {C : World → Prop} {K : Fr → Prop}
theorem Wk.Wq.bneS {x y : Operand} {a : Bool} [ht : Und P t .bool] (hx : ev n F x = .bool a) (hy : ev n F y = .bool a) (c : Wq P n ds C K ops rest (upd F d (.bool false))) : Wq P n ds C K ops (⟨some d, .binOp .neq t x y t', ty, pos, aft, none⟩ :: rest) F :=
  Wq.val (fun w _ => by
    simp only [execOp, hx, hy, Sem.run_bind, run_eqGuard_bool, Result.andThen_ok, run_neq_bool w t a a ht.h, Sem.run_pure]
    cases a <;> rfl) c
end
set_option maxRecDepth 4000 in
set_option maxHeartbeats 1000000 in
theorem devices_spec {Pb Pc : Nat → Prop} {w : World} {u v : Value} {A : DS} (h : RdS (Wk.flat dvE) 5 Pb w u A) (h' : RdS (Wk.flat dvE) 5 Pc w v A) :
    Calls Tryz.prog 20 #[u, v] w (Ret fun r w' => r = .bool true ∧ New w w') := by
  obtain ⟨p, cp, rfl, hc1, hc2⟩ := h.form
  obtain ⟨q, cq, rfl, hd1, hd2⟩ := h'.form
  simp only [maxLen] at hc2 hd2
  refine calls_of_Wc Tryz.func20 rfl Tryz.ntmps20 rfl ?_
  (repeat' (first | refine Wl.moveE (by conv => { lhs; whnf }) ?_ | refine Wl.assignE (by conv => { lhs; whnf }) ?_ | refine Wl.nil ?_ | refine Wl.lenS rfl ?_ | refine Qseq.normal ?_ | refine Wc.seq ?_ | refine Wc.region ?_ | refine Wc.block ?_ | refine Wc.skip ?_ | refine Wc.condF rfl ?_ | (refine Wl.neq rfl rfl (fun _ => ?_) (fun _ => ?_) <;> (first | (exfalso; omega) | skip))))
  refine Wc.loop (σ := Nat) (fun i => [(0, .slice p A.length cp), (1, .slice q A.length cq), (5, vi i)]) (fun i w' => i ≤ A.length ∧ New w w') (fun i => A.length - i) 0 ⟨rfl, rfl, rfl, trivial⟩ ⟨Nat.zero_le _, Chg.refl _ _⟩ ?_
  rintro i G w1 ⟨hi, n1⟩
  simp only [upds]
  have g := h.keep (stable_flat _) n1.keep
  have g' := h'.keep (stable_flat _) n1.keep
  (repeat' (first | refine Wl.moveE (by conv => { lhs; whnf }) ?_ | refine Wl.assignE (by conv => { lhs; whnf }) ?_ | refine Wl.nil ?_ | refine Wl.lenS rfl ?_ | refine Qseq.normal ?_ | refine Wc.seq ?_ | refine Wc.region ?_ | refine Wc.block ?_ | refine Wc.skip ?_ | refine Wc.exit ?_ | refine Wc.ret ?_ | refine Qseq.exit ?_ | refine Qblk.hit ?_ | refine Qloop.exit ?_ | refine Wc.condT rfl ?_ | refine Wc.condF rfl ?_ | refine Wl.lss rfl rfl (fun _ => ?_) (fun _ => ?_)))
  · obtain ⟨x, hx⟩ := get_lt A (k := i) (by omega)
    refine Wl.idxAddr g rfl rfl (by omega) (by rw [Int.toNat_natCast]; exact hx) fun bb o cs hl hR hat => ?_
    obtain rfl : cs = dvE x := hR
    refine Wl.loadAt hat rfl rfl ?_
    refine Wl.alloc fun W2 b2 m2 s2 => ?_
    refine Wl.storeB (o := 0) (new := dvC x.1 x.2) b2 rfl rfl rfl rfl (Nat.le_refl 5) (dvC_one _ _) fun W3 b3 c3 s3 => ?_
    replace b3 : Bk W3 w1.heap.size tDev (dvC x.1 x.2) := b3
    have m03 : New w1 W3 := Chg.trans m2 c3 fun _ _ e => by omega
    have g3 := g'.keep (stable_flat _) m03.keep
    clear b2 m2 c3 s2 s3 hat
    (repeat' (first | refine Wl.nil ?_ | refine Qseq.normal ?_ | refine Wc.seq ?_))
    refine Wc.regionN rfl (by kernel_rfl) ?_
    (repeat' (refine Wq.fieldAddr rfl rfl ?_))
    refine Wq.load1 (u := vs x.1) rfl (fun w' n => (b3.chg n (fun e => e)).cell (o := 0) rfl) ?_
    (repeat' (refine Wq.moveE (by conv => { lhs; whnf }) ?_))
    refine Wq.idxAddr g3 (fun w' n => n.keep) rfl rfl (by omega) (by rw [Int.toNat_natCast]; exact hx) fun bb o cs hcl hR hat => ?_
    obtain rfl : cs = dvE x := hR
    (repeat' (refine Wq.fieldAddr rfl rfl ?_))
    refine Wq.load1 (u := vs x.1) rfl (fun w' n => (hat w' n).get 0 rfl) ?_
    refine Wq.sneq rfl rfl (fun e => absurd rfl e) (fun _ => ?_)
    (repeat' (first | refine Wq.moveE (by conv => { lhs; whnf }) ?_ | refine Wq.guardY rfl rfl ?_ | refine Wq.fieldAddr rfl rfl ?_))
    refine Wq.load1 (u := .bool x.2.bo) rfl (fun w' n => (b3.chg n (fun e => e)).cell (o := 1) rfl) ?_
    (repeat' (first | refine Wq.moveE (by conv => { lhs; whnf }) ?_ | refine Wq.guardY rfl rfl ?_))
    refine Wq.idxAddr g3 (fun w' n => n.keep) rfl rfl (by omega) (by rw [Int.toNat_natCast]; exact hx) fun bb o cs hcl hR hat => ?_
    obtain rfl : cs = dvE x := hR
    (repeat' (first | refine Wq.guardY rfl rfl ?_ | refine Wq.fieldAddr rfl rfl ?_))
    refine Wq.load1 (u := .bool x.2.bo) rfl (fun w' n => (hat w' n).get 1 rfl) ?_
    (try refine Wq.guardY rfl rfl ?_)
    refine Wk.Wq.bneS (a := x.2.bo) rfl rfl ?_
    (repeat' (first | refine Wq.moveE (by conv => { lhs; whnf }) ?_ | refine Wq.guardY rfl rfl ?_ | refine Wq.pickFE rfl (by conv => { lhs; whnf }) ?_ | refine Wq.fieldAddr rfl rfl ?_))
    refine Wq.load1 (u := .bool x.2.on) rfl (fun w' n => (b3.chg n (fun e => e)).cell (o := 2) rfl) ?_
    (repeat' (first | refine Wq.moveE (by conv => { lhs; whnf }) ?_ | refine Wq.guardY rfl rfl ?_))
    refine Wq.idxAddr g3 (fun w' n => n.keep) rfl rfl (by omega) (by rw [Int.toNat_natCast]; exact hx) fun bb o cs hcl hR hat => ?_
    obtain rfl : cs = dvE x := hR
    (repeat' (first | refine Wq.guardY rfl rfl ?_ | refine Wq.fieldAddr rfl rfl ?_))
    refine Wq.load1 (u := .bool x.2.on) rfl (fun w' n => (hat w' n).get 2 rfl) ?_
    (try refine Wq.guardY rfl rfl ?_)
    refine Wk.Wq.bneS (a := x.2.on) rfl rfl ?_
    (repeat' (first | refine Wq.moveE (by conv => { lhs; whnf }) ?_ | refine Wq.guardY rfl rfl ?_ | refine Wq.pickFE rfl (by conv => { lhs; whnf }) ?_ | refine Wq.fieldAddr rfl rfl ?_))
    refine Wq.load1 (u := .bool x.2.sl) rfl (fun w' n => (b3.chg n (fun e => e)).cell (o := 3) rfl) ?_
    (repeat' (first | refine Wq.moveE (by conv => { lhs; whnf }) ?_ | refine Wq.guardY rfl rfl ?_))
    refine Wq.idxAddr g3 (fun w' n => n.keep) rfl rfl (by omega) (by rw [Int.toNat_natCast]; exact hx) fun bb o cs hcl hR hat => ?_
    obtain rfl : cs = dvE x := hR
    (repeat' (first | refine Wq.guardY rfl rfl ?_ | refine Wq.fieldAddr rfl rfl ?_))
    refine Wq.load1 (u := .bool x.2.sl) rfl (fun w' n => (hat w' n).get 3 rfl) ?_
    (try refine Wq.guardY rfl rfl ?_)
    refine Wk.Wq.bneS (a := x.2.sl) rfl rfl ?_
    (repeat' (first | refine Wq.moveE (by conv => { lhs; whnf }) ?_ | refine Wq.guardY rfl rfl ?_ | refine Wq.pickFE rfl (by conv => { lhs; whnf }) ?_ | refine Wq.fieldAddr rfl rfl ?_))
    refine Wq.load1 (u := .bool x.2.go) rfl (fun w' n => (b3.chg n (fun e => e)).cell (o := 4) rfl) ?_
    (repeat' (first | refine Wq.moveE (by conv => { lhs; whnf }) ?_ | refine Wq.guardY rfl rfl ?_))
    refine Wq.idxAddr g3 (fun w' n => n.keep) rfl rfl (by omega) (by rw [Int.toNat_natCast]; exact hx) fun bb o cs hcl hR hat => ?_
    obtain rfl : cs = dvE x := hR
    (repeat' (first | refine Wq.guardY rfl rfl ?_ | refine Wq.fieldAddr rfl rfl ?_))
    refine Wq.load1 (u := .bool x.2.go) rfl (fun w' n => (hat w' n).get 4 rfl) ?_
    (try refine Wq.guardY rfl rfl ?_)
    refine Wk.Wq.bneS (a := x.2.go) rfl rfl ?_
    (repeat' (first | refine Wq.nil ?_ | refine Wq.pickFE rfl (by conv => { lhs; whnf }) ?_))
    intro W4 n4
    (repeat' (first | refine Wl.moveE (by conv => { lhs; whnf }) ?_ | refine Wl.assignE (by conv => { lhs; whnf }) ?_ | refine Wl.nil ?_ | refine Qseq.normal ?_ | refine Wc.region ?_ | refine Wc.skip ?_ | refine Qblk.normal ?_ | refine Wc.condF rfl ?_ | refine Wl.add rfl rfl (by omega) (by omega) ?_))
    exact Qloop.normal (i + 1) ⟨rfl, rfl, rfl, trivial⟩ ⟨by omega, (n1.trans m03).trans n4⟩ (by omega)
  · exact Qfn.ret1 rfl rfl ⟨_, rfl, rfl, n1⟩
/-- A device that is no device. -/
def dvX : List UInt8 × Dv := ([126], dv0)
set_option maxRecDepth 4000 in
set_option maxHeartbeats 1000000 in
theorem plays_spec {Pb Pc : Nat → Prop} {w : World} {u v : Value} {l : List Ev} (h : RdS rEv 6 Pb w u l) (h' : RdS rEv 6 Pc w v l) (hl : l.length ≤ 2000000) (hw : ∀ e ∈ l, e.kd < 256 ∧ e.pa.length ≤ 100000000) :
    Calls Tryz.prog 5 #[u, v] w (Ret fun r w' => r = .bool true ∧ New w w') := by
  refine calls_of_Wc Tryz.func5 rfl Tryz.ntmps5 rfl ?_
  (repeat' (first | refine Wl.moveE (by conv => { lhs; whnf }) ?_ | refine Wl.assignE (by conv => { lhs; whnf }) ?_ | refine Wl.nil ?_ | refine Qseq.normal ?_ | refine Wc.seq ?_ | refine Wc.region ?_))
  refine Wl.call (Play_spec h hl hw) rfl ?_
  rintro r1 w1 ⟨hb1, hg1, n1⟩
  cases hp : playM l with
  | inl m =>
    obtain rfl := hb1 m hp
    (repeat' (first | refine Wl.moveE (by conv => { lhs; whnf }) ?_ | refine Wl.assignE (by conv => { lhs; whnf }) ?_ | refine Wl.nil ?_ | refine Wl.extract rfl rfl ?_ | refine Qseq.normal ?_ | refine Wc.seq ?_ | refine Wc.region ?_))
    refine Wl.call (PlayR_spec (h'.keep (stable_flat _) n1.keep) hl hw) rfl ?_
    rintro r2 w2 ⟨hb2, _, n2⟩
    obtain rfl := hb2 m hp
    have n02 := n1.trans n2
    (repeat' (first | refine Wl.moveE (by conv => { lhs; whnf }) ?_ | refine Wl.assignE (by conv => { lhs; whnf }) ?_ | refine Wl.nil ?_ | refine Wl.extract rfl rfl ?_ | refine Qseq.normal ?_ | refine Wc.seq ?_ | refine Wc.region ?_))
    refine Wl.call (Play_spec (h.keep (stable_flat _) n02.keep) hl hw) rfl ?_
    rintro r3 w3 ⟨hb3, _, n3⟩
    obtain rfl := hb3 m hp
    have n03 := n02.trans n3
    (repeat' (first | refine Wl.moveE (by conv => { lhs; whnf }) ?_ | refine Wl.assignE (by conv => { lhs; whnf }) ?_ | refine Wl.nil ?_ | refine Wl.extract rfl rfl ?_ | refine Wl.guardY rfl rfl ?_ | refine Wl.pickFE rfl (by conv => { lhs; whnf }) ?_ | refine Qseq.normal ?_ | refine Wc.seq ?_ | refine Wc.region ?_ | (refine Wl.neq rfl rfl (fun _ => ?_) (fun _ => ?_) <;> (first | (exfalso; omega) | skip))))
    refine Wl.call (devices_spec (A := []) (Pb := No) (Pc := No) RdS.nil RdS.nil) rfl ?_
    rintro _ w4 ⟨rfl, n4⟩
    have n04 := n03.trans n4
    (repeat' (first | refine Wl.assignE (by conv => { lhs; whnf }) ?_ | refine Wl.nil ?_ | refine Wl.guardY rfl rfl ?_ | refine Wl.pickFE rfl (by conv => { lhs; whnf }) ?_ | refine Wl.notB rfl ?_ | refine Qseq.normal ?_ | refine Wc.seq ?_ | refine Wc.region ?_ | refine Wc.block ?_ | refine Wc.skip ?_ | refine Wc.condF rfl ?_))
    refine Wc.loop (σ := Unit) (fun _ => [(5, .slice none 0 0), (8, .slice none 0 0), (11, .slice none 0 0), (14, vi 0)]) (fun _ w' => New w w') (fun _ => 0) () ⟨rfl, rfl, rfl, rfl, trivial⟩ n04 ?_
    rintro _ G w5 n5
    simp only [upds]
    (repeat' (first | refine Wl.moveE (by conv => { lhs; whnf }) ?_ | refine Wl.nil ?_ | refine Wl.lenS rfl ?_ | refine Qseq.normal ?_ | refine Wc.seq ?_ | refine Wc.region ?_ | refine Wc.exit ?_ | refine Qseq.exit ?_ | refine Qblk.hit ?_ | refine Qloop.exit ?_ | refine Wc.condF rfl ?_ | (refine Wl.lss rfl rfl (fun _ => ?_) (fun _ => ?_) <;> (first | (exfalso; omega) | skip))))
    refine Wl.call (devices_spec (A := []) (Pb := No) (Pc := No) RdS.nil RdS.nil) rfl ?_
    rintro _ w6 ⟨rfl, n6⟩
    (repeat' (first | refine Wl.assignE (by conv => { lhs; whnf }) ?_ | refine Wl.nil ?_ | refine Qseq.normal ?_ | refine Wc.ret ?_))
    exact Qfn.ret1 rfl rfl ⟨_, rfl, rfl, n5.trans n6⟩
  | inr S =>
    obtain ⟨v1, R, hR, rfl, o1⟩ := hg1 S hp
    (repeat' (first | refine Wl.moveE (by conv => { lhs; whnf }) ?_ | refine Wl.assignE (by conv => { lhs; whnf }) ?_ | refine Wl.nil ?_ | refine Wl.extract rfl rfl ?_ | refine Qseq.normal ?_ | refine Wc.seq ?_ | refine Wc.region ?_))
    refine Wl.call (PlayR_spec (h'.keep (stable_flat _) n1.keep) hl hw) rfl ?_
    rintro r2 w2 ⟨_, hg2, n2⟩
    obtain ⟨v2, R2, hR2, rfl, o2⟩ := hg2 S hp
    obtain rfl := hR2.uniq hR
    have n02 := n1.trans n2
    (repeat' (first | refine Wl.moveE (by conv => { lhs; whnf }) ?_ | refine Wl.assignE (by conv => { lhs; whnf }) ?_ | refine Wl.nil ?_ | refine Wl.extract rfl rfl ?_ | refine Qseq.normal ?_ | refine Wc.seq ?_ | refine Wc.region ?_))
    refine Wl.call (Play_spec (h.keep (stable_flat _) n02.keep) hl hw) rfl ?_
    rintro r3 w3 ⟨_, hg3, n3⟩
    obtain ⟨v3, R3, hR3, rfl, o3⟩ := hg3 S hp
    obtain rfl := hR3.uniq hR
    have n03 := n02.trans n3
    have hb1 : ∀ k, v1.ownBlock = some k → w.heap.size ≤ k ∧ k < w1.heap.size := fun k hk => o1.lt hk
    have hb2 : ∀ k, v2.ownBlock = some k → w1.heap.size ≤ k := fun k hk => (o2.lt hk).1
    have hb3 : ∀ k, v3.ownBlock = some k → w2.heap.size ≤ k := fun k hk => (o3.lt hk).1
    have z1 := n1.size
    have z2 := n2.size
    have z3 := n3.size
    replace o1 := o1.new (plain_flat _) (n2.trans n3)
    replace o2 := o2.new (plain_flat _) n3
    obtain ⟨a1, c1, rfl, hf1, hf2⟩ := o1.form
    simp only [maxLen] at hf2
    obtain ⟨a2, c2, rfl, _, _⟩ := o2.form
    obtain ⟨a3, c3, rfl, _, _⟩ := o3.form
    (repeat' (first | refine Wl.moveE (by conv => { lhs; whnf }) ?_ | refine Wl.assignE (by conv => { lhs; whnf }) ?_ | refine Wl.nil ?_ | refine Wl.extract rfl rfl ?_ | refine Wl.guardY rfl rfl ?_ | refine Wl.pickFE rfl (by conv => { lhs; whnf }) ?_ | refine Qseq.normal ?_ | refine Wc.seq ?_ | refine Wc.region ?_ | (refine Wl.neq rfl rfl (fun _ => ?_) (fun _ => ?_) <;> (first | (exfalso; omega) | skip))))
    refine Wl.call (devices_spec (o1.rd goodDv.mo) (o2.rd goodDv.mo)) rfl ?_
    rintro _ w4 ⟨rfl, n4⟩
    have n04 := n03.trans n4
    replace o1 := o1.new (plain_flat _) n4
    replace o2 := o2.new (plain_flat _) n4
    replace o3 := o3.new (plain_flat _) n4
    (repeat' (first | refine Wl.assignE (by conv => { lhs; whnf }) ?_ | refine Wl.nil ?_ | refine Wl.guardY rfl rfl ?_ | refine Wl.pickFE rfl (by conv => { lhs; whnf }) ?_ | refine Wl.notB rfl ?_ | refine Qseq.normal ?_ | refine Wc.seq ?_ | refine Wc.region ?_ | refine Wc.block ?_ | refine Wc.skip ?_ | refine Wc.condF rfl ?_))
    refine Wc.loop (σ := Nat × DS) (fun s => [(5, .slice a1 R3.length c1), (8, .slice a2 R3.length c2), (11, .slice a3 R3.length c3), (14, vi s.1)]) (fun s W => s.1 ≤ R3.length ∧ s.2.length = R3.length ∧ OwnS (Wk.flat dvE) tDev 5 (fun k => w.heap.size ≤ k) No W (.slice a1 R3.length c1) s.2 ∧ Chg (fun k => (Value.slice a1 R3.length c1).ownBlock = some k) w4 W) (fun s => R3.length - s.1) (0, R3) ⟨rfl, rfl, rfl, rfl, trivial⟩ ⟨Nat.zero_le _, rfl, o1, Chg.refl _ _⟩ ?_
    clear o1
    rintro ⟨i, la⟩ G1 W ⟨hi, hil, oa, cW⟩
    dsimp only at hi hil oa
    simp only [upds]
    (repeat' (first | refine Wl.moveE (by conv => { lhs; whnf }) ?_ | refine Wl.nil ?_ | refine Wl.lenS rfl ?_ | refine Qseq.normal ?_ | refine Wc.seq ?_ | refine Wc.region ?_ | refine Wc.block ?_ | refine Wc.skip ?_ | refine Wc.exit ?_ | refine Qseq.exit ?_ | refine Qblk.hit ?_ | refine Qloop.exit ?_ | refine Wc.condT rfl ?_ | refine Wc.condF rfl ?_ | refine Wl.lss rfl rfl (fun _ => ?_) (fun _ => ?_)))
    · obtain ⟨g, cg, hv, _, _, _⟩ := oa.blk (fun e => by rw [e] at hil; simp at hil; omega)
      injection hv with e1 e2 e3
      subst e1
      refine Wl.buildG (u := .agg (dvE dvX).toArray) rfl (by kernel_rfl) ?_
      refine Wl.idxP rfl rfl (by omega) (by omega) ?_
      refine Wl.storeOwnA (f := dvE) (q := dvX) (j := i) (cap := c1) (fun _ => rfl) (fun x => dvC_one _ _) oa (by rw [hil]) (by omega) (by show Value.pointer _ = _; rw [Int.toNat_natCast, Nat.zero_add]) rfl rfl fun W1 o1 d1 => ?_
      (repeat' (first | refine Wl.moveE (by conv => { lhs; whnf }) ?_ | refine Wl.assignE (by conv => { lhs; whnf }) ?_ | refine Wl.nil ?_ | refine Qseq.normal ?_ | refine Wc.region ?_ | refine Qblk.normal ?_ | refine Wl.add rfl rfl (by omega) (by omega) ?_))
      exact Qloop.normal (i + 1, la.set i dvX) ⟨rfl, rfl, rfl, rfl, trivial⟩ ⟨by dsimp only; omega, by dsimp only; rw [List.length_set]; exact hil, o1, Chg.trans cW d1 fun _ _ e => e⟩ (by dsimp only; omega)
    replace o2 := o2.chg (plain_flat _) cW fun k hk e => by have := hb1 k e; have := hb2 k hk; omega
    replace o3 := o3.chg (plain_flat _) cW fun k hk e => by have := hb1 k e; have := hb3 k hk; omega
    have n0W : New w W := Chg.trans n04 cW fun k hk e => by have := hb1 k e; omega
    refine Wl.call (devices_spec (o3.rd goodDv.mo) (o2.rd goodDv.mo)) rfl ?_
    rintro _ w6 ⟨rfl, n6⟩
    (repeat' (first | refine Wl.assignE (by conv => { lhs; whnf }) ?_ | refine Wl.nil ?_ | refine Qseq.normal ?_ | refine Wc.ret ?_))
    exact Qfn.ret1 rfl rfl ⟨_, rfl, rfl, n0W.trans n6⟩
end Go.Proofs.YtjaendlcijmifaaGreatDoor

namespace Go.Proofs.YtjaendlcijmifaaGreatDoor
open Go Wk
open Go.RowKit (Below)
attribute [local irreducible] Go.Calls

def noteE (e : Ev) : Ev := ⟨e.id, e.ca, e.tm, 9, e.pa, e.ar⟩
def ev77 : Ev := ⟨0, 0, 0, 77, [], 0⟩
theorem part_set {l r : List Ev} {i : Nat} {y : Ev} (hy : l[i]? = some y) : ((l.take i).map noteE ++ l.drop i ++ r).set i (noteE y) = (l.take (i + 1)).map noteE ++ l.drop (i + 1) ++ r := by
  have hl := (List.getElem?_eq_some_iff.1 hy).1
  have htl : ((l.take i).map noteE).length = i := by simp; omega
  rw [List.append_assoc, List.set_append_right _ _ (by omega), htl, Nat.sub_self, dropC hy, take_snoc' hy, List.map_append, List.cons_append, List.set_cons_zero, List.append_assoc, List.append_assoc]
  rfl
theorem part_get {l r : List Ev} {i : Nat} {y : Ev} (hy : l[i]? = some y) : ((l.take i).map noteE ++ l.drop i ++ r)[i]? = some y := by
  have hl := (List.getElem?_eq_some_iff.1 hy).1
  have htl : ((l.take i).map noteE).length = i := by simp; omega
  rw [List.append_assoc, List.getElem?_append_right (by omega), htl, Nat.sub_self, dropC hy]; rfl
set_option maxRecDepth 8000 in
set_option maxHeartbeats 4000000 in
theorem plays_law {w : World} {v : Value} {l : List Ev} (ht : Tb w) (h : RdS rEv 6 (fun _ => True) w v l) (hl : l.length ≤ 1500000) (hw : ∀ e ∈ l, EvW e ∧ e.pa.length ≤ 100000000) :
    Calls Tryz.prog 3 #[v] w (Ret fun r w' => r = .bool true ∧ New w w') := by
  obtain ⟨a1, cp1, rfl, hc1, hd1⟩ := h.form
  simp only [maxLen] at hd1
  replace h := h.mono (Pb' := fun k => k < w.heap.size) (mono_flat _) fun k hk _ => hk
  refine calls_of_Wc Tryz.func3 rfl Tryz.ntmps3 rfl ?_
  (repeat' (first | refine Wl.assignE (by conv => { lhs; whnf }) ?_ | refine Wl.nil ?_ | refine Qseq.normal ?_ | refine Wc.seq ?_ | refine Wc.region ?_))
  refine Wl.buildSlice0 (R := rEv) (Pe := No) fun v1 w1 o1 n1 => ?_
  (repeat' (refine Wl.moveE (by conv => { lhs; whnf }) ?_))
  refine Wl.appendAll goodEv o1 (h.keep (stable_flat _) n1.keep) (fun y cs hy => hy) rfl rfl (by omega) (by simp only [maxLen, List.length_nil]; omega) (by simp only [List.length_nil]; omega) fun vt w2 ot c2 lie2 _ => ?_
  rw [List.nil_append] at ot
  have s1 := n1.size
  have n02 : New w w2 := Chg.trans n1 c2 fun k hk e => by have := (o1.lt e).1; omega
  have z2 := n02.size
  replace ot := ot.mono goodEv.mo (Pb' := fun k => w.heap.size ≤ k ∧ k < w2.heap.size) (Pe' := No) (fun k hk e => by rcases e with e | e <;> omega) (fun _ _ e => e)
  obtain ⟨at', ct, rfl, hct1, hct2⟩ := ot.form
  have hbt : ∀ k, (Value.slice at' l.length ct).ownBlock = some k → w.heap.size ≤ k ∧ k < w2.heap.size := fun k hk => (ot.lt hk).1
  clear o1 n1 c2 lie2
  (repeat' (first | refine Wl.assignE (by conv => { lhs; whnf }) ?_ | refine Wl.nil ?_ | refine Qseq.normal ?_ | refine Wc.seq ?_ | refine Wc.region ?_ | refine Wc.block ?_))
  refine Wc.loop (σ := Nat × Value) (fun s => [(0, .slice a1 l.length cp1), (3, s.2), (4, .slice at' l.length ct), (5, vi s.1)]) (fun s W => s.1 ≤ l.length ∧ New w W ∧ w2.heap.size ≤ W.heap.size ∧ OwnS rEv 27 6 (fun k => w2.heap.size ≤ k) No W s.2 (l.take s.1) ∧ OwnS rEv 26 6 (fun k => w.heap.size ≤ k ∧ k < w2.heap.size) No W (.slice at' l.length ct) ((l.take s.1).map noteE ++ l.drop s.1 ++ [])) (fun s => l.length - s.1) (0, .slice none 0 0) ⟨rfl, rfl, rfl, rfl, trivial⟩ ⟨Nat.zero_le _, n02, Nat.le_refl _, OwnS.nil, by simpa using ot⟩ ?_
  clear ot n02
  rintro ⟨i, vm⟩ G W ⟨hi, n0, zW, om, ot⟩
  dsimp only at hi om ot
  simp only [upds]
  have htl : ((l.take i).map noteE ++ l.drop i ++ []).length = l.length := by simp; omega
  have hbm : ∀ k, vm.ownBlock = some k → w2.heap.size ≤ k := fun k hk => (om.lt hk).1
  (repeat' (first | refine Wl.moveE (by conv => { lhs; whnf }) ?_ | refine Wl.nil ?_ | refine Wl.lenS rfl ?_ | refine Qseq.normal ?_ | refine Wc.seq ?_ | refine Wc.region ?_ | refine Wc.block ?_ | refine Wc.skip ?_ | refine Wc.exit ?_ | refine Qseq.exit ?_ | refine Qblk.hit ?_ | refine Qloop.exit ?_ | refine Wc.condT rfl ?_ | refine Wc.condF rfl ?_ | refine Wl.lss rfl rfl (fun _ => ?_) (fun _ => ?_)))
  · obtain ⟨y, hy⟩ := get_lt l (k := i) (by omega)
    refine Wl.idxAddr (h.keep (stable_flat _) n0.keep) rfl rfl (by omega) (by rw [Int.toNat_natCast]; exact hy) fun bb o cs hcl hR hat => ?_
    obtain rfl : cs = evC y := hR
    refine Wl.loadAt hat rfl rfl ?_
    refine Wl.alloc fun W2 b2 m2 s2 => ?_
    refine Wl.storeB (o := 0) (new := evC y) b2 rfl rfl rfl rfl (Nat.le_refl 6) (evC_one _) fun W3 b3 c3 s3 => ?_
    replace b3 : Bk W3 W.heap.size 26 (evC y) := b3
    have m03 : New W W3 := Chg.trans m2 c3 fun _ _ e => by omega
    have n03 := n0.trans m03
    have z3 := m03.size
    have om3 := om.new (plain_flat _) m03
    have ot3 := ot.new (plain_flat _) m03
    clear b2 m2 c3 s2 s3 hat n0 om ot
    (repeat' (first | refine Wl.moveE (by conv => { lhs; whnf }) ?_ | refine Wl.nil ?_ | refine Qseq.normal ?_ | refine Wc.seq ?_ | refine Wc.region ?_ | refine Wl.fieldAddr rfl rfl ?_))
    refine Wl.load1 (u := .int .u64 y.id) rfl (b3.cell (o := 0) rfl) ?_
    (repeat' (refine Wl.fieldAddr rfl rfl ?_))
    refine Wl.load1 (u := .int .u64 y.ca) rfl (b3.cell (o := 1) rfl) ?_
    (repeat' (refine Wl.fieldAddr rfl rfl ?_))
    refine Wl.load1 (u := vi y.tm) rfl (b3.cell (o := 2) rfl) ?_
    (repeat' (refine Wl.fieldAddr rfl rfl ?_))
    refine Wl.load1 (u := .int .u8 y.kd) rfl (b3.cell (o := 3) rfl) ?_
    (repeat' (refine Wl.fieldAddr rfl rfl ?_))
    refine Wl.load1 (u := vs y.pa) rfl (b3.cell (o := 4) rfl) ?_
    (repeat' (refine Wl.fieldAddr rfl rfl ?_))
    refine Wl.load1 (u := vi y.ar) rfl (b3.cell (o := 5) rfl) ?_
    refine Wl.buildG (u := evV y) rfl (by kernel_rfl) ?_
    refine Wl.append1 (y := y) goodEv om3 rfl rfl rfl rfl rfl (by omega) (by omega) (by simp only [maxLen, List.length_take]; omega) (by simp only [List.length_take]; omega) rfl rfl fun vm' W4 p om4 c4 lie4 => ?_
    rw [← take_snoc' hy] at om4
    have ot4 := ot3.chg (plain_flat _) c4 fun k hk e => by have := hbt k hk; have := hbm k e; omega
    have n04 : New w W4 := Chg.trans n03 c4 fun k hk e => by have := hbm k e; omega
    have z4 := c4.size
    have hbm' : ∀ k, vm'.ownBlock = some k → w2.heap.size ≤ k := fun k hk => by
      rcases lie4 with lie | lie
      · rw [lie] at hk; exact hbm k hk
      · have := lie k hk; omega
    (repeat' (first | refine Wl.moveE (by conv => { lhs; whnf }) ?_ | refine Wl.assignE (by conv => { lhs; whnf }) ?_ | refine Wl.nil ?_ | refine Qseq.normal ?_ | refine Wc.region ?_))
    obtain ⟨g, cg, hv, _, _, _⟩ := ot4.blk (fun e => by rw [e] at htl; simp at htl; omega)
    injection hv with e1 e2 e3
    subst e1
    refine Wl.idxP rfl rfl (by omega) (by omega) ?_
    refine Wl.fieldAddr rfl rfl ?_
    refine Wl.storeOwnF (f := evC) (sz := 6) (j := i) (o := 3) (p := y) (q := noteE y) (cap := ct) (fun _ => rfl) (by decide) rfl (part_get hy) rfl ot4 (by rw [htl]) (by show Value.pointer _ = _; rw [Int.toNat_natCast, Nat.zero_add]) rfl fun W5 ot5 c5 => ?_
    rw [part_set hy] at ot5
    (repeat' (first | refine Wl.moveE (by conv => { lhs; whnf }) ?_ | refine Wl.assignE (by conv => { lhs; whnf }) ?_ | refine Wl.nil ?_ | refine Qseq.normal ?_ | refine Wc.region ?_ | refine Qblk.normal ?_ | refine Wl.add rfl rfl (by omega) (by omega) ?_))
    exact Qloop.normal (i + 1, vm') ⟨rfl, rfl, rfl, rfl, trivial⟩ ⟨by dsimp only; omega, Chg.trans n04 c5 fun k hk e => by have := (hbt k e).1; omega, by have := c5.size; omega, (om4.mono goodEv.mo (fun k _ e => by rcases e with e | e <;> omega) fun _ _ e => e).chg (plain_flat _) c5 fun k hk e => by have := hbm' k hk; have := (hbt k e).2; omega, ot5⟩ (by dsimp only; omega)
  have e : i = l.length := by omega
  subst e
  rw [List.take_length] at om
  rw [List.take_length, List.drop_length, List.append_nil, List.append_nil] at ot
  refine Wl.buildG (u := evV ev77) rfl (by kernel_rfl) ?_
  refine Wl.append1 (y := ev77) goodEv om rfl rfl rfl rfl rfl (by omega) (by omega) (by simp only [maxLen]; omega) (by omega) rfl rfl fun m W1 p om1 c1 lie1 => ?_
  have hbm1 : ∀ k, m.ownBlock = some k → w2.heap.size ≤ k := fun k hk => by
    rcases lie1 with lie | lie
    · rw [lie] at hk; exact hbm k hk
    · have := lie k hk; omega
  have ot1 := ot.chg (plain_flat _) c1 fun k hk e => by have := hbt k hk; have := hbm k e; omega
  have n01 : New w W1 := Chg.trans n0 c1 fun k hk e => by have := hbm k e; omega
  replace om1 := om1.mono goodEv.mo (Pb' := fun k => w2.heap.size ≤ k) (Pe' := No) (fun k _ e => by rcases e with e | e <;> omega) (fun _ _ e => e)
  clear om ot c1 n0 lie1
  have hml : (l ++ [ev77]).length = l.length + 1 := by simp
  have htk : (l ++ [ev77]).take ((l.length : Nat) : Int).toNat = l := by simp
  have hlast : (l ++ [ev77])[l.length]? = some ev77 := by simp
  have hwl : ∀ e ∈ l, e.kd < 256 ∧ e.pa.length ≤ 100000000 := fun e he => ⟨(hw e he).1.kd, (hw e he).2⟩
  obtain ⟨am, cm, hm, hm1, hm2⟩ := om1.form
  rw [hml] at hm
  subst hm
  simp only [maxLen] at hm2
  have z1 := n01.size
  (repeat' (first | refine Wl.moveE (by conv => { lhs; whnf }) ?_ | refine Wl.assignE (by conv => { lhs; whnf }) ?_ | refine Wl.nil ?_ | refine Wl.lenS rfl ?_ | refine Qseq.normal ?_ | refine Wc.seq ?_ | refine Wc.region ?_))
  refine Wl.sliceOwn (b := (l.length : Nat)) om1 rfl rfl (by omega) (by omega) fun v4 o4 e4 => ?_
  rw [htk] at o4
  (repeat' (refine Wl.moveE (by conv => { lhs; whnf }) ?_))
  refine Wl.call (plays_spec (o4.rd goodEv.mo) (h.keep (stable_flat _) n01.keep) (by omega) hwl) rfl ?_
  rintro _ W2 ⟨rfl, n2⟩
  have n02 := n01.trans n2
  have om2 := om1.new (plain_flat _) n2
  have ot2 := ot1.new (plain_flat _) n2
  clear o4 e4 om1 ot1 n01
  (repeat' (first | refine Wl.moveE (by conv => { lhs; whnf }) ?_ | refine Wl.guardY rfl rfl ?_ | refine Wl.notB rfl ?_ | refine Wl.lenS rfl ?_))
  refine Wl.sliceOwn (b := (l.length : Nat)) om2 rfl rfl (by omega) (by omega) fun v5 o5 e5 => ?_
  rw [htk] at o5
  (try refine Wl.guardY rfl rfl ?_)
  refine Wl.call (events_spec (o5.rd goodEv.mo) (by omega)) rfl ?_
  rintro v6 W3 ⟨o6, n3⟩
  have n03 := n02.trans n3
  have om3 := om2.new (plain_flat _) n3
  have ot3 := ot2.new (plain_flat _) n3
  clear o5 e5 om2 ot2 n02
  (repeat' (first | refine Wl.moveE (by conv => { lhs; whnf }) ?_ | refine Wl.guardY rfl rfl ?_))
  refine Wl.call (SameS_spec (o6.rd goodEv.mo) (h.keep (stable_flat _) n03.keep)) rfl ?_
  rintro rv W4 ⟨hrv, n4⟩
  obtain rfl : rv = .bool true := by rw [hrv, decide_eq_true rfl]
  clear hrv
  have n04 := n03.trans n4
  have om4 := om3.new (plain_flat _) n4
  have ot4 := ot3.new (plain_flat _) n4
  clear o6 om3 ot3 n03
  (repeat' (first | refine Wl.moveE (by conv => { lhs; whnf }) ?_ | refine Wl.guardY rfl rfl ?_ | refine Wl.pickFE rfl (by conv => { lhs; whnf }) ?_ | refine Wl.notB rfl ?_ | refine Wl.lenS rfl ?_))
  refine Wl.idxAddr (j := ((l.length : Nat) : Int)) (om4.rd goodEv.mo) rfl rfl (by omega) (by rw [Int.toNat_natCast]; exact hlast) fun bb o cs hcl hR hat => ?_
  obtain rfl : cs = evC ev77 := hR
  (repeat' (first | refine Wl.guardY rfl rfl ?_ | refine Wl.fieldAddr rfl rfl ?_))
  refine Wl.load1 (u := .int .u8 77) rfl (hat.get 3 rfl) ?_
  clear hat
  (repeat' (first | refine Wl.assignE (by conv => { lhs; whnf }) ?_ | refine Wl.nil ?_ | refine Wl.guardY rfl rfl ?_ | refine Wl.pickFE rfl (by conv => { lhs; whnf }) ?_ | refine Qseq.normal ?_ | refine Wc.seq ?_ | refine Wc.region ?_ | refine Wc.block ?_ | refine Wc.skip ?_ | refine Wc.condF rfl ?_ | (refine Wl.neq rfl rfl (fun _ => ?_) (fun _ => ?_) <;> (first | (exfalso; omega) | skip))))
  refine Wc.loop (σ := Nat) (fun i => [(0, .slice a1 l.length cp1), (3, .slice am (l.length + 1) cm), (4, .slice at' l.length ct), (7, vi i)]) (fun i W => i ≤ l.length ∧ Chg (fun k => (Value.slice am (l.length + 1) cm).ownBlock = some k) W4 W ∧ OwnS rEv 27 6 (fun k => w2.heap.size ≤ k) No W (.slice am (l.length + 1) cm) ((l.take i).map noteE ++ l.drop i ++ [ev77])) (fun i => l.length - i) 0 ⟨rfl, rfl, rfl, rfl, trivial⟩ ⟨Nat.zero_le _, Chg.refl _ _, by simpa using om4⟩ ?_
  clear om4
  rintro i G1 W ⟨hi, cW, om⟩
  simp only [upds]
  have hml' : ((l.take i).map noteE ++ l.drop i ++ [ev77]).length = l.length + 1 := by simp; omega
  (repeat' (first | refine Wl.moveE (by conv => { lhs; whnf }) ?_ | refine Wl.nil ?_ | refine Wl.lenS rfl ?_ | refine Qseq.normal ?_ | refine Wc.seq ?_ | refine Wc.region ?_ | refine Wc.block ?_ | refine Wc.skip ?_ | refine Wc.exit ?_ | refine Qseq.exit ?_ | refine Qblk.hit ?_ | refine Qloop.exit ?_ | refine Wc.condT rfl ?_ | refine Wc.condF rfl ?_ | refine Wl.lss rfl rfl (fun _ => ?_) (fun _ => ?_)))
  · obtain ⟨y, hy⟩ := get_lt l (k := i) (by omega)
    obtain ⟨g, cg, hv, _, _, _⟩ := om.blk (fun e => by rw [e] at hml'; simp at hml')
    injection hv with e1 e2 e3
    subst e1
    refine Wl.idxP rfl rfl (by omega) (by omega) ?_
    refine Wl.fieldAddr rfl rfl ?_
    refine Wl.storeOwnF (f := evC) (sz := 6) (j := i) (o := 3) (p := y) (q := noteE y) (cap := cm) (fun _ => rfl) (by decide) rfl (part_get hy) rfl om (by rw [hml']) (by show Value.pointer _ = _; rw [Int.toNat_natCast, Nat.zero_add]) rfl fun W5 om5 c5 => ?_
    rw [part_set hy] at om5
    (repeat' (first | refine Wl.moveE (by conv => { lhs; whnf }) ?_ | refine Wl.assignE (by conv => { lhs; whnf }) ?_ | refine Wl.nil ?_ | refine Qseq.normal ?_ | refine Wc.region ?_ | refine Qblk.normal ?_ | refine Wl.add rfl rfl (by omega) (by omega) ?_))
    exact Qloop.normal (i + 1) ⟨rfl, rfl, rfl, rfl, trivial⟩ ⟨by omega, Chg.trans cW c5 fun _ _ e => e, om5⟩ (by omega)
  have e : i = l.length := by omega
  subst e
  rw [List.take_length, List.drop_length, List.append_nil] at om
  have n0W : New w W := Chg.trans n04 cW fun k hk e => by have := hbm1 k e; omega
  have otW := ot4.chg (plain_flat _) cW fun k hk e => by have := hbm1 k e; have := hbt k hk; omega
  have htk2 : (l.map noteE ++ [ev77]).take ((l.length : Nat) : Int).toNat = l.map noteE := by rw [Int.toNat_natCast]; exact List.take_left' (by simp)
  refine Wl.sliceOwn (b := (l.length : Nat)) om rfl rfl (by omega) (by simp; omega) fun v7 o7 e7 => ?_
  rw [htk2] at o7
  (repeat' (refine Wl.moveE (by conv => { lhs; whnf }) ?_))
  refine Wl.call (plays_spec (o7.rd goodEv.mo) (otW.rd goodEv.mo) (by simp; omega) fun e he => ?_) rfl ?_
  · obtain ⟨x, hx, rfl⟩ := List.mem_map.1 he
    exact ⟨by show 9 < 256; omega, (hw x hx).2⟩
  rintro _ W8 ⟨rfl, n8⟩
  have n08 := n0W.trans n8
  (try refine Wl.guardY rfl rfl ?_)
  (repeat' (first | refine Wl.moveE (by conv => { lhs; whnf }) ?_ | refine Wl.guardY rfl rfl ?_))
  refine Wl.call (awake_spec (ht.new n08)) rfl ?_
  rintro _ W9 ⟨rfl, n9⟩
  (try refine Wl.guardY rfl rfl ?_)
  (repeat' (first | refine Wl.assignE (by conv => { lhs; whnf }) ?_ | refine Wl.nil ?_ | refine Wl.pickTE rfl (by conv => { lhs; whnf }) ?_ | refine Qseq.normal ?_ | refine Wc.ret ?_))
  exact Qfn.ret1 rfl rfl ⟨_, rfl, rfl, n08.trans n9⟩
end Go.Proofs.YtjaendlcijmifaaGreatDoor

namespace Go.Proofs.YtjaendlcijmifaaGreatDoor
open Go Wk

theorem laidVar_of {P : Program} {w : World} {n : String} {d : DataW Unit} : ∀ {l : List (String × DataW Unit)} {ps : List MemPlace}, DataW.LaidVars P w l ps → (n, d) ∈ l →
    ∃ g t cs fuel p, P.globalNamed n = some g ∧ (P.globals[g]?).map (·.type) = some t ∧ w.var? P n = some cs ∧ DataW.trod (fun _ => ()) P w 0 (fun _ => true) false fuel t cs.toList = some (d, p)
  | [], _, _, h => by cases h
  | (m, e) :: r, ps, hl, h => by
    obtain ⟨g, t, cs, fuel, p, q, h1, h2, h3, h4, h5, _⟩ := hl
    rcases List.mem_cons.1 h with h | h
    · cases h
      exact ⟨g, t, cs, fuel, p, h1, h2, h3, h4⟩
    · exact laidVar_of h5 h
def deB64 : List Int := [0, 1, 56, 2, 57, 49, 28, 3, 61, 58, 42, 50, 38, 29, 17, 4, 62, 47, 59, 36, 45, 43, 51, 22, 53, 39, 33, 30, 24, 18, 12, 5, 63, 55, 48, 27, 60, 41, 37, 16, 46, 35, 44, 21, 52, 32, 23, 11, 54, 26, 40, 15, 34, 20, 31, 10, 25, 14, 19, 9, 13, 8, 7, 6]
theorem tb_of {W : World} {l : List (String × DataW Unit)} (h : laidMet Tryz.prog l W) (hm : ("internal/strconv.uint64pow10", Rows.laid_internal_strconv_uint64pow10) ∈ l) : Tb W := by
  obtain ⟨ps, hl, _⟩ := h
  obtain ⟨g, t, cs, fuel, p, h1, h2, h3, h4⟩ := laidVar_of hl hm
  obtain rfl : 0 = g := Option.some.inj ((show Tryz.prog.globalNamed "internal/strconv.uint64pow10" = some 0 by kernel_rfl).symm.trans h1)
  obtain rfl : 148 = t := Option.some.inj ((show (Tryz.prog.globals[0]?).map (·.type) = some 148 by kernel_rfl).symm.trans h2)
  have hc := Lib.cells_of_tab (zs := Lib.pow10Tab) Tryz.underlying148 Tryz.underlying24 (by kernel_rfl) (by kernel_rfl) h4
  unfold Tb Lib.TabIs
  rw [h3]
  exact congrArg some (Array.ext' hc)
theorem met_of {P : Program} {l : List (String × DataW Unit)} {W : World} (h0 : (l.filter fun x => x.2.handleName?.isSome) = []) (h : laidMetH P l W) : laidMet P l W := by
  unfold laidMetH at h
  rw [h0] at h; exact h
end Go.Proofs.YtjaendlcijmifaaGreatDoor

namespace Go.Proofs.YtjaendlcijmifaaGreatDoor
open Go Wk

theorem bulk_one {H : Type} (d : DataW H) : 1 ≤ Rows.uptoBulk d := by
  cases d with
  | lit l => cases l <;> simp [Rows.uptoBulk]
  | _ => simp [Rows.uptoBulk]
theorem bulk_len {H : Type} (l : List (DataW H)) : l.length ≤ Rows.uptoBulkAll l := by
  induction l with
  | nil => simp [Rows.uptoBulkAll]
  | cons x r ih => have := bulk_one x; simp only [Rows.uptoBulkAll, List.length_cons]; omega
theorem bulk_sl {α : Type} {D : Dat α} {H : Type} {xs : List α} {d : DataW H} (h : datSl D H xs d) : xs.length ≤ Rows.uptoBulk d := by
  rcases h with ⟨rfl, rfl⟩ | ⟨es, sp, rfl, hl, _⟩
  · simp
  · have := bulk_len es
    simp only [Rows.uptoBulk]
    omega
/-- A measure of the elements, added up. -/
theorem bulk_sum {α : Type} {D : Dat α} {H : Type} (μ : α → Nat) (hμ : ∀ x d, D H x d → μ x ≤ Rows.uptoBulk d) : ∀ (xs : List α) (es : List (DataW H)), es.length = xs.length → (∀ (i : Nat) (x : α), xs[i]? = some x → ∃ y, es[i]? = some y ∧ D H x y) → (xs.map μ).sum ≤ Rows.uptoBulkAll es
  | [], es, _, _ => by simp
  | x :: xs, [], h, _ => by simp at h
  | x :: xs, e :: es, h, hd => by
    obtain ⟨y, hy, hD⟩ := hd 0 x rfl
    simp at hy
    subst hy
    have ih := bulk_sum μ hμ xs es (by simpa using h) (fun i x hx => by
      obtain ⟨y, hy, hD⟩ := hd (i + 1) x (by simpa using hx)
      exact ⟨y, by simpa using hy, hD⟩)
    have := hμ x e hD
    simp only [List.map_cons, List.sum_cons, Rows.uptoBulkAll]
    omega
theorem bulk_slsum {α : Type} {D : Dat α} {H : Type} {xs : List α} {d : DataW H} (μ : α → Nat) (hμ : ∀ x d, D H x d → μ x ≤ Rows.uptoBulk d) (h : datSl D H xs d) : (xs.map μ).sum ≤ Rows.uptoBulk d := by
  rcases h with ⟨rfl, rfl⟩ | ⟨es, sp, rfl, hl, hd⟩
  · simp
  · have := bulk_sum μ hμ xs es hl hd
    simp only [Rows.uptoBulk]
    omega
theorem bulk_str {H : Type} (l : List UInt8) (d : DataW H) (h : datStr H l d) : l.length + 1 ≤ Rows.uptoBulk d := by
  obtain ⟨rfl, _⟩ := h
  simp [Rows.uptoBulk]
theorem dat_mem {α : Type} {D : Dat α} {H : Type} {xs : List α} {d : DataW H} (h : datSl D H xs d) {x : α} (hx : x ∈ xs) : ∃ y, D H x y := by
  obtain ⟨i, hi⟩ := List.mem_iff_getElem?.1 hx
  rcases h with ⟨rfl, rfl⟩ | ⟨es, sp, rfl, hl, hd⟩
  · simp at hi
  · obtain ⟨y, _, hD⟩ := hd i x hi
    exact ⟨y, hD⟩
end Go.Proofs.YtjaendlcijmifaaGreatDoor

namespace Go.Proofs.YtjaendlcijmifaaGreatDoor
open Go Wk Go.ChangeShapes

theorem cInt : Tryz.prog.cellsOf 3 = 1 := by kernel_rfl
theorem cStr : Tryz.prog.cellsOf 9 = 1 := by kernel_rfl
theorem cU64 : Tryz.prog.cellsOf 24 = 1 := by kernel_rfl
theorem cI64 : Tryz.prog.cellsOf 2 = 1 := by kernel_rfl
theorem cU8 : Tryz.prog.cellsOf 5 = 1 := by kernel_rfl
theorem cEv : Tryz.prog.cellsOf 26 = 6 := by kernel_rfl
theorem len6 {α : Type} {l : List α} (h : l.length = 6) : ∃ a b c d e f, l = [a, b, c, d, e, f] := by
  match l, h with
  | [a, b, c, d, e, f], _ => exact ⟨a, b, c, d, e, f, rfl⟩
def datEv : Dat Ev := fun H x d => ∃ d0 d1 d2 d3 d4 d5, d = .agg [d0, d1, d2, d3, d4, d5] ∧ datStr H x.pa d4 ∧ EvW x
theorem u64_of {x : Int} (h : (Lit.int .u64 x).wf = true) : ∃ n : Nat, x = n ∧ n < 18446744073709551616 := by
  have h' : 0 ≤ x ∧ x ≤ 18446744073709551615 := by simpa [Lit.wf, IntKind.min, IntKind.max, IntKind.signed, IntKind.bits] using h
  exact ⟨x.toNat, by omega, by omega⟩
theorem u8_of' {x : Int} (h : (Lit.int .u8 x).wf = true) : ∃ n : Nat, x = n ∧ n < 256 := by
  have h' : 0 ≤ x ∧ x ≤ 255 := by simpa [Lit.wf, IntKind.min, IntKind.max, IntKind.signed, IntKind.bits] using h
  exact ⟨x.toNat, by omega, by omega⟩
theorem i64_of {x : Int} (h : (Lit.int .i64 x).wf = true) : -9223372036854775808 ≤ x ∧ x ≤ 9223372036854775807 := by
  simpa [Lit.wf, IntKind.min, IntKind.max, IntKind.signed, IntKind.bits] using h
theorem opens_ev : Opens Tryz.prog 26 rEv datEv := by
  intro H enc w fuel cs d ps h
  obtain ⟨xs, n, rfl, hx, hl, hlen, hf⟩ := DataW.trod_struct Tryz.underlying26 h
  rw [cEv] at hl
  obtain ⟨c0, c1, c2, c3, c4, c5, rfl⟩ := len6 hl
  obtain ⟨y0, y1, y2, y3, y4, y5, rfl⟩ := len6 (show xs.length = 6 from hlen)
  have e0 : DataW.trod enc Tryz.prog w 0 (fun _ => true) true n 24 (([c0, c1, c2, c3, c4, c5].drop 0).take (Tryz.prog.cellsOf 24)) = some y0 := hf 0 _ rfl
  have e1 : DataW.trod enc Tryz.prog w 0 (fun _ => true) true n 24 (([c0, c1, c2, c3, c4, c5].drop 1).take (Tryz.prog.cellsOf 24)) = some y1 := hf 1 _ rfl
  have e2 : DataW.trod enc Tryz.prog w 0 (fun _ => true) true n 2 (([c0, c1, c2, c3, c4, c5].drop 2).take (Tryz.prog.cellsOf 2)) = some y2 := hf 2 _ rfl
  have e3 : DataW.trod enc Tryz.prog w 0 (fun _ => true) true n 5 (([c0, c1, c2, c3, c4, c5].drop 3).take (Tryz.prog.cellsOf 5)) = some y3 := hf 3 _ rfl
  have e4 : DataW.trod enc Tryz.prog w 0 (fun _ => true) true n 9 (([c0, c1, c2, c3, c4, c5].drop 4).take (Tryz.prog.cellsOf 9)) = some y4 := hf 4 _ rfl
  have e5 : DataW.trod enc Tryz.prog w 0 (fun _ => true) true n 2 (([c0, c1, c2, c3, c4, c5].drop 5).take (Tryz.prog.cellsOf 2)) = some y5 := hf 5 _ rfl
  rw [cU64] at e0 e1
  rw [cI64] at e2 e5
  rw [cU8] at e3
  rw [cStr] at e4
  cases hx
  obtain ⟨s0, r0, q0⟩ := opens_int Tryz.underlying24 H enc w n _ _ _ e0
  obtain ⟨s1, r1, q1⟩ := opens_int Tryz.underlying24 H enc w n _ _ _ e1
  obtain ⟨s2, r2, q2⟩ := opens_int Tryz.underlying2 H enc w n _ _ _ e2
  obtain ⟨s3, r3, q3⟩ := opens_int Tryz.underlying5 H enc w n _ _ _ e3
  obtain ⟨s4, r4, q4⟩ := opens_str Tryz.underlying9 H enc w n _ _ _ e4
  obtain ⟨s5, r5, q5⟩ := opens_int Tryz.underlying2 H enc w n _ _ _ e5
  have r0' : [c0] = [Value.int .u64 s0] := r0 (fun _ => True) (fun _ _ => trivial)
  have r1' : [c1] = [Value.int .u64 s1] := r1 (fun _ => True) (fun _ _ => trivial)
  have r2' : [c2] = [Value.int .i64 s2] := r2 (fun _ => True) (fun _ _ => trivial)
  have r3' : [c3] = [Value.int .u8 s3] := r3 (fun _ => True) (fun _ _ => trivial)
  have r4' : [c4] = [vs s4] := r4 (fun _ => True) (fun _ _ => trivial)
  have r5' : [c5] = [Value.int .i64 s5] := r5 (fun _ => True) (fun _ _ => trivial)
  cases r0'
  cases r1'
  cases r2'
  cases r3'
  cases r4'
  cases r5'
  obtain ⟨n0, rfl, h0⟩ := u64_of q0.2
  obtain ⟨n1, rfl, h1⟩ := u64_of q1.2
  obtain ⟨n3, rfl, h3⟩ := u8_of' q3.2
  have h2 := i64_of q2.2
  have h5 := i64_of q5.2
  exact ⟨⟨n0, n1, s2, n3, s4, s5⟩, fun _ _ => rfl, _, _, _, _, _, _, rfl, q4, h0, h1, h2.1, h2.2, h3, h5.1, h5.2⟩
theorem opens_evs : Opens Tryz.prog 22 (Wk.rSl rEv 6) (datSl datEv) := opens_slice Tryz.underlying22 cEv (by decide) opens_ev
theorem bulk_ev {H : Type} (x : Ev) (d : DataW H) (h : datEv H x d) : x.pa.length ≤ Rows.uptoBulk d := by
  obtain ⟨d0, d1, d2, d3, d4, d5, rfl, h4, _⟩ := h
  have b4 := bulk_str x.pa d4 h4
  simp only [Rows.uptoBulk, Rows.uptoBulkAll]
  omega
theorem sum_ge {l : List Nat} {x : Nat} (h : x ∈ l) : x ≤ l.sum := by
  induction l with
  | nil => simp at h
  | cons y r ih =>
    simp only [List.sum_cons]
    rcases List.mem_cons.1 h with rfl | h
    · omega
    · have := ih h; omega
theorem bulk_evs {H : Type} {xs : List Ev} {d : DataW H} (h : datSl datEv H xs d) : ∀ e ∈ xs, EvW e ∧ e.pa.length ≤ Rows.uptoBulk d := fun e he => by
  have h1 := bulk_slsum (fun x : Ev => x.pa.length) (fun x d h => bulk_ev x d h) h
  have h2 := sum_ge (List.mem_map.2 ⟨e, he, rfl⟩ : (fun x : Ev => x.pa.length) e ∈ xs.map fun x : Ev => x.pa.length)
  obtain ⟨y, hy⟩ := dat_mem h he
  obtain ⟨_, _, _, _, _, _, _, _, hw⟩ := hy
  exact ⟨hw, Nat.le_trans h2 h1⟩
end Go.Proofs.YtjaendlcijmifaaGreatDoor
