/-
  Texts of this claim, one behind the other: Ha, Hb, Kc, Kd.
-/
import Derived.Test.YtlkhajheecglgaaDoorZd
namespace Go.Proofs.YtlkhajheecglgaaDoor
open Go Wk
open Go.RowKit (Below)
attribute [local irreducible] Go.Calls

abbrev sgL : List UInt8 := [97, 98, 99, 100, 101, 102, 103, 104, 105, 106, 107, 108, 109, 110, 111, 112, 113, 114, 115, 116, 117, 118, 119, 120, 121, 122, 48, 49, 50, 51, 52, 53, 54, 55, 56, 57, 44, 46, 95, 43, 45, 64, 35, 63]
theorem ne_u8 {a b : UInt8} (h : ¬ ((a.toNat : Int) = (b.toNat : Int))) : a ≠ b := fun e => h (by rw [e])
theorem eq_u8 {a b : UInt8} (h : (a.toNat : Int) = (b.toNat : Int)) : a = b := UInt8.toNat_inj.1 (by omega)
set_option maxHeartbeats 1000000 in
theorem NameR_spec {w : World} {s : List UInt8} (hs : s.length ≤ 9223372036854775807) : Calls Tryd.prog 46 #[vs s] w (Ret fun r w' => r = .bool (nameOk s) ∧ New w w') := by
  have hsl : sgL.length = 44 := rfl
  have hsg : signs = sgL := signs_eq
  have hbad : ∀ {i : Nat} {c : UInt8}, s[i]? = some c → c ∉ sgL → Value.bool false = Value.bool (nameOk s) := fun hc h => by
    unfold nameOk
    rw [all_fail hc (Bool.eq_false_iff.2 fun e => h (hsg ▸ List.contains_iff_mem.1 e)), Bool.and_false]
  refine calls_of_Wc Tryd.func46 rfl Tryd.ntmps46 rfl ?_
  (repeat' (first | refine Wl.assignE (by conv => { lhs; whnf }) ?_ | refine Wl.nil ?_ | refine Qseq.normal ?_ | refine Wc.seq ?_ | refine Wc.region ?_ | refine Wc.block ?_))
  refine Wc.loop (σ := Nat) (fun i => [(0, vs s), (3, vi i)]) (fun i w' => i ≤ s.length ∧ (s.take i).all (fun c => signs.contains c) = true ∧ New w w') (fun i => s.length - i) 0 ⟨rfl, rfl, trivial⟩ ⟨Nat.zero_le _, rfl, Chg.refl _ _⟩ ?_
  rintro i G w1 ⟨hi, hall, n1⟩
  simp only [upds]
  (repeat' (first | refine Wl.moveE (by conv => { lhs; whnf }) ?_ | refine Wl.assignE (by conv => { lhs; whnf }) ?_ | refine Wl.nil ?_ | refine Wl.guardY rfl rfl ?_ | refine Wl.guardN rfl rfl ?_ | refine Wl.pickTE rfl (by conv => { lhs; whnf }) ?_ | refine Wl.pickFE rfl (by conv => { lhs; whnf }) ?_ | refine Wl.lenStr rfl ?_ | refine Qseq.normal ?_ | refine Wc.seq ?_ | refine Wc.region ?_ | refine Wc.block ?_ | refine Wc.skip ?_ | refine Wc.exit ?_ | refine Wc.ret ?_ | refine Qseq.exit ?_ | refine Qblk.hit ?_ | refine Qloop.exit ?_ | refine Wc.condT rfl ?_ | refine Wc.condF rfl ?_ | refine Wl.lss rfl rfl (fun _ => ?_) (fun _ => ?_) | refine Wl.leq rfl rfl (fun _ => ?_) (fun _ => ?_) | refine Wl.geq rfl rfl (fun _ => ?_) (fun _ => ?_)))
  · obtain ⟨c, hc⟩ := get_byte s (k := i) (by omega)
    refine Wc.loop (σ := Nat) (fun k => [(0, vs s), (3, vi i), (4, vi k)]) (fun k w' => k ≤ 44 ∧ c ∉ sgL.take k ∧ New w w') (fun k => 44 - k) 0 ⟨rfl, rfl, rfl, trivial⟩ ⟨Nat.zero_le _, by simp, n1⟩ ?_
    rintro k G w2 ⟨hk, hno, n2⟩
    simp only [upds]
    (repeat' (refine Wc.seq ?_))
    refine Wc.regionN rfl (by kernel_rfl) ?_
    (repeat' (first | refine Wq.moveE (by conv => { lhs; whnf }) ?_ | refine Wq.nil ?_ | refine Wq.guardY rfl rfl ?_ | refine Wq.guardN rfl rfl ?_ | refine Wq.pickFE rfl (by conv => { lhs; whnf }) ?_ | refine Wq.lss rfl rfl (fun _ => ?_) (fun _ => ?_)))
    · obtain ⟨d, hd⟩ := get_byte sgL (k := k) (by omega)
      refine Wq.idxStr rfl rfl (by omega) (by rw [Int.toNat_natCast]; exact hd) ?_
      (repeat' (first | refine Wq.moveE (by conv => { lhs; whnf }) ?_ | refine Wq.guardY rfl rfl ?_))
      refine Wq.idxStr rfl rfl (by omega) (by rw [Int.toNat_natCast]; exact hc) ?_
      (repeat' (first | refine Wq.nil ?_ | refine Wq.guardY rfl rfl ?_ | refine Wq.pickTE rfl (by conv => { lhs; whnf }) ?_ | refine Wq.neq rfl rfl (fun _ => ?_) (fun _ => ?_)))
      · intro w3 n3
        (repeat' (first | refine Wl.moveE (by conv => { lhs; whnf }) ?_ | refine Wl.assignE (by conv => { lhs; whnf }) ?_ | refine Wl.nil ?_ | refine Qseq.normal ?_ | refine Wc.region ?_ | refine Wc.block ?_ | refine Wc.skip ?_ | refine Qblk.normal ?_ | refine Wc.condT rfl ?_ | refine Wl.add rfl rfl (by omega) (by omega) ?_))
        refine Qloop.normal (k + 1) ⟨rfl, rfl, rfl, trivial⟩ ⟨by omega, ?_, New.trans n2 n3⟩ (by omega)
        rw [take_snoc hd, List.mem_append, List.mem_singleton]
        rintro (e | e)
        · exact hno e
        · exact ne_u8 (by assumption) e.symm
      · intro w3 n3
        (repeat' (first | refine Wl.moveE (by conv => { lhs; whnf }) ?_ | refine Wl.assignE (by conv => { lhs; whnf }) ?_ | refine Wl.nil ?_ | refine Qseq.normal ?_ | refine Wc.seq ?_ | refine Wc.region ?_ | refine Wc.skip ?_ | refine Wc.exit ?_ | refine Qseq.exit ?_ | refine Qblk.normal ?_ | refine Qblk.hit ?_ | refine Qloop.exit ?_ | refine Wc.condF rfl ?_ | refine Wl.add rfl rfl (by omega) (by omega) ?_ | (refine Wl.eql rfl rfl (fun _ => ?_) (fun _ => ?_) <;> (first | (exfalso; omega) | skip))))
        have hdc : d = c := eq_u8 (by assumption)
        subst hdc
        refine Qloop.normal (i + 1) ⟨rfl, rfl, trivial⟩ ⟨by omega, all_step hc hall (by rw [hsg]; exact List.contains_iff_mem.2 (List.mem_of_getElem? hd)), New.trans n2 n3⟩ (by omega)
    · intro w3 n3
      have e : k = 44 := by omega
      subst e
      rw [show sgL.take 44 = sgL from rfl] at hno
      (repeat' (first | refine Wl.moveE (by conv => { lhs; whnf }) ?_ | refine Wl.assignE (by conv => { lhs; whnf }) ?_ | refine Wl.nil ?_ | refine Qseq.normal ?_ | refine Wc.seq ?_ | refine Wc.region ?_ | refine Wc.exit ?_ | refine Wc.ret ?_ | refine Qseq.exit ?_ | refine Qseq.ret ?_ | refine Qblk.ret ?_ | refine Qblk.hit ?_ | refine Qloop.exit ?_ | refine Qloop.ret ?_ | refine Wc.condT rfl ?_ | refine Wc.condF rfl ?_ | (refine Wl.eql rfl rfl (fun _ => ?_) (fun _ => ?_) <;> (first | (exfalso; omega) | skip))))
      exact Qfn.ret1 rfl rfl ⟨_, rfl, hbad hc hno, New.trans n2 n3⟩
  all_goals
    have e : i = s.length := by omega
    subst e
    rw [List.take_length] at hall
    have hq : nameOk s = decide (1 ≤ s.length ∧ s.length ≤ 31) := by
      unfold nameOk
      rw [hall, Bool.and_true]
      cases s with
      | nil => rfl
      | cons a r => simp
    rw [hq]
    refine Qfn.ret1 rfl rfl ⟨_, rfl, ?_, n1⟩
    first
      | (rw [decide_eq_true (by omega)]; rfl)
      | (rw [decide_eq_false (by omega)]; rfl)
theorem pairBad {l : List Pr} {k i : Nat} {p q : Pr} : ∀ {seen : List (List UInt8)}, l[k]? = some p → l[i]? = some q → k < i → p.1 = q.1 → propsGo seen l = false := by
  induction l generalizing k i with
  | nil => intro seen h; simp at h
  | cons x r ih =>
    intro seen hk hi hlt he
    obtain ⟨i, rfl⟩ : ∃ j, i = j + 1 := ⟨i - 1, by omega⟩
    rw [List.getElem?_cons_succ] at hi
    rw [propsGo]
    cases k with
    | zero =>
      simp only [List.getElem?_cons_zero, Option.some.injEq] at hk
      subst hk
      have key : ∀ (r : List Pr) (j : Nat) (seen : List (List UInt8)), r[j]? = some q → seen.contains q.1 = true → propsGo seen r = false := by
        intro r
        induction r with
        | nil => intro j seen h; simp at h
        | cons y r ih2 =>
          intro j seen hj hs
          rw [propsGo]
          cases j with
          | zero =>
            simp only [List.getElem?_cons_zero, Option.some.injEq] at hj
            subst hj
            rw [hs]; simp
          | succ j =>
            rw [List.getElem?_cons_succ] at hj
            rw [ih2 j _ hj (List.contains_iff_mem.2 (List.mem_append.2 (.inl (List.contains_iff_mem.1 hs))))]; simp
      rw [key r i _ hi (List.contains_iff_mem.2 (by rw [he]; simp))]; simp
    | succ k =>
      rw [List.getElem?_cons_succ] at hk
      rw [ih hk hi (by omega) he]; simp
theorem oneBad {l : List Pr} {i : Nat} {q : Pr} : ∀ {seen : List (List UInt8)}, l[i]? = some q → (nameOk q.1 = false ∨ 1024 < q.2.length) → propsGo seen l = false := by
  induction l generalizing i with
  | nil => intro seen h; simp at h
  | cons x r ih =>
    intro seen hi h
    rw [propsGo]
    cases i with
    | zero =>
      simp only [List.getElem?_cons_zero, Option.some.injEq] at hi
      subst hi
      rcases h with h | h
      · rw [h]; rfl
      · rw [decide_eq_false (by omega)]; simp
    | succ i =>
      rw [List.getElem?_cons_succ] at hi
      rw [ih hi h]; simp
theorem allGood {l : List Pr} : ∀ {seen : List (List UInt8)}, (∀ (i : Nat) (q : Pr), l[i]? = some q → nameOk q.1 = true ∧ q.2.length ≤ 1024 ∧ q.1 ∉ seen ∧ ∀ (k : Nat) (p : Pr), k < i → l[k]? = some p → p.1 ≠ q.1) → propsGo seen l = true := by
  induction l with
  | nil => intro _ _; rfl
  | cons x r ih =>
    intro seen h
    have h0 := h 0 x rfl
    rw [propsGo, h0.1, decide_eq_true h0.2.1, show seen.contains x.1 = false from Bool.eq_false_iff.2 fun e => h0.2.2.1 (List.contains_iff_mem.1 e), ih fun i q hq => ?_]
    · rfl
    · have h1 := h (i + 1) q (by simpa using hq)
      refine ⟨h1.1, h1.2.1, fun e => ?_, fun k p hk hp => h1.2.2.2 (k + 1) p (by omega) (by simpa using hp)⟩
      rcases List.mem_append.1 e with e | e
      · exact h1.2.2.1 e
      · simp at e
        exact h1.2.2.2 0 x (by omega) rfl e.symm
set_option maxHeartbeats 1000000 in
theorem propsR_spec {Pb : Nat → Prop} {w : World} {v : Value} {l : List Pr} (h : RdS rPr 2 Pb w v l) (hs : TxOk l) :
    Calls Tryd.prog 45 #[v] w (Ret fun r w' => r = .bool (propsOk l) ∧ New w w') := by
  obtain ⟨a, cap, rfl, hc1, hc2⟩ := h.form
  simp only [maxLen] at hc2
  unfold propsOk
  refine calls_of_Wc Tryd.func45 rfl Tryd.ntmps45 rfl ?_
  (repeat' (first | refine Wl.assignE (by conv => { lhs; whnf }) ?_ | refine Wl.nil ?_ | refine Qseq.normal ?_ | refine Wc.seq ?_ | refine Wc.region ?_ | refine Wc.block ?_))
  refine Wc.loop (σ := Nat) (fun i => [(0, .slice a l.length cap), (3, vi i)]) (fun i w' => i ≤ l.length ∧ (∀ (j : Nat) (q : Pr), j < i → l[j]? = some q → nameOk q.1 = true ∧ q.2.length ≤ 1024 ∧ ∀ (k : Nat) (p : Pr), k < j → l[k]? = some p → p.1 ≠ q.1) ∧ New w w') (fun i => l.length - i) 0 ⟨rfl, rfl, trivial⟩ ⟨Nat.zero_le _, fun j q hj => by omega, Chg.refl _ _⟩ ?_
  rintro i G w1 ⟨hi, hall, n1⟩
  have h1 := h.keep (stable_flat pC) n1.keep
  simp only [upds]
  (repeat' (first | refine Wl.moveE (by conv => { lhs; whnf }) ?_ | refine Wl.assignE (by conv => { lhs; whnf }) ?_ | refine Wl.nil ?_ | refine Wl.lenS rfl ?_ | refine Qseq.normal ?_ | refine Wc.seq ?_ | refine Wc.region ?_ | refine Wc.block ?_ | refine Wc.skip ?_ | refine Wc.exit ?_ | refine Wc.ret ?_ | refine Qseq.exit ?_ | refine Qblk.hit ?_ | refine Qloop.exit ?_ | refine Wc.condT rfl ?_ | refine Wc.condF rfl ?_ | refine Wl.lss rfl rfl (fun _ => ?_) (fun _ => ?_) | refine Wl.leq rfl rfl (fun _ => ?_) (fun _ => ?_)))
  · obtain ⟨q, hq⟩ := get_lt l (k := i) (by omega)
    have hqs := hs q (List.mem_of_getElem? hq)
    simp only [maxLen] at hqs
    refine Wl.idxAddr h1 rfl rfl (by omega) hq fun b o cs hl hR hat => ?_
    obtain rfl : cs = pC q := hR
    (repeat' (refine Wl.fieldAddr rfl rfl ?_))
    refine Wl.load1 rfl (hat.get 0 rfl) ?_
    refine Wl.call (NameR_spec (s := q.1) (by omega)) rfl ?_
    rintro _ w1' ⟨rfl, n1'⟩
    replace n1 := New.trans n1 n1'
    replace h1 := h1.keep (stable_flat pC) n1'.keep
    cases hok : nameOk q.1 with
    | false =>
      (repeat' (first | refine Wl.moveE (by conv => { lhs; whnf }) ?_ | refine Wl.assignE (by conv => { lhs; whnf }) ?_ | refine Wl.nil ?_ | refine Wl.guardN rfl rfl ?_ | refine Wl.pickTE rfl (by conv => { lhs; whnf }) ?_ | refine Wl.notB rfl ?_ | refine Qseq.normal ?_ | refine Wc.seq ?_ | refine Wc.region ?_ | refine Wc.ret ?_ | refine Qseq.ret ?_ | refine Qblk.ret ?_ | refine Qloop.ret ?_ | refine Wc.condT rfl ?_))
      rw [oneBad hq (.inl hok), Bool.and_false]
      exact Qfn.ret1 rfl rfl ⟨_, rfl, rfl, n1⟩
    | true =>
      (repeat' (first | refine Wl.moveE (by conv => { lhs; whnf }) ?_ | refine Wl.guardY rfl rfl ?_ | refine Wl.notB rfl ?_))
      refine Wl.idxAddr h1 rfl rfl (by omega) hq fun b o cs hl hR hat => ?_
      obtain rfl : cs = pC q := hR
      (repeat' (first | refine Wl.guardY rfl rfl ?_ | refine Wl.fieldAddr rfl rfl ?_))
      refine Wl.load1 rfl (hat.get 1 rfl) ?_
      (repeat' (first | refine Wl.assignE (by conv => { lhs; whnf }) ?_ | refine Wl.nil ?_ | refine Wl.guardY rfl rfl ?_ | refine Wl.pickFE rfl (by conv => { lhs; whnf }) ?_ | refine Wl.lenStr rfl ?_ | refine Qseq.normal ?_ | refine Wc.seq ?_ | refine Wc.region ?_ | refine Wc.block ?_ | refine Wc.skip ?_ | refine Wc.ret ?_ | refine Qseq.ret ?_ | refine Qblk.ret ?_ | refine Qloop.ret ?_ | refine Wc.condT rfl ?_ | refine Wc.condF rfl ?_ | refine Wl.gtr rfl rfl (fun _ => ?_) (fun _ => ?_)))
      · rw [oneBad hq (.inr (by omega)), Bool.and_false]
        exact Qfn.ret1 rfl rfl ⟨_, rfl, rfl, n1⟩
      · refine Wc.loop (σ := Nat) (fun k => [(0, .slice a l.length cap), (3, vi i), (4, vi k)]) (fun k w' => k ≤ i ∧ (∀ (k' : Nat) (p : Pr), k' < k → l[k']? = some p → p.1 ≠ q.1) ∧ New w w') (fun k => i - k) 0 ⟨rfl, rfl, rfl, trivial⟩ ⟨Nat.zero_le _, fun j q hj => by omega, n1⟩ ?_
        rintro k G w2 ⟨hk, hno, n2⟩
        have h2 := h.keep (stable_flat pC) n2.keep
        simp only [upds]
        (repeat' (first | refine Wl.moveE (by conv => { lhs; whnf }) ?_ | refine Wl.assignE (by conv => { lhs; whnf }) ?_ | refine Wl.nil ?_ | refine Qseq.normal ?_ | refine Wc.seq ?_ | refine Wc.region ?_ | refine Wc.block ?_ | refine Wc.skip ?_ | refine Wc.exit ?_ | refine Qseq.exit ?_ | refine Qblk.normal ?_ | refine Qblk.hit ?_ | refine Qloop.exit ?_ | refine Wc.condT rfl ?_ | refine Wc.condF rfl ?_ | refine Wl.add rfl rfl (by omega) (by omega) ?_ | refine Wl.lss rfl rfl (fun _ => ?_) (fun _ => ?_)))
        · obtain ⟨p, hp⟩ := get_lt l (k := k) (by omega)
          refine Wc.regionN rfl (by kernel_rfl) ?_
          (repeat' (refine Wq.moveE (by conv => { lhs; whnf }) ?_))
          refine Wq.idxAddr h2 (fun w' hw => New.keep hw) rfl rfl (by omega) hp fun b o cs hl hR hat => ?_
          obtain rfl : cs = pC p := hR
          (repeat' (refine Wq.fieldAddr rfl rfl ?_))
          refine Wq.load1 rfl (fun w' hw => (hat w' hw).get 0 rfl) ?_
          clear hat
          (repeat' (refine Wq.moveE (by conv => { lhs; whnf }) ?_))
          refine Wq.idxAddr h2 (fun w' hw => New.keep hw) rfl rfl (by omega) hq fun b o cs hl hR hat => ?_
          obtain rfl : cs = pC q := hR
          (repeat' (refine Wq.fieldAddr rfl rfl ?_))
          refine Wq.load1 rfl (fun w' hw => (hat w' hw).get 0 rfl) ?_
          clear hat
          (repeat' (first | refine Wq.nil ?_ | refine Wq.seql rfl rfl (fun _ => ?_) (fun _ => ?_)))
          · intro w3 n3
            (repeat' (first | refine Wl.assignE (by conv => { lhs; whnf }) ?_ | refine Wl.nil ?_ | refine Qseq.normal ?_ | refine Wc.seq ?_ | refine Wc.region ?_ | refine Wc.ret ?_ | refine Qseq.ret ?_ | refine Qblk.ret ?_ | refine Qloop.ret ?_ | refine Wc.condT rfl ?_))
            rw [pairBad hp hq (by omega) (by assumption), Bool.and_false]
            exact Qfn.ret1 rfl rfl ⟨_, rfl, rfl, New.trans n2 n3⟩
          · intro w3 n3
            (repeat' (first | refine Wl.moveE (by conv => { lhs; whnf }) ?_ | refine Wl.assignE (by conv => { lhs; whnf }) ?_ | refine Wl.nil ?_ | refine Qseq.normal ?_ | refine Wc.region ?_ | refine Wc.skip ?_ | refine Qblk.normal ?_ | refine Wc.condF rfl ?_ | refine Wl.add rfl rfl (by omega) (by omega) ?_))
            refine Qloop.normal (k + 1) ⟨rfl, rfl, rfl, trivial⟩ ⟨by omega, fun k' p' hk' hp' => ?_, New.trans n2 n3⟩ (by omega)
            rcases Nat.lt_or_ge k' k with h | h
            · exact hno k' p' h hp'
            · obtain rfl : k' = k := by omega
              rw [hp] at hp'
              cases hp'
              assumption
        · refine Qloop.normal (i + 1) ⟨rfl, rfl, trivial⟩ ⟨by omega, fun j q' hj hq' => ?_, n2⟩ (by omega)
          rcases Nat.lt_or_ge j i with h | h
          · exact hall j q' h hq'
          · obtain rfl : j = i := by omega
            rw [hq] at hq'
            cases hq'
            exact ⟨hok, by omega, fun k' p hk' hp => hno k' p (by omega) hp⟩
  all_goals
    have e : i = l.length := by omega
    subst e
    rw [allGood (seen := []) fun i q hq => by
      have := hall i q (List.getElem?_eq_some_iff.1 hq).1 hq
      exact ⟨this.1, this.2.1, by simp, this.2.2⟩, Bool.and_true]
    refine Qfn.ret1 rfl rfl ⟨_, rfl, ?_, n1⟩
    first
      | (rw [decide_eq_true (by omega)]; rfl)
      | (rw [decide_eq_false (by omega)]; rfl)
end Go.Proofs.YtlkhajheecglgaaDoor

namespace Go.Proofs.YtlkhajheecglgaaDoor
open Go Wk
open Go.RowKit (Below)
attribute [local irreducible] Go.Calls

def ancI (l : List Nd) (i : Int) : List Nat := if i < 0 then [] else anc l i.toNat
theorem ancI_length {l : List Nd} {n : Nat} (h : Down l n) {i : Int} (hi : i < n) (h0 : -1 ≤ i) : ((ancI l i).length : Int) ≤ i + 1 := by
  unfold ancI
  split
  · simp; omega
  · have := anc_length h i.toNat (by omega)
    omega
theorem ancI_step {l : List Nd} {n : Nat} (h : Down l n) {c : Int} {x : Nd} (h0 : 0 ≤ c) (hc : c < n) (hx : l[c.toNat]? = some x) : ancI l c = c.toNat :: ancI l x.parent := by
  unfold ancI
  rw [if_neg (by omega), anc_step h (by omega) hx]
set_option maxRecDepth 4000 in
theorem Depth_spec {Pb : Nat → Prop} {w : World} {v : Value} {l : List Nd} {n i : Nat} (h : RdS rNd 3 Pb w v l) (hd : Down l n) (hi : i < n) (hl : i < l.length) :
    Calls Tryd.prog 48 #[v, vi i] w (Ret fun r w' => r = vi (anc l i).length ∧ New w w') := by
  obtain ⟨a, cap, rfl, hc1, hc2⟩ := h.form
  simp only [maxLen] at hc2
  have hal := anc_length hd i hi
  refine calls_of_Wc Tryd.func48 rfl Tryd.ntmps48 rfl ?_
  (repeat' (first | refine Wl.assignE (by conv => { lhs; whnf }) ?_ | refine Wl.nil ?_ | refine Qseq.normal ?_ | refine Wc.seq ?_ | refine Wc.region ?_ | refine Wc.block ?_))
  refine Wc.loop (σ := Int × Nat) (fun s => [(0, .slice a l.length cap), (1, vi s.1), (5, vi s.2)]) (fun s w' => s.1 ≤ i ∧ (anc l i).length = s.2 + (ancI l s.1).length ∧ New w w') (fun s => (s.1 + 1).toNat) ((i : Int), 0) ⟨rfl, rfl, rfl, trivial⟩ ⟨Int.le_refl _, ?_, Chg.refl _ _⟩ ?_
  · unfold ancI
    rw [if_neg (by omega), Nat.zero_add]; rfl
  rintro ⟨c, k⟩ G w1 ⟨hc, hgo, n1⟩
  dsimp only at hc hgo
  simp only [upds]
  (repeat' (first | refine Wl.moveE (by conv => { lhs; whnf }) ?_ | refine Wl.assignE (by conv => { lhs; whnf }) ?_ | refine Wl.nil ?_ | refine Qseq.normal ?_ | refine Wc.seq ?_ | refine Wc.region ?_ | refine Wc.block ?_ | refine Wc.skip ?_ | refine Wc.exit ?_ | refine Wc.ret ?_ | refine Qseq.exit ?_ | refine Qblk.hit ?_ | refine Qloop.exit ?_ | refine Wc.condT rfl ?_ | refine Wc.condF rfl ?_ | refine Wl.geq rfl rfl (fun _ => ?_) (fun _ => ?_)))
  · obtain ⟨x, hx⟩ := get_lt l (k := c.toNat) (by omega)
    have hst := ancI_step hd (c := c) (by omega) (by omega) hx
    rw [hst, List.length_cons] at hgo
    have hdx := hd c.toNat x (by omega) hx
    refine Wl.idxAddr (h.keep stableNd n1.keep) rfl rfl (by omega) hx fun b o cs hl hR hat => ?_
    obtain ⟨pv, rfl, _⟩ := hR
    (repeat' (refine Wl.fieldAddr rfl rfl ?_))
    refine Wl.load1 rfl (hat.get 0 rfl) ?_
    (repeat' (first | refine Wl.moveE (by conv => { lhs; whnf }) ?_ | refine Wl.assignE (by conv => { lhs; whnf }) ?_ | refine Wl.nil ?_ | refine Qseq.normal ?_ | refine Wc.region ?_ | refine Qblk.normal ?_ | refine Wl.add rfl rfl (by omega) (by omega) ?_))
    exact Qloop.normal (x.parent, k + 1) ⟨rfl, rfl, rfl, trivial⟩ ⟨by dsimp only; omega, by dsimp only; omega, n1⟩ (by dsimp only; omega)
  · have e : ancI l c = [] := by unfold ancI; rw [if_pos (by omega)]
    rw [e, List.length_nil] at hgo
    rw [hgo]
    exact Qfn.ret1 rfl rfl ⟨_, rfl, rfl, n1⟩
set_option maxRecDepth 4000 in
theorem above_spec {Pb : Nat → Prop} {w : World} {v : Value} {l : List Nd} {n i : Nat} {p : Int} (h : RdS rNd 3 Pb w v l) (hd : Down l n) (hi : i < n) (hl : i < l.length) (hp : 0 ≤ p) :
    Calls Tryd.prog 47 #[v, vi p, vi i] w (Ret fun r w' => r = .bool ((anc l i).contains p.toNat) ∧ New w w') := by
  obtain ⟨a, cap, rfl, hc1, hc2⟩ := h.form
  simp only [maxLen] at hc2
  refine calls_of_Wc Tryd.func47 rfl Tryd.ntmps47 rfl ?_
  (repeat' (first | refine Wl.assignE (by conv => { lhs; whnf }) ?_ | refine Wl.nil ?_ | refine Qseq.normal ?_ | refine Wc.seq ?_ | refine Wc.region ?_ | refine Wc.block ?_))
  refine Wc.loop (σ := Int) (fun c => [(0, .slice a l.length cap), (1, vi p), (2, vi c)]) (fun c w' => c ≤ i ∧ (anc l i).contains p.toNat = (ancI l c).contains p.toNat ∧ New w w') (fun c => (c + 1).toNat) (i : Int) ⟨rfl, rfl, rfl, trivial⟩ ⟨Int.le_refl _, ?_, Chg.refl _ _⟩ ?_
  · unfold ancI
    rw [if_neg (by omega)]; rfl
  rintro c G w1 ⟨hc, hgo, n1⟩
  simp only [upds]
  (repeat' (first | refine Wl.moveE (by conv => { lhs; whnf }) ?_ | refine Wl.assignE (by conv => { lhs; whnf }) ?_ | refine Wl.nil ?_ | refine Qseq.normal ?_ | refine Wc.seq ?_ | refine Wc.region ?_ | refine Wc.block ?_ | refine Wc.skip ?_ | refine Wc.exit ?_ | refine Wc.ret ?_ | refine Qseq.exit ?_ | refine Qseq.ret ?_ | refine Qblk.ret ?_ | refine Qblk.hit ?_ | refine Qloop.exit ?_ | refine Qloop.ret ?_ | refine Wc.condT rfl ?_ | refine Wc.condF rfl ?_ | refine Wl.geq rfl rfl (fun _ => ?_) (fun _ => ?_) | refine Wl.eql rfl rfl (fun _ => ?_) (fun _ => ?_)))
  · obtain ⟨x, hx⟩ := get_lt l (k := c.toNat) (by omega)
    rw [hgo, ancI_step hd (c := c) (by omega) (by omega) hx]
    have e : c.toNat = p.toNat := by omega
    rw [e]
    refine Qfn.ret1 rfl rfl ⟨_, rfl, ?_, n1⟩
    rw [show (p.toNat :: ancI l x.parent).contains p.toNat = true by simp]; rfl
  · obtain ⟨x, hx⟩ := get_lt l (k := c.toNat) (by omega)
    have hdx := hd c.toNat x (by omega) hx
    rw [ancI_step hd (c := c) (by omega) (by omega) hx] at hgo
    refine Wl.idxAddr (h.keep stableNd n1.keep) rfl rfl (by omega) hx fun b o cs hl hR hat => ?_
    obtain ⟨pv, rfl, _⟩ := hR
    (repeat' (refine Wl.fieldAddr rfl rfl ?_))
    refine Wl.load1 rfl (hat.get 0 rfl) ?_
    (repeat' (first | refine Wl.assignE (by conv => { lhs; whnf }) ?_ | refine Wl.nil ?_ | refine Qblk.normal ?_))
    refine Qloop.normal x.parent ⟨rfl, rfl, rfl, trivial⟩ ⟨by omega, ?_, n1⟩ (by omega)
    rw [hgo, List.contains_cons, show (p.toNat == c.toNat) = false from by simp; omega, Bool.false_or]
  · have e : ancI l c = [] := by unfold ancI; rw [if_pos (by omega)]
    rw [hgo, e]
    exact Qfn.ret1 rfl rfl ⟨_, rfl, rfl, n1⟩
theorem any_take {α : Type} {p : α → Bool} {l : List α} {k i : Nat} {x : α} (hk : k < i) (h1 : 1 ≤ k) (hx : l[k]? = some x) (hp : p x = true) : ((l.take i).drop 1).any p = true := by
  rw [List.any_eq_true]
  refine ⟨x, List.mem_iff_getElem?.2 ⟨k - 1, ?_⟩, hp⟩
  rw [List.getElem?_drop, List.getElem?_take, if_pos (by omega), show 1 + (k - 1) = k by omega]
  exact hx
theorem any_none {α : Type} {p : α → Bool} {l : List α} {i : Nat} (h : ∀ (k : Nat) (x : α), 1 ≤ k → k < i → l[k]? = some x → p x = false) : ((l.take i).drop 1).any p = false := by
  rw [List.any_eq_false]
  intro x hx
  obtain ⟨k, hk⟩ := List.mem_iff_getElem?.1 hx
  rw [List.getElem?_drop, List.getElem?_take] at hk
  split at hk
  · rw [h (1 + k) x (by omega) (by omega) hk]; simp
  · cases hk
set_option maxRecDepth 4000 in
set_option maxHeartbeats 2000000 in
theorem TreeR_spec {Pb : Nat → Prop} {w : World} {v : Value} {l : List Nd} (h : RdS rNd 3 Pb w v l) (hz : Sz l) :
    Calls Tryd.prog 30 #[v] w (Ret fun r w' => r = .bool (treeOk l) ∧ New w w') := by
  obtain ⟨a, cap, rfl, hc1, hc2⟩ := h.form
  simp only [maxLen] at hc2
  have hno : ∀ {i : Nat}, i < l.length → nextOk l i = false → treeOk l = false := fun {i} hi hn => by
    cases ht : treeOk l with
    | false => rfl
    | true => rw [((treeOk_next l).1 ht).1 i hi] at hn; cases hn
  have hzp : ∀ x ∈ l, TxOk x.props := fun x hx p hp => by
    have := (hz.tx x hx p hp).1
    simp only [maxLen]; omega
  refine calls_of_Wc Tryd.func30 rfl Tryd.ntmps30 rfl ?_
  (repeat' (first | refine Wl.moveE (by conv => { lhs; whnf }) ?_ | refine Wl.assignE (by conv => { lhs; whnf }) ?_ | refine Wl.nil ?_ | refine Wl.guardY rfl rfl ?_ | refine Wl.guardN rfl rfl ?_ | refine Wl.pickTE rfl (by conv => { lhs; whnf }) ?_ | refine Wl.pickFE rfl (by conv => { lhs; whnf }) ?_ | refine Wl.lenS rfl ?_ | refine Qseq.normal ?_ | refine Wc.seq ?_ | refine Wc.region ?_ | refine Wc.ret ?_ | refine Qseq.ret ?_ | refine Wc.condT rfl ?_ | refine Wl.lss rfl rfl (fun _ => ?_) (fun _ => ?_) | refine Wl.gtr rfl rfl (fun _ => ?_) (fun _ => ?_)))
  · have e : treeOk l = false := by
      cases ht : treeOk l with
      | false => rfl
      | true => have := ((treeOk_next l).1 ht).2; omega
    rw [e]
    exact Qfn.ret1 rfl rfl ⟨_, rfl, rfl, Chg.refl _ _⟩
  · obtain ⟨x, hx⟩ := get_lt l (k := 512) (by omega)
    rw [hno (i := 512) (by omega) (by unfold nextOk; rw [hx]; rfl)]
    exact Qfn.ret1 rfl rfl ⟨_, rfl, rfl, Chg.refl _ _⟩
  obtain ⟨x, hx⟩ := get_lt l (k := 0) (by omega)
  have hn0 : nextOk l 0 = (propsOk x.props && (decide (x.parent = -1) && decide (x.name = []))) := by unfold nextOk; rw [hx]; rfl
  refine Wl.idxAddr h rfl rfl (by omega) hx fun b o cs hl hR hat => ?_
  obtain ⟨pv, rfl, hpr⟩ := hR
  (repeat' (first | refine Wl.guardY rfl rfl ?_ | refine Wl.fieldAddr rfl rfl ?_))
  refine Wl.load1 rfl (hat.get 0 rfl) ?_
  (repeat' (first | refine Wl.moveE (by conv => { lhs; whnf }) ?_ | refine Wl.assignE (by conv => { lhs; whnf }) ?_ | refine Wl.nil ?_ | refine Wl.guardY rfl rfl ?_ | refine Wl.guardN rfl rfl ?_ | refine Wl.pickTE rfl (by conv => { lhs; whnf }) ?_ | refine Wl.pickFE rfl (by conv => { lhs; whnf }) ?_ | refine Qseq.normal ?_ | refine Wc.seq ?_ | refine Wc.region ?_ | refine Wc.ret ?_ | refine Qseq.ret ?_ | refine Wc.condT rfl ?_ | refine Wl.neq rfl rfl (fun _ => ?_) (fun _ => ?_)))
  · rw [hno (i := 0) (by omega) (by rw [hn0, decide_eq_false (by assumption)]; simp)]
    exact Qfn.ret1 rfl rfl ⟨_, rfl, rfl, Chg.refl _ _⟩
  refine Wl.idxAddr h rfl rfl (by omega) hx fun b o cs hl hR hat => ?_
  obtain ⟨pv, rfl, hpr⟩ := hR
  (repeat' (first | refine Wl.guardY rfl rfl ?_ | refine Wl.fieldAddr rfl rfl ?_))
  refine Wl.load1 rfl (hat.get 1 rfl) ?_
  (repeat' (first | refine Wl.moveE (by conv => { lhs; whnf }) ?_ | refine Wl.assignE (by conv => { lhs; whnf }) ?_ | refine Wl.nil ?_ | refine Wl.guardY rfl rfl ?_ | refine Wl.guardN rfl rfl ?_ | refine Wl.pickTE rfl (by conv => { lhs; whnf }) ?_ | refine Wl.pickFE rfl (by conv => { lhs; whnf }) ?_ | refine Qseq.normal ?_ | refine Wc.seq ?_ | refine Wc.region ?_ | refine Wc.ret ?_ | refine Qseq.ret ?_ | refine Wc.condT rfl ?_ | refine Wl.sneq rfl rfl (fun _ => ?_) (fun _ => ?_)))
  · rw [hno (i := 0) (by omega) (by rw [hn0, decide_eq_false (show ¬ x.name = [] by assumption)]; simp)]
    exact Qfn.ret1 rfl rfl ⟨_, rfl, rfl, Chg.refl _ _⟩
  refine Wl.idxAddr h rfl rfl (by omega) hx fun b o cs hl hR hat => ?_
  obtain ⟨pv, rfl, hpr⟩ := hR
  obtain ⟨pa, pc, rfl, _, _⟩ := hpr.form
  (repeat' (first | refine Wl.guardY rfl rfl ?_ | refine Wl.fieldAddr rfl rfl ?_))
  refine Wl.load1 rfl (hat.get 2 rfl) ?_
  (try refine Wl.guardY rfl rfl ?_)
  refine Wl.call (propsR_spec hpr (hzp x (List.mem_of_getElem? hx))) rfl ?_
  rintro _ w1 ⟨rfl, n1⟩
  cases hpo : propsOk x.props with
  | false =>
    (repeat' (first | refine Wl.assignE (by conv => { lhs; whnf }) ?_ | refine Wl.nil ?_ | refine Wl.guardY rfl rfl ?_ | refine Wl.pickFE rfl (by conv => { lhs; whnf }) ?_ | refine Wl.notB rfl ?_ | refine Qseq.normal ?_ | refine Wc.seq ?_ | refine Wc.region ?_ | refine Wc.ret ?_ | refine Qseq.ret ?_ | refine Wc.condT rfl ?_))
    rw [hno (i := 0) (by omega) (by rw [hn0, hpo]; rfl)]
    exact Qfn.ret1 rfl rfl ⟨_, rfl, rfl, n1⟩
  | true =>
    have h0 : nextOk l 0 = true := by
      rw [hn0, hpo, decide_eq_true (by omega), decide_eq_true (by assumption)]; rfl
    clear hat
    (repeat' (first | refine Wl.assignE (by conv => { lhs; whnf }) ?_ | refine Wl.nil ?_ | refine Wl.guardY rfl rfl ?_ | refine Wl.pickFE rfl (by conv => { lhs; whnf }) ?_ | refine Wl.notB rfl ?_ | refine Qseq.normal ?_ | refine Wc.seq ?_ | refine Wc.region ?_ | refine Wc.block ?_ | refine Wc.skip ?_ | refine Wc.condF rfl ?_))
    refine Wc.loop (σ := Nat) (fun i => [(0, .slice a l.length cap), (3, vi i)]) (fun i w' => i ≤ l.length ∧ 1 ≤ i ∧ (∀ j, j < i → nextOk l j = true) ∧ New w w') (fun i => l.length - i) 1 ⟨rfl, rfl, trivial⟩ ⟨by omega, Nat.le_refl _, fun j hj => (show 0 = j by omega) ▸ h0, n1⟩ ?_
    clear hx hn0 hpo h0 hpr n1
    rintro i G w1 ⟨hi, hi1, hall, n1⟩
    simp only [upds]
    (repeat' (first | refine Wl.moveE (by conv => { lhs; whnf }) ?_ | refine Wl.assignE (by conv => { lhs; whnf }) ?_ | refine Wl.nil ?_ | refine Wl.lenS rfl ?_ | refine Qseq.normal ?_ | refine Wc.seq ?_ | refine Wc.region ?_ | refine Wc.block ?_ | refine Wc.skip ?_ | refine Wc.exit ?_ | refine Wc.ret ?_ | refine Qseq.exit ?_ | refine Qblk.hit ?_ | refine Qloop.exit ?_ | refine Wc.condT rfl ?_ | refine Wc.condF rfl ?_ | refine Wl.lss rfl rfl (fun _ => ?_) (fun _ => ?_)))
    · obtain ⟨x, hx⟩ := get_lt l (k := i) (by omega)
      have hxm := List.mem_of_getElem? hx
      have hxn := hz.nm x hxm
      have hdn := nextOk_down hall
      have hil : i < l.length := by omega
      have hnx : nextOk l i = (propsOk x.props && (nameOk x.name && (decide (0 ≤ x.parent) && (decide (x.parent < i) && ((anc l (i - 1)).contains x.parent.toNat && (decide ((anc l x.parent.toNat).length + 1 ≤ 16) && !((l.take i).drop 1).any (sameKid x))))))) := by
        unfold nextOk; rw [hx]; dsimp only; rw [decide_eq_true (show i < 512 by omega), if_neg (by omega), Bool.true_and]
      refine Wl.idxAddr (h.keep stableNd n1.keep) rfl rfl (by omega) hx fun b o cs hl hR hat => ?_
      obtain ⟨pv, rfl, hpr⟩ := hR
      refine Wl.loadAt hat rfl rfl ?_
      clear hat
      refine Wl.alloc fun w2 b2 n2 s2 => ?_
      refine Wl.storeB (new := [vi x.parent, vs x.name, pv]) b2 rfl rfl rfl rfl (show (3 : Nat) ≤ 3 from Nat.le_refl 3) (goodNd.oc Pb w1 x _ ⟨pv, rfl, hpr⟩ rfl) fun w3 b3 c3 s3 => ?_
      replace b3 : Bk w3 w1.heap.size tNd [vi x.parent, vs x.name, pv] := b3
      have n13 : New w1 w3 := Chg.trans n2 c3 fun k hk e => by omega
      clear b2 c3 n2
      (repeat' (first | refine Wl.nil ?_ | refine Qseq.normal ?_ | refine Wc.seq ?_ | refine Wc.region ?_ | refine Wl.fieldAddr rfl rfl ?_))
      refine Wl.load1 rfl (b3.cell (o := 1) rfl) ?_
      refine Wl.call (NameR_spec (s := x.name) (by omega)) rfl ?_
      rintro _ w4 ⟨rfl, n4⟩
      have b4 := b3.keep n4.keep (Pb := fun _ => True) trivial
      have n14 := New.trans n13 n4
      clear b3
      cases hnm : nameOk x.name with
      | false =>
        (repeat' (first | refine Wl.moveE (by conv => { lhs; whnf }) ?_ | refine Wl.assignE (by conv => { lhs; whnf }) ?_ | refine Wl.nil ?_ | refine Wl.guardN rfl rfl ?_ | refine Wl.pickTE rfl (by conv => { lhs; whnf }) ?_ | refine Wl.notB rfl ?_ | refine Qseq.normal ?_ | refine Wc.seq ?_ | refine Wc.region ?_ | refine Wc.ret ?_ | refine Qseq.ret ?_ | refine Qblk.ret ?_ | refine Qloop.ret ?_ | refine Wc.condT rfl ?_))
        rw [hno hil (by rw [hnx, hnm]; simp)]
        exact Qfn.ret1 rfl rfl ⟨_, rfl, rfl, New.trans n1 n14⟩
      | true =>
        (repeat' (first | refine Wl.moveE (by conv => { lhs; whnf }) ?_ | refine Wl.guardY rfl rfl ?_ | refine Wl.notB rfl ?_ | refine Wl.fieldAddr rfl rfl ?_))
        refine Wl.load1 rfl (b4.cell (o := 2) rfl) ?_
        (try refine Wl.guardY rfl rfl ?_)
        refine Wl.call (propsR_spec (hpr.keep (stable_flat pC) n14.keep) (hzp x hxm)) rfl ?_
        rintro _ w5 ⟨rfl, n5⟩
        have b5 := b4.keep n5.keep (Pb := fun _ => True) trivial
        have n15 := New.trans n14 n5
        have n05 := New.trans n1 n15
        clear b4
        cases hpo : propsOk x.props with
        | false =>
          (repeat' (first | refine Wl.moveE (by conv => { lhs; whnf }) ?_ | refine Wl.assignE (by conv => { lhs; whnf }) ?_ | refine Wl.nil ?_ | refine Wl.guardY rfl rfl ?_ | refine Wl.guardN rfl rfl ?_ | refine Wl.pickTE rfl (by conv => { lhs; whnf }) ?_ | refine Wl.pickFE rfl (by conv => { lhs; whnf }) ?_ | refine Wl.notB rfl ?_ | refine Qseq.normal ?_ | refine Wc.seq ?_ | refine Wc.region ?_ | refine Wc.ret ?_ | refine Qseq.ret ?_ | refine Qblk.ret ?_ | refine Qloop.ret ?_ | refine Wc.condT rfl ?_))
          rw [hno hil (by rw [hnx, hpo]; simp)]
          exact Qfn.ret1 rfl rfl ⟨_, rfl, rfl, n05⟩
        | true =>
          (repeat' (first | refine Wl.moveE (by conv => { lhs; whnf }) ?_ | refine Wl.guardY rfl rfl ?_ | refine Wl.pickFE rfl (by conv => { lhs; whnf }) ?_ | refine Wl.notB rfl ?_ | refine Wl.fieldAddr rfl rfl ?_))
          refine Wl.load1 rfl (b5.cell (o := 0) rfl) ?_
          (repeat' (first | refine Wl.moveE (by conv => { lhs; whnf }) ?_ | refine Wl.assignE (by conv => { lhs; whnf }) ?_ | refine Wl.nil ?_ | refine Wl.guardY rfl rfl ?_ | refine Wl.guardN rfl rfl ?_ | refine Wl.pickTE rfl (by conv => { lhs; whnf }) ?_ | refine Wl.pickFE rfl (by conv => { lhs; whnf }) ?_ | refine Qseq.normal ?_ | refine Wc.seq ?_ | refine Wc.region ?_ | refine Wc.ret ?_ | refine Qseq.ret ?_ | refine Qblk.ret ?_ | refine Qloop.ret ?_ | refine Wc.condT rfl ?_ | refine Wl.fieldAddr rfl rfl ?_ | refine Wl.lss rfl rfl (fun _ => ?_) (fun _ => ?_)))
          · rw [hno hil (by rw [hnx, decide_eq_false (show ¬ 0 ≤ x.parent by omega)]; simp)]
            exact Qfn.ret1 rfl rfl ⟨_, rfl, rfl, n05⟩
          refine Wl.load1 rfl (b5.cell (o := 0) rfl) ?_
          (repeat' (first | refine Wl.moveE (by conv => { lhs; whnf }) ?_ | refine Wl.assignE (by conv => { lhs; whnf }) ?_ | refine Wl.nil ?_ | refine Wl.guardY rfl rfl ?_ | refine Wl.guardN rfl rfl ?_ | refine Wl.pickTE rfl (by conv => { lhs; whnf }) ?_ | refine Wl.pickFE rfl (by conv => { lhs; whnf }) ?_ | refine Qseq.normal ?_ | refine Wc.seq ?_ | refine Wc.region ?_ | refine Wc.ret ?_ | refine Qseq.ret ?_ | refine Qblk.ret ?_ | refine Qloop.ret ?_ | refine Wc.condT rfl ?_ | refine Wl.fieldAddr rfl rfl ?_ | refine Wl.geq rfl rfl (fun _ => ?_) (fun _ => ?_)))
          · rw [hno hil (by rw [hnx, decide_eq_false (show ¬ x.parent < i by omega)]; simp)]
            exact Qfn.ret1 rfl rfl ⟨_, rfl, rfl, n05⟩
          have hdn1 : Down l (i + 1) := fun j y hj hy => by
            rcases Nat.lt_or_ge j i with hji | hji
            · exact hdn j y hji hy
            · obtain rfl : j = i := by omega
              rw [hx] at hy; cases hy; assumption
          have hai : (anc l i).length = (anc l x.parent.toNat).length + 1 := by
            rw [anc_step hdn1 (by omega) hx, if_neg (by omega), List.length_cons]
          refine Wl.load1 rfl (b5.cell (o := 0) rfl) ?_
          (repeat' (first | refine Wl.moveE (by conv => { lhs; whnf }) ?_ | refine Wl.guardY rfl rfl ?_ | refine Wl.sub rfl rfl (by omega) (by omega) ?_))
          have hab := above_spec (i := i - 1) (p := x.parent) (h.keep stableNd n05.keep) hdn (by omega) (by omega) (by omega)
          rw [show ((i - 1 : Nat) : Int) = (i : Int) - 1 by omega] at hab
          refine Wl.call hab rfl ?_
          rintro _ w6 ⟨rfl, n6⟩
          have b6 := b5.keep n6.keep (Pb := fun _ => True) trivial
          have n06 := New.trans n05 n6
          clear b5
          cases hha : (anc l (i - 1)).contains x.parent.toNat with
          | false =>
            (repeat' (first | refine Wl.moveE (by conv => { lhs; whnf }) ?_ | refine Wl.assignE (by conv => { lhs; whnf }) ?_ | refine Wl.nil ?_ | refine Wl.guardY rfl rfl ?_ | refine Wl.guardN rfl rfl ?_ | refine Wl.pickTE rfl (by conv => { lhs; whnf }) ?_ | refine Wl.pickFE rfl (by conv => { lhs; whnf }) ?_ | refine Wl.notB rfl ?_ | refine Qseq.normal ?_ | refine Wc.seq ?_ | refine Wc.region ?_ | refine Wc.ret ?_ | refine Qseq.ret ?_ | refine Qblk.ret ?_ | refine Qloop.ret ?_ | refine Wc.condT rfl ?_))
            rw [hno hil (by rw [hnx, hha]; simp)]
            exact Qfn.ret1 rfl rfl ⟨_, rfl, rfl, n06⟩
          | true =>
            (repeat' (first | refine Wl.moveE (by conv => { lhs; whnf }) ?_ | refine Wl.guardY rfl rfl ?_ | refine Wl.pickFE rfl (by conv => { lhs; whnf }) ?_ | refine Wl.notB rfl ?_))
            refine Wl.call (Depth_spec (i := i) (h.keep stableNd n06.keep) hdn1 (by omega) (by omega)) rfl ?_
            rintro _ w7 ⟨rfl, n7⟩
            have b7 := b6.keep n7.keep (Pb := fun _ => True) trivial
            have n07 := New.trans n06 n7
            clear b6
            (repeat' (first | refine Wl.assignE (by conv => { lhs; whnf }) ?_ | refine Wl.nil ?_ | refine Wl.guardY rfl rfl ?_ | refine Wl.pickFE rfl (by conv => { lhs; whnf }) ?_ | refine Qseq.normal ?_ | refine Wc.seq ?_ | refine Wc.region ?_ | refine Wc.block ?_ | refine Wc.skip ?_ | refine Wc.ret ?_ | refine Qseq.ret ?_ | refine Qblk.ret ?_ | refine Qloop.ret ?_ | refine Wc.condT rfl ?_ | refine Wc.condF rfl ?_ | refine Wl.gtr rfl rfl (fun _ => ?_) (fun _ => ?_)))
            · rw [hno hil (by rw [hnx, decide_eq_false (show ¬ (anc l x.parent.toNat).length + 1 ≤ 16 by omega)]; simp)]
              exact Qfn.ret1 rfl rfl ⟨_, rfl, rfl, n07⟩
            have hnl : nextOk l i = !((l.take i).drop 1).any (sameKid x) := by
              rw [hnx, hpo, hnm, hha, decide_eq_true (show 0 ≤ x.parent by omega), decide_eq_true (show x.parent < i by omega), decide_eq_true (show (anc l x.parent.toNat).length + 1 ≤ 16 by omega)]
              simp only [Bool.true_and]
            refine Wc.loop (σ := Nat) (fun k => [(0, .slice a l.length cap), (3, vi i), (4, ptrV w1.heap.size), (5, vi k)]) (fun k w' => k ≤ i ∧ 1 ≤ k ∧ (∀ (j : Nat) (y : Nd), 1 ≤ j → j < k → l[j]? = some y → sameKid x y = false) ∧ Bk w' w1.heap.size tNd [vi x.parent, vs x.name, pv] ∧ New w w') (fun k => i - k) 1 ⟨rfl, rfl, rfl, rfl, trivial⟩ ⟨by omega, by omega, fun j y h1 h2 => by omega, b7, n07⟩ ?_
            clear b7 n07 n06 n05 hnx hpr
            rintro k G w8 ⟨hk, hk1, hnk, b8, n8⟩
            simp only [upds]
            have h8 := h.keep stableNd n8.keep
            (repeat' (first | refine Wl.moveE (by conv => { lhs; whnf }) ?_ | refine Wl.assignE (by conv => { lhs; whnf }) ?_ | refine Wl.nil ?_ | refine Qseq.normal ?_ | refine Wc.seq ?_ | refine Wc.region ?_ | refine Wc.block ?_ | refine Wc.skip ?_ | refine Wc.exit ?_ | refine Qseq.exit ?_ | refine Qblk.normal ?_ | refine Qblk.hit ?_ | refine Qloop.exit ?_ | refine Wc.condT rfl ?_ | refine Wc.condF rfl ?_ | refine Wl.add rfl rfl (by omega) (by omega) ?_ | refine Wl.lss rfl rfl (fun _ => ?_) (fun _ => ?_)))
            · obtain ⟨y, hy⟩ := get_lt l (k := k) (by omega)
              refine Wc.regionN rfl (by kernel_rfl) ?_
              (repeat' (refine Wq.moveE (by conv => { lhs; whnf }) ?_))
              refine Wq.idxAddr h8 (fun w' hw => New.keep hw) rfl rfl (by omega) hy fun b o cs hl hR hat => ?_
              obtain ⟨yv, rfl, _⟩ := hR
              (repeat' (refine Wq.fieldAddr rfl rfl ?_))
              refine Wq.load1 rfl (fun w' hw => (hat w' hw).get 0 rfl) ?_
              clear hat
              (repeat' (refine Wq.fieldAddr rfl rfl ?_))
              refine Wq.load1 rfl (fun w' hw => (b8.chg hw id).cell (o := 0) rfl) ?_
              (repeat' (first | refine Wq.moveE (by conv => { lhs; whnf }) ?_ | refine Wq.nil ?_ | refine Wq.guardY rfl rfl ?_ | refine Wq.guardN rfl rfl ?_ | refine Wq.pickFE rfl (by conv => { lhs; whnf }) ?_ | refine Wq.eql rfl rfl (fun _ => ?_) (fun _ => ?_)))
              · refine Wq.idxAddr h8 (fun w' hw => New.keep hw) rfl rfl (by omega) hy fun b o cs hl hR hat => ?_
                obtain ⟨yv', rfl, _⟩ := hR
                (repeat' (first | refine Wq.guardY rfl rfl ?_ | refine Wq.fieldAddr rfl rfl ?_))
                refine Wq.load1 rfl (fun w' hw => (hat w' hw).get 1 rfl) ?_
                clear hat
                (repeat' (first | refine Wq.guardY rfl rfl ?_ | refine Wq.fieldAddr rfl rfl ?_))
                refine Wq.load1 rfl (fun w' hw => (b8.chg hw id).cell (o := 1) rfl) ?_
                (repeat' (first | refine Wq.nil ?_ | refine Wq.guardY rfl rfl ?_ | refine Wq.pickTE rfl (by conv => { lhs; whnf }) ?_ | refine Wq.seql rfl rfl (fun _ => ?_) (fun _ => ?_)))
                · intro w9 n9
                  (repeat' (first | refine Wl.assignE (by conv => { lhs; whnf }) ?_ | refine Wl.nil ?_ | refine Qseq.normal ?_ | refine Wc.seq ?_ | refine Wc.region ?_ | refine Wc.ret ?_ | refine Qseq.ret ?_ | refine Qblk.ret ?_ | refine Qloop.ret ?_ | refine Wc.condT rfl ?_))
                  rw [hno hil (by rw [hnl, any_take (p := sameKid x) (x := y) (k := k) (by omega) hk1 hy (by unfold sameKid; rw [decide_eq_true (by assumption), decide_eq_true (by assumption)]; rfl)]; rfl)]
                  exact Qfn.ret1 rfl rfl ⟨_, rfl, rfl, New.trans n8 n9⟩
                · intro w9 n9
                  (repeat' (first | refine Wl.moveE (by conv => { lhs; whnf }) ?_ | refine Wl.assignE (by conv => { lhs; whnf }) ?_ | refine Wl.nil ?_ | refine Qseq.normal ?_ | refine Wc.region ?_ | refine Wc.skip ?_ | refine Qblk.normal ?_ | refine Wc.condF rfl ?_ | refine Wl.add rfl rfl (by omega) (by omega) ?_))
                  refine Qloop.normal (k + 1) ⟨rfl, rfl, rfl, rfl, trivial⟩ ⟨by omega, by omega, fun j z h1 h2 hz => ?_, b8.chg n9 id, New.trans n8 n9⟩ (by omega)
                  rcases Nat.lt_or_ge j k with h3 | h3
                  · exact hnk j z h1 h3 hz
                  · obtain rfl : j = k := by omega
                    rw [hy] at hz
                    cases hz
                    unfold sameKid
                    rw [decide_eq_false (show ¬ y.name = x.name by assumption), Bool.and_false]
              · intro w9 n9
                (repeat' (first | refine Wl.moveE (by conv => { lhs; whnf }) ?_ | refine Wl.assignE (by conv => { lhs; whnf }) ?_ | refine Wl.nil ?_ | refine Qseq.normal ?_ | refine Wc.region ?_ | refine Wc.skip ?_ | refine Qblk.normal ?_ | refine Wc.condF rfl ?_ | refine Wl.add rfl rfl (by omega) (by omega) ?_))
                refine Qloop.normal (k + 1) ⟨rfl, rfl, rfl, rfl, trivial⟩ ⟨by omega, by omega, fun j z h1 h2 hz => ?_, b8.chg n9 id, New.trans n8 n9⟩ (by omega)
                rcases Nat.lt_or_ge j k with h3 | h3
                · exact hnk j z h1 h3 hz
                · obtain rfl : j = k := by omega
                  rw [hy] at hz
                  cases hz
                  unfold sameKid
                  rw [decide_eq_false (show ¬ y.parent = x.parent by assumption), Bool.false_and]
            · have e : k = i := by omega
              subst e
              rw [any_none (p := sameKid x) hnk] at hnl
              refine Qloop.normal (k + 1) ⟨rfl, rfl, trivial⟩ ⟨by omega, by omega, fun j hj => ?_, n8⟩ (by omega)
              rcases Nat.lt_or_ge j k with h3 | h3
              · exact hall j h3
              · obtain rfl : j = k := by omega
                exact hnl
    · have e : i = l.length := by omega
      rw [(treeOk_next l).2 ⟨fun j hj => hall j (by omega), by omega⟩]
      exact Qfn.ret1 rfl rfl ⟨_, rfl, rfl, n1⟩
end Go.Proofs.YtlkhajheecglgaaDoor

namespace Go.Proofs.YtlkhajheecglgaaDoor
open Go Wk
open Go.RowKit (Below)
attribute [local irreducible] Go.Calls

section
variable {P : Program} {n : Nat} {ds : List Deferred} {Q : Po} {F : Fr} {w : World} {ops rest : List Oper} {d : Nat} {ty : TypeId} {pos : String} {aft : Array Edge}
theorem made_at {z : Array Value} {m i : Nat} (hi : i < m) : ((madeCells z (m * z.size)).toList.drop (i * z.size)).take z.size = z.toList := by
  have hle : (i + 1) * z.size ≤ m * z.size := Nat.mul_le_mul_right _ hi
  rw [Nat.add_mul] at hle
  apply List.ext_getElem?
  intro j
  rw [List.getElem?_take]
  split
  · rename_i hj
    rw [List.getElem?_drop]
    have h1 : i * z.size + j < m * z.size := by omega
    simp only [madeCells, Array.toList_map, Array.toList_range, List.getElem?_map, List.getElem?_range h1, Option.map_some]
    rw [Nat.mul_comm i, Nat.mul_add_mod, Nat.mod_eq_of_lt hj]
    simp [hj]
  · rw [List.getElem?_eq_none (by simp; omega)]
/-- make([]T, m): zeros. -/
theorem Wk.Wl.makeZ {α : Type} {R : Rel α} {x y : Operand} {t e : TypeId} {sz bytes : Nat} {agg : Bool} {z : Value} {kl kc : IntKind} {m : Nat} (u : α)
    [ht : Und P t (.slice e)] [he : ElT P e sz bytes agg z] (hu : ∀ Pb w, R Pb w u z.cells.toList) (hx : ev n F x = .int kl m) (hy : ev n F y = .int kc m) (hby : bytes * m ≤ 281474976710656) (h63 : m ≤ maxLen)
    (c : ∀ w', OwnS R e sz (fun b => b = w.heap.size) No w' (.slice (some ⟨w.heap.size, 0, none⟩) m m) (List.replicate m u) → New w w' → w'.heap.size = w.heap.size + 1 → Wl P n ds Q ops rest (upd F d (.slice (some ⟨w.heap.size, 0, none⟩) m m)) w') :
    Wl P n ds Q ops (⟨some d, .makeSlice t x y, ty, pos, aft, none⟩ :: rest) F w := by
  obtain ⟨i, hi, hsz', hby', hz'⟩ := he.inf
  have hzs : z.cells.size = i.size := by rw [hsz']; exact he.hz
  have hb' : (i.bytes : Int) * (m : Int) ≤ 281474976710656 := by
    have h : ((i.bytes * m : Nat) : Int) ≤ 281474976710656 := by rw [hby']; omega
    rwa [Int.natCast_mul] at h
  have h63' := h63
  simp only [maxLen] at h63'
  have hr := run_make (P := P) w t e i z ht.h hi hz' kl kc m m (by omega) (Int.le_refl _) hb' (by omega)
  simp only [Int.toNat_natCast] at hr
  refine Wl.val (v := .slice (some ⟨w.heap.size, 0, none⟩) m m) (w' := w.alloc (.cells (madeCells z.cells (m * i.size)) e)) ?_ (c _ ⟨(madeCells z.cells (m * i.size)).toList, ⟨by simp [size_madeCells, hsz'], .inr ⟨w.heap.size, m, _, by rw [List.length_replicate], rfl, heap_alloc_new w _, by rw [List.length_replicate]; exact Nat.le_refl _, h63, by rw [size_madeCells, hsz'], ?_⟩⟩, fun j q hq => ?_⟩ (Chg.alloc _ _ _) (by simp))
  · simp only [execOp, hx, hy, Sem.run_bind, hr, Result.andThen_ok, Sem.run_pure]
  · rw [List.take_of_length_le]; simp [size_madeCells, hsz']
  · rw [List.getElem?_replicate] at hq
    split at hq
    · rename_i hj
      cases hq
      rw [← hsz', ← hzs, made_at hj]
      exact hu _ _
    · cases hq
end
abbrev rNds : Rel (List Nd) := rSl rNd 3
theorem goodNds : GoodR rNds 1 := ⟨fun _ _ _ _ _ hk ⟨v, e, h⟩ => ⟨v, e, h.keep stableNd hk⟩, fun _ _ _ _ _ hP ⟨v, e, h⟩ => ⟨v, e, h.mono monoNd hP⟩, fun Pb w x cs ⟨v, e, h⟩ _ c hc => by
  subst e
  obtain ⟨a, cap, rfl, _⟩ := h.form
  simp at hc
  rw [hc]; rfl⟩
/-- Nodes without props. -/
theorem rd_flat {Pb : Nat → Prop} {w : World} {v : Value} {L : List (Nd × Sl)} (h : RdS (flat ndV) 3 Pb w v L) (hp : ∀ y ∈ L, y.2 = (none, 0, 0) ∧ y.1.props = []) : RdS rNd 3 Pb w v (L.map Prod.fst) := by
  rcases h with ⟨rfl, e⟩ | ⟨a, cap, rfl, e, hc⟩ | ⟨b, off, cap, cur, e, fr, rfl, hb, hh, h1, h2, h3, h4⟩
  · exact .inl ⟨rfl, by rw [e]; rfl⟩
  · exact .inr (.inl ⟨a, cap, rfl, by rw [e]; rfl, hc⟩)
  · refine .inr (.inr ⟨b, off, cap, cur, e, fr, by rw [List.length_map], hb, hh, by rw [List.length_map]; exact h1, h2, by rw [List.length_map]; exact h3, fun i x hx => ?_⟩)
    rw [List.getElem?_map] at hx
    obtain ⟨y, hy, rfl⟩ := Option.map_eq_some_iff.1 hx
    obtain ⟨e1, e2⟩ := hp y (List.mem_of_getElem? hy)
    have := h4 i y hy
    refine ⟨.slice none 0 0, ?_, ?_⟩
    · have e3 : (List.drop (off + i * 3) cur.toList).take 3 = ndV y := this
      rw [e3]; unfold ndV slV; rw [e1]
    · rw [e2]; exact RdS.nil
/-! What is no tree. -/
abbrev nR : Nd := ⟨-1, [], []⟩
def bads : List (List Nd) := [[], [⟨0, [], []⟩], [⟨-1, [97], []⟩], [nR, nR], [nR, ⟨0, [], []⟩], [nR, ⟨1, [97], []⟩], [nR, ⟨0, [65], []⟩], [nR, ⟨0, [97], []⟩, ⟨0, [97], []⟩], [nR, ⟨0, [97], []⟩, ⟨0, [98], []⟩, ⟨1, [99], []⟩], [⟨-1, [], [([97], []), ([97], [])]⟩], [⟨-1, [], [([], [])]⟩]]
theorem bads_no : ∀ l ∈ bads, treeOk l = false := by decide +kernel
theorem bads_tx : ∀ l ∈ bads, ∀ x ∈ l, TxOk x.props := fun l hl x hx p hp => by
  have h : ∀ l ∈ bads, ∀ x ∈ l, ∀ p ∈ x.props, p.1.length ≤ 5 := by decide +kernel
  have := h l hl x hx p hp
  simp only [maxLen]; omega
/-! A deep one. -/
abbrev noS : Sl := (none, 0, 0)
def deepI (i : Nat) : List (Nd × Sl) := (List.range i).map fun (j : Nat) => ((⟨(j : Int) - 1, [97], []⟩ : Nd), noS)
def deepT : List (Nd × Sl) := (deepI 17).set 0 (⟨-1, [], []⟩, noS)
theorem deepI_snoc (i : Nat) : deepI (i + 1) = deepI i ++ [(⟨(i : Int) - 1, [97], []⟩, noS)] := by unfold deepI; rw [List.range_succ, List.map_append]; rfl
theorem deepI_len (i : Nat) : (deepI i).length = i := by unfold deepI; rw [List.length_map, List.length_range]
theorem deep_no : treeOk (deepT.map Prod.fst) = false := by decide +kernel
theorem deep_ok : treeOk ((deepT.map Prod.fst).take 16) = true := by decide +kernel
theorem deep_flat : ∀ y ∈ deepT, y.2 = noS ∧ y.1.props = [] := by decide +kernel
theorem deepT_len : deepT.length = 17 := by decide +kernel
/-! A wide one. -/
def nmW (j : Nat) : List UInt8 := [UInt8.ofNat (97 + j / 26 % 26), UInt8.ofNat (97 + j % 26)]
def wideI (i : Nat) : List (Nd × Sl) := (List.range i).map fun j => ((⟨0, nmW j, []⟩ : Nd), noS)
theorem wideI_snoc (i : Nat) : wideI (i + 1) = wideI i ++ [(⟨0, nmW i, []⟩, noS)] := by unfold wideI; rw [List.range_succ, List.map_append]; rfl
theorem wideI_len (i : Nat) : (wideI i).length = i := by unfold wideI; rw [List.length_map, List.length_range]
def wT (n : Nat) : List Nd := (List.range n).map fun j => if j = 0 then nR else ⟨0, nmW j, []⟩
theorem wT_len (n : Nat) : (wT n).length = n := by unfold wT; rw [List.length_map, List.length_range]
theorem wT_at {n j : Nat} (h : j < n) : (wT n)[j]? = some (if j = 0 then nR else ⟨0, nmW j, []⟩) := by
  unfold wT; rw [List.getElem?_map, List.getElem?_range h]; rfl
theorem wide_T : ((wideI 513).set 0 (nR, noS)).map Prod.fst = wT 513 := by
  apply List.ext_getElem?
  intro j
  rw [List.getElem?_map, List.getElem?_set, wideI_len]
  by_cases hj : j < 513
  · rw [wT_at hj]
    by_cases h0 : 0 = j
    · rw [if_pos h0, if_pos (by omega), if_pos h0.symm]; rfl
    · rw [if_neg h0, if_neg (fun e => h0 e.symm)]
      unfold wideI
      rw [List.getElem?_map, List.getElem?_range hj]; rfl
  · rw [if_neg (by omega), List.getElem?_eq_none (by rw [wideI_len]; omega), List.getElem?_eq_none (by rw [wT_len]; omega)]; rfl
theorem wide_flat : ∀ y ∈ (wideI 513).set 0 (nR, noS), y.2 = noS ∧ y.1.props = [] := fun y hy => by
  rcases List.mem_or_eq_of_mem_set hy with hy | rfl
  · unfold wideI at hy
    obtain ⟨j, _, rfl⟩ := List.mem_map.1 hy
    exact ⟨rfl, rfl⟩
  · exact ⟨rfl, rfl⟩
theorem wT_take : (wT 513).take 512 = wT 512 := by
  unfold wT
  rw [← List.map_take, List.take_range]; rfl
theorem wide_no : treeOk (wT 513) = false := by
  cases h : treeOk (wT 513) with
  | false => rfl
  | true => have := treeOk_len h; rw [wT_len] at this; omega
theorem nmW_inj {j k : Nat} (hj : j < 676) (hk : k < 676) (h : nmW j = nmW k) : j = k := by
  unfold nmW at h
  simp only [List.cons.injEq, and_true] at h
  have e : ∀ a b : Nat, a < 100 → b < 100 → UInt8.ofNat (97 + a) = UInt8.ofNat (97 + b) → a = b := fun a b ha hb e => by
    have := congrArg UInt8.toNat e
    rw [UInt8.toNat_ofNat', UInt8.toNat_ofNat'] at this
    omega
  have h1 := e _ _ (by omega) (by omega) h.1
  have h2 := e _ _ (by omega) (by omega) h.2
  omega
theorem nmW_ok (j : Nat) : nameOk (nmW j) = true := by
  have h : ∀ a : Fin 26, signs.contains (UInt8.ofNat (97 + a.val)) = true := by decide +kernel
  have h1 := h ⟨j / 26 % 26, by omega⟩
  have h2 := h ⟨j % 26, by omega⟩
  unfold nameOk nmW
  rw [List.all_cons, List.all_cons, h1, h2]
  simp
theorem wT_down (n : Nat) : Down (wT n) n := fun j x hj hx => by
  rw [wT_at hj] at hx
  cases hx
  split
  · show (-1 : Int) < _; omega
  · show (0 : Int) < _; omega
theorem wT_anc {n m : Nat} (hm : m < n) : (0 : Nat) ∈ anc (wT n) m ∧ anc (wT n) 0 = [0] := by
  have h0 : anc (wT n) 0 = [0] := by
    rw [anc_step (wT_down n) (by omega) (wT_at (by omega)), if_pos (by rw [if_pos rfl]; show (-1 : Int) < 0; omega)]
  refine ⟨?_, h0⟩
  by_cases hm0 : m = 0
  · rw [hm0, h0]; simp
  · rw [anc_step (wT_down n) hm (wT_at hm), if_neg hm0, if_neg (by show ¬ (0 : Int) < 0; omega)]
    show (0 : Nat) ∈ m :: anc (wT n) 0
    rw [h0]; simp
theorem wide_ok : treeOk (wT 512) = true := by
  refine (treeOk_next _).2 ⟨fun j hj => ?_, by rw [wT_len]; omega⟩
  rw [wT_len] at hj
  unfold nextOk
  rw [wT_at hj]
  dsimp only
  rw [decide_eq_true hj]
  by_cases h0 : j = 0
  · rw [if_pos h0, if_pos h0]; rfl
  · rw [if_neg h0, if_neg h0]
    have hp : propsOk [] = true := rfl
    have ha := wT_anc (n := 512) (m := j - 1) (by omega)
    rw [hp, nmW_ok, decide_eq_true (show (0 : Int) ≤ 0 by omega), decide_eq_true (show (0 : Int) < (j : Int) by omega)]
    have hc : (anc (wT 512) (j - 1)).contains (0 : Int).toNat = true := List.contains_iff_mem.2 ha.1
    rw [hc]
    have hl : (anc (wT 512) (0 : Int).toNat).length + 1 ≤ 16 := by
      show (anc (wT 512) 0).length + 1 ≤ 16
      rw [ha.2]; decide
    rw [decide_eq_true hl, any_none fun k y h1 h2 hy => ?_]
    · rfl
    · rw [wT_at (by omega), if_neg (by omega)] at hy
      cases hy
      unfold sameKid
      rw [decide_eq_false (show ¬ nmW k = nmW j from fun e => by have := nmW_inj (by omega) (by omega) e; omega), Bool.and_false]
/-! One prop, of such a value. -/
theorem one_ok (s : List UInt8) : treeOk [⟨-1, [], [([97], s)]⟩] = decide (s.length ≤ 1024) := by
  have hn : nameOk [97] = true := by decide +kernel
  have h1 : nextOk [⟨-1, [], [([97], s)]⟩] 0 = decide (s.length ≤ 1024) := by
    unfold nextOk propsOk propsGo
    simp [hn, propsGo]
  cases hd : decide (s.length ≤ 1024) with
  | true =>
    refine (treeOk_next _).2 ⟨fun j hj => ?_, by simp⟩
    obtain rfl : j = 0 := by simp at hj; omega
    rw [h1, hd]
  | false =>
    cases ht : treeOk [⟨-1, [], [([97], s)]⟩] with
    | false => rfl
    | true => have := ((treeOk_next _).1 ht).1 0 (by simp); rw [h1, hd] at this; cases this
theorem dec_nil : decM [] = ([], 4) := by
  rcases decM_cases [] with ⟨l, _, _, he⟩ | h
  · have := enc_ge l
    rw [← he] at this; simp at this
  · exact h
theorem look_none' {s : List UInt8} (h : decM s = ([], 4)) : lookM s = ([0, 0, 0, 0], 4) := by
  unfold decM at h
  unfold lookM
  cases hr : readM s with
  | none => rfl
  | some q => obtain ⟨l, hd⟩ := q; rw [hr] at h; cases h
end Go.Proofs.YtlkhajheecglgaaDoor

namespace Go.Proofs.YtlkhajheecglgaaDoor
open Go Wk
open Go.RowKit (Below)
attribute [local irreducible] Go.Calls

theorem txok_nil {l : List Nd} (h : ∀ x ∈ l, x.props = []) : ∀ x ∈ l, TxOk x.props := fun x hx p hp => by rw [h x hx] at hp; simp at hp
theorem goodNdW : ∀ x : Nd × Sl, ∀ c ∈ ndV x, c.oneCell' = true := by
  intro x c hc
  simp only [ndV, List.mem_cons, List.not_mem_nil, or_false] at hc
  rcases hc with rfl | rfl | rfl <;> rfl
theorem nm_vals (i : Nat) : [(0, Value.int .u8 (IntKind.u8.wrap (97 + ((i / 26 % 26 : Nat) : Int)))), (1, Value.int .u8 (IntKind.u8.wrap (97 + ((i % 26 : Nat) : Int))))] = numb 0 ((nmW i).map by8) := by
  have hu : ∀ k : Nat, IntKind.u8.wrap (k : Int) = ((UInt8.ofNat k).toNat : Int) := fun k => by rw [UInt8.toNat_ofNat', IntKind.wrap_u8]; omega
  rw [show (97 : Int) + ((i / 26 % 26 : Nat) : Int) = ((97 + i / 26 % 26 : Nat) : Int) by omega, show (97 : Int) + ((i % 26 : Nat) : Int) = ((97 + i % 26 : Nat) : Int) by omega, hu, hu]
  rfl
set_option maxRecDepth 8000 in
set_option maxHeartbeats 8000000 in
theorem none_law {w : World} : Calls Tryd.prog 7 #[] w (Ret fun r w' => r = .bool true ∧ New w w') := by
  refine calls_of_Wc Tryd.func7 rfl Tryd.ntmps7 rfl ?_
  (repeat' (first | refine Wl.assignE (by conv => { lhs; whnf }) ?_ | refine Wl.nil ?_ | refine Qseq.normal ?_ | refine Wc.seq ?_ | refine Wc.region ?_))
  refine Wl.buildF (ps := [(0, .const (vi 0))]) (parts := [(0, vi 0)]) rfl rfl (by simp [Value.cells]) ?_
  refine Wl.buildSlice1 (R := rNd) (y := ⟨0, [], []⟩) (Pe := No) goodNd rfl rfl rfl ⟨_, rfl, RdS.nil⟩ (by omega) (by omega) fun v1 w1 o1 n1 s1 hob1 => ?_
  obtain ⟨a1, c1, rfl, _, _⟩ := o1.form
  have r1 := (o1.rd monoNd).mono monoNd (Pb' := fun _ => True) fun _ _ _ => trivial
  clear o1 hob1 s1
  refine Wl.buildF (ps := [(0, .const (vi (-1))), (1, .const (vs [97]))]) (parts := [(0, vi (-1)), (1, vs [97])]) rfl rfl (by simp [Value.cells]) ?_
  refine Wl.buildSlice1 (R := rNd) (y := ⟨-1, [97], []⟩) (Pe := No) goodNd rfl rfl rfl ⟨_, rfl, RdS.nil⟩ (by omega) (by omega) fun v2 w2 o2 n2 s2 hob2 => ?_
  obtain ⟨a2, c2, rfl, _, _⟩ := o2.form
  have r2 := (o2.rd monoNd).mono monoNd (Pb' := fun _ => True) fun _ _ _ => trivial
  clear o2 hob2 s2
  refine Wl.buildF (ps := [(0, .const (vi (-1)))]) (parts := [(0, vi (-1))]) rfl rfl (by simp [Value.cells]) ?_
  refine Wl.buildF (ps := [(0, .const (vi (-1)))]) (parts := [(0, vi (-1))]) rfl rfl (by simp [Value.cells]) ?_
  refine Wl.buildSliceN (R := rNd) (N := 2) (ps := [(0, .tmp 34), (1, .tmp 35)]) (xs := [⟨-1, [], []⟩, ⟨-1, [], []⟩]) (us := [.agg #[vi (-1), vs [], .slice none 0 0], .agg #[vi (-1), vs [], .slice none 0 0]]) (Pe := No) goodNd rfl rfl ⟨rfl, ⟨_, rfl, RdS.nil⟩, rfl, ⟨_, rfl, RdS.nil⟩, trivial⟩ (by simp) (by simp) fun v3 w3 o3 n3 s3 hob3 => ?_
  obtain ⟨a3, c3, rfl, _, _⟩ := o3.form
  have r3 := (o3.rd monoNd).mono monoNd (Pb' := fun _ => True) fun _ _ _ => trivial
  clear o3 hob3 s3
  refine Wl.buildF (ps := [(0, .const (vi (-1)))]) (parts := [(0, vi (-1))]) rfl rfl (by simp [Value.cells]) ?_
  refine Wl.buildF (ps := [(0, .const (vi 0))]) (parts := [(0, vi 0)]) rfl rfl (by simp [Value.cells]) ?_
  refine Wl.buildSliceN (R := rNd) (N := 2) (ps := [(0, .tmp 37), (1, .tmp 38)]) (xs := [⟨-1, [], []⟩, ⟨0, [], []⟩]) (us := [.agg #[vi (-1), vs [], .slice none 0 0], .agg #[vi 0, vs [], .slice none 0 0]]) (Pe := No) goodNd rfl rfl ⟨rfl, ⟨_, rfl, RdS.nil⟩, rfl, ⟨_, rfl, RdS.nil⟩, trivial⟩ (by simp) (by simp) fun v4 w4 o4 n4 s4 hob4 => ?_
  obtain ⟨a4, c4, rfl, _, _⟩ := o4.form
  have r4 := (o4.rd monoNd).mono monoNd (Pb' := fun _ => True) fun _ _ _ => trivial
  clear o4 hob4 s4
  refine Wl.buildF (ps := [(0, .const (vi (-1)))]) (parts := [(0, vi (-1))]) rfl rfl (by simp [Value.cells]) ?_
  refine Wl.buildF (ps := [(0, .const (vi 1)), (1, .const (vs [97]))]) (parts := [(0, vi 1), (1, vs [97])]) rfl rfl (by simp [Value.cells]) ?_
  refine Wl.buildSliceN (R := rNd) (N := 2) (ps := [(0, .tmp 40), (1, .tmp 41)]) (xs := [⟨-1, [], []⟩, ⟨1, [97], []⟩]) (us := [.agg #[vi (-1), vs [], .slice none 0 0], .agg #[vi 1, vs [97], .slice none 0 0]]) (Pe := No) goodNd rfl rfl ⟨rfl, ⟨_, rfl, RdS.nil⟩, rfl, ⟨_, rfl, RdS.nil⟩, trivial⟩ (by simp) (by simp) fun v5 w5 o5 n5 s5 hob5 => ?_
  obtain ⟨a5, c5, rfl, _, _⟩ := o5.form
  have r5 := (o5.rd monoNd).mono monoNd (Pb' := fun _ => True) fun _ _ _ => trivial
  clear o5 hob5 s5
  refine Wl.buildF (ps := [(0, .const (vi (-1)))]) (parts := [(0, vi (-1))]) rfl rfl (by simp [Value.cells]) ?_
  refine Wl.buildF (ps := [(0, .const (vi 0)), (1, .const (vs [65]))]) (parts := [(0, vi 0), (1, vs [65])]) rfl rfl (by simp [Value.cells]) ?_
  refine Wl.buildSliceN (R := rNd) (N := 2) (ps := [(0, .tmp 43), (1, .tmp 44)]) (xs := [⟨-1, [], []⟩, ⟨0, [65], []⟩]) (us := [.agg #[vi (-1), vs [], .slice none 0 0], .agg #[vi 0, vs [65], .slice none 0 0]]) (Pe := No) goodNd rfl rfl ⟨rfl, ⟨_, rfl, RdS.nil⟩, rfl, ⟨_, rfl, RdS.nil⟩, trivial⟩ (by simp) (by simp) fun v6 w6 o6 n6 s6 hob6 => ?_
  obtain ⟨a6, c6, rfl, _, _⟩ := o6.form
  have r6 := (o6.rd monoNd).mono monoNd (Pb' := fun _ => True) fun _ _ _ => trivial
  clear o6 hob6 s6
  refine Wl.buildF (ps := [(0, .const (vi (-1)))]) (parts := [(0, vi (-1))]) rfl rfl (by simp [Value.cells]) ?_
  refine Wl.buildF (ps := [(0, .const (vi 0)), (1, .const (vs [97]))]) (parts := [(0, vi 0), (1, vs [97])]) rfl rfl (by simp [Value.cells]) ?_
  refine Wl.buildF (ps := [(0, .const (vi 0)), (1, .const (vs [97]))]) (parts := [(0, vi 0), (1, vs [97])]) rfl rfl (by simp [Value.cells]) ?_
  refine Wl.buildSliceN (R := rNd) (N := 3) (ps := [(0, .tmp 46), (1, .tmp 47), (2, .tmp 48)]) (xs := [⟨-1, [], []⟩, ⟨0, [97], []⟩, ⟨0, [97], []⟩]) (us := [.agg #[vi (-1), vs [], .slice none 0 0], .agg #[vi 0, vs [97], .slice none 0 0], .agg #[vi 0, vs [97], .slice none 0 0]]) (Pe := No) goodNd rfl rfl ⟨rfl, ⟨_, rfl, RdS.nil⟩, rfl, ⟨_, rfl, RdS.nil⟩, rfl, ⟨_, rfl, RdS.nil⟩, trivial⟩ (by simp) (by simp) fun v7 w7 o7 n7 s7 hob7 => ?_
  obtain ⟨a7, c7, rfl, _, _⟩ := o7.form
  have r7 := (o7.rd monoNd).mono monoNd (Pb' := fun _ => True) fun _ _ _ => trivial
  clear o7 hob7 s7
  refine Wl.buildF (ps := [(0, .const (vi (-1)))]) (parts := [(0, vi (-1))]) rfl rfl (by simp [Value.cells]) ?_
  refine Wl.buildF (ps := [(0, .const (vi 0)), (1, .const (vs [97]))]) (parts := [(0, vi 0), (1, vs [97])]) rfl rfl (by simp [Value.cells]) ?_
  refine Wl.buildF (ps := [(0, .const (vi 0)), (1, .const (vs [98]))]) (parts := [(0, vi 0), (1, vs [98])]) rfl rfl (by simp [Value.cells]) ?_
  refine Wl.buildF (ps := [(0, .const (vi 1)), (1, .const (vs [99]))]) (parts := [(0, vi 1), (1, vs [99])]) rfl rfl (by simp [Value.cells]) ?_
  refine Wl.buildSliceN (R := rNd) (N := 4) (ps := [(0, .tmp 50), (1, .tmp 51), (2, .tmp 52), (3, .tmp 53)]) (xs := [⟨-1, [], []⟩, ⟨0, [97], []⟩, ⟨0, [98], []⟩, ⟨1, [99], []⟩]) (us := [.agg #[vi (-1), vs [], .slice none 0 0], .agg #[vi 0, vs [97], .slice none 0 0], .agg #[vi 0, vs [98], .slice none 0 0], .agg #[vi 1, vs [99], .slice none 0 0]]) (Pe := No) goodNd rfl rfl ⟨rfl, ⟨_, rfl, RdS.nil⟩, rfl, ⟨_, rfl, RdS.nil⟩, rfl, ⟨_, rfl, RdS.nil⟩, rfl, ⟨_, rfl, RdS.nil⟩, trivial⟩ (by simp) (by simp) fun v8 w8 o8 n8 s8 hob8 => ?_
  obtain ⟨a8, c8, rfl, _, _⟩ := o8.form
  have r8 := (o8.rd monoNd).mono monoNd (Pb' := fun _ => True) fun _ _ _ => trivial
  clear o8 hob8 s8
  refine Wl.buildF (ps := [(0, .const (vs [97]))]) (parts := [(0, vs [97])]) rfl rfl (by simp [Value.cells]) ?_
  refine Wl.buildF (ps := [(0, .const (vs [97]))]) (parts := [(0, vs [97])]) rfl rfl (by simp [Value.cells]) ?_
  refine Wl.buildSliceN (R := rPr) (N := 2) (ps := [(0, .tmp 55), (1, .tmp 56)]) (xs := [([97], []), ([97], [])]) (us := [.agg #[vs [97], vs []], .agg #[vs [97], vs []]]) (Pe := No) goodPr rfl rfl ⟨rfl, rfl, rfl, rfl, trivial⟩ (by simp) (by simp) fun q9 x9 p9 m9 t9 hob9 => ?_
  obtain ⟨b9, d9, rfl, _, _⟩ := p9.form
  refine Wl.buildF (ps := [(0, .const (vi (-1))), (2, .tmp 57)]) (parts := [(0, vi (-1)), (2, .slice b9 2 d9)]) rfl rfl (by simp [Value.cells]) ?_
  refine Wl.buildSlice1 (R := rNd) (y := ⟨-1, [], [([97], []), ([97], [])]⟩) (Pe := fun b => b < x9.heap.size) goodNd rfl rfl rfl ⟨_, rfl, (p9.rd (mono_flat pC)).mono (mono_flat pC) fun b hb _ => ⟨hb, by omega⟩⟩ (by omega) (by omega) fun v9 w9 o9 n9 s9 hob9 => ?_
  obtain ⟨a9, c9, rfl, _, _⟩ := o9.form
  have r9 := (o9.rd monoNd).mono monoNd (Pb' := fun _ => True) fun _ _ _ => trivial
  clear o9 s9 p9 t9
  refine Wl.makeZ (R := rPr) (m := 1) (([], []) : Pr) (by intros; rfl) rfl rfl (by omega) (by simp only [maxLen]; omega) fun x10 p10 m10 t10 => ?_
  rw [List.replicate_one] at p10
  refine Wl.buildF (ps := [(0, .const (vi (-1))), (2, .tmp 60)]) (parts := [(0, vi (-1)), (2, .slice (some ⟨w9.heap.size, 0, none⟩) 1 1)]) rfl rfl (by simp [Value.cells]) ?_
  refine Wl.buildSlice1 (R := rNd) (y := ⟨-1, [], [([], [])]⟩) (Pe := fun b => b < x10.heap.size) goodNd rfl rfl rfl ⟨_, rfl, (p10.rd (mono_flat pC)).mono (mono_flat pC) fun b hb _ => ⟨hb, by omega⟩⟩ (by omega) (by omega) fun v10 w10 o10 n10 s10 hob10 => ?_
  obtain ⟨a10, c10, rfl, _, _⟩ := o10.form
  have r10 := (o10.rd monoNd).mono monoNd (Pb' := fun _ => True) fun _ _ _ => trivial
  clear o10 s10 p10 t10
  have k10 : New w10 w10 := Chg.refl _ _
  have k9 := New.trans m10 n10
  have k8 := New.trans (New.trans m9 n9) k9
  have k7 := New.trans n8 k8
  have k6 := New.trans n7 k7
  have k5 := New.trans n6 k6
  have k4 := New.trans n5 k5
  have k3 := New.trans n4 k4
  have k2 := New.trans n3 k3
  have k1 := New.trans n2 k2
  have k0 := New.trans n1 k1
  refine Wl.buildSliceN (R := rNds) (N := 11) (ps := [(0, .const (.slice none 0 0)), (1, .tmp 31), (2, .tmp 33), (3, .tmp 36), (4, .tmp 39), (5, .tmp 42), (6, .tmp 45), (7, .tmp 49), (8, .tmp 54), (9, .tmp 59), (10, .tmp 62)]) (xs := bads) (us := [.slice none 0 0, .slice a1 1 c1, .slice a2 1 c2, .slice a3 2 c3, .slice a4 2 c4, .slice a5 2 c5, .slice a6 2 c6, .slice a7 3 c7, .slice a8 4 c8, .slice a9 1 c9, .slice a10 1 c10]) (Pe := fun b => b < w10.heap.size) goodNds rfl rfl ⟨rfl, ⟨_, rfl, RdS.nil⟩, rfl, ⟨_, rfl, (r1.keep stableNd k1.keep).mono monoNd fun b hb _ => ⟨hb, by omega⟩⟩, rfl, ⟨_, rfl, (r2.keep stableNd k2.keep).mono monoNd fun b hb _ => ⟨hb, by omega⟩⟩, rfl, ⟨_, rfl, (r3.keep stableNd k3.keep).mono monoNd fun b hb _ => ⟨hb, by omega⟩⟩, rfl, ⟨_, rfl, (r4.keep stableNd k4.keep).mono monoNd fun b hb _ => ⟨hb, by omega⟩⟩, rfl, ⟨_, rfl, (r5.keep stableNd k5.keep).mono monoNd fun b hb _ => ⟨hb, by omega⟩⟩, rfl, ⟨_, rfl, (r6.keep stableNd k6.keep).mono monoNd fun b hb _ => ⟨hb, by omega⟩⟩, rfl, ⟨_, rfl, (r7.keep stableNd k7.keep).mono monoNd fun b hb _ => ⟨hb, by omega⟩⟩, rfl, ⟨_, rfl, (r8.keep stableNd k8.keep).mono monoNd fun b hb _ => ⟨hb, by omega⟩⟩, rfl, ⟨_, rfl, (r9.keep stableNd k9.keep).mono monoNd fun b hb _ => ⟨hb, by omega⟩⟩, rfl, ⟨_, rfl, (r10.keep stableNd k10.keep).mono monoNd fun b hb _ => ⟨hb, by omega⟩⟩, trivial⟩ (by simp) (by simp) fun bv w11 o11 n11 s11 hob11 => ?_
  obtain ⟨ab, cb, rfl, _, _⟩ := o11.form
  have rb := o11.rd goodNds.mo
  have n011 := New.trans k0 n11
  clear o11 hob11 s11 n11 r1 k1 r2 k2 r3 k3 r4 k4 r5 k5 r6 k6 r7 k7 r8 k8 r9 k9 r10 k10 k0 n1 n2 n3 n4 n5 n6 n7 n8 n9 n10 m9 m10
  have hbl : bads.length = 11 := rfl
  (repeat' (first | refine Wl.assignE (by conv => { lhs; whnf }) ?_ | refine Wl.nil ?_ | refine Qseq.normal ?_ | refine Wc.seq ?_ | refine Wc.region ?_ | refine Wc.block ?_))
  refine Wc.loop (σ := Nat) (fun i => [(1, .slice ab bads.length cb), (2, vi i)]) (fun i w' => i ≤ 11 ∧ RdS rNds 1 (fun b => b = w10.heap.size ∨ b < w10.heap.size) w' (.slice ab bads.length cb) bads ∧ New w w') (fun i => 11 - i) 0 ⟨rfl, rfl, trivial⟩ ⟨Nat.zero_le _, rb, n011⟩ ?_
  clear rb n011
  rintro i G w1 ⟨hi, rb, n1⟩
  simp only [upds]
  generalize hbd : bads = bd at *
  (repeat' (first | refine Wl.moveE (by conv => { lhs; whnf }) ?_ | refine Wl.assignE (by conv => { lhs; whnf }) ?_ | refine Wl.nil ?_ | refine Wl.lenS rfl ?_ | refine Qseq.normal ?_ | refine Wc.seq ?_ | refine Wc.region ?_ | refine Wc.block ?_ | refine Wc.skip ?_ | refine Wc.exit ?_ | refine Qseq.exit ?_ | refine Qblk.hit ?_ | refine Qloop.exit ?_ | refine Wc.condT rfl ?_ | refine Wc.condF rfl ?_ | refine Wl.lss rfl rfl (fun _ => ?_) (fun _ => ?_)))
  · obtain ⟨l, hl⟩ := get_lt bd (k := i) (by omega)
    have hlm := List.mem_of_getElem? hl
    rw [← hbd] at hlm
    have hno := bads_no l hlm
    refine Wl.idxAddr rb rfl rfl (by omega) hl fun b o cs hcl hR hat => ?_
    obtain ⟨lv, rfl, hr⟩ := hR
    obtain ⟨la, lc, rfl, _, _⟩ := hr.form
    refine Wl.load1 rfl (hat.get 0 rfl) ?_
    clear hat
    refine Wl.call (Encode_spec hr (bads_tx l hlm)) rfl ?_
    rintro _ w2 ⟨rfl, n2⟩
    rw [hno, if_neg (by simp), if_neg (by simp)]
    have rb2 := rb.keep goodNds.st n2.keep
    (repeat' (first | refine Wl.moveE (by conv => { lhs; whnf }) ?_ | refine Wl.assignE (by conv => { lhs; whnf }) ?_ | refine Wl.nil ?_ | refine Wl.extract rfl rfl ?_ | refine Qseq.normal ?_ | refine Wc.seq ?_ | refine Wc.region ?_))
    refine Wl.idxAddr rb2 rfl rfl (by omega) hl fun b o cs hcl hR hat => ?_
    obtain ⟨lv, rfl, hr⟩ := hR
    obtain ⟨la, lc, rfl, _, _⟩ := hr.form
    refine Wl.load1 rfl (hat.get 0 rfl) ?_
    clear hat
    refine Wl.call (Strings_spec hr (bads_tx l hlm)) rfl ?_
    rintro _ w3 ⟨sv, rfl, os, n3⟩
    rw [hno, if_neg (by simp)] at os
    rw [hno, if_neg (by simp)]
    obtain ⟨sa, sc, rfl, _, _⟩ := os.form
    (repeat' (first | refine Wl.moveE (by conv => { lhs; whnf }) ?_ | refine Wl.assignE (by conv => { lhs; whnf }) ?_ | refine Wl.nil ?_ | refine Wl.extract rfl rfl ?_ | refine Wl.guardY rfl rfl ?_ | refine Wl.pickFE rfl (by conv => { lhs; whnf }) ?_ | refine Wl.lenS rfl ?_ | refine Qseq.normal ?_ | refine Wc.seq ?_ | refine Wc.region ?_ | refine Wc.skip ?_ | refine Qblk.normal ?_ | refine Wc.condF rfl ?_ | refine Wl.add rfl rfl (by omega) (by omega) ?_ | (refine Wl.neq rfl rfl (fun _ => ?_) (fun _ => ?_) <;> (first | (exfalso; omega) | (exfalso; contradiction) | skip)) | (refine Wl.sneq rfl rfl (fun _ => ?_) (fun _ => ?_) <;> (first | (exfalso; contradiction) | skip))))
    exact Qloop.normal (i + 1) ⟨rfl, rfl, trivial⟩ ⟨by omega, rb2.keep goodNds.st n3.keep, New.trans (New.trans n1 n2) n3⟩ (by omega)
  clear rb hbd hbl
  have z1 := n1.size
  refine Wc.loop (σ := Nat × Value) (fun q => [(7, q.2), (8, .slice none 0 0), (9, vi q.1)]) (fun q w' => q.1 ≤ 17 ∧ OwnS (flat ndV) tNd 3 (fun b => w1.heap.size ≤ b) No w' q.2 (deepI q.1) ∧ New w1 w') (fun q => 17 - q.1) (0, .slice none 0 0) ⟨rfl, rfl, rfl, trivial⟩ ⟨Nat.zero_le _, OwnS.nil, Chg.refl _ _⟩ ?_
  rintro ⟨i, v⟩ G w2 ⟨hi, o2, n2⟩
  dsimp only at hi o2 n2
  have z2 := n2.size
  simp only [upds]
  have hdl := deepI_len i
  (repeat' (first | refine Wl.moveE (by conv => { lhs; whnf }) ?_ | refine Wl.nil ?_ | refine Qseq.normal ?_ | refine Wc.seq ?_ | refine Wc.region ?_ | refine Wc.block ?_ | refine Wc.skip ?_ | refine Wc.exit ?_ | refine Qseq.exit ?_ | refine Qblk.hit ?_ | refine Qloop.exit ?_ | refine Wc.condT rfl ?_ | refine Wc.condF rfl ?_ | refine Wl.sub rfl rfl (by omega) (by omega) ?_ | refine Wl.lss rfl rfl (fun _ => ?_) (fun _ => ?_)))
  · refine Wl.buildF (ps := [(0, .tmp 107), (1, .const (vs [97]))]) (parts := [(0, vi ((i : Int) - 1)), (1, vs [97])]) rfl rfl (by simp [Value.cells]) ?_
    refine Wl.append1 (R := flat ndV) (y := (⟨(i : Int) - 1, [97], []⟩, noS)) goodNdV o2 rfl rfl rfl rfl rfl (by omega) (by omega) (by rw [hdl]; simp only [maxLen]; omega) (by rw [hdl]; omega) rfl rfl fun v3 w3 p3 o3 c3 lie => ?_
    (repeat' (first | refine Wl.moveE (by conv => { lhs; whnf }) ?_ | refine Wl.assignE (by conv => { lhs; whnf }) ?_ | refine Wl.nil ?_ | refine Qseq.normal ?_ | refine Wc.region ?_ | refine Qblk.normal ?_ | refine Wl.add rfl rfl (by omega) (by omega) ?_))
    refine Qloop.normal (i + 1, v3) ⟨rfl, rfl, rfl, trivial⟩ ⟨by dsimp only; omega, ?_, Chg.trans n2 c3 fun b hb e => by have := (o2.lt e).1; omega⟩ (by dsimp only; omega)
    dsimp only
    rw [deepI_snoc]
    exact o3.reblk fun b _ e => by rcases e with e | e <;> omega
  obtain rfl : i = 17 := by omega
  obtain ⟨g, gc, rfl, hg1, hg2, hg3⟩ := o2.blk (fun e => by rw [e] at hdl; simp at hdl)
  rw [hdl]
  refine Wl.idxP rfl rfl (by omega) (by omega) ?_
  (repeat' (refine Wl.fieldAddr rfl rfl ?_))
  refine Wl.storeOwnF (f := ndV) (g := g) (j := 0) (o := 1) (cap := gc) (p := (⟨-1, [97], []⟩, noS)) (q := (nR, noS)) (u := vs []) (fun _ => rfl) (by omega) rfl rfl rfl o2 rfl rfl rfl fun w3 o3 c3 => ?_
  replace o3 : OwnS (flat ndV) tNd 3 (fun b => w1.heap.size ≤ b) No w3 (.slice (some ⟨g, 0, none⟩) (deepI 17).length gc) deepT := o3
  have n3 : New w1 w3 := Chg.trans n2 c3 fun b hb e => by have := (o2.lt e).1; omega
  have rd3 := rd_flat (o3.rd (mono_flat ndV)) deep_flat
  have hD1 := deep_no
  have hD2 := deep_ok
  have hD3 : (deepT.map Prod.fst).length = 17 := by rw [List.length_map]; exact deepT_len
  have hD4 : ∀ x ∈ deepT.map Prod.fst, x.props = [] := fun x hx => by
    obtain ⟨y, hy, rfl⟩ := List.mem_map.1 hx
    exact (deep_flat y hy).2
  rw [hdl] at rd3
  generalize deepT.map Prod.fst = D at *
  clear o3 o2 c3 n2 z2 hg1 hg2 hg3
  have z3 := n3.size
  (repeat' (first | refine Wl.assignE (by conv => { lhs; whnf }) ?_ | refine Wl.nil ?_ | refine Qseq.normal ?_ | refine Wc.seq ?_ | refine Wc.region ?_ | refine Wc.block ?_))
  refine Wc.loop (σ := Nat × Value) (fun q => [(7, .slice (some ⟨g, 0, none⟩) 17 gc), (8, q.2), (10, vi q.1)]) (fun q w' => q.1 ≤ 513 ∧ OwnS (flat ndV) tNd 3 (fun b => w3.heap.size ≤ b) No w' q.2 (wideI q.1) ∧ New w3 w') (fun q => 513 - q.1) (0, .slice none 0 0) ⟨rfl, rfl, rfl, trivial⟩ ⟨Nat.zero_le _, OwnS.nil, Chg.refl _ _⟩ ?_
  rintro ⟨i, v⟩ G w2 ⟨hi, o2, n2⟩
  dsimp only at hi o2 n2
  have z2 := n2.size
  simp only [upds]
  have hwl := wideI_len i
  (repeat' (first | refine Wl.moveE (by conv => { lhs; whnf }) ?_ | refine Wl.nil ?_ | refine Qseq.normal ?_ | refine Wc.seq ?_ | refine Wc.region ?_ | refine Wc.block ?_ | refine Wc.skip ?_ | refine Wc.exit ?_ | refine Qseq.exit ?_ | refine Qblk.hit ?_ | refine Qloop.exit ?_ | refine Wc.condT rfl ?_ | refine Wc.condF rfl ?_ | refine Wl.lss rfl rfl (fun _ => ?_) (fun _ => ?_)))
  · have e1 : IntKind.i64.wrap ((i : Int).tdiv 26) = ((i / 26 : Nat) : Int) := by rw [show (i : Int).tdiv 26 = ((i / 26 : Nat) : Int) from rfl, IntKind.wrap_i64]; omega
    have e2 : ((i / 26 : Nat) : Int).tmod 26 = ((i / 26 % 26 : Nat) : Int) := rfl
    have e3 : (i : Int).tmod 26 = ((i % 26 : Nat) : Int) := rfl
    refine Wl.quoW rfl rfl (by omega) ?_
    rw [e1]
    refine Wl.remW rfl rfl (by omega) ?_
    rw [e2]
    (repeat' (first | refine Wl.moveE (by conv => { lhs; whnf }) ?_ | refine Wl.add rfl rfl (by omega) (by omega) ?_ | refine Wl.convI rfl ?_))
    refine Wl.remW rfl rfl (by omega) ?_
    rw [e3]
    (repeat' (first | refine Wl.add rfl rfl (by omega) (by omega) ?_ | refine Wl.convI rfl ?_))
    refine Wl.buildSliceN (R := one by8) (N := 2) (ps := [(0, .tmp 123), (1, .tmp 127)]) (xs := nmW i) (us := (nmW i).map by8) (Pe := No8) goodR8 rfl (nm_vals i) ⟨rfl, rfl, rfl, rfl, trivial⟩ (by simp [nmW]) (by simp [nmW]) fun v3 w4 o4 n4 s4 ob4 => ?_
    refine Wl.bytesStr (o4.rd mono8) rfl ?_
    have z4 := n4.size
    refine Wl.buildF (ps := [(1, .tmp 129)]) (parts := [(1, vs (nmW i))]) rfl rfl (by simp [Value.cells]) ?_
    refine Wl.append1 (R := flat ndV) (y := (⟨0, nmW i, []⟩, noS)) goodNdV (o2.new (plain_flat ndV) n4) rfl rfl rfl rfl rfl (by omega) (by omega) (by rw [hwl]; simp only [maxLen]; omega) (by rw [hwl]; omega) rfl rfl fun v5 w5 p5 o5 c5 lie => ?_
    (repeat' (first | refine Wl.moveE (by conv => { lhs; whnf }) ?_ | refine Wl.assignE (by conv => { lhs; whnf }) ?_ | refine Wl.nil ?_ | refine Qseq.normal ?_ | refine Wc.region ?_ | refine Qblk.normal ?_ | refine Wl.add rfl rfl (by omega) (by omega) ?_))
    refine Qloop.normal (i + 1, v5) ⟨rfl, rfl, rfl, trivial⟩ ⟨by dsimp only; omega, ?_, Chg.trans (New.trans n2 n4) c5 fun b hb e => by have := (o2.lt e).1; omega⟩ (by dsimp only; omega)
    dsimp only
    rw [wideI_snoc]
    exact o5.reblk fun b _ e => by rcases e with e | e <;> omega
  obtain rfl : i = 513 := by omega
  obtain ⟨g2, gc2, rfl, hg1, hg2, hg3⟩ := o2.blk (fun e => by rw [e] at hwl; simp at hwl)
  rw [hwl]
  refine Wl.buildF (ps := [(0, .const (vi (-1)))]) (parts := [(0, vi (-1))]) rfl rfl (by simp [Value.cells]) ?_
  refine Wl.idxP rfl rfl (by omega) (by omega) ?_
  refine Wl.storeOwnA (f := ndV) (q := (nR, noS)) (j := 0) (g := g2) (cap := gc2) (fun _ => rfl) goodNdW o2 rfl (by omega) rfl rfl rfl fun w4 o4 c4 => ?_
  have n4 : New w3 w4 := Chg.trans n2 c4 fun b hb e => by have := (o2.lt e).1; omega
  have rw4 := rd_flat (o4.rd (mono_flat ndV)) wide_flat
  rw [hwl, wide_T] at rw4
  have hW1 := wide_no
  have hW2 : treeOk ((wT 513).take 512) = true := by rw [wT_take]; exact wide_ok
  have hW3 : (wT 513).length = 513 := wT_len 513
  have hW4 : ∀ x ∈ wT 513, x.props = [] := fun x hx => by
    rw [← wide_T] at hx
    obtain ⟨y, hy, rfl⟩ := List.mem_map.1 hx
    exact (wide_flat y hy).2
  generalize wT 513 = W at *
  have rd4 := rd3.keep stableNd n4.keep
  have n04 := New.trans n1 (New.trans n3 n4)
  clear o4 o2 c4 n2 z2 hg1 hg2 hg3 rd3 z3 hwl hdl n3 n1 n4
  (repeat' (first | refine Wl.nil ?_ | refine Qseq.normal ?_ | refine Wc.seq ?_ | refine Wc.region ?_))
  refine Wl.makeZ (R := one by8) (m := 1025) (0 : UInt8) (by intros; rfl) rfl rfl (by omega) (by simp only [maxLen]; omega) fun w5 o5 n5 s5 => ?_
  refine Wl.bytesStr (o5.rd mono8) rfl ?_
  have hlg : (List.replicate 1025 (0 : UInt8)).length = 1025 := List.length_replicate
  generalize List.replicate 1025 (0 : UInt8) = lg at *
  have rd5 := rd4.keep stableNd n5.keep
  have rw5 := rw4.keep stableNd n5.keep
  have n05 := New.trans n04 n5
  clear o5 rd4 rw4 s5 n5 n04
  have hT8 : ∀ (m : Nat) (l : List Nd), (∀ x ∈ l, x.props = []) → ∀ x ∈ l.take m, TxOk x.props := fun m l h => txok_nil fun x hx => h x (List.mem_of_mem_take hx)
  (repeat' (first | refine Wl.moveE (by conv => { lhs; whnf }) ?_ | refine Wl.assignE (by conv => { lhs; whnf }) ?_ | refine Wl.nil ?_ | refine Qseq.normal ?_ | refine Wc.seq ?_ | refine Wc.region ?_))
  refine Wl.call (Encode_spec rd5 (txok_nil hD4)) rfl ?_
  rintro _ w6 ⟨rfl, n6⟩
  rw [hD1, if_neg (by simp), if_neg (by simp)]
  (repeat' (first | refine Wl.moveE (by conv => { lhs; whnf }) ?_ | refine Wl.assignE (by conv => { lhs; whnf }) ?_ | refine Wl.nil ?_ | refine Wl.extract rfl rfl ?_ | refine Qseq.normal ?_ | refine Wc.seq ?_ | refine Wc.region ?_))
  refine Wl.sliceTo (rd5.keep stableNd n6.keep) rfl rfl (by omega) (by omega) fun zv hzv => ?_
  obtain ⟨za, zc, rfl, _, _⟩ := hzv.form
  refine Wl.call (Encode_spec hzv (hT8 _ _ hD4)) rfl ?_
  rintro _ w7 ⟨rfl, n7⟩
  rw [show (16 : Int).toNat = 16 from rfl, hD2, if_pos rfl, if_pos rfl]
  have n57 := New.trans n6 n7
  (repeat' (first | refine Wl.moveE (by conv => { lhs; whnf }) ?_ | refine Wl.assignE (by conv => { lhs; whnf }) ?_ | refine Wl.nil ?_ | refine Wl.extract rfl rfl ?_ | refine Qseq.normal ?_ | refine Wc.seq ?_ | refine Wc.region ?_))
  refine Wl.call (Encode_spec (rw5.keep stableNd n57.keep) (txok_nil hW4)) rfl ?_
  rintro _ w8 ⟨rfl, n8⟩
  rw [hW1, if_neg (by simp), if_neg (by simp)]
  have n58 := New.trans n57 n8
  (repeat' (first | refine Wl.moveE (by conv => { lhs; whnf }) ?_ | refine Wl.assignE (by conv => { lhs; whnf }) ?_ | refine Wl.nil ?_ | refine Wl.extract rfl rfl ?_ | refine Qseq.normal ?_ | refine Wc.seq ?_ | refine Wc.region ?_))
  refine Wl.sliceTo (rw5.keep stableNd n58.keep) rfl rfl (by omega) (by omega) fun yv hyv => ?_
  obtain ⟨ya, yc, rfl, _, _⟩ := hyv.form
  refine Wl.call (Encode_spec hyv (hT8 _ _ hW4)) rfl ?_
  rintro _ w9 ⟨rfl, n9⟩
  rw [show (512 : Int).toNat = 512 from rfl, hW2, if_pos rfl, if_pos rfl]
  have n09 := New.trans n05 (New.trans n58 n9)
  have hA1 := enc_lt hW2
  have hA2 := dec_full hW2
  have hWl : (W.take 512).length = 512 := by rw [List.length_take]; omega
  generalize encL (D.take 16) = A1 at *
  generalize encL (W.take 512) = A2 at *
  clear hzv hyv rd5 rw5 n6 n7 n8 n57 n58 n05 hD1 hD2 hD4 hW1 hW4
  (repeat' (first | refine Wl.moveE (by conv => { lhs; whnf }) ?_ | refine Wl.assignE (by conv => { lhs; whnf }) ?_ | refine Wl.nil ?_ | refine Wl.extract rfl rfl ?_ | refine Qseq.normal ?_ | refine Wc.seq ?_ | refine Wc.region ?_))
  refine Wl.call (Decode_spec (s := A2) (by omega)) rfl ?_
  rintro _ w10 ⟨nv, lab, pvs, rfl, tr, n10⟩
  rw [hA2] at tr ⊢
  dsimp only at tr ⊢
  obtain ⟨na, nc, rfl, _, _⟩ := tr.rd.form
  rw [hWl]
  have n010 := New.trans n09 n10
  clear tr hA2 hW2 hWl n10 n09
  (repeat' (first | refine Wl.moveE (by conv => { lhs; whnf }) ?_ | refine Wl.assignE (by conv => { lhs; whnf }) ?_ | refine Wl.nil ?_ | refine Wl.extract rfl rfl ?_ | refine Qseq.normal ?_ | refine Wc.seq ?_ | refine Wc.region ?_))
  refine Wl.buildF (ps := [(0, .const (vs [97])), (1, .tmp 166)]) (parts := [(0, vs [97]), (1, vs lg)]) rfl rfl (by simp [Value.cells]) ?_
  refine Wl.buildSlice1 (R := rPr) (y := ([97], lg)) (Pe := No) goodPr rfl rfl rfl rfl (by omega) (by omega) fun v1 w11 o1 n11 s1 hob1 => ?_
  obtain ⟨a1, c1, rfl, _, _⟩ := o1.form
  refine Wl.buildF (ps := [(0, .const (vi (-1))), (2, .tmp 168)]) (parts := [(0, vi (-1)), (2, .slice a1 [(([97], lg) : Pr)].length c1)]) rfl rfl (by simp [Value.cells]) ?_
  refine Wl.buildSlice1 (R := rNd) (y := ⟨-1, [], [([97], lg)]⟩) (Pe := fun b => b < w11.heap.size) goodNd rfl rfl rfl ⟨_, rfl, (o1.rd (mono_flat pC)).mono (mono_flat pC) fun b hb _ => ⟨hb, by omega⟩⟩ (by omega) (by omega) fun v2 w12 o2 n12 s2 hob2 => ?_
  have htx : ∀ (s : List UInt8), ∀ x ∈ [(⟨-1, [], [([97], s)]⟩ : Nd)], TxOk x.props := fun s x hx p hp => by
    simp at hx; subst hx; simp at hp; subst hp; simp [maxLen]
  refine Wl.call (Encode_spec (o2.rd monoNd) (htx lg)) rfl ?_
  rintro _ w13 ⟨rfl, n13⟩
  rw [one_ok, decide_eq_false (by omega), if_neg (by simp), if_neg (by simp)]
  have n013 := New.trans n010 (New.trans (New.trans n11 n12) n13)
  clear o1 o2 n11 n12 n13 s1 s2 hob1 hob2 n010
  (repeat' (first | refine Wl.moveE (by conv => { lhs; whnf }) ?_ | refine Wl.assignE (by conv => { lhs; whnf }) ?_ | refine Wl.nil ?_ | refine Wl.extract rfl rfl ?_ | refine Qseq.normal ?_ | refine Wc.seq ?_ | refine Wc.region ?_))
  refine Wl.strFrom rfl rfl (by omega) (by omega) ?_
  rw [show (1 : Int).toNat = 1 from rfl]
  have hl1 : (lg.drop 1).length = 1024 := by rw [List.length_drop]; omega
  generalize lg.drop 1 = l1 at *
  refine Wl.buildF (ps := [(0, .const (vs [97])), (1, .tmp 176)]) (parts := [(0, vs [97]), (1, vs l1)]) rfl rfl (by simp [Value.cells]) ?_
  refine Wl.buildSlice1 (R := rPr) (y := ([97], l1)) (Pe := No) goodPr rfl rfl rfl rfl (by omega) (by omega) fun v1 w14 o1 n14 s1 hob1 => ?_
  obtain ⟨a1, c1, rfl, _, _⟩ := o1.form
  refine Wl.buildF (ps := [(0, .const (vi (-1))), (2, .tmp 178)]) (parts := [(0, vi (-1)), (2, .slice a1 [(([97], l1) : Pr)].length c1)]) rfl rfl (by simp [Value.cells]) ?_
  refine Wl.buildSlice1 (R := rNd) (y := ⟨-1, [], [([97], l1)]⟩) (Pe := fun b => b < w14.heap.size) goodNd rfl rfl rfl ⟨_, rfl, (o1.rd (mono_flat pC)).mono (mono_flat pC) fun b hb _ => ⟨hb, by omega⟩⟩ (by omega) (by omega) fun v2 w15 o2 n15 s2 hob2 => ?_
  refine Wl.call (Encode_spec (o2.rd monoNd) (htx l1)) rfl ?_
  rintro _ w16 ⟨rfl, n16⟩
  rw [one_ok, decide_eq_true (by omega), if_pos rfl, if_pos rfl]
  generalize encL [(⟨-1, [], [([97], l1)]⟩ : Nd)] = A3 at *
  have n016 := New.trans n013 (New.trans (New.trans n14 n15) n16)
  clear o1 o2 n14 n15 n16 s1 s2 hob1 hob2 n013
  (repeat' (first | refine Wl.moveE (by conv => { lhs; whnf }) ?_ | refine Wl.assignE (by conv => { lhs; whnf }) ?_ | refine Wl.nil ?_ | refine Wl.extract rfl rfl ?_ | refine Qseq.normal ?_ | refine Wc.seq ?_ | refine Wc.region ?_))
  refine Wl.call (Decode_spec (s := []) (by simp)) rfl ?_
  rintro _ w17 ⟨nv, lab, pvs, rfl, tr, n17⟩
  rw [dec_nil] at tr ⊢
  dsimp only at tr ⊢
  obtain ⟨ea, ec, rfl, _, _⟩ := tr.rd.form
  (repeat' (first | refine Wl.moveE (by conv => { lhs; whnf }) ?_ | refine Wl.assignE (by conv => { lhs; whnf }) ?_ | refine Wl.nil ?_ | refine Wl.extract rfl rfl ?_ | refine Qseq.normal ?_ | refine Wc.seq ?_ | refine Wc.region ?_))
  refine Wl.call (Look_spec (s := []) (by simp)) rfl ?_
  rintro _ w18 ⟨rfl, n18⟩
  rw [look_none' dec_nil]
  (repeat' (first | refine Wl.moveE (by conv => { lhs; whnf }) ?_ | refine Wl.extract rfl rfl ?_))
  refine Wl.alloc fun w19 b19 n19 s19 => ?_
  skip
  refine Wl.storeB (u := .agg #[vi 0, vi 0, vi 0, vi 0]) (new := [vi 0, vi 0, vi 0, vi 0]) b19 rfl rfl rfl rfl (show (4 : Nat) ≤ 4 from Nat.le_refl 4) (by simp [Value.oneCell']) fun w20 b20 c20 _ => ?_
  have n020 : New w w20 := Chg.trans (New.trans (New.trans (New.trans n016 n17) n18) n19) c20 fun k hk e => by
    have s1 := n016.size
    have s2 := n17.size
    have s3 := n18.size
    omega
  clear tr b19 b20
  (repeat' (first | refine Wl.moveE (by conv => { lhs; whnf }) ?_ | refine Wl.assignE (by conv => { lhs; whnf }) ?_ | refine Wl.nil ?_ | refine Wl.guardY rfl rfl ?_ | refine Wl.pickTE rfl (by conv => { lhs; whnf }) ?_ | refine Wl.lenS rfl ?_ | refine Qseq.normal ?_ | refine Wc.seq ?_ | refine Wc.region ?_ | (refine Wl.eql rfl rfl (fun _ => ?_) (fun _ => ?_) <;> (first | (exfalso; omega) | skip))))
  refine Wl.call awake_spec rfl ?_
  rintro _ w21 ⟨rfl, n21⟩
  (repeat' (first | refine Wl.assignE (by conv => { lhs; whnf }) ?_ | refine Wl.nil ?_ | refine Wl.pickTE rfl (by conv => { lhs; whnf }) ?_ | refine Qseq.normal ?_ | refine Wc.ret ?_))
  exact Qfn.ret1 rfl rfl ⟨_, rfl, rfl, New.trans n020 n21⟩
end Go.Proofs.YtlkhajheecglgaaDoor
