/-
  Walks of slices.IndexFunc, ContainsFunc, Index, Contains at the instances of overlay, and of the closures that it hands them.
-/
import Derived.Test.YtjpebmgllfiloaaDoorFl
namespace Go.Proofs.YtjpebmgllfiloaaDoor
open Go Wk
open Go.RowKit (Below)
attribute [local irreducible] Go.Calls

def idx {α : Type} (p : α → Bool) (l : List α) : Int := match l.findIdx? p with | some i => (i : Int) | none => -1
theorem idx_hit {α : Type} {p : α → Bool} {l : List α} {i : Nat} {y : α} (hi : l[i]? = some y) (h : ∀ x ∈ l.take i, p x = false) (hy : p y = true) : idx p l = i := by
  unfold idx
  have : l.findIdx? p = some i := by
    rw [List.findIdx?_eq_some_iff_getElem]
    obtain ⟨hlt, rfl⟩ := List.getElem?_eq_some_iff.1 hi
    refine ⟨hlt, hy, fun j hj => ?_⟩
    have := h l[j] (by rw [List.mem_iff_getElem?]; exact ⟨j, by rw [List.getElem?_take, if_pos hj, List.getElem?_eq_getElem]⟩)
    simp [this]
  rw [this]
theorem idx_miss {α : Type} {p : α → Bool} {l : List α} (h : ∀ x ∈ l, p x = false) : idx p l = -1 := by
  unfold idx
  have : l.findIdx? p = none := by rw [List.findIdx?_eq_none_iff]; exact h
  rw [this]
theorem take_all {α : Type} {p : α → Bool} {l : List α} {i : Nat} {y : α} (hi : l[i]? = some y) (h : ∀ x ∈ l.take i, p x = false) (hy : p y = false) : ∀ x ∈ l.take (i + 1), p x = false := by
  rw [take_snoc hi]
  intro x hx
  rcases List.mem_append.1 hx with hx | hx
  · exact h x hx
  · rw [List.mem_singleton.1 hx]; exact hy

theorem IndexFuncPr_spec {Pb : Nat → Prop} {w : World} {v : Value} {l : List Pr} {p : Pr → Bool} {g : FuncId} {cap : Array Value} [hc : Callable Tryd.prog g] (h : RdS rPr 2 Pb w v l)
    (hf : ∀ y w', y ∈ l → New w w' → Calls Tryd.prog g ([Value.agg (pC y).toArray] ++ cap.toList).toArray w' (Ret fun r w'' => r = .bool (p y) ∧ New w' w'')) :
    Calls Tryd.prog 68 #[v, .func (.func g) #[] cap] w (Ret fun r w' => r = vi (idx p l) ∧ New w w') := by
  obtain ⟨a, cp, rfl, hc1, hc2⟩ := h.form
  simp only [maxLen] at hc2
  refine calls_of_Wc Tryd.func68 rfl Tryd.ntmps68 rfl ?_
  (repeat' (first | refine Wl.moveE (by conv => { lhs; whnf }) ?_ | refine Wl.assignE (by conv => { lhs; whnf }) ?_ | refine Wl.nil ?_ | refine Wl.lenS rfl ?_ | refine Qseq.normal ?_ | refine Wc.seq ?_ | refine Wc.region ?_ | refine Wc.block ?_))
  refine Wc.loop (σ := Nat) (fun i => [(0, .slice a l.length cp), (1, .func (.func g) #[] cap), (7, vi l.length), (8, vi i)]) (fun i w' => i ≤ l.length ∧ (∀ x ∈ l.take i, p x = false) ∧ New w w') (fun i => l.length - i) 0 ⟨rfl, rfl, rfl, rfl, trivial⟩ ⟨Nat.zero_le _, by simp, Chg.refl _ _⟩ ?_
  rintro i G w1 ⟨hi, hall, n1⟩
  simp only [upds]
  (repeat' (first | refine Wl.moveE (by conv => { lhs; whnf }) ?_ | refine Wl.assignE (by conv => { lhs; whnf }) ?_ | refine Wl.nil ?_ | refine Qseq.normal ?_ | refine Wc.seq ?_ | refine Wc.region ?_ | refine Wc.block ?_ | refine Wc.skip ?_ | refine Wc.exit ?_ | refine Wc.ret ?_ | refine Qseq.exit ?_ | refine Qblk.hit ?_ | refine Qloop.exit ?_ | refine Wc.condT rfl ?_ | refine Wc.condF rfl ?_ | refine Wl.lss rfl rfl (fun _ => ?_) (fun _ => ?_)))
  · obtain ⟨y, hy⟩ := get_lt l (k := i) (by omega)
    refine Wl.idxAddrK h n1.keep rfl rfl (by omega) hy fun b o cs hl hR hat => ?_
    obtain rfl : cs = pC y := hR
    refine Wl.loadAt hat rfl rfl ?_
    refine Wl.callV (dst := some 16) rfl (hf y w1 (List.mem_of_getElem? hy) n1) rfl ?_
    rintro _ w2 ⟨rfl, n2⟩
    simp only [updO]
    cases hp : p y with
    | true =>
      (repeat' (first | refine Wl.moveE (by conv => { lhs; whnf }) ?_ | refine Wl.assignE (by conv => { lhs; whnf }) ?_ | refine Wl.nil ?_ | refine Qseq.normal ?_ | refine Wc.seq ?_ | refine Wc.region ?_ | refine Wc.ret ?_ | refine Qseq.ret ?_ | refine Qblk.ret ?_ | refine Qloop.ret ?_ | refine Wc.condT rfl ?_))
      refine Qfn.ret1 rfl rfl ⟨_, rfl, ?_, New.trans n1 n2⟩
      rw [idx_hit hy hall hp]; rfl
    | false =>
      (repeat' (first | refine Wl.moveE (by conv => { lhs; whnf }) ?_ | refine Wl.nil ?_ | refine Qseq.normal ?_ | refine Wc.region ?_ | refine Wc.skip ?_ | refine Qblk.normal ?_ | refine Wc.condF rfl ?_ | refine Wl.add rfl rfl (by omega) (by omega) ?_))
      exact Qloop.normal (i + 1) ⟨rfl, rfl, rfl, rfl, trivial⟩ ⟨by omega, take_all hy hall hp, New.trans n1 n2⟩ (by omega)
  · have e : i = l.length := by omega
    subst e
    rw [List.take_length] at hall
    refine Qfn.ret1 rfl rfl ⟨_, rfl, ?_, n1⟩
    rw [idx_miss hall]; rfl
theorem ContainsFuncPr_spec {Pb : Nat → Prop} {w : World} {v : Value} {l : List Pr} {p : Pr → Bool} {g : FuncId} {cap : Array Value} [hc : Callable Tryd.prog g] (h : RdS rPr 2 Pb w v l)
    (hf : ∀ y w', y ∈ l → New w w' → Calls Tryd.prog g ([Value.agg (pC y).toArray] ++ cap.toList).toArray w' (Ret fun r w'' => r = .bool (p y) ∧ New w' w'')) :
    Calls Tryd.prog 48 #[v, .func (.func g) #[] cap] w (Ret fun r w' => r = .bool (l.any p) ∧ New w w') := by
  refine calls_of_Wc Tryd.func48 rfl Tryd.ntmps48 rfl ?_
  (repeat' (first | refine Wl.moveE (by conv => { lhs; whnf }) ?_ | refine Wl.assignE (by conv => { lhs; whnf }) ?_ | refine Wl.nil ?_ | refine Qseq.normal ?_ | refine Wc.seq ?_ | refine Wc.region ?_))
  refine Wl.call (IndexFuncPr_spec h hf) rfl ?_
  rintro _ w1 ⟨rfl, n1⟩
  unfold idx
  cases hx : l.findIdx? p with
  | some i =>
    have : l.any p = true := by
      have := (List.findIdx?_eq_some_iff_getElem.1 hx)
      obtain ⟨hlt, hp, _⟩ := this
      exact List.any_eq_true.2 ⟨l[i], by simp, hp⟩
    (repeat' (first | refine Wl.assignE (by conv => { lhs; whnf }) ?_ | refine Wl.nil ?_ | refine Qseq.normal ?_ | refine Wc.ret ?_ | (refine Wl.geq rfl rfl (fun _ => ?_) (fun _ => ?_) <;> (first | (exfalso; contradiction) | skip))))
    refine Qfn.ret1 rfl rfl ⟨_, rfl, ?_, n1⟩
    rw [this]; rfl
  | none =>
    have : l.any p = false := by
      rw [List.any_eq_false]
      intro x hx'
      have := List.findIdx?_eq_none_iff.1 hx x hx'
      simp [this]
    (repeat' (first | refine Wl.assignE (by conv => { lhs; whnf }) ?_ | refine Wl.nil ?_ | refine Qseq.normal ?_ | refine Wc.ret ?_ | (refine Wl.geq rfl rfl (fun _ => ?_) (fun _ => ?_) <;> (first | (exfalso; contradiction) | skip))))
    refine Qfn.ret1 rfl rfl ⟨_, rfl, ?_, n1⟩
    rw [this]; rfl
theorem IndexStr_spec {Pb : Nat → Prop} {w : World} {v : Value} {l : List (List UInt8)} {s : List UInt8} (h : RdS (one vs) 1 Pb w v l) :
    Calls Tryd.prog 69 #[v, vs s] w (Ret fun r w' => r = vi (idx (fun x => decide (s = x)) l) ∧ New w w') := by
  obtain ⟨a, cp, rfl, hc1, hc2⟩ := h.form
  simp only [maxLen] at hc2
  refine calls_of_Wc Tryd.func69 rfl Tryd.ntmps69 rfl ?_
  (repeat' (first | refine Wl.moveE (by conv => { lhs; whnf }) ?_ | refine Wl.assignE (by conv => { lhs; whnf }) ?_ | refine Wl.nil ?_ | refine Wl.lenS rfl ?_ | refine Qseq.normal ?_ | refine Wc.seq ?_ | refine Wc.region ?_ | refine Wc.block ?_))
  refine Wc.loop (σ := Nat) (fun i => [(0, .slice a l.length cp), (1, vs s), (7, vi l.length), (8, vi i)]) (fun i w' => i ≤ l.length ∧ (∀ x ∈ l.take i, decide (s = x) = false) ∧ New w w') (fun i => l.length - i) 0 ⟨rfl, rfl, rfl, rfl, trivial⟩ ⟨Nat.zero_le _, by simp, Chg.refl _ _⟩ ?_
  rintro i G w1 ⟨hi, hall, n1⟩
  simp only [upds]
  (repeat' (first | refine Wl.moveE (by conv => { lhs; whnf }) ?_ | refine Wl.assignE (by conv => { lhs; whnf }) ?_ | refine Wl.nil ?_ | refine Qseq.normal ?_ | refine Wc.seq ?_ | refine Wc.region ?_ | refine Wc.block ?_ | refine Wc.skip ?_ | refine Wc.exit ?_ | refine Wc.ret ?_ | refine Qseq.exit ?_ | refine Qblk.hit ?_ | refine Qloop.exit ?_ | refine Wc.condT rfl ?_ | refine Wc.condF rfl ?_ | refine Wl.lss rfl rfl (fun _ => ?_) (fun _ => ?_)))
  · obtain ⟨y, hy⟩ := get_lt l (k := i) (by omega)
    refine Wl.idxAddrV (h.keep (stable_one _) n1.keep) rfl rfl (by omega) hy fun b o hc => ?_
    refine Wl.load1 rfl hc ?_
    (repeat' (first | refine Wl.moveE (by conv => { lhs; whnf }) ?_ | refine Wl.assignE (by conv => { lhs; whnf }) ?_ | refine Wl.nil ?_ | refine Qseq.normal ?_ | refine Wc.seq ?_ | refine Wc.region ?_ | refine Wc.skip ?_ | refine Wc.ret ?_ | refine Qseq.ret ?_ | refine Qblk.normal ?_ | refine Qblk.ret ?_ | refine Qloop.ret ?_ | refine Wc.condT rfl ?_ | refine Wc.condF rfl ?_ | refine Wl.add rfl rfl (by omega) (by omega) ?_ | refine Wl.seql rfl rfl (fun _ => ?_) (fun _ => ?_)))
    · refine Qfn.ret1 rfl rfl ⟨_, rfl, ?_, n1⟩
      rw [idx_hit hy hall (decide_eq_true (by assumption))]; rfl
    · exact Qloop.normal (i + 1) ⟨rfl, rfl, rfl, rfl, trivial⟩ ⟨by omega, take_all hy hall (decide_eq_false (by assumption)), n1⟩ (by omega)
  · have e : i = l.length := by omega
    subst e
    rw [List.take_length] at hall
    refine Qfn.ret1 rfl rfl ⟨_, rfl, ?_, n1⟩
    rw [idx_miss hall]; rfl
theorem idx_contains {s : List UInt8} {l : List (List UInt8)} : (0 ≤ idx (fun x => decide (s = x)) l ↔ l.contains s = true) := by
  unfold idx
  cases hx : l.findIdx? fun x => decide (s = x) with
  | some i =>
    obtain ⟨hlt, hp, _⟩ := List.findIdx?_eq_some_iff_getElem.1 hx
    have : s = l[i] := of_decide_eq_true hp
    simp only [Int.natCast_nonneg, true_iff]
    rw [this]; simp
  | none =>
    have h := List.findIdx?_eq_none_iff.1 hx
    constructor
    · intro h'; simp at h'
    · intro h'
      have := h s (List.contains_iff_mem.1 h')
      simp at this
theorem ContainsStr_spec {Pb : Nat → Prop} {w : World} {v : Value} {l : List (List UInt8)} {s : List UInt8} (h : RdS (one vs) 1 Pb w v l) :
    Calls Tryd.prog 44 #[v, vs s] w (Ret fun r w' => r = .bool (l.contains s) ∧ New w w') := by
  refine calls_of_Wc Tryd.func44 rfl Tryd.ntmps44 rfl ?_
  (repeat' (first | refine Wl.moveE (by conv => { lhs; whnf }) ?_ | refine Wl.assignE (by conv => { lhs; whnf }) ?_ | refine Wl.nil ?_ | refine Qseq.normal ?_ | refine Wc.seq ?_ | refine Wc.region ?_))
  refine Wl.call (IndexStr_spec h) rfl ?_
  rintro _ w1 ⟨rfl, n1⟩
  have hi := idx_contains (s := s) (l := l)
  generalize idx (fun x => decide (s = x)) l = q at hi ⊢
  (repeat' (first | refine Wl.assignE (by conv => { lhs; whnf }) ?_ | refine Wl.nil ?_ | refine Qseq.normal ?_ | refine Wc.ret ?_ | refine Wl.geq rfl rfl (fun _ => ?_) (fun _ => ?_)))
  · refine Qfn.ret1 rfl rfl ⟨_, rfl, ?_, n1⟩
    rw [hi.1 (by assumption)]; rfl
  · refine Qfn.ret1 rfl rfl ⟨_, rfl, ?_, n1⟩
    have : l.contains s = false := by
      rw [Bool.eq_false_iff]; intro e
      have := hi.2 e
      omega
    rw [this]; rfl

/-! The closures. -/
theorem named1_spec {w : World} {b : Nat} {name : List UInt8} {y : Pr} (hb : Bk w b 9 [vs name]) :
    Calls Tryd.prog 74 #[.agg (pC y).toArray, ptrV b] w (Ret fun r w' => r = .bool (decide (y.1 = name)) ∧ New w w') := by
  refine calls_of_Wc Tryd.func74 rfl Tryd.ntmps74 rfl ?_
  (repeat' (first | refine Wc.seq ?_ | refine Wc.region ?_))
  refine Wl.box rfl fun w1 b1 n1 s1 => ?_
  replace b1 : Bk w1 w.heap.size 39 (pC y) := b1
  (repeat' (first | refine Wl.assignE (by conv => { lhs; whnf }) ?_ | refine Wl.nil ?_ | refine Qseq.normal ?_ | refine Wc.seq ?_ | refine Wc.region ?_ | refine Wl.fieldAddr rfl rfl ?_))
  refine Wl.load1 rfl (b1.cell (o := 0) rfl) ?_
  refine Wl.load1 rfl ((hb.chg n1 id).cell (o := 0) rfl) ?_
  (repeat' (first | refine Wl.assignE (by conv => { lhs; whnf }) ?_ | refine Wl.nil ?_ | refine Qseq.normal ?_ | refine Wc.ret ?_ | refine Wl.seql rfl rfl (fun _ => ?_) (fun _ => ?_)))
  · refine Qfn.ret1 rfl rfl ⟨_, rfl, ?_, n1⟩
    rw [decide_eq_true (by assumption)]; rfl
  · refine Qfn.ret1 rfl rfl ⟨_, rfl, ?_, n1⟩
    rw [decide_eq_false (by assumption)]; rfl
theorem named_spec {w : World} {name : List UInt8} :
    Calls Tryd.prog 49 #[vs name] w (Ret fun r w' => ∃ b, r = .func (.func 74) #[] #[ptrV b] ∧ Bk w' b 9 [vs name] ∧ New w w') := by
  refine calls_of_Wc Tryd.func49 rfl Tryd.ntmps49 rfl ?_
  (repeat' (first | refine Wc.seq ?_ | refine Wc.region ?_))
  refine Wl.box rfl fun w1 b1 n1 s1 => ?_
  (repeat' (first | refine Wl.assignE (by conv => { lhs; whnf }) ?_ | refine Wl.nil ?_ | refine Qseq.normal ?_ | refine Wc.seq ?_ | refine Wc.region ?_))
  refine Wl.makeFunc (first := []) (cap := [.tmp 1]) rfl rfl ?_
  (repeat' (first | refine Wl.assignE (by conv => { lhs; whnf }) ?_ | refine Wl.nil ?_ | refine Qseq.normal ?_ | refine Wc.ret ?_))
  exact Qfn.ret1 rfl rfl ⟨_, rfl, _, rfl, b1, n1⟩
end Go.Proofs.YtjpebmgllfiloaaDoor
