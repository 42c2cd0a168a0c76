/-
  Walks of the closures of lay and Lay, of IndexFunc over knots, and of DeleteFunc over props.
-/
import Derived.Test.YtjpebmgllfiloaaDoorCk
namespace Go.Proofs.YtjpebmgllfiloaaDoor
open Go Wk
open Go.RowKit (Below)
attribute [local irreducible] Go.Calls

theorem IndexFuncKn_spec {Pb : Nat → Prop} {w : World} {v : Value} {l : List Nat} {p : Nat → Bool} {g : FuncId} {cap : Array Value} [hc : Callable Tryd.prog g] (h : RdS (one ptrV) 1 Pb w v l)
    (hf : ∀ y w', y ∈ l → New w w' → Calls Tryd.prog g ([ptrV y] ++ cap.toList).toArray w' (Ret fun r w'' => r = .bool (p y) ∧ New w' w'')) :
    Calls Tryd.prog 70 #[v, .func (.func g) #[] cap] w (Ret fun r w' => r = vi (idx p l) ∧ New w w') := by
  obtain ⟨a, cp, rfl, hc1, hc2⟩ := h.form
  simp only [maxLen] at hc2
  refine calls_of_Wc Tryd.func70 rfl Tryd.ntmps70 rfl ?_
  (repeat' (first | refine Wl.moveE (by conv => { lhs; whnf }) ?_ | refine Wl.assignE (by conv => { lhs; whnf }) ?_ | refine Wl.nil ?_ | refine Wl.lenS rfl ?_ | refine Qseq.normal ?_ | refine Wc.seq ?_ | refine Wc.region ?_ | refine Wc.block ?_))
  refine Wc.loop (σ := Nat) (fun i => [(0, .slice a l.length cp), (1, .func (.func g) #[] cap), (7, vi l.length), (8, vi i)]) (fun i w' => i ≤ l.length ∧ (∀ x ∈ l.take i, p x = false) ∧ New w w') (fun i => l.length - i) 0 ⟨rfl, rfl, rfl, rfl, trivial⟩ ⟨Nat.zero_le _, by simp, Chg.refl _ _⟩ ?_
  rintro i G w1 ⟨hi, hall, n1⟩
  simp only [upds]
  (repeat' (first | refine Wl.moveE (by conv => { lhs; whnf }) ?_ | refine Wl.assignE (by conv => { lhs; whnf }) ?_ | refine Wl.nil ?_ | refine Qseq.normal ?_ | refine Wc.seq ?_ | refine Wc.region ?_ | refine Wc.block ?_ | refine Wc.skip ?_ | refine Wc.exit ?_ | refine Wc.ret ?_ | refine Qseq.exit ?_ | refine Qblk.hit ?_ | refine Qloop.exit ?_ | refine Wc.condT rfl ?_ | refine Wc.condF rfl ?_ | refine Wl.lss rfl rfl (fun _ => ?_) (fun _ => ?_)))
  · obtain ⟨y, hy⟩ := get_lt l (k := i) (by omega)
    refine Wl.idxAddrV (h.keep (stable_one _) n1.keep) rfl rfl (by omega) hy fun b o hcell => ?_
    refine Wl.load1 rfl hcell ?_
    refine Wl.callV (dst := some 16) rfl (hf y w1 (List.mem_of_getElem? hy) n1) rfl ?_
    rintro _ w2 ⟨rfl, n2⟩
    simp only [updO]
    cases hp : p y with
    | true =>
      (repeat' (first | refine Wl.moveE (by conv => { lhs; whnf }) ?_ | refine Wl.assignE (by conv => { lhs; whnf }) ?_ | refine Wl.nil ?_ | refine Qseq.normal ?_ | refine Wc.seq ?_ | refine Wc.region ?_ | refine Wc.ret ?_ | refine Qseq.ret ?_ | refine Qblk.ret ?_ | refine Qloop.ret ?_ | refine Wc.condT rfl ?_))
      refine Qfn.ret1 rfl rfl ⟨_, rfl, ?_, New.trans n1 n2⟩
      rw [idx_hit hy hall hp]; rfl
    | false =>
      (repeat' (first | refine Wl.moveE (by conv => { lhs; whnf }) ?_ | refine Wl.nil ?_ | refine Qseq.normal ?_ | refine Wc.region ?_ | refine Wc.skip ?_ | refine Qblk.normal ?_ | refine Wc.condF rfl ?_ | refine Wl.add rfl rfl (by omega) (by omega) ?_))
      exact Qloop.normal (i + 1) ⟨rfl, rfl, rfl, rfl, trivial⟩ ⟨by omega, take_all hy hall hp, New.trans n1 n2⟩ (by omega)
  · have e : i = l.length := by omega
    subst e
    rw [List.take_length] at hall
    refine Qfn.ret1 rfl rfl ⟨_, rfl, ?_, n1⟩
    rw [idx_miss hall]; rfl
/-- c.name == x.Name. -/
theorem lay1_spec {w : World} {b c : Nat} {kn xn : List UInt8} {T T' : TypeId} {u1 u2 v0 v2 : Value} (hb : Bk w b T [v0, vs xn, v2]) (hk : Bk w c T' [vs kn, u1, u2]) :
    Calls Tryd.prog 71 #[ptrV c, ptrV b] w (Ret fun r w' => r = .bool (decide (kn = xn)) ∧ New w w') := by
  refine calls_of_Wc Tryd.func71 rfl Tryd.ntmps71 rfl ?_
  (repeat' (first | refine Wl.assignE (by conv => { lhs; whnf }) ?_ | refine Wl.nil ?_ | refine Qseq.normal ?_ | refine Wc.seq ?_ | refine Wc.region ?_))
  refine Wc.regionT rfl (by kernel_rfl) (New w) (Chg.drew _ _) ?_
  intro w1 n1
  (repeat' (first | refine Wt.quiet rfl (Wq.moveE (by conv => { lhs; whnf }) (Wq.nil ?_)) | refine Wt.quiet rfl (Wq.nilP rfl (Wq.nil ?_)) | refine Wt.quiet rfl (Wq.fieldAddr rfl rfl (Wq.nil ?_))))
  refine Wt.quiet rfl (Wq.load1 rfl (fun w' hw => (hk.chg hw id).cell (o := 0) rfl) (Wq.nil ?_))
  (repeat' (refine Wt.quiet rfl (Wq.fieldAddr rfl rfl (Wq.nil ?_))))
  refine Wt.quiet rfl (Wq.load1 rfl (fun w' hw => (hb.chg hw id).cell (o := 1) rfl) (Wq.nil ?_))
  (repeat' (first | refine Wt.nil ?_ | refine Wt.quiet rfl (Wq.assignE (by conv => { lhs; whnf }) (Wq.nil ?_)) | refine Wt.quiet rfl (Wq.seql rfl rfl (fun _ => Wq.nil ?_) (fun _ => Wq.nil ?_))))
  · (repeat' (first | refine Qseq.normal ?_ | refine Wc.ret ?_))
    refine Qfn.ret1 rfl rfl ⟨_, rfl, ?_, n1⟩
    rw [decide_eq_true (by assumption)]; rfl
  · (repeat' (first | refine Qseq.normal ?_ | refine Wc.ret ?_))
    refine Qfn.ret1 rfl rfl ⟨_, rfl, ?_, n1⟩
    rw [decide_eq_false (by assumption)]; rfl
/-- slices.Contains(p.Drop, x.Name). -/
theorem Lay1_spec {Pb : Nat → Prop} {w : World} {b : Nat} {T : TypeId} {v0 v1 dv : Value} {l : List (List UInt8)} {y : Pr} (hb : Bk w b T [v0, v1, dv]) (hd : RdS (one vs) 1 Pb w dv l) :
    Calls Tryd.prog 43 #[.agg (pC y).toArray, ptrV b] w (Ret fun r w' => r = .bool (l.contains y.1) ∧ New w w') := by
  refine calls_of_Wc Tryd.func43 rfl Tryd.ntmps43 rfl ?_
  (repeat' (first | refine Wc.seq ?_ | refine Wc.region ?_))
  refine Wl.box rfl fun w1 b1 n1 s1 => ?_
  replace b1 : Bk w1 w.heap.size 39 (pC y) := b1
  (repeat' (first | refine Wl.assignE (by conv => { lhs; whnf }) ?_ | refine Wl.nil ?_ | refine Qseq.normal ?_ | refine Wc.seq ?_ | refine Wc.region ?_ | refine Wl.fieldAddr rfl rfl ?_))
  refine Wl.load1 rfl ((hb.chg n1 id).cell (o := 2) rfl) ?_
  (repeat' (refine Wl.fieldAddr rfl rfl ?_))
  refine Wl.load1 rfl (b1.cell (o := 0) rfl) ?_
  refine Wl.call (ContainsStr_spec (s := y.1) (hd.keep (stable_one _) n1.keep)) rfl ?_
  rintro _ w2 ⟨rfl, n2⟩
  (repeat' (first | refine Wl.assignE (by conv => { lhs; whnf }) ?_ | refine Wl.nil ?_ | refine Qseq.normal ?_ | refine Wc.ret ?_))
  exact Qfn.ret1 rfl rfl ⟨_, rfl, rfl, New.trans n1 n2⟩
end Go.Proofs.YtjpebmgllfiloaaDoor
