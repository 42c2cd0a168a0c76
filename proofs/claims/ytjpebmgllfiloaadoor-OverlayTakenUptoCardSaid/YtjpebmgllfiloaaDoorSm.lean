/-
  The walk of Same of the references, of two lists of nodes that read alike.
-/
import Derived.Test.YtjpebmgllfiloaaDoorCk
import Derived.Test.YtjpebmgllfiloaaDoorCut
import Derived.Laws.StructEq
namespace Go.Proofs.YtjpebmgllfiloaaDoor
open Go Wk
open Go.RowKit (Below)
attribute [local irreducible] Go.Calls

theorem keyPr (p : Pr) (h1 : p.1.length ≤ maxLen) (h2 : p.2.length ≤ maxLen) : ∃ q, keyOf Tryd.prog 39 (.agg (pC p).toArray) = some q := by
  obtain ⟨a, b⟩ := p
  have g1 : Tryd.prog.keyType 39 = true := by kernel_rfl
  have g2 : (Value.agg (pC (a, b)).toArray).formed Tryd.prog 39 = true := by kernel_rfl
  have hc : Tryd.prog.cellsOf 39 = 2 := by kernel_rfl
  have hst : Tryd.prog.cellsOf 9 = 1 := by kernel_rfl
  have l1 : (⟨a.toArray⟩ : ByteArray).size ≤ maxLen := by simpa only [ByteArray.size, List.size_toArray] using h1
  have l2 : (⟨b.toArray⟩ : ByteArray).size ≤ maxLen := by simpa only [ByteArray.size, List.size_toArray] using h2
  obtain ⟨D, hD⟩ : ∃ D, Tryd.prog.types.size = D + 1 := ⟨_, show Tryd.prog.types.size = (Tryd.prog.types.size - 1) + 1 by kernel_rfl⟩
  have h3 : ∃ L, Tryd.prog.keyLits (Tryd.prog.types.size + 1) 39 [vs a, vs b] = some L := by
    rw [hD]
    refine ⟨[.string a, .string b], ?_⟩
    simp [Program.keyLits, Tryd.underlying39, Tryd.underlying9, hc, hst, l1, l2]
  obtain ⟨L, h3⟩ := h3
  unfold keyOf
  rw [Tryd.underlying39]
  simp only [g1, g2, Bool.and_self, if_true]
  exact ⟨_, by rw [show (Value.agg (pC (a, b)).toArray).cells.toList = [vs a, vs b] from rfl, h3]; rfl⟩
theorem run_neq_pr {w : World} (p : Pr) (h1 : p.1.length ≤ maxLen) (h2 : p.2.length ≤ maxLen) : (binOp .neq 39 (.agg (pC p).toArray) (.agg (pC p).toArray)).run Tryd.prog w = .ok (.bool false) w := by
  obtain ⟨q, hq⟩ := keyPr p h1 h2
  obtain ⟨r, hr, hiff⟩ := run_equal_deep (P := Tryd.prog) w (m := 2) (by decide) (k := 39) (by kernel_rfl) (by rw [Tryd.underlying39]) hq hq
  obtain rfl : r = true := hiff.2 rfl
  have h := run_neq_struct (P := Tryd.prog) (w := w) 39 (pC p).toArray (pC p).toArray
  rw [show (Op.equalIn 10000 39 (.agg (pC p).toArray) (.agg (pC p).toArray)).run Tryd.prog w = .ok true w from hr] at h
  exact h
section
variable {n : Nat} {ds : List Deferred} {C : World → Prop} {K : Fr → Prop} {F : Fr} {ops rest : List Oper} {d : Nat} {ty t' : TypeId} {pos : String} {aft : Array Edge}
theorem Wq.neqPrSame {x y : Operand} {p : Pr} (h1 : p.1.length ≤ maxLen) (h2 : p.2.length ≤ maxLen) (hx : ev n F x = .agg (pC p).toArray) (hy : ev n F y = .agg (pC p).toArray) (c : Wq Tryd.prog n ds C K ops rest (upd F d (.bool false))) :
    Wq Tryd.prog n ds C K ops (⟨some d, .binOp .neq 39 x y t', ty, pos, aft, none⟩ :: rest) F :=
  Wq.val (fun w hw => by
    have hg := run_eqGuard_agg (P := Tryd.prog) (w := w) .neq 39 x y (pC p).toArray (pC p).toArray (by kernel_rfl)
    simp only [execOp, hx, hy, Sem.run_bind, hg, Result.andThen_ok, run_neq_pr p h1 h2, Sem.run_pure]) c
end
/-- Texts of this length at most. -/
def Short (t : List Nd) : Prop := ∀ x ∈ t, ∀ p ∈ x.props, p.1.length ≤ maxLen ∧ p.2.length ≤ maxLen
theorem short_ok {t : List Nd} (h : treeOk t = true) : Short t := fun x hx p hp => by
  obtain ⟨i, hi⟩ := List.mem_iff_getElem?.1 hx
  have h1 := (treeOk_nd h hi).pr
  have key : ∀ (l : List Pr) (seen : List (List UInt8)), propsGo seen l = true → ∀ p ∈ l, p.1.length ≤ 31 ∧ p.2.length ≤ 1024 := by
    intro l
    induction l with
    | nil => intro _ _ p hp; simp at hp
    | cons q r ih =>
      intro seen h p hp
      simp only [propsGo, Bool.and_eq_true, decide_eq_true_eq] at h
      rcases List.mem_cons.1 hp with rfl | hp
      · exact ⟨nameOk_len h.1, h.2.1⟩
      · exact ih _ h.2.2.2 p hp
  unfold propsOk at h1
  simp only [Bool.and_eq_true] at h1
  have := key x.props [] h1.2 p hp
  unfold maxLen; omega
set_option maxHeartbeats 1000000 in
set_option maxRecDepth 4000 in
theorem Same_spec {Pc Pd : Nat → Prop} {w : World} {cv dv : Value} {t : List Nd} (hc : RdS rNd 3 Pc w cv t) (hd : RdS rNd 3 Pd w dv t) (hs : Short t) :
    Calls Tryd.prog 20 #[cv, dv] w (Ret fun r w' => r = .bool true ∧ New w w') := by
  obtain ⟨ca, cc, rfl, hcc1, hcc2⟩ := hc.form
  obtain ⟨da, dc, rfl, hdc1, hdc2⟩ := hd.form
  simp only [maxLen] at hcc2
  refine calls_of_Wc Tryd.func20 rfl Tryd.ntmps20 rfl ?_
  (repeat' (first | refine Wl.moveE (by conv => { lhs; whnf }) ?_ | refine Wl.assignE (by conv => { lhs; whnf }) ?_ | refine Wl.nil ?_ | refine Wl.lenS rfl ?_ | refine Qseq.normal ?_ | refine Wc.seq ?_ | refine Wc.region ?_ | refine Wc.block ?_ | refine Wc.skip ?_ | refine Wc.condF rfl ?_ | (refine Wl.neq rfl rfl (fun _ => ?_) (fun _ => ?_) <;> (first | (exfalso; omega) | skip))))
  refine Wc.loop (σ := Nat) (fun i => [(0, .slice ca t.length cc), (1, .slice da t.length dc), (5, vi i)]) (fun i w' => i ≤ t.length ∧ New w w') (fun i => t.length - i) 0 ⟨rfl, rfl, rfl, trivial⟩ ⟨Nat.zero_le _, Chg.refl _ _⟩ ?_
  rintro i G w1 ⟨hi, n1⟩
  have hc1 := hc.keep stableNd n1.keep
  have hd1 := hd.keep stableNd n1.keep
  simp only [upds]
  (repeat' (first | refine Wl.moveE (by conv => { lhs; whnf }) ?_ | refine Wl.assignE (by conv => { lhs; whnf }) ?_ | refine Wl.nil ?_ | refine Wl.lenS rfl ?_ | refine Qseq.normal ?_ | refine Wc.seq ?_ | refine Wc.region ?_ | refine Wc.block ?_ | refine Wc.skip ?_ | refine Wc.exit ?_ | refine Wc.ret ?_ | refine Qseq.exit ?_ | refine Qblk.hit ?_ | refine Qloop.exit ?_ | refine Wc.condT rfl ?_ | refine Wc.condF rfl ?_ | refine Wl.lss rfl rfl (fun _ => ?_) (fun _ => ?_)))
  · obtain ⟨x, hx⟩ := get_lt t (k := i) (by omega)
    refine Wc.regionN rfl (by kernel_rfl) ?_
    (repeat' (refine Wq.moveE (by conv => { lhs; whnf }) ?_))
    refine Wq.idxAddr hc1 (fun w' hw => New.keep hw) rfl rfl (by omega) hx fun b o cs hl hR hat => ?_
    obtain ⟨xv, rfl, hxr⟩ := hR
    obtain ⟨xa, xc, rfl, hxc1, hxc2⟩ := hxr.form
    (repeat' (refine Wq.fieldAddr rfl rfl ?_))
    refine Wq.load1 rfl (fun w' hw => (hat w' hw).get 0 rfl) ?_
    clear hat
    (repeat' (refine Wq.moveE (by conv => { lhs; whnf }) ?_))
    refine Wq.idxAddr hd1 (fun w' hw => New.keep hw) rfl rfl (by omega) hx fun b o cs hl hR hat => ?_
    obtain ⟨yv, rfl, hyr⟩ := hR
    obtain ⟨ya, yc, rfl, hyc1, hyc2⟩ := hyr.form
    (repeat' (refine Wq.fieldAddr rfl rfl ?_))
    refine Wq.load1 rfl (fun w' hw => (hat w' hw).get 0 rfl) ?_
    clear hat
    (repeat' (first | refine Wq.moveE (by conv => { lhs; whnf }) ?_ | refine Wq.guardY rfl rfl ?_ | (refine Wq.neq rfl rfl (fun _ => ?_) (fun _ => ?_) <;> (first | (exfalso; omega) | skip))))
    refine Wq.idxAddr hc1 (fun w' hw => New.keep hw) rfl rfl (by omega) hx fun b o cs hl hR hat => ?_
    obtain ⟨_, rfl, _⟩ := hR
    (repeat' (first | refine Wq.guardY rfl rfl ?_ | refine Wq.fieldAddr rfl rfl ?_))
    refine Wq.load1 rfl (fun w' hw => (hat w' hw).get 1 rfl) ?_
    clear hat
    (repeat' (first | refine Wq.moveE (by conv => { lhs; whnf }) ?_ | refine Wq.guardY rfl rfl ?_))
    refine Wq.idxAddr hd1 (fun w' hw => New.keep hw) rfl rfl (by omega) hx fun b o cs hl hR hat => ?_
    obtain ⟨_, rfl, _⟩ := hR
    (repeat' (first | refine Wq.guardY rfl rfl ?_ | refine Wq.fieldAddr rfl rfl ?_))
    refine Wq.load1 rfl (fun w' hw => (hat w' hw).get 1 rfl) ?_
    clear hat
    (repeat' (first | refine Wq.moveE (by conv => { lhs; whnf }) ?_ | refine Wq.guardY rfl rfl ?_ | refine Wq.pickFE rfl (by conv => { lhs; whnf }) ?_ | (refine Wq.sneq rfl rfl (fun _ => ?_) (fun _ => ?_) <;> (first | (exfalso; contradiction) | skip))))
    refine Wq.idxAddr hc1 (fun w' hw => New.keep hw) rfl rfl (by omega) hx fun b o cs hl hR hat => ?_
    obtain ⟨v1, rfl, h1⟩ := hR
    obtain ⟨_, _, rfl, _, _⟩ := h1.form
    (repeat' (first | refine Wq.guardY rfl rfl ?_ | refine Wq.fieldAddr rfl rfl ?_))
    refine Wq.load1 rfl (fun w' hw => (hat w' hw).get 2 rfl) ?_
    clear hat
    (repeat' (first | refine Wq.moveE (by conv => { lhs; whnf }) ?_ | refine Wq.guardY rfl rfl ?_ | refine Wq.lenS rfl ?_))
    refine Wq.idxAddr hd1 (fun w' hw => New.keep hw) rfl rfl (by omega) hx fun b o cs hl hR hat => ?_
    obtain ⟨v2, rfl, h2⟩ := hR
    obtain ⟨_, _, rfl, _, _⟩ := h2.form
    (repeat' (first | refine Wq.guardY rfl rfl ?_ | refine Wq.fieldAddr rfl rfl ?_))
    refine Wq.load1 rfl (fun w' hw => (hat w' hw).get 2 rfl) ?_
    clear hat
    (repeat' (first | refine Wq.nil ?_ | refine Wq.guardY rfl rfl ?_ | refine Wq.pickFE rfl (by conv => { lhs; whnf }) ?_ | refine Wq.lenS rfl ?_ | (refine Wq.neq rfl rfl (fun _ => ?_) (fun _ => ?_) <;> (first | (exfalso; omega) | skip))))
    intro w2 n2
    have hxm : x.props.length ≤ maxLen := Nat.le_trans hxc1 hxc2
    simp only [maxLen] at hxm
    (repeat' (first | refine Wl.assignE (by conv => { lhs; whnf }) ?_ | refine Wl.nil ?_ | refine Qseq.normal ?_ | refine Wc.seq ?_ | refine Wc.region ?_ | refine Wc.block ?_ | refine Wc.skip ?_ | refine Wc.condF rfl ?_))
    refine Wc.loop (σ := Nat) (fun j => [(0, .slice ca t.length cc), (1, .slice da t.length dc), (5, vi i), (6, vi j)]) (fun j w' => j ≤ x.props.length ∧ New w w') (fun j => x.props.length - j) 0 ⟨rfl, rfl, rfl, rfl, trivial⟩ ⟨Nat.zero_le _, New.trans n1 n2⟩ ?_
    rintro j G w3 ⟨hj, n3⟩
    have hc3 := hc.keep stableNd n3.keep
    have hd3 := hd.keep stableNd n3.keep
    clear h1 h2 hxr hyr
    simp only [upds]
    (repeat' (first | refine Wl.moveE (by conv => { lhs; whnf }) ?_ | refine Wc.seq ?_ | refine Wc.region ?_))
    refine Wl.idxAddr hc3 rfl rfl (by omega) hx fun b o cs hl hR hat => ?_
    obtain ⟨xv, rfl, hxr⟩ := hR
    obtain ⟨xa, xc, rfl, hxc1, hxc2⟩ := hxr.form
    (repeat' (refine Wl.fieldAddr rfl rfl ?_))
    refine Wl.load1 rfl (hat.get 2 rfl) ?_
    clear hat
    (repeat' (first | refine Wl.moveE (by conv => { lhs; whnf }) ?_ | refine Wl.assignE (by conv => { lhs; whnf }) ?_ | refine Wl.nil ?_ | refine Wl.lenS rfl ?_ | refine Qseq.normal ?_ | refine Wc.seq ?_ | refine Wc.region ?_ | refine Wc.block ?_ | refine Wc.skip ?_ | refine Wc.exit ?_ | refine Qseq.exit ?_ | refine Qblk.normal ?_ | refine Qblk.hit ?_ | refine Qloop.exit ?_ | refine Wc.condT rfl ?_ | refine Wc.condF rfl ?_ | refine Wl.add rfl rfl (by omega) (by omega) ?_ | refine Wl.lss rfl rfl (fun _ => ?_) (fun _ => ?_)))
    · obtain ⟨q, hq⟩ := get_lt x.props (k := j) (by omega)
      have hql := hs x (List.mem_of_getElem? hx) q (List.mem_of_getElem? hq)
      refine Wc.regionN rfl (by kernel_rfl) ?_
      (repeat' (refine Wq.moveE (by conv => { lhs; whnf }) ?_))
      refine Wq.idxAddr hc3 (fun w' hw => New.keep hw) rfl rfl (by omega) hx fun b o cs hl hR hat => ?_
      obtain ⟨xv, rfl, hxr⟩ := hR
      (repeat' (refine Wq.fieldAddr rfl rfl ?_))
      refine Wq.load1 rfl (fun w' hw => (hat w' hw).get 2 rfl) ?_
      clear hat
      (repeat' (refine Wq.moveE (by conv => { lhs; whnf }) ?_))
      refine Wq.idxAddr hxr (fun w' hw => New.keep hw) rfl rfl (by omega) hq fun b o cs hl hR hat => ?_
      obtain rfl : cs = pC q := hR
      refine Wq.loadAt hat rfl rfl ?_
      clear hat
      (repeat' (refine Wq.moveE (by conv => { lhs; whnf }) ?_))
      refine Wq.idxAddr hd3 (fun w' hw => New.keep hw) rfl rfl (by omega) hx fun b o cs hl hR hat => ?_
      obtain ⟨yv, rfl, hyr⟩ := hR
      (repeat' (refine Wq.fieldAddr rfl rfl ?_))
      refine Wq.load1 rfl (fun w' hw => (hat w' hw).get 2 rfl) ?_
      clear hat
      (repeat' (refine Wq.moveE (by conv => { lhs; whnf }) ?_))
      refine Wq.idxAddr hyr (fun w' hw => New.keep hw) rfl rfl (by omega) hq fun b o cs hl hR hat => ?_
      obtain rfl : cs = pC q := hR
      refine Wq.loadAt hat rfl rfl ?_
      clear hat
      refine Wq.neqPrSame hql.1 hql.2 rfl rfl ?_
      (repeat' (refine Wq.nil ?_))
      intro w4 n4
      (repeat' (first | refine Wl.moveE (by conv => { lhs; whnf }) ?_ | refine Wl.assignE (by conv => { lhs; whnf }) ?_ | refine Wl.nil ?_ | refine Qseq.normal ?_ | refine Wc.region ?_ | refine Wc.skip ?_ | refine Qblk.normal ?_ | refine Wc.condF rfl ?_ | refine Wl.add rfl rfl (by omega) (by omega) ?_))
      exact Qloop.normal (j + 1) ⟨rfl, rfl, rfl, rfl, trivial⟩ ⟨by omega, New.trans n3 n4⟩ (by omega)
    · exact Qloop.normal (i + 1) ⟨rfl, rfl, rfl, trivial⟩ ⟨by omega, n3⟩ (by omega)
  · exact Qfn.ret1 rfl rfl ⟨_, rfl, rfl, n1⟩
end Go.Proofs.YtjpebmgllfiloaaDoor
