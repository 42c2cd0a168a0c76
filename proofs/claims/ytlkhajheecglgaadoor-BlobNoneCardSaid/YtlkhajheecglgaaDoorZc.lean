/-
  Texts of this claim, one behind the other: Cut, Wu, Lit, Va, Vb, Wv, Ww, Vc, Vd, Ve, Wx, Wy, Vf, Wz, Pan, Bp, Ra.
-/
import Derived.Test.YtlkhajheecglgaaDoorZb
import Derived.Defers
import Derived.Recover
import Derived.Lib.IndexLaws
import Derived.Lib.TrimByte
namespace Go.Proofs.YtlkhajheecglgaaDoor.Wk
open Go Go.RowKit

section
variable {P : Program} {n : Nat} {ds : List Deferred} {Q : Po} {F : Fr} {w w' : World} {M : Fr → World → Prop}
def Qm (M : Fr → World → Prop) (Q : Po) : Po
  | .normal, F, w => M F w
  | e, F, w => Q e F w
theorem Qm.normal (h : M F w) : Qm M Q .normal F w := h
theorem Qm.ret (h : Q .ret F w) : Qm M Q .ret F w := h
theorem Qm.exit {id : Nat} (h : Q (.exit id) F w) : Qm M Q (.exit id) F w := h
theorem Qm.panic {c : List PanicEntry} (h : Q (.panic c) F w) : Qm M Q (.panic c) F w := h
theorem Wc.cutR {a b : Code} (M : Fr → World → Prop) (h1 : Wc P n ds (Qm M Q) a F w) (h2 : ∀ F w, M F w → Wc P n ds Q b F w) : Wc P n ds Q (.seq a b) F w := by
  unfold Wc at *
  refine wp_seq (wp_mono h1 ?_)
  rintro e a' w' ⟨F', rfl, hM⟩
  cases e with
  | normal => exact h2 F' w' hM
  | _ => exact ⟨F', rfl, hM⟩
attribute [irreducible] Qm
end
section
variable {P : Program} {n : Nat} {ds : List Deferred} {Q : Po} {F : Fr} {w w' : World} {ops rest : List Oper} {d : Nat} {ty : TypeId} {pos : String} {aft : Array Edge} {C : World → Prop} {K : Fr → Prop}
/-- Behind a test that was not made. -/
theorem Wl.guardU {op : Op} {j : Nat} {b : Bool} (hy : yld ops n F j = none) (k : Wl P n ds Q ops rest (upd F d undef) w) : Wl P n ds Q ops (⟨some d, op, ty, pos, aft, some (j, b)⟩ :: rest) F w := by
  have hw : Region.wanted ⟨some d, op, ty, pos, aft, some (j, b)⟩ (yielded ops.toArray (act n ds F).tmps) = false := by
    simp only [Region.wanted, act, yielded_eq, hy]; rfl
  unfold Wl at k ⊢
  rw [wpList, if_neg (by rw [hw]; simp), act_put]
  exact k
theorem Wq.guardU {op : Op} {j : Nat} {b : Bool} (hy : yld ops n F j = none) (k : Wq P n ds C K ops rest (upd F d undef)) : Wq P n ds C K ops (⟨some d, op, ty, pos, aft, some (j, b)⟩ :: rest) F := by
  have hw : Region.wanted ⟨some d, op, ty, pos, aft, some (j, b)⟩ (yielded ops.toArray (act n ds F).tmps) = false := by
    simp only [Region.wanted, act, yielded_eq, hy]; rfl
  unfold Wq at k ⊢
  rw [wpQuiet, if_neg (by rw [hw]; simp), act_put]
  exact k
theorem Wt.guardU {op : Op} {l : List Oper} {j : Nat} {b : Bool} (hy : yld ops n F j = none) (hC : C w) (h : Wt P n ds C Q ops l (upd F d undef) w) :
    Wt P n ds C Q ops (⟨some d, op, ty, pos, aft, some (j, b)⟩ :: l) F w := by
  unfold Wt
  split
  · exact Wq.guardU hy (Wq.nil h)
  · split
    · rename_i he
      have : l = [] := by simpa using he
      subst this
      unfold Wt at h
      exact Wl.guardU hy (Wl.nil h)
    · exact Wl.guardU hy (Wl.nil ⟨rfl, hC, h⟩)
end
end Go.Proofs.YtlkhajheecglgaaDoor.Wk

namespace Go.Proofs.YtlkhajheecglgaaDoor
open Go Wk
open Go.RowKit (Below)
attribute [local irreducible] Go.Calls

abbrev tKid : TypeId := 80
def kidV (k : Kid) : Value := .agg #[vi k.1, vs k.2]
theorem kidV_inj {a b : Kid} (h : kidV a = kidV b) : a = b := by
  obtain ⟨a1, a2⟩ := a
  obtain ⟨b1, b2⟩ := b
  simp only [kidV, Value.agg.injEq] at h
  have h' := congrArg Array.toList h
  simp only [List.cons.injEq, and_true] at h'
  have e1 : a1 = b1 := by have := h'.1; simpa using this
  rw [e1, vs_inj h'.2]
theorem kidKeyed : Maps.Keyed Tryd.prog tKid :=
  Maps.Keyed.of_law (deep_law (m := 2) (by decide) (by kernel_rfl) (by kernel_rfl) (by rw [Tryd.underlying80]))
theorem keyKid (p : Int) (s : List UInt8) (h0 : 0 ≤ p) (h1 : p < 1000) (hs : s.length ≤ 31) : ∃ q, keyOf Tryd.prog tKid (kidV (p, s)) = some q := by
  have h1' : Tryd.prog.keyType tKid = true := by kernel_rfl
  have h2 : (kidV (p, s)).formed Tryd.prog tKid = true := by kernel_rfl
  have hc : Tryd.prog.cellsOf tKid = 2 := by kernel_rfl
  have hi : Tryd.prog.cellsOf 3 = 1 := by kernel_rfl
  have hst : Tryd.prog.cellsOf 9 = 1 := by kernel_rfl
  have hw : (Lit.int .i64 p).wf = true := by simp [Lit.wf, IntKind.min, IntKind.max, IntKind.signed, IntKind.bits]; omega
  have hl : (⟨s.toArray⟩ : ByteArray).size ≤ maxLen := by simp only [ByteArray.size, List.size_toArray, maxLen]; omega
  obtain ⟨D, hD⟩ : ∃ D, Tryd.prog.types.size = D + 1 := ⟨_, show Tryd.prog.types.size = (Tryd.prog.types.size - 1) + 1 by kernel_rfl⟩
  have h3 : ∃ L, Tryd.prog.keyLits (Tryd.prog.types.size + 1) tKid [vi p, vs s] = some L := by
    rw [hD]
    refine ⟨[.int .i64 p, .string s], ?_⟩
    simp [Program.keyLits, Tryd.underlying80, Tryd.underlying3, Tryd.underlying9, hc, hi, hst, hw, hl]
  obtain ⟨L, h3⟩ := h3
  unfold keyOf
  rw [Tryd.underlying80]
  simp only [h1', h2, Bool.and_self, if_true]
  exact ⟨_, by rw [show (kidV (p, s)).cells.toList = [vi p, vs s] from rfl, h3]; rfl⟩
theorem not_tree {l : List Nd} {j : Nat} (hj : j < l.length) (h : nextOk l j = false) : treeOk l = false := by
  rw [Bool.eq_false_iff]
  intro e
  have := ((treeOk_next l).1 e).1 j hj
  rw [h] at this; cases this
theorem not_tree0 {l : List Nd} (h : l.length = 0) : treeOk l = false := by
  rw [Bool.eq_false_iff]
  intro e
  have := ((treeOk_next l).1 e).2
  omega
theorem next_zero {l : List Nd} {x : Nd} (hx : l[0]? = some x) : nextOk l 0 = (propsOk x.props && (decide (x.parent = -1) && decide (x.name = []))) := by
  unfold nextOk; rw [hx]; simp
theorem next_big {l : List Nd} (h : 512 < l.length) : nextOk l 512 = false := by
  unfold nextOk
  cases l[512]? with
  | none => rfl
  | some x => simp
def kidsOf (l : List Nd) (i : Nat) : List Kid := ((l.take i).drop 1).map fun y => (y.parent, y.name)
theorem next_succ {l : List Nd} {i : Nat} {x : Nd} (hx : l[i + 1]? = some x) : nextOk l (i + 1) = (decide (i + 1 < 512) && (propsOk x.props && (nameOk x.name && (decide (0 ≤ x.parent) && (decide (x.parent < (i + 1 : Nat)) && ((anc l i).contains x.parent.toNat && (decide ((anc l x.parent.toNat).length + 1 ≤ 16) && !(kidsOf l (i + 1)).contains (x.parent, x.name)))))))) := by
  unfold nextOk
  rw [hx]
  dsimp only
  rw [if_neg (by omega), show i + 1 - 1 = i by omega]
  have : ((l.take (i + 1)).drop 1).any (sameKid x) = (kidsOf l (i + 1)).contains (x.parent, x.name) := by
    unfold kidsOf
    rw [Bool.eq_iff_iff, List.any_eq_true, List.contains_iff_mem, List.mem_map]
    constructor
    · rintro ⟨y, hy, h⟩
      unfold sameKid at h
      simp only [Bool.and_eq_true, decide_eq_true_eq] at h
      exact ⟨y, hy, by rw [h.1, h.2]⟩
    · rintro ⟨y, hy, h⟩
      simp only [Prod.mk.injEq] at h
      exact ⟨y, hy, by unfold sameKid; rw [h.1, h.2]; simp⟩
  rw [this]
theorem kids_snoc {l : List Nd} {i : Nat} {x : Nd} (hx : l[i + 1]? = some x) : kidsOf l (i + 2) = kidsOf l (i + 1) ++ [(x.parent, x.name)] := by
  unfold kidsOf
  have hl := (List.getElem?_eq_some_iff.1 hx).1
  rw [take_snoc hx, List.drop_append_of_le_length (by simp; omega), List.map_append]
  rfl
theorem anc_len {l : List Nd} {n : Nat} (h : Down l n) : ∀ (i : Nat), i < n → i < l.length → (anc l i).length ≤ i + 1 := by
  intro i
  induction i using Nat.strongRecOn with
  | ind i ih =>
    intro hi hl
    obtain ⟨x, hx⟩ := get_lt l hl
    have hd := h i x hi hx
    rw [anc_step h hi hx]
    split
    · simp
    · have := ih x.parent.toNat (by omega) (by omega) (by omega)
      simp only [List.length_cons]; omega
set_option maxHeartbeats 4000000 in
set_option maxRecDepth 8000 in
theorem tree_spec {Pb : Nat → Prop} {w : World} {v : Value} {l : List Nd} (h : RdS rNd 3 Pb w v l) (hs : ∀ x ∈ l, TxOk x.props) :
    Calls Tryd.prog 26 #[v] w (Ret fun r w' => r = .bool (treeOk l) ∧ New w w') := by
  replace h := h.mono monoNd (Pb' := fun b => b < w.heap.size) fun b hb _ => hb
  obtain ⟨a, cap, rfl, hc1, hc2⟩ := h.form
  simp only [maxLen] at hc2
  have no : ∀ (j : Nat) (w' : World), j < l.length → nextOk l j = false → New w w' → ∃ r, (Ending.returned (.bool false)) = .returned r ∧ (r = .bool (treeOk l) ∧ New w w') := fun j w' hj hn n => ⟨_, rfl, by rw [not_tree hj hn], n⟩
  refine calls_of_Wc Tryd.func26 rfl Tryd.ntmps26 rfl ?_
  (repeat' (first | refine Wl.moveE (by conv => { lhs; whnf }) ?_ | refine Wl.assignE (by conv => { lhs; whnf }) ?_ | refine Wl.nil ?_ | refine Wl.guardY rfl rfl ?_ | refine Wl.guardN rfl rfl ?_ | refine Wl.pickTE rfl (by conv => { lhs; whnf }) ?_ | refine Wl.pickFE rfl (by conv => { lhs; whnf }) ?_ | refine Wl.lenS rfl ?_ | refine Qseq.normal ?_ | refine Wc.seq ?_ | refine Wc.region ?_ | refine Wc.ret ?_ | refine Qseq.ret ?_ | refine Wc.condT rfl ?_ | refine Wl.gtr rfl rfl (fun _ => ?_) (fun _ => ?_) | refine Wl.eql rfl rfl (fun _ => ?_) (fun _ => ?_)))
  · rw [not_tree0 (by omega)]
    exact Qfn.ret1 rfl rfl ⟨_, rfl, rfl, Chg.refl _ _⟩
  · exact Qfn.ret1 rfl rfl (no 512 _ (by omega) (next_big (by omega)) (Chg.refl _ _))
  obtain ⟨x, hx⟩ := get_lt l (k := 0) (by omega)
  have hn0 := next_zero hx
  have hl0 : 0 < l.length := by omega
  refine Wl.idxAddr h rfl rfl (by omega) hx fun b o cs hl hR hat => ?_
  obtain ⟨pv, rfl, hpr⟩ := hR
  obtain ⟨_, _, rfl, _, _⟩ := hpr.form
  (repeat' (first | refine Wl.guardY rfl rfl ?_ | refine Wl.fieldAddr rfl rfl ?_))
  refine Wl.load1 rfl (hat.get 0 rfl) ?_
  clear hat
  (repeat' (first | refine Wl.moveE (by conv => { lhs; whnf }) ?_ | refine Wl.assignE (by conv => { lhs; whnf }) ?_ | refine Wl.nil ?_ | refine Wl.guardY rfl rfl ?_ | refine Wl.guardN rfl rfl ?_ | refine Wl.pickTE rfl (by conv => { lhs; whnf }) ?_ | refine Wl.pickFE rfl (by conv => { lhs; whnf }) ?_ | refine Qseq.normal ?_ | refine Wc.seq ?_ | refine Wc.region ?_ | refine Wc.ret ?_ | refine Qseq.ret ?_ | refine Wc.condT rfl ?_ | refine Wl.neq rfl rfl (fun _ => ?_) (fun _ => ?_)))
  · rw [decide_eq_false (by assumption), Bool.false_and, Bool.and_false] at hn0
    exact Qfn.ret1 rfl rfl (no 0 _ hl0 hn0 (Chg.refl _ _))
  rename_i hpar
  refine Wl.idxAddr h rfl rfl (by omega) hx fun b o cs hl hR hat => ?_
  obtain ⟨pv, rfl, hpr⟩ := hR
  obtain ⟨_, _, rfl, _, _⟩ := hpr.form
  (repeat' (first | refine Wl.guardY rfl rfl ?_ | refine Wl.fieldAddr rfl rfl ?_))
  refine Wl.load1 rfl (hat.get 1 rfl) ?_
  clear hat
  (repeat' (first | refine Wl.moveE (by conv => { lhs; whnf }) ?_ | refine Wl.assignE (by conv => { lhs; whnf }) ?_ | refine Wl.nil ?_ | refine Wl.guardY rfl rfl ?_ | refine Wl.guardN rfl rfl ?_ | refine Wl.pickTE rfl (by conv => { lhs; whnf }) ?_ | refine Wl.pickFE rfl (by conv => { lhs; whnf }) ?_ | refine Qseq.normal ?_ | refine Wc.seq ?_ | refine Wc.region ?_ | refine Wc.ret ?_ | refine Qseq.ret ?_ | refine Wc.condT rfl ?_ | refine Wl.sneq rfl rfl (fun _ => ?_) (fun _ => ?_)))
  · rw [decide_eq_false (p := x.name = []) (by assumption), Bool.and_false, Bool.and_false] at hn0
    exact Qfn.ret1 rfl rfl (no 0 _ hl0 hn0 (Chg.refl _ _))
  rename_i hnm
  refine Wl.idxAddr h rfl rfl (by omega) hx fun b o cs hl hR hat => ?_
  obtain ⟨pv, rfl, hpr⟩ := hR
  (repeat' (first | refine Wl.guardY rfl rfl ?_ | refine Wl.fieldAddr rfl rfl ?_))
  refine Wl.load1 rfl (hat.get 2 rfl) ?_
  clear hat
  refine Wl.guardY rfl rfl (Wl.call (props_spec hpr (hs x (List.mem_of_getElem? hx))) rfl ?_)
  rintro _ w1 ⟨rfl, n1⟩
  cases hpo : propsOk x.props with
  | false =>
    rw [hpo, Bool.false_and] at hn0
    (repeat' (first | refine Wl.assignE (by conv => { lhs; whnf }) ?_ | refine Wl.nil ?_ | refine Wl.guardY rfl rfl ?_ | refine Wl.pickFE rfl (by conv => { lhs; whnf }) ?_ | refine Wl.notB rfl ?_ | refine Qseq.normal ?_ | refine Wc.seq ?_ | refine Wc.region ?_ | refine Wc.ret ?_ | refine Qseq.ret ?_ | refine Wc.condT rfl ?_))
    exact Qfn.ret1 rfl rfl (no 0 _ hl0 hn0 n1)
  | true =>
    rw [hpo, decide_eq_true hpar, decide_eq_true hnm] at hn0
    replace hn0 : nextOk l 0 = true := hn0
    (repeat' (first | refine Wl.nil ?_ | refine Wl.guardY rfl rfl ?_ | refine Wl.pickFE rfl (by conv => { lhs; whnf }) ?_ | refine Wl.notB rfl ?_ | refine Qseq.normal ?_ | refine Wc.seq ?_ | refine Wc.region ?_ | refine Wc.skip ?_ | refine Wc.condF rfl ?_))
    refine Wl.makeMapK (k := tKid) fun w2 m2 n2 s2 => ?_
    generalize hbm : w1.heap.size = bm at m2
    have n02 := New.trans n1 n2
    have s1 := n1.size
    (repeat' (first | refine Wl.assignE (by conv => { lhs; whnf }) ?_ | refine Wl.nil ?_ | refine Qseq.normal ?_ | refine Wc.seq ?_ | refine Wc.region ?_))
    refine Wl.buildSlice1 (R := one vi) (y := 0) (Pe := fun _ => False) (good_one _ fun _ => rfl) rfl rfl rfl rfl (by omega) (by omega) fun ov w3 o3 n3 s3 hob => ?_
    have m3 := m2.chg n3 id
    have n03 := New.trans n02 n3
    have h3 := h.keep stableNd n03.keep
    (repeat' (first | refine Wl.moveE (by conv => { lhs; whnf }) ?_ | refine Wl.assignE (by conv => { lhs; whnf }) ?_ | refine Wl.nil ?_ | refine Qseq.normal ?_ | refine Wc.seq ?_ | refine Wc.region ?_))
    refine Wl.sliceFrom h3 rfl rfl (by omega) (by omega) fun v' r3 => ?_
    have ld : (l.drop (1 : Int).toNat).length = l.length - 1 := by simp
    obtain ⟨da, dc, rfl, hdc1, hdc2⟩ := r3.form
    rw [ld] at r3 hdc1 ⊢
    have anc0 : anc l 0 = [0] := by
      have hd0 : Down l 1 := nextOk_down fun j hj => by
        obtain rfl : j = 0 := by omega
        exact hn0
      rw [anc_step hd0 (by omega) hx, if_pos (by omega)]
    have path0 : pathI l 0 = [0] := by unfold pathI; rw [anc0]; rfl
    (repeat' (first | refine Wl.moveE (by conv => { lhs; whnf }) ?_ | refine Wl.nil ?_ | refine Wl.lenS rfl ?_ | refine Qseq.normal ?_ | refine Wc.block ?_))
    refine Wc.loop (σ := Nat × Value) (fun s => [(3, .map (some bm)), (4, s.2), (41, .slice da (l.length - 1) dc), (42, vi ((l.length - 1 : Nat) : Int)), (43, vi s.1)])
      (fun s w' => s.1 ≤ l.length - 1 ∧ (∀ j, j < s.1 + 1 → nextOk l j = true) ∧ OwnS (one vi) 3 1 (fun b => w.heap.size ≤ b ∧ b ≠ bm) No w' s.2 (pathI l s.1) ∧ MapK Tryd.prog tKid w' bm (setV1 kidV (kidsOf l (s.1 + 1))) ∧ (kidsOf l (s.1 + 1)).Nodup ∧ Chg (fun b => w.heap.size ≤ b) w3 w') (fun s => l.length - 1 - s.1)
      (0, ov) ⟨rfl, rfl, rfl, rfl, rfl, trivial⟩ ⟨Nat.zero_le _, fun j hj => by (obtain rfl : j = 0 := by omega); exact hn0, by rw [path0]; exact o3.mono (mono_one _) (fun b hb e => ⟨by omega, by omega⟩) (fun _ _ e => e), by
        have : kidsOf l 1 = [] := by unfold kidsOf; rw [List.drop_eq_nil_of_le (by simp; omega)]; rfl
        rw [this]; exact m3, by
        have : kidsOf l 1 = [] := by unfold kidsOf; rw [List.drop_eq_nil_of_le (by simp; omega)]; rfl
        rw [this]; simp, Chg.refl _ _⟩ ?_
    clear o3 m2 m3 hob hx hpr
    rintro ⟨i, ov⟩ G w4 ⟨hi, hall, o4, m4, hnd, n34⟩
    dsimp only at hi hall o4 m4 hnd n34
    have n4 : New w w4 := Chg.trans n03 n34 fun b hb e => by omega
    have kp : ∀ {w'' : World}, Chg (fun b => w.heap.size ≤ b) w3 w'' → Keep (fun b => b < w.heap.size) w3 w'' := fun c => c.keep fun b _ e1 e2 => by omega
    obtain ⟨oa, oc, rfl, hoc1, hoc2⟩ := o4.form
    have hD := nextOk_down hall
    have s4 := n4.size
    simp only [upds]
    (repeat' (first | refine Wl.moveE (by conv => { lhs; whnf }) ?_ | refine Wl.assignE (by conv => { lhs; whnf }) ?_ | refine Wl.nil ?_ | refine Qseq.normal ?_ | refine Wc.seq ?_ | refine Wc.region ?_ | refine Wc.block ?_ | refine Wc.skip ?_ | refine Wc.exit ?_ | refine Wc.ret ?_ | refine Qseq.exit ?_ | refine Qblk.hit ?_ | refine Qloop.exit ?_ | refine Wc.condT rfl ?_ | refine Wc.condF rfl ?_ | refine Wl.lss rfl rfl (fun _ => ?_) (fun _ => ?_)))
    · obtain ⟨x, hx⟩ := get_lt l (k := i + 1) (by omega)
      have hxs := hs x (List.mem_of_getElem? hx)
      have hns := next_succ hx
      have hxd : (l.drop (1 : Int).toNat)[((i : Int)).toNat]? = some x := by
        rw [Int.toNat_natCast, show (1 : Int).toNat = 1 from rfl, List.getElem?_drop, Nat.add_comm]; exact hx
      have hal := anc_len hD i (by omega) (by omega)
      have hpl : (pathI l i).length = (anc l i).length := by unfold pathI; simp
      refine Wl.idxAddrK r3 (kp n34) rfl rfl (by omega) hxd fun b o cs hl hR hat => ?_
      obtain ⟨pv, rfl, hpr⟩ := hR
      obtain ⟨pa, pc, rfl, _, _⟩ := hpr.form
      refine Wl.loadAt hat rfl rfl ?_
      clear hat
      refine Wl.alloc fun w5 b5 n5 s5 => ?_
      (repeat' (refine Wl.assignE (by conv => { lhs; whnf }) ?_))
      refine Wl.storeB (new := [vi x.parent, vs x.name, .slice pa x.props.length pc]) b5 rfl rfl rfl rfl (show (3 : Nat) ≤ 3 from Nat.le_refl 3) (by intro c hc; simp at hc; rcases hc with rfl | rfl | rfl <;> rfl) fun w6 b6 c6 s6 => ?_
      replace b6 : Bk w6 w4.heap.size 39 [vi x.parent, vs x.name, .slice pa x.props.length pc] := b6
      have hbn : w4.heap.size ≠ bm := by have := m4.toL.lt; omega
      have m6 := (m4.chg n5 id).chg c6 (by omega)
      have o6 := (o4.new (plain_one _) n5).chg (plain_one _) c6 fun k hk e => by have := (o4.lt hk).2; omega
      have n36 : Chg (fun b => w.heap.size ≤ b) w3 w6 := Chg.trans (Chg.trans n34 n5 fun _ _ e => e.elim) c6 fun k hk e => by have := n34.size; omega
      have hp6 : RdS rPr 2 (fun b => b < w.heap.size) w6 (.slice pa x.props.length pc) x.props := hpr.keep (stable_flat pC) (kp n36)
      clear m4 o4 b5 c6 n5 hpr
      (repeat' (first | refine Wl.moveE (by conv => { lhs; whnf }) ?_ | refine Wl.nil ?_ | refine Qseq.normal ?_ | refine Wc.seq ?_ | refine Wc.region ?_ | refine Wl.fieldAddr rfl rfl ?_))
      refine Wl.load1 rfl (b6.cell (o := 0) rfl) ?_
      refine Wl.call (Index_spec (o6.rd (mono_one _))) rfl ?_
      rintro _ _ ⟨rfl, rfl⟩
      have n06 : New w w6 := Chg.trans n03 n36 fun b hb e => by omega
      rcases path_idx hD (i := i) (by omega) (by omega) x.parent with ⟨hnone, hidx⟩ | ⟨q, hq, hqm, hidx, htake, hq1⟩
      · rw [hidx]
        have hbad : nextOk l (i + 1) = false := by
          rw [hns]
          rcases hnone with h0 | h0
          · rw [decide_eq_false (p := 0 ≤ x.parent) (by omega)]; simp
          · rw [h0]; simp
        (repeat' (first | refine Wl.moveE (by conv => { lhs; whnf }) ?_ | refine Wl.assignE (by conv => { lhs; whnf }) ?_ | refine Wl.nil ?_ | refine Wl.guardN rfl rfl ?_ | refine Wl.pickTE rfl (by conv => { lhs; whnf }) ?_ | refine Qseq.normal ?_ | refine Wc.seq ?_ | refine Wc.region ?_ | refine Wc.ret ?_ | refine Qseq.ret ?_ | refine Qblk.ret ?_ | refine Qloop.ret ?_ | refine Wc.condT rfl ?_ | (refine Wl.lss rfl rfl (fun _ => ?_) (fun _ => ?_) <;> (first | (exfalso; omega) | skip))))
        exact Qfn.ret1 rfl rfl (no (i + 1) _ (by omega) hbad n06)
      · rw [hidx]
        rw [hq] at hns
        rw [Int.toNat_natCast, hqm] at hns
        have hqi := anc_le hD i (by omega) (by omega) q (List.contains_iff_mem.1 hqm)
        have haq := anc_len hD q (by omega) (by omega)
        have hle : (anc l q).length ≤ (pathI l i).length := by
          have h1 := congrArg List.length htake
          have h2 : (pathI l q).length = (anc l q).length := by unfold pathI; simp
          rw [List.length_take, h2] at h1
          omega
        (repeat' (first | refine Wl.moveE (by conv => { lhs; whnf }) ?_ | refine Wl.assignE (by conv => { lhs; whnf }) ?_ | refine Wl.nil ?_ | refine Wl.guardY rfl rfl ?_ | refine Wl.guardN rfl rfl ?_ | refine Wl.pickTE rfl (by conv => { lhs; whnf }) ?_ | refine Wl.pickFE rfl (by conv => { lhs; whnf }) ?_ | refine Qseq.normal ?_ | refine Wc.seq ?_ | refine Wc.region ?_ | refine Wc.ret ?_ | refine Qseq.ret ?_ | refine Qblk.ret ?_ | refine Qloop.ret ?_ | refine Wc.condT rfl ?_ | refine Wl.fieldAddr rfl rfl ?_ | refine Wl.add rfl rfl (by omega) (by omega) ?_ | (refine Wl.lss rfl rfl (fun _ => ?_) (fun _ => ?_) <;> (first | (exfalso; omega) | skip)) | refine Wl.gtr rfl rfl (fun _ => ?_) (fun _ => ?_)))
        · have hbad : nextOk l (i + 1) = false := by
            rw [hns, decide_eq_false (p := (anc l q).length + 1 ≤ 16) (by omega)]; simp
          exact Qfn.ret1 rfl rfl (no (i + 1) _ (by omega) hbad n06)
        rw [decide_eq_true (p := (anc l q).length + 1 ≤ 16) (by omega)] at hns
        refine Wl.load1 rfl (b6.cell (o := 1) rfl) ?_
        refine Wl.guardY rfl rfl (Wl.call (name_spec (s := x.name)) rfl ?_)
        rintro _ w7 ⟨rfl, n7⟩
        cases hno : nameOk x.name with
        | false =>
          have hbad : nextOk l (i + 1) = false := by rw [hns, hno]; simp
          (repeat' (first | refine Wl.moveE (by conv => { lhs; whnf }) ?_ | refine Wl.assignE (by conv => { lhs; whnf }) ?_ | refine Wl.nil ?_ | refine Wl.guardY rfl rfl ?_ | refine Wl.guardN rfl rfl ?_ | refine Wl.pickTE rfl (by conv => { lhs; whnf }) ?_ | refine Wl.pickFE rfl (by conv => { lhs; whnf }) ?_ | refine Wl.notB rfl ?_ | refine Qseq.normal ?_ | refine Wc.seq ?_ | refine Wc.region ?_ | refine Wc.ret ?_ | refine Qseq.ret ?_ | refine Qblk.ret ?_ | refine Qloop.ret ?_ | refine Wc.condT rfl ?_))
          exact Qfn.ret1 rfl rfl (no (i + 1) _ (by omega) hbad (New.trans n06 n7))
        | true =>
          rw [hno] at hns
          have b7 := b6.chg n7 id
          have m7 := m6.chg n7 id
          have o7 := o6.new (plain_one _) n7
          (repeat' (first | refine Wl.moveE (by conv => { lhs; whnf }) ?_ | refine Wl.guardY rfl rfl ?_ | refine Wl.pickFE rfl (by conv => { lhs; whnf }) ?_ | refine Wl.notB rfl ?_ | refine Wl.fieldAddr rfl rfl ?_))
          refine Wl.load1 rfl (b7.cell (o := 2) rfl) ?_
          refine Wl.guardY rfl rfl (Wl.call (props_spec (hp6.keep (stable_flat pC) n7.keep) hxs) rfl ?_)
          rintro _ w8 ⟨rfl, n8⟩
          have n78 := New.trans n7 n8
          have n08 := New.trans n06 n78
          cases hpo2 : propsOk x.props with
          | false =>
            have hbad : nextOk l (i + 1) = false := by rw [hns, hpo2]; simp
            (repeat' (first | refine Wl.assignE (by conv => { lhs; whnf }) ?_ | refine Wl.nil ?_ | refine Wl.guardY rfl rfl ?_ | refine Wl.pickFE rfl (by conv => { lhs; whnf }) ?_ | refine Wl.notB rfl ?_ | refine Qseq.normal ?_ | refine Wc.seq ?_ | refine Wc.region ?_ | refine Wc.ret ?_ | refine Qseq.ret ?_ | refine Qblk.ret ?_ | refine Qloop.ret ?_ | refine Wc.condT rfl ?_))
            exact Qfn.ret1 rfl rfl (no (i + 1) _ (by omega) hbad n08)
          | true =>
            rw [hpo2] at hns
            have b8 := b7.chg n8 id
            have m8 := m7.chg n8 id
            have o8 := o7.new (plain_one _) n8
            clear b6 b7 m6 m7 o6 o7 hp6
            have hns2 : nextOk l (i + 1) = !(kidsOf l (i + 1)).contains (x.parent, x.name) := by
              rw [hns, hq, decide_eq_true (p := i + 1 < 512) (by omega), decide_eq_true (p := (0 : Int) ≤ (q : Int)) (by omega), decide_eq_true (p := (q : Int) < ((i + 1 : Nat) : Int)) (by omega)]
              simp
            obtain ⟨ky, hky⟩ := keyKid x.parent x.name (by omega) (by omega) (nameOk_len hno)
            (repeat' (first | refine Wl.nil ?_ | refine Wl.guardY rfl rfl ?_ | refine Wl.pickFE rfl (by conv => { lhs; whnf }) ?_ | refine Wl.notB rfl ?_ | refine Qseq.normal ?_ | refine Wc.skip ?_ | refine Wc.condF rfl ?_))
            have key0 : ∃ r0 : Int, (∀ r, Tells (setV1 kidV (kidsOf l (i + 1))) (kidV (x.parent, x.name)) (vi 0) r → r = vi r0) ∧ (((kidsOf l (i + 1)).contains (x.parent, x.name) = true ∧ r0 = 1) ∨ ((kidsOf l (i + 1)).contains (x.parent, x.name) = false ∧ r0 = 0)) := by
              cases hct : (kidsOf l (i + 1)).contains (x.parent, x.name) with
              | true =>
                refine ⟨1, fun r hr => ?_, .inl ⟨rfl, rfl⟩⟩
                rcases hr with hr | ⟨_, hr⟩
                · obtain ⟨k, _, e⟩ := List.mem_map.1 hr
                  simp only [Prod.mk.injEq] at e
                  exact e.2.symm
                · exact absurd rfl (hr (kidV (x.parent, x.name), vi 1) (List.mem_map.2 ⟨_, List.contains_iff_mem.1 hct, rfl⟩))
              | false =>
                refine ⟨0, fun r hr => ?_, .inr ⟨rfl, rfl⟩⟩
                rcases hr with hr | ⟨hr, _⟩
                · obtain ⟨k, hk, e⟩ := List.mem_map.1 hr
                  simp only [Prod.mk.injEq] at e
                  rw [kidV_inj e.1] at hk
                  rw [List.contains_iff_mem.2 hk] at hct
                  cases hct
                · exact hr
            obtain ⟨r0, hr0, hcase⟩ := key0
            have hr01 : 0 ≤ r0 ∧ r0 ≤ 1 := by rcases hcase with ⟨_, h⟩ | ⟨_, h⟩ <;> omega
            have hbn8 : w4.heap.size ≠ bm := hbn
            have hkn : ((setV1 kidV (kidsOf l (i + 1))).map (·.1)).Nodup := by rw [setV1_keys]; exact nodup_map (fun a b e => kidV_inj e) hnd
            refine Wc.seq ?_
            refine Wc.cut (fun F w' => ∃ l', agrees F [(3, .map (some bm)), (4, .slice oa (pathI l i).length oc), (5, vi i), (6, .pointer (some ⟨w4.heap.size, 0, none⟩)), (7, vi (((anc l q).length : Int) - 1)), (41, .slice da (l.length - 1) dc), (42, vi ((l.length - 1 : Nat) : Int)), (43, vi i)] ∧ MapK Tryd.prog tKid w' bm l' ∧
              (∀ r, Tells l' (kidV (x.parent, x.name)) (vi 0) r → r = vi (r0 + 1)) ∧ (r0 = 0 → l' = setV1 kidV (kidsOf l (i + 2))) ∧ Chg (fun b => b = bm) w8 w') ?_ ?_
            · refine Wc.regionG (m := 11) rfl (by kernel_rfl) (fun w' => Chg (fun b => b = bm) w8 w' ∧ ∃ l', MapL Tryd.prog tKid w' bm l' ∧ ∀ r, Tells l' (kidV (x.parent, x.name)) (vi 0) r → r = vi r0) ⟨Chg.drew _ _, _, (m8.chg (Chg.drew (fun _ => False) _) id).toL, hr0⟩ rfl ?_
              intro w9 n9
              have m9 := m8.chg n9 id
              have C9 : Chg (fun b => b = bm) w8 w9 := n9.any
              (repeat' (first | refine Wg.quiet rfl rfl rfl (Wq.moveE (by conv => { lhs; whnf }) (Wq.nil ?_)) | refine Wg.quiet rfl rfl rfl (Wq.fieldAddr rfl rfl (Wq.nil ?_))))
              refine Wg.quiet rfl rfl rfl (Wq.load1 rfl (fun w' hw => (b8.chg hw.1 hbn8).cell (o := 0) rfl) (Wq.nil ?_))
              (repeat' (refine Wg.quiet rfl rfl rfl (Wq.fieldAddr rfl rfl (Wq.nil ?_))))
              refine Wg.quiet rfl rfl rfl (Wq.load1 rfl (fun w' hw => (b8.chg hw.1 hbn8).cell (o := 1) rfl) (Wq.nil ?_))
              refine Wg.one rfl rfl rfl rfl rfl (Wl.buildF (ps := [(0, .tmp 73), (1, .tmp 75)]) (parts := [(0, vi x.parent), (1, vs x.name)]) rfl rfl (by simp [Value.cells]) (Wl.nil ⟨rfl, ⟨C9, _, m9.toL, hr0⟩, ?_⟩))
              refine Wg.quiet rfl rfl rfl (Wq.lookupT kidKeyed (fun w' hw => hw.2) hky rfl rfl (Wq.nil ?_))
              (repeat' (refine Wg.quiet rfl rfl rfl (Wq.add rfl rfl (by omega) (by omega) (Wq.nil ?_))))
              refine Wg.one rfl rfl rfl rfl rfl (Wl.mapEntry kidKeyed m9 hky rfl rfl fun w10 l10 j v stamp m10 hl10 c10 => Wl.nil ⟨rfl, ⟨Chg.trans C9 c10 fun _ _ e => e, l10, m10.toL, ?_⟩, ?_⟩)
              · intro r hr
                rcases hl10 with ⟨rfl, rfl, rfl, hnk⟩ | ⟨rfl, hj⟩
                · have h0 : vi 0 = vi r0 := hr0 _ (.inr ⟨rfl, hnk⟩)
                  rcases hr with hr | ⟨hr, _⟩
                  · rcases List.mem_append.1 hr with h1 | h1
                    · exact absurd rfl (hnk _ h1)
                    · simp only [List.mem_singleton, Prod.mk.injEq] at h1
                      exact h1.2.trans h0
                  · exact hr.trans h0
                · exact hr0 r hr
              · (repeat' (refine Wg.quiet rfl rfl rfl (Wq.extract rfl rfl (Wq.nil ?_))))
                have hlj : l10[j]? = some (kidV (x.parent, x.name), v) := by
                  rcases hl10 with ⟨rfl, rfl, rfl, _⟩ | ⟨rfl, hj⟩
                  · rw [List.getElem?_append_right (Nat.le_refl _)]; simp
                  · exact hj
                refine Wg.last rfl rfl rfl rfl (Wl.entryStore (u := vi (r0 + 1)) m10 hlj rfl rfl rfl fun w11 m11 c11 => Wl.nil ?_)
                refine ⟨rfl, _, ⟨rfl, rfl, rfl, rfl, rfl, rfl, rfl, rfl, trivial⟩, m11, fun r hr => ?_, fun e0 => ?_, Chg.trans (Chg.trans C9 c10 fun _ _ e => e) c11 fun _ _ e => e⟩
                · have hnd10 : (l10.map (·.1)).Nodup := by
                    rcases hl10 with ⟨rfl, _, _, hnk⟩ | ⟨rfl, _⟩
                    · rw [List.map_append, List.nodup_append]
                      refine ⟨hkn, by simp, fun a ha c hc e => ?_⟩
                      obtain ⟨p, hp, rfl⟩ := List.mem_map.1 ha
                      simp only [List.map_cons, List.map_nil, List.mem_singleton] at hc
                      exact hnk p hp (e.trans hc)
                    · exact hkn
                  obtain ⟨p1, p2⟩ := pair_set (u := vi (r0 + 1)) hlj hnd10
                  rcases hr with hr | ⟨_, hr⟩
                  · exact p2 r hr
                  · exact absurd rfl (hr _ p1)
                · rcases hl10 with ⟨rfl, rfl, rfl, hnk⟩ | ⟨rfl, hj⟩
                  · rw [List.set_append_right _ _ (Nat.le_refl _), e0, kids_snoc hx]
                    simp [setV1]
                  · exfalso
                    have h1 : (kidV (x.parent, x.name), v) ∈ setV1 kidV (kidsOf l (i + 1)) := List.mem_of_getElem? hj
                    have h2 := hr0 v (.inl h1)
                    obtain ⟨k, _, e⟩ := List.mem_map.1 h1
                    simp only [Prod.mk.injEq] at e
                    rw [← e.2, e0] at h2
                    cases h2
            · rintro F w9 ⟨l9, hag, m9, ht9, hl9, c9⟩
              rw [← upds_of_agrees hag]
              simp only [upds]
              have b9 := b8.chg c9 hbn8
              have o9 := o8.chg (plain_one _) c9 fun b e1 e2 => (o8.lt e1).1.2 e2
              have n09 : New w w9 := Chg.trans n08 c9 fun b hb e => by omega
              (repeat' (first | refine Wl.moveE (by conv => { lhs; whnf }) ?_ | refine Wc.seq ?_ | refine Wc.region ?_ | refine Wl.fieldAddr rfl rfl ?_))
              refine Wl.load1 rfl (b9.cell (o := 0) rfl) ?_
              (repeat' (refine Wl.fieldAddr rfl rfl ?_))
              refine Wl.load1 rfl (b9.cell (o := 1) rfl) ?_
              refine Wl.buildF (ps := [(0, .tmp 83), (1, .tmp 85)]) (parts := [(0, vi x.parent), (1, vs x.name)]) rfl rfl (by simp [Value.cells]) ?_
              refine Wl.lookup kidKeyed m9.toL hky rfl rfl ?_
              intro r hr
              rw [ht9 r hr]
              rcases hcase with ⟨hct, rfl⟩ | ⟨hct, rfl⟩
              · (repeat' (first | refine Wl.assignE (by conv => { lhs; whnf }) ?_ | refine Wl.nil ?_ | refine Qseq.normal ?_ | refine Wc.seq ?_ | refine Wc.region ?_ | refine Wc.ret ?_ | refine Qseq.ret ?_ | refine Qblk.ret ?_ | refine Qloop.ret ?_ | refine Wc.condT rfl ?_ | (refine Wl.gtr rfl rfl (fun _ => ?_) (fun _ => ?_) <;> (first | (exfalso; omega) | skip))))
                have hbad : nextOk l (i + 1) = false := by rw [hns2, hct]; rfl
                exact Qfn.ret1 rfl rfl (no (i + 1) _ (by omega) hbad n09)
              · rw [hct] at hns2
                (repeat' (first | refine Wl.moveE (by conv => { lhs; whnf }) ?_ | refine Wl.nil ?_ | refine Qseq.normal ?_ | refine Wc.region ?_ | refine Wc.skip ?_ | refine Wc.condF rfl ?_ | refine Wl.add rfl rfl (by omega) (by omega) ?_ | (refine Wl.gtr rfl rfl (fun _ => ?_) (fun _ => ?_) <;> (first | (exfalso; omega) | skip))))
                refine Wl.sliceOwn o9 rfl rfl (by omega) (by omega) fun v' o9' hob9 => ?_
                have e1 : (((anc l q).length : Int) - 1 + 1).toNat = (anc l q).length := by omega
                rw [e1, htake] at o9'
                obtain ⟨pa', pc', rfl, _, _⟩ := o9'.form
                (repeat' (first | refine Wl.moveE (by conv => { lhs; whnf }) ?_ | refine Wl.add rfl rfl (by omega) (by omega) ?_))
                have hpq : (pathI l q).length = (anc l q).length := by unfold pathI; simp
                refine Wl.append1 (R := one vi) (y := (i : Int) + 1) (cs := [vi ((i : Int) + 1)]) (good_one _ fun _ => rfl) o9' rfl rfl rfl rfl rfl (by omega) (by omega) (by simp only [maxLen]; omega) (by omega) rfl rfl fun v10 w10 p10 o10 c10 lie10 => ?_
                (repeat' (first | refine Wl.moveE (by conv => { lhs; whnf }) ?_ | refine Wl.assignE (by conv => { lhs; whnf }) ?_ | refine Wl.nil ?_ | refine Qseq.normal ?_ | refine Wc.region ?_ | refine Qblk.normal ?_ | refine Wl.add rfl rfl (by omega) (by omega) ?_))
                have hall2 : ∀ j, j < i + 1 + 1 → nextOk l j = true := fun j hj => by
                  rcases Nat.lt_or_ge j (i + 1) with h | h
                  · exact hall j h
                  · obtain rfl : j = i + 1 := by omega
                    exact hns2
                have hD2 := nextOk_down hall2
                have hps := path_snoc hD2 (by omega) hx hq
                have n010 : Chg (fun b => w.heap.size ≤ b) w3 w10 := Chg.trans (Chg.trans (Chg.trans n36 n78 fun _ _ e => e.elim) c9 fun b hb e => by omega) c10 fun b hb e => (o9'.lt e).1.1
                refine Qloop.normal (i + 1, v10) ⟨rfl, rfl, rfl, rfl, rfl, trivial⟩ ⟨by dsimp only; omega, hall2, ?_, ?_, ?_, n010⟩ (by dsimp only; omega)
                · dsimp only
                  rw [hps]
                  have s9 := n09.size
                  exact o10.reblk fun b _ e => by rcases e with e | e; exact e; exact ⟨by omega, by have := m9.toL.lt; omega⟩
                · dsimp only
                  rw [show i + 1 + 1 = i + 2 by omega, ← hl9 rfl]
                  exact m9.chg c10 fun e => by have := (o9'.lt e).1.2; exact this rfl
                · dsimp only
                  rw [show i + 1 + 1 = i + 2 by omega, kids_snoc hx, List.nodup_append]
                  refine ⟨hnd, by simp, fun a ha c hc e => ?_⟩
                  simp only [List.mem_singleton] at hc
                  rw [e, hc] at ha
                  rw [List.contains_iff_mem.2 ha] at hct
                  cases hct
    · have ei : i = l.length - 1 := by omega
      have htr : treeOk l = true := (treeOk_next l).2 ⟨fun j hj => hall j (by omega), hl0⟩
      rw [htr]
      exact Qfn.ret1 rfl rfl ⟨_, rfl, rfl, n4⟩
end Go.Proofs.YtlkhajheecglgaaDoor

namespace Go.Proofs.YtlkhajheecglgaaDoor.Wk
open Go Go.RowKit

def numb : Nat → List Value → List (Nat × Value)
  | _, [] => []
  | k, u :: us => (k, u) :: numb (k + 1) us
theorem fill_dense (sz : Nat) : ∀ (us : List Value) (k : Nat) (pre zs : List Value), pre.length = k * sz → zs.length = us.length * sz → (∀ u ∈ us, u.cells.size = sz) →
    Instr.fill (fun i => some (i * sz, sz)) (pre ++ zs).toArray (numb k us) = some (pre ++ us.flatMap fun u => u.cells.toList).toArray
  | [], k, pre, zs, hp, hz, _ => by
    have : zs = [] := List.eq_nil_of_length_eq_zero (by simpa using hz)
    subst this
    simp [numb, Instr.fill]
  | u :: us, k, pre, zs, hp, hz, h => by
    have hu := h u (by simp)
    simp only [List.length_cons, Nat.add_mul, Nat.one_mul] at hz
    simp only [numb, Instr.fill, hu]
    rw [if_neg (by simp; omega)]
    have hsp : zs = zs.take sz ++ zs.drop sz := (List.take_append_drop sz zs).symm
    have h1 := foldl_fill (k * sz) u.cells.toList 0 pre (zs.drop sz) (zs.take sz) (by simp [hu]; omega) (by omega)
    rw [List.append_assoc, ← hsp] at h1
    rw [← Array.foldl_toList, Array.toList_zipIdx]
    have h2 : List.foldl (fun (cs : Array Value) (x : Value × Nat) => match x with | (c, j) => cs.setIfInBounds (k * sz + j) c) (pre ++ zs).toArray (u.cells.toList.zipIdx) = (pre ++ u.cells.toList ++ zs.drop sz).toArray := h1
    rw [h2, fill_dense sz us (k + 1) (pre ++ u.cells.toList) (zs.drop sz) (by simp [hu, hp, Nat.add_mul]) (by simp; omega) fun v hv => h v (by simp [hv])]
    simp
def AllR {α : Type} (R : Rel α) (sz : Nat) (Pb : Nat → Prop) (w : World) : List α → List Value → Prop
  | [], [] => True
  | x :: xs, u :: us => u.cells.size = sz ∧ R Pb w x u.cells.toList ∧ AllR R sz Pb w xs us
  | _, _ => False
theorem AllR.length {α : Type} {R : Rel α} {sz : Nat} {Pb : Nat → Prop} {w : World} : ∀ {xs : List α} {us : List Value}, AllR R sz Pb w xs us → us.length = xs.length ∧ ∀ u ∈ us, u.cells.size = sz
  | [], [], _ => ⟨rfl, by simp⟩
  | x :: xs, u :: us, h => by
    obtain ⟨h1, _, h2⟩ := h
    have := h2.length
    exact ⟨by simp [this.1], fun v hv => by rcases List.mem_cons.1 hv with rfl | hv; exact h1; exact this.2 v hv⟩
  | [], _ :: _, h => h.elim
  | _ :: _, [], h => h.elim
theorem AllR.get {α : Type} {R : Rel α} {sz : Nat} {Pb : Nat → Prop} {w : World} : ∀ {xs : List α} {us : List Value} {i : Nat} {x : α}, AllR R sz Pb w xs us → xs[i]? = some x → R Pb w x (((us.flatMap fun u => u.cells.toList).drop (i * sz)).take sz)
  | [], [], i, x, _, h => by simp at h
  | y :: xs, u :: us, i, x, h, hx => by
    obtain ⟨h1, h2, h3⟩ := h
    have hl : u.cells.toList.length = sz := by simpa using h1
    cases i with
    | zero =>
      simp at hx
      subst hx
      simp only [List.flatMap_cons, Nat.zero_mul, List.drop_zero]
      rw [List.take_append_of_le_length (by omega), List.take_of_length_le (by omega)]
      exact h2
    | succ i =>
      have := h3.get (i := i) (by simpa using hx)
      rw [List.flatMap_cons, List.drop_append, List.drop_eq_nil_of_le (show u.cells.toList.length ≤ (i + 1) * sz by rw [hl, Nat.add_mul]; omega), List.nil_append, hl, Nat.add_mul, Nat.one_mul, Nat.add_sub_cancel]
      exact this
  | [], _ :: _, _, _, h, _ => h.elim
  | _ :: _, [], _, _, h, _ => h.elim
section
variable {P : Program} {n : Nat} {ds : List Deferred} {Q : Po} {F : Fr} {w w' : World} {ops rest : List Oper} {d d1 d2 : Nat} {ty ty1 ty2 : TypeId} {pos pos1 pos2 : String} {aft aft1 aft2 : Array Edge}
theorem flat_len {us : List Value} {sz : Nat} (h : ∀ u ∈ us, u.cells.size = sz) : (us.flatMap fun u => u.cells.toList).length = us.length * sz := by
  induction us with
  | nil => simp
  | cons u us ih => simp [ih fun v hv => h v (by simp [hv]), h u (by simp), Nat.add_mul]; omega
theorem run_buildSliceN {t e : TypeId} {sz bytes : Nat} {agg : Bool} {z : Value} {us : List Value} (ht : P.underlying t = some (.slice e)) (he : ElT P e sz bytes agg z) (hv : ∀ u ∈ us, u.cells.size = sz) (hs : 0 < us.length * sz) (hs2 : us.length * sz ≤ 16777216) :
    (Instr.buildSlice t us.length (numb 0 us).toArray).run P w = .ok (.slice (some ⟨w.heap.size, 0, none⟩) us.length us.length) (w.alloc (.cells (us.flatMap fun u => u.cells.toList).toArray e)) := by
  have hne : ¬ us.length * sz = 0 := by omega
  have hz := he.hz
  have e3 := fill_dense sz us 0 [] (((List.range (us.length * sz)).map fun i => z.cells[i % z.cells.size]!)) (by simp) (by simp) hv
  have e4 : (Array.range (us.length * sz)).map (fun i => z.cells[i % z.cells.size]!) = (((List.range (us.length * sz)).map fun i => z.cells[i % z.cells.size]!)).toArray := by
    apply Array.ext'
    simp [Array.toList_range]
  rw [List.nil_append, List.nil_append, ← e4] at e3
  simp only [Instr.buildSlice, Sem.run_bind, run_underlying ht, Result.andThen_ok, he.sizeOf]
  rw [if_neg (by omega), if_neg hne]
  simp only [Sem.run_bind, Result.andThen_ok, he.zeroValue, Sem.run_pure, e3, newRow, run_newObj]
  rfl
/-- []T{a, b, ..}, a list of one's own. -/
theorem Wl.buildSliceN {α : Type} {R : Rel α} {N : Nat} {ps : List (Nat × Operand)} {t e : TypeId} {sz bytes : Nat} {agg : Bool} {z : Value} {xs : List α} {us : List Value} {Pe : Nat → Prop} (hR : GoodR R sz) [ht : Und P t (.slice e)] [he : ElT P e sz bytes agg z] (hN : us.length = N) (hps : ps.map (fun p => (p.1, ev n F p.2)) = numb 0 us)
    (h : AllR R sz (fun b => Pe b ∧ w.heap.size ≠ b) w xs us) (hsz : 0 < us.length * sz) (hsz2 : us.length * sz ≤ 16777216)
    (c : ∀ v w', OwnS R e sz (fun b => b = w.heap.size) Pe w' v xs → New w w' → w'.heap.size = w.heap.size + 1 → v.ownBlock = some w.heap.size → Wl P n ds Q ops rest (upd F d v) w') :
    Wl P n ds Q ops (⟨some d, .buildSlice t N ps.toArray, ty, pos, aft, none⟩ :: rest) F w := by
  subst hN
  obtain ⟨hl, hall⟩ := h.length
  have hr := run_buildSliceN (P := P) (w := w) ht.h he hall hsz hsz2
  have hn : New w (w.alloc (.cells (us.flatMap fun u => u.cells.toList).toArray e)) := Chg.alloc _ _ _
  refine Wl.val (w' := w.alloc (.cells (us.flatMap fun u => u.cells.toList).toArray e)) ?_ (c _ _ ⟨us.flatMap fun u => u.cells.toList, ⟨by rw [flat_len hall, hl], .inr ⟨w.heap.size, us.length, (us.flatMap fun u => u.cells.toList).toArray, by rw [hl], rfl, heap_alloc_new w _, by omega, ?_, by simpa using flat_len hall, ?_⟩⟩, fun i x hx => ?_⟩ hn (by simp) rfl)
  · simp only [execOp, List.map_toArray, hps, Sem.run_bind, hr, Result.andThen_ok, Sem.run_pure]
    rw [hl]
  · have : 0 < sz := by rcases Nat.eq_zero_or_pos sz with h0 | h0; rw [h0] at hsz; simp at hsz; exact h0
    have : us.length * 1 ≤ us.length * sz := Nat.mul_le_mul_left _ this
    unfold maxLen; omega
  · show List.take (xs.length * sz) (us.flatMap fun u => u.cells.toList) = _
    rw [← hl, ← flat_len hall, List.take_length]
  · have h1 := hR.st _ _ _ _ _ hn.keep (h.get hx)
    exact hR.mo _ _ _ _ _ (fun b _ hb => ⟨hb.1, fun e => hb.2 (by simpa [Value.ownBlock] using e)⟩) h1
end
end Go.Proofs.YtlkhajheecglgaaDoor.Wk

namespace Go.Proofs.YtlkhajheecglgaaDoor
open Go Wk

abbrev Nm := List UInt8
def cell4 (n : Nat) : List UInt8 := [UInt8.ofNat (n / 16777216), UInt8.ofNat (n / 65536), UInt8.ofNat (n / 256), UInt8.ofNat n]
def fil (s : List UInt8) : List UInt8 := s ++ List.replicate ((4 - s.length % 4) % 4) 0
def addNm (all : List Nm) (nm : Nm) : List Nm := if all.contains nm then all else all ++ [nm]
def namesP (all : List Nm) (ps : List Pr) : List Nm := ps.foldl (fun a p => addNm a p.1) all
def namesN (all : List Nm) (l : List Nd) : List Nm := l.foldl (fun a x => namesP a x.props) all
def sizeN : List Nm → Nat
  | [] => 0
  | s :: r => s.length + 1 + sizeN r
def placeN : List Nm → Nm → Nat
  | [], _ => 0
  | s :: r, nm => if s = nm then 0 else s.length + 1 + placeN r nm
def strsN (all : List Nm) : List UInt8 := all.flatMap fun s => s ++ [0]
def propB (all : List Nm) (p : Pr) : List UInt8 := cell4 3 ++ (cell4 p.2.length ++ (cell4 (placeN all p.1) ++ fil p.2))
def nodeB (all : List Nm) (nm : Nm) (ps : List Pr) : List UInt8 := cell4 1 ++ (fil (nm ++ [0]) ++ ps.flatMap (propB all))
mutual
def stT (all : List Nm) : T → List UInt8
  | .mk nm ps ks => nodeB all nm ps ++ (stK all ks ++ cell4 2)
def stK (all : List Nm) : List T → List UInt8
  | [] => []
  | t :: ts => stT all t ++ stK all ts
end
/-- The same, as the references go: node by node. -/
def closes (k : Nat) : List UInt8 := (List.replicate k (cell4 2)).flatten
def stepB (all : List Nm) (s : List UInt8 × Nat) (y : Nat × Nd) : List UInt8 × Nat := (s.1 ++ closes (s.2 + 1 - y.1) ++ nodeB all y.2.name y.2.props, y.1)
def depL (l : List Nd) : List Nat := (List.range l.length).map fun i => (anc l i).length
def stL (all : List Nm) (l : List Nd) : List UInt8 := let r := ((depL l).zip l).foldl (stepB all) ([], 0); r.1 ++ closes r.2
def structL (l : List Nd) : List UInt8 := stL (namesN [] l) l ++ cell4 9
def stringsL (l : List Nd) : List UInt8 := strsN (namesN [] l)
def headB (a b n : Nat) : List UInt8 := cell4 0xD00DFEED ++ (cell4 (32 + a + b) ++ (cell4 32 ++ (cell4 a ++ (cell4 (32 + a) ++ (cell4 b ++ (cell4 17 ++ cell4 n))))))
def encL (l : List Nd) : List UInt8 := headB (structL l).length (stringsL l).length l.length ++ (structL l ++ stringsL l)
theorem closes_zero : closes 0 = [] := rfl
theorem closes_succ (k : Nat) : closes (k + 1) = closes k ++ cell4 2 := by
  unfold closes
  rw [List.replicate_succ', List.flatten_append]; simp
theorem closes_add (j k : Nat) : closes (j + k) = closes j ++ closes k := by
  unfold closes
  rw [← List.flatten_append, List.replicate_append_replicate]
mutual
def dpT : T → Nat → List Nat
  | .mk _ _ ks, d => d :: dpK ks (d + 1)
def dpK : List T → Nat → List Nat
  | [], _ => []
  | t :: ts, d => dpT t d ++ dpK ts d
end
mutual
theorem dpT_length : ∀ (τ : T) (d : Nat), (dpT τ d).length = szT τ
  | .mk _ _ ks, d => by simp only [dpT, szT, List.length_cons, dpK_length ks (d + 1)]; omega
theorem dpK_length : ∀ (ks : List T) (d : Nat), (dpK ks d).length = szK ks
  | [], _ => rfl
  | t :: ts, d => by simp only [dpK, szK, List.length_append, dpT_length t d, dpK_length ts d]
end
mutual
theorem fold_T (all : List Nm) : ∀ (τ : T) (d : Nat) (up : Int) (b : Nat) (s : List UInt8 × Nat), d ≤ s.2 + 1 →
    d ≤ (((dpT τ d).zip (flT τ up b)).foldl (stepB all) s).2 ∧ (((dpT τ d).zip (flT τ up b)).foldl (stepB all) s).1 ++ closes ((((dpT τ d).zip (flT τ up b)).foldl (stepB all) s).2 + 1 - d) = s.1 ++ closes (s.2 + 1 - d) ++ stT all τ
  | .mk nm ps ks, d, up, b, s, hd => by
    simp only [dpT, flT, List.zip_cons_cons, List.foldl_cons, stT]
    have h := fold_K all ks (d + 1) b (b + 1) (stepB all s (d, ⟨up, nm, ps⟩)) (by simp [stepB])
    generalize ((dpK ks (d + 1)).zip (flK ks b (b + 1))).foldl (stepB all) (stepB all s (d, ⟨up, nm, ps⟩)) = r at *
    obtain ⟨h1, h2⟩ := h
    simp only [stepB, Nat.add_sub_cancel] at h2
    have e : d + 1 - (d + 1) = 0 := by omega
    rw [e, closes_zero, List.append_nil] at h2
    refine ⟨by omega, ?_⟩
    have e2 : r.2 + 1 - d = (r.2 + 1 - (d + 1)) + 1 := by omega
    rw [e2, closes_succ, ← List.append_assoc, h2]
    simp only [List.append_assoc]
theorem fold_K (all : List Nm) : ∀ (ks : List T) (d : Nat) (u b : Nat) (s : List UInt8 × Nat), d ≤ s.2 + 1 →
    d ≤ (((dpK ks d).zip (flK ks u b)).foldl (stepB all) s).2 + 1 ∧ (((dpK ks d).zip (flK ks u b)).foldl (stepB all) s).1 ++ closes ((((dpK ks d).zip (flK ks u b)).foldl (stepB all) s).2 + 1 - d) = s.1 ++ closes (s.2 + 1 - d) ++ stK all ks
  | [], d, u, b, s, hd => by simp [dpK, flK, stK, hd]
  | t :: ts, d, u, b, s, hd => by
    simp only [dpK, flK, stK]
    rw [List.zip_append (by rw [dpT_length, flT_length]), List.foldl_append]
    have h1 := fold_T all t d (u : Int) b s hd
    generalize ((dpT t d).zip (flT t (u : Int) b)).foldl (stepB all) s = r at *
    have h2 := fold_K all ts d u (b + szT t) r (by omega)
    refine ⟨h2.1, ?_⟩
    rw [h2.2, h1.2, List.append_assoc, List.append_assoc]
end
/-- Depths of a tree's nodes. -/
theorem anc_par {l : List Nd} {n i p : Nat} {x : Nd} (h : Down l n) (hi : i < n) (hx : l[i]? = some x) (hp : x.parent = (p : Int)) : (anc l i).length = (anc l p).length + 1 := by
  rw [anc_step h hi hx, if_neg (by omega), hp]
  simp
mutual
theorem dep_T {l : List Nd} (hD : Down l l.length) : ∀ (τ : T) (up b d : Nat) (rest : List Nd), l.drop b = flT τ (up : Int) b ++ rest → (anc l up).length + 1 = d → ∀ i, i < szT τ → (dpT τ d)[i]? = some (anc l (b + i)).length
  | .mk nm ps ks, up, b, d, rest, h, hd, i, hi => by
    have hx : l[b]? = some ⟨(up : Int), nm, ps⟩ := by
      have := congrArg (fun q => q[0]?) h
      simpa [flT] using this
    have hb : b < l.length := (List.getElem?_eq_some_iff.1 hx).1
    have h0 := anc_par hD hb hx rfl
    cases i with
    | zero => simp only [dpT, List.getElem?_cons_zero, Nat.add_zero]; rw [h0, hd]
    | succ i =>
      simp only [dpT, List.getElem?_cons_succ]
      have h2 : l.drop (b + 1) = flK ks b (b + 1) ++ rest := by
        have := congrArg (List.drop 1) h
        simpa [flT] using this
      have := dep_K hD ks b (b + 1) (d + 1) rest h2 (by omega) i (by simp only [szT] at hi; omega)
      rw [this]
      congr 3; omega
theorem dep_K {l : List Nd} (hD : Down l l.length) : ∀ (ks : List T) (u b d : Nat) (rest : List Nd), l.drop b = flK ks u b ++ rest → (anc l u).length + 1 = d → ∀ i, i < szK ks → (dpK ks d)[i]? = some (anc l (b + i)).length
  | [], _, _, _, _, _, _, i, hi => by simp [szK] at hi
  | t :: ts, u, b, d, rest, h, hd, i, hi => by
    simp only [dpK]
    simp only [flK, List.append_assoc] at h
    by_cases hlt : i < szT t
    · rw [List.getElem?_append_left (by rw [dpT_length]; exact hlt)]
      exact dep_T hD t u b d _ h hd i hlt
    · rw [List.getElem?_append_right (by rw [dpT_length]; omega), dpT_length]
      have h2 : l.drop (b + szT t) = flK ts u (b + szT t) ++ rest := by
        have := congrArg (List.drop (szT t)) h
        rw [List.drop_drop, ← flT_length t (u : Int) b, List.drop_left] at this
        rwa [flT_length] at this
      have := dep_K hD ts u (b + szT t) d rest h2 hd (i - szT t) (by simp only [szK] at hi; omega)
      rw [this]
      congr 3; omega
end
theorem depL_T {τ : T} (hD : Down (flT τ (-1) 0) (szT τ)) : depL (flT τ (-1) 0) = dpT τ 1 := by
  have hD' : Down (flT τ (-1) 0) (flT τ (-1) 0).length := by rw [flT_length]; exact hD
  apply List.ext_getElem?
  intro i
  unfold depL
  rw [flT_length]
  by_cases hi : i < szT τ
  · rw [List.getElem?_map, List.getElem?_range hi]
    cases τ with
    | mk nm ps ks =>
      have hx : (flT (.mk nm ps ks) (-1) 0)[0]? = some ⟨-1, nm, ps⟩ := rfl
      have h0 : (anc (flT (.mk nm ps ks) (-1) 0) 0).length = 1 := by
        rw [anc_step hD (szT_pos _) hx]; simp
      cases i with
      | zero => simp only [dpT, Option.map_some, h0]; rfl
      | succ i =>
        have := dep_K hD' ks 0 1 2 [] (by simp [flT]) (by omega) i (by simp only [szT] at hi; omega)
        simp only [dpT, List.getElem?_cons_succ, Option.map_some, this]
        congr 3; omega
  · rw [List.getElem?_eq_none (by simp; omega), List.getElem?_eq_none (by rw [dpT_length]; omega)]
theorem stL_T {all : List Nm} {τ : T} (hD : Down (flT τ (-1) 0) (szT τ)) : stL all (flT τ (-1) 0) = stT all τ := by
  unfold stL
  rw [depL_T hD]
  have h := fold_T all τ 1 (-1) 0 ([], 0) (by simp)
  dsimp only
  generalize ((dpT τ 1).zip (flT τ (-1) 0)).foldl (stepB all) ([], 0) = r at *
  have e : closes (0 + 1 - 1) = [] := rfl
  rw [e] at h
  simpa using h.2
end Go.Proofs.YtlkhajheecglgaaDoor

namespace Go.Proofs.YtlkhajheecglgaaDoor
open Go Wk

def num4 : List UInt8 → Nat
  | [a, b, c, d] => a.toNat * 16777216 + b.toNat * 65536 + c.toNat * 256 + d.toNat
  | _ => 0
theorem cell4_length (n : Nat) : (cell4 n).length = 4 := rfl
theorem num4_cell {n : Nat} (h : n < 4294967296) : num4 (cell4 n) = n := by
  simp only [cell4, num4, UInt8.toNat_ofNat']
  omega
theorem cell4_num {x : List UInt8} (h : x.length = 4) : cell4 (num4 x) = x := by
  match x, h with
  | [a, b, c, d], _ =>
    have ha := a.toNat_lt; have hb := b.toNat_lt; have hc := c.toNat_lt; have hd := d.toNat_lt
    simp only [num4, cell4, List.cons.injEq, and_true]
    refine ⟨?_, ?_, ?_, ?_⟩
    all_goals
      apply UInt8.toNat_inj.1
      rw [UInt8.toNat_ofNat']
      omega
theorem num4_lt {x : List UInt8} (h : x.length = 4) : num4 x < 4294967296 := by
  match x, h with
  | [a, b, c, d], _ =>
    have ha := a.toNat_lt; have hb := b.toNat_lt; have hc := c.toNat_lt; have hd := d.toNat_lt
    simp only [num4]; omega
def up4 (n : Nat) : Nat := (n + 3) / 4 * 4
theorem fil_length (s : List UInt8) : (fil s).length = up4 s.length := by
  unfold fil up4
  simp only [List.length_append, List.length_replicate]
  omega
theorem fil_take (s : List UInt8) : (fil s).take s.length = s := by unfold fil; rw [List.take_left]
theorem fil_drop (s : List UInt8) : ((fil s).drop s.length).all (fun c => c == 0) = true := by
  unfold fil; rw [List.drop_left]
  simp
theorem fil_of {x : List UInt8} {n : Nat} (hl : x.length = up4 n) (hz : (x.drop n).all (fun c => c == 0) = true) : x = fil (x.take n) := by
  have hn : n ≤ x.length := by rw [hl]; unfold up4; omega
  unfold fil
  rw [List.length_take, Nat.min_eq_left hn]
  conv => lhs; rw [← List.take_append_drop n x]
  congr 1
  apply List.ext_getElem
  · simp only [List.length_drop, List.length_replicate, hl]; unfold up4; omega
  · intro i h1 h2
    rw [List.getElem_replicate]
    have := List.all_eq_true.1 hz _ (List.getElem_mem h1)
    simpa using this
/-! What is taken from the front. -/
def cellM (most : Nat) (s : List UInt8) : Option (Nat × List UInt8) := if 4 ≤ s.length ∧ num4 (s.take 4) ≤ most then some (num4 (s.take 4), s.drop 4) else none
def filM (n : Nat) (s : List UInt8) : Option (List UInt8 × List UInt8) := if up4 n ≤ s.length ∧ ((s.take (up4 n)).drop n).all (fun c => c == 0) = true then some (s.take n, s.drop (up4 n)) else none
def idx0 (s : List UInt8) : Option Nat := s.findIdx? fun c => c == 0
theorem cellM_sound {most n : Nat} {s s' : List UInt8} (h : cellM most s = some (n, s')) : s = cell4 n ++ s' ∧ n ≤ most ∧ n < 4294967296 := by
  unfold cellM at h
  split at h
  · rename_i hc
    cases h
    have hl : (s.take 4).length = 4 := by simp; omega
    rw [cell4_num hl, List.take_append_drop]
    exact ⟨rfl, hc.2, num4_lt hl⟩
  · cases h
theorem cellM_cell {most n : Nat} {s : List UInt8} (h : n ≤ most) (hn : n < 4294967296) : cellM most (cell4 n ++ s) = some (n, s) := by
  unfold cellM
  have e : (cell4 n ++ s).take 4 = cell4 n := List.take_left' rfl
  rw [e, num4_cell hn, if_pos ⟨by simp [cell4_length], h⟩]
  rfl
theorem filM_sound {n : Nat} {s x s' : List UInt8} (h : filM n s = some (x, s')) : s = fil x ++ s' ∧ x.length = n := by
  unfold filM at h
  split at h
  · rename_i hc
    cases h
    have hn : n ≤ up4 n := by unfold up4; omega
    have e := fil_of (x := s.take (up4 n)) (n := n) (by simp; omega) hc.2
    rw [List.take_take, Nat.min_eq_left hn] at e
    refine ⟨?_, by simp; omega⟩
    rw [← e, List.take_append_drop]
  · cases h
theorem filM_fil {x s : List UInt8} : filM x.length (fil x ++ s) = some (x, s) := by
  unfold filM
  have hl := fil_length x
  have hn : x.length ≤ up4 x.length := by unfold up4; omega
  have e : (fil x ++ s).take (up4 x.length) = fil x := List.take_left' hl
  rw [e, if_pos ⟨by simp; omega, fil_drop x⟩]
  refine congrArg some (Prod.ext ?_ (List.drop_left' hl))
  dsimp only
  rw [List.take_append_of_le_length (by omega), fil_take]
theorem idx0_some {s : List UInt8} {k : Nat} (h : idx0 s = some k) : k < s.length ∧ (0 : UInt8) ∉ s.take k ∧ s = s.take k ++ 0 :: s.drop (k + 1) := by
  unfold idx0 at h
  rw [List.findIdx?_eq_some_iff_getElem] at h
  obtain ⟨h1, h2, h3⟩ := h
  have h2' : s[k] = 0 := by simpa using h2
  refine ⟨h1, fun hm => ?_, ?_⟩
  · obtain ⟨j, hj, e⟩ := List.getElem_of_mem hm
    rw [List.length_take] at hj
    rw [List.getElem_take] at e
    have := h3 j (by omega)
    rw [e] at this
    simp at this
  · rw [← h2', List.getElem_cons_drop, List.take_append_drop]
theorem idx0_app {x s : List UInt8} (h : (0 : UInt8) ∉ x) : idx0 (x ++ 0 :: s) = some x.length := by
  unfold idx0
  rw [List.findIdx?_append, List.findIdx?_eq_none_iff.2 fun c hc => by simpa using fun e : c = 0 => h (e ▸ hc)]
  simp [List.findIdx?_cons]
/-! Names and places. -/
theorem addNm_mem (all : List Nm) (x : Nm) : x ∈ addNm all x := by
  unfold addNm; split
  · simpa using ‹all.contains x = true›
  · simp
theorem addNm_pre (all : List Nm) (x : Nm) : ∃ e, addNm all x = all ++ e := by
  unfold addNm; split
  · exact ⟨[], by simp⟩
  · exact ⟨[x], rfl⟩
theorem placeN_none {all : List Nm} {x : Nm} (h : x ∉ all) : placeN all x = sizeN all := by
  induction all with
  | nil => rfl
  | cons s r ih =>
    simp only [List.mem_cons, not_or] at h
    simp only [placeN, sizeN, if_neg (Ne.symm h.1), ih h.2]
theorem placeN_app {all e : List Nm} {x : Nm} (h : x ∈ all) : placeN (all ++ e) x = placeN all x := by
  induction all with
  | nil => simp at h
  | cons s r ih =>
    simp only [List.cons_append, placeN]
    by_cases hs : s = x
    · rw [if_pos hs, if_pos hs]
    · rw [if_neg hs, if_neg hs, ih (by rcases List.mem_cons.1 h with h | h; exact absurd h.symm hs; exact h)]
theorem placeN_add {all : List Nm} {x : Nm} : placeN (addNm all x) x = placeN all x := by
  unfold addNm
  split
  · rfl
  · rename_i hc
    have hx : x ∉ all := by simpa using hc
    rw [placeN_none hx]
    clear hc
    induction all with
    | nil => simp [placeN, sizeN]
    | cons s r ih =>
      simp only [List.mem_cons, not_or] at hx
      simp only [List.cons_append, placeN, sizeN, if_neg (Ne.symm hx.1), ih hx.2]
/-- In a list that goes on, a name has the place that it had. -/
theorem placeN_pre {tb all e : List Nm} {x : Nm} (h : all = addNm tb x ++ e) : placeN all x = placeN tb x := by
  rw [h, placeN_app (addNm_mem tb x), placeN_add]
theorem sizeN_app (a b : List Nm) : sizeN (a ++ b) = sizeN a + sizeN b := by
  induction a with
  | nil => simp [sizeN]
  | cons s r ih => simp only [List.cons_append, sizeN, ih]; omega
theorem strsN_app (a b : List Nm) : strsN (a ++ b) = strsN a ++ strsN b := by simp [strsN]
theorem strsN_length (a : List Nm) : (strsN a).length = sizeN a := by
  induction a with
  | nil => rfl
  | cons s r ih =>
    have : strsN (s :: r) = s ++ [0] ++ strsN r := by simp [strsN]
    rw [this]; simp only [List.length_append, ih, sizeN, List.length_singleton]
/-- A name at its place. -/
theorem strsN_at {all : List Nm} {x : Nm} (h : x ∈ all) : ∃ r, (strsN all).drop (placeN all x) = x ++ 0 :: r := by
  induction all with
  | nil => simp at h
  | cons s r ih =>
    have e : strsN (s :: r) = s ++ 0 :: strsN r := by simp [strsN]
    simp only [placeN]
    by_cases hs : s = x
    · rw [if_pos hs, e, hs]; exact ⟨_, rfl⟩
    · rw [if_neg hs, e]
      obtain ⟨q, hq⟩ := ih (by rcases List.mem_cons.1 h with h | h; exact absurd h.symm hs; exact h)
      refine ⟨q, ?_⟩
      have e2 : s ++ 0 :: strsN r = (s ++ [0]) ++ strsN r := by simp
      have e3 : s.length + 1 = (s ++ [(0 : UInt8)]).length := by simp
      rw [e2, e3, ← List.drop_drop, List.drop_left, hq]
theorem namesP_pre (ps : List Pr) : ∀ all, ∃ e, namesP all ps = all ++ e := by
  induction ps with
  | nil => exact fun all => ⟨[], by simp [namesP]⟩
  | cons p r ih =>
    intro all
    obtain ⟨e1, h1⟩ := addNm_pre all p.1
    obtain ⟨e2, h2⟩ := ih (addNm all p.1)
    exact ⟨e1 ++ e2, by simp only [namesP, List.foldl_cons] at h2 ⊢; rw [h2, h1, List.append_assoc]⟩
theorem namesN_pre (l : List Nd) : ∀ all, ∃ e, namesN all l = all ++ e := by
  induction l with
  | nil => exact fun all => ⟨[], by simp [namesN]⟩
  | cons x r ih =>
    intro all
    obtain ⟨e1, h1⟩ := namesP_pre x.props all
    obtain ⟨e2, h2⟩ := ih (namesP all x.props)
    exact ⟨e1 ++ e2, by simp only [namesN, List.foldl_cons] at h2 ⊢; rw [h2, h1, List.append_assoc]⟩
theorem namesN_app (a b : List Nd) (all : List Nm) : namesN all (a ++ b) = namesN (namesN all a) b := by simp [namesN]
theorem namesP_app (a b : List Pr) (all : List Nm) : namesP all (a ++ b) = namesP (namesP all a) b := by simp [namesP]
theorem namesN_cons (x : Nd) (b : List Nd) (all : List Nm) : namesN all (x :: b) = namesN (namesP all x.props) b := rfl
end Go.Proofs.YtlkhajheecglgaaDoor

namespace Go.Proofs.YtlkhajheecglgaaDoor
open Go Wk
open Go.RowKit (Below)
attribute [local irreducible] Go.Calls

abbrev No8 : Nat → Prop := fun _ => False
abbrev Bs (Pb : Nat → Prop) (w : World) (v : Value) (l : List UInt8) : Prop := OwnS (one by8) 5 1 Pb No8 w v l
/-- Bytes grown. -/
structure Gw (Pb : Nat → Prop) (w : World) (v : Value) (w' : World) (v' : Value) (l : List UInt8) : Prop where
  own : Bs (fun b => Pb b ∨ w.heap.size ≤ b) w' v' l
  chg : Chg (fun b => v.ownBlock = some b) w w'
  lie : v'.ownBlock = v.ownBlock ∨ ∀ b, v'.ownBlock = some b → w.heap.size ≤ b
theorem mono8 : Mono (one by8) := mono_one _
theorem Gw.refl {Pb : Nat → Prop} {w : World} {v : Value} {l : List UInt8} (h : Bs Pb w v l) : Gw Pb w v w v l := ⟨h.mono mono8 (fun _ _ h => .inl h) (fun _ _ h => h), Chg.refl _ _, .inl rfl⟩
theorem Gw.trans {Pb : Nat → Prop} {w w1 w2 : World} {v v1 v2 : Value} {l1 l2 : List UInt8} (h : Gw Pb w v w1 v1 l1) (h' : Gw (fun b => Pb b ∨ w.heap.size ≤ b) w1 v1 w2 v2 l2) : Gw Pb w v w2 v2 l2 := by
  have s := h.chg.size
  refine ⟨h'.own.mono mono8 (fun b _ hb => ?_) (fun _ _ h => h), h.chg.trans h'.chg fun k hk e => ?_, ?_⟩
  · rcases hb with hb | hb
    · exact hb
    · right; omega
  · rcases h.lie with hl | hl
    · rw [← hl]; exact e
    · have := hl k e; omega
  · rcases h'.lie with hl' | hl'
    · rcases h.lie with hl | hl
      · left; rw [hl', hl]
      · right; intro b hb; exact hl b (hl' ▸ hb)
    · right; intro b hb; have := hl' b hb; omega
theorem Gw.new {Pb : Nat → Prop} {w w1 w2 : World} {v v2 : Value} {l2 : List UInt8} (h : New w w1) (h' : Gw Pb w1 v w2 v2 l2) : Gw Pb w v w2 v2 l2 := by
  have s := h.size
  exact ⟨h'.own.mono mono8 (fun b _ hb => hb.imp id fun hb => by omega) (fun _ _ h => h), h.any.trans h'.chg fun _ _ e => e, h'.lie.imp id fun hl b hb => by have := hl b hb; omega⟩
theorem cell_bytes (n : Nat) : [(0, Value.int .u8 (IntKind.u8.wrap ((n : Int).fdiv (2 ^ (min (24 : Int).toNat IntKind.i64.bits))))), (1, Value.int .u8 (IntKind.u8.wrap ((n : Int).fdiv (2 ^ (min (16 : Int).toNat IntKind.i64.bits))))), (2, Value.int .u8 (IntKind.u8.wrap ((n : Int).fdiv (2 ^ (min (8 : Int).toNat IntKind.i64.bits))))), (3, Value.int .u8 (IntKind.u8.wrap (n : Int)))] = numb 0 ((cell4 n).map by8) := by
  have h : ∀ k : Nat, IntKind.u8.wrap (k : Int) = ((UInt8.ofNat k).toNat : Int) := fun k => by rw [UInt8.toNat_ofNat', IntKind.wrap_u8]; omega
  have e : ∀ k : Nat, k ≤ 64 → (n : Int).fdiv (2 ^ (min (k : Int).toNat IntKind.i64.bits)) = ((n / 2 ^ k : Nat) : Int) := fun k hk => by
    have : min (k : Int).toNat IntKind.i64.bits = k := by simp [IntKind.bits]; omega
    rw [this, Int.fdiv_eq_ediv_of_nonneg _ (Int.le_of_lt (Int.pow_pos (by omega)))]
    simp
  have e24 : (n : Int).fdiv (2 ^ (min (24 : Int).toNat IntKind.i64.bits)) = _ := e 24 (by omega)
  have e16 : (n : Int).fdiv (2 ^ (min (16 : Int).toNat IntKind.i64.bits)) = _ := e 16 (by omega)
  have e8 : (n : Int).fdiv (2 ^ (min (8 : Int).toNat IntKind.i64.bits)) = _ := e 8 (by omega)
  rw [e24, e16, e8, h, h, h, h]
  rfl
theorem cell_spec {Pb : Nat → Prop} {w : World} {v : Value} {l : List UInt8} {n : Nat} (h : Bs Pb w v l) (hl : l.length ≤ 100000000000) :
    Calls Tryd.prog 29 #[v, vi n] w (Ret fun v' w' => Gw Pb w v w' v' (l ++ cell4 n)) := by
  refine calls_of_Wc Tryd.func29 rfl Tryd.ntmps29 rfl ?_
  (repeat' (first | refine Wl.moveE (by conv => { lhs; whnf }) ?_ | refine Wl.assignE (by conv => { lhs; whnf }) ?_ | refine Wl.nil ?_ | refine Qseq.normal ?_ | refine Wc.seq ?_ | refine Wc.region ?_))
  refine Wl.shrW rfl rfl (by omega) ?_
  (repeat' (first | refine Wl.moveE (by conv => { lhs; whnf }) ?_ | refine Wl.convI rfl ?_))
  refine Wl.shrW rfl rfl (by omega) ?_
  (repeat' (first | refine Wl.moveE (by conv => { lhs; whnf }) ?_ | refine Wl.convI rfl ?_))
  refine Wl.shrW rfl rfl (by omega) ?_
  (repeat' (first | refine Wl.moveE (by conv => { lhs; whnf }) ?_ | refine Wl.convI rfl ?_))
  refine Wl.buildSliceN (R := one by8) (N := 4) (ps := [(0, .tmp 8), (1, .tmp 11), (2, .tmp 14), (3, .tmp 16)]) (xs := cell4 n) (us := (cell4 n).map by8) (Pe := No8) goodR8 rfl (cell_bytes n) ⟨rfl, rfl, rfl, rfl, rfl, rfl, rfl, rfl, trivial⟩ (by simp [cell4]) (by simp [cell4]) fun v1 w1 o1 n1 s1 ob1 => ?_
  refine Wl.appendAll (xs := l) (ys := cell4 n) goodR8 (h.keep (stable_one _) n1.keep n1.keep) (o1.rd mono8) (fun _ _ h => h) rfl rfl (by omega) (by simp only [maxLen, cell4_length]; omega) (by simp only [cell4_length]; omega) fun v2 w2 o2 c2 lie _ => ?_
  (repeat' (first | refine Wl.assignE (by conv => { lhs; whnf }) ?_ | refine Wl.nil ?_ | refine Qseq.normal ?_ | refine Wc.ret ?_))
  exact Qfn.ret1 rfl rfl ⟨_, rfl, Gw.new n1 ⟨o2, c2, lie⟩⟩
theorem pad_step (n k : Nat) (h : k ≤ (4 - n % 4) % 4) : ((n + k : Nat) : Int).tmod 4 = 0 ↔ k = (4 - n % 4) % 4 := by
  rw [show ((n + k : Nat) : Int).tmod 4 = (((n + k) % 4 : Nat) : Int) from rfl]
  omega
theorem filled_spec {Pb : Nat → Prop} {w : World} {v : Value} {l s : List UInt8} (h : Bs Pb w v l) (hl : l.length ≤ 100000000000) (hs : s.length ≤ 100000000000) :
    Calls Tryd.prog 44 #[v, vs s] w (Ret fun v' w' => Gw Pb w v w' v' (l ++ fil s)) := by
  refine calls_of_Wc Tryd.func44 rfl Tryd.ntmps44 rfl ?_
  (repeat' (first | refine Wl.moveE (by conv => { lhs; whnf }) ?_ | refine Wl.assignE (by conv => { lhs; whnf }) ?_ | refine Wl.nil ?_ | refine Qseq.normal ?_ | refine Wc.seq ?_ | refine Wc.region ?_))
  refine Wl.appendStr h rfl rfl (by simp only [maxLen]; omega) (by omega) fun v1 w1 o1 c1 lie1 => ?_
  have g1 : Gw Pb w v w1 v1 (l ++ s) := ⟨o1, c1, lie1⟩
  (repeat' (first | refine Wl.moveE (by conv => { lhs; whnf }) ?_ | refine Wl.assignE (by conv => { lhs; whnf }) ?_ | refine Wl.nil ?_ | refine Wl.lenStr rfl ?_ | refine Qseq.normal ?_ | refine Wc.seq ?_ | refine Wc.region ?_ | refine Wc.block ?_))
  refine Wc.loop (σ := Nat × Value) (fun x => [(0, x.2), (5, vi (s.length + x.1 : Nat))]) (fun x w' => x.1 ≤ (4 - s.length % 4) % 4 ∧ Gw Pb w v w' x.2 (l ++ s ++ List.replicate x.1 0)) (fun x => 4 - x.1) (0, v1) ⟨rfl, rfl, trivial⟩ ⟨Nat.zero_le _, by simpa using g1⟩ ?_
  rintro ⟨k, v2⟩ G w2 ⟨hk, g2⟩
  dsimp only at hk g2 ⊢
  simp only [upds]
  have hp := pad_step s.length k hk
  (repeat' (first | refine Wl.moveE (by conv => { lhs; whnf }) ?_ | refine Wc.seq ?_ | refine Wc.region ?_))
  refine Wl.remW rfl rfl (by omega) ?_
  refine Wl.neq rfl rfl (fun hne => ?_) (fun he => ?_)
  · have hk2 : k < (4 - s.length % 4) % 4 := by have : ¬ k = _ := fun e => hne (hp.2 e); omega
    (repeat' (first | refine Wl.moveE (by conv => { lhs; whnf }) ?_ | refine Wl.nil ?_ | refine Qseq.normal ?_ | refine Wc.seq ?_ | refine Wc.region ?_ | refine Wc.block ?_ | refine Wc.skip ?_ | refine Wc.condT rfl ?_))
    refine Wl.append1 (y := 0) goodR8 g2.own rfl rfl rfl rfl rfl (by omega) (by omega) (by simp only [maxLen, List.length_append, List.length_replicate]; omega) (by simp only [List.length_append, List.length_replicate]; omega) rfl rfl fun v3 w3 p o3 c3 lie3 => ?_
    (repeat' (first | refine Wl.moveE (by conv => { lhs; whnf }) ?_ | refine Wl.assignE (by conv => { lhs; whnf }) ?_ | refine Wl.nil ?_ | refine Qseq.normal ?_ | refine Wc.region ?_ | refine Qblk.normal ?_ | refine Wl.add rfl rfl (by omega) (by omega) ?_))
    refine Qloop.normal (k + 1, v3) ⟨rfl, ?_, trivial⟩ ⟨by simp only; omega, ?_⟩ (by simp only; omega)
    · show vi _ = vi _
      congr 1
    · rw [List.replicate_succ', ← List.append_assoc]
      exact g2.trans ⟨o3, c3, lie3⟩
  · have hk2 := hp.1 he
    (repeat' (first | refine Wl.moveE (by conv => { lhs; whnf }) ?_ | refine Wl.assignE (by conv => { lhs; whnf }) ?_ | refine Wl.nil ?_ | refine Qseq.normal ?_ | refine Wc.seq ?_ | refine Wc.region ?_ | refine Wc.exit ?_ | refine Wc.ret ?_ | refine Qseq.exit ?_ | refine Qblk.hit ?_ | refine Qloop.exit ?_ | refine Wc.condF rfl ?_))
    refine Qfn.ret1 rfl rfl ⟨_, rfl, ?_⟩
    unfold fil
    rw [← hk2, ← List.append_assoc]
    exact g2
end Go.Proofs.YtlkhajheecglgaaDoor

namespace Go.Proofs.YtlkhajheecglgaaDoor
open Go Wk
open Go.RowKit (Below)
attribute [local irreducible] Go.Calls

abbrev tTbl : TypeId := 63
def tbL (all : List Nm) : List (Value × Value) := all.map fun s => (vs s, vi (placeN all s))
theorem goodVs : GoodR (one vs) 1 := good_one _ fun _ => rfl
structure TbA (M : Nat → Prop) (w : World) (b m : Nat) (sl : Value) (all : List Nm) : Prop where
  bk : Bk w b tTbl [sl, .map (some m), vi (sizeN all)]
  mp : MapL Tryd.prog 9 w m (tbL all)
  own : OwnS (one vs) 9 1 (fun k => M k ∧ k ≠ b ∧ k ≠ m) No8 w sl all
  nd : all.Nodup
  hb : M b
  hm : M m
  bm : b ≠ m
def Tb (M : Nat → Prop) (w : World) (p : Value) (all : List Nm) : Prop := ∃ b m sl, p = .pointer (some ⟨b, 0, none⟩) ∧ TbA M w b m sl all
theorem OwnS.blk1 {α : Type} {R : Rel α} {e : TypeId} {sz : Nat} {Pb Pe : Nat → Prop} {w : World} {v : Value} {xs : List α} (h : OwnS R e sz Pb Pe w v xs) : v.oneCell' = true := by
  obtain ⟨a, cap, rfl, _, _⟩ := h.form; rfl
theorem Tb.chg {M K : Nat → Prop} {w w' : World} {p : Value} {all : List Nm} (h : Tb M w p all) (c : Chg K w w') (d : ∀ k, k < w.heap.size → M k → ¬ K k) : Tb M w' p all := by
  obtain ⟨b, m, sl, rfl, h⟩ := h
  exact ⟨b, m, sl, rfl, h.bk.chg c (d _ h.bk.lt h.hb), h.mp.chg c (d _ h.mp.lt h.hm), h.own.chg (plain_one _) c fun k hk => d k (h.own.lt hk).2 (h.own.lt hk).1.1, h.nd, h.hb, h.hm, h.bm⟩
theorem Tb.mono {M M' : Nat → Prop} {w : World} {p : Value} {all : List Nm} (h : Tb M w p all) (d : ∀ k, k < w.heap.size → M k → M' k) : Tb M' w p all := by
  obtain ⟨b, m, sl, rfl, h⟩ := h
  exact ⟨b, m, sl, rfl, h.bk, h.mp, h.own.mono (mono_one _) (fun k hk hM => ⟨d k hk hM.1, hM.2⟩) (fun _ _ h => h), h.nd, d _ h.bk.lt h.hb, d _ h.mp.lt h.hm, h.bm⟩
theorem strKeyed : Maps.Keyed Tryd.prog 9 := by
  exact Maps.Keyed.of_law (WideMaps.string_law Tryd.underlying9)
theorem tbL_mem {all : List Nm} {nm : Nm} {r : Value} (h : (vs nm, r) ∈ tbL all) : nm ∈ all ∧ r = vi (placeN all nm) := by
  obtain ⟨s, hs, e⟩ := List.mem_map.1 h
  simp only [Prod.mk.injEq] at e
  obtain rfl := vs_inj e.1
  exact ⟨hs, e.2.symm⟩
theorem tbL_no {all : List Nm} {nm : Nm} (h : ∀ p ∈ tbL all, p.1 ≠ vs nm) : nm ∉ all := fun hm => h (vs nm, vi (placeN all nm)) (List.mem_map.2 ⟨nm, hm, rfl⟩) rfl
theorem tbL_snoc {all : List Nm} {nm : Nm} (h : nm ∉ all) : tbL (all ++ [nm]) = tbL all ++ [(vs nm, vi (sizeN all))] := by
  unfold tbL
  rw [List.map_append]
  congr 1
  · refine List.map_congr_left fun s hs => ?_
    rw [placeN_app hs]
  · simp only [List.map_cons, List.map_nil]
    have := placeN_add (all := all) (x := nm)
    unfold addNm at this
    rw [if_neg (by simpa using h), placeN_none h] at this
    rw [this]
theorem addNm_in {all : List Nm} {nm : Nm} (h : nm ∈ all) : addNm all nm = all := by unfold addNm; rw [if_pos (by simpa using h)]
theorem addNm_out {all : List Nm} {nm : Nm} (h : nm ∉ all) : addNm all nm = all ++ [nm] := by unfold addNm; rw [if_neg (by simpa using h)]
theorem sizeN_snoc {all : List Nm} {nm : Nm} : sizeN (all ++ [nm]) = sizeN all + (nm.length + 1) := by rw [sizeN_app]; rfl
set_option maxRecDepth 4000 in
theorem put_spec {M : Nat → Prop} {w : World} {p : Value} {all : List Nm} {nm : Nm} (h : Tb M w p all) (hn : nm.length ≤ 100000000000) (ha : all.length ≤ 100000000000) (hz : sizeN all ≤ 100000000000) :
    Calls Tryd.prog 42 #[p, vs nm] w (Ret fun r w' => r = vi (placeN all nm) ∧ Tb (fun b => M b ∨ w.heap.size ≤ b) w' p (addNm all nm) ∧ Chg M w w') := by
  obtain ⟨b, m, sl, rfl, h⟩ := h
  obtain ⟨q, hq⟩ := keyStr nm (by simp only [maxLen]; omega)
  refine calls_of_Wc Tryd.func42 rfl Tryd.ntmps42 rfl ?_
  (repeat' (first | refine Wl.moveE (by conv => { lhs; whnf }) ?_ | refine Wl.assignE (by conv => { lhs; whnf }) ?_ | refine Wl.nil ?_ | refine Qseq.normal ?_ | refine Wc.seq ?_ | refine Wc.region ?_ | refine Wl.nilP rfl ?_ | refine Wl.fieldAddr rfl rfl ?_))
  refine Wl.load1 rfl (h.bk.cell (o := 1) rfl) ?_
  (repeat' (refine Wl.moveE (by conv => { lhs; whnf }) ?_))
  refine Wl.lookupOk strKeyed h.mp hq rfl rfl (fun r hr => ?_) (fun hr => ?_)
  · obtain ⟨hin, rfl⟩ := tbL_mem hr
    (repeat' (first | refine Wl.moveE (by conv => { lhs; whnf }) ?_ | refine Wl.assignE (by conv => { lhs; whnf }) ?_ | refine Wl.nil ?_ | refine Wl.extract rfl rfl ?_ | refine Wl.notB rfl ?_ | refine Qseq.normal ?_ | refine Wc.seq ?_ | refine Wc.region ?_ | refine Wc.skip ?_ | refine Wc.ret ?_ | refine Wc.condF rfl ?_))
    refine Qfn.ret1 rfl rfl ⟨_, rfl, rfl, ?_, Chg.refl _ _⟩
    rw [addNm_in hin]
    exact Tb.mono ⟨b, m, sl, rfl, h⟩ fun _ _ h => .inl h
  · have hno := tbL_no hr
    (repeat' (first | refine Wl.moveE (by conv => { lhs; whnf }) ?_ | refine Wl.assignE (by conv => { lhs; whnf }) ?_ | refine Wl.nil ?_ | refine Wl.extract rfl rfl ?_ | refine Wl.notB rfl ?_ | refine Qseq.normal ?_ | refine Wc.seq ?_ | refine Wc.region ?_ | refine Wc.condT rfl ?_ | refine Wl.nilP rfl ?_ | refine Wl.fieldAddr rfl rfl ?_))
    refine Wl.load1 rfl (h.bk.cell (o := 2) rfl) ?_
    (repeat' (first | refine Wl.moveE (by conv => { lhs; whnf }) ?_ | refine Wl.assignE (by conv => { lhs; whnf }) ?_ | refine Wl.nil ?_ | refine Qseq.normal ?_ | refine Wc.seq ?_ | refine Wc.region ?_ | refine Wl.nilP rfl ?_ | refine Wl.fieldAddr rfl rfl ?_))
    refine Wl.load1 rfl (h.bk.cell (o := 1) rfl) ?_
    (repeat' (refine Wl.moveE (by conv => { lhs; whnf }) ?_))
    refine Wl.mapPut (u := vi (sizeN all)) strKeyed h.mp hq hr rfl rfl rfl fun w1 m1 c1 s1 => ?_
    have b1 := h.bk.chg c1 h.bm
    have o1 := h.own.chg (plain_one _) c1 fun k hk => (h.own.lt hk).1.2.2
    rw [← tbL_snoc hno] at m1
    (repeat' (first | refine Wl.moveE (by conv => { lhs; whnf }) ?_ | refine Wl.nil ?_ | refine Qseq.normal ?_ | refine Wc.seq ?_ | refine Wc.region ?_ | refine Wl.nilP rfl ?_ | refine Wl.fieldAddr rfl rfl ?_))
    refine Wl.load1 rfl (b1.cell (o := 0) rfl) ?_
    (repeat' (refine Wl.moveE (by conv => { lhs; whnf }) ?_))
    refine Wl.append1 (y := nm) goodVs o1 rfl rfl rfl rfl rfl (by omega) (by omega) (by simp only [maxLen]; omega) (by omega) rfl rfl fun sl2 w2 _ o2 c2 lie => ?_
    have hsl : sl.ownBlock ≠ some b := fun e => (h.own.lt e).1.2.1 rfl
    have hsm : sl.ownBlock ≠ some m := fun e => (h.own.lt e).1.2.2 rfl
    have b2 := b1.chg c2 hsl
    have m2 := m1.chg c2 hsm
    (repeat' (first | refine Wl.nilP rfl ?_ | refine Wl.fieldAddr rfl rfl ?_))
    refine Wl.store1 (u := sl2) b2 rfl (show (0 : Nat) < 3 by omega) rfl (OwnS.blk1 o2) fun w3 b3 c3 => ?_
    have o3 := o2.chg (plain_one _) c3 fun k hk => by
      rintro rfl
      rcases lie with hl | hl
      · rw [hl] at hk; exact hsl hk
      · have := hl _ hk; have := b1.lt; omega
    have m3 := m2.chg c3 (fun e => h.bm e.symm)
    (repeat' (first | refine Wl.moveE (by conv => { lhs; whnf }) ?_ | refine Wl.nil ?_ | refine Qseq.normal ?_ | refine Wc.region ?_ | refine Wl.nilP rfl ?_ | refine Wl.fieldAddr rfl rfl ?_))
    refine Wl.load1 rfl (b3.cell (o := 2) rfl) ?_
    (repeat' (first | refine Wl.moveE (by conv => { lhs; whnf }) ?_ | refine Wl.lenStr rfl ?_ | refine Wl.nilP rfl ?_ | refine Wl.fieldAddr rfl rfl ?_ | refine Wl.add rfl rfl (by omega) (by omega) ?_))
    refine Wl.store1 (u := vi (sizeN (all ++ [nm]))) b3 rfl (show (2 : Nat) < 3 by omega) (by rw [sizeN_snoc]; rfl) rfl fun w4 b4 c4 => ?_
    have o4 := o3.chg (plain_one _) c4 fun k hk => by
      rintro rfl
      rcases lie with hl | hl
      · rw [hl] at hk; exact hsl hk
      · have := hl _ hk; have := b1.lt; omega
    have m4 := m3.chg c4 (fun e => h.bm e.symm)
    (repeat' (first | refine Wl.moveE (by conv => { lhs; whnf }) ?_ | refine Wl.assignE (by conv => { lhs; whnf }) ?_ | refine Wl.nil ?_ | refine Qseq.normal ?_ | refine Wc.seq ?_ | refine Wc.region ?_ | refine Wc.ret ?_))
    refine Qfn.ret1 rfl rfl ⟨_, rfl, (by rw [placeN_none hno]; rfl), ⟨b, m, sl2, rfl, ?_⟩, ?_⟩
    · rw [addNm_out hno]
      refine ⟨b4, m4, o4.mono (mono_one _) (fun k hk hM => ?_) (fun _ _ h => h), ?_, .inl h.hb, .inl h.hm, h.bm⟩
      · have hbl := h.bk.lt
        have hml := h.mp.lt
        rcases hM with hM | hM
        · exact ⟨.inl hM.1, hM.2⟩
        · exact ⟨.inr (by omega), by omega, by omega⟩
      · rw [List.nodup_append]
        exact ⟨h.nd, by simp, by intro a ha b hb; simp at hb; subst hb; rintro rfl; exact hno ha⟩
    · have q2 := c1.mono (M' := M) fun k _ e => e ▸ h.hm
      have q3 := q2.trans c2 fun k hk e => (h.own.lt e).1.1
      have q4 := q3.trans c3 fun k hk e => e ▸ h.hb
      exact q4.trans c4 fun k hk e => e ▸ h.hb
end Go.Proofs.YtlkhajheecglgaaDoor

namespace Go.Proofs.YtlkhajheecglgaaDoor
open Go Wk

abbrev RSt := List UInt8 × List Nm × List Nd
def propM (names : List UInt8) (tb : List Nm) (s : List UInt8) : Option (Pr × List Nm × List UInt8) :=
  match cellM 1024 s with
  | none => none
  | some (n, s1) => match cellM names.length s1 with
    | none => none
    | some (a, s2) => match idx0 (names.drop a) with
      | none => none
      | some k => if 31 < k ∨ placeN tb ((names.drop a).take k) ≠ a then none
        else match filM n s2 with
          | none => none
          | some (v, s3) => some (((names.drop a).take k, v), addNm tb ((names.drop a).take k), s3)
def loopM (names : List UInt8) (rec : Int → Nat → RSt → Option RSt) (depth at_ : Nat) : Nat → RSt → Option RSt
  | 0, _ => none
  | f + 1, (s, tb, nodes) => match cellM 9 s with
    | none => none
    | some (c, s1) =>
      if c = 3 then (match propM names tb s1 with
        | none => none
        | some (p, tb', s2) => match nodes[at_]? with
          | none => none
          | some x => if nodes.length ≠ at_ + 1 ∨ 32 ≤ x.props.length then none else loopM names rec depth at_ f (s2, tb', nodes.set at_ { x with props := x.props ++ [p] }))
      else if c = 1 then (match rec at_ (depth + 1) (s1, tb, nodes) with
        | none => none
        | some st => loopM names rec depth at_ f st)
      else if c = 2 then some (s1, tb, nodes) else none
def nodeM (names : List UInt8) : Nat → Int → Nat → RSt → Option RSt
  | 0, _, _, _ => none
  | f + 1, parent, depth, (s, tb, nodes) => match idx0 s with
    | none => none
    | some n => if 31 < n ∨ 16 < depth ∨ 512 ≤ nodes.length then none
      else match filM (n + 1) s with
        | none => none
        | some (v, s1) => loopM names (nodeM names f) depth nodes.length (s1.length + 1) (s1, tb, nodes ++ [⟨parent, v.take n, []⟩])
/-- The table of names holds what the strings begin with. -/
def TbOk (names : List UInt8) (tb : List Nm) : Prop := sizeN tb ≤ names.length ∧ names.take (sizeN tb) = strsN tb
theorem flK_app : ∀ (x y : List T) (u b : Nat), flK (x ++ y) u b = flK x u b ++ flK y u (b + szK x)
  | [], y, u, b => by simp [flK, szK]
  | t :: ts, y, u, b => by simp only [List.cons_append, flK, szK, flK_app ts y, List.append_assoc, Nat.add_assoc]
theorem stK_app (all : List Nm) : ∀ (x y : List T), stK all (x ++ y) = stK all x ++ stK all y
  | [], y => rfl
  | t :: ts, y => by simp only [List.cons_append, stK, stK_app all ts y, List.append_assoc]
theorem propM_sound {names s s' : List UInt8} {tb tb' : List Nm} {p : Pr} (h : propM names tb s = some (p, tb', s')) :
    tb' = addNm tb p.1 ∧ s = cell4 p.2.length ++ (cell4 (placeN tb p.1) ++ (fil p.2 ++ s')) ∧ (TbOk names tb → TbOk names tb') := by
  unfold propM at h
  split at h
  · cases h
  rename_i n s1 h1
  split at h
  · cases h
  rename_i a s2 h2
  split at h
  · cases h
  rename_i k h3
  split at h
  · cases h
  rename_i h4
  split at h
  · cases h
  rename_i v s3 h5
  cases h
  simp only [not_or, Nat.not_lt, ne_eq, Classical.not_not] at h4
  obtain ⟨e1, _, _⟩ := cellM_sound h1
  obtain ⟨e2, ha, _⟩ := cellM_sound h2
  obtain ⟨e5, hv⟩ := filM_sound h5
  obtain ⟨k1, k2, k3⟩ := idx0_some h3
  refine ⟨rfl, by rw [e1, e2, e5, hv, h4.2], fun ⟨t1, t2⟩ => ?_⟩
  unfold addNm
  split
  · exact ⟨t1, t2⟩
  · rename_i hc
    have hx : (names.drop a).take k ∉ tb := by simpa using hc
    have hp := placeN_none hx
    rw [h4.2] at hp
    rw [List.length_drop] at k1
    have hxl : ((names.drop a).take k).length = k := by simp; omega
    unfold TbOk
    rw [sizeN_app, strsN_app]
    simp only [sizeN, Nat.add_zero, hxl, ← hp]
    refine ⟨by omega, ?_⟩
    rw [← hp] at t2
    rw [List.take_add, t2]
    congr 1
    rw [List.take_add_one]
    have hg : (names.drop a)[k]? = some 0 := by
      rw [k3, List.getElem?_append_right (by omega), hxl]; simp
    rw [hg]
    simp [strsN]
theorem loopM_sound {names : List UInt8} {rec : Int → Nat → RSt → Option RSt} {depth at_ : Nat}
    (hrec : ∀ (up : Int) (d : Nat) (s : List UInt8) (tb : List Nm) (nodes : List Nd) (s' : List UInt8) (tb' : List Nm) (nodes' : List Nd), rec up d (s, tb, nodes) = some (s', tb', nodes') →
      ∃ τ, nodes' = nodes ++ flT τ up nodes.length ∧ tb' = namesN tb (flT τ up nodes.length) ∧ (∀ all e, all = tb' ++ e → cell4 1 ++ s = stT all τ ++ s') ∧ (TbOk names tb → TbOk names tb')) :
    ∀ (g : Nat) (s : List UInt8) (tb : List Nm) (nodes0 : List Nd) (up : Int) (nm : Nm) (ps : List Pr) (ks : List T) (s' : List UInt8) (tb' : List Nm) (nodes' : List Nd), nodes0.length = at_ →
      loopM names rec depth at_ g (s, tb, nodes0 ++ (⟨up, nm, ps⟩ :: flK ks at_ (at_ + 1))) = some (s', tb', nodes') →
      ∃ ps' ks', nodes' = nodes0 ++ (⟨up, nm, ps ++ ps'⟩ :: flK (ks ++ ks') at_ (at_ + 1)) ∧ tb' = namesN (namesP tb ps') (flK ks' at_ (at_ + 1 + szK ks)) ∧
        (∀ all e, all = tb' ++ e → s = ps'.flatMap (propB all) ++ (stK all ks' ++ (cell4 2 ++ s'))) ∧ (TbOk names tb → TbOk names tb') ∧ (ks ≠ [] → ps' = [])
  | 0, _, _, _, _, _, _, _, _, _, _, _, h => by cases h
  | g + 1, s, tb, nodes0, up, nm, ps, ks, s', tb', nodes', hat, h => by
    rw [loopM] at h
    split at h
    · cases h
    rename_i c s1 hc
    obtain ⟨ec, _, _⟩ := cellM_sound hc
    split at h
    · rename_i c3
      split at h
      · cases h
      rename_i p tb2 s2 hp
      obtain ⟨p1, p2, p3⟩ := propM_sound hp
      have hget : (nodes0 ++ (⟨up, nm, ps⟩ :: flK ks at_ (at_ + 1)))[at_]? = some ⟨up, nm, ps⟩ := by
        rw [List.getElem?_append_right (by omega), hat]; simp
      rw [hget] at h
      dsimp only at h
      split at h
      · cases h
      rename_i hcond
      simp only [not_or, ne_eq, Classical.not_not, Nat.not_le] at hcond
      have hks : ks = [] := by
        cases ks with
        | nil => rfl
        | cons t ts =>
          have := hcond.1
          have h1 := szT_pos t
          simp only [List.length_append, List.length_cons, flK, flT_length] at this
          omega
      subst hks
      have hset : (nodes0 ++ (⟨up, nm, ps⟩ :: flK [] at_ (at_ + 1))).set at_ ⟨up, nm, ps ++ [p]⟩ = nodes0 ++ (⟨up, nm, ps ++ [p]⟩ :: flK [] at_ (at_ + 1)) := by
        rw [List.set_append_right _ _ (by omega), hat]; simp
      rw [hset] at h
      obtain ⟨ps', ks', q1, q2, q3, q4, q5⟩ := loopM_sound hrec g s2 tb2 nodes0 up nm (ps ++ [p]) [] s' tb' nodes' hat h
      refine ⟨p :: ps', ks', by rw [q1, List.append_assoc]; rfl, by rw [q2, p1]; rfl, fun all e he => ?_, fun t => q4 (p3 t), fun hne => absurd rfl hne⟩
      obtain ⟨e1, h1⟩ := namesP_pre ps' tb2
      obtain ⟨e2, h2⟩ := namesN_pre (flK ks' at_ (at_ + 1 + szK [])) (namesP tb2 ps')
      have hpl : placeN all p.1 = placeN tb p.1 := placeN_pre (e := e1 ++ e2 ++ e) (by rw [he, q2, h2, h1, p1]; simp)
      rw [ec, c3, p2, List.flatMap_cons, q3 all e he]
      simp only [propB, hpl, List.append_assoc]
    · split at h
      · rename_i c1
        split at h
        · cases h
        rename_i st hr
        obtain ⟨s2, tb2, nodes2⟩ := st
        obtain ⟨τ, r1, r2, r3, r4⟩ := hrec _ _ _ _ _ _ _ _ hr
        have hlen : (nodes0 ++ (⟨up, nm, ps⟩ :: flK ks at_ (at_ + 1))).length = at_ + 1 + szK ks := by
          simp only [List.length_append, List.length_cons, flK_length]; omega
        rw [hlen] at r1 r2
        have e1 : nodes2 = nodes0 ++ (⟨up, nm, ps⟩ :: flK (ks ++ [τ]) at_ (at_ + 1)) := by
          rw [r1, flK_app]; simp [flK]
        rw [e1] at h
        obtain ⟨ps', ks', q1, q2, q3, q4, q5⟩ := loopM_sound hrec g s2 tb2 nodes0 up nm ps (ks ++ [τ]) s' tb' nodes' hat h
        obtain rfl := q5 (by simp)
        have hsz : szK (ks ++ [τ]) = szK ks + szT τ := by
          have := congrArg List.length (flK_app ks [τ] 0 0)
          simp only [flK_length, List.length_append, szK] at this
          simpa [szK] using this
        refine ⟨[], τ :: ks', by rw [q1]; simp, ?_, fun all e he => ?_, fun t => q4 (r4 t), fun _ => rfl⟩
        · rw [q2, r2, hsz]
          simp only [namesP, List.foldl_nil, flK, namesN_app, Nat.add_assoc]
        · obtain ⟨e2, h2⟩ := namesN_pre (flK ks' at_ (at_ + 1 + szK (ks ++ [τ]))) (namesP tb2 [])
          have h3 := r3 all (e2 ++ e) (by rw [he, q2, h2]; simp [namesP])
          have h4 := q3 all e he
          rw [ec, c1, h3, h4]
          simp [stK]
      · split at h
        · rename_i c2
          cases h
          exact ⟨[], [], by simp, rfl, fun all e _ => by rw [ec, c2]; simp [stK], fun t => t, fun _ => rfl⟩
        · cases h
theorem nodeM_sound {names : List UInt8} : ∀ (f : Nat) (up : Int) (d : Nat) (s : List UInt8) (tb : List Nm) (nodes : List Nd) (s' : List UInt8) (tb' : List Nm) (nodes' : List Nd), nodeM names f up d (s, tb, nodes) = some (s', tb', nodes') →
    ∃ τ, nodes' = nodes ++ flT τ up nodes.length ∧ tb' = namesN tb (flT τ up nodes.length) ∧ (∀ all e, all = tb' ++ e → cell4 1 ++ s = stT all τ ++ s') ∧ (TbOk names tb → TbOk names tb')
  | 0, _, _, _, _, _, _, _, _, h => by cases h
  | f + 1, up, d, s, tb, nodes, s', tb', nodes', h => by
    rw [nodeM] at h
    split at h
    · cases h
    rename_i n hn
    split at h
    · cases h
    split at h
    · cases h
    rename_i v s1 hf
    obtain ⟨f1, f2⟩ := filM_sound hf
    obtain ⟨ps, ks, q1, q2, q3, q4, _⟩ := loopM_sound (nodeM_sound f) _ s1 tb nodes up (v.take n) [] [] s' tb' nodes' rfl (by simpa [flK] using h)
    obtain ⟨k1, k2, k3⟩ := idx0_some hn
    -- the text that was taken is the name with its end
    have hv : v = v.take n ++ [0] := by
      have e1 : s.take (n + 1) = v := by
        rw [f1, List.take_append_of_le_length (by rw [fil_length, f2]; unfold up4; omega)]
        have := fil_take v
        rwa [f2] at this
      have e2 : s.take (n + 1) = s.take n ++ [0] := by
        rw [List.take_add_one]
        have hg : s[n]? = some 0 := by
          have hl : (s.take n).length = n := by simp; omega
          rw [k3, List.getElem?_append_right (by omega), hl]; simp
        rw [hg]; rfl
      have e3 : v.take n = s.take n := by rw [← e1, List.take_take]; congr 1; omega
      rw [e3, ← e2, e1]
    refine ⟨.mk (v.take n) ps ks, by rw [q1]; simp [flT], by rw [q2]; simp [flT, namesN_cons, szK], fun all e he => ?_, q4⟩
    rw [f1, q3 all e he]
    simp only [stT, nodeB, List.append_assoc]
    rw [← hv]
end Go.Proofs.YtlkhajheecglgaaDoor

namespace Go.Proofs.YtlkhajheecglgaaDoor
open Go Wk

def NmOk (s : Nm) : Prop := (0 : UInt8) ∉ s ∧ s.length ≤ 31
theorem nmOk_of {s : Nm} (h : nameOk s = true) : NmOk s := by
  refine ⟨fun h0 => ?_, nameOk_len h⟩
  unfold nameOk at h
  simp only [Bool.and_eq_true] at h
  have := List.all_eq_true.1 h.2 0 h0
  rw [signs_eq] at this
  exact absurd this (by decide)
theorem nmOk_nil : NmOk [] := ⟨by simp, by simp⟩
theorem propsGo_all : ∀ (ps : List Pr) (seen : List Nm), propsGo seen ps = true → ∀ p ∈ ps, NmOk p.1 ∧ p.2.length ≤ 1024
  | [], _, _, p, hp => by simp at hp
  | q :: r, seen, h, p, hp => by
    simp only [propsGo, Bool.and_eq_true, decide_eq_true_eq] at h
    rcases List.mem_cons.1 hp with rfl | hp
    · exact ⟨nmOk_of h.1, h.2.1⟩
    · exact propsGo_all r _ h.2.2.2 p hp
theorem propsOk_all {ps : List Pr} (h : propsOk ps = true) : ps.length ≤ 32 ∧ ∀ p ∈ ps, NmOk p.1 ∧ p.2.length ≤ 1024 := by
  unfold propsOk at h
  simp only [Bool.and_eq_true, decide_eq_true_eq] at h
  exact ⟨h.1, propsGo_all ps _ h.2⟩
theorem stK_cons_cell (all : List Nm) (t : T) (r : List UInt8) : ∃ s, stT all t ++ r = cell4 1 ++ s := by
  cases t with
  | mk nm ps ks => exact ⟨_, by simp only [stT, nodeB, List.append_assoc]; rfl⟩
theorem flat_len (all : List Nm) (ps : List Pr) : ps.length ≤ (ps.flatMap (propB all)).length := by
  induction ps with
  | nil => simp
  | cons p r ih => simp only [List.flatMap_cons, List.length_append, List.length_cons, propB, cell4_length]; omega
theorem stK_len (all : List Nm) : ∀ ks : List T, ks.length ≤ (stK all ks).length
  | [] => by simp [stK]
  | t :: ts => by
    have := stK_len all ts
    obtain ⟨s, hs⟩ := stK_cons_cell all t []
    have h2 := congrArg List.length hs
    simp only [List.length_append, cell4_length, List.length_nil] at h2
    simp only [stK, List.length_append, List.length_cons]; omega
theorem propM_by {names x v s s2 s3 s4 : List UInt8} {tb : List Nm} {a : Nat} (c1 : cellM 1024 s = some (v.length, s2)) (c2 : cellM names.length s2 = some (a, s3)) (c3 : idx0 (names.drop a) = some x.length) (c4 : (names.drop a).take x.length = x) (c5 : ¬ (31 < x.length ∨ placeN tb x ≠ a)) (c6 : filM v.length s3 = some (v, s4)) :
    propM names tb s = some ((x, v), addNm tb x, s4) := by
  unfold propM
  simp only [c1, c2, c3, c4, if_neg c5, c6]
theorem propM_at {names r : List UInt8} {tb : List Nm} {x v s : List UInt8} {a : Nat} (h1 : a ≤ names.length) (h2 : a < 4294967296) (hr : names.drop a = x ++ 0 :: r) (hn : NmOk x) (hv : v.length ≤ 1024) (hp : placeN tb x = a) :
    propM names tb (cell4 v.length ++ (cell4 a ++ (fil v ++ s))) = some ((x, v), addNm tb x, s) := by
  have c1 : cellM 1024 (cell4 v.length ++ (cell4 a ++ (fil v ++ s))) = some (v.length, cell4 a ++ (fil v ++ s)) := cellM_cell hv (by omega)
  have c2 : cellM names.length (cell4 a ++ (fil v ++ s)) = some (a, fil v ++ s) := cellM_cell h1 h2
  have c3 : idx0 (names.drop a) = some x.length := by rw [hr]; exact idx0_app hn.1
  have c4 : (names.drop a).take x.length = x := by rw [hr]; exact List.take_left' rfl
  have c5 : ¬ (31 < x.length ∨ placeN tb x ≠ a) := by
    rw [not_or]; exact ⟨by have := hn.2; omega, fun e => e hp⟩
  exact propM_by c1 c2 c3 c4 c5 filM_fil
theorem propM_full {all tb e : List Nm} {p : Pr} {s : List UInt8} (ha : all = addNm tb p.1 ++ e) (hn : NmOk p.1) (hv : p.2.length ≤ 1024) (hsz : sizeN all < 4294967296) :
    propM (strsN all) tb (cell4 p.2.length ++ (cell4 (placeN all p.1) ++ (fil p.2 ++ s))) = some (p, addNm tb p.1, s) := by
  have hmem : p.1 ∈ all := by rw [ha]; exact List.mem_append_left _ (addNm_mem tb p.1)
  obtain ⟨r, hr⟩ := strsN_at hmem
  have hpl : placeN all p.1 ≤ (strsN all).length := by
    have h1 := congrArg List.length hr
    simp only [List.length_drop, List.length_append, List.length_cons] at h1
    omega
  have hlen := strsN_length all
  exact propM_at hpl (by omega) hr hn hv (placeN_pre ha).symm
section
variable {all : List Nm} {rec : Int → Nat → RSt → Option RSt} {depth at_ : Nat}
theorem loopK_full (hrec : ∀ (τ : T) (tb : List Nm) (nodes : List Nd) (s s' : List UInt8) (e : List Nm), okT (depth + 1) τ = true → NmOk τ.name → nodes.length + szT τ ≤ 512 → all = namesN tb (flT τ (at_ : Int) nodes.length) ++ e → cell4 1 ++ s = stT all τ ++ s' →
      rec at_ (depth + 1) (s, tb, nodes) = some (s', namesN tb (flT τ (at_ : Int) nodes.length), nodes ++ flT τ (at_ : Int) nodes.length)) (hsz : sizeN all < 4294967296) :
    ∀ (ks2 ks1 : List T) (seen : List Nm) (g : Nat) (s' : List UInt8) (tb : List Nm) (nodes0 : List Nd) (up : Int) (nm : Nm) (ps : List Pr) (e : List Nm), nodes0.length = at_ → okK (depth + 1) seen ks2 = true → at_ + 1 + szK ks1 + szK ks2 ≤ 512 →
      all = namesN tb (flK ks2 at_ (at_ + 1 + szK ks1)) ++ e → ks2.length < g →
      loopM (strsN all) rec depth at_ g (stK all ks2 ++ (cell4 2 ++ s'), tb, nodes0 ++ (⟨up, nm, ps⟩ :: flK ks1 at_ (at_ + 1))) = some (s', namesN tb (flK ks2 at_ (at_ + 1 + szK ks1)), nodes0 ++ (⟨up, nm, ps⟩ :: flK (ks1 ++ ks2) at_ (at_ + 1)))
  | [], ks1, seen, g, s', tb, nodes0, up, nm, ps, e, hat, hok, hl, ha, hg => by
    obtain ⟨g, rfl⟩ : ∃ q, g = q + 1 := ⟨g - 1, by omega⟩
    rw [loopM]
    simp only [stK, List.nil_append, flK, List.append_nil]
    rw [cellM_cell (by omega) (by omega)]
    simp [namesN]
  | t :: ts, ks1, seen, g, s', tb, nodes0, up, nm, ps, e, hat, hok, hl, ha, hg => by
    obtain ⟨g, rfl⟩ : ∃ q, g = q + 1 := ⟨g - 1, by simp only [List.length_cons] at hg; omega⟩
    simp only [okK, Bool.and_eq_true] at hok
    simp only [szK] at hl
    obtain ⟨s, hs⟩ := stK_cons_cell all t (stK all ts ++ (cell4 2 ++ s'))
    have e1 : stK all (t :: ts) ++ (cell4 2 ++ s') = cell4 1 ++ s := by rw [← hs]; simp [stK]
    rw [loopM, e1, cellM_cell (by omega) (by omega)]
    have hlen : (nodes0 ++ (⟨up, nm, ps⟩ :: flK ks1 at_ (at_ + 1))).length = at_ + 1 + szK ks1 := by
      simp only [List.length_append, List.length_cons, flK_length]; omega
    simp only [flK, namesN_app] at ha
    obtain ⟨e2, h2⟩ := namesN_pre (flK ts at_ (at_ + 1 + szK ks1 + szT t)) (namesN tb (flT t (at_ : Int) (at_ + 1 + szK ks1)))
    have hr := hrec t tb (nodes0 ++ (⟨up, nm, ps⟩ :: flK ks1 at_ (at_ + 1))) s (stK all ts ++ (cell4 2 ++ s')) (e2 ++ e) hok.2.2.1 (nmOk_of hok.1) (by rw [hlen]; omega) (by rw [hlen, ha, h2]; simp) hs.symm
    rw [hlen] at hr
    simp only [show (1 : Nat) ≠ 3 by omega, if_false, if_true, hr]
    have hsz1 : szK (ks1 ++ [t]) = szK ks1 + szT t := by
      have := congrArg List.length (flK_app ks1 [t] 0 0)
      simp only [flK_length, List.length_append] at this
      simpa [szK] using this
    have e3 : nodes0 ++ (⟨up, nm, ps⟩ :: flK ks1 at_ (at_ + 1)) ++ flT t (at_ : Int) (at_ + 1 + szK ks1) = nodes0 ++ (⟨up, nm, ps⟩ :: flK (ks1 ++ [t]) at_ (at_ + 1)) := by
      rw [flK_app]; simp [flK]
    rw [e3]
    have ih := loopK_full hrec hsz ts (ks1 ++ [t]) _ g s' (namesN tb (flT t (at_ : Int) (at_ + 1 + szK ks1))) nodes0 up nm ps e hat hok.2.2.2 (by rw [hsz1]; omega) (by rw [hsz1, ha]; simp [Nat.add_assoc]) (by simp only [List.length_cons] at hg; omega)
    rw [ih, hsz1]
    simp [flK, namesN_app, Nat.add_assoc]
theorem loopM_full (hrec : ∀ (τ : T) (tb : List Nm) (nodes : List Nd) (s s' : List UInt8) (e : List Nm), okT (depth + 1) τ = true → NmOk τ.name → nodes.length + szT τ ≤ 512 → all = namesN tb (flT τ (at_ : Int) nodes.length) ++ e → cell4 1 ++ s = stT all τ ++ s' →
      rec at_ (depth + 1) (s, tb, nodes) = some (s', namesN tb (flT τ (at_ : Int) nodes.length), nodes ++ flT τ (at_ : Int) nodes.length)) (hsz : sizeN all < 4294967296) (ks : List T) (hok : okK (depth + 1) [] ks = true) :
    ∀ (ps2 ps1 : List Pr) (g : Nat) (s' : List UInt8) (tb : List Nm) (nodes0 : List Nd) (up : Int) (nm : Nm) (e : List Nm), nodes0.length = at_ → (∀ p ∈ ps2, NmOk p.1 ∧ p.2.length ≤ 1024) → ps1.length + ps2.length ≤ 32 → at_ + 1 + szK ks ≤ 512 →
      all = namesN (namesP tb ps2) (flK ks at_ (at_ + 1)) ++ e → ps2.length + ks.length < g →
      loopM (strsN all) rec depth at_ g (ps2.flatMap (propB all) ++ (stK all ks ++ (cell4 2 ++ s')), tb, nodes0 ++ [⟨up, nm, ps1⟩]) = some (s', namesN (namesP tb ps2) (flK ks at_ (at_ + 1)), nodes0 ++ (⟨up, nm, ps1 ++ ps2⟩ :: flK ks at_ (at_ + 1)))
  | [], ps1, g, s', tb, nodes0, up, nm, e, hat, hp, hpl, hl, ha, hg => by
    have := loopK_full hrec hsz ks [] [] g s' tb nodes0 up nm ps1 e hat hok (by simpa [szK] using hl) (by simpa [szK, namesP] using ha) (by simpa using hg)
    simpa [flK, szK, namesP] using this
  | p :: ps2, ps1, g, s', tb, nodes0, up, nm, e, hat, hp, hpl, hl, ha, hg => by
    obtain ⟨g, rfl⟩ : ∃ q, g = q + 1 := ⟨g - 1, by simp only [List.length_cons] at hg; omega⟩
    have ha' : all = namesN (namesP (addNm tb p.1) ps2) (flK ks at_ (at_ + 1)) ++ e := ha
    obtain ⟨e1, h1⟩ := namesP_pre ps2 (addNm tb p.1)
    obtain ⟨e2, h2⟩ := namesN_pre (flK ks at_ (at_ + 1)) (namesP (addNm tb p.1) ps2)
    have hpa : all = addNm tb p.1 ++ (e1 ++ e2 ++ e) := by rw [ha', h2, h1]; simp
    have hp1 := hp p (by simp)
    simp only [List.length_cons] at hpl hg
    rw [loopM]
    simp only [List.flatMap_cons, propB, List.append_assoc]
    rw [cellM_cell (by omega) (by omega)]
    simp only [if_true]
    rw [propM_full hpa hp1.1 hp1.2 hsz]
    have hget : (nodes0 ++ [(⟨up, nm, ps1⟩ : Nd)])[at_]? = some ⟨up, nm, ps1⟩ := by
      rw [List.getElem?_append_right (by omega), hat]; simp
    simp only [hget]
    rw [if_neg (by simp only [List.length_append, List.length_singleton]; omega)]
    have hset : (nodes0 ++ [(⟨up, nm, ps1⟩ : Nd)]).set at_ ⟨up, nm, ps1 ++ [p]⟩ = nodes0 ++ [⟨up, nm, ps1 ++ [p]⟩] := by
      rw [List.set_append_right _ _ (by omega), hat]; simp
    rw [hset]
    have ih := loopM_full hrec hsz ks hok ps2 (ps1 ++ [p]) g s' (addNm tb p.1) nodes0 up nm e hat (fun q hq => hp q (by simp [hq])) (by simp; omega) hl ha' (by omega)
    rw [ih]
    simp [namesP]
end
theorem nodeM_full {all : List Nm} (hsz : sizeN all < 4294967296) : ∀ (f : Nat) (τ : T) (up : Int) (depth : Nat) (s s' : List UInt8) (tb : List Nm) (nodes : List Nd) (e : List Nm), depth + f = 17 → okT depth τ = true → NmOk τ.name → nodes.length + szT τ ≤ 512 →
    all = namesN tb (flT τ up nodes.length) ++ e → cell4 1 ++ s = stT all τ ++ s' → nodeM (strsN all) f up depth (s, tb, nodes) = some (s', namesN tb (flT τ up nodes.length), nodes ++ flT τ up nodes.length)
  | 0, .mk nm ps ks, up, depth, s, s', tb, nodes, e, hf, hok, _, _, _, _ => by
    simp only [okT, Bool.and_eq_true, decide_eq_true_eq] at hok
    omega
  | f + 1, .mk nm ps ks, up, depth, s, s', tb, nodes, e, hf, hok, hnm, hl, ha, hs => by
    simp only [okT, Bool.and_eq_true, decide_eq_true_eq] at hok
    obtain ⟨hpr, hd, hk⟩ := hok
    have hpo := propsOk_all hpr
    simp only [szT] at hl
    have hnm' : NmOk nm := hnm
    have es : s = fil (nm ++ [0]) ++ (ps.flatMap (propB all) ++ (stK all ks ++ (cell4 2 ++ s'))) := by
      simp only [stT, nodeB, List.append_assoc] at hs
      exact List.append_cancel_left hs
    rw [nodeM]
    have ei : idx0 s = some nm.length := by
      rw [es]
      have : fil (nm ++ [0]) = nm ++ 0 :: List.replicate ((4 - (nm ++ [(0 : UInt8)]).length % 4) % 4) 0 := by simp [fil]
      rw [this, List.append_assoc, List.cons_append, idx0_app hnm'.1]
    rw [ei]
    dsimp only
    rw [if_neg (by have := hnm'.2; omega)]
    have ef : filM (nm.length + 1) s = some (nm ++ [0], ps.flatMap (propB all) ++ (stK all ks ++ (cell4 2 ++ s'))) := by
      rw [es]
      have := filM_fil (x := nm ++ [0]) (s := ps.flatMap (propB all) ++ (stK all ks ++ (cell4 2 ++ s')))
      rwa [List.length_append, List.length_singleton] at this
    rw [ef]
    dsimp only
    rw [List.take_left' rfl]
    have h1 := flat_len all ps
    have h2 := stK_len all ks
    have := loopM_full (depth := depth) (at_ := nodes.length) (rec := nodeM (strsN all) f) (fun τ tb nodes2 s s' e h1 h2 h3 h4 h5 => nodeM_full hsz f τ _ (depth + 1) s s' tb nodes2 e (by omega) h1 h2 h3 h4 h5) hsz ks hk ps [] ((ps.flatMap (propB all) ++ (stK all ks ++ (cell4 2 ++ s'))).length + 1) s' tb nodes up nm e rfl hpo.2 (by simpa using hpo.1) (by omega)
      (by rw [ha]; simp [flT, namesN_cons]) (by simp only [List.length_append]; omega)
    rw [this]
    simp [flT, namesN_cons]
end Go.Proofs.YtlkhajheecglgaaDoor

namespace Go.Proofs.YtlkhajheecglgaaDoor
open Go Wk

def cellsM : Nat → List UInt8 → Option (List Nat × List UInt8)
  | 0, s => some ([], s)
  | k + 1, s => match cellM 4294967295 s with
    | none => none
    | some (n, s1) => match cellsM k s1 with
      | none => none
      | some (l, s2) => some (n :: l, s2)
def tailM (n : Nat) (r : List UInt8) (h3 h5 h7 : Nat) : Option (List Nd × List Nat) :=
  match cellM 1 (r.take h3) with
  | none => none
  | some (c, s1) => if c ≠ 1 then none else match nodeM (r.drop h3) 16 (-1) 1 (s1, [], []) with
    | none => none
    | some (s2, tb, nodes) => match cellM 9 s2 with
      | none => none
      | some (c9, s3) => if c9 ≠ 9 ∨ s3 ≠ [] ∨ sizeN tb ≠ (r.drop h3).length ∨ h7 ≠ nodes.length ∨ treeOk nodes = false then none else some (nodes, [n, h3, h5, h7])
def readM (s : List UInt8) : Option (List Nd × List Nat) :=
  match cellsM 8 s with
  | some ([h0, h1, h2, h3, h4, h5, h6, h7], r) => if h0 ≠ 0xD00DFEED ∨ h1 ≠ s.length ∨ h2 ≠ 32 ∨ h4 ≠ 32 + h3 ∨ r.length < h3 ∨ h5 ≠ r.length - h3 ∨ h6 ≠ 17 then none else tailM s.length r h3 h5 h7
  | _ => none
theorem cellsM_sound : ∀ {k : Nat} {s r : List UInt8} {l : List Nat}, cellsM k s = some (l, r) → l.length = k ∧ s = l.flatMap cell4 ++ r ∧ ∀ n ∈ l, n < 4294967296
  | 0, s, r, l, h => by cases h; exact ⟨rfl, rfl, fun n hn => by simp at hn⟩
  | k + 1, s, r, l, h => by
    rw [cellsM] at h
    split at h
    · cases h
    rename_i n s1 h1
    split at h
    · cases h
    rename_i l2 s2 h2
    cases h
    obtain ⟨e1, _, e3⟩ := cellM_sound h1
    obtain ⟨i1, i2, i3⟩ := cellsM_sound h2
    refine ⟨by simp [i1], by rw [e1, i2]; simp, fun m hm => ?_⟩
    rcases List.mem_cons.1 hm with rfl | hm
    · exact e3
    · exact i3 m hm
theorem cellsM_full : ∀ (l : List Nat) (r : List UInt8), (∀ n ∈ l, n < 4294967296) → cellsM l.length (l.flatMap cell4 ++ r) = some (l, r)
  | [], r, _ => rfl
  | n :: l, r, h => by
    have h1 := h n (by simp)
    have e : cellM 4294967295 (cell4 n ++ (l.flatMap cell4 ++ r)) = some (n, l.flatMap cell4 ++ r) := cellM_cell (by omega) h1
    have ih := cellsM_full l r fun m hm => h m (by simp [hm])
    simp only [List.length_cons, cellsM, List.flatMap_cons, List.append_assoc, e, ih]
theorem headB_flat (a b n : Nat) : headB a b n = [0xD00DFEED, 32 + a + b, 32, a, 32 + a, b, 17, n].flatMap cell4 := by
  simp only [headB, List.flatMap_cons, List.flatMap_nil, List.append_nil]
/-! Sizes. -/
theorem sizeN_add (all : List Nm) (x : Nm) : sizeN (addNm all x) ≤ sizeN all + x.length + 1 := by
  unfold addNm
  split
  · omega
  · rw [sizeN_app]; simp only [sizeN]; omega
theorem sizeN_namesP : ∀ (ps : List Pr) (all : List Nm), (∀ p ∈ ps, NmOk p.1 ∧ p.2.length ≤ 1024) → sizeN (namesP all ps) ≤ sizeN all + 32 * ps.length
  | [], all, _ => by simp [namesP]
  | p :: r, all, h => by
    have h1 := sizeN_add all p.1
    have h2 := (h p (by simp)).1.2
    have ih := sizeN_namesP r (addNm all p.1) fun q hq => h q (by simp [hq])
    simp only [namesP, List.foldl_cons, List.length_cons] at ih ⊢
    omega
theorem sizeN_namesN : ∀ (l : List Nd) (all : List Nm), (∀ x ∈ l, propsOk x.props = true) → sizeN (namesN all l) ≤ sizeN all + 1024 * l.length
  | [], all, _ => by simp [namesN]
  | x :: r, all, h => by
    have h0 := propsOk_all (h x (by simp))
    have h1 := sizeN_namesP x.props all h0.2
    have ih := sizeN_namesN r (namesP all x.props) fun q hq => h q (by simp [hq])
    simp only [namesN, List.foldl_cons, List.length_cons] at ih ⊢
    have := h0.1
    omega
theorem tree_pr {l : List Nd} (h : treeOk l = true) : ∀ x ∈ l, propsOk x.props = true := fun x hx => by
  obtain ⟨i, hi⟩ := List.mem_iff_getElem?.1 hx
  exact (treeOk_nd h hi).pr
theorem names_size {l : List Nd} (h : treeOk l = true) : sizeN (namesN [] l) ≤ 524288 := by
  have h1 := sizeN_namesN l [] (tree_pr h)
  have h2 := treeOk_len h
  simp only [sizeN] at h1
  omega
theorem propB_len {all : List Nm} {p : Pr} (h : p.2.length ≤ 1024) : (propB all p).length ≤ 1036 := by
  simp only [propB, List.length_append, cell4_length, fil_length]
  unfold up4; omega
theorem flat_le {all : List Nm} : ∀ (ps : List Pr), (∀ p ∈ ps, NmOk p.1 ∧ p.2.length ≤ 1024) → (ps.flatMap (propB all)).length ≤ 1036 * ps.length
  | [], _ => by simp
  | p :: r, h => by
    have h1 := propB_len (all := all) (h p (by simp)).2
    have ih := flat_le (all := all) r fun q hq => h q (by simp [hq])
    simp only [List.flatMap_cons, List.length_append, List.length_cons]
    omega
mutual
theorem stT_le (all : List Nm) : ∀ (τ : T) (d : Nat), okT d τ = true → NmOk τ.name → (stT all τ).length ≤ 34000 * szT τ
  | .mk nm ps ks, d, h, hn => by
    simp only [okT, Bool.and_eq_true] at h
    have hp := propsOk_all h.1
    have h1 := flat_le (all := all) ps hp.2
    have h2 := stK_le all ks (d + 1) [] h.2.2
    have h3 : nm.length ≤ 31 := hn.2
    simp only [stT, nodeB, List.length_append, cell4_length, fil_length, List.length_singleton, szT]
    have := hp.1
    unfold up4
    omega
theorem stK_le (all : List Nm) : ∀ (ks : List T) (d : Nat) (seen : List Nm), okK d seen ks = true → (stK all ks).length ≤ 34000 * szK ks
  | [], _, _, _ => by simp [stK]
  | t :: ts, d, seen, h => by
    simp only [okK, Bool.and_eq_true] at h
    have h1 := stT_le all t d h.2.2.1 (nmOk_of h.1)
    have h2 := stK_le all ts d _ h.2.2.2
    simp only [stK, List.length_append, szK]
    omega
end
theorem okTree_parts {τ : T} (h : okTree τ = true) : τ.name = [] ∧ szT τ ≤ 512 ∧ okT 1 τ = true := by
  unfold okTree at h
  simpa only [Bool.and_eq_true, decide_eq_true_eq] using h
theorem down_of {l : List Nd} (h : treeOk l = true) : Down l l.length := nextOk_down ((treeOk_next l).1 h).1
theorem structL_T {τ : T} (h : treeOk (flT τ (-1) 0) = true) : structL (flT τ (-1) 0) = stT (namesN [] (flT τ (-1) 0)) τ ++ cell4 9 := by
  unfold structL
  have := down_of h
  rw [flT_length] at this
  rw [stL_T this]
theorem struct_size {l : List Nd} (h : treeOk l = true) : (structL l).length ≤ 17408004 := by
  obtain ⟨τ, rfl, hτ⟩ := treeOk_parse h
  rw [structL_T h]
  obtain ⟨h1, h2, h3⟩ := okTree_parts hτ
  have := stT_le (namesN [] (flT τ (-1) 0)) τ 1 h3 (by rw [h1]; exact nmOk_nil)
  simp only [List.length_append, cell4_length]
  omega
theorem strings_size (l : List Nd) : (stringsL l).length = sizeN (namesN [] l) := strsN_length _
theorem encL_length (l : List Nd) : (encL l).length = 32 + (structL l).length + (stringsL l).length := by
  unfold encL
  rw [headB_flat]
  simp only [List.length_append, List.flatMap_cons, List.flatMap_nil, cell4_length, List.length_nil]
  omega
def headL (l : List Nd) : List Nat := [(encL l).length, (structL l).length, (stringsL l).length, l.length]
theorem tailM_by {n h3 h5 h7 : Nat} {r a b s1 s2 : List UInt8} {tb : List Nm} {nodes : List Nd} (ea : r.take h3 = a) (eb : r.drop h3 = b) (e1 : cellM 1 a = some (1, s1)) (e2 : nodeM b 16 (-1) 1 (s1, [], []) = some (s2, tb, nodes)) (e3 : cellM 9 s2 = some (9, []))
    (e4 : sizeN tb = b.length) (e5 : h7 = nodes.length) (e6 : treeOk nodes = true) : tailM n r h3 h5 h7 = some (nodes, [n, h3, h5, h7]) := by
  unfold tailM
  simp only [ea, eb, e1, e2, e3, e4, e5, e6]
  simp
theorem readM_by {s r : List UInt8} {h0 h1 h2 h3 h4 h5 h6 h7 : Nat} {R : Option (List Nd × List Nat)} (hc : cellsM 8 s = some ([h0, h1, h2, h3, h4, h5, h6, h7], r)) (c0 : h0 = 0xD00DFEED) (c1 : h1 = s.length) (c2 : h2 = 32) (c4 : h4 = 32 + h3) (c3 : h3 ≤ r.length) (c5 : h5 = r.length - h3) (c6 : h6 = 17) (ht : tailM s.length r h3 h5 h7 = R) : readM s = R := by
  unfold readM
  rw [hc]
  dsimp only
  rw [if_neg, ht]
  simp only [not_or, ne_eq, Classical.not_not, Nat.not_lt]
  exact ⟨c0, c1, c2, c4, c3, c5, c6⟩
theorem cells8 {a b c d e f g h : Nat} {r : List UInt8} (hs : ∀ n ∈ [a, b, c, d, e, f, g, h], n < 4294967296) : cellsM 8 ([a, b, c, d, e, f, g, h].flatMap cell4 ++ r) = some ([a, b, c, d, e, f, g, h], r) := cellsM_full [a, b, c, d, e, f, g, h] r hs
theorem cell_le {n : Nat} {s : List UInt8} (h : n < 4294967296) : cellM n (cell4 n ++ s) = some (n, s) := cellM_cell (Nat.le_refl n) h
theorem readM_full {l : List Nd} (h : treeOk l = true) : readM (encL l) = some (l, headL l) := by
  have hs1 := struct_size h
  have hs2 := names_size h
  have hs3 := strings_size l
  have hl := treeOk_len h
  have hel := encL_length l
  have e0 : encL l = [0xD00DFEED, 32 + (structL l).length + (stringsL l).length, 32, (structL l).length, 32 + (structL l).length, (stringsL l).length, 17, l.length].flatMap cell4 ++ (structL l ++ stringsL l) := by
    unfold encL
    rw [headB_flat]
  have hc := cells8 (a := 0xD00DFEED) (b := 32 + (structL l).length + (stringsL l).length) (c := 32) (d := (structL l).length) (e := 32 + (structL l).length) (f := (stringsL l).length) (g := 17) (h := l.length) (r := structL l ++ stringsL l) (fun n hn => by
    simp only [List.mem_cons, List.not_mem_nil, or_false] at hn
    omega)
  rw [← e0] at hc
  have ht : tailM (encL l).length (structL l ++ stringsL l) (structL l).length (stringsL l).length l.length = some (l, headL l) := by
    obtain ⟨τ, rfl, hτ⟩ := treeOk_parse h
    obtain ⟨h1, h2, h3⟩ := okTree_parts hτ
    obtain ⟨s, hs⟩ := stK_cons_cell (namesN [] (flT τ (-1) 0)) τ (cell4 9)
    have e1 : cellM 1 (structL (flT τ (-1) 0)) = some (1, s) := by
      rw [structL_T h, hs]
      exact cell_le (by omega)
    have e2 : nodeM (stringsL (flT τ (-1) 0)) 16 (-1) 1 (s, [], []) = some (cell4 9, namesN [] (flT τ (-1) 0), flT τ (-1) 0) :=
      nodeM_full (all := namesN [] (flT τ (-1) 0)) (by omega) 16 τ (-1) 1 s (cell4 9) [] [] [] rfl h3 (by rw [h1]; exact nmOk_nil) (by simpa using h2) (by simp) hs.symm
    have e3 : cellM 9 (cell4 9) = some (9, []) := by
      have := cell_le (n := 9) (s := []) (by omega)
      rwa [List.append_nil] at this
    exact tailM_by (List.take_left' rfl) (List.drop_left' rfl) e1 e2 e3 hs3.symm rfl h
  exact readM_by hc rfl (by omega) rfl rfl (by rw [List.length_append]; omega) (by rw [List.length_append]; omega) rfl ht
theorem readM_sound {s : List UInt8} {l : List Nd} {hd : List Nat} (h : readM s = some (l, hd)) : treeOk l = true ∧ s = encL l ∧ hd = headL l := by
  unfold readM at h
  split at h
  · rename_i h0 h1 h2 h3 h4 h5 h6 h7 r hc
    split at h
    · cases h
    rename_i hcond
    simp only [not_or, ne_eq, Classical.not_not, Nat.not_lt] at hcond
    obtain ⟨c0, c1, c2, c4, c3, c5, c6⟩ := hcond
    obtain ⟨_, q2, _⟩ := cellsM_sound hc
    unfold tailM at h
    split at h
    · cases h
    rename_i c s1 hc1
    split at h
    · cases h
    rename_i hc2
    simp only [ne_eq, Classical.not_not] at hc2
    split at h
    · cases h
    rename_i s2 tb nodes hn
    split at h
    · cases h
    rename_i c9 s3 hc9
    split at h
    · cases h
    rename_i hlast
    simp only [not_or, ne_eq, Classical.not_not, Bool.not_eq_false] at hlast
    obtain ⟨l9, l3, lsz, l7, lok⟩ := hlast
    cases h
    obtain ⟨e1, _, _⟩ := cellM_sound hc1
    obtain ⟨e9, _, _⟩ := cellM_sound hc9
    obtain ⟨τ, n1, n2, n3, n4⟩ := nodeM_sound _ _ _ _ _ _ _ _ _ hn
    simp only [List.nil_append, List.length_nil] at n1 n2
    subst n1
    have t4 := n4 ⟨by simp [sizeN], by simp [sizeN, strsN]⟩
    have eS : structL (flT τ (-1) 0) = r.take h3 := by
      rw [structL_T lok, e1, hc2, n3 _ [] (by rw [List.append_nil]), n2, e9, l9, l3, List.append_nil]
    have eN : stringsL (flT τ (-1) 0) = r.drop h3 := by
      have := t4.2
      rw [lsz, List.take_length] at this
      rw [this, n2]; rfl
    have lS : (structL (flT τ (-1) 0)).length = h3 := by rw [eS]; simp; omega
    have lN : (stringsL (flT τ (-1) 0)).length = r.length - h3 := by rw [eN]; simp
    have es : s = encL (flT τ (-1) 0) := by
      unfold encL
      rw [headB_flat, lS, lN, eS, eN, List.take_append_drop]
      have : s.length = 32 + h3 + (r.length - h3) := by
        have := congrArg List.length q2
        simp only [List.length_append, List.flatMap_cons, List.flatMap_nil, cell4_length, List.length_nil] at this
        omega
      rw [c1, this] at q2
      rw [q2, c0, c2, c4, c5, c6, l7]
    refine ⟨lok, es, ?_⟩
    unfold headL
    rw [← es, lS, lN, c5, l7]
  · cases h
end Go.Proofs.YtlkhajheecglgaaDoor

namespace Go.Proofs.YtlkhajheecglgaaDoor
open Go Wk
open Go.RowKit (Below)
attribute [local irreducible] Go.Calls

theorem len_size : ∀ (all : List Nm), all.length ≤ sizeN all
  | [] => Nat.le_refl _
  | s :: r => by have := len_size r; simp only [List.length_cons, sizeN]; omega
theorem namesN_snoc {l : List Nd} {i : Nat} {x : Nd} (hx : l[i]? = some x) (all : List Nm) : namesN all (l.take (i + 1)) = namesP (namesN all (l.take i)) x.props := by
  rw [take_snoc hx]; unfold namesN; rw [List.foldl_append]; rfl
theorem namesP_snoc {l : List Pr} {i : Nat} {x : Pr} (hx : l[i]? = some x) (all : List Nm) : namesP all (l.take (i + 1)) = addNm (namesP all (l.take i)) x.1 := by
  rw [take_snoc hx]; unfold namesP; rw [List.foldl_append]; rfl
theorem names_part {l : List Nd} (hp : ∀ x ∈ l, propsOk x.props = true) {i j : Nat} {x : Nd} (hx : l[i]? = some x) : sizeN (namesP (namesN [] (l.take i)) (x.props.take j)) ≤ 1024 * (i + 1) := by
  have hi := (List.getElem?_eq_some_iff.1 hx).1
  have h1 := sizeN_namesN (l.take i) [] fun y hy => hp y (List.mem_of_mem_take hy)
  have h0 := propsOk_all (hp x (List.mem_of_getElem? hx))
  have h2 := sizeN_namesP (x.props.take j) (namesN [] (l.take i)) fun p hq => h0.2 p (List.mem_of_mem_take hq)
  have h3 := h0.1
  rw [List.length_take] at h1 h2
  have : sizeN [] = 0 := rfl
  omega
abbrev Up (w : World) : Nat → Prop := fun b => w.heap.size ≤ b
theorem Tb.up {w0 w w' : World} {p : Value} {all : List Nm} (h : Tb (fun b => w0.heap.size ≤ b ∨ w.heap.size ≤ b) w' p all) (hs : w0.heap.size ≤ w.heap.size) : Tb (Up w0) w' p all := h.mono fun k _ hk => by rcases hk with h | h; exact h; show _ ≤ _; omega
theorem chg_up {w0 w w' : World} (h : New w0 w) (c : Chg (Up w0) w w') : New w0 w' := Chg.trans h c fun k hk e => by have : w0.heap.size ≤ k := e; omega
set_option maxRecDepth 4000 in
theorem names_spec {Pb : Nat → Prop} {w : World} {v : Value} {l : List Nd} (h : RdS rNd 3 Pb w v l) (hp : ∀ x ∈ l, propsOk x.props = true) (hl : l.length ≤ 512) :
    Calls Tryd.prog 27 #[v] w (Ret fun r w' => Tb (Up w) w' r (namesN [] l) ∧ New w w') := by
  obtain ⟨a, cap, rfl, hc1, hc2⟩ := h.form
  refine calls_of_Wc Tryd.func27 rfl Tryd.ntmps27 rfl ?_
  (repeat' (first | refine Wl.assignE (by conv => { lhs; whnf }) ?_ | refine Wl.nil ?_ | refine Qseq.normal ?_ | refine Wc.seq ?_ | refine Wc.region ?_))
  refine Wl.makeMap (k := 9) fun w1 m1 n1 s1 => ?_
  refine Wl.buildF (ps := [(1, .tmp 8)]) (parts := [(1, .map (some w.heap.size))]) rfl rfl (by simp [Value.cells]) ?_
  refine Wl.box (u := .agg #[.slice none 0 0, .map (some w.heap.size), vi 0]) rfl fun w2 b2 n2 s2 => ?_
  replace b2 : Bk w2 w1.heap.size tTbl [.slice none 0 0, .map (some w.heap.size), vi 0] := b2
  have t2 : Tb (Up w) w2 (.pointer (some ⟨w1.heap.size, 0, none⟩)) (namesN [] (l.take 0)) :=
    ⟨w1.heap.size, w.heap.size, .slice none 0 0, rfl, b2, m1.chg n2 id, OwnS.nil, by simp [namesN], n1.size, Nat.le_refl _, by omega⟩
  have n02 := New.trans n1 n2
  generalize hpp : Value.pointer (some ⟨w1.heap.size, 0, none⟩) = p at t2
  clear b2 m1
  (repeat' (first | refine Wl.moveE (by conv => { lhs; whnf }) ?_ | refine Wl.assignE (by conv => { lhs; whnf }) ?_ | refine Wl.nil ?_ | refine Wl.lenS rfl ?_ | refine Qseq.normal ?_ | refine Wc.seq ?_ | refine Wc.region ?_ | refine Wc.block ?_))
  refine Wc.loop (σ := Nat) (fun i => [(3, p), (11, .slice a l.length cap), (12, vi l.length), (13, vi i)]) (fun i w' => i ≤ l.length ∧ Tb (Up w) w' p (namesN [] (l.take i)) ∧ New w w') (fun i => l.length - i)
    0 ⟨(by subst hpp; rfl), rfl, rfl, rfl, trivial⟩ ⟨Nat.zero_le _, t2, n02⟩ ?_
  clear t2 hpp n02 n1 n2
  rintro i G w3 ⟨hi, t3, n3⟩
  simp only [upds]
  (repeat' (first | refine Wl.moveE (by conv => { lhs; whnf }) ?_ | refine Wl.assignE (by conv => { lhs; whnf }) ?_ | refine Wl.nil ?_ | refine Qseq.normal ?_ | refine Wc.seq ?_ | refine Wc.region ?_ | refine Wc.block ?_ | refine Wc.skip ?_ | refine Wc.exit ?_ | refine Wc.ret ?_ | refine Qseq.exit ?_ | refine Qblk.hit ?_ | refine Qloop.exit ?_ | refine Wc.condT rfl ?_ | refine Wc.condF rfl ?_ | refine Wl.lss rfl rfl (fun _ => ?_) (fun _ => ?_)))
  · obtain ⟨x, hx⟩ := get_lt l (k := i) (by omega)
    have h3 := n3.size
    refine Wl.idxAddr ((h.mono monoNd (Pb' := fun b => Pb b ∧ b < w.heap.size) fun b hb e => ⟨e, hb⟩).keep stableNd n3.keep) rfl rfl (by omega) hx fun b o cs hcl hR hat => ?_
    obtain ⟨pv, rfl, hpr⟩ := hR
    obtain ⟨pa, pc, rfl, _, hpm⟩ := hpr.form
    simp only [maxLen] at hpm
    have hpl := hpr
    refine Wl.loadAt hat rfl rfl ?_
    clear hat
    refine Wl.alloc fun w5 b5 n5 s5 => ?_
    skip
    refine Wl.storeB (new := [vi x.parent, vs x.name, .slice pa x.props.length pc]) b5 rfl rfl rfl rfl (show (3 : Nat) ≤ 3 from Nat.le_refl 3) (by intro c hc; simp at hc; rcases hc with rfl | rfl | rfl <;> rfl) fun w6 b6 c6 s6 => ?_
    replace b6 : Bk w6 w3.heap.size 39 [vi x.parent, vs x.name, .slice pa x.props.length pc] := b6
    have n36 : New w3 w6 := Chg.trans n5 c6 fun k hk e => by omega
    have t6 := t3.chg n36 fun _ _ _ e => e
    have n6 := New.trans n3 n36
    have hp6 : RdS rPr 2 (fun b => Pb b ∧ b < w.heap.size) w6 (.slice pa x.props.length pc) x.props := hpl.keep (stable_flat pC) n36.keep
    clear t3 n5 c6 b5 hpl hpr
    (repeat' (first | refine Wl.nil ?_ | refine Qseq.normal ?_ | refine Wc.seq ?_ | refine Wc.region ?_ | refine Wl.fieldAddr rfl rfl ?_))
    refine Wl.load1 rfl (b6.cell (o := 2) rfl) ?_
    (repeat' (first | refine Wl.moveE (by conv => { lhs; whnf }) ?_ | refine Wl.nil ?_ | refine Wl.lenS rfl ?_ | refine Qseq.normal ?_ | refine Wc.block ?_))
    refine Wc.loop (σ := Nat) (fun j => [(3, p), (11, .slice a l.length cap), (12, vi l.length), (13, vi i), (18, .slice pa x.props.length pc), (19, vi x.props.length), (20, vi j)]) (fun j w' => j ≤ x.props.length ∧ Tb (Up w) w' p (namesP (namesN [] (l.take i)) (x.props.take j)) ∧ New w w' ∧ RdS rPr 2 (fun b => Pb b ∧ b < w.heap.size) w' (.slice pa x.props.length pc) x.props) (fun j => x.props.length - j)
      0 ⟨rfl, rfl, rfl, rfl, rfl, rfl, rfl, trivial⟩ ⟨Nat.zero_le _, t6, n6, hp6⟩ ?_
    clear t6 n6 hp6
    rintro j G w7 ⟨hj, t7, n7, hp7⟩
    simp only [upds]
    (repeat' (first | refine Wl.moveE (by conv => { lhs; whnf }) ?_ | refine Wl.nil ?_ | refine Qseq.normal ?_ | refine Wc.seq ?_ | refine Wc.region ?_ | refine Wc.block ?_ | refine Wc.skip ?_ | refine Wc.exit ?_ | refine Qseq.exit ?_ | refine Qblk.normal ?_ | refine Qblk.hit ?_ | refine Qloop.exit ?_ | refine Wc.condT rfl ?_ | refine Wc.condF rfl ?_ | refine Wl.add rfl rfl (by omega) (by omega) ?_ | refine Wl.lss rfl rfl (fun _ => ?_) (fun _ => ?_)))
    · obtain ⟨q, hq⟩ := get_lt x.props (k := j) (by omega)
      have hsz := names_part hp hx (j := j)
      have hln := len_size (namesP (namesN [] (l.take i)) (x.props.take j))
      have hi' := (List.getElem?_eq_some_iff.1 hx).1
      have hnl := ((propsOk_all (hp x (List.mem_of_getElem? hx))).2 q (List.mem_of_getElem? hq)).1.2
      refine Wl.idxAddr hp7 rfl rfl (by omega) hq fun b o cs hl hR hat => ?_
      obtain rfl : cs = pC q := hR
      refine Wl.loadAt hat rfl rfl ?_
      refine Wl.alloc fun w8 b8 n8 s8 => ?_
      refine Wl.storeB (new := pC q) b8 rfl rfl rfl rfl (show (2 : Nat) ≤ 2 from Nat.le_refl 2) (goodPr.oc (fun _ => True) w q _ rfl rfl) fun w9 b9 c9 s9 => ?_
      replace b9 : Bk w9 w7.heap.size 41 (pC q) := b9
      have n79 : New w7 w9 := Chg.trans n8 c9 fun k hk e => by omega
      have t9 := t7.chg n79 fun _ _ _ e => e
      clear hat b8 c9 n8 t7
      (repeat' (first | refine Wl.moveE (by conv => { lhs; whnf }) ?_ | refine Wl.nil ?_ | refine Qseq.normal ?_ | refine Wc.region ?_ | refine Wl.fieldAddr rfl rfl ?_))
      refine Wl.load1 rfl (b9.cell (o := 0) rfl) ?_
      refine Wl.call (put_spec (nm := q.1) t9 (by omega) (by omega) (by omega)) rfl ?_
      rintro _ w10 ⟨rfl, t10, c10⟩
      have s9' := n79.size
      have s7' := n7.size
      (repeat' (first | refine Wl.moveE (by conv => { lhs; whnf }) ?_ | refine Wl.nil ?_ | refine Qseq.normal ?_ | refine Wc.region ?_ | refine Qblk.normal ?_ | refine Wl.add rfl rfl (by omega) (by omega) ?_))
      refine Qloop.normal (j + 1) ⟨rfl, rfl, rfl, rfl, rfl, rfl, rfl, trivial⟩ ⟨by omega, ?_, chg_up (New.trans n7 n79) c10, (hp7.keep (stable_flat pC) n79.keep).keep (stable_flat pC) (c10.keep fun k hk e1 e2 => by have : w.heap.size ≤ k := e2; omega)⟩ (by omega)
      rw [namesP_snoc hq]
      exact t10.up (by omega)
    · obtain rfl : j = x.props.length := by omega
      rw [List.take_length, ← namesN_snoc hx] at t7
      skip
      refine Qloop.normal (i + 1) ⟨rfl, rfl, rfl, rfl, trivial⟩ ⟨by omega, t7, n7⟩ (by omega)
  · obtain rfl : i = l.length := by omega
    rw [List.take_length] at t3
    skip
    exact Qfn.ret1 rfl rfl ⟨_, rfl, t3, n3⟩
end Go.Proofs.YtlkhajheecglgaaDoor

namespace Go.Proofs.YtlkhajheecglgaaDoor
open Go Wk
open Go.RowKit (Below)
attribute [local irreducible] Go.Calls

abbrev tBytes : TypeId := 29
abbrev tNodes : TypeId := 22
abbrev ptrB (b : Nat) : Value := .pointer (some ⟨b, 0, none⟩)
set_option maxRecDepth 4000 in
/-- A name that is there already. -/
theorem put_has {M : Nat → Prop} {w : World} {p : Value} {all : List Nm} {nm : Nm} (h : Tb M w p all) (hn : nm.length ≤ 100000000000) (hin : nm ∈ all) :
    Calls Tryd.prog 42 #[p, vs nm] w (Ret fun r w' => r = vi (placeN all nm) ∧ w = w') := by
  obtain ⟨b, m, sl, rfl, h⟩ := h
  obtain ⟨q, hq⟩ := keyStr nm (by simp only [maxLen]; omega)
  refine calls_of_Wc Tryd.func42 rfl Tryd.ntmps42 rfl ?_
  (repeat' (first | refine Wl.moveE (by conv => { lhs; whnf }) ?_ | refine Wl.assignE (by conv => { lhs; whnf }) ?_ | refine Wl.nil ?_ | refine Qseq.normal ?_ | refine Wc.seq ?_ | refine Wc.region ?_ | refine Wl.nilP rfl ?_ | refine Wl.fieldAddr rfl rfl ?_))
  refine Wl.load1 rfl (h.bk.cell (o := 1) rfl) ?_
  (repeat' (refine Wl.moveE (by conv => { lhs; whnf }) ?_))
  refine Wl.lookupOk strKeyed h.mp hq rfl rfl (fun r hr => ?_) (fun hr => ?_)
  · obtain ⟨_, rfl⟩ := tbL_mem hr
    (repeat' (first | refine Wl.moveE (by conv => { lhs; whnf }) ?_ | refine Wl.assignE (by conv => { lhs; whnf }) ?_ | refine Wl.nil ?_ | refine Wl.extract rfl rfl ?_ | refine Wl.notB rfl ?_ | refine Qseq.normal ?_ | refine Wc.seq ?_ | refine Wc.region ?_ | refine Wc.skip ?_ | refine Wc.ret ?_ | refine Wc.condF rfl ?_))
    exact Qfn.ret1 rfl rfl ⟨_, rfl, rfl, rfl⟩
  · exact absurd hin (tbL_no hr)
def caps (s : Nat) : List Value := [ptrB (s + 3), ptrB (s + 2), ptrB s, ptrB (s + 1), ptrB (s + 4)]
def cloV (s : Nat) : Value := .func (.func 43) #[] (caps s).toArray
structure St (s : Nat) (w : World) (v p : Value) (all : List Nm) (l : List Nd) (k : Nat) (bytes : List UInt8) : Prop where
  nb : Bk w (s + 3) 3 [vi k]
  bb : ∃ bv, Bk w (s + 2) tBytes [bv] ∧ Bs (fun b => s + 5 ≤ b) w bv bytes
  lb : Bk w s tNodes [v]
  tb : Bk w (s + 1) 58 [p]
  fb : Bk w (s + 4) 1 [cloV s]
  rd : RdS rNd 3 (fun b => b < s) w v l
  tbl : Tb (fun b => b < s) w p all
/-- What a tree's props and names may be. -/
structure NdB (all : List Nm) (l : List Nd) : Prop where
  len : l.length ≤ 512
  nm : ∀ x ∈ l, x.name.length ≤ 31
  cnt : ∀ x ∈ l, x.props.length ≤ 32
  pr : ∀ x ∈ l, ∀ p ∈ x.props, p.1 ∈ all ∧ p.1.length ≤ 31 ∧ p.2.length ≤ 1024
abbrev Hi (s : Nat) : Nat → Prop := fun b => s + 5 ≤ b
structure St0 (s : Nat) (w : World) (v p : Value) (all : List Nm) (l : List Nd) : Prop where
  lb : Bk w s tNodes [v]
  tb : Bk w (s + 1) 58 [p]
  fb : Bk w (s + 4) 1 [cloV s]
  rd : RdS rNd 3 (fun b => b < s) w v l
  tbl : Tb (fun b => b < s) w p all
theorem St.st0 {s : Nat} {w : World} {v p : Value} {all : List Nm} {l : List Nd} {k : Nat} {bytes : List UInt8} (h : St s w v p all l k bytes) : St0 s w v p all l := ⟨h.lb, h.tb, h.fb, h.rd, h.tbl⟩
theorem St0.chg {s : Nat} {w w' : World} {v p : Value} {all : List Nm} {l : List Nd} (h : St0 s w v p all l) (c : Chg (fun b => b = s + 2 ∨ b = s + 3 ∨ s + 5 ≤ b) w w') : St0 s w' v p all l :=
  ⟨h.lb.chg c (by omega), h.tb.chg c (by omega), h.fb.chg c (by omega), h.rd.keep stableNd (c.keep fun b _ e1 e2 => by omega), h.tbl.chg c fun b _ e1 e2 => by omega⟩
theorem St0.hi {s : Nat} {w w' : World} {v p : Value} {all : List Nm} {l : List Nd} (h : St0 s w v p all l) (c : Chg (Hi s) w w') : St0 s w' v p all l := h.chg (c.mono fun b _ e => .inr (.inr e))
theorem gw_hi {s : Nat} {w0 w w' : World} {v v' : Value} {l l' : List UInt8} (h : Bs (Hi s) w v l) (c : Chg (Hi s) w0 w) (hs : s + 5 ≤ w.heap.size) (g : Gw (Hi s) w v w' v' l') : Bs (Hi s) w' v' l' ∧ Chg (Hi s) w0 w' :=
  ⟨g.own.mono mono8 (fun b _ e => by rcases e with e | e; exact e; show _ ≤ _; omega) (fun _ _ e => e), c.trans g.chg fun b _ e => (h.lt e).1⟩
theorem nodeB_length (all : List Nm) {nm : Nm} {ps : List Pr} (hn : nm.length ≤ 31) (hc : ps.length ≤ 32) (hp : ∀ p ∈ ps, p.2.length ≤ 1024) : (nodeB all nm ps).length ≤ 40000 := by
  have key : ∀ ps : List Pr, (∀ p ∈ ps, p.2.length ≤ 1024) → (ps.flatMap (propB all)).length ≤ 1040 * ps.length := by
    intro ps
    induction ps with
    | nil => intro _; simp
    | cons p r ih =>
      intro h
      have h1 := h p (by simp)
      have h2 := ih fun q hq => h q (by simp [hq])
      simp only [List.flatMap_cons, List.length_append, List.length_cons, propB, cell4_length, fil_length, up4]
      omega
  have := key ps hp
  simp only [nodeB, List.length_append, cell4_length, fil_length, up4, List.length_singleton]
  omega
theorem fl_split {l rest : List Nd} {k : Nat} {nm : List UInt8} {ps : List Pr} {ks : List T} {up : Int} (h : l.drop k = flT (.mk nm ps ks) up k ++ rest) : l[k]? = some ⟨up, nm, ps⟩ ∧ l.drop (k + 1) = flK ks k (k + 1) ++ rest := by
  refine ⟨?_, ?_⟩
  · have := congrArg (fun q => q[0]?) h
    simpa [flT] using this
  · have := congrArg (List.drop 1) h
    simpa [flT] using this
theorem kid_split {l rest : List Nd} {q at_ : Nat} {t : T} {ts : List T} (h : l.drop q = flK (t :: ts) at_ q ++ rest) : l.drop q = flT t (at_ : Int) q ++ (flK ts at_ (q + szT t) ++ rest) ∧ l.drop (q + szT t) = flK ts at_ (q + szT t) ++ rest := by
  simp only [flK, List.append_assoc] at h
  refine ⟨h, ?_⟩
  have := congrArg (List.drop (szT t)) h
  rw [List.drop_drop, ← flT_length t (at_ : Int) q, List.drop_left] at this
  rwa [flT_length] at this
theorem kid_bound {c d Z Z1 Z2 k q Y : Nat} (h1 : Z2 + c * (k + 1) ≤ Z1 + d + c * q) (h2 : Z ≤ Z2 + c * Y) : Z + c * (k + 1) ≤ Z1 + d + c * (q + Y) := by
  rw [Nat.mul_add c q Y]
  generalize c * (k + 1) = a at *
  generalize c * q = b at *
  generalize c * Y = e at *
  omega
set_option maxHeartbeats 4000000 in
set_option maxRecDepth 8000 in
theorem node_spec {s : Nat} {v p : Value} {all : List Nm} {l : List Nd} (hN : NdB all l) : ∀ (f : Nat) (τ : T) (w : World) (k : Nat) (up : Int) (rest : List Nd) (bytes : List UInt8), szT τ ≤ f → St s w v p all l k bytes → bytes.length ≤ 40004 * k →
    l.drop k = flT τ up k ++ rest → (∀ x, rest[0]? = some x → x.parent < (k : Int)) →
    Calls Tryd.prog 43 (caps s).toArray w (Ret fun _ w' => St s w' v p all l (k + szT τ) (bytes ++ stT all τ) ∧ (bytes ++ stT all τ).length ≤ bytes.length + 40004 * szT τ ∧ Chg (fun b => b = s + 2 ∨ b = s + 3 ∨ s + 5 ≤ b) w w') := by
  intro f
  induction f with
  | zero => intro τ _ _ _ _ _ h; have := szT_pos τ; omega
  | succ f ih =>
    rintro ⟨nm, ps, ks⟩ w k up rest bytes hf hS hby hl hrest
    obtain ⟨hx, hks⟩ := fl_split hl
    have hk := (List.getElem?_eq_some_iff.1 hx).1
    have hxm := List.mem_of_getElem? hx
    have hlen := hN.len
    have hnm : nm.length ≤ 31 := hN.nm _ hxm
    have hcnt : ps.length ≤ 32 := hN.cnt _ hxm
    have hpr : ∀ p ∈ ps, p.1 ∈ all ∧ p.1.length ≤ 31 ∧ p.2.length ≤ 1024 := hN.pr _ hxm
    have hnb := nodeB_length all hnm hcnt fun p hp => (hpr p hp).2.2
    obtain ⟨va, vc, rfl, hvc1, hvc2⟩ := hS.rd.form
    have hs5 := hS.fb.lt
    have hend : k + (1 + szK ks) ≤ l.length := by
      have := congrArg List.length hl
      rw [List.length_append, flT_length, List.length_drop] at this
      simp only [szT] at this
      omega
    refine calls_of_Wc Tryd.func43 rfl Tryd.ntmps43 rfl ?_
    (repeat' (first | refine Wc.seq ?_ | refine Wc.region ?_))
    refine Wl.load1 rfl (hS.nb.cell (o := 0) rfl) ?_
    (repeat' (first | refine Wl.assignE (by conv => { lhs; whnf }) ?_ | refine Wl.nil ?_ | refine Qseq.normal ?_ | refine Wc.seq ?_ | refine Wc.region ?_))
    refine Wl.load1 rfl (hS.nb.cell (o := 0) rfl) ?_
    (repeat' (refine Wl.add rfl rfl (by omega) (by omega) ?_))
    refine Wl.store1 (u := vi (k + 1 : Nat)) hS.nb rfl (show (0 : Nat) < 1 by omega) rfl rfl fun w1 nb1 c1 => ?_
    replace nb1 : Bk w1 (s + 3) 3 [vi (k + 1 : Nat)] := nb1
    have c1' : Chg (fun b => b = s + 2 ∨ b = s + 3 ∨ s + 5 ≤ b) w w1 := c1.mono fun b _ e => by omega
    have z1 := hS.st0.chg c1'
    obtain ⟨bv, bb, by0⟩ := hS.bb
    have bb1 := bb.chg c1 (by omega)
    have by1 := by0.chg (plain_one _) c1 fun k hk e => by have := (by0.lt hk).1; omega
    have rd1 := z1.rd
    have lb1 := z1.lb
    have kpC : ∀ w', Chg (Hi s) w1 w' → Keep (fun b => b < s) w1 w' := fun w' hw => hw.keep fun b _ e1 e2 => by have : s + 5 ≤ b := e2; omega
    (repeat' (first | refine Wl.nil ?_ | refine Qseq.normal ?_ | refine Wc.seq ?_))
    refine Wc.regionT rfl (by kernel_rfl) (Chg (Hi s) w1) (Chg.drew _ _) ?_
    intro w2 n2
    skip
    refine Wt.quiet rfl (Wq.load1 rfl (fun w' hw => (bb1.chg hw (fun e => by have : s + 5 ≤ s + 2 := e; omega)).cell (o := 0) rfl) (Wq.nil ?_))
    have by2 := by1.new (plain_one _) n2
    have c12 : Chg (Hi s) w1 w2 := n2.any
    refine Wt.chain rfl (Wl.call (cell_spec (n := 1) by2 (by omega)) rfl ?_)
    rintro bv3 w3 g3
    have s2 := n2.size
    have s1 := c1.size
    obtain ⟨by3, c13⟩ := gw_hi by2 c12 (by omega) g3
    refine Wl.nil ⟨rfl, c13, ?_⟩
    skip
    refine Wt.quiet rfl (Wq.load1 rfl (fun w' hw => (lb1.chg hw (fun e => by have : s + 5 ≤ s := e; omega)).cell (o := 0) rfl) (Wq.nil ?_))
    (repeat' (refine Wt.quiet rfl (Wq.moveE (by conv => { lhs; whnf }) (Wq.nil ?_))))
    refine Wt.quiet rfl (Wq.idxAddr rd1 kpC rfl rfl (by omega) hx fun b o cs hcl hR hat => Wq.nil ?_)
    obtain ⟨pv, rfl, hpr1⟩ := hR
    obtain ⟨pa, pc, rfl, _, hpm⟩ := hpr1.form
    simp only [maxLen] at hpm
    (repeat' (refine Wt.quiet rfl (Wq.fieldAddr rfl rfl (Wq.nil ?_))))
    refine Wt.quiet rfl (Wq.load1 rfl (fun w' hw => (hat w' hw).get 1 rfl) (Wq.nil ?_))
    refine Wt.quiet rfl (Wq.sadd rfl rfl (by show nm.length + 1 ≤ _; omega) (Wq.nil ?_))
    refine Wt.chain rfl (Wl.call (filled_spec (s := nm ++ [0]) by3 (by simp only [List.length_append, cell4_length]; omega) (by simp; omega)) rfl ?_)
    rintro bv4 w4 g4
    have s3 := c13.size
    obtain ⟨by4, c14⟩ := gw_hi by3 c13 (by omega) g4
    refine Wl.nil ⟨rfl, c14, ?_⟩
    have bb4 := bb1.chg c14 (fun e => by have : s + 5 ≤ s + 2 := e; omega)
    have nb4 := nb1.chg c14 (fun e => by have : s + 5 ≤ s + 3 := e; omega)
    refine Wt.last rfl (Wl.store1 (u := bv4) bb4 rfl (show (0 : Nat) < 1 by omega) rfl (OwnS.blk1 by4) fun w5 bb5 c5 => ?_)
    replace bb5 : Bk w5 (s + 2) tBytes [bv4] := bb5
    have nb5 := nb4.chg c5 (by omega)
    have by5 := by4.chg (plain_one _) c5 fun k hk e => by have : s + 5 ≤ k := (by4.lt hk).1; omega
    have z5 := (z1.hi c14).chg (c5.mono fun b _ e => .inl e)
    have c05 : Chg (fun b => b = s + 2 ∨ b = s + 3 ∨ s + 5 ≤ b) w w5 := (c1'.trans (c14.mono fun b _ e => .inr (.inr e)) fun _ _ e => e).trans (c5.mono fun b _ e => .inl e) fun _ _ e => e
    clear nb4 bb4 by4 by3 by2 hat g3 g4 hpr1 c13 c12 c14 c5 by1 bb1 nb1
    have rd5 := z5.rd
    (repeat' (first | refine Wl.nil ?_ | refine Qseq.normal ?_ | refine Wc.seq ?_ | refine Wc.region ?_))
    refine Wl.load1 rfl (z5.lb.cell (o := 0) rfl) ?_
    (repeat' (refine Wl.moveE (by conv => { lhs; whnf }) ?_))
    refine Wl.idxAddr rd5 rfl rfl (by omega) hx fun b o cs hcl hR hat => ?_
    obtain ⟨pv, rfl, hpr5⟩ := hR
    obtain ⟨pa, pc, rfl, _, hpm⟩ := hpr5.form
    (repeat' (refine Wl.fieldAddr rfl rfl ?_))
    refine Wl.load1 rfl (hat.get 2 rfl) ?_
    clear hat
    (repeat' (first | refine Wl.moveE (by conv => { lhs; whnf }) ?_ | refine Wl.nil ?_ | refine Wl.lenS rfl ?_ | refine Qseq.normal ?_ | refine Wc.block ?_))
    refine Wc.loop (σ := Nat) (fun j => [(0, ptrB (s + 3)), (1, ptrB (s + 2)), (2, ptrB s), (3, ptrB (s + 1)), (4, ptrB (s + 4)), (5, vi k), (24, .slice pa ps.length pc), (25, vi ps.length), (26, vi j)])
      (fun j w' => j ≤ ps.length ∧ St s w' (.slice va l.length vc) p all l (k + 1) (bytes ++ (cell4 1 ++ (fil (nm ++ [0]) ++ (ps.take j).flatMap (propB all)))) ∧ RdS rPr 2 (fun b => b < s) w' (.slice pa ps.length pc) ps ∧ Chg (fun b => b = s + 2 ∨ b = s + 3 ∨ s + 5 ≤ b) w w') (fun j => ps.length - j)
      0 ⟨rfl, rfl, rfl, rfl, rfl, rfl, rfl, rfl, rfl, trivial⟩ ⟨Nat.zero_le _, ⟨nb5, ⟨bv4, bb5, by simpa using by5⟩, z5.lb, z5.tb, z5.fb, z5.rd, z5.tbl⟩, hpr5, c05⟩ ?_
    clear z5 nb5 bb5 by5 rd5 hpr5 c05 z1 rd1 lb1 c1 n2 s1 s2 s3 kpC c1'
    rintro j G w6 ⟨hj, hS6, hp6, c06⟩
    simp only [upds]
    have s6 := hS6.fb.lt
    (repeat' (first | refine Wl.nil ?_ | refine Qseq.normal ?_ | refine Wc.seq ?_ | refine Wc.region ?_ | refine Wc.block ?_ | refine Wc.skip ?_ | refine Wc.exit ?_ | refine Qseq.exit ?_ | refine Qblk.hit ?_ | refine Qloop.exit ?_ | refine Wc.condT rfl ?_ | refine Wc.condF rfl ?_ | refine Wl.lss rfl rfl (fun _ => ?_) (fun _ => ?_)))
    · obtain ⟨q, hq⟩ := get_lt ps (k := j) (by omega)
      obtain ⟨hq1, hq2, hq3⟩ := hpr q (List.mem_of_getElem? hq)
      obtain ⟨bv, bb6, by6⟩ := hS6.bb
      have hbl : (bytes ++ (cell4 1 ++ (fil (nm ++ [0]) ++ (ps.take j).flatMap (propB all)))).length ≤ 90000000 := by
        have h1 := nodeB_length all (nm := nm) (ps := ps.take j) hnm (by rw [List.length_take]; omega) fun p hp => (hpr p (List.mem_of_mem_take hp)).2.2
        unfold nodeB at h1
        rw [List.length_append]
        omega
      refine Wl.idxAddr hp6 rfl rfl (by omega) hq fun b o cs hl hR hat => ?_
      obtain rfl : cs = pC q := hR
      refine Wl.loadAt hat rfl rfl ?_
      refine Wl.alloc fun w7 b7 n7 s7 => ?_
      refine Wl.storeB (new := pC q) b7 rfl rfl rfl rfl (show (2 : Nat) ≤ 2 from Nat.le_refl 2) (goodPr.oc (fun _ => True) w q _ rfl rfl) fun w8 b8 c8 s8 => ?_
      replace b8 : Bk w8 w6.heap.size 41 (pC q) := b8
      have n68 : New w6 w8 := Chg.trans n7 c8 fun k hk e => by omega
      have by8' := by6.new (plain_one _) n68
      have bb8 := bb6.chg n68 id
      have nb8 := hS6.nb.chg n68 id
      have z8 := hS6.st0.hi (n68.any (M := Hi s))
      have hp8 := hp6.keep (stable_flat pC) n68.keep
      have hob : ∀ b, bv.ownBlock = some b → s + 5 ≤ b ∧ b < w6.heap.size := fun b hb => ⟨(by6.lt hb).1, (by6.lt hb).2⟩
      have chi : ∀ w', Chg (fun b => bv.ownBlock = some b) w8 w' → Chg (Hi s) w8 w' := fun w' c => c.mono fun b _ e => (hob b e).1
      have s68 := n68.size
      clear hat b7 c8 n7 by6 bb6
      generalize hB0 : bytes ++ (cell4 1 ++ (fil (nm ++ [0]) ++ (ps.take j).flatMap (propB all))) = B0 at *
      (repeat' (first | refine Wl.nil ?_ | refine Qseq.normal ?_ | refine Wc.seq ?_))
      refine Wc.regionT rfl (by kernel_rfl) (Chg (fun b => bv.ownBlock = some b) w8) (Chg.drew _ _) ?_
      intro w9 n9
      have nob : ¬ (bv.ownBlock = some (s + 2)) := fun e => by have := (hob _ e).1; omega
      have nov : ¬ (bv.ownBlock = some w6.heap.size) := fun e => by have := (hob _ e).2; omega
      have by9 := by8'.new (plain_one _) n9
      have g9 : Gw (Hi s) w8 bv w9 bv B0 := Gw.new n9 (Gw.refl by9)
      have s9 := n9.size
      have up9 : ∀ {w' : World} {v' : Value} {l' : List UInt8}, Gw (Hi s) w8 bv w' v' l' → Bs (Hi s) w' v' l' := fun g => g.own.mono mono8 (fun b _ e => by rcases e with e | e; exact e; show _ ≤ _; omega) (fun _ _ e => e)
      have tr9 : ∀ {w1 w2 : World} {v1 v2 : Value} {l1 l2 : List UInt8}, Gw (Hi s) w8 bv w1 v1 l1 → Gw (Hi s) w1 v1 w2 v2 l2 → Gw (Hi s) w8 bv w2 v2 l2 := fun g h => g.trans ⟨h.own.mono mono8 (fun b _ e => e.imp .inl id) (fun _ _ e => e), h.chg, h.lie⟩
      refine Wt.quiet rfl (Wq.load1 rfl (fun w' hw => (bb8.chg hw nob).cell (o := 0) rfl) (Wq.nil ?_))
      refine Wt.chain rfl (Wl.call (cell_spec (n := 3) (up9 g9) (by omega)) rfl ?_)
      rintro bv10 w10 g
      have g10 := tr9 g9 g
      refine Wl.nil ⟨rfl, g10.chg, ?_⟩
      clear g
      (repeat' (refine Wt.quiet rfl (Wq.fieldAddr rfl rfl (Wq.nil ?_))))
      refine Wt.quiet rfl (Wq.load1 rfl (fun w' hw => (b8.chg hw nov).cell (o := 1) rfl) (Wq.nil ?_))
      (repeat' (refine Wt.quiet rfl (Wq.lenStr rfl (Wq.nil ?_))))
      refine Wt.chain rfl (Wl.call (cell_spec (n := q.2.length) (up9 g10) (by simp only [List.length_append, cell4_length]; omega)) rfl ?_)
      rintro bv11 w11 g
      have g11 := tr9 g10 g
      refine Wl.nil ⟨rfl, g11.chg, ?_⟩
      clear g
      skip
      refine Wt.quiet rfl (Wq.load1 rfl (fun w' hw => ((z8.hi (chi w' hw)).tb).cell (o := 0) rfl) (Wq.nil ?_))
      (repeat' (refine Wt.quiet rfl (Wq.fieldAddr rfl rfl (Wq.nil ?_))))
      refine Wt.quiet rfl (Wq.load1 rfl (fun w' hw => (b8.chg hw nov).cell (o := 0) rfl) (Wq.nil ?_))
      refine Wt.chain rfl (Wl.call (put_has (nm := q.1) (z8.hi (chi w11 g11.chg)).tbl (by omega) hq1) rfl ?_)
      rintro _ _ ⟨rfl, rfl⟩
      refine Wl.nil ⟨rfl, g11.chg, ?_⟩
      refine Wt.chain rfl (Wl.call (cell_spec (n := placeN all q.1) (up9 g11) (by simp only [List.length_append, cell4_length]; omega)) rfl ?_)
      rintro bv12 w12 g
      have g12 := tr9 g11 g
      refine Wl.nil ⟨rfl, g12.chg, ?_⟩
      clear g
      refine Wt.last rfl (Wl.store1 (u := bv12) (bb8.chg g12.chg nob) rfl (show (0 : Nat) < 1 by omega) rfl (OwnS.blk1 g12.own) fun w13 b13 c13 => ?_)
      replace b13 : Bk w13 (s + 2) tBytes [bv12] := b13
      have by13 := (up9 g12).chg (plain_one _) c13 fun k hk e => by have : s + 5 ≤ k := ((up9 g12).lt hk).1; omega
      have v13 := (b8.chg g12.chg nov).chg c13 (by omega)
      have c813 : Chg (fun b => b = s + 2 ∨ b = s + 3 ∨ s + 5 ≤ b) w8 w13 := ((chi _ g12.chg).mono fun b _ e => .inr (.inr e)).trans (c13.mono fun b _ e => .inl e) fun _ _ e => e
      have nb13 := (nb8.chg g12.chg fun e => by have := (hob _ e).1; omega).chg c13 (by omega)
      have z13 := z8.chg c813
      have s12 := g12.chg.size
      have s13 := c13.size
      have hl12 : bv12.ownBlock ≠ some w6.heap.size := fun e => by
        rcases g12.lie with h | h
        · exact nov (h ▸ e)
        · have := h _ e; omega
      clear g9 g10 g11 up9 tr9 by9 by8' nob b8 g12 c13 n9
      (repeat' (first | refine Wl.nil ?_ | refine Qseq.normal ?_ | refine Wc.region ?_))
      refine Wl.load1 rfl (b13.cell (o := 0) rfl) ?_
      (repeat' (refine Wl.fieldAddr rfl rfl ?_))
      refine Wl.load1 rfl (v13.cell (o := 1) rfl) ?_
      refine Wl.call (filled_spec (s := q.2) by13 (by simp only [List.length_append, cell4_length]; omega) (by omega)) rfl ?_
      rintro bv14 w14 g
      have by14 : Bs (Hi s) w14 bv14 _ := g.own.mono mono8 (fun b _ e => by rcases e with e | e; exact e; show _ ≤ _; omega) (fun _ _ e => e)
      have gc : Chg (Hi s) w13 w14 := g.chg.mono fun b _ e => (by13.lt e).1
      have b14 := b13.chg gc (fun e => by have : s + 5 ≤ s + 2 := e; omega)
      have nb14 := nb13.chg gc (fun e => by have : s + 5 ≤ s + 3 := e; omega)
      refine Wl.store1 (u := bv14) b14 rfl (show (0 : Nat) < 1 by omega) rfl (OwnS.blk1 by14) fun w15 b15 c15 => ?_
      replace b15 : Bk w15 (s + 2) tBytes [bv14] := b15
      have by15 := by14.chg (plain_one _) c15 fun k hk e => by have : s + 5 ≤ k := (by14.lt hk).1; omega
      have nb15 := nb14.chg c15 (by omega)
      have cE : Chg (fun b => b = s + 2 ∨ b = s + 3 ∨ s + 5 ≤ b) w6 w15 := ((n68.any (M := fun b => b = s + 2 ∨ b = s + 3 ∨ s + 5 ≤ b)).trans c813 fun _ _ e => e).trans ((gc.mono fun b _ e => .inr (.inr e)).trans (c15.mono fun b _ e => .inl e) fun _ _ e => e) fun _ _ e => e
      have z15 := hS6.st0.chg cE
      (repeat' (first | refine Wl.moveE (by conv => { lhs; whnf }) ?_ | refine Wl.nil ?_ | refine Qseq.normal ?_ | refine Wc.region ?_ | refine Qblk.normal ?_ | refine Wl.add rfl rfl (by omega) (by omega) ?_))
      refine Qloop.normal (j + 1) ⟨rfl, rfl, rfl, rfl, rfl, rfl, rfl, rfl, rfl, trivial⟩ ⟨by omega, ⟨nb15, ⟨bv14, b15, ?_⟩, z15.lb, z15.tb, z15.fb, z15.rd, z15.tbl⟩, hp6.keep (stable_flat pC) (cE.keep fun b _ e1 e2 => by omega), c06.trans cE fun _ _ e => e⟩ (by omega)
      rw [take_snoc hq, List.flatMap_append]
      have e : bytes ++ (cell4 1 ++ (fil (nm ++ [0]) ++ ((ps.take j).flatMap (propB all) ++ [q].flatMap (propB all)))) = B0 ++ cell4 3 ++ cell4 q.2.length ++ cell4 (placeN all q.1) ++ fil q.2 := by
        rw [← hB0]
        simp only [List.flatMap_cons, List.flatMap_nil, propB, List.append_assoc, List.append_nil]
      rw [e]
      exact by15
    · obtain rfl : j = ps.length := by omega
      rw [List.take_length] at hS6
      have hnB : cell4 1 ++ (fil (nm ++ [0]) ++ ps.flatMap (propB all)) = nodeB all nm ps := rfl
      rw [hnB] at hS6
      skip
      refine Wc.loop (σ := Nat × List T × List UInt8) (fun x => [(0, ptrB (s + 3)), (1, ptrB (s + 2)), (2, ptrB s), (3, ptrB (s + 1)), (4, ptrB (s + 4)), (5, vi k)])
        (fun x w' => St s w' (.slice va l.length vc) p all l x.1 x.2.2 ∧ x.2.2.length + 40004 * (k + 1) ≤ bytes.length + 40000 + 40004 * x.1 ∧ l.drop x.1 = flK x.2.1 k x.1 ++ rest ∧ k < x.1 ∧ x.1 + szK x.2.1 = k + 1 + szK ks ∧ x.2.2 ++ stK all x.2.1 = bytes ++ (nodeB all nm ps ++ stK all ks) ∧ Chg (fun b => b = s + 2 ∨ b = s + 3 ∨ s + 5 ≤ b) w w') (fun x => szK x.2.1)
        (k + 1, ks, bytes ++ nodeB all nm ps) ⟨rfl, rfl, rfl, rfl, rfl, rfl, trivial⟩ ⟨hS6, by rw [List.length_append]; omega, hks, by omega, rfl, by rw [List.append_assoc], c06⟩ ?_
      clear hS6 hp6 c06 s6
      rintro ⟨q, ts, B⟩ G w7 ⟨hS7, hB, hq, hkq, hsz, hbe, c07⟩
      dsimp only at hS7 hB hq hkq hsz hbe c07
      simp only [upds]
      have rd7 := hS7.rd
      rcases ts with _ | ⟨t, ts⟩
      · have hstop : ∀ y, l[q]? = some y → y.parent < (k : Int) := fun y hy => hrest y (by
          have := congrArg (fun z => z[0]?) hq
          simp only [flK, List.nil_append, List.getElem?_drop, Nat.add_zero] at this
          rw [← this]; exact hy)
        simp only [szK, stK, List.append_nil, Nat.add_zero] at hsz hbe
        obtain ⟨bv, bb7, by7⟩ := hS7.bb
        have s7 := hS7.fb.lt
        have hqe : k + szT (.mk nm ps ks) = q := by simp only [szT]; omega
        have hbq : bytes ++ stT all (.mk nm ps ks) = B ++ cell4 2 := by rw [hbe]; simp only [stT, List.append_assoc]
        (repeat' (first | refine Wc.seq ?_ | refine Wc.region ?_))
        refine Wl.load1 rfl (hS7.nb.cell (o := 0) rfl) ?_
        skip
        refine Wl.load1 rfl (hS7.lb.cell (o := 0) rfl) ?_
        (repeat' (first | refine Wl.moveE (by conv => { lhs; whnf }) ?_ | refine Wl.nil ?_ | refine Wl.guardY rfl rfl ?_ | refine Wl.guardN rfl rfl ?_ | refine Wl.pickFE rfl (by conv => { lhs; whnf }) ?_ | refine Wl.lenS rfl ?_ | refine Qseq.normal ?_ | refine Wc.region ?_ | refine Wc.exit ?_ | refine Qseq.exit ?_ | refine Qblk.hit ?_ | refine Qloop.exit ?_ | refine Wc.condF rfl ?_ | refine Wl.lss rfl rfl (fun _ => ?_) (fun _ => ?_)))
        · obtain ⟨y, hy⟩ := get_lt l (k := q) (by omega)
          have hyp := hstop y hy
          refine Wl.load1 rfl (hS7.lb.cell (o := 0) rfl) ?_
          (repeat' (refine Wl.guardY rfl rfl ?_))
          refine Wl.load1 rfl (hS7.nb.cell (o := 0) rfl) ?_
          (repeat' (refine Wl.guardY rfl rfl ?_))
          refine Wl.idxAddr rd7 rfl rfl (by omega) hy fun b o cs hcl hR hat => ?_
          obtain ⟨pv, rfl, hpr5⟩ := hR
          (repeat' (first | refine Wl.guardY rfl rfl ?_ | refine Wl.fieldAddr rfl rfl ?_))
          refine Wl.load1 rfl (hat.get 0 rfl) ?_
          (repeat' (first | refine Wl.moveE (by conv => { lhs; whnf }) ?_ | refine Wl.nil ?_ | refine Wl.guardY rfl rfl ?_ | refine Wl.pickTE rfl (by conv => { lhs; whnf }) ?_ | refine Qseq.normal ?_ | refine Wc.region ?_ | refine Wc.exit ?_ | refine Qseq.exit ?_ | refine Qblk.hit ?_ | refine Qloop.exit ?_ | refine Wc.condF rfl ?_ | (refine Wl.eql rfl rfl (fun _ => ?_) (fun _ => ?_) <;> (first | (exfalso; omega) | skip))))
          refine Wl.load1 rfl (bb7.cell (o := 0) rfl) ?_
          refine Wl.call (cell_spec (n := 2) by7 (by omega)) rfl ?_
          rintro bv8 w8 g
          have by8 : Bs (Hi s) w8 bv8 _ := g.own.mono mono8 (fun b _ e => by rcases e with e | e; exact e; show _ ≤ _; omega) (fun _ _ e => e)
          have gc : Chg (Hi s) w7 w8 := g.chg.mono fun b _ e => (by7.lt e).1
          refine Wl.store1 (u := bv8) (bb7.chg gc (fun e => by have : s + 5 ≤ s + 2 := e; omega)) rfl (show (0 : Nat) < 1 by omega) rfl (OwnS.blk1 by8) fun w9 b9 c9 => ?_
          have cE : Chg (fun b => b = s + 2 ∨ b = s + 3 ∨ s + 5 ≤ b) w7 w9 := (gc.mono fun b _ e => .inr (.inr e)).trans (c9.mono fun b _ e => .inl e) fun _ _ e => e
          have z9 := hS7.st0.chg cE
          have nb9 := (hS7.nb.chg gc (fun e => by have : s + 5 ≤ s + 3 := e; omega)).chg c9 (by omega)
          have by9 := by8.chg (plain_one _) c9 fun k hk e => by have : s + 5 ≤ k := (by8.lt hk).1; omega
          (repeat' (refine Wl.nil ?_))
          refine Qfn.end0 rfl ⟨_, rfl, ⟨?_, ⟨bv8, b9, ?_⟩, z9.lb, z9.tb, z9.fb, z9.rd, z9.tbl⟩, ?_, c07.trans cE fun _ _ e => e⟩
          · rw [hqe]; exact nb9
          · rw [hbq]; exact by9
          · rw [hbq, List.length_append, cell4_length]; omega
        · refine Wl.load1 rfl (bb7.cell (o := 0) rfl) ?_
          refine Wl.call (cell_spec (n := 2) by7 (by omega)) rfl ?_
          rintro bv8 w8 g
          have by8 : Bs (Hi s) w8 bv8 _ := g.own.mono mono8 (fun b _ e => by rcases e with e | e; exact e; show _ ≤ _; omega) (fun _ _ e => e)
          have gc : Chg (Hi s) w7 w8 := g.chg.mono fun b _ e => (by7.lt e).1
          refine Wl.store1 (u := bv8) (bb7.chg gc (fun e => by have : s + 5 ≤ s + 2 := e; omega)) rfl (show (0 : Nat) < 1 by omega) rfl (OwnS.blk1 by8) fun w9 b9 c9 => ?_
          have cE : Chg (fun b => b = s + 2 ∨ b = s + 3 ∨ s + 5 ≤ b) w7 w9 := (gc.mono fun b _ e => .inr (.inr e)).trans (c9.mono fun b _ e => .inl e) fun _ _ e => e
          have z9 := hS7.st0.chg cE
          have nb9 := (hS7.nb.chg gc (fun e => by have : s + 5 ≤ s + 3 := e; omega)).chg c9 (by omega)
          have by9 := by8.chg (plain_one _) c9 fun k hk e => by have : s + 5 ≤ k := (by8.lt hk).1; omega
          (repeat' (refine Wl.nil ?_))
          refine Qfn.end0 rfl ⟨_, rfl, ⟨?_, ⟨bv8, b9, ?_⟩, z9.lb, z9.tb, z9.fb, z9.rd, z9.tbl⟩, ?_, c07.trans cE fun _ _ e => e⟩
          · rw [hqe]; exact nb9
          · rw [hbq]; exact by9
          · rw [hbq, List.length_append, cell4_length]; omega
      · obtain ⟨h1, h2⟩ := kid_split hq
        have hse : q + szT t + szK ts = q + szK (t :: ts) := by simp only [szK]; omega
        have htp := szT_pos t
        have hql : q + szT t ≤ l.length := by omega
        have hft : szT t ≤ f := by simp only [szT] at hf; omega
        obtain ⟨tn, tp, tk⟩ := t
        obtain ⟨hy, _⟩ := fl_split h1
        have s7 := hS7.fb.lt
        (repeat' (first | refine Wc.seq ?_ | refine Wc.region ?_))
        refine Wl.load1 rfl (hS7.nb.cell (o := 0) rfl) ?_
        skip
        refine Wl.load1 rfl (hS7.lb.cell (o := 0) rfl) ?_
        (repeat' (first | refine Wl.moveE (by conv => { lhs; whnf }) ?_ | refine Wl.guardY rfl rfl ?_ | refine Wl.lenS rfl ?_ | (refine Wl.lss rfl rfl (fun _ => ?_) (fun _ => ?_) <;> (first | (exfalso; omega) | skip))))
        refine Wl.load1 rfl (hS7.lb.cell (o := 0) rfl) ?_
        (repeat' (refine Wl.guardY rfl rfl ?_))
        refine Wl.load1 rfl (hS7.nb.cell (o := 0) rfl) ?_
        (repeat' (refine Wl.guardY rfl rfl ?_))
        refine Wl.idxAddr rd7 rfl rfl (by omega) hy fun b o cs hcl hR hat => ?_
        obtain ⟨pv, rfl, hpr5⟩ := hR
        (repeat' (first | refine Wl.guardY rfl rfl ?_ | refine Wl.fieldAddr rfl rfl ?_))
        refine Wl.load1 rfl (hat.get 0 rfl) ?_
        dsimp only
        (repeat' (first | refine Wl.moveE (by conv => { lhs; whnf }) ?_ | refine Wl.nil ?_ | refine Wl.guardY rfl rfl ?_ | refine Wl.pickTE rfl (by conv => { lhs; whnf }) ?_ | refine Qseq.normal ?_ | refine Wc.region ?_ | refine Wc.block ?_ | refine Wc.skip ?_ | refine Wc.condT rfl ?_ | (refine Wl.eql rfl rfl (fun _ => ?_) (fun _ => ?_) <;> (first | (exfalso; omega) | skip))))
        refine Wl.load1 rfl (hS7.fb.cell (o := 0) rfl) ?_
        refine Wl.callV (dst := some _) rfl (ih (.mk tn tp tk) w7 q (k : Int) (flK ts k (q + szT (.mk tn tp tk)) ++ rest) B hft hS7 (by omega) h1 (fun y hy => ?_)) rfl ?_
        · have hkq' : (k : Int) < q := by omega
          rcases ts with _ | ⟨⟨n2, p2, k2⟩, ts⟩
          · have := hrest y (by simpa only [flK, List.nil_append] using hy)
            omega
          · simp [flK, flT] at hy
            subst hy
            exact hkq'
        rintro _ w8 ⟨hS8, hB8, c8⟩
        (repeat' (first | refine Wl.nil ?_ | refine Qblk.normal ?_))
        refine Qloop.normal (q + szT (.mk tn tp tk), ts, B ++ stT all (.mk tn tp tk)) ⟨rfl, rfl, rfl, rfl, rfl, rfl, trivial⟩ ⟨hS8, ?_, h2, show k < q + szT (.mk tn tp tk) by omega, show q + szT (.mk tn tp tk) + szK ts = k + 1 + szK ks by omega, ?_, c07.trans c8 fun _ _ e => e⟩ ?_
        · show (B ++ stT all (.mk tn tp tk)).length + 40004 * (k + 1) ≤ bytes.length + 40000 + 40004 * (q + szT (.mk tn tp tk))
          exact kid_bound hB hB8
        · rw [List.append_assoc, ← hbe]; simp only [stK]
        · show szK ts < szK (.mk tn tp tk :: ts)
          omega
end Go.Proofs.YtlkhajheecglgaaDoor

namespace Go.Proofs.YtlkhajheecglgaaDoor
open Go Wk

def numberM (s : List UInt8) (a : Nat) : Nat := if a + 4 ≤ s.length then min (num4 ((s.drop a).take 4)) 99999999 else 0
def endedM (s : List UInt8) (a : Nat) : List UInt8 := (s.drop a).takeWhile fun c => c != 0
def openAt (l : List Nd) (o : Int) : Option Nd := if o < 0 then none else l[o.toNat]?
def guessGo (s : List UInt8) (from_ : Nat) : Nat → List Nd → Int → Nat → List Nd
  | 0, l, _, _ => l
  | f + 1, l, o, a =>
    if a + 4 ≤ s.length ∧ l.length ≤ 512 then
      (if numberM s a = 1 then guessGo s from_ f (l ++ [⟨o, endedM s (a + 4), []⟩]) l.length (a + 4 + up4 ((endedM s (a + 4)).length + 1))
      else if numberM s a = 3 then
        (match openAt l o with
        | none => []
        | some x => if min (a + 12 + numberM s (a + 4)) s.length < a + 12 ∨ 32 < x.props.length then []
          else guessGo s from_ f (l.set o.toNat { x with props := x.props ++ [(endedM s (from_ + numberM s (a + 8)), (s.take (min (a + 12 + numberM s (a + 4)) s.length)).drop (a + 12))] }) o (a + 12 + up4 (numberM s (a + 4))))
      else if numberM s a = 2 then (match openAt l o with
        | none => []
        | some x => guessGo s from_ f l x.parent (a + 4))
      else l)
    else l
def guessM (s : List UInt8) : List Nd := guessGo s (numberM s 16) (s.length + 1) [] (-1) 32
section
variable {s : List UInt8} {a : Nat}
theorem drop_len {x r : List UInt8} (h : s.drop a = x ++ r) : s.drop (a + x.length) = r := by rw [← List.drop_drop, h, List.drop_left]
theorem drop_le {x r : List UInt8} (h : s.drop a = x ++ r) (hx : 0 < x.length) : a + x.length ≤ s.length := by
  have := congrArg List.length h
  simp only [List.length_drop, List.length_append] at this
  omega
theorem number_at {n : Nat} {r : List UInt8} (h : s.drop a = cell4 n ++ r) (hn : n ≤ 99999999) : numberM s a = n := by
  have hl := drop_le h (by simp [cell4_length])
  rw [cell4_length] at hl
  unfold numberM
  have e : (s.drop a).take 4 = cell4 n := by rw [h]; exact List.take_left' rfl
  rw [if_pos hl, e, num4_cell (by omega)]
  omega
theorem ended_at {x r : List UInt8} (h : s.drop a = x ++ 0 :: r) (hx : (0 : UInt8) ∉ x) : endedM s a = x := by
  unfold endedM
  rw [h]
  clear h
  induction x with
  | nil => simp
  | cons c x ih =>
    simp only [List.mem_cons, not_or] at hx
    rw [List.cons_append, List.takeWhile_cons, if_pos (by simpa using Ne.symm hx.1), ih hx.2]
end
section
variable {s : List UInt8} {all : List Nm} {fr : Nat}
theorem guess_P (hfr : s.drop fr = strsN all) (hsz : sizeN all ≤ 99999999) : ∀ (ps2 ps1 : List Pr) (l0 : List Nd) (up : Int) (nm : Nm) (a : Nat) (r : List UInt8), (∀ p ∈ ps2, NmOk p.1 ∧ p.2.length ≤ 1024) → ps1.length + ps2.length ≤ 32 → l0.length < 512 → (∀ p ∈ ps2, p.1 ∈ all) → s.drop a = ps2.flatMap (propB all) ++ r →
    ∀ f, guessGo s fr (f + ps2.length) (l0 ++ [⟨up, nm, ps1⟩]) l0.length a = guessGo s fr f (l0 ++ [⟨up, nm, ps1 ++ ps2⟩]) l0.length (a + (ps2.flatMap (propB all)).length)
  | [], ps1, l0, up, nm, a, r, _, _, _, _, h, f => by simp
  | p :: ps2, ps1, l0, up, nm, a, r, hp, hpl, hl, hm, h, f => by
    simp only [List.flatMap_cons, propB, List.append_assoc] at h
    have h0 := number_at h (by omega)
    have hle := drop_le h (by simp [cell4_length])
    have h4 := drop_len h
    rw [cell4_length] at h4 hle
    have hp1 := hp p (by simp)
    have h40 := number_at h4 (by omega)
    have h8 := drop_len h4
    rw [cell4_length] at h8
    have hmem := hm p (by simp)
    obtain ⟨q, hq⟩ := strsN_at hmem
    have hplc : placeN all p.1 ≤ sizeN all := by
      have h1 := congrArg List.length hq
      simp only [List.length_drop, List.length_append, List.length_cons, strsN_length] at h1
      omega
    have h80 := number_at h8 (by omega)
    have h12 := drop_len h8
    rw [cell4_length] at h12
    have hnm : endedM s (fr + placeN all p.1) = p.1 := by
      refine ended_at (r := q) ?_ hp1.1.1
      rw [← List.drop_drop, hfr, hq]
    have hv12 : a + 4 + 4 + 4 + (fil p.2).length ≤ s.length := by
      by_cases h0 : (fil p.2).length = 0
      · have := drop_le h8 (by simp [cell4_length])
        rw [cell4_length] at this; omega
      · exact drop_le h12 (by omega)
    have hfl := fil_length p.2
    have hv : (s.take (min (a + 12 + p.2.length) s.length)).drop (a + 12) = p.2 := by
      have hmin : min (a + 12 + p.2.length) s.length = a + 12 + p.2.length := by
        rw [hfl] at hv12; unfold up4 at hv12; omega
      rw [hmin, List.drop_take, show a + 12 + p.2.length - (a + 12) = p.2.length by omega, show a + 12 = a + 4 + 4 + 4 by omega, h12, List.take_append_of_le_length (by rw [hfl]; unfold up4; omega), fil_take]
    have hopen : openAt (l0 ++ [(⟨up, nm, ps1⟩ : Nd)]) l0.length = some ⟨up, nm, ps1⟩ := by
      unfold openAt
      rw [if_neg (by omega), Int.toNat_natCast, List.getElem?_append_right (Nat.le_refl _)]; simp
    have hset : (l0 ++ [(⟨up, nm, ps1⟩ : Nd)]).set l0.length ⟨up, nm, ps1 ++ [p]⟩ = l0 ++ [⟨up, nm, ps1 ++ [p]⟩] := by
      rw [List.set_append_right _ _ (Nat.le_refl _)]; simp
    simp only [List.length_cons] at hpl
    have hlen : ((l0 ++ [(⟨up, nm, ps1⟩ : Nd)]).length) = l0.length + 1 := by simp
    have ih := guess_P hfr hsz ps2 (ps1 ++ [p]) l0 up nm (a + 4 + 4 + 4 + (fil p.2).length) r (fun q hq => hp q (by simp [hq])) (by simp; omega) hl (fun q hq => hm q (by simp [hq])) (drop_len h12) f
    rw [show f + (p :: ps2).length = (f + ps2.length) + 1 by rw [List.length_cons]; omega, guessGo, if_pos ⟨by omega, by omega⟩, if_neg (by omega), if_pos h0]
    simp only [hopen, h40, h80, show a + 8 = a + 4 + 4 by omega, hnm, hv, Int.toNat_natCast]
    rw [if_neg (by rw [hfl] at hv12; unfold up4 at hv12; simp only [not_or, Nat.not_lt]; omega), hset]
    rw [show a + 12 + up4 p.2.length = a + 4 + 4 + 4 + (fil p.2).length by rw [hfl], ih]
    congr 1
    · simp
    · simp only [List.flatMap_cons, propB, List.length_append, cell4_length]; omega
mutual
theorem guess_T (hfr : s.drop fr = strsN all) (hsz : sizeN all ≤ 99999999) : ∀ (τ : T) (up : Int) (d : Nat) (l : List Nd) (a : Nat) (r : List UInt8), okT d τ = true → NmOk τ.name → l.length + szT τ ≤ 512 → (∀ x ∈ flT τ up l.length, ∀ p ∈ x.props, p.1 ∈ all) → s.drop a = stT all τ ++ r →
    ∃ k, k ≤ (stT all τ).length ∧ ∀ f, guessGo s fr (f + k) l up a = guessGo s fr f (l ++ flT τ up l.length) up (a + (stT all τ).length)
  | .mk nm ps ks, up, d, l, a, r, hok, hnm, hl, hm, h => by
    simp only [okT, Bool.and_eq_true, decide_eq_true_eq] at hok
    obtain ⟨hpr, _, hk⟩ := hok
    have hpo := propsOk_all hpr
    have hnm' : NmOk nm := hnm
    simp only [szT] at hl
    simp only [stT, nodeB, List.append_assoc] at h
    have h0 := number_at h (by omega)
    have hle := drop_le h (by simp [cell4_length])
    have h4 := drop_len h
    rw [cell4_length] at h4 hle
    have he : endedM s (a + 4) = nm := by
      have e : fil (nm ++ [0]) = nm ++ 0 :: List.replicate ((4 - (nm ++ [(0 : UInt8)]).length % 4) % 4) 0 := by simp [fil]
      rw [e, List.append_assoc, List.cons_append] at h4
      exact ended_at h4 hnm'.1
    have hfl := fil_length (nm ++ [(0 : UInt8)])
    rw [List.length_append, List.length_singleton] at hfl
    have h5 := drop_len h4
    rw [hfl] at h5
    have hP := guess_P hfr hsz ps [] l up nm (a + 4 + up4 (nm.length + 1)) _ hpo.2 (by simpa using hpo.1) (by omega) (fun p hp => hm ⟨up, nm, ps⟩ (by simp [flT]) p hp) h5
    have h6 := drop_len h5
    obtain ⟨k, hkl, hK⟩ := guess_K hfr hsz ks l.length (d + 1) [] (l ++ [⟨up, nm, ps⟩]) _ _ hk (by simp only [List.length_append, List.length_singleton]; omega) (fun x hx p hp => hm x (by simp only [flT, List.mem_cons]; simp only [List.length_append, List.length_singleton] at hx; exact .inr hx) p hp) h6
    have h7 := drop_len h6
    have h70 := number_at h7 (by omega)
    have h7le := drop_le h7 (by simp [cell4_length])
    rw [cell4_length] at h7le
    have hpl := flat_len all ps
    refine ⟨1 + (ps.length + (k + 1)), ?_, fun f => ?_⟩
    · simp only [stT, nodeB, List.length_append, cell4_length]; omega
    · rw [show f + (1 + (ps.length + (k + 1))) = (f + 1 + k + ps.length) + 1 by omega, guessGo, if_pos ⟨by omega, by omega⟩, if_pos h0, he, hP, List.nil_append, hK]
      have hopen : openAt (l ++ [(⟨up, nm, ps⟩ : Nd)] ++ flK ks l.length (l ++ [(⟨up, nm, ps⟩ : Nd)]).length) (l.length : Int) = some ⟨up, nm, ps⟩ := by
        unfold openAt
        rw [if_neg (by omega), Int.toNat_natCast, List.append_assoc, List.getElem?_append_right (Nat.le_refl _)]; simp
      rw [guessGo, if_pos ⟨by omega, by simp only [List.length_append, List.length_singleton, flK_length]; omega⟩, if_neg (by omega), if_neg (by omega), if_pos h70]
      simp only [hopen]
      congr 1
      · simp [flT]
      · simp only [stT, nodeB, List.length_append, cell4_length, hfl, List.length_singleton]
        omega
theorem guess_K (hfr : s.drop fr = strsN all) (hsz : sizeN all ≤ 99999999) : ∀ (ks : List T) (u d : Nat) (seen : List Nm) (l : List Nd) (a : Nat) (r : List UInt8), okK d seen ks = true → l.length + szK ks ≤ 512 → (∀ x ∈ flK ks u l.length, ∀ p ∈ x.props, p.1 ∈ all) → s.drop a = stK all ks ++ r →
    ∃ k, k ≤ (stK all ks).length ∧ ∀ f, guessGo s fr (f + k) l u a = guessGo s fr f (l ++ flK ks u l.length) u (a + (stK all ks).length)
  | [], u, d, seen, l, a, r, _, _, _, _ => ⟨0, by simp, fun f => by simp [flK, stK]⟩
  | t :: ts, u, d, seen, l, a, r, hok, hl, hm, h => by
    simp only [okK, Bool.and_eq_true] at hok
    simp only [szK] at hl
    simp only [stK, List.append_assoc] at h
    obtain ⟨k1, e1, g1⟩ := guess_T hfr hsz t u d l a _ hok.2.2.1 (nmOk_of hok.1) (by omega) (fun x hx p hp => hm x (by simp only [flK]; exact List.mem_append_left _ hx) p hp) h
    have h2 := drop_len h
    obtain ⟨k2, e2, g2⟩ := guess_K hfr hsz ts u d _ (l ++ flT t (u : Int) l.length) _ _ hok.2.2.2 (by simp only [List.length_append, flT_length]; omega) (fun x hx p hp => hm x (by simp only [flK]; simp only [List.length_append, flT_length] at hx; exact List.mem_append_right _ hx) p hp) h2
    refine ⟨k1 + k2, by simp only [stK, List.length_append]; omega, fun f => ?_⟩
    rw [show f + (k1 + k2) = f + k2 + k1 by omega, g1, g2]
    congr 1
    · simp [flK, flT_length]
    · simp only [stK, List.length_append]; omega
end
end
theorem mem_namesP : ∀ (ps : List Pr) (all : List Nm) (p : Pr), p ∈ ps → p.1 ∈ namesP all ps
  | q :: r, all, p, h => by
    obtain ⟨e, he⟩ := namesP_pre r (addNm all q.1)
    have e2 : namesP all (q :: r) = namesP (addNm all q.1) r := rfl
    rcases List.mem_cons.1 h with rfl | h
    · rw [e2, he]; exact List.mem_append_left _ (addNm_mem all p.1)
    · rw [e2]; exact mem_namesP r _ p h
theorem mem_namesN : ∀ (l : List Nd) (all : List Nm) (x : Nd) (p : Pr), x ∈ l → p ∈ x.props → p.1 ∈ namesN all l
  | y :: r, all, x, p, h, hp => by
    obtain ⟨e, he⟩ := namesN_pre r (namesP all y.props)
    rw [namesN_cons]
    rcases List.mem_cons.1 h with rfl | h
    · rw [he]; exact List.mem_append_left _ (mem_namesP x.props all p hp)
    · exact mem_namesN r _ x p h hp
theorem guessM_enc {l : List Nd} (h : treeOk l = true) : guessM (encL l) = l := by
  have hs1 := struct_size h
  have hs2 := names_size h
  have hs3 := strings_size l
  have hel := encL_length l
  have h32 : (encL l).drop 32 = structL l ++ stringsL l := by
    unfold encL
    exact List.drop_left' (by rw [headB_flat]; simp [cell4_length])
  have h16 : numberM (encL l) 16 = 32 + (structL l).length := by
    have : (encL l).drop 16 = cell4 (32 + (structL l).length) ++ (cell4 (stringsL l).length ++ (cell4 17 ++ cell4 l.length) ++ (structL l ++ stringsL l)) := by
      unfold encL headB
      simp only [List.append_assoc]
      rw [show (16 : Nat) = 4 + (4 + (4 + 4)) by omega, ← List.drop_drop, List.drop_left' (cell4_length _), ← List.drop_drop, List.drop_left' (cell4_length _), ← List.drop_drop, List.drop_left' (cell4_length _), List.drop_left' (cell4_length _)]
    exact number_at this (by omega)
  have hfr : (encL l).drop (32 + (structL l).length) = strsN (namesN [] l) := by
    rw [← List.drop_drop, h32, List.drop_left]; rfl
  unfold guessM
  rw [h16]
  obtain ⟨τ, rfl, hτ⟩ := treeOk_parse h
  obtain ⟨h1, h2, h3⟩ := okTree_parts hτ
  have h32' : (encL (flT τ (-1) 0)).drop 32 = stT (namesN [] (flT τ (-1) 0)) τ ++ (cell4 9 ++ stringsL (flT τ (-1) 0)) := by
    rw [h32, structL_T h, List.append_assoc]
  obtain ⟨k, hk, hg⟩ := guess_T hfr (by omega) τ (-1) 1 [] 32 _ h3 (by rw [h1]; exact nmOk_nil) (by simpa using h2) (fun x hx p hp => mem_namesN _ _ x p (by simpa using hx) hp) h32'
  have hSl : (structL (flT τ (-1) 0)).length = (stT (namesN [] (flT τ (-1) 0)) τ).length + 4 := by rw [structL_T h, List.length_append, cell4_length]
  have h9 := drop_len h32'
  have h90 := number_at h9 (by omega)
  rw [show (encL (flT τ (-1) 0)).length + 1 = ((encL (flT τ (-1) 0)).length - k) + 1 + k by omega, hg, guessGo, if_pos ⟨by omega, by simp only [List.nil_append, List.length_nil, flT_length]; omega⟩, if_neg (by omega), if_neg (by omega), if_neg (by omega)]
  simp
/-! Both ways to read. -/
def decR (s : List UInt8) : List Nd × Int := if treeOk (guessM s) = true ∧ encL (guessM s) = s then (guessM s, 0) else ([], 4)
def decM (s : List UInt8) : List Nd × Int := match readM s with | some (l, _) => (l, 0) | none => ([], 4)
theorem decM_R (s : List UInt8) : decM s = decR s := by
  unfold decM decR
  cases h : readM s with
  | some q =>
    obtain ⟨l, hd⟩ := q
    obtain ⟨h1, h2, _⟩ := readM_sound h
    have : guessM s = l := by rw [h2]; exact guessM_enc h1
    rw [this, if_pos ⟨h1, h2.symm⟩]
  | none =>
    rw [if_neg]
    rintro ⟨h1, h2⟩
    have := readM_full h1
    rw [h2, h] at this
    cases this
end Go.Proofs.YtlkhajheecglgaaDoor

namespace Go.Proofs.YtlkhajheecglgaaDoor
open Go Wk
open Go.RowKit (Below)
attribute [local irreducible] Go.Calls

theorem box_cells_slice (a : Option Addr) (m c : Nat) : (Value.slice a m c).cells.toList = [.slice a m c] := rfl
set_option maxRecDepth 4000 in
theorem structure_spec {Pb M : Nat → Prop} {w : World} {v p : Value} {all : List Nm} {l : List Nd} {τ : T} (h : RdS rNd 3 Pb w v l) (ht : Tb M w p all) (hN : NdB all l) (hl : l = flT τ (-1) 0) :
    Calls Tryd.prog 28 #[v, p] w (Ret fun r w' => Bs (Up w) w' r (stT all τ ++ cell4 9) ∧ (stT all τ).length ≤ 40004 * l.length ∧ New w w') := by
  have hsz : szT τ = l.length := by rw [hl, flT_length]
  replace h := h.mono monoNd (Pb' := fun b => b < w.heap.size) fun b hb _ => hb
  replace ht := ht.mono (M' := fun b => b < w.heap.size) fun b hb _ => hb
  generalize hs : w.heap.size = s at *
  obtain ⟨va, vc, rfl, hvc1, hvc2⟩ := h.form
  obtain ⟨tb, tm, tsl, rfl, ht'⟩ := ht
  have ht : Tb (fun b => b < s) w (ptrB tb) all := ⟨tb, tm, tsl, rfl, ht'⟩
  clear ht'
  refine calls_of_Wc Tryd.func28 rfl Tryd.ntmps28 rfl ?_
  (repeat' (first | refine Wc.seq ?_ | refine Wc.region ?_))
  refine Wl.box (u := .slice va l.length vc) rfl fun w1 b1 n1 s1 => ?_
  refine Wl.box (u := ptrB tb) rfl fun w2 b2 n2 s2 => ?_
  (repeat' (first | refine Wl.assignE (by conv => { lhs; whnf }) ?_ | refine Wl.nil ?_ | refine Qseq.normal ?_ | refine Wc.seq ?_ | refine Wc.region ?_))
  refine Wl.alloc fun w3 b3 n3 s3 => ?_
  (repeat' (first | refine Wl.nil ?_ | refine Qseq.normal ?_ | refine Wc.seq ?_ | refine Wc.region ?_))
  refine Wl.alloc fun w4 b4 n4 s4 => ?_
  refine Wl.storeB (u := vi (0 : Nat)) (new := [vi (0 : Nat)]) b4 rfl rfl rfl rfl (show (1 : Nat) ≤ 1 by omega) (by simp [Value.oneCell']) fun w5 b5 c5 s5 => ?_
  replace b5 : Bk w5 w3.heap.size 3 [vi (0 : Nat)] := b5
  (repeat' (first | refine Wl.nil ?_ | refine Qseq.normal ?_ | refine Wc.seq ?_ | refine Wc.region ?_))
  refine Wl.alloc fun w6 b6 n6 s6 => ?_
  have e1 : w1.heap.size = s + 1 := by omega
  have e2 : w2.heap.size = s + 2 := by omega
  have e3 : w3.heap.size = s + 3 := by omega
  have e5 : w5.heap.size = s + 4 := by omega
  rw [hs] at b1
  rw [e1] at b2
  rw [e2] at b3
  rw [e3] at b4 b5 c5
  rw [e5] at b6
  rw [hs, e1, e2, e3, e5]
  (repeat' (first | refine Wl.nil ?_ | refine Qseq.normal ?_ | refine Wc.seq ?_ | refine Wc.region ?_))
  refine Wl.makeFunc (f1 := []) (c1 := caps s) rfl rfl ?_
  refine Wl.store1 (u := cloV s) b6 rfl (show (0 : Nat) < 1 by omega) rfl rfl fun w7 b7 c7 => ?_
  have k7 : Chg (fun b => b = s + 4) w5 w7 := (n6.any (M := fun b => b = s + 4)).trans c7 fun _ _ e => e
  have k57 : Chg (fun b => b = s + 3 ∨ b = s + 4) w4 w7 := (c5.mono fun b _ e => .inl e).trans (k7.mono fun b _ e => .inr e) fun _ _ e => e
  have k37 : Chg (fun b => b = s + 3 ∨ b = s + 4) w3 w7 := n4.any.trans k57 fun _ _ e => e
  have k27 : Chg (fun b => b = s + 3 ∨ b = s + 4) w2 w7 := n3.any.trans k37 fun _ _ e => e
  have k17 : Chg (fun b => b = s + 3 ∨ b = s + 4) w1 w7 := n2.any.trans k27 fun _ _ e => e
  have k07 : New w w7 := Chg.trans n1 k17 fun b hb e => by omega
  have hS : St s w7 (.slice va l.length vc) (ptrB tb) all l 0 [] :=
    ⟨b5.chg k7 (by omega), ⟨.slice none 0 0, b3.chg k37 (by omega), OwnS.nil⟩, b1.chg k17 (by omega), b2.chg k27 (by omega), b7, h.keep stableNd k07.keep, ht.chg k07 fun _ _ _ e => e⟩
  (repeat' (first | refine Wl.nil ?_ | refine Qseq.normal ?_ | refine Wc.seq ?_ | refine Wc.region ?_))
  refine Wl.load1 rfl (b7.cell (o := 0) rfl) ?_
  refine Wl.callV (dst := some _) rfl (node_spec hN (szT τ) τ w7 0 (-1) [] [] (Nat.le_refl _) hS (by simp) (by simp [hl]) (by simp)) rfl ?_
  rintro _ w8 ⟨hS8, hb8, c8⟩
  obtain ⟨bv, bb8, by8⟩ := hS8.bb
  simp only [List.nil_append, List.length_nil, Nat.zero_add] at by8 hb8
  have hlen := hN.len
  (repeat' (first | refine Wl.nil ?_ | refine Qseq.normal ?_ | refine Wc.seq ?_ | refine Wc.region ?_))
  refine Wl.load1 rfl (bb8.cell (o := 0) rfl) ?_
  refine Wl.call (cell_spec (n := 9) by8 (by omega)) rfl ?_
  rintro r w9 g
  (repeat' (first | refine Wl.assignE (by conv => { lhs; whnf }) ?_ | refine Wl.nil ?_ | refine Qseq.normal ?_ | refine Wc.ret ?_))
  refine Qfn.ret1 rfl rfl ⟨_, rfl, g.own.mono mono8 (fun b _ e => ?_) (fun _ _ e => e), by rw [← hsz]; omega, ?_⟩
  · have s8 := c8.size
    have s7 := k07.size
    rcases e with e | e
    · show w.heap.size ≤ b; omega
    · show w.heap.size ≤ b; omega
  · exact Chg.trans (Chg.trans k07 c8 fun b hb e => by omega) g.chg fun b hb e => by have := (by8.lt e).1; omega
theorem tree_NdB {l : List Nd} (h : treeOk l = true) : NdB (namesN [] l) l := by
  refine ⟨treeOk_len h, fun x hx => ?_, fun x hx => (propsOk_all (tree_pr h x hx)).1, fun x hx p hp => ⟨mem_namesN l [] x p hx hp, ?_⟩⟩
  · obtain ⟨j, hj⟩ := List.mem_iff_getElem?.1 hx
    have := treeOk_nd h hj
    by_cases h0 : j = 0
    · rw [(this.root h0).2]; simp
    · exact nameOk_len (this.kid h0).2.2
  · have := (propsOk_all (tree_pr h x hx)).2 p hp
    exact ⟨this.1.2, this.2⟩
set_option maxRecDepth 4000 in
theorem Strings_spec {Pb : Nat → Prop} {w : World} {v : Value} {l : List Nd} (h : RdS rNd 3 Pb w v l) (hs : ∀ x ∈ l, TxOk x.props) :
    Calls Tryd.prog 14 #[v] w (Ret fun r w' => ∃ sv, r = .tuple #[sv, vi (if treeOk l then 0 else 40)] ∧ OwnS (one vs) 9 1 (Up w) No8 w' sv (if treeOk l then namesN [] l else []) ∧ New w w') := by
  refine calls_of_Wc Tryd.func14 rfl Tryd.ntmps14 rfl ?_
  (repeat' (first | refine Wl.moveE (by conv => { lhs; whnf }) ?_ | refine Wl.assignE (by conv => { lhs; whnf }) ?_ | refine Wl.nil ?_ | refine Qseq.normal ?_ | refine Wc.seq ?_ | refine Wc.region ?_))
  refine Wl.call (tree_spec h hs) rfl ?_
  rintro _ w1 ⟨rfl, n1⟩
  cases ht : treeOk l with
  | false =>
    (repeat' (first | refine Wl.assignE (by conv => { lhs; whnf }) ?_ | refine Wl.nil ?_ | refine Wl.notB rfl ?_ | refine Qseq.normal ?_ | refine Wc.seq ?_ | refine Wc.region ?_ | refine Wc.ret ?_ | refine Qseq.ret ?_ | refine Wc.condT rfl ?_))
    exact Qfn.ret2 rfl rfl rfl ⟨_, rfl, _, rfl, OwnS.nil, n1⟩
  | true =>
    (repeat' (first | refine Wl.moveE (by conv => { lhs; whnf }) ?_ | refine Wl.nil ?_ | refine Wl.notB rfl ?_ | refine Qseq.normal ?_ | refine Wc.seq ?_ | refine Wc.region ?_ | refine Wc.skip ?_ | refine Wc.condF rfl ?_))
    refine Wl.call (names_spec (h.keep stableNd n1.keep) (tree_pr ht) (treeOk_len ht)) rfl ?_
    rintro _ w2 ⟨⟨b, m, sl, rfl, tt⟩, n2⟩
    (repeat' (first | refine Wl.nilP rfl ?_ | refine Wl.fieldAddr rfl rfl ?_))
    refine Wl.load1 rfl (tt.bk.cell (o := 0) rfl) ?_
    (repeat' (first | refine Wl.assignE (by conv => { lhs; whnf }) ?_ | refine Wl.nil ?_ | refine Qseq.normal ?_ | refine Wc.ret ?_))
    refine Qfn.ret2 rfl rfl rfl ⟨_, rfl, _, rfl, tt.own.mono (mono_one _) (fun k _ hk => ?_) (fun _ _ e => e), New.trans n1 n2⟩
    have := hk.1
    have := n1.size
    show w.heap.size ≤ k
    omega
theorem strsN_snoc (all : List Nm) (nm : Nm) : strsN (all ++ [nm]) = strsN all ++ nm ++ [0] := by simp [strsN]
theorem strsN_take {all : List Nm} {k : Nat} {nm : Nm} (h : all[k]? = some nm) : strsN (all.take (k + 1)) = strsN (all.take k) ++ nm ++ [0] := by rw [take_snoc h, strsN_snoc]
theorem sizeN_take (all : List Nm) (k : Nat) : sizeN (all.take k) ≤ sizeN all := by
  conv => rhs; rw [← List.take_append_drop k all, sizeN_app]
  omega
def headNs (a b n : Nat) : List Nat := [3490578157, 32 + a + b, 32, a, 32 + a, b, 17, n]
theorem headNs_vi (a b n : Nat) : [vi 3490578157, vi (32 + (a : Int) + (b : Nat)), vi 32, vi (a : Nat), vi (32 + (a : Int)), vi (b : Nat), vi 17, vi (n : Nat)] = (headNs a b n).map fun k : Nat => vi k := by
  simp only [headNs, List.map_cons, List.map_nil, Int.natCast_add]
  rfl
theorem setAll8 (x0 x1 x2 x3 x4 x5 x6 x7 p0 p1 p2 p3 p4 p5 p6 p7 : Value) : setAll #[x0, x1, x2, x3, x4, x5, x6, x7] [(0, p0), (1, p1), (2, p2), (3, p3), (4, p4), (5, p5), (6, p6), (7, p7)] = [p0, p1, p2, p3, p4, p5, p6, p7].toArray := by simp [setAll]
theorem setAllz (z : Array Value) (hz : z.size = 8) (p0 p1 p2 p3 p4 p5 p6 p7 : Value) : setAll z [(0, p0), (1, p1), (2, p2), (3, p3), (4, p4), (5, p5), (6, p6), (7, p7)] = [p0, p1, p2, p3, p4, p5, p6, p7].toArray := by
  obtain ⟨l⟩ := z
  match l, hz with
  | [x0, x1, x2, x3, x4, x5, x6, x7], _ => exact setAll8 ..
theorem headNs_set (z : Array Value) (hz : z.size = 8) (a b n : Nat) : setAll z [(0, vi 3490578157), (1, vi (32 + (a : Int) + (b : Nat))), (2, vi 32), (3, vi (a : Nat)), (4, vi (32 + (a : Int))), (5, vi (b : Nat)), (6, vi 17), (7, vi (n : Nat))] = ((headNs a b n).map fun k : Nat => vi k).toArray := by
  rw [← headNs_vi, setAllz z hz]
theorem flat_cells : ∀ l : List Nat, (l.flatMap cell4).length = 4 * l.length
  | [] => rfl
  | _ :: r => by simp only [List.flatMap_cons, List.length_append, cell4_length, List.length_cons, flat_cells r]; omega
theorem mem_size : ∀ {all : List Nm} {nm : Nm}, nm ∈ all → nm.length ≤ sizeN all
  | s :: r, nm, h => by
    simp only [sizeN]
    rcases List.mem_cons.1 h with rfl | h
    · omega
    · have := mem_size h; omega
theorem TbA.chg {M K : Nat → Prop} {w w' : World} {b m : Nat} {sl : Value} {all : List Nm} (h : TbA M w b m sl all) (c : Chg K w w') (d : ∀ k, k < w.heap.size → M k → ¬ K k) : TbA M w' b m sl all :=
  ⟨h.bk.chg c (d _ h.bk.lt h.hb), h.mp.chg c (d _ h.mp.lt h.hm), h.own.chg (plain_one _) c fun k hk => d k (h.own.lt hk).2 (h.own.lt hk).1.1, h.nd, h.hb, h.hm, h.bm⟩
theorem headNs_flat (a b n : Nat) : (headNs a b n).flatMap cell4 = headB a b n := (headB_flat a b n).symm
set_option maxHeartbeats 1000000 in
set_option maxRecDepth 8000 in
theorem Encode_spec {Pb : Nat → Prop} {w : World} {v : Value} {l : List Nd} (h : RdS rNd 3 Pb w v l) (hs : ∀ x ∈ l, TxOk x.props) :
    Calls Tryd.prog 10 #[v] w (Ret fun r w' => r = .tuple #[vs (if treeOk l then encL l else []), vi (if treeOk l then 0 else 40)] ∧ New w w') := by
  obtain ⟨va, vc, rfl, hvc1, hvc2⟩ := h.form
  refine calls_of_Wc Tryd.func10 rfl Tryd.ntmps10 rfl ?_
  (repeat' (first | refine Wl.moveE (by conv => { lhs; whnf }) ?_ | refine Wl.assignE (by conv => { lhs; whnf }) ?_ | refine Wl.nil ?_ | refine Qseq.normal ?_ | refine Wc.seq ?_ | refine Wc.region ?_))
  refine Wl.call (tree_spec h hs) rfl ?_
  rintro _ w1 ⟨rfl, n1⟩
  cases ht : treeOk l with
  | false =>
    (repeat' (first | refine Wl.assignE (by conv => { lhs; whnf }) ?_ | refine Wl.nil ?_ | refine Wl.notB rfl ?_ | refine Qseq.normal ?_ | refine Wc.seq ?_ | refine Wc.region ?_ | refine Wc.ret ?_ | refine Qseq.ret ?_ | refine Wc.condT rfl ?_))
    exact Qfn.ret2 rfl rfl rfl ⟨_, rfl, rfl, n1⟩
  | true =>
    have h512 := treeOk_len ht
    obtain ⟨τ, hl, hok⟩ := treeOk_parse ht
    have hsz := names_size ht
    have hstl := struct_size ht
    have hst : structL l = stT (namesN [] l) τ ++ cell4 9 := by
      have := structL_T (τ := τ) (by rw [← hl]; exact ht)
      rw [← hl] at this; exact this
    have h1 := h.keep stableNd n1.keep
    (repeat' (first | refine Wl.moveE (by conv => { lhs; whnf }) ?_ | refine Wl.nil ?_ | refine Wl.notB rfl ?_ | refine Qseq.normal ?_ | refine Wc.seq ?_ | refine Wc.region ?_ | refine Wc.skip ?_ | refine Wc.condF rfl ?_))
    refine Wl.call (names_spec h1 (tree_pr ht) h512) rfl ?_
    rintro p w2 ⟨t2, n2⟩
    have h2 := h1.keep stableNd n2.keep
    (repeat' (first | refine Wl.moveE (by conv => { lhs; whnf }) ?_ | refine Wl.assignE (by conv => { lhs; whnf }) ?_ | refine Wl.nil ?_ | refine Qseq.normal ?_ | refine Wc.seq ?_ | refine Wc.region ?_))
    refine Wl.call (structure_spec h2 t2 (tree_NdB ht) hl) rfl ?_
    rintro sv w3 ⟨o3, _, n3⟩
    rw [← hst] at o3
    obtain ⟨sa, sc, rfl, _, hsm⟩ := o3.form
    have t3 := (t2.chg n3 fun _ _ _ e => e).mono (M' := fun b => b < w3.heap.size) fun b hb _ => by have := n3.size; omega
    have n03 := New.trans (New.trans n1 n2) n3
    obtain ⟨b, m, sl, rfl, t3⟩ := t3
    obtain ⟨na, nc, rfl, _, hnm⟩ := t3.own.form
    have hsb := strings_size l
    have hln := len_size (namesN [] l)
    simp only [maxLen] at hsm hnm
    have o3' := o3.mono (Pb' := fun b => b < w3.heap.size) mono8 (fun b hb _ => hb) (fun _ _ e => e)
    clear t2 h1 h2 o3
    (repeat' (first | refine Wl.assignE (by conv => { lhs; whnf }) ?_ | refine Wl.nil ?_ | refine Qseq.normal ?_ | refine Wc.seq ?_ | refine Wc.region ?_))
    refine Wc.regionT rfl (by kernel_rfl) (New w3) (Chg.drew _ _) ?_
    intro w4 n4
    (repeat' (first | refine Wt.quiet rfl (Wq.moveE (by conv => { lhs; whnf }) (Wq.nil ?_)) | refine Wt.quiet rfl (Wq.lenS rfl (Wq.nil ?_)) | refine Wt.quiet rfl (Wq.nilP rfl (Wq.nil ?_)) | refine Wt.quiet rfl (Wq.fieldAddr rfl rfl (Wq.nil ?_)) | refine Wt.quiet rfl (Wq.add rfl rfl (by omega) (by omega) (Wq.nil ?_))))
    refine Wt.quiet rfl (Wq.load1 rfl (fun w' hw => (t3.bk.chg hw id).cell (o := 2) rfl) (Wq.nil ?_))
    (repeat' (first | refine Wt.quiet rfl (Wq.moveE (by conv => { lhs; whnf }) (Wq.nil ?_)) | refine Wt.quiet rfl (Wq.lenS rfl (Wq.nil ?_)) | refine Wt.quiet rfl (Wq.nilP rfl (Wq.nil ?_)) | refine Wt.quiet rfl (Wq.fieldAddr rfl rfl (Wq.nil ?_)) | refine Wt.quiet rfl (Wq.add rfl rfl (by omega) (by omega) (Wq.nil ?_))))
    refine Wt.quiet rfl (Wq.load1 rfl (fun w' hw => (t3.bk.chg hw id).cell (o := 2) rfl) (Wq.nil ?_))
    (repeat' (first | refine Wt.quiet rfl (Wq.moveE (by conv => { lhs; whnf }) (Wq.nil ?_)) | refine Wt.quiet rfl (Wq.lenS rfl (Wq.nil ?_))))
    refine Wt.chain rfl (Wl.buildA (cs := (headNs (structL l).length (sizeN (namesN [] l)) l.length).map fun k : Nat => vi k) (parts := [(0, vi 3490578157), (1, vi (32 + ((structL l).length : Int) + (sizeN (namesN [] l) : Nat))), (2, vi 32), (3, vi ((structL l).length : Nat)), (4, vi (32 + ((structL l).length : Int))), (5, vi (sizeN (namesN [] l) : Nat)), (6, vi 17), (7, vi (l.length : Nat))]) rfl rfl (by simp [Value.cells]) (headNs_set _ rfl _ _ _) ?_)
    refine Wl.nil ⟨rfl, n4, ?_⟩
    (repeat' (first | refine Wt.nil ?_ | refine Wt.quiet rfl (Wq.moveE (by conv => { lhs; whnf }) (Wq.nil ?_))))
    (repeat' (first | refine Qseq.normal ?_ | refine Wc.block ?_))
    have henc : encL l = (headNs (structL l).length (sizeN (namesN [] l)) l.length).flatMap cell4 ++ structL l ++ strsN (namesN [] l) := by
      rw [headNs_flat]
      unfold encL
      rw [hsb, List.append_assoc]
      rfl
    generalize hH : headNs (structL l).length (sizeN (namesN [] l)) l.length = H at *
    have hH8 : H.length = 8 := by rw [← hH]; rfl
    generalize hST : structL l = S at *
    generalize hNM : namesN [] l = NM at *
    refine Wc.loop (σ := Nat × Value) (fun x => [(4, .pointer (some ⟨b, 0, none⟩)), (5, .slice sa S.length sc), (6, x.2), (38, .agg (H.map fun k : Nat => vi k).toArray), (39, vi x.1)])
      (fun x w' => x.1 ≤ 8 ∧ Bs (Up w3) w' x.2 ((H.take x.1).flatMap cell4) ∧ New w3 w') (fun x => 8 - x.1) (0, .slice none 0 0) ⟨rfl, rfl, rfl, rfl, rfl, trivial⟩ ⟨Nat.zero_le _, OwnS.nil, n4⟩ ?_
    clear n4
    rintro ⟨i, bv⟩ G w4 ⟨hi, o4, n4⟩
    dsimp only at hi o4 n4
    have up3 : ∀ {w' : World} {v' : Value} {l' : List UInt8} {w4 : World}, w3.heap.size ≤ w4.heap.size → Bs (fun b => Up w3 b ∨ w4.heap.size ≤ b) w' v' l' → Bs (Up w3) w' v' l' := fun hs g => g.mono mono8 (fun b _ e => by rcases e with e | e; exact e; show _ ≤ _; omega) (fun _ _ e => e)
    simp only [upds]
    (repeat' (first | refine Wl.moveE (by conv => { lhs; whnf }) ?_ | refine Wl.nil ?_ | refine Qseq.normal ?_ | refine Wc.seq ?_ | refine Wc.region ?_ | refine Wc.block ?_ | refine Wc.skip ?_ | refine Wc.exit ?_ | refine Qseq.exit ?_ | refine Qblk.hit ?_ | refine Qloop.exit ?_ | refine Wc.condT rfl ?_ | refine Wc.condF rfl ?_ | refine Wl.lss rfl rfl (fun _ => ?_) (fun _ => ?_)))
    · obtain ⟨k, hk⟩ := get_lt H (k := i) (by omega)
      refine Wl.idxArr (u := vi k) rfl rfl (by omega) (by omega) (by rw [Int.toNat_natCast, List.getElem?_map, hk]; rfl) ?_
      (repeat' (first | refine Wl.moveE (by conv => { lhs; whnf }) ?_ | refine Wl.assignE (by conv => { lhs; whnf }) ?_ | refine Wl.nil ?_ | refine Qseq.normal ?_ | refine Wc.region ?_))
      refine Wl.call (cell_spec (n := k) o4 (by rw [flat_cells, List.length_take]; omega)) rfl ?_
      rintro bv5 w5 g
      have := n4.size
      (repeat' (first | refine Wl.moveE (by conv => { lhs; whnf }) ?_ | refine Wl.assignE (by conv => { lhs; whnf }) ?_ | refine Wl.nil ?_ | refine Qseq.normal ?_ | refine Wc.region ?_ | refine Qblk.normal ?_ | refine Wl.add rfl rfl (by omega) (by omega) ?_))
      refine Qloop.normal (i + 1, bv5) ⟨rfl, rfl, rfl, rfl, rfl, trivial⟩ ⟨by show i + 1 ≤ 8; omega, ?_, Chg.trans n4 g.chg fun b hb e => by have : w3.heap.size ≤ b := (o4.lt e).1; omega⟩ (by show 8 - (i + 1) < 8 - i; omega)
      rw [take_snoc hk, List.flatMap_append]
      have := up3 (by omega) g.own
      simpa using this
    · obtain rfl : i = 8 := by omega
      rw [List.take_of_length_le (by omega)] at o4
      have hHl := flat_cells H
      skip
      refine Wl.appendAll (ys := S) goodR8 o4 ((o3'.new (plain_one _) n4).rd mono8) (fun _ _ e => e) rfl rfl (by omega) (by simp only [maxLen]; omega) (by omega) fun bv5 w5 o5 c5 _ _ => ?_
      have s4 := n4.size
      have s5 := c5.size
      have o5 := up3 (by omega) o5
      have n5 : New w3 w5 := Chg.trans n4 c5 fun b hb e => by have : w3.heap.size ≤ b := (o4.lt e).1; omega
      have t5 := t3.chg n5 fun _ _ _ e => e
      (repeat' (first | refine Wl.moveE (by conv => { lhs; whnf }) ?_ | refine Wl.assignE (by conv => { lhs; whnf }) ?_ | refine Wl.nil ?_ | refine Qseq.normal ?_ | refine Wc.seq ?_ | refine Wc.region ?_ | refine Wl.nilP rfl ?_ | refine Wl.fieldAddr rfl rfl ?_))
      refine Wl.load1 rfl (t5.bk.cell (o := 0) rfl) ?_
      (repeat' (first | refine Wl.moveE (by conv => { lhs; whnf }) ?_ | refine Wl.nil ?_ | refine Wl.lenS rfl ?_ | refine Qseq.normal ?_ | refine Wc.block ?_))
      refine Wc.loop (σ := Nat × Value) (fun x => [(6, x.2), (52, .slice na NM.length nc), (53, vi NM.length), (54, vi x.1)])
        (fun x w' => x.1 ≤ NM.length ∧ Bs (Up w3) w' x.2 (H.flatMap cell4 ++ S ++ strsN (NM.take x.1)) ∧ New w3 w') (fun x => NM.length - x.1) (0, bv5) ⟨rfl, rfl, rfl, rfl, trivial⟩ ⟨Nat.zero_le _, by simpa [strsN] using o5, n5⟩ ?_
      clear o4 o5 n4 n5 c5 s4 s5 t5
      rintro ⟨k, bv⟩ G w4 ⟨hk, o4, n4⟩
      dsimp only at hk o4 n4
      simp only [upds]
      have hst := sizeN_take NM k
      have hsn := strsN_length (NM.take k)
      (repeat' (first | refine Wl.moveE (by conv => { lhs; whnf }) ?_ | refine Wl.nil ?_ | refine Qseq.normal ?_ | refine Wc.seq ?_ | refine Wc.region ?_ | refine Wc.block ?_ | refine Wc.skip ?_ | refine Wc.exit ?_ | refine Qseq.exit ?_ | refine Qblk.hit ?_ | refine Qloop.exit ?_ | refine Wc.condT rfl ?_ | refine Wc.condF rfl ?_ | refine Wl.lss rfl rfl (fun _ => ?_) (fun _ => ?_)))
      · obtain ⟨nm, hnm⟩ := get_lt NM (k := k) (by omega)
        have hml := mem_size (List.mem_of_getElem? hnm)
        refine Wl.idxAddr ((t3.own.rd (mono_one _)).keep (stable_one _) n4.keep) rfl rfl (by omega) hnm fun b o cs hl hR hat => ?_
        obtain rfl : cs = [vs nm] := hR
        refine Wl.load1 rfl (hat.get 0 rfl) ?_
        (repeat' (first | refine Wl.moveE (by conv => { lhs; whnf }) ?_ | refine Wl.assignE (by conv => { lhs; whnf }) ?_ | refine Wl.nil ?_ | refine Qseq.normal ?_ | refine Wc.region ?_))
        refine Wl.appendStr o4 rfl rfl (by simp only [maxLen, List.length_append]; omega) (by simp only [List.length_append]; omega) fun bv5 w5 o5 c5 l5 => ?_
        have g5 : Gw (Up w3) w4 bv w5 bv5 _ := ⟨o5, c5, l5⟩
        refine Wl.append1 (y := 0) goodR8 o5 rfl rfl rfl rfl rfl (by omega) (by omega) (by simp only [maxLen, List.length_append]; omega) (by simp only [List.length_append]; omega) rfl rfl fun bv6 w6 p o6 c6 l6 => ?_
        have g6 := g5.trans ⟨o6, c6, l6⟩
        have s4 := n4.size
        have o7 := up3 (by omega) g6.own
        (repeat' (first | refine Wl.moveE (by conv => { lhs; whnf }) ?_ | refine Wl.assignE (by conv => { lhs; whnf }) ?_ | refine Wl.nil ?_ | refine Qseq.normal ?_ | refine Wc.region ?_ | refine Qblk.normal ?_ | refine Wl.add rfl rfl (by omega) (by omega) ?_))
        refine Qloop.normal (k + 1, bv6) ⟨rfl, rfl, rfl, rfl, trivial⟩ ⟨by show k + 1 ≤ NM.length; omega, ?_, Chg.trans n4 g6.chg fun b hb e => by have : w3.heap.size ≤ b := (o4.lt e).1; omega⟩ (by show NM.length - (k + 1) < NM.length - k; omega)
        rw [strsN_take hnm]
        simpa only [List.append_assoc] using o7
      · obtain rfl : k = NM.length := by omega
        rw [List.take_length] at o4
        skip
        refine Wl.bytesStr (o4.rd mono8) rfl ?_
        (repeat' (first | refine Wl.assignE (by conv => { lhs; whnf }) ?_ | refine Wl.nil ?_ | refine Qseq.normal ?_ | refine Wc.ret ?_))
        exact Qfn.ret2 rfl rfl rfl ⟨_, rfl, (by rw [henc]; rfl), New.trans n03 n4⟩
end Go.Proofs.YtlkhajheecglgaaDoor

namespace Go.Proofs.YtlkhajheecglgaaDoor.Wk
open Go Go.RowKit

/-- A contract's post: it returned a value of which φ is known, or panicked, and X is known. -/
def RetX (φ : Value → World → Prop) (X : List PanicEntry → World → Prop) : Ending → World → Prop
  | .returned v, w => φ v w
  | .panicked c, w => X c w
  | .outgrown, _ => False
section
variable {P : Program} {n : Nat} {ds : List Deferred} {Q : Po} {F : Fr} {w w' : World} {ops rest : List Oper} {d : Nat} {ty : TypeId} {pos : String} {aft : Array Edge}
theorem RetX.mono {f : FuncId} {args : Array Value} {φ φ' : Value → World → Prop} {X X' : List PanicEntry → World → Prop} (h : Calls P f args w (RetX φ X)) (h1 : ∀ v w, φ v w → φ' v w) (h2 : ∀ c w, X c w → X' c w) : Calls P f args w (RetX φ' X') :=
  Calls.mono h fun e w' he => by cases e with | returned v => exact h1 _ _ he | panicked c => exact h2 _ _ he | outgrown => exact he.elim
theorem Wl.callX {dst : Option Nat} {args : List Operand} {ts : Array TypeId} {f : FuncId} {vs : List Value} {φ : Value → World → Prop} {X : List PanicEntry → World → Prop}
    [hc : Callable P f] (h : Calls P f vs.toArray w (RetX φ X)) (ha : args.map (ev n F) = vs) (kx : ∀ c w', X c w' → Q (.panic c) F w') (k : ∀ v w', φ v w' → Wl P n ds Q ops rest (updO F dst v) w') :
    Wl P n ds Q ops (⟨dst, .call { callee := .value (.func f), args := args.toArray, argTypes := ts }, ty, pos, aft, none⟩ :: rest) F w := by
  unfold Wl
  refine wpList_plain rfl fun K hK => ?_
  unfold Oper.wp
  have e : (execOp (ev n F) ⟨dst, .call { callee := .value (.func f), args := args.toArray, argTypes := ts }, ty, pos, aft, none⟩).run P w = .ok (.enter f vs.toArray) w := by
    subst ha
    simp only [execOp, resolve, ev, Deferred.ofValue, Sem.run_bind, Sem.run_pure, Result.andThen_ok, invoke, run_callFunc hc]
    congr 3
    apply Array.ext'
    simp
  rw [act_eval', e, Oper.upon_enter]
  refine h.mono ?_
  intro e w'' hv
  cases e with
  | returned v =>
    dsimp only
    refine hK _ _ ?_
    rw [act_putO]
    have := k v w'' hv
    unfold Wl at this
    exact this
  | panicked c => exact ⟨F, rfl, kx c w'' hv⟩
  | outgrown => exact hv.elim
/-- What the program's own 'panic' raises. -/
abbrev chainOf (v : Value) : List PanicEntry := [{ v := v, recovered := false }]
theorem Wl.panic {x : Operand} {t : TypeId} {v : Value} (hx : ev n F x = .iface t v) (k : Q (.panic (chainOf (.iface t v))) F w) :
    Wl P n ds Q ops (⟨none, .panic x, ty, pos, aft, none⟩ :: rest) F w := by
  unfold Wl
  refine wpList_plain rfl fun K hK => ?_
  unfold Oper.wp
  have e : (execOp (ev n F) ⟨none, .panic x, ty, pos, aft, none⟩).run P w = .halt (.panic (.iface t v)) w := by
    simp only [execOp, hx, Sem.run_bind, run_panic_iface]; rfl
  rw [act_eval', e]
  exact ⟨F, rfl, k⟩
class Conc (P : Program) (t : TypeId) : Prop where
  h : P.concrete t = true
theorem Wl.mkIface {x : Operand} {t : TypeId} {v : Value} [hc : Conc P t] (hx : ev n F x = v) (k : Wl P n ds Q ops rest (upd F d (.iface t v)) w) :
    Wl P n ds Q ops (⟨some d, .makeInterface t x, ty, pos, aft, none⟩ :: rest) F w :=
  Wl.val (by simp only [execOp, hx, Sem.run_bind, run_makeInterface w t v hc.h, Result.andThen_ok, Sem.run_pure]) k
theorem Qfn.panic {fn : Func} {R : Ending → World → Prop} {c : List PanicEntry} (k : R (.panicked c) w) : Qfn P n fn R (.panic c) F w := by unfold Qfn; exact k

/-! Results that lie in variables. -/
def rvOf (tmps : Array Value) : ResultVar → Sem Value
  | .tmp t => pure (tmps.getD t undef)
  | .cell a t => do loadVar t (← asAddr (tmps.getD a undef))
theorem rvOf_tmp {t : Nat} (ht : Nat.blt t n = true) : (rvOf (arr n F) (.tmp t)).run P w = .ok (F t) w := by
  simp only [rvOf, Sem.run_pure]
  rw [Array.getD_eq_getD_getElem?, arr_get, if_pos (by rwa [Nat.blt_eq] at ht)]; rfl
theorem rvOf_one {a e bytes b : Nat} {z u : Value} {T : TypeId} [he : ElT P e 1 bytes false z] (ht : Nat.blt a n = true) (hF : F a = .pointer (some ⟨b, 0, none⟩)) (hb : Bk w b T [u]) : (rvOf (arr n F) (.cell a e)).run P w = .ok u w := by
  have e1 : (arr n F).getD a undef = .pointer (some ⟨b, 0, none⟩) := by rw [Array.getD_eq_getD_getElem?, arr_get, if_pos (by rwa [Nat.blt_eq] at ht)]; exact hF
  have := hb.cell (o := 0) (u := u) rfl
  simp only [rvOf, e1]
  simp [asAddr, loadVar, he.isAgg, this]
theorem rvOf_agg {a e sz bytes b : Nat} {z : Value} {T : TypeId} {cs : List Value} [he : ElT P e sz bytes true z] (ht : Nat.blt a n = true) (hF : F a = .pointer (some ⟨b, 0, none⟩)) (hb : Bk w b T cs) (hl : cs.length = sz) : (rvOf (arr n F) (.cell a e)).run P w = .ok (.agg cs.toArray) w := by
  have e1 : (arr n F).getD a undef = .pointer (some ⟨b, 0, none⟩) := by rw [Array.getD_eq_getD_getElem?, arr_get, if_pos (by rwa [Nat.blt_eq] at ht)]; exact hF
  have := run_loadCells_list (P := P) w ⟨b, 0, none⟩ cs (fun j u hu => by rw [addr_add, Nat.zero_add]; exact hb.cell hu)
  simp only [rvOf, e1]
  simp [asAddr, loadVar, he.isAgg, he.sizeOf, ← hl, this]
theorem results_rv {fn : Func} {tmps : Array Value} : results fn tmps = (do let vs ← fn.results.mapM (rvOf tmps); pure (if h : vs.size = 1 then vs[0] else .tuple vs)) := by
  unfold results
  congr 1
theorem results1 {fn : Func} {a : ResultVar} {u : Value} (h : fn.results = #[a]) (h1 : (rvOf (arr n F) a).run P w = .ok u w) : (results fn (arr n F)).run P w = .ok u w := by
  rw [results_rv, h]
  simp [h1]
theorem results2 {fn : Func} {a b : ResultVar} {u v : Value} (h : fn.results = #[a, b]) (h1 : (rvOf (arr n F) a).run P w = .ok u w) (h2 : (rvOf (arr n F) b).run P w = .ok v w) : (results fn (arr n F)).run P w = .ok (.tuple #[u, v]) w := by
  rw [results_rv, h]
  simp [h1, h2]
theorem Qfn.retR {fn : Func} {R : Ending → World → Prop} {v : Value} (h : (results fn (arr n F)).run P w = .ok v w) (k : R (.returned v) w) : Qfn P n fn R .ret F w := by
  unfold Qfn; exact ⟨v, h, k⟩

/-! A function whose second statement defers a closure; what leaves it. -/
def Qd (P : Program) (n : Nat) (fn : Func) (R : Ending → World → Prop) (ds : List Deferred) : Po
  | .normal, F, w | .ret, F, w => Leaves P fn (arr n F) R ds .returning w
  | .panic chain, F, w => Leaves P fn (arr n F) R ds (.panicking chain) w
  | .outgrown, _, w => R .outgrown w
  | _, _, _ => False
theorem calls_of_defer {f : FuncId} {fn : Func} {c1 c3 : Code} {id : Nat} {t g : Nat} {cap : List Operand} {l : List Value} {R : Ending → World → Prop} {ty1 ty2 : TypeId} {p1 p2 : String} {e1 e2 : Array Edge} {ts : Array TypeId}
    (hf : P.funcs[f]? = some fn) (hb : fn.body = some (.seq c1 (.seq (.region id [⟨some t, .makeFunc (.func g) #[] cap.toArray, ty1, p1, e1, none⟩, ⟨none, .defer { callee := .value (.tmp t), args := #[], argTypes := ts }, ty2, p2, e2, none⟩].toArray false) c3)))
    (hn : fn.ntmps = n) (hl : Nat.ble l.length n = true) (ht : Nat.blt t n = true)
    (h : Wc P n [] (fun e F w' => e = .normal ∧ Wc P n [⟨.fn (.func g) (cap.map (ev n F)).toArray, #[]⟩] (Qd P n fn R [⟨.fn (.func g) (cap.map (ev n F)).toArray, #[]⟩]) c3 (upd F t (.func (.func g) #[] (cap.map (ev n F)).toArray)) w') c1 (ofArgs l) w) :
    Calls P f l.toArray w R := by
  refine calls_of_wp_defers hf hb ?_
  rw [hn, act_ofArgs l n (Nat.le_of_ble_eq_true hl)]
  unfold Wc at h
  refine wp_seq (wp_mono h ?_)
  rintro e a w1 ⟨F, rfl, rfl, hq⟩
  refine wp_seq (wp_region_lit ?_)
  refine wpList_plain rfl fun K hK => ?_
  unfold Oper.wp
  have e1 : (execOp (ev n F) ⟨some t, .makeFunc (.func g) #[] cap.toArray, ty1, p1, e1, none⟩).run P w1 = .ok (.value (.func (.func g) #[] (cap.map (ev n F)).toArray)) w1 := by
    simp [execOp, Instr.makeFunc]
  rw [act_eval', e1, Oper.upon_value, act_put]
  refine hK _ _ ?_
  refine wpList_plain rfl fun K hK => ?_
  unfold Oper.wp
  have e2 : (execOp (ev n (upd F t (.func (.func g) #[] (cap.map (ev n F)).toArray))) ⟨none, .defer { callee := .value (.tmp t), args := #[], argTypes := ts }, ty2, p2, e2, none⟩).run P w1 = .ok (.defer ⟨.fn (.func g) (cap.map (ev n F)).toArray, #[]⟩) w1 := by
    simp only [execOp, resolve, ev, ht, upd_eq, if_pos]
    simp [Deferred.ofValue]
  rw [act_eval', e2, Oper.upon_defer]
  refine hK _ _ ?_
  unfold wpList
  refine wp_mono hq ?_
  rintro e a w2 ⟨F2, rfl, hq2⟩
  unfold Qd at hq2
  cases e <;> exact hq2
end
end Go.Proofs.YtlkhajheecglgaaDoor.Wk

namespace Go.Proofs.YtlkhajheecglgaaDoor.Wk
open Go Go.RowKit

def QX (X : List PanicEntry → World → Prop) : Exit → Act → World → Prop
  | .panic c, _, w => X c w
  | _, _, _ => False
def Qx (X : List PanicEntry → World → Prop) (K : Fr → World → Prop) : Po
  | .normal, F, w => K F w
  | .panic c, _, w => X c w
  | _, _, _ => False
section
variable {P : Program} {ops : Array Oper} {C : World → Prop} {Q : Exit → Act → World → Prop} {X : List PanicEntry → World → Prop}
theorem wpOp_of_QX {i : Nat} {K K' : Act → World → Prop} {a : Act} {w : World} (hX : ∀ c w, X c w → Q (.panic c) a w) (hK : ∀ a w, K a w → K' a w) (h : wpOp P ops (QX X) i K a w) : wpOp P ops Q i K' a w := by
  unfold wpOp at h ⊢
  split
  · rename_i ho; simp only [ho] at h; exact hK _ _ h
  · rename_i o ho
    simp only [ho] at h
    split
    · rename_i hw
      simp only [hw, if_true] at h
      rcases h with h | ⟨_, a₀, w₀, hq⟩
      · refine .inl ?_
        unfold Oper.wp at *
        generalize (execOp a.eval o).run P w = r at *
        cases r with
        | ok nx w' =>
          cases nx <;> simp only [Oper.upon] at h ⊢ <;>
            first
              | exact hK _ _ h
              | exact Calls.mono h (fun e w'' he => by cases e <;> first | exact hK _ _ he | exact hX _ _ he | (obtain ⟨a₀, w₀, hq⟩ := he; exact hq.elim))
              | exact Rows.mono h (fun _ _ he => hK _ _ he)
        | halt x w' => cases x <;> simp only [Oper.upon] at h ⊢ <;> first | exact hX _ _ h | exact h.elim
      · exact hq.elim
    · rename_i hw
      simp only [hw] at h
      exact hK _ _ h
/-- An operation apart from a quiet one. -/
theorem wpOp_putX {j : Nat} {oi oj : Oper} {v : Value} (hj : ops[j]? = some oj) (hap : oi.apart ops oj = true)
    (hsi : ∀ cs b, oi.op ≠ .select cs b) (hsj : ∀ cs b, oj.op ≠ .select cs b) {K : Act → World → Prop} {a : Act} {w : World} (hy : YieldsIn P ops C oi v a) (h : wpOp P ops (QX X) j K (a.put oi.dst v) w) :
    wpOp P ops (QX X) j (fun a' w' => YieldsIn P ops C oi v a' ∧ K (a'.put oi.dst v) w') a w := by
  obtain ⟨h1, h2, h3⟩ := Oper.apart_spec hap
  have keep : ∀ (a : Act), YieldsIn P ops C oi v a → ∀ u, YieldsIn P ops C oi v (a.put oj.dst u) := fun a hy u =>
    hy.of_same (execOp_put oi hsi a oj.dst u h3) (wanted_put oi a oj.dst u h3)
  have both : ∀ u w', K ((a.put oi.dst v).put oj.dst u) w' → YieldsIn P ops C oi v (a.put oj.dst u) ∧ K ((a.put oj.dst u).put oi.dst v) w' := fun u w' hk => ⟨keep a hy u, by rw [← Act.put_comm a v u h2]; exact hk⟩
  unfold wpOp at *
  simp only [hj] at *
  rw [wanted_put oj a oi.dst v h1] at h
  split
  · rename_i hw
    simp only [hw, if_true] at h
    rcases h with h | ⟨_, a₀, w₀, hq⟩
    · refine .inl ?_
      unfold Oper.wp at *
      rw [execOp_put oj hsj a oi.dst v h1] at h
      generalize (execOp a.eval oj).run P w = r at *
      cases r with
      | ok nx w' =>
        cases nx with
        | value u => exact both _ _ h
        | skip => exact both _ _ h
        | enter f args => exact Calls.mono h (fun e w'' he => by cases e with | returned u => exact both _ _ he | panicked c => exact he | outgrown => obtain ⟨a₀, w₀, hq⟩ := he; exact hq.elim)
        | row r' args => exact Rows.mono h (fun _ _ he => both _ _ he)
        | defer d =>
          simp only [Oper.upon] at h ⊢
          refine ⟨?_, ?_⟩
          · have h5 : ∀ u, YieldsIn P ops C oi v (({ a with defers := d :: a.defers } : Act).put oj.dst u) := by
              intro u
              have h6 := keep a hy u
              exact h6.of_same (by congr 1; funext x; cases oj.dst <;> cases x <;> rfl) (by cases oj.dst <;> rfl)
            exact h5 _
          · have : ({ (a.put oi.dst v) with defers := d :: (a.put oi.dst v).defers } : Act).put oj.dst undef = (({ a with defers := d :: a.defers } : Act).put oj.dst undef).put oi.dst v := by
              rw [← Act.put_comm _ v undef h2]; cases oi.dst <;> rfl
            rw [← this]; exact h
        | _ => exact h.elim
      | halt x w' => cases x <;> first | exact h | exact h.elim
    · exact hq.elim
  · rename_i hw
    simp only [hw] at h
    exact both _ _ h

theorem wpOp_noQX {a₁ : Array Oper} {Qx : Exit → Act → World → Prop} {i : Nat} {K K' : Act → World → Prop} {a : Act} {w : World} (hX : ∀ c a w, Qx (.panic c) a w → X c w) (noO : ∀ a w, ¬ Qx .outgrown a w) (hK : ∀ a w, K a w → K' a w) (h : wpOp P a₁ Qx i K a w) : wpOp P a₁ (QX X) i K' a w := by
  unfold wpOp at h ⊢
  split
  · rename_i ho; simp only [ho] at h; exact hK _ _ h
  · rename_i o ho
    simp only [ho] at h
    split
    · rename_i hw
      simp only [hw, if_true] at h
      rcases h with h | ⟨_, a₀, w₀, hq⟩
      · refine .inl ?_
        unfold Oper.wp at *
        generalize (execOp a.eval o).run P w = r at *
        cases r with
        | ok nx w' =>
          cases nx <;> simp only [Oper.upon] at h ⊢ <;>
            first
              | exact hK _ _ h
              | exact Calls.mono h (fun e w'' he => by cases e <;> first | exact hK _ _ he | exact hX _ _ _ he | (obtain ⟨a₀, w₀, hq⟩ := he; exact absurd hq (noO _ _)))
              | exact Rows.mono h (fun _ _ he => hK _ _ he)
        | halt x w' => cases x <;> simp only [Oper.upon] at h ⊢ <;> first | exact hX _ _ _ h | exact h.elim
      · exact absurd hq (noO _ _)
    · rename_i hw
      simp only [hw] at h
      exact hK _ _ h
end
section
variable {P : Program} {ops : Array Oper} {C : World → Prop} {Q : Exit → Act → World → Prop} {X : List PanicEntry → World → Prop} {m : Nat} {ds : List Deferred}
def isAct (m : Nat) (ds : List Deferred) (a : Act) : Prop := a.tmps.size = m ∧ a.defers = ds
theorem isAct_put {m : Nat} {ds : List Deferred} {a : Act} {d : Option Tmp} {v : Value} : isAct m ds (a.put d v) ↔ isAct m ds a := by
  cases d <;> simp [isAct, Act.put]
def TGX (P : Program) (ops : Array Oper) (X : List PanicEntry → World → Prop) (m : Nat) (ds : List Deferred) (C : World → Prop) (Q : Exit → Act → World → Prop) : Nat → List Nat → Act → World → Prop
  | 0, _, a, w => Q .normal a w
  | f + 1, l, a, w => match nextQ ops l with
    | some q => ∃ o v, ops[q]? = some o ∧ YieldsIn P ops C o v a ∧ TGX P ops X m ds C Q f (out q l) (a.put o.dst v) w
    | none => ∀ j ∈ l, availB ops l j = true → if j + 1 = ops.size then wpOp P ops Q j (fun a' w' => Q .normal a' w') a w else wpOp P ops (QX X) j (fun a' w' => (C w' ∧ isAct m ds a') ∧ TGX P ops X m ds C Q f (out j l) a' w') a w
/-- What only reads and may come up now may be taken now, or had been. -/
theorem TGX_quiet (hok : okG ops = true) : ∀ (f : Nat) (q : Nat) (oq : Oper), ops[q]? = some oq → isQ ops q = true → ∀ (l : List Nat) (a : Act) (w : World), l.length = f + 1 → l.Nodup → (∀ i ∈ l, i < ops.size) → q ∈ l → availB ops l q = true →
    (TGX P ops X m ds C Q (f + 1) l a w ↔ ∃ v, YieldsIn P ops C oq v a ∧ TGX P ops X m ds C Q f (out q l) (a.put oq.dst v) w) := by
  intro f
  induction f with
  | zero =>
    intro q oq hq hqq l a w hl hn hlt hm ha
    obtain ⟨x, rfl⟩ : ∃ x, l = [x] := by cases l with | nil => cases hl | cons x r => cases r with | nil => exact ⟨x, rfl⟩ | cons y s => simp at hl
    obtain rfl : q = x := by simpa using hm
    have hnq : nextQ ops [q] = some q := by simp [nextQ, hqq, ha]
    rw [TGX, hnq]
    simp only [hq, Option.some.injEq]
    exact ⟨fun ⟨o, v, e, h⟩ => by cases e; exact ⟨v, h⟩, fun ⟨v, h⟩ => ⟨oq, v, rfl, h⟩⟩
  | succ f ih =>
    intro q oq hq hqq l a w hl hn hlt hm ha
    rw [TGX]
    cases hnq : nextQ ops l with
    | none =>
      exfalso
      have := List.find?_eq_none.1 hnq q hm
      simp [hqq, ha] at this
    | some r =>
      have hr := List.find?_some hnq
      have hrm := List.mem_of_find?_eq_some hnq
      simp only [Bool.and_eq_true] at hr
      dsimp only
      by_cases hrq : r = q
      · subst hrq
        simp only [hq, Option.some.injEq]
        exact ⟨fun ⟨o, v, e, h⟩ => by cases e; exact ⟨v, h⟩, fun ⟨v, h⟩ => ⟨oq, v, rfl, h⟩⟩
      · obtain ⟨or', hor⟩ : ∃ o, ops[r]? = some o := ⟨ops[r]'(hlt r hrm), Array.getElem?_eq_getElem (hlt r hrm)⟩
        have ap := apart_of hok hor hq hrm hm hr.2 ha hrq
        have hne := (Oper.apart_spec ap.ij).2.1
        have lr := out_len hn hrm
        have lq := out_len hn hm
        have nr : (out r l).Nodup := hn.filter _
        have nq : (out q l).Nodup := hn.filter _
        have e1 := fun a' => ih q oq hq hqq (out r l) a' w (by omega) nr (fun i hi => hlt i (mem_out.1 hi).1) (mem_out.2 ⟨hm, fun e => hrq e.symm⟩) (avail_out ha)
        have e2 := fun a' => ih r or' hor hr.1 (out q l) a' w (by omega) nq (fun i hi => hlt i (mem_out.1 hi).1) (mem_out.2 ⟨hrm, hrq⟩) (avail_out hr.2)
        constructor
        · rintro ⟨o, vr, eo, hy, ht⟩
          rw [hor] at eo
          cases eo
          obtain ⟨vq, hyq, ht2⟩ := (e1 _).1 ht
          refine ⟨vq, (yields_unput ap.ij ap.sj).1 hyq, (e2 _).2 ⟨vr, (yields_unput ap.ji ap.si).2 hy, ?_⟩⟩
          rw [out_comm, ← Act.put_comm a vr vq hne]
          exact ht2
        · rintro ⟨vq, hyq, ht⟩
          obtain ⟨vr, hyr, ht2⟩ := (e2 _).1 ht
          refine ⟨or', vr, hor, (yields_unput ap.ji ap.si).1 hyr, (e1 _).2 ⟨vq, (yields_unput ap.ij ap.sj).2 hyq, ?_⟩⟩
          rw [out_comm, Act.put_comm a vr vq hne]
          exact ht2
/-- Another operation that may come up now may be taken first. -/
theorem TGX_chain (hok : okG ops = true) {j : Nat} {oj : Oper} (hj : ops[j]? = some oj) (hjq : isQ ops j = false) (hjl : j + 1 ≠ ops.size) : ∀ (f : Nat) (l : List Nat) (a : Act) (w : World), l.length = f + 1 → l.Nodup → (∀ i ∈ l, i < ops.size) → j ∈ l → availB ops l j = true →
    TGX P ops X m ds C Q (f + 1) l a w → wpOp P ops (QX X) j (fun a' w' => (C w' ∧ isAct m ds a') ∧ TGX P ops X m ds C Q f (out j l) a' w') a w := by
  intro f
  induction f with
  | zero =>
    intro l a w hl hn hlt hm ha h
    obtain ⟨x, rfl⟩ : ∃ x, l = [x] := by cases l with | nil => cases hl | cons x r => cases r with | nil => exact ⟨x, rfl⟩ | cons y s => simp at hl
    obtain rfl : j = x := by simpa using hm
    have hnq : nextQ ops [j] = none := by simp [nextQ, hjq]
    rw [TGX, hnq] at h
    have := h j (by simp) ha
    rwa [if_neg hjl] at this
  | succ f ih =>
    intro l a w hl hn hlt hm ha h
    have h0 := h
    rw [TGX] at h
    cases hnq : nextQ ops l with
    | none =>
      rw [hnq] at h
      have := h j hm ha
      rwa [if_neg hjl] at this
    | some r =>
      have hr := List.find?_some hnq
      have hrm := List.mem_of_find?_eq_some hnq
      simp only [Bool.and_eq_true] at hr
      obtain ⟨or', hor⟩ : ∃ o, ops[r]? = some o := ⟨ops[r]'(hlt r hrm), Array.getElem?_eq_getElem (hlt r hrm)⟩
      have hrj : r ≠ j := fun e => by rw [e, hjq] at hr; cases hr.1
      have ap := apart_of hok hor hj hrm hm hr.2 ha hrj
      have lr := out_len hn hrm
      have lj := out_len hn hm
      have nr : (out r l).Nodup := hn.filter _
      have nj : (out j l).Nodup := hn.filter _
      obtain ⟨v, hy, ht⟩ := (TGX_quiet hok (f + 1) r or' hor hr.1 l a w hl hn hlt hrm hr.2).1 h0
      have hw := ih (out r l) _ w (by omega) nr (fun i hi => hlt i (mem_out.1 hi).1) (mem_out.2 ⟨hm, fun e => hrj e.symm⟩) (avail_out ha) ht
      refine wpOp_mono (fun a' w' h' => ?_) (wpOp_putX hj ap.ij ap.si ap.sj hy hw)
      obtain ⟨hy', hC', ht'⟩ := h'
      refine ⟨⟨hC'.1, isAct_put.1 hC'.2⟩, (TGX_quiet hok f r or' hor hr.1 (out j l) a' w' (by omega) nj (fun i hi => hlt i (mem_out.1 hi).1) (mem_out.2 ⟨hrm, hrj⟩) (avail_out hr.2)).2 ⟨v, hy', ?_⟩⟩
      rw [out_comm]; exact ht'
theorem wpAny_of_TGX (hX : ∀ a, isAct m ds a → ∀ c w, X c w → Q (.panic c) a w) (hok2 : okGL ops = true) : ∀ (fuel : Nat) (listed : Array Bool) (a : Act) (w : World), (fuel ≠ 0 → isAct m ds a) → listed.size = ops.size → (left ops listed).length = fuel → Clos ops listed → (fuel ≠ 0 → C w) → TGX P ops X m ds C Q fuel (left ops listed) a w → wpAny P .any ops Q fuel listed a w := by
  have hok : okG ops = true := by unfold okGL at hok2; simp only [Bool.and_eq_true] at hok2; exact hok2.1
  have hlast : (isQ ops (ops.size - 1) || (List.range ops.size).all fun k => (ahead ops ops.size [ops.size - 1]).contains k) = true := by unfold okGL at hok2; simp only [Bool.and_eq_true] at hok2; exact hok2.2
  have hdown : ∀ (j : Nat) (o : Oper), ops[j]? = some o → ∀ e ∈ o.after, Region.binds .any e = true → e.on < j := by
    intro j o ho e he hb
    have := hok
    simp only [okG, Bool.and_eq_true] at this
    have h3 := List.all_eq_true.1 this.2 j (List.mem_range.2 (Array.getElem?_eq_some_iff.1 ho).1)
    have hm : e.on ∈ boundL ops j := by
      unfold boundL; rw [ho]
      exact List.mem_map.2 ⟨e, List.mem_filter.2 ⟨by simpa using he, hb⟩, rfl⟩
    exact of_decide_eq_true (List.all_eq_true.1 h3 _ hm)
  have rdy : ∀ listed : Array Bool, listed.size = ops.size → ∀ i, i ∈ Region.ready .any ops listed → i ∈ left ops listed ∧ availB ops (left ops listed) i = true := by
    intro listed hs i hi
    obtain ⟨h0, o, ho, hall⟩ := mem_ready.1 hi
    refine ⟨?_, ?_⟩
    · unfold left
      rw [List.mem_filter, List.mem_range]
      exact ⟨(Array.getElem?_eq_some_iff.1 ho).1, by simp [h0]⟩
    · unfold availB boundL
      rw [ho, List.all_eq_true]
      intro k hk
      obtain ⟨e, he, rfl⟩ := List.mem_map.1 hk
      rw [List.mem_filter] at he
      have h1 := hall e (by simpa using he.1) he.2
      simp only [Bool.not_eq_true', Bool.eq_false_iff, ne_eq, List.contains_iff_mem]
      intro hm
      unfold left at hm
      rw [List.mem_filter, List.mem_range] at hm
      have hlt : e.on < listed.size := by rw [hs]; exact hm.1
      have h2 := hm.2
      simp [Array.getD_eq_getD_getElem?, Array.getElem?_eq_getElem hlt] at h1 h2
      rw [h1] at h2; cases h2
  intro fuel
  induction fuel with
  | zero =>
    intro listed a w hA hs hl hcl hC h
    have hnil : left ops listed = [] := List.eq_nil_of_length_eq_zero hl
    refine ⟨?_, h⟩
    rw [List.eq_nil_iff_forall_not_mem]
    intro i hi
    have := (rdy listed hs i hi).1
    rw [hnil] at this
    cases this
  | succ fuel ih =>
    intro listed a w hA hs hl hcl hC h
    replace hC := hC (by simp)
    replace hA := hA (by simp)
    have hnd : (left ops listed).Nodup := List.Nodup.sublist List.filter_sublist List.nodup_range
    have hunl : ∀ i ∈ left ops listed, i < ops.size ∧ listed.getD i true = false := fun i hi => by
      unfold left at hi
      rw [List.mem_filter, List.mem_range] at hi
      exact ⟨hi.1, by simpa using hi.2⟩
    refine ⟨fun h0 => ?_, fun j hj => ?_⟩
    · exfalso
      cases hL : left ops listed with
      | nil => rw [hL] at hl; cases hl
      | cons i l =>
        have hmem : i ∈ left ops listed := by rw [hL]; simp
        obtain ⟨his, hun⟩ := hunl i hmem
        have hall : ∀ k, k < i → listed.getD k false = true := by
          intro k hk
          have hks : k < ops.size := by omega
          cases hb : listed.getD k true with
          | true => simpa [Array.getD_eq_getD_getElem?, hs, hks] using hb
          | false =>
            have hkm : k ∈ left ops listed := by unfold left; rw [List.mem_filter, List.mem_range]; exact ⟨hks, by simp [hb]⟩
            have hsort : (left ops listed).Pairwise (· < ·) := List.Pairwise.sublist List.filter_sublist List.pairwise_lt_range
            rw [hL] at hkm hsort
            rcases List.mem_cons.1 hkm with e | e
            · omega
            · have := (List.pairwise_cons.1 hsort).1 k e; omega
        have : i ∈ Region.ready .any ops listed := mem_ready.2 ⟨hun, ops[i], Array.getElem?_eq_getElem his, fun e he hb => hall e.on (hdown i _ (Array.getElem?_eq_getElem his) e he hb)⟩
        rw [h0] at this
        cases this
    · obtain ⟨hjm, hja⟩ := rdy listed hs j hj
      have hjs := (hunl j hjm).1
      have hoj : ops[j]? = some ops[j] := Array.getElem?_eq_getElem hjs
      have hset : left ops (listed.setIfInBounds j true) = out j (left ops listed) := left_set hs hjs
      have hlen := out_len hnd hjm
      have hcl' := hcl.set hj
      have hlen' : (left ops (listed.setIfInBounds j true)).length = fuel := by rw [hset]; omega
      cases hjq : isQ ops j with
      | true =>
        obtain ⟨v, hy, ht⟩ := (TGX_quiet hok fuel j _ hoj hjq (left ops listed) a w hl hnd (fun i hi => (hunl i hi).1) hjm hja).1 h
        have hrj : readB ops[j].op = true := by unfold isQ at hjq; rw [hoj] at hjq; exact hjq
        exact YieldsS.wpOp hoj hy hrj hC (ih _ _ w (fun _ => isAct_put.2 hA) (by simpa using hs) hlen' hcl' (fun _ => hC) (by rw [hset]; exact ht))
      | false =>
        by_cases hjl : j + 1 = ops.size
        · have hj1 : ops.size - 1 = j := by omega
          rw [hj1, hjq, Bool.false_or] at hlast
          have hbehind : ∀ k, k ∈ ahead ops ops.size [j] → k = j ∨ listed.getD k false = true := ahead_spec hcl hj _ _ (by simp)
          have all : ∀ i ∈ left ops listed, i = j := fun i hi => by
            obtain ⟨his, hun⟩ := hunl i hi
            rcases hbehind i (by simpa using List.all_eq_true.1 hlast i (List.mem_range.2 his)) with e | e
            · exact e
            · simp [Array.getD_eq_getD_getElem?, hs, his] at hun e
              rw [hun] at e; cases e
          have hL : left ops listed = [j] := by
            cases hh : left ops listed with
            | nil => rw [hh] at hl; cases hl
            | cons x r =>
              rw [hh] at all hnd
              obtain rfl := all x (by simp)
              cases r with
              | nil => rfl
              | cons y s =>
                have := all y (by simp)
                subst this
                exact absurd (by simp) (List.nodup_cons.1 hnd).1
          have hf : fuel = 0 := by rw [hL] at hl; simpa using hl.symm
          subst hf
          rw [hL] at h hja
          have hnq : nextQ ops [j] = none := by simp [nextQ, hjq]
          rw [TGX, hnq] at h
          have hw := h j (by simp) hja
          rw [if_pos hjl] at hw
          exact wpOp_mono (fun a' w' h' => ih _ a' w' (fun hne => absurd rfl hne) (by simpa using hs) hlen' hcl' (fun hne => absurd rfl hne) h') hw
        · exact wpOp_of_QX (hX _ hA) (fun a' w' h' => ih _ a' w' (fun _ => h'.1.2) (by simpa using hs) hlen' hcl' (fun _ => h'.1.1) (by rw [hset]; exact h'.2)) (TGX_chain hok hoj hjq hjl fuel (left ops listed) a w hl hnd (fun i hi => (hunl i hi).1) hjm hja h)
end

section
variable {P : Program} {n : Nat} {ds : List Deferred} {Q : Po} {F : Fr} {ops : List Oper} {C : World → Prop} {w : World} {X : List PanicEntry → World → Prop}
/-- The walk that parts: by frames. -/
theorem act_QA {a : Act} {e : Exit} (h : isAct n ds a) (k : Q e (fun j => a.tmps.getD j undef) w) : QA n ds Q e a w := by
  refine ⟨_, ?_, k⟩
  obtain ⟨t, d⟩ := a
  obtain ⟨h1, h2⟩ := h
  dsimp only at h1 h2
  subst h2
  simp only [act, Act.mk.injEq, and_true]
  apply Array.ext_getElem?
  intro i
  rw [arr_get]
  by_cases hi : i < n
  · rw [if_pos hi, Array.getD_eq_getD_getElem?, Array.getElem?_eq_getElem (by omega)]; rfl
  · rw [if_neg hi, Array.getElem?_eq_none (by omega)]
def Wx (P : Program) (n : Nat) (ds : List Deferred) (C : World → Prop) (X : List PanicEntry → World → Prop) (Q : Po) (ops : List Oper) : Nat → List Nat → Fr → World → Prop
  | 0, _, F, w => Q .normal F w
  | f + 1, l, F, w => match nextQ ops.toArray l with
    | some q => ∃ o, ops[q]? = some o ∧ Wq P n ds C (fun F' => Wx P n ds C X Q ops f (out q l) F' w) ops [o] F
    | none => ∀ j ∈ l, availB ops.toArray l j = true → ∃ o, ops[j]? = some o ∧ (if j + 1 = ops.length then Wl P n ds Q ops [o] F w else Wl P n ds (Qx X fun F' w' => C w' ∧ Wx P n ds C X Q ops f (out j l) F' w') ops [o] F w)
theorem Wx.nil {l : List Nat} (h : Q .normal F w) : Wx P n ds C X Q ops 0 l F w := h
theorem Wx.quiet {f q : Nat} {l l' : List Nat} {o : Oper} (h : nextQ ops.toArray l = some q) (ho : ops[q]? = some o) (hl : out q l = l') (k : Wq P n ds C (fun F' => Wx P n ds C X Q ops f l' F' w) ops [o] F) : Wx P n ds C X Q ops (f + 1) l F w := by
  subst hl
  rw [Wx, h]
  exact ⟨o, ho, k⟩
theorem Wx.one {f j : Nat} {l l' : List Nat} {o : Oper} (h : nextQ ops.toArray l = none) (hr : l.filter (availB ops.toArray l) = [j]) (ho : ops[j]? = some o) (hjl : Nat.beq (j + 1) ops.length = false) (hl : out j l = l')
    (k : Wl P n ds (Qx X fun F' w' => C w' ∧ Wx P n ds C X Q ops f l' F' w') ops [o] F w) : Wx P n ds C X Q ops (f + 1) l F w := by
  subst hl
  rw [Wx, h]
  intro i hi ha
  have hm : i ∈ l.filter (availB ops.toArray l) := List.mem_filter.2 ⟨hi, ha⟩
  rw [hr] at hm
  obtain rfl : i = j := by simpa using hm
  exact ⟨o, ho, by rw [if_neg (Nat.ne_of_beq_eq_false hjl)]; exact k⟩
theorem Wx.two {f j1 j2 : Nat} {l l1 l2 : List Nat} {o1 o2 : Oper} (h : nextQ ops.toArray l = none) (hr : l.filter (availB ops.toArray l) = [j1, j2]) (ho1 : ops[j1]? = some o1) (ho2 : ops[j2]? = some o2)
    (hjl1 : Nat.beq (j1 + 1) ops.length = false) (hjl2 : Nat.beq (j2 + 1) ops.length = false) (hl1 : out j1 l = l1) (hl2 : out j2 l = l2)
    (k1 : Wl P n ds (Qx X fun F' w' => C w' ∧ Wx P n ds C X Q ops f l1 F' w') ops [o1] F w) (k2 : Wl P n ds (Qx X fun F' w' => C w' ∧ Wx P n ds C X Q ops f l2 F' w') ops [o2] F w) : Wx P n ds C X Q ops (f + 1) l F w := by
  subst hl1
  subst hl2
  rw [Wx, h]
  intro i hi ha
  have hm : i ∈ l.filter (availB ops.toArray l) := List.mem_filter.2 ⟨hi, ha⟩
  rw [hr] at hm
  have : i = j1 ∨ i = j2 := by simpa using hm
  rcases this with rfl | rfl
  · exact ⟨o1, ho1, by rw [if_neg (Nat.ne_of_beq_eq_false hjl1)]; exact k1⟩
  · exact ⟨o2, ho2, by rw [if_neg (Nat.ne_of_beq_eq_false hjl2)]; exact k2⟩
theorem Wx.last {f j : Nat} {l : List Nat} {o : Oper} (h : nextQ ops.toArray l = none) (hr : l = [j]) (ho : ops[j]? = some o) (hjl : j + 1 = ops.length) (k : Wl P n ds Q ops [o] F w) : Wx P n ds C X Q ops (f + 1) l F w := by
  rw [Wx, h]
  subst hr
  intro i hi ha
  obtain rfl : i = j := by simpa using hi
  exact ⟨o, ho, by rw [if_pos hjl]; exact k⟩
theorem TGX_of_Wx : ∀ (f : Nat) (l : List Nat) (F : Fr) (w : World), Wx P n ds C X Q ops f l F w → TGX P ops.toArray X n ds C (QA n ds Q) f l (act n ds F) w
  | 0, l, F, w, h => ⟨F, rfl, h⟩
  | f + 1, l, F, w, h => by
    rw [TGX]
    rw [Wx] at h
    cases hq : nextQ ops.toArray l with
    | some q =>
      rw [hq] at h
      obtain ⟨o, ho, h⟩ := h
      have ho' : ops.toArray[q]? = some o := by simpa using ho
      unfold Wq at h
      have hst : qOp P ops.toArray C q (fun a => ∃ F', a = act n ds F' ∧ Wx P n ds C X Q ops f (out q l) F' w) (act n ds F) := by unfold qOp; simp only [ho']; exact h
      obtain ⟨v, hy, F', hF, hw⟩ := yieldsIn_of_qOp ho' hst
      refine ⟨o, v, ho', hy, ?_⟩
      rw [hF]
      exact TGX_of_Wx f (out q l) F' w hw
    | none =>
      rw [hq] at h
      intro j hj ha
      obtain ⟨o, ho, h⟩ := h j hj ha
      have hsz : ops.toArray.size = ops.length := by simp
      rw [hsz]
      split
      · rename_i he
        rw [if_pos he] at h
        exact wpOp_of_Wl ho h
      · rename_i he
        rw [if_neg he] at h
        refine wpOp_noQX ?_ ?_ ?_ (wpOp_of_Wl ho h)
        · rintro c a' w' ⟨F', _, h'⟩; exact h'
        · rintro a' w' ⟨F', _, h'⟩; exact h'
        · rintro a' w' ⟨F', rfl, hC, h'⟩
          exact ⟨⟨hC, by simp [act, arr_size], rfl⟩, TGX_of_Wx f (out j l) F' w' h'⟩
/-- A region that draws its order, by a walk that parts. -/
theorem Wc.regionX {rid m : Nat} (hm : P.follows .mixedOrders = true) (hB : okGL ops.toArray = true) (C : World → Prop) (X : List PanicEntry → World → Prop) (hX : ∀ c F w, X c w → Q (.panic c) F w) (hC : C w.drew) (hlen : ops.length = m) (h : ∀ w', New w w' → Wx P n ds C X Q ops m (List.range m) F w') : Wc P n ds Q (.region rid ops.toArray true) F w := by
  subst hlen
  unfold Wc
  refine wp_region_any hm ?_
  have hleft : left ops.toArray (Array.replicate ops.toArray.size false) = List.range ops.length := by
    unfold left
    simp only [List.size_toArray]
    refine List.filter_eq_self.2 fun k hk => ?_
    have := List.mem_range.1 hk
    simp [Array.getD_eq_getD_getElem?, Array.getElem?_replicate, this]
  have h0 : Clos ops.toArray (Array.replicate ops.toArray.size false) := by
    intro j o hj
    exfalso
    simp only [Array.getD_eq_getD_getElem?, Array.getElem?_replicate] at hj
    split at hj <;> simp at hj
  refine wpAny_of_TGX (C := C) (X := X) (m := n) (ds := ds) (fun a hA c w hx => act_QA hA (hX c _ w hx)) hB _ _ _ _ (fun _ => ⟨by simp [act, arr_size], rfl⟩) (by simp) (by rw [hleft]; simp) h0 (fun _ => hC) ?_
  rw [hleft]
  have := TGX_of_Wx ops.length (List.range ops.length) F w.drew (h _ (Chg.drew _ _))
  simpa using this
end
attribute [irreducible] Wx
section
variable {P : Program} {n : Nat} {ds : List Deferred} {Q : Po} {F : Fr} {ops : List Oper} {w : World}
/-- Behind one operation: K, or what ends the region. -/
def Qk (K : Fr → World → Prop) (Q : Po) : Po
  | .normal, F, w => K F w
  | e, F, w => Q e F w
theorem wpOp_change {aops : Array Oper} {Q1 Q2 : Exit → Act → World → Prop} {i : Nat} {K : Act → World → Prop} {a : Act} {w : World} (hQ : ∀ e a w, e ≠ .normal → Q1 e a w → Q2 e a w) (h : wpOp P aops Q1 i K a w) : wpOp P aops Q2 i K a w := by
  have hl : LetsOut Q1 → LetsOut Q2 := fun ⟨a₀, w₀, hq⟩ => ⟨a₀, w₀, hQ _ _ _ (by simp) hq⟩
  unfold wpOp at h ⊢
  split
  · rename_i ho; simp only [ho] at h; exact h
  · rename_i o ho
    simp only [ho] at h
    split
    · rename_i hw
      simp only [hw, if_true] at h
      rcases h with h | ⟨h1, h2⟩
      · refine .inl ?_
        unfold Oper.wp at *
        generalize (execOp a.eval o).run P w = r at *
        cases r with
        | ok nx w' =>
          cases nx <;> simp only [Oper.upon] at h ⊢ <;>
            first
              | exact h
              | exact Calls.mono h (fun e w'' he => by cases e <;> first | exact he | exact hQ _ _ _ (by simp) he | exact hl he)
        | halt x w' => cases x <;> simp only [Oper.upon] at h ⊢ <;> first | exact h | exact hQ _ _ _ (by simp) h
      · exact .inr ⟨h1, hl h2⟩
    · rename_i hw
      simp only [hw] at h
      exact h
theorem wpOp_of_Wk {K : Fr → World → Prop} {k : Nat} {o : Oper} (ho : ops[k]? = some o) (h : Wl P n ds (Qk K Q) ops [o] F w) : wpOp P ops.toArray (QA n ds Q) k (fun a w => ∃ F', a = act n ds F' ∧ K F' w) (act n ds F) w := by
  refine wpOp_change (Q1 := QA n ds (Qk K Q)) ?_ (wpOp_mono ?_ (wpOp_of_Wl ho h))
  · rintro e a w' he ⟨F', hF, hq⟩
    cases e <;> first | exact absurd rfl he | exact ⟨F', hF, hq⟩
  · rintro a w' ⟨F', hF, hq⟩
    exact ⟨F', hF, hq⟩
/-- A region whose first two operations come one behind the other; the rest by a walk that parts, over a class of worlds of its own. -/
theorem Wc.regionPeel2 {rid m : Nat} {l : List Nat} {o0 o1 : Oper} (hm : P.follows .mixedOrders = true) (hB : okGL ops.toArray = true) (hlen : ops.length = m + 2)
    (h0 : Region.ready .any ops.toArray (Array.replicate ops.toArray.size false) = [0]) (h1 : Region.ready .any ops.toArray ((Array.replicate ops.toArray.size false).setIfInBounds 0 true) = [1])
    (hl : left ops.toArray (((Array.replicate ops.toArray.size false).setIfInBounds 0 true).setIfInBounds 1 true) = l) (hll : l.length = m) (ho0 : ops[0]? = some o0) (ho1 : ops[1]? = some o1)
    (h : ∀ w', New w w' → Wl P n ds (Qk (fun F1 w1 => Wl P n ds (Qk (fun F2 w2 => ∃ C : World → Prop, C w2 ∧ Wg P n ds C Q ops m l F2 w2) Q) ops [o1] F1 w1) Q) ops [o0] F w') : Wc P n ds Q (.region rid ops.toArray true) F w := by
  unfold Wc
  refine wp_region_any hm ?_
  have hc0 : Clos ops.toArray (Array.replicate ops.toArray.size false) := by
    intro j o hj
    exfalso
    simp only [Array.getD_eq_getD_getElem?, Array.getElem?_replicate] at hj
    split at hj <;> simp at hj
  have hc1 := hc0.set (i := 0) (by rw [h0]; simp)
  have hc2 := hc1.set (i := 1) (by rw [h1]; simp)
  have hs : ops.toArray.size = m + 2 := by simpa using hlen
  have key : ∀ w', New w w' → wpAny P .any ops.toArray (QA n ds Q) (m + 2) (Array.replicate ops.toArray.size false) (act n ds F) w' := by
    intro w' hw
    refine ⟨fun e => (by rw [h0] at e; cases e), fun i hi => ?_⟩
    rw [h0] at hi
    obtain rfl : i = 0 := by simpa using hi
    refine wpOp_mono ?_ (wpOp_of_Wk ho0 (h w' hw))
    rintro a1 w1 ⟨F1, rfl, hq1⟩
    refine ⟨fun e => (by rw [h1] at e; cases e), fun i hi => ?_⟩
    rw [h1] at hi
    obtain rfl : i = 1 := by simpa using hi
    refine wpOp_mono ?_ (wpOp_of_Wk ho1 hq1)
    rintro a2 w2 ⟨F2, rfl, C, hC, hq2⟩
    refine wpAny_of_TG (C := C) hB _ _ _ _ (by simp) (by rw [hl, hll]) hc2 (fun _ => hC) ?_
    rw [hl]
    exact TG_of_Wg m l F2 w2 hq2
  have := key w.drew (Chg.drew _ _)
  rw [← hs] at this
  exact this
theorem Qk.normal {K : Fr → World → Prop} (h : K F w) : Qk K Q .normal F w := h
theorem Qk.panic {K : Fr → World → Prop} {c : List PanicEntry} (h : Q (.panic c) F w) : Qk K Q (.panic c) F w := h
end
end Go.Proofs.YtlkhajheecglgaaDoor.Wk

namespace Go.Proofs.YtlkhajheecglgaaDoor
open Go Wk
open Go.RowKit (Below)
attribute [local irreducible] Go.Calls

section
variable {P : Program} {n : Nat} {ds : List Deferred} {Q : Po} {F : Fr} {ops : List Oper} {C : World → Prop} {w : World} {X : List PanicEntry → World → Prop}
theorem Wk.Wx.qh {f q : Nat} {r : List Nat} {o : Oper} (h : nextQ ops.toArray (q :: r) = some q) (ho : ops[q]? = some o) (hl : out q (q :: r) = r) (k : Wq P n ds C (fun F' => Wx P n ds C X Q ops f r F' w) ops [o] F) : Wx P n ds C X Q ops (f + 1) (q :: r) F w :=
  Wx.quiet h ho hl k
theorem Wk.Wx.oneH {f j : Nat} {r : List Nat} {o : Oper} (h : nextQ ops.toArray (j :: r) = none) (hr : (j :: r).filter (availB ops.toArray (j :: r)) = [j]) (ho : ops[j]? = some o) (hjl : Nat.beq (j + 1) ops.length = false) (hl : out j (j :: r) = r)
    (k : Wl P n ds (Qx X fun F' w' => C w' ∧ Wx P n ds C X Q ops f r F' w') ops [o] F w) : Wx P n ds C X Q ops (f + 1) (j :: r) F w := Wx.one h hr ho hjl hl k
end
abbrev tRdr : TypeId := 72
abbrev tErr : TypeId := 23
instance concErr : Conc Tryd.prog tErr := ⟨by kernel_rfl⟩
/-- What the reader raises. -/
abbrev formC : List PanicEntry := chainOf (.iface tErr (vi 4))
abbrev rdr (names s : List UInt8) (tp nv : Value) : List Value := [vs s, vs names, tp, nv]
theorem take_spec {w : World} {b n : Nat} {s x1 : List UInt8} {x2 x3 : Value} (h : Bk w b tRdr [vs s, vs x1, x2, x3]) :
    Calls Tryd.prog 54 #[ptrB b, vi n] w (RetX (fun v w' => n ≤ s.length ∧ v = vs (s.take n) ∧ Bk w' b tRdr [vs (s.drop n), vs x1, x2, x3] ∧ Chg (fun k => k = b) w w')
      (fun c w' => s.length < n ∧ c = formC ∧ w' = w)) := by
  refine calls_of_Wc Tryd.func54 rfl Tryd.ntmps54 rfl ?_
  (repeat' (first | refine Wl.moveE (by conv => { lhs; whnf }) ?_ | refine Wl.assignE (by conv => { lhs; whnf }) ?_ | refine Wl.nil ?_ | refine Qseq.normal ?_ | refine Wc.seq ?_ | refine Wc.region ?_ | refine Wl.nilP rfl ?_ | refine Wl.fieldAddr rfl rfl ?_))
  refine Wl.load1 rfl (h.cell (o := 0) rfl) ?_
  (repeat' (first | refine Wl.moveE (by conv => { lhs; whnf }) ?_ | refine Wl.nil ?_ | refine Wl.lenStr rfl ?_ | refine Qseq.normal ?_ | refine Wc.seq ?_ | refine Wc.region ?_ | refine Wc.skip ?_ | refine Wc.condT rfl ?_ | refine Wc.condF rfl ?_ | refine Wl.nilP rfl ?_ | refine Wl.fieldAddr rfl rfl ?_ | refine Wl.gtr rfl rfl (fun _ => ?_) (fun _ => ?_)))
  · refine Wl.mkIface rfl ?_
    refine Wl.panic rfl ?_
    (repeat' (first | refine Qseq.panic ?_ | refine Qfn.panic ?_))
    exact ⟨by omega, rfl, rfl⟩
  · have hle : n ≤ s.length := by omega
    refine Wl.load1 rfl (h.cell (o := 0) rfl) ?_
    (repeat' (refine Wl.moveE (by conv => { lhs; whnf }) ?_))
    refine Wl.strTo rfl rfl (by omega) (by omega) ?_
    (repeat' (first | refine Wl.moveE (by conv => { lhs; whnf }) ?_ | refine Wl.assignE (by conv => { lhs; whnf }) ?_ | refine Wl.nil ?_ | refine Qseq.normal ?_ | refine Wc.seq ?_ | refine Wc.region ?_ | refine Wl.nilP rfl ?_ | refine Wl.fieldAddr rfl rfl ?_))
    refine Wl.load1 rfl (h.cell (o := 0) rfl) ?_
    (repeat' (refine Wl.moveE (by conv => { lhs; whnf }) ?_))
    refine Wl.strFrom rfl rfl (by omega) (by omega) ?_
    (repeat' (first | refine Wl.nilP rfl ?_ | refine Wl.fieldAddr rfl rfl ?_))
    refine Wl.store1 (u := vs (s.drop n)) h rfl (show (0 : Nat) < 4 by omega) rfl rfl fun w1 b1 c1 => ?_
    replace b1 : Bk w1 b tRdr [vs (s.drop n), vs x1, x2, x3] := b1
    (repeat' (first | refine Wl.moveE (by conv => { lhs; whnf }) ?_ | refine Wl.assignE (by conv => { lhs; whnf }) ?_ | refine Wl.nil ?_ | refine Qseq.normal ?_ | refine Wc.seq ?_ | refine Wc.region ?_ | refine Wc.ret ?_))
    refine Qfn.ret1 rfl rfl ⟨hle, rfl, b1, c1⟩
section
variable {P : Program} {n : Nat} {ds : List Deferred} {C : World → Prop} {K : Fr → Prop} {F : Fr} {ops rest : List Oper} {d : Nat} {ty : TypeId} {pos : String} {aft : Array Edge}
theorem run_orI (a b m : Nat) (hb : b < 2 ^ m) (hab : a * 2 ^ m + b < 9223372036854775808) : Op.intBits .or .i64 ((a * 2 ^ m : Nat) : Int) (b : Int) = pure (.int .i64 ((a * 2 ^ m + b : Nat) : Int)) := by
  have h1 : (BitVec.ofInt IntKind.i64.bits ((a * 2 ^ m : Nat) : Int) ||| BitVec.ofInt IntKind.i64.bits (b : Int)).toNat = a * 2 ^ m + b := by
    rw [BitVec.toNat_or, BitVec.toNat_ofInt, BitVec.toNat_ofInt]
    have e : ((2 ^ IntKind.i64.bits : Nat) : Int) = 18446744073709551616 := rfl
    have e1 : (((a * 2 ^ m : Nat) : Int) % ((2 ^ IntKind.i64.bits : Nat) : Int)).toNat = a * 2 ^ m := by
      rw [e, Int.emod_eq_of_lt (by omega) (by omega)]; omega
    have e2 : ((b : Int) % ((2 ^ IntKind.i64.bits : Nat) : Int)).toNat = b := by
      rw [e, Int.emod_eq_of_lt (by omega) (by omega)]; omega
    rw [e1, e2, or_add _ _ _ hb]
  simp only [Op.intBits, h1]
  rw [wrap64_id (by omega) (by omega)]
theorem Wk.Wq.orI {x y : Operand} {t t' : TypeId} {A B : Int} (a b m : Nat) (hA : A = ((a * 2 ^ m : Nat) : Int)) (hB : B = (b : Int)) (hb : b < 2 ^ m) (hab : a * 2 ^ m + b < 9223372036854775808) (hx : ev n F x = vi A) (hy : ev n F y = vi B)
    (c : Wq P n ds C K ops rest (upd F d (vi ((a * 2 ^ m + b : Nat) : Int)))) : Wq P n ds C K ops (⟨some d, .binOp .or t x y t', ty, pos, aft, none⟩ :: rest) F := by
  subst hA
  subst hB
  refine Wq.val (fun w _ => ?_) c
  simp only [execOp, hx, hy, Sem.run_bind, run_eqGuard_int, Result.andThen_ok]
  have : binOp .or t (.int .i64 ((a * 2 ^ m : Nat) : Int)) (.int .i64 (b : Int)) = Op.intBits .or .i64 ((a * 2 ^ m : Nat) : Int) (b : Int) := by simp [binOp]
  rw [this, run_orI a b m hb hab]; rfl
theorem Wk.Wq.shlI {x y : Operand} {t t' : TypeId} (a m : Nat) (hm : m ≤ 64) (hab : a * 2 ^ m < 9223372036854775808) (hx : ev n F x = vi a) (hy : ev n F y = .int .u64 m)
    (c : Wq P n ds C K ops rest (upd F d (vi ((a * 2 ^ m : Nat) : Int)))) : Wq P n ds C K ops (⟨some d, .binOp .shl t x y t', ty, pos, aft, none⟩ :: rest) F := by
  refine Wq.shlW hx hy (by omega) ?_
  have e : min (m : Int).toNat IntKind.i64.bits = m := by simp [IntKind.bits]; omega
  have e2 : IntKind.i64.wrap ((a : Int) * 2 ^ min (m : Int).toNat IntKind.i64.bits) = ((a * 2 ^ m : Nat) : Int) := by
    rw [e]
    have : ((a * 2 ^ m : Nat) : Int) = (a : Int) * 2 ^ m := by simp
    rw [← this, wrap64_id (by omega) (by omega)]
  rw [e2]
  exact c
end
theorem four_num {l : List UInt8} (h : l.length = 4) : ∃ a b c d, l = [a, b, c, d] := by
  match l, h with
  | [a, b, c, d], _ => exact ⟨a, b, c, d, rfl⟩
theorem wrapB (c : UInt8) : IntKind.i64.wrap (c.toNat : Int) = (c.toNat : Int) := by have := c.toNat_lt; exact wrap64_id (by omega) (by omega)
set_option maxRecDepth 4000 in
theorem rcell_spec {w : World} {b most : Nat} {s x1 : List UInt8} {x2 x3 : Value} (h : Bk w b tRdr [vs s, vs x1, x2, x3]) :
    Calls Tryd.prog 37 #[ptrB b, vi most] w (RetX (fun v w' => ∃ n s', cellM most s = some (n, s') ∧ v = vi n ∧ Bk w' b tRdr [vs s', vs x1, x2, x3] ∧ Chg (fun k => k = b) w w')
      (fun c w' => cellM most s = none ∧ c = formC ∧ Chg (fun k => k = b) w w')) := by
  refine calls_of_Wc Tryd.func37 rfl Tryd.ntmps37 rfl ?_
  (repeat' (first | refine Wl.moveE (by conv => { lhs; whnf }) ?_ | refine Wl.assignE (by conv => { lhs; whnf }) ?_ | refine Wl.nil ?_ | refine Qseq.normal ?_ | refine Wc.seq ?_ | refine Wc.region ?_))
  refine Wl.callX (take_spec (n := 4) h) rfl ?_ ?_
  · rintro c w1 ⟨hs, rfl, rfl⟩
    (repeat' (first | refine Qseq.panic ?_ | refine Qfn.panic ?_))
    refine ⟨?_, rfl, Chg.refl _ _⟩
    unfold cellM
    rw [if_neg (by omega)]
  · rintro v w1 ⟨hs, rfl, b1, c1⟩
    obtain ⟨a0, a1, a2, a3, h4⟩ := four_num (l := s.take 4) (by simp; omega)
    have g0 := a0.toNat_lt
    have g1 := a1.toNat_lt
    have g2 := a2.toNat_lt
    have g3 := a3.toNat_lt
    have hn : num4 (s.take 4) = ((a0.toNat * 256 + a1.toNat) * 256 + a2.toNat) * 2 ^ 8 + a3.toNat := by rw [h4]; simp only [num4]; omega
    rw [h4]
    (repeat' (first | refine Wl.assignE (by conv => { lhs; whnf }) ?_ | refine Wl.nil ?_ | refine Qseq.normal ?_ | refine Wc.seq ?_))
    refine Wc.regionN rfl (by kernel_rfl) ?_
    (repeat' (refine Wq.moveE (by conv => { lhs; whnf }) ?_))
    refine Wq.idxStr (b := a0) rfl rfl (by omega) rfl ?_
    refine Wq.convI rfl ?_
    rw [wrapB]
    refine Wq.shlI a0.toNat 24 (by omega) (by omega) rfl rfl ?_
    (repeat' (refine Wq.moveE (by conv => { lhs; whnf }) ?_))
    refine Wq.idxStr (b := a1) rfl rfl (by omega) rfl ?_
    refine Wq.convI rfl ?_
    rw [wrapB]
    refine Wq.shlI a1.toNat 16 (by omega) (by omega) rfl rfl ?_
    refine Wq.orI a0.toNat (a1.toNat * 2 ^ 16) 24 rfl rfl (by omega) (by omega) rfl rfl ?_
    (repeat' (refine Wq.moveE (by conv => { lhs; whnf }) ?_))
    refine Wq.idxStr (b := a2) rfl rfl (by omega) rfl ?_
    refine Wq.convI rfl ?_
    rw [wrapB]
    refine Wq.shlI a2.toNat 8 (by omega) (by omega) rfl rfl ?_
    refine Wq.orI (a0.toNat * 256 + a1.toNat) (a2.toNat * 2 ^ 8) 16 (by omega) rfl (by omega) (by omega) rfl rfl ?_
    (repeat' (refine Wq.moveE (by conv => { lhs; whnf }) ?_))
    refine Wq.idxStr (b := a3) rfl rfl (by omega) rfl ?_
    refine Wq.convI rfl ?_
    rw [wrapB]
    refine Wq.orI ((a0.toNat * 256 + a1.toNat) * 256 + a2.toNat) a3.toNat 8 (by omega) rfl (by omega) (by omega) rfl rfl ?_
    (repeat' (first | refine Wq.assignE (by conv => { lhs; whnf }) ?_ | refine Wq.nil ?_))
    intro w2 n2
    have b2 := b1.chg n2 id
    have c2 : Chg (fun k => k = b) w w2 := c1.trans (n2.any (M := fun k => k = b)) fun _ _ e => e
    have hc : ∀ q, (4 ≤ s.length ∧ num4 (s.take 4) ≤ most ↔ q) → True := fun _ _ => trivial
    rw [← hn]
    (repeat' (first | refine Wl.moveE (by conv => { lhs; whnf }) ?_ | refine Wl.assignE (by conv => { lhs; whnf }) ?_ | refine Wl.nil ?_ | refine Qseq.normal ?_ | refine Wc.seq ?_ | refine Wc.region ?_ | refine Wc.skip ?_ | refine Wc.ret ?_ | refine Wc.condT rfl ?_ | refine Wc.condF rfl ?_ | refine Wl.gtr rfl rfl (fun _ => ?_) (fun _ => ?_)))
    · refine Wl.mkIface rfl ?_
      refine Wl.panic rfl ?_
      (repeat' (first | refine Qseq.panic ?_ | refine Qfn.panic ?_))
      refine ⟨?_, rfl, c2⟩
      unfold cellM
      rw [if_neg (by omega)]
    · refine Qfn.ret1 rfl rfl ⟨_, _, ?_, rfl, b2, c2⟩
      unfold cellM
      rw [if_pos (by omega)]
theorem dropWhile_all {α : Type} (p : α → Bool) : ∀ l : List α, l.dropWhile p = [] ↔ l.all p = true
  | [] => by simp
  | x :: r => by
    rw [List.dropWhile_cons, List.all_cons]
    cases hx : p x with
    | true => simp only [if_true, Bool.true_and]; exact dropWhile_all p r
    | false => simp
theorem dropWhile_head {α : Type} (p : α → Bool) : ∀ l : List α, l.dropWhile p = [] ∨ ∃ x r, l.dropWhile p = x :: r ∧ p x = false
  | [] => .inl rfl
  | x :: r => by
    rw [List.dropWhile_cons]
    cases hx : p x with
    | true => simp only [if_true]; exact dropWhile_head p r
    | false => exact .inr ⟨x, r, by simp, hx⟩
theorem trimB_nil (l : List UInt8) : Lib.trimB l 0 = [] ↔ l.all (fun c => c == 0) = true := by
  unfold Lib.trimB Lib.trimLeftB Lib.trimRightB
  rw [dropWhile_all, List.all_reverse]
  have hr : l.reverse.all (fun c => c == 0) = l.all (fun c => c == 0) := List.all_reverse
  rcases dropWhile_head (fun c : UInt8 => c == 0) l.reverse with h | ⟨x, r, h, hx⟩
  · have h2 := (dropWhile_all _ _).1 h
    rw [hr] at h2
    rw [h, h2]; simp
  · have : ¬ l.reverse.all (fun c => c == 0) = true := fun e => by rw [(dropWhile_all _ _).2 e] at h; cases h
    rw [hr] at this
    rw [h]
    simp [hx, this]
theorem up4_int {n : Nat} : ((n : Int) + 3).tdiv 4 = (((n + 3) / 4 : Nat) : Int) := by
  have : ((n : Int) + 3) = ((n + 3 : Nat) : Int) := by omega
  rw [this]; rfl
set_option maxRecDepth 4000 in
theorem rfilled_spec {w : World} {b n : Nat} {s x1 : List UInt8} {x2 x3 : Value} (h : Bk w b tRdr [vs s, vs x1, x2, x3]) (hn : n ≤ 100000000000) (hs : s.length ≤ maxLen) :
    Calls Tryd.prog 56 #[ptrB b, vi n] w (RetX (fun v w' => ∃ x s', filM n s = some (x, s') ∧ v = vs x ∧ Bk w' b tRdr [vs s', vs x1, x2, x3] ∧ Chg (fun k => k = b) w w')
      (fun c w' => filM n s = none ∧ c = formC ∧ Chg (fun k => k = b) w w')) := by
  refine calls_of_Wc Tryd.func56 rfl Tryd.ntmps56 rfl ?_
  (repeat' (first | refine Wl.moveE (by conv => { lhs; whnf }) ?_ | refine Wl.assignE (by conv => { lhs; whnf }) ?_ | refine Wl.nil ?_ | refine Qseq.normal ?_ | refine Wc.seq ?_ | refine Wc.region ?_ | refine Wl.add rfl rfl (by omega) (by omega) ?_))
  refine Wl.quoW rfl rfl (by omega) ?_
  rw [up4_int, wrap64_id (by omega) (by omega)]
  (repeat' (refine Wl.mul rfl rfl (by omega) (by omega) ?_))
  have e4 : (((n + 3) / 4 : Nat) : Int) * 4 = (up4 n : Nat) := by unfold up4; omega
  rw [e4]
  have hup : n ≤ up4 n := by unfold up4; omega
  refine Wl.callX (take_spec (n := up4 n) h) rfl ?_ ?_
  · rintro c w1 ⟨hs, rfl, rfl⟩
    (repeat' (first | refine Qseq.panic ?_ | refine Qfn.panic ?_))
    refine ⟨?_, rfl, Chg.refl _ _⟩
    unfold filM
    rw [if_neg (by omega)]
  · rintro v w1 ⟨hl, rfl, b1, c1⟩
    have htl : (s.take (up4 n)).length = up4 n := by simp; omega
    (repeat' (first | refine Wl.moveE (by conv => { lhs; whnf }) ?_ | refine Wl.assignE (by conv => { lhs; whnf }) ?_ | refine Wl.nil ?_ | refine Qseq.normal ?_ | refine Wc.seq ?_ | refine Wc.region ?_))
    refine Wl.strFrom rfl rfl (by omega) (by omega) ?_
    rw [Int.toNat_natCast]
    refine Wl.call (φ := fun v w' => v = vs (Lib.trimB ((s.take (up4 n)).drop n) 0) ∧ New w1 w') ((Tryd.strings_Trim_one ⟨((s.take (up4 n)).drop n).toArray⟩ 0 (by decide) w1 (by simp [ByteArray.size]; simp only [maxLen] at hs; omega)).mono ?_) rfl ?_
    · rintro e w' ⟨rfl, hw⟩
      refine ⟨_, rfl, rfl, ?_⟩
      rcases hw with rfl | rfl
      · exact Chg.refl _ _
      · exact Chg.drew _ _
    · rintro _ w2 ⟨rfl, n2⟩
      have b2 := b1.chg n2 id
      have c2 : Chg (fun k => k = b) w w2 := c1.trans (n2.any (M := fun k => k = b)) fun _ _ e => e
      have hz := trimB_nil ((s.take (up4 n)).drop n)
      refine Wl.sneq (b := []) rfl rfl (fun hne => ?_) (fun he => ?_)
      · (repeat' (first | refine Wl.nil ?_ | refine Qseq.normal ?_ | refine Wc.region ?_ | refine Wc.condT rfl ?_))
        refine Wl.mkIface rfl ?_
        refine Wl.panic rfl ?_
        (repeat' (first | refine Qseq.panic ?_ | refine Qfn.panic ?_))
        refine ⟨?_, rfl, c2⟩
        unfold filM
        rw [if_neg fun e => hne (hz.2 e.2)]
      · (repeat' (first | refine Wl.moveE (by conv => { lhs; whnf }) ?_ | refine Wl.nil ?_ | refine Qseq.normal ?_ | refine Wc.seq ?_ | refine Wc.region ?_ | refine Wc.skip ?_ | refine Wc.condF rfl ?_))
        refine Wl.strTo rfl rfl (by omega) (by omega) ?_
        (repeat' (first | refine Wl.assignE (by conv => { lhs; whnf }) ?_ | refine Wl.nil ?_ | refine Qseq.normal ?_ | refine Wc.ret ?_))
        refine Qfn.ret1 rfl rfl ⟨_, _, ?_, rfl, b2, c2⟩
        unfold filM
        rw [if_pos ⟨hl, hz.1 he⟩, List.take_take, Int.toNat_natCast, Nat.min_eq_left hup]
end Go.Proofs.YtlkhajheecglgaaDoor
