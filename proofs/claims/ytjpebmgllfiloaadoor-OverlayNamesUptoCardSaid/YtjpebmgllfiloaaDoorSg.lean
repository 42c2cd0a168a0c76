/-
  Stacks: how they lie in memory; the walks of New, top, Tree, Base, and of Lay of a stack.
-/
import Derived.Test.YtjpebmgllfiloaaDoorSk
namespace Go.Proofs.YtjpebmgllfiloaaDoor
open Go Wk
open Go.RowKit (Below)
attribute [local irreducible] Go.Calls

structure SRow where
  n : Int
  piece : Pc
  tree : List Nd
structure Stk where
  base : List Nd
  rows : List SRow
  laid : Int
def rRow : Rel SRow := fun Pb w r cs => ∃ nv dv tv, cs = [vi r.n, vs r.piece.target, nv, dv, tv] ∧ RdS rNd 3 Pb w nv r.piece.nodes ∧ RdS (one vs) 1 Pb w dv r.piece.drop ∧ RdS rNd 3 Pb w tv r.tree
theorem stableRow : Stable rRow := fun _ _ _ _ _ hk ⟨nv, dv, tv, e, h1, h2, h3⟩ => ⟨nv, dv, tv, e, h1.keep stableNd hk, h2.keep (stable_one _) hk, h3.keep stableNd hk⟩
theorem monoRow : Mono rRow := fun _ _ _ _ _ hP ⟨nv, dv, tv, e, h1, h2, h3⟩ => ⟨nv, dv, tv, e, h1.mono monoNd hP, h2.mono (mono_one _) hP, h3.mono monoNd hP⟩
theorem goodRow : GoodR rRow 5 := ⟨stableRow, monoRow, fun Pb w x cs ⟨nv, dv, tv, e, h1, h2, h3⟩ _ c hc => by
  subst e
  obtain ⟨_, _, rfl, _⟩ := h1.form
  obtain ⟨_, _, rfl, _⟩ := h2.form
  obtain ⟨_, _, rfl, _⟩ := h3.form
  simp at hc
  rcases hc with rfl | rfl | rfl | rfl | rfl <;> rfl⟩
abbrev tStk : TypeId := 92
abbrev tRow : TypeId := 96
abbrev SLab := Nat → Option Bool
structure StkAt (lo : Nat) (lab : SLab) (w : World) (bl : Nat) (S : Stk) (bv rv : Value) : Prop where
  low : ∀ b c, lab b = some c → lo ≤ b ∧ b < w.heap.size
  lb : lab bl = some true
  bk : Bk w bl tStk [bv, rv, vi S.laid]
  base : RdS rNd 3 (fun b => lab b = some false) w bv S.base
  rows : OwnS rRow tRow 5 (fun b => lab b = some true ∧ b ≠ bl) (fun b => lab b = some false) w rv S.rows
/-- A stack that may be. -/
structure WfS (S : Stk) : Prop where
  base : treeOk S.base = true
  len : S.rows.length ≤ 16
  row : ∀ r ∈ S.rows, treeOk r.tree = true ∧ pieceOk r.piece = true ∧ r.piece.target.length ≤ 2000000
  laid : 0 ≤ S.laid ∧ S.laid ≤ 1000000
section
variable {lo : Nat} {lab : SLab} {w w' : World} {bl : Nat} {S : Stk} {bv rv : Value} {M : Nat → Prop}
theorem StkAt.chg (h : StkAt lo lab w bl S bv rv) (c : Chg M w w') (hM : ∀ b, b < w.heap.size → M b → lab b = none) : StkAt lo lab w' bl S bv rv := by
  have k : ∀ (x : Bool) (Pb : Nat → Prop), (∀ b, Pb b → lab b = some x) → Keep Pb w w' := fun x Pb hP => c.keep fun b hb h1 h2 => (by have := hM b hb h2; rw [hP b h1] at this; cases this)
  exact ⟨fun b x e => ⟨(h.low b x e).1, Nat.lt_of_lt_of_le (h.low b x e).2 c.size⟩, h.lb, h.bk.chg c fun e => (by have := hM bl h.bk.lt e; rw [h.lb] at this; cases this), h.base.keep stableNd (k false _ fun b e => e),
    h.rows.keep stableRow (k true _ fun b e => e.1) (k false _ fun b e => e)⟩
theorem StkAt.new (h : StkAt lo lab w bl S bv rv) (n : New w w') : StkAt lo lab w' bl S bv rv := h.chg n fun _ _ e => e.elim
/-- The elements of a list of one's own, by what they reach. -/
theorem Wk.OwnS.rdE {α : Type} {R : Rel α} {e : TypeId} {sz : Nat} {Pb Pe : Nat → Prop} {w : World} {v : Value} {xs : List α} (h : OwnS R e sz Pb Pe w v xs) : RdS (fun _ w x cs => R (fun b => Pe b ∧ v.ownBlock ≠ some b) w x cs) sz Pb w v xs := by
  obtain ⟨cs, ⟨hl, h⟩, he⟩ := h
  rcases h with ⟨rfl, hm⟩ | ⟨g, cap, cur, rfl, hb, hg, h1, h2, h3, h4⟩
  · exact .inl ⟨rfl, List.eq_nil_of_length_eq_zero hm⟩
  · have hle : xs.length * sz ≤ cap * sz := Nat.mul_le_mul_right _ h1
    refine .inr <| .inr ⟨g, 0, cap, cur, e, _, rfl, hb, hg, h1, h2, by omega, fun i x hx => ?_⟩
    have := he i x hx
    have hi : i < xs.length := (List.getElem?_eq_some_iff.1 hx).1
    have hi2 : (i + 1) * sz ≤ xs.length * sz := Nat.mul_le_mul_right _ hi
    rw [Nat.add_mul] at hi2
    rw [← h4, List.drop_take, List.take_take, Nat.min_eq_left (by omega)] at this
    rw [Nat.zero_add]
    exact this
end
def stkTop (S : Stk) (k : Nat) : List Nd := if k = 0 then S.base else match S.rows[k - 1]? with | some r => r.tree | none => []
theorem stkTop_ok {S : Stk} (h : WfS S) {k : Nat} (hk : k ≤ S.rows.length) : treeOk (stkTop S k) = true := by
  unfold stkTop
  split
  · exact h.base
  · obtain ⟨r, hr⟩ := get_lt S.rows (k := k - 1) (by omega)
    rw [hr]
    exact (h.row r (List.mem_of_getElem? hr)).1

theorem New_spec {Pt : Nat → Prop} {w : World} {v : Value} {t : List Nd} (h : RdS rNd 3 Pt w v t) :
    Calls Tryd.prog 27 #[v] w (Ret fun r w' => New w w' ∧ (treeOk t = false → r = .tuple #[.pointer none, vi 40]) ∧ (treeOk t = true → ∃ bl lab bv, r = .tuple #[ptrV bl, vi 0] ∧ StkAt w.heap.size lab w' bl ⟨t, [], 0⟩ bv (.slice none 0 0))) := by
  refine calls_of_Wc Tryd.func27 rfl Tryd.ntmps27 rfl ?_
  (repeat' (first | refine Wl.moveE (by conv => { lhs; whnf }) ?_ | refine Wl.assignE (by conv => { lhs; whnf }) ?_ | refine Wl.nil ?_ | refine Qseq.normal ?_ | refine Wc.seq ?_ | refine Wc.region ?_))
  refine Wl.call (may_spec h) rfl ?_
  rintro _ w1 ⟨rfl, n1⟩
  cases hok : treeOk t with
  | false =>
    (repeat' (first | refine Wl.assignE (by conv => { lhs; whnf }) ?_ | refine Wl.nil ?_ | refine Wl.notB rfl ?_ | refine Qseq.normal ?_ | refine Wc.seq ?_ | refine Wc.region ?_ | refine Wc.ret ?_ | refine Qseq.ret ?_ | refine Wc.condT rfl ?_))
    exact Qfn.ret2 rfl rfl rfl ⟨_, rfl, n1, fun _ => rfl, fun e => by cases e⟩
  | true =>
    have htl := treeOk_len hok
    (repeat' (first | refine Wl.moveE (by conv => { lhs; whnf }) ?_ | refine Wl.nil ?_ | refine Wl.notB rfl ?_ | refine Qseq.normal ?_ | refine Wc.seq ?_ | refine Wc.region ?_ | refine Wc.skip ?_ | refine Wc.condF rfl ?_))
    refine Wl.call (twin_spec (h.keep stableNd n1.keep) (by omega) fun x hx => by
      obtain ⟨i, hi⟩ := List.mem_iff_getElem?.1 hx
      have := propsOk_len (treeOk_nd hok hi).pr
      omega) rfl ?_
    rintro tv w2 ⟨labt, pvs, to2, n2⟩
    have rt := to2.rd
    obtain ⟨ta, tc, rfl, _, _⟩ := rt.form
    refine Wl.buildF (ps := [(0, .tmp 8)]) (parts := [(0, .slice ta t.length tc)]) rfl rfl (by simp [Value.cells]) ?_
    refine Wl.box rfl fun w3 b3 n3 s3 => ?_
    replace b3 : Bk w3 w2.heap.size tStk [.slice ta t.length tc, .slice none 0 0, vi 0] := b3
    (repeat' (first | refine Wl.assignE (by conv => { lhs; whnf }) ?_ | refine Wl.nil ?_ | refine Qseq.normal ?_ | refine Wc.ret ?_))
    have s1 := n1.size
    have s2 := n2.size
    refine Qfn.ret2 rfl rfl rfl ⟨_, rfl, New.trans (New.trans n1 n2) n3, fun e => (by cases e), fun _ => ⟨w2.heap.size, fun b => if b = w2.heap.size then some true else if w.heap.size ≤ b ∧ b < w2.heap.size then some false else none, .slice ta t.length tc, rfl, ?_⟩⟩
    refine ⟨fun b c e => ?_, by rw [if_pos rfl], b3, (rt.mono monoNd (Pb' := fun b => (if b = w2.heap.size then some true else if w.heap.size ≤ b ∧ b < w2.heap.size then some false else none) = some false) fun b hb e => by rw [if_neg (by omega), if_pos (by omega)]).keep stableNd n3.keep, OwnS.nil⟩
    split at e
    · omega
    · split at e
      · omega
      · cases e
theorem top_spec {lo : Nat} {lab : SLab} {w : World} {bl : Nat} {S : Stk} {bv rv : Value} (h : StkAt lo lab w bl S bv rv) {k : Nat} (hk : k ≤ S.rows.length) :
    Calls Tryd.prog 53 #[ptrV bl, vi k] w (Ret fun r w' => RdS rNd 3 (fun b => lab b = some false) w' r (stkTop S k) ∧ New w w') := by
  obtain ⟨ra, rc, rfl, hrc1, hrc2⟩ := h.rows.form
  simp only [maxLen] at hrc2
  refine calls_of_Wc Tryd.func53 rfl Tryd.ntmps53 rfl ?_
  unfold stkTop
  (repeat' (first | refine Wl.moveE (by conv => { lhs; whnf }) ?_ | refine Wl.assignE (by conv => { lhs; whnf }) ?_ | refine Wl.nil ?_ | refine Qseq.normal ?_ | refine Wc.seq ?_ | refine Wc.region ?_ | refine Wc.skip ?_ | refine Wc.condT rfl ?_ | refine Wc.condF rfl ?_ | refine Wl.nilP rfl ?_ | refine Wl.fieldAddr rfl rfl ?_ | refine Wl.eql rfl rfl (fun _ => ?_) (fun _ => ?_)))
  · refine Wl.load1 rfl (h.bk.cell (o := 0) rfl) ?_
    (repeat' (first | refine Wl.assignE (by conv => { lhs; whnf }) ?_ | refine Wl.nil ?_ | refine Qseq.normal ?_ | refine Wc.ret ?_ | refine Qseq.ret ?_))
    rw [if_pos (by omega)]
    exact Qfn.ret1 rfl rfl ⟨_, rfl, h.base, Chg.refl _ _⟩
  · rw [if_neg (by omega)]
    obtain ⟨r, hr⟩ := get_lt S.rows (k := k - 1) (by omega)
    rw [hr]
    refine Wl.load1 rfl (h.bk.cell (o := 1) rfl) ?_
    (repeat' (first | refine Wl.moveE (by conv => { lhs; whnf }) ?_ | refine Wl.sub rfl rfl (by omega) (by omega) ?_))
    refine Wl.idxAddr h.rows.rdE rfl rfl (by omega) (y := r) (by rw [show ((k : Int) - 1).toNat = k - 1 by omega]; exact hr) fun b o cs hl hR hat => ?_
    obtain ⟨nv, dv, tv, rfl, h1, h2, h3⟩ := hR
    (repeat' (refine Wl.fieldAddr rfl rfl ?_))
    refine Wl.load1 rfl (hat.get 4 rfl) ?_
    (repeat' (first | refine Wl.assignE (by conv => { lhs; whnf }) ?_ | refine Wl.nil ?_ | refine Qseq.normal ?_ | refine Wc.ret ?_))
    exact Qfn.ret1 rfl rfl ⟨_, rfl, h3.mono monoNd (fun b _ e => e.1), Chg.refl _ _⟩
theorem tree_lens {t : List Nd} (h : treeOk t = true) : t.length ≤ 2000000 ∧ ∀ x ∈ t, x.props.length ≤ 2000000 := by
  have := treeOk_len h
  refine ⟨by omega, fun x hx => ?_⟩
  obtain ⟨i, hi⟩ := List.mem_iff_getElem?.1 hx
  have := propsOk_len (treeOk_nd h hi).pr
  omega
theorem Tree_spec {lo : Nat} {lab : SLab} {w : World} {bl : Nat} {S : Stk} {bv rv : Value} (h : StkAt lo lab w bl S bv rv) (wf : WfS S) :
    Calls Tryd.prog 28 #[ptrV bl] w (Ret fun r w' => (∃ labt pvs, TrOwn w.heap.size labt w' r (stkTop S S.rows.length) pvs) ∧ New w w') := by
  obtain ⟨ra, rc, rfl, hrc1, hrc2⟩ := h.rows.form
  refine calls_of_Wc Tryd.func28 rfl Tryd.ntmps28 rfl ?_
  (repeat' (first | refine Wl.moveE (by conv => { lhs; whnf }) ?_ | refine Wl.assignE (by conv => { lhs; whnf }) ?_ | refine Wl.nil ?_ | refine Qseq.normal ?_ | refine Wc.seq ?_ | refine Wc.region ?_))
  refine Wl.peqNil rfl rfl ?_
  (repeat' (first | refine Wl.moveE (by conv => { lhs; whnf }) ?_ | refine Wl.nil ?_ | refine Qseq.normal ?_ | refine Wc.seq ?_ | refine Wc.region ?_ | refine Wc.skip ?_ | refine Wc.condF rfl ?_ | refine Wl.nilP rfl ?_ | refine Wl.fieldAddr rfl rfl ?_))
  refine Wl.load1 rfl (h.bk.cell (o := 1) rfl) ?_
  (repeat' (refine Wl.lenS rfl ?_))
  refine Wl.call (top_spec h (Nat.le_refl _)) rfl ?_
  rintro tv w1 ⟨rt, n1⟩
  have hl := tree_lens (stkTop_ok wf (Nat.le_refl _))
  refine Wl.call (twin_spec rt hl.1 hl.2) rfl ?_
  rintro ov w2 ⟨labt, pvs, to2, n2⟩
  (repeat' (first | refine Wl.assignE (by conv => { lhs; whnf }) ?_ | refine Wl.nil ?_ | refine Qseq.normal ?_ | refine Wc.ret ?_))
  have s1 := n1.size
  exact Qfn.ret1 rfl rfl ⟨_, rfl, ⟨labt, pvs, to2.len, fun b c e => ⟨by have := (to2.low b c e).1; omega, (to2.low b c e).2⟩, to2.arr, to2.pr⟩, New.trans n1 n2⟩
theorem Base_spec {lo : Nat} {lab : SLab} {w : World} {bl : Nat} {S : Stk} {bv rv : Value} (h : StkAt lo lab w bl S bv rv) (wf : WfS S) :
    Calls Tryd.prog 31 #[ptrV bl] w (Ret fun r w' => (∃ labt pvs, TrOwn w.heap.size labt w' r S.base pvs) ∧ New w w') := by
  refine calls_of_Wc Tryd.func31 rfl Tryd.ntmps31 rfl ?_
  (repeat' (first | refine Wl.moveE (by conv => { lhs; whnf }) ?_ | refine Wl.assignE (by conv => { lhs; whnf }) ?_ | refine Wl.nil ?_ | refine Qseq.normal ?_ | refine Wc.seq ?_ | refine Wc.region ?_))
  refine Wl.peqNil rfl rfl ?_
  (repeat' (first | refine Wl.moveE (by conv => { lhs; whnf }) ?_ | refine Wl.nil ?_ | refine Qseq.normal ?_ | refine Wc.seq ?_ | refine Wc.region ?_ | refine Wc.skip ?_ | refine Wc.condF rfl ?_ | refine Wl.nilP rfl ?_ | refine Wl.fieldAddr rfl rfl ?_))
  refine Wl.load1 rfl (h.bk.cell (o := 0) rfl) ?_
  have hl := tree_lens wf.base
  refine Wl.call (twin_spec h.base hl.1 hl.2) rfl ?_
  rintro ov w2 ⟨labt, pvs, to2, n2⟩
  (repeat' (first | refine Wl.assignE (by conv => { lhs; whnf }) ?_ | refine Wl.nil ?_ | refine Qseq.normal ?_ | refine Wc.ret ?_))
  exact Qfn.ret1 rfl rfl ⟨_, rfl, ⟨labt, pvs, to2⟩, n2⟩
theorem CloneStr_spec {Pb : Nat → Prop} {w : World} {v : Value} {l : List (List UInt8)} (h : RdS (one vs) 1 Pb w v l) (hl : l.length ≤ 2000000) :
    Calls Tryd.prog 54 #[v] w (Ret fun r w' => OwnS (one vs) 9 1 (fun b => w.heap.size ≤ b) No w' r l ∧ New w w') := by
  obtain ⟨a, cap, rfl, hc1, hc2⟩ := h.form
  refine calls_of_Wc Tryd.func54 rfl Tryd.ntmps54 rfl ?_
  (repeat' (first | refine Wl.moveE (by conv => { lhs; whnf }) ?_ | refine Wl.assignE (by conv => { lhs; whnf }) ?_ | refine Wl.nil ?_ | refine Qseq.normal ?_ | refine Wc.seq ?_ | refine Wc.region ?_))
  refine Wl.slNil rfl rfl ?_
  cases a with
  | none =>
    have e : l = [] := by
      rcases h with ⟨_, rfl⟩ | ⟨_, _, e, _⟩ | ⟨_, _, _, _, _, _, e, _⟩
      · rfl
      · cases e
      · cases e
    subst e
    (repeat' (first | refine Wl.assignE (by conv => { lhs; whnf }) ?_ | refine Wl.nil ?_ | refine Qseq.normal ?_ | refine Wc.seq ?_ | refine Wc.region ?_ | refine Wc.ret ?_ | refine Qseq.ret ?_ | refine Wc.condT rfl ?_))
    exact Qfn.ret1 rfl rfl ⟨_, rfl, OwnS.nil, Chg.refl _ _⟩
  | some a =>
    have gs : GoodR (one vs) 1 := good_one _ fun _ => rfl
    (repeat' (first | refine Wl.nil ?_ | refine Qseq.normal ?_ | refine Wc.seq ?_ | refine Wc.region ?_ | refine Wc.skip ?_ | refine Wc.condF rfl ?_))
    refine Wl.buildSlice0 (R := one vs) (Pe := No) fun v1 w1 o1 n1 => ?_
    (repeat' (refine Wl.moveE (by conv => { lhs; whnf }) ?_))
    refine Wl.appendAll gs o1 (h.keep (stable_one _) n1.keep) (fun y cs hy => hy) rfl rfl (by omega) (by simp only [maxLen, List.length_nil]; omega) (by simp only [List.length_nil]; omega) fun v2 w2 o2 c2 lie _ => ?_
    (repeat' (first | refine Wl.assignE (by conv => { lhs; whnf }) ?_ | refine Wl.nil ?_ | refine Qseq.normal ?_ | refine Wc.ret ?_))
    refine Qfn.ret1 rfl rfl ⟨_, rfl, ?_, Chg.trans n1 c2 fun k hk e => by have := (o1.lt e).1; omega⟩
    have hs := n1.size
    exact o2.mono (mono_one _) (fun b _ hb => by rcases hb with hb | hb; exact hb; omega) (fun _ _ e => e)
/-- A row, by its parts. -/
theorem run_buildRow {w : World} {k : Int} {s : List UInt8} {na da ta : Option Addr} {nl nc dl dc tl tc : Nat} :
    (Instr.build tRow #[(0, vi k), (1, .agg #[vs s, .slice na nl nc, .slice da dl dc]), (2, .slice ta tl tc)]).run Tryd.prog w = .ok (.agg #[vi k, vs s, .slice na nl nc, .slice da dl dc, .slice ta tl tc]) w := by
  kernel_rfl
end Go.Proofs.YtjpebmgllfiloaaDoor
