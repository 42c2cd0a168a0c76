/-
  Texts of this claim, one behind the other: Sg, Pe, Pw, Sf, Ley, Sl, Tk, Ua, Qa, Qb, Qc, Qd.
-/
import Derived.Test.YtjpebmgllfiloaaDoorZc
import Derived.Laws.Rows
namespace Go.Proofs.YtjpebmgllfiloaaDoor
open Go Wk
open Go.RowKit (Below)
attribute [local irreducible] Go.Calls

structure SRow where
  n : Int
  piece : Pc
  tree : List Nd
structure Stk where
  base : List Nd
  rows : List SRow
  laid : Int
def rRow : Rel SRow := fun Pb w r cs => ∃ nv dv tv, cs = [vi r.n, vs r.piece.target, nv, dv, tv] ∧ RdS rNd 3 Pb w nv r.piece.nodes ∧ RdS (one vs) 1 Pb w dv r.piece.drop ∧ RdS rNd 3 Pb w tv r.tree
theorem stableRow : Stable rRow := fun _ _ _ _ _ hk ⟨nv, dv, tv, e, h1, h2, h3⟩ => ⟨nv, dv, tv, e, h1.keep stableNd hk, h2.keep (stable_one _) hk, h3.keep stableNd hk⟩
theorem monoRow : Mono rRow := fun _ _ _ _ _ hP ⟨nv, dv, tv, e, h1, h2, h3⟩ => ⟨nv, dv, tv, e, h1.mono monoNd hP, h2.mono (mono_one _) hP, h3.mono monoNd hP⟩
theorem goodRow : GoodR rRow 5 := ⟨stableRow, monoRow, fun Pb w x cs ⟨nv, dv, tv, e, h1, h2, h3⟩ _ c hc => by
  subst e
  obtain ⟨_, _, rfl, _⟩ := h1.form
  obtain ⟨_, _, rfl, _⟩ := h2.form
  obtain ⟨_, _, rfl, _⟩ := h3.form
  simp at hc
  rcases hc with rfl | rfl | rfl | rfl | rfl <;> rfl⟩
abbrev tStk : TypeId := 92
abbrev tRow : TypeId := 96
abbrev SLab := Nat → Option Bool
structure StkAt (lo : Nat) (lab : SLab) (w : World) (bl : Nat) (S : Stk) (bv rv : Value) : Prop where
  low : ∀ b c, lab b = some c → lo ≤ b ∧ b < w.heap.size
  lb : lab bl = some true
  bk : Bk w bl tStk [bv, rv, vi S.laid]
  base : RdS rNd 3 (fun b => lab b = some false) w bv S.base
  rows : OwnS rRow tRow 5 (fun b => lab b = some true ∧ b ≠ bl) (fun b => lab b = some false) w rv S.rows
/-- A stack that may be. -/
structure WfS (S : Stk) : Prop where
  base : treeOk S.base = true
  len : S.rows.length ≤ 16
  row : ∀ r ∈ S.rows, treeOk r.tree = true ∧ pieceOk r.piece = true ∧ r.piece.target.length ≤ 2000000
  laid : 0 ≤ S.laid ∧ S.laid ≤ 1000000
section
variable {lo : Nat} {lab : SLab} {w w' : World} {bl : Nat} {S : Stk} {bv rv : Value} {M : Nat → Prop}
theorem StkAt.chg (h : StkAt lo lab w bl S bv rv) (c : Chg M w w') (hM : ∀ b, b < w.heap.size → M b → lab b = none) : StkAt lo lab w' bl S bv rv := by
  have k : ∀ (x : Bool) (Pb : Nat → Prop), (∀ b, Pb b → lab b = some x) → Keep Pb w w' := fun x Pb hP => c.keep fun b hb h1 h2 => (by have := hM b hb h2; rw [hP b h1] at this; cases this)
  exact ⟨fun b x e => ⟨(h.low b x e).1, Nat.lt_of_lt_of_le (h.low b x e).2 c.size⟩, h.lb, h.bk.chg c fun e => (by have := hM bl h.bk.lt e; rw [h.lb] at this; cases this), h.base.keep stableNd (k false _ fun b e => e),
    h.rows.keep stableRow (k true _ fun b e => e.1) (k false _ fun b e => e)⟩
theorem StkAt.new (h : StkAt lo lab w bl S bv rv) (n : New w w') : StkAt lo lab w' bl S bv rv := h.chg n fun _ _ e => e.elim
/-- The elements of a list of one's own, by what they reach. -/
theorem Wk.OwnS.rdE {α : Type} {R : Rel α} {e : TypeId} {sz : Nat} {Pb Pe : Nat → Prop} {w : World} {v : Value} {xs : List α} (h : OwnS R e sz Pb Pe w v xs) : RdS (fun _ w x cs => R (fun b => Pe b ∧ v.ownBlock ≠ some b) w x cs) sz Pb w v xs := by
  obtain ⟨cs, ⟨hl, h⟩, he⟩ := h
  rcases h with ⟨rfl, hm⟩ | ⟨g, cap, cur, rfl, hb, hg, h1, h2, h3, h4⟩
  · exact .inl ⟨rfl, List.eq_nil_of_length_eq_zero hm⟩
  · have hle : xs.length * sz ≤ cap * sz := Nat.mul_le_mul_right _ h1
    refine .inr <| .inr ⟨g, 0, cap, cur, e, _, rfl, hb, hg, h1, h2, by omega, fun i x hx => ?_⟩
    have := he i x hx
    have hi : i < xs.length := (List.getElem?_eq_some_iff.1 hx).1
    have hi2 : (i + 1) * sz ≤ xs.length * sz := Nat.mul_le_mul_right _ hi
    rw [Nat.add_mul] at hi2
    rw [← h4, List.drop_take, List.take_take, Nat.min_eq_left (by omega)] at this
    rw [Nat.zero_add]
    exact this
end
def stkTop (S : Stk) (k : Nat) : List Nd := if k = 0 then S.base else match S.rows[k - 1]? with | some r => r.tree | none => []
theorem stkTop_ok {S : Stk} (h : WfS S) {k : Nat} (hk : k ≤ S.rows.length) : treeOk (stkTop S k) = true := by
  unfold stkTop
  split
  · exact h.base
  · obtain ⟨r, hr⟩ := get_lt S.rows (k := k - 1) (by omega)
    rw [hr]
    exact (h.row r (List.mem_of_getElem? hr)).1

theorem New_spec {Pt : Nat → Prop} {w : World} {v : Value} {t : List Nd} (h : RdS rNd 3 Pt w v t) :
    Calls Tryd.prog 27 #[v] w (Ret fun r w' => New w w' ∧ (treeOk t = false → r = .tuple #[.pointer none, vi 40]) ∧ (treeOk t = true → ∃ bl lab bv, r = .tuple #[ptrV bl, vi 0] ∧ StkAt w.heap.size lab w' bl ⟨t, [], 0⟩ bv (.slice none 0 0))) := by
  refine calls_of_Wc Tryd.func27 rfl Tryd.ntmps27 rfl ?_
  (repeat' (first | refine Wl.moveE (by conv => { lhs; whnf }) ?_ | refine Wl.assignE (by conv => { lhs; whnf }) ?_ | refine Wl.nil ?_ | refine Qseq.normal ?_ | refine Wc.seq ?_ | refine Wc.region ?_))
  refine Wl.call (may_spec h) rfl ?_
  rintro _ w1 ⟨rfl, n1⟩
  cases hok : treeOk t with
  | false =>
    (repeat' (first | refine Wl.assignE (by conv => { lhs; whnf }) ?_ | refine Wl.nil ?_ | refine Wl.notB rfl ?_ | refine Qseq.normal ?_ | refine Wc.seq ?_ | refine Wc.region ?_ | refine Wc.ret ?_ | refine Qseq.ret ?_ | refine Wc.condT rfl ?_))
    exact Qfn.ret2 rfl rfl rfl ⟨_, rfl, n1, fun _ => rfl, fun e => by cases e⟩
  | true =>
    have htl := treeOk_len hok
    (repeat' (first | refine Wl.moveE (by conv => { lhs; whnf }) ?_ | refine Wl.nil ?_ | refine Wl.notB rfl ?_ | refine Qseq.normal ?_ | refine Wc.seq ?_ | refine Wc.region ?_ | refine Wc.skip ?_ | refine Wc.condF rfl ?_))
    refine Wl.call (twin_spec (h.keep stableNd n1.keep) (by omega) fun x hx => by
      obtain ⟨i, hi⟩ := List.mem_iff_getElem?.1 hx
      have := propsOk_len (treeOk_nd hok hi).pr
      omega) rfl ?_
    rintro tv w2 ⟨labt, pvs, to2, n2⟩
    have rt := to2.rd
    obtain ⟨ta, tc, rfl, _, _⟩ := rt.form
    refine Wl.buildF (ps := [(0, .tmp 8)]) (parts := [(0, .slice ta t.length tc)]) rfl rfl (by simp [Value.cells]) ?_
    refine Wl.box rfl fun w3 b3 n3 s3 => ?_
    replace b3 : Bk w3 w2.heap.size tStk [.slice ta t.length tc, .slice none 0 0, vi 0] := b3
    (repeat' (first | refine Wl.assignE (by conv => { lhs; whnf }) ?_ | refine Wl.nil ?_ | refine Qseq.normal ?_ | refine Wc.ret ?_))
    have s1 := n1.size
    have s2 := n2.size
    refine Qfn.ret2 rfl rfl rfl ⟨_, rfl, New.trans (New.trans n1 n2) n3, fun e => (by cases e), fun _ => ⟨w2.heap.size, fun b => if b = w2.heap.size then some true else if w.heap.size ≤ b ∧ b < w2.heap.size then some false else none, .slice ta t.length tc, rfl, ?_⟩⟩
    refine ⟨fun b c e => ?_, by rw [if_pos rfl], b3, (rt.mono monoNd (Pb' := fun b => (if b = w2.heap.size then some true else if w.heap.size ≤ b ∧ b < w2.heap.size then some false else none) = some false) fun b hb e => by rw [if_neg (by omega), if_pos (by omega)]).keep stableNd n3.keep, OwnS.nil⟩
    split at e
    · omega
    · split at e
      · omega
      · cases e
theorem top_spec {lo : Nat} {lab : SLab} {w : World} {bl : Nat} {S : Stk} {bv rv : Value} (h : StkAt lo lab w bl S bv rv) {k : Nat} (hk : k ≤ S.rows.length) :
    Calls Tryd.prog 53 #[ptrV bl, vi k] w (Ret fun r w' => RdS rNd 3 (fun b => lab b = some false) w' r (stkTop S k) ∧ New w w') := by
  obtain ⟨ra, rc, rfl, hrc1, hrc2⟩ := h.rows.form
  simp only [maxLen] at hrc2
  refine calls_of_Wc Tryd.func53 rfl Tryd.ntmps53 rfl ?_
  unfold stkTop
  (repeat' (first | refine Wl.moveE (by conv => { lhs; whnf }) ?_ | refine Wl.assignE (by conv => { lhs; whnf }) ?_ | refine Wl.nil ?_ | refine Qseq.normal ?_ | refine Wc.seq ?_ | refine Wc.region ?_ | refine Wc.skip ?_ | refine Wc.condT rfl ?_ | refine Wc.condF rfl ?_ | refine Wl.nilP rfl ?_ | refine Wl.fieldAddr rfl rfl ?_ | refine Wl.eql rfl rfl (fun _ => ?_) (fun _ => ?_)))
  · refine Wl.load1 rfl (h.bk.cell (o := 0) rfl) ?_
    (repeat' (first | refine Wl.assignE (by conv => { lhs; whnf }) ?_ | refine Wl.nil ?_ | refine Qseq.normal ?_ | refine Wc.ret ?_ | refine Qseq.ret ?_))
    rw [if_pos (by omega)]
    exact Qfn.ret1 rfl rfl ⟨_, rfl, h.base, Chg.refl _ _⟩
  · rw [if_neg (by omega)]
    obtain ⟨r, hr⟩ := get_lt S.rows (k := k - 1) (by omega)
    rw [hr]
    refine Wl.load1 rfl (h.bk.cell (o := 1) rfl) ?_
    (repeat' (first | refine Wl.moveE (by conv => { lhs; whnf }) ?_ | refine Wl.sub rfl rfl (by omega) (by omega) ?_))
    refine Wl.idxAddr h.rows.rdE rfl rfl (by omega) (y := r) (by rw [show ((k : Int) - 1).toNat = k - 1 by omega]; exact hr) fun b o cs hl hR hat => ?_
    obtain ⟨nv, dv, tv, rfl, h1, h2, h3⟩ := hR
    (repeat' (refine Wl.fieldAddr rfl rfl ?_))
    refine Wl.load1 rfl (hat.get 4 rfl) ?_
    (repeat' (first | refine Wl.assignE (by conv => { lhs; whnf }) ?_ | refine Wl.nil ?_ | refine Qseq.normal ?_ | refine Wc.ret ?_))
    exact Qfn.ret1 rfl rfl ⟨_, rfl, h3.mono monoNd (fun b _ e => e.1), Chg.refl _ _⟩
theorem tree_lens {t : List Nd} (h : treeOk t = true) : t.length ≤ 2000000 ∧ ∀ x ∈ t, x.props.length ≤ 2000000 := by
  have := treeOk_len h
  refine ⟨by omega, fun x hx => ?_⟩
  obtain ⟨i, hi⟩ := List.mem_iff_getElem?.1 hx
  have := propsOk_len (treeOk_nd h hi).pr
  omega
theorem Tree_spec {lo : Nat} {lab : SLab} {w : World} {bl : Nat} {S : Stk} {bv rv : Value} (h : StkAt lo lab w bl S bv rv) (wf : WfS S) :
    Calls Tryd.prog 28 #[ptrV bl] w (Ret fun r w' => (∃ labt pvs, TrOwn w.heap.size labt w' r (stkTop S S.rows.length) pvs) ∧ New w w') := by
  obtain ⟨ra, rc, rfl, hrc1, hrc2⟩ := h.rows.form
  refine calls_of_Wc Tryd.func28 rfl Tryd.ntmps28 rfl ?_
  (repeat' (first | refine Wl.moveE (by conv => { lhs; whnf }) ?_ | refine Wl.assignE (by conv => { lhs; whnf }) ?_ | refine Wl.nil ?_ | refine Qseq.normal ?_ | refine Wc.seq ?_ | refine Wc.region ?_))
  refine Wl.peqNil rfl rfl ?_
  (repeat' (first | refine Wl.moveE (by conv => { lhs; whnf }) ?_ | refine Wl.nil ?_ | refine Qseq.normal ?_ | refine Wc.seq ?_ | refine Wc.region ?_ | refine Wc.skip ?_ | refine Wc.condF rfl ?_ | refine Wl.nilP rfl ?_ | refine Wl.fieldAddr rfl rfl ?_))
  refine Wl.load1 rfl (h.bk.cell (o := 1) rfl) ?_
  (repeat' (refine Wl.lenS rfl ?_))
  refine Wl.call (top_spec h (Nat.le_refl _)) rfl ?_
  rintro tv w1 ⟨rt, n1⟩
  have hl := tree_lens (stkTop_ok wf (Nat.le_refl _))
  refine Wl.call (twin_spec rt hl.1 hl.2) rfl ?_
  rintro ov w2 ⟨labt, pvs, to2, n2⟩
  (repeat' (first | refine Wl.assignE (by conv => { lhs; whnf }) ?_ | refine Wl.nil ?_ | refine Qseq.normal ?_ | refine Wc.ret ?_))
  have s1 := n1.size
  exact Qfn.ret1 rfl rfl ⟨_, rfl, ⟨labt, pvs, to2.len, fun b c e => ⟨by have := (to2.low b c e).1; omega, (to2.low b c e).2⟩, to2.arr, to2.pr⟩, New.trans n1 n2⟩
theorem Base_spec {lo : Nat} {lab : SLab} {w : World} {bl : Nat} {S : Stk} {bv rv : Value} (h : StkAt lo lab w bl S bv rv) (wf : WfS S) :
    Calls Tryd.prog 31 #[ptrV bl] w (Ret fun r w' => (∃ labt pvs, TrOwn w.heap.size labt w' r S.base pvs) ∧ New w w') := by
  refine calls_of_Wc Tryd.func31 rfl Tryd.ntmps31 rfl ?_
  (repeat' (first | refine Wl.moveE (by conv => { lhs; whnf }) ?_ | refine Wl.assignE (by conv => { lhs; whnf }) ?_ | refine Wl.nil ?_ | refine Qseq.normal ?_ | refine Wc.seq ?_ | refine Wc.region ?_))
  refine Wl.peqNil rfl rfl ?_
  (repeat' (first | refine Wl.moveE (by conv => { lhs; whnf }) ?_ | refine Wl.nil ?_ | refine Qseq.normal ?_ | refine Wc.seq ?_ | refine Wc.region ?_ | refine Wc.skip ?_ | refine Wc.condF rfl ?_ | refine Wl.nilP rfl ?_ | refine Wl.fieldAddr rfl rfl ?_))
  refine Wl.load1 rfl (h.bk.cell (o := 0) rfl) ?_
  have hl := tree_lens wf.base
  refine Wl.call (twin_spec h.base hl.1 hl.2) rfl ?_
  rintro ov w2 ⟨labt, pvs, to2, n2⟩
  (repeat' (first | refine Wl.assignE (by conv => { lhs; whnf }) ?_ | refine Wl.nil ?_ | refine Qseq.normal ?_ | refine Wc.ret ?_))
  exact Qfn.ret1 rfl rfl ⟨_, rfl, ⟨labt, pvs, to2⟩, n2⟩
theorem CloneStr_spec {Pb : Nat → Prop} {w : World} {v : Value} {l : List (List UInt8)} (h : RdS (one vs) 1 Pb w v l) (hl : l.length ≤ 2000000) :
    Calls Tryd.prog 54 #[v] w (Ret fun r w' => OwnS (one vs) 9 1 (fun b => w.heap.size ≤ b) No w' r l ∧ New w w') := by
  obtain ⟨a, cap, rfl, hc1, hc2⟩ := h.form
  refine calls_of_Wc Tryd.func54 rfl Tryd.ntmps54 rfl ?_
  (repeat' (first | refine Wl.moveE (by conv => { lhs; whnf }) ?_ | refine Wl.assignE (by conv => { lhs; whnf }) ?_ | refine Wl.nil ?_ | refine Qseq.normal ?_ | refine Wc.seq ?_ | refine Wc.region ?_))
  refine Wl.slNil rfl rfl ?_
  cases a with
  | none =>
    have e : l = [] := by
      rcases h with ⟨_, rfl⟩ | ⟨_, _, e, _⟩ | ⟨_, _, _, _, _, _, e, _⟩
      · rfl
      · cases e
      · cases e
    subst e
    (repeat' (first | refine Wl.assignE (by conv => { lhs; whnf }) ?_ | refine Wl.nil ?_ | refine Qseq.normal ?_ | refine Wc.seq ?_ | refine Wc.region ?_ | refine Wc.ret ?_ | refine Qseq.ret ?_ | refine Wc.condT rfl ?_))
    exact Qfn.ret1 rfl rfl ⟨_, rfl, OwnS.nil, Chg.refl _ _⟩
  | some a =>
    have gs : GoodR (one vs) 1 := good_one _ fun _ => rfl
    (repeat' (first | refine Wl.nil ?_ | refine Qseq.normal ?_ | refine Wc.seq ?_ | refine Wc.region ?_ | refine Wc.skip ?_ | refine Wc.condF rfl ?_))
    refine Wl.buildSlice0 (R := one vs) (Pe := No) fun v1 w1 o1 n1 => ?_
    (repeat' (refine Wl.moveE (by conv => { lhs; whnf }) ?_))
    refine Wl.appendAll gs o1 (h.keep (stable_one _) n1.keep) (fun y cs hy => hy) rfl rfl (by omega) (by simp only [maxLen, List.length_nil]; omega) (by simp only [List.length_nil]; omega) fun v2 w2 o2 c2 lie _ => ?_
    (repeat' (first | refine Wl.assignE (by conv => { lhs; whnf }) ?_ | refine Wl.nil ?_ | refine Qseq.normal ?_ | refine Wc.ret ?_))
    refine Qfn.ret1 rfl rfl ⟨_, rfl, ?_, Chg.trans n1 c2 fun k hk e => by have := (o1.lt e).1; omega⟩
    have hs := n1.size
    exact o2.mono (mono_one _) (fun b _ hb => by rcases hb with hb | hb; exact hb; omega) (fun _ _ e => e)
/-- A row, by its parts. -/
theorem run_buildRow {w : World} {k : Int} {s : List UInt8} {na da ta : Option Addr} {nl nc dl dc tl tc : Nat} :
    (Instr.build tRow #[(0, vi k), (1, .agg #[vs s, .slice na nl nc, .slice da dl dc]), (2, .slice ta tl tc)]).run Tryd.prog w = .ok (.agg #[vi k, vs s, .slice na nl nc, .slice da dl dc, .slice ta tl tc]) w := by
  kernel_rfl
end Go.Proofs.YtjpebmgllfiloaaDoor

namespace Go.Proofs.YtjpebmgllfiloaaDoor
open Go Wk

abbrev Nm := List UInt8
def nmsF (t : List Nd) : Nat → Nat → List Nm
  | 0, _ => []
  | f + 1, i => if i = 0 then [] else match t[i]? with | some x => nmsF t f x.parent.toNat ++ [x.name] | none => []
/-- The names from the root down to a node. -/
def nmsOf (t : List Nd) (i : Nat) : List Nm := nmsF t i i
theorem nmsF_eq {t : List Nd} (ht : treeOk t = true) : ∀ (f i : Nat), i ≤ f → nmsF t f i = nmsOf t i := by
  have key : ∀ (i f g : Nat), i ≤ f → i ≤ g → nmsF t f i = nmsF t g i := by
    intro i
    induction i using Nat.strongRecOn with
    | ind i ih =>
      intro f g hf hg
      cases f with
      | zero => cases g with
        | zero => rfl
        | succ g => obtain rfl : i = 0 := by omega
                    simp [nmsF]
      | succ f =>
        cases g with
        | zero => obtain rfl : i = 0 := by omega
                  simp [nmsF]
        | succ g =>
          simp only [nmsF]
          split
          · rfl
          · rename_i h0
            split
            · rename_i x hx
              have := (treeOk_nd ht hx).kid h0
              rw [ih x.parent.toNat (by omega) f g (by omega) (by omega)]
            · rfl
  exact fun f i h => key i f i h (Nat.le_refl _)
theorem nmsOf_zero (t : List Nd) : nmsOf t 0 = [] := rfl
theorem nmsOf_step {t : List Nd} (ht : treeOk t = true) {i : Nat} {x : Nd} (hx : t[i]? = some x) (h0 : i ≠ 0) : nmsOf t i = nmsOf t x.parent.toNat ++ [x.name] := by
  obtain ⟨m, rfl⟩ : ∃ m, i = m + 1 := ⟨i - 1, by omega⟩
  have := (treeOk_nd ht hx).kid h0
  show nmsF t (m + 1) (m + 1) = _
  rw [nmsF, if_neg h0, hx]
  dsimp only
  rw [nmsF_eq ht m x.parent.toNat (by omega)]
/-- A path. -/
def pathS (l : List Nm) : List UInt8 := if l = [] then [47] else l.flatMap fun n => 47 :: n
def GoodN (n : Nm) : Prop := n ≠ [] ∧ ∀ b ∈ n, b ≠ 47
theorem nameOk_good {n : Nm} (h : nameOk n = true) : GoodN n := by
  unfold nameOk at h
  simp only [Bool.and_eq_true, decide_eq_true_eq] at h
  refine ⟨h.1.1, fun b hb e => ?_⟩
  have := List.all_eq_true.1 h.2 b hb
  subst e
  rw [signs_eq] at this
  simp at this
theorem split_join : ∀ (l : List Nm) (n : Nm), (∀ b ∈ n, b ≠ 47) → (∀ m ∈ l, ∀ b ∈ m, b ≠ 47) → splitR 47 (n ++ l.flatMap fun n => 47 :: n) = n :: l
  | [], n, hn, _ => by simp [splitR_free hn]
  | m :: l, n, hn, hl => by
    rw [List.flatMap_cons, List.cons_append, splitR_at hn, split_join l m (hl m (by simp)) fun x hx => hl x (by simp [hx])]
theorem pathS_inj {l m : List Nm} (hl : ∀ n ∈ l, GoodN n) (hm : ∀ n ∈ m, GoodN n) (h : pathS l = pathS m) : l = m := by
  have key : ∀ (x : Nm) (r : List Nm), GoodN x → pathS (x :: r) ≠ [47] := fun x r hx e => by
    unfold pathS at e
    rw [if_neg (by simp), List.flatMap_cons, List.cons_append] at e
    have := (List.cons.inj e).2
    exact hx.1 (List.append_eq_nil_iff.1 this).1
  cases l with
  | nil => cases m with
    | nil => rfl
    | cons x r => exact absurd (h.symm.trans (by unfold pathS; rw [if_pos rfl])) (key x r (hm x (by simp)))
  | cons x r => cases m with
    | nil => exact absurd (h.trans (by unfold pathS; rw [if_pos rfl])) (key x r (hl x (by simp)))
    | cons y s =>
      unfold pathS at h
      rw [if_neg (by simp), if_neg (by simp), List.flatMap_cons, List.flatMap_cons, List.cons_append, List.cons_append] at h
      have h2 := congrArg (splitR 47) (List.cons.inj h).2
      rwa [split_join r x (hl x (by simp)).2 fun z hz => (hl z (by simp [hz])).2, split_join s y (hm y (by simp)).2 fun z hz => (hm z (by simp [hz])).2] at h2
theorem nmsOf_good {t : List Nd} (ht : treeOk t = true) : ∀ (i : Nat), ∀ n ∈ nmsOf t i, GoodN n ∧ n.length ≤ 31 := by
  intro i
  induction i using Nat.strongRecOn with
  | ind i ih =>
    intro n hn
    by_cases h0 : i = 0
    · subst h0; simp [nmsOf_zero] at hn
    · by_cases hi : i < t.length
      · obtain ⟨x, hx⟩ := get_lt t hi
        have hk := (treeOk_nd ht hx).kid h0
        rw [nmsOf_step ht hx h0] at hn
        rcases List.mem_append.1 hn with hn | hn
        · exact ih _ (by omega) n hn
        · simp at hn; subst hn; exact ⟨nameOk_good hk.2.2, nameOk_len hk.2.2⟩
      · obtain ⟨m, rfl⟩ : ∃ m, i = m + 1 := ⟨i - 1, by omega⟩
        unfold nmsOf at hn
        rw [nmsF, if_neg h0, List.getElem?_eq_none (by omega)] at hn
        simp at hn
theorem nmsOf_len {t : List Nd} (ht : treeOk t = true) : ∀ (i : Nat), (nmsOf t i).length ≤ i := by
  intro i
  induction i using Nat.strongRecOn with
  | ind i ih =>
    by_cases h0 : i = 0
    · subst h0; simp [nmsOf_zero]
    · by_cases hi : i < t.length
      · obtain ⟨x, hx⟩ := get_lt t hi
        have hk := (treeOk_nd ht hx).kid h0
        rw [nmsOf_step ht hx h0]
        have := ih x.parent.toNat (by omega)
        simp only [List.length_append, List.length_singleton]; omega
      · obtain ⟨m, rfl⟩ : ∃ m, i = m + 1 := ⟨i - 1, by omega⟩
        unfold nmsOf
        rw [nmsF, if_neg h0, List.getElem?_eq_none (by omega)]
        simp
theorem pathS_len {l : List Nm} (h : ∀ n ∈ l, n.length ≤ 31) : (pathS l).length ≤ 32 * l.length + 1 := by
  have key : (l.flatMap fun n => 47 :: n).length ≤ 32 * l.length := by
    induction l with
    | nil => simp
    | cons x r ih =>
      have h1 := ih fun n hn => h n (by simp [hn])
      have h2 := h x (by simp)
      simp only [List.flatMap_cons, List.length_append, List.length_cons] at h1 ⊢
      omega
  unfold pathS
  split
  · simp
  · omega
theorem pathS_step {l : List Nm} {n : Nm} (h : ∀ m ∈ l, GoodN m) : pathS (l ++ [n]) = (if pathS l = [47] then [] else pathS l) ++ [47] ++ n := by
  by_cases hl : l = []
  · subst hl; simp [pathS]
  · have hne : pathS l ≠ [47] := fun e => hl (pathS_inj h (by simp) (by rw [e]; rfl))
    rw [if_neg hne]
    unfold pathS
    rw [if_neg (by simp), if_neg hl, List.flatMap_append]; simp

/-! Where a path's node stands. -/
theorem okK_all : ∀ {ks : List T} {d : Nat} {seen : List Nm}, okK d seen ks = true → (∀ t ∈ ks, okT d t = true ∧ nameOk t.name = true ∧ t.name ∉ seen) ∧ (ks.map T.name).Nodup
  | [], _, _, _ => ⟨by simp, by simp⟩
  | t :: ts, d, seen, h => by
    simp only [okK, Bool.and_eq_true, Bool.not_eq_true'] at h
    obtain ⟨h1, h2, h3, h4⟩ := h
    obtain ⟨h5, h6⟩ := okK_all h4
    have hns : t.name ∉ seen := fun e => by rw [List.contains_iff_mem.2 e] at h2; cases h2
    refine ⟨fun x hx => ?_, ?_⟩
    · rcases List.mem_cons.1 hx with rfl | hx
      · exact ⟨h3, h1, hns⟩
      · have := h5 x hx
        exact ⟨this.1, this.2.1, fun e => this.2.2 (by simp [e])⟩
    · rw [List.map_cons, List.nodup_cons]
      refine ⟨fun e => ?_, h6⟩
      obtain ⟨x, hx, e⟩ := List.mem_map.1 e
      exact (h5 x hx).2.2 (by simp [e])
theorem kidAt_app {nm : Nm} {σ : T} (h2 : σ.name = nm) : ∀ {k1 k2 : List T} {b : Nat}, (∀ x ∈ k1, x.name ≠ nm) → kidAt nm (k1 ++ σ :: k2) b = some (σ, b + szK k1)
  | [], k2, b, _ => by rw [List.nil_append, kidAt, if_pos h2]; rfl
  | t :: ts, k2, b, h => by
    rw [List.cons_append, kidAt, if_neg (h t (by simp)), kidAt_app h2 fun x hx => h x (by simp [hx])]
    simp only [szK]; congr 2; omega
theorem atP_ok {ν : List Nm} : ∀ {τ σ : T} {b a d : Nat}, okT d τ = true → atP ν τ b = some (σ, a) → okT (d + ν.length) σ = true := by
  induction ν with
  | nil => intro τ σ b a d h hat; simp only [atP, Option.some.injEq, Prod.mk.injEq] at hat; obtain ⟨rfl, rfl⟩ := hat; exact h
  | cons nm r ih =>
    intro τ σ b a d h hat
    cases τ with
    | mk n p ks =>
      rw [atP] at hat
      simp only [T.kids] at hat
      cases hk : kidAt nm ks (b + 1) with
      | none => rw [hk] at hat; cases hat
      | some q =>
        rw [hk] at hat
        obtain ⟨k1, k2, rfl, _, _, hb, _⟩ := kidAt_split hk
        simp only [okT, Bool.and_eq_true] at h
        have := ih ((okK_all h.2.2).1 q.1 (by simp)).1 hat
        rwa [List.length_cons, show d + (r.length + 1) = d + 1 + r.length by omega]
theorem atP_pos {l : List Nd} {ν : List Nm} : ∀ {τ σ : T} {b a : Nat} {up : Int} {rest : List Nd}, l.drop b = flT τ up b ++ rest → Off b (szT τ) rest → atP ν τ b = some (σ, a) → ∃ up' rest', l.drop a = flT σ up' a ++ rest' ∧ Off a (szT σ) rest' := by
  induction ν with
  | nil => intro τ σ b a up rest h ho hat; simp only [atP, Option.some.injEq, Prod.mk.injEq] at hat; obtain ⟨rfl, rfl⟩ := hat; exact ⟨up, rest, h, ho⟩
  | cons nm r ih =>
    intro τ σ b a up rest h ho hat
    cases τ with
    | mk n p ks =>
      rw [atP] at hat
      simp only [T.kids] at hat
      cases hk : kidAt nm ks (b + 1) with
      | none => rw [hk] at hat; cases hat
      | some q =>
        rw [hk] at hat
        obtain ⟨κ, c⟩ := q
        obtain ⟨k1, k2, rfl, _, _, hb, _⟩ := kidAt_split hk
        simp only at hb hat
        subst hb
        obtain ⟨rest', h1, h2⟩ := sub_kid h ho
        exact ih h1 h2 hat
theorem atP_snoc {ν : List Nm} {nm : Nm} : ∀ {τ : T} {b : Nat}, atP (ν ++ [nm]) τ b = (atP ν τ b).bind fun q => kidAt nm q.1.kids (q.2 + 1) := by
  induction ν with
  | nil =>
    intro τ b
    simp only [List.nil_append, atP, Option.bind_some]
    cases kidAt nm τ.kids (b + 1) <;> rfl
  | cons n r ih =>
    intro τ b
    simp only [List.cons_append, atP]
    cases kidAt n τ.kids (b + 1) with
    | none => rfl
    | some q => exact ih
theorem get_flT {l rest : List Nd} {τ : T} {up : Int} {b : Nat} (h : l.drop b = flT τ up b ++ rest) : l[b]? = some ⟨up, τ.name, τ.props⟩ := by
  obtain ⟨r, hr⟩ := flT_head τ up b
  have := drop_get (i := 0) h
  rw [hr] at this
  simpa using this
/-- Each node is found by its names. -/
theorem atP_nms {τ : T} (hτ : okTree τ = true) : ∀ (i : Nat), i < szT τ → ∃ σ, atP (nmsOf (flT τ (-1) 0) i) τ 0 = some (σ, i) := by
  have ht : treeOk (flT τ (-1) 0) = true := by rw [treeOk_flT]; exact hτ
  have hok : okT 1 τ = true := by unfold okTree at hτ; simp only [Bool.and_eq_true] at hτ; exact hτ.2.2
  intro i
  induction i using Nat.strongRecOn with
  | ind i ih =>
    intro hi
    by_cases h0 : i = 0
    · subst h0; exact ⟨τ, rfl⟩
    · obtain ⟨x, hx⟩ := get_lt (flT τ (-1) 0) (k := i) (by rw [flT_length]; exact hi)
      have hk := (treeOk_nd ht hx).kid h0
      obtain ⟨p, hp⟩ := Int.eq_ofNat_of_zero_le hk.1
      obtain ⟨σ, hσ⟩ := ih p (by omega) (by omega)
      rw [nmsOf_step ht hx h0, hp, Int.toNat_natCast, atP_snoc, hσ, Option.bind_some]
      obtain ⟨up, rest, h1, h2⟩ := atP_pos (l := flT τ (-1) 0) (up := -1) (rest := []) (by simp) (fun x hx => by simp at hx) hσ
      have hσo := atP_ok hok hσ
      cases σ with
      | mk n ps ks =>
        simp only [okT, Bool.and_eq_true] at hσo
        obtain ⟨hall, hnd⟩ := okK_all hσo.2.2
        have hget := drop_get (i := i - p) h1
        rw [Nat.add_sub_cancel' (by omega), hx] at hget
        simp only [flT, List.cons_append] at hget
        obtain ⟨m, hm⟩ : ∃ m, i - p = m + 1 := ⟨i - p - 1, by omega⟩
        rw [hm, List.getElem?_cons_succ] at hget
        have him : i = p + 1 + m := by omega
        have hlt : m < szK ks := by
          rcases Nat.lt_or_ge m (szK ks) with h | h
          · exact h
          · rw [List.getElem?_append_right (by rw [flK_length]; exact h)] at hget
            rcases h2 x (List.mem_of_getElem? hget.symm) with h3 | h3
            · omega
            · simp only [szT] at h3; omega
        rw [List.getElem?_append_left (by rw [flK_length]; exact hlt)] at hget
        have find : ∀ (ks : List T) (b m : Nat), p < b → (flK ks p b)[m]? = some x → ∃ k1 σ k2, ks = k1 ++ σ :: k2 ∧ m = szK k1 ∧ σ.name = x.name := by
          intro ks
          induction ks with
          | nil => intro b m _ h; simp [flK] at h
          | cons t ts ih2 =>
            intro b m hb h
            simp only [flK] at h
            rw [List.getElem?_append, flT_length] at h
            split at h
            · obtain ⟨r, hr⟩ := flT_head t (p : Int) b
              rw [hr] at h
              cases m with
              | zero =>
                simp at h
                exact ⟨[], t, ts, rfl, rfl, by rw [← h]⟩
              | succ m =>
                simp only [List.getElem?_cons_succ] at h
                have := flT_par t p b r hr x (List.mem_of_getElem? h)
                omega
            · obtain ⟨k1, σ, k2, rfl, h3, h4⟩ := ih2 (b + szT t) (m - szT t) (by omega) h
              exact ⟨t :: k1, σ, k2, rfl, by simp only [szK]; omega, h4⟩
        obtain ⟨k1, κ, k2, rfl, hm2, hnm⟩ := find ks (p + 1) m (by omega) hget.symm
        refine ⟨κ, ?_⟩
        simp only [T.kids]
        rw [kidAt_app hnm fun y hy e => ?_]
        · congr 2; omega
        · rw [List.map_append, List.map_cons, List.nodup_append] at hnd
          exact hnd.2.2 y.name (List.mem_map.2 ⟨y, hy, rfl⟩) κ.name (by simp) (e.trans hnm.symm)
theorem nms_atP {τ : T} (hτ : okTree τ = true) {ν : List Nm} : ∀ {σ : T} {k : Nat}, atP ν τ 0 = some (σ, k) → nmsOf (flT τ (-1) 0) k = ν ∧ k < szT τ ∧ ∃ up, (flT τ (-1) 0)[k]? = some ⟨up, σ.name, σ.props⟩ := by
  have ht : treeOk (flT τ (-1) 0) = true := by rw [treeOk_flT]; exact hτ
  have key : ∀ (n : Nat) (ν : List Nm), ν.length = n → ∀ {σ : T} {k : Nat}, atP ν τ 0 = some (σ, k) → nmsOf (flT τ (-1) 0) k = ν ∧ k < szT τ ∧ ∃ up, (flT τ (-1) 0)[k]? = some ⟨up, σ.name, σ.props⟩ := by
    intro n
    induction n with
    | zero =>
      intro ν hν σ k h
      obtain rfl := List.eq_nil_of_length_eq_zero hν
      simp only [atP, Option.some.injEq, Prod.mk.injEq] at h
      obtain ⟨rfl, rfl⟩ := h
      exact ⟨rfl, szT_pos τ, -1, get_flT (l := flT τ (-1) 0) (rest := []) (b := 0) (by simp)⟩
    | succ n ih =>
      intro ν hν σ k h
      obtain ⟨μ, nm, rfl⟩ : ∃ μ nm, ν = μ ++ [nm] := ⟨ν.dropLast, ν.getLast (by rintro rfl; cases hν), (List.dropLast_concat_getLast _).symm⟩
      have h0 := h
      rw [atP_snoc] at h
      cases hμ : atP μ τ 0 with
      | none => rw [hμ] at h; cases h
      | some q =>
        obtain ⟨ρ, a⟩ := q
        rw [hμ] at h
        simp only [Option.bind_some] at h
        have hi := ih μ (by simpa using hν) hμ
        obtain ⟨k1, k2, hks, _, hnm, hb, _⟩ := kidAt_split h
        simp only at hks hnm hb
        obtain ⟨up, rest, h1, h2⟩ := atP_pos (l := flT τ (-1) 0) (up := -1) (rest := []) (by simp) (fun x hx => by simp at hx) hμ
        cases ρ with
        | mk n' ps ks =>
          simp only [T.kids] at hks
          subst hks
          obtain ⟨rest', h3, _⟩ := sub_kid h1 h2
          have hg := get_flT h3
          rw [← hb] at hg
          have hkl := (List.getElem?_eq_some_iff.1 hg).1
          rw [flT_length] at hkl
          refine ⟨?_, hkl, _, hg⟩
          rw [nmsOf_step ht hg (by omega)]
          simp only [Int.toNat_natCast]
          rw [hi.1, hnm]
  intro σ k h
  exact key ν.length ν rfl h

/-! Props at a path. -/
def kidF (nm : Nm) (ks : List T) : Option T := ks.find? fun t => decide (t.name = nm)
def gp : List Nm → T → Option (List Pr)
  | [], τ => some τ.props
  | nm :: r, τ => (kidF nm τ.kids).bind (gp r)
theorem kidF_at {nm : Nm} : ∀ {ks : List T} {b : Nat}, (kidAt nm ks b).map (·.1) = kidF nm ks
  | [], b => rfl
  | t :: ts, b => by
    unfold kidF
    rw [kidAt, List.find?_cons]
    by_cases h : t.name = nm
    · rw [if_pos h, decide_eq_true h]; rfl
    · rw [if_neg h, decide_eq_false h]
      exact kidF_at
theorem gp_at {ν : List Nm} : ∀ {τ : T} {b : Nat}, (atP ν τ b).map (fun q => q.1.props) = gp ν τ := by
  induction ν with
  | nil => intro τ b; rfl
  | cons nm r ih =>
    intro τ b
    rw [atP, gp, ← kidF_at (b := b + 1)]
    cases kidAt nm τ.kids (b + 1) with
    | none => rfl
    | some q => exact ih
theorem gp_some {ν : List Nm} {τ σ : T} {b a : Nat} (h : atP ν τ b = some (σ, a)) : gp ν τ = some σ.props := by rw [← gp_at (b := b), h]; rfl
theorem kidF_ins_ne {g : T → T} {m nm : Nm} (hg : ∀ t, (g t).name = t.name) (h : m ≠ nm) (ks : List T) : kidF nm (insK g m ks) = kidF nm ks := by
  unfold kidF
  rcases insK_cases g m ks with ⟨k1, t, k2, rfl, _, ht, e⟩ | ⟨_, e⟩
  · rw [e, List.find?_append, List.find?_append, List.find?_cons, List.find?_cons, hg, decide_eq_false (fun e => h (ht.symm.trans e))]
  · rw [e, List.find?_append, List.find?_cons, hg, show (T.mk m [] []).name = m from rfl, decide_eq_false h]
    simp
theorem kidF_ins_eq {g : T → T} {nm : Nm} (hg : ∀ t, (g t).name = t.name) (ks : List T) : kidF nm (insK g nm ks) = some (g ((kidF nm ks).getD (.mk nm [] []))) := by
  unfold kidF
  rcases insK_cases g nm ks with ⟨k1, t, k2, rfl, hn, ht, e⟩ | ⟨hn, e⟩
  · have h0 : k1.find? (fun t => decide (t.name = nm)) = none := List.find?_eq_none.2 fun x hx => by simpa using hn x hx
    rw [e, List.find?_append, List.find?_append, List.find?_cons, List.find?_cons, hg, decide_eq_true ht, h0]; rfl
  · have h0 : ks.find? (fun t => decide (t.name = nm)) = none := List.find?_eq_none.2 fun x hx => by simpa using hn x hx
    rw [e, List.find?_append, List.find?_cons, hg, h0]
    simp only [T.name, decide_true, Option.none_or, Option.getD_none]
theorem kidF_layK {nm : Nm} : ∀ (js ks : List T), (js.map T.name).Nodup → kidF nm (layK js ks) = match kidF nm js with | none => kidF nm ks | some j => some (layT j ((kidF nm ks).getD (.mk nm [] [])))
  | [], ks, _ => rfl
  | j :: js, ks, h => by
    rw [List.map_cons, List.nodup_cons] at h
    rw [layK, kidF_layK js _ h.2]
    have hc : kidF nm (j :: js) = if j.name = nm then some j else kidF nm js := by
      unfold kidF
      rw [List.find?_cons]
      by_cases e : j.name = nm
      · rw [if_pos e, decide_eq_true e]
      · rw [if_neg e, decide_eq_false e]
    rw [hc]
    by_cases e : j.name = nm
    · rw [if_pos e]
      have h0 : kidF nm js = none := List.find?_eq_none.2 fun x hx => by
        simp only [decide_eq_true_eq]
        exact fun e' => h.1 (List.mem_map.2 ⟨x, hx, e'.trans e.symm⟩)
      rw [h0]
      dsimp only
      subst e
      rw [kidF_ins_eq (layT_name j)]
    · rw [if_neg e]
      rw [kidF_ins_ne (layT_name j) e]
theorem gp_lay {ν : List Nm} : ∀ {π τ : T} {d : Nat}, okT d π = true → gp ν (layT π τ) = match gp ν π with | none => gp ν τ | some qs => some (qs.foldl setPr ((gp ν τ).getD [])) := by
  induction ν with
  | nil => intro π τ d _; cases π; cases τ; rfl
  | cons nm r ih =>
    intro π τ d h
    cases π with
    | mk pn qs js =>
      cases τ with
      | mk n ps ks =>
        simp only [okT, Bool.and_eq_true] at h
        obtain ⟨hall, hnd⟩ := okK_all h.2.2
        simp only [layT, gp, T.kids]
        rw [kidF_layK js ks hnd]
        cases hj : kidF nm js with
        | none => rfl
        | some j =>
          dsimp only [Option.bind_some]
          have hjm : j ∈ js := List.mem_of_find?_eq_some hj
          rw [ih (hall j hjm).1]
          cases hk : kidF nm ks with
          | some k => rfl
          | none =>
            simp only [Option.getD_none, Option.bind_none]
            cases r with
            | nil => rfl
            | cons m r => rfl
theorem gp_upd {g : T → T} (hg : ∀ t, (g t).name = t.name) {nms : List Nm} : ∀ {τ σ : T} {b a : Nat} {ν : List Nm}, atP nms τ b = some (σ, a) → (∀ μ, ν = nms ++ μ → gp ν (updP g nms τ) = gp μ (g σ)) ∧ ((∀ μ, ν ≠ nms ++ μ) → gp ν (updP g nms τ) = gp ν τ) := by
  have hun : ∀ (r : List Nm) (t : T), (updP g r t).name = t.name := fun r t => by
    cases r with
    | nil => exact hg t
    | cons _ _ => cases t; rfl
  induction nms with
  | nil =>
    intro τ σ b a ν h
    simp only [atP, Option.some.injEq, Prod.mk.injEq] at h
    obtain ⟨rfl, rfl⟩ := h
    exact ⟨fun μ e => by subst e; rfl, fun hn => absurd rfl (hn ν)⟩
  | cons nm r ih =>
    intro τ σ b a ν h
    cases τ with
    | mk n p ks =>
      rw [atP] at h
      simp only [T.kids] at h
      cases hk : kidAt nm ks (b + 1) with
      | none => rw [hk] at h; cases h
      | some q =>
        rw [hk] at h
        obtain ⟨κ, c⟩ := q
        obtain ⟨k1, k2, rfl, hno, hnm, hb, hup⟩ := kidAt_split hk
        simp only at hno hnm hb hup h
        simp only [updP, hup]
        have h0 : k1.find? (fun t => decide (t.name = nm)) = none := List.find?_eq_none.2 fun x hx => by simpa using hno x hx
        have hkf : ∀ (x : T), x.name = nm → kidF nm (k1 ++ x :: k2) = some x := fun x hx => by
          unfold kidF
          rw [List.find?_append, h0, Option.none_or, List.find?_cons, decide_eq_true hx]
        refine ⟨fun μ e => ?_, fun hn => ?_⟩
        · subst e
          simp only [List.cons_append, gp, T.kids]
          rw [hkf _ ((hun r κ).trans hnm), Option.bind_some]
          exact (ih h).1 μ rfl
        · cases ν with
          | nil => rfl
          | cons m ν =>
            simp only [gp, T.kids]
            by_cases e : m = nm
            · subst e
              rw [hkf _ ((hun r κ).trans hnm), hkf κ hnm, Option.bind_some, Option.bind_some]
              exact (ih h).2 fun μ e => hn μ (by rw [e]; rfl)
            · congr 1
              unfold kidF
              rw [List.find?_append, List.find?_append, List.find?_cons, List.find?_cons, hun, hnm, decide_eq_false (fun e' => e e'.symm)]

/-! Values. -/
def val (ps : List Pr) (nm : Nm) : Option (List UInt8) := (ps.find? fun p => decide (p.1 = nm)).map (·.2)
theorem val_none {ps : List Pr} {nm : Nm} : val ps nm = none ↔ ∀ p ∈ ps, p.1 ≠ nm := by
  unfold val
  rw [Option.map_eq_none_iff, List.find?_eq_none]
  simp
theorem val_mem {ps : List Pr} (h : (ps.map (·.1)).Nodup) {p : Pr} (hp : p ∈ ps) : val ps p.1 = some p.2 := by
  induction ps with
  | nil => simp at hp
  | cons q r ih =>
    rw [List.map_cons, List.nodup_cons] at h
    unfold val
    rw [List.find?_cons]
    rcases List.mem_cons.1 hp with rfl | hp
    · simp
    · have : q.1 ≠ p.1 := fun e => h.1 (by rw [e]; exact List.mem_map.2 ⟨p, hp, rfl⟩)
      rw [decide_eq_false this]
      exact ih h.2 hp
theorem val_drop {D : List Nm} {ps : List Pr} {nm : Nm} : val (dropPr D ps) nm = if D.contains nm = true then none else val ps nm := by
  induction ps with
  | nil => simp [val, dropPr]
  | cons q r ih =>
    unfold dropPr at ih ⊢
    rw [List.filter_cons]
    unfold val at ih ⊢
    by_cases hq : q.1 = nm
    · subst hq
      cases hc : D.contains q.1 with
      | true => rw [hc] at ih; simpa using ih
      | false => simp
    · split
      · rw [List.find?_cons, decide_eq_false hq, List.find?_cons, decide_eq_false hq]; exact ih
      · rw [List.find?_cons (a := q), decide_eq_false hq]; exact ih
theorem setPr_names (ps : List Pr) (p : Pr) : (setPr ps p).map (·.1) = if (ps.map (·.1)).contains p.1 = true then ps.map (·.1) else ps.map (·.1) ++ [p.1] := by
  unfold setPr
  cases h : ps.findIdx? (fun y => decide (y.1 = p.1)) with
  | none =>
    have hn : (ps.map (·.1)).contains p.1 = false := by
      rw [Bool.eq_false_iff]; intro hc
      obtain ⟨y, hy, e⟩ := List.mem_map.1 (List.contains_iff_mem.1 hc)
      have := List.findIdx?_eq_none_iff.1 h y hy
      simp [e] at this
    rw [if_neg (by rw [hn]; simp)]
    simp
  | some i =>
    obtain ⟨hi, hp, _⟩ := List.findIdx?_eq_some_iff_getElem.1 h
    have hpe : (ps[i]).1 = p.1 := by simpa using hp
    have hc : (ps.map (·.1)).contains p.1 = true := List.contains_iff_mem.2 (List.mem_map.2 ⟨ps[i], List.getElem_mem hi, hpe⟩)
    rw [if_pos hc]
    dsimp only
    rw [List.map_set]
    apply List.ext_getElem?
    intro j
    rw [List.getElem?_set]
    split
    · rename_i e
      subst e
      rw [List.length_map, if_pos hi, List.getElem?_map, List.getElem?_eq_getElem hi]
      simp [hpe]
    · rfl
theorem val_set (ps : List Pr) (p : Pr) (nm : Nm) : val (setPr ps p) nm = if p.1 = nm then some p.2 else val ps nm := by
  unfold setPr
  cases h : ps.findIdx? (fun y => decide (y.1 = p.1)) with
  | none =>
    have hn := List.findIdx?_eq_none_iff.1 h
    dsimp only
    unfold val
    rw [List.find?_append, List.find?_cons]
    by_cases e : p.1 = nm
    · subst e
      have h0 : ps.find? (fun q => decide (q.1 = p.1)) = none := List.find?_eq_none.2 fun x hx => by simpa using hn x hx
      rw [if_pos rfl, h0]; simp
    · rw [if_neg e, decide_eq_false e]; simp
  | some i =>
    obtain ⟨hi, hp, hb⟩ := List.findIdx?_eq_some_iff_getElem.1 h
    have hpe : (ps[i]).1 = p.1 := by simpa using hp
    dsimp only
    have hsplit : ps = ps.take i ++ ps[i] :: ps.drop (i + 1) := by rw [← List.drop_eq_getElem_cons hi, List.take_append_drop]
    have hset : ps.set i (p.1, p.2) = ps.take i ++ (p.1, p.2) :: ps.drop (i + 1) := by rw [List.set_eq_take_append_cons_drop, if_pos hi]
    rw [hset]
    unfold val
    conv => rhs; rw [hsplit]
    rw [List.find?_append, List.find?_append, List.find?_cons, List.find?_cons, hpe]
    by_cases e : p.1 = nm
    · rw [if_pos e]
      have h0 : (ps.take i).find? (fun q => decide (q.1 = nm)) = none := List.find?_eq_none.2 fun x hx => by
        obtain ⟨j, hj⟩ := List.mem_iff_getElem?.1 hx
        rw [List.getElem?_take] at hj
        split at hj
        · rename_i hji
          obtain ⟨h1, rfl⟩ := List.getElem?_eq_some_iff.1 hj
          have := hb j hji
          simpa [← e] using this
        · cases hj
      rw [h0]; simp [e]
    · rw [if_neg e]; simp [e]
theorem val_foldl : ∀ (qs ps : List Pr) (nm : Nm), (qs.map (·.1)).Nodup → val (qs.foldl setPr ps) nm = match val qs nm with | some v => some v | none => val ps nm
  | [], ps, nm, _ => rfl
  | q :: qs, ps, nm, h => by
    rw [List.map_cons, List.nodup_cons] at h
    rw [List.foldl_cons, val_foldl qs _ nm h.2, val_set]
    have hc : val (q :: qs) nm = if q.1 = nm then some q.2 else val qs nm := by
      unfold val
      rw [List.find?_cons]
      by_cases e : q.1 = nm
      · rw [if_pos e, decide_eq_true e]; rfl
      · rw [if_neg e, decide_eq_false e]
    rw [hc]
    by_cases e : q.1 = nm
    · have : val qs nm = none := val_none.2 fun p hp e' => h.1 (List.mem_map.2 ⟨p, hp, e'.trans e.symm⟩)
      rw [if_pos e, if_pos e, this]
    · rw [if_neg e, if_neg e]
theorem propsGo_nodup : ∀ (l : List Pr) (seen : List Nm), propsGo seen l = true → (l.map (·.1)).Nodup ∧ ∀ p ∈ l, p.1 ∉ seen ∧ nameOk p.1 = true ∧ p.2.length ≤ 1024
  | [], _, _ => ⟨by simp, by simp⟩
  | p :: r, seen, h => by
    simp only [propsGo, Bool.and_eq_true, decide_eq_true_eq, Bool.not_eq_true'] at h
    obtain ⟨h1, h2, h3, h4⟩ := h
    obtain ⟨h5, h6⟩ := propsGo_nodup r _ h4
    have hns : p.1 ∉ seen := fun e => by rw [List.contains_iff_mem.2 e] at h3; cases h3
    refine ⟨?_, fun x hx => ?_⟩
    · rw [List.map_cons, List.nodup_cons]
      refine ⟨fun e => ?_, h5⟩
      obtain ⟨y, hy, e⟩ := List.mem_map.1 e
      exact (h6 y hy).1 (by simp [e])
    · rcases List.mem_cons.1 hx with rfl | hx
      · exact ⟨hns, h1, h2⟩
      · exact ⟨fun e => (h6 x hx).1 (by simp [e]), (h6 x hx).2⟩
theorem propsOk_nodup {l : List Pr} (h : propsOk l = true) : (l.map (·.1)).Nodup := by
  unfold propsOk at h
  simp only [Bool.and_eq_true] at h
  exact (propsGo_nodup l [] h.2).1
end Go.Proofs.YtjpebmgllfiloaaDoor

namespace Go.Proofs.YtjpebmgllfiloaaDoor
open Go Wk
open Go.RowKit (Below)
attribute [local irreducible] Go.Calls

theorem pathOf_len {t : List Nd} (ht : treeOk t = true) {i : Nat} (hi : i < t.length) : (pathS (nmsOf t i)).length ≤ 17000 := by
  have h1 := pathS_len (l := nmsOf t i) fun n hn => (nmsOf_good ht i n hn).2
  have h2 := nmsOf_len ht i
  have h3 := treeOk_len ht
  omega
set_option maxRecDepth 4000 in
theorem Path_spec {Pb : Nat → Prop} {v : Value} {t : List Nd} (ht : treeOk t = true) : ∀ (i : Nat), i < t.length → ∀ (w : World), RdS rNd 3 Pb w v t →
    Calls Tryd.prog 22 #[v, vi i] w (Ret fun r w' => r = vs (pathS (nmsOf t i)) ∧ New w w') := by
  intro i
  induction i using Nat.strongRecOn with
  | ind i ih =>
    intro hi w h
    obtain ⟨a, cap, rfl, hc1, hc2⟩ := h.form
    refine calls_of_Wc Tryd.func22 rfl Tryd.ntmps22 rfl ?_
    (repeat' (first | refine Wl.moveE (by conv => { lhs; whnf }) ?_ | refine Wl.assignE (by conv => { lhs; whnf }) ?_ | refine Wl.nil ?_ | refine Qseq.normal ?_ | refine Wc.seq ?_ | refine Wc.region ?_ | refine Wc.skip ?_ | refine Wc.ret ?_ | refine Qseq.ret ?_ | refine Wc.condT rfl ?_ | refine Wc.condF rfl ?_ | refine Wl.eql rfl rfl (fun _ => ?_) (fun _ => ?_)))
    · obtain rfl : i = 0 := by omega
      exact Qfn.ret1 rfl rfl ⟨_, rfl, rfl, Chg.refl _ _⟩
    · obtain ⟨x, hx⟩ := get_lt t hi
      have hi0 : i ≠ 0 := by omega
      have hk := (treeOk_nd ht hx).kid hi0
      have hxl := nameOk_len hk.2.2
      obtain ⟨p, hp⟩ := Int.eq_ofNat_of_zero_le hk.1
      have hpl := pathOf_len ht (i := p) (by omega)
      have hst := pathS_step (l := nmsOf t p) (n := x.name) fun m hm => (nmsOf_good ht p m hm).1
      rw [nmsOf_step ht hx hi0, hp, Int.toNat_natCast, hst]
      refine Wl.idxAddr h rfl rfl (by omega) hx fun b o cs hl hR hat => ?_
      obtain ⟨pv, rfl, hpr⟩ := hR
      (repeat' (refine Wl.fieldAddr rfl rfl ?_))
      refine Wl.load1 rfl (hat.get 0 rfl) ?_
      refine Wl.call (ih p (by omega) (by omega) w h) (by show [_, vi x.parent] = [_, vi p]; rw [hp]; rfl) ?_
      rintro _ w1 ⟨rfl, n1⟩
      have h1 := h.keep stableNd n1.keep
      (repeat' (first | refine Wl.moveE (by conv => { lhs; whnf }) ?_ | refine Wl.assignE (by conv => { lhs; whnf }) ?_ | refine Wl.nil ?_ | refine Qseq.normal ?_ | refine Wc.seq ?_ | refine Wc.region ?_ | refine Wc.skip ?_ | refine Wc.condT rfl ?_ | refine Wc.condF rfl ?_ | refine Wl.seql rfl rfl (fun _ => ?_) (fun _ => ?_)))
      · rw [if_pos (by assumption)]
        refine Wl.sadd rfl rfl (by simp) ?_
        (repeat' (refine Wl.moveE (by conv => { lhs; whnf }) ?_))
        refine Wl.idxAddr h1 rfl rfl (by omega) hx fun b o cs hl hR hat => ?_
        obtain ⟨pv, rfl, hpr⟩ := hR
        (repeat' (refine Wl.fieldAddr rfl rfl ?_))
        refine Wl.load1 rfl (hat.get 1 rfl) ?_
        refine Wl.sadd rfl rfl (by simp; omega) ?_
        (repeat' (first | refine Wl.assignE (by conv => { lhs; whnf }) ?_ | refine Wl.nil ?_ | refine Qseq.normal ?_ | refine Wc.ret ?_))
        exact Qfn.ret1 rfl rfl ⟨_, rfl, rfl, n1⟩
      · rw [if_neg (by assumption)]
        refine Wl.sadd rfl rfl (by simp; omega) ?_
        (repeat' (refine Wl.moveE (by conv => { lhs; whnf }) ?_))
        refine Wl.idxAddr h1 rfl rfl (by omega) hx fun b o cs hl hR hat => ?_
        obtain ⟨pv, rfl, hpr⟩ := hR
        (repeat' (refine Wl.fieldAddr rfl rfl ?_))
        refine Wl.load1 rfl (hat.get 1 rfl) ?_
        refine Wl.sadd rfl rfl (by simp; omega) ?_
        (repeat' (first | refine Wl.assignE (by conv => { lhs; whnf }) ?_ | refine Wl.nil ?_ | refine Qseq.normal ?_ | refine Wc.ret ?_))
        exact Qfn.ret1 rfl rfl ⟨_, rfl, rfl, n1⟩
theorem at_spec {Pb : Nat → Prop} {w : World} {v : Value} {t : List Nd} {s : List UInt8} (ht : treeOk t = true) (h : RdS rNd 3 Pb w v t) :
    Calls Tryd.prog 23 #[v, vs s] w (Ret fun r w' => (∃ k : Int, r = vi k ∧ ((k = -1 ∧ ∀ j, j < t.length → pathS (nmsOf t j) ≠ s) ∨ ∃ j : Nat, k = j ∧ j < t.length ∧ pathS (nmsOf t j) = s)) ∧ New w w') := by
  obtain ⟨a, cap, rfl, hc1, hc2⟩ := h.form
  have htl := treeOk_len ht
  refine calls_of_Wc Tryd.func23 rfl Tryd.ntmps23 rfl ?_
  (repeat' (first | refine Wl.assignE (by conv => { lhs; whnf }) ?_ | refine Wl.nil ?_ | refine Qseq.normal ?_ | refine Wc.seq ?_ | refine Wc.region ?_ | refine Wc.block ?_))
  refine Wc.loop (σ := Nat) (fun i => [(0, .slice a t.length cap), (1, vs s), (5, vi i)]) (fun i w' => i ≤ t.length ∧ (∀ j, j < i → pathS (nmsOf t j) ≠ s) ∧ New w w') (fun i => t.length - i) 0 ⟨rfl, rfl, rfl, trivial⟩ ⟨Nat.zero_le _, fun j hj => by omega, Chg.refl _ _⟩ ?_
  rintro i G w1 ⟨hi, hall, n1⟩
  simp only [upds]
  (repeat' (first | refine Wl.moveE (by conv => { lhs; whnf }) ?_ | refine Wl.assignE (by conv => { lhs; whnf }) ?_ | refine Wl.nil ?_ | refine Wl.lenS rfl ?_ | refine Qseq.normal ?_ | refine Wc.seq ?_ | refine Wc.region ?_ | refine Wc.block ?_ | refine Wc.skip ?_ | refine Wc.exit ?_ | refine Wc.ret ?_ | refine Qseq.exit ?_ | refine Qblk.hit ?_ | refine Qloop.exit ?_ | refine Wc.condT rfl ?_ | refine Wc.condF rfl ?_ | refine Wl.lss rfl rfl (fun _ => ?_) (fun _ => ?_)))
  · refine Wl.call (Path_spec ht i (by omega) w1 (h.keep stableNd n1.keep)) rfl ?_
    rintro _ w2 ⟨rfl, n2⟩
    (repeat' (first | refine Wl.moveE (by conv => { lhs; whnf }) ?_ | refine Wl.assignE (by conv => { lhs; whnf }) ?_ | refine Wl.nil ?_ | refine Qseq.normal ?_ | refine Wc.seq ?_ | refine Wc.region ?_ | refine Wc.skip ?_ | refine Wc.ret ?_ | refine Qseq.ret ?_ | refine Qblk.normal ?_ | refine Qblk.ret ?_ | refine Qloop.ret ?_ | refine Wc.condT rfl ?_ | refine Wc.condF rfl ?_ | refine Wl.add rfl rfl (by omega) (by omega) ?_ | refine Wl.seql rfl rfl (fun _ => ?_) (fun _ => ?_)))
    · exact Qfn.ret1 rfl rfl ⟨_, rfl, ⟨_, rfl, .inr ⟨i, rfl, by omega, by assumption⟩⟩, New.trans n1 n2⟩
    · refine Qloop.normal (i + 1) ⟨rfl, rfl, rfl, trivial⟩ ⟨by omega, fun j hj => ?_, New.trans n1 n2⟩ (by omega)
      rcases Nat.lt_succ_iff_lt_or_eq.1 hj with h | rfl
      · exact hall j h
      · assumption
  · exact Qfn.ret1 rfl rfl ⟨_, rfl, ⟨_, rfl, .inl ⟨rfl, fun j hj => hall j (by omega)⟩⟩, n1⟩
def valV (o : Option (List UInt8)) : Value := match o with | some v => .tuple #[vs v, .bool true] | none => .tuple #[vs [], .bool false]
theorem val_take {l : List Pr} {nm : Nm} {i : Nat} (h : ∀ p ∈ l.take i, p.1 ≠ nm) : val l nm = val (l.drop i) nm := by
  unfold val
  conv => lhs; rw [← List.take_append_drop i l]
  rw [List.find?_append, List.find?_eq_none.2 (fun x hx => by simpa using h x hx), Option.none_or]
theorem value_spec {Pb : Nat → Prop} {w : World} {up : Int} {nm s : List UInt8} {pv : Value} {l : List Pr} (h : RdS rPr 2 Pb w pv l) :
    Calls Tryd.prog 24 #[.agg #[vi up, vs nm, pv], vs s] w (Ret fun r w' => r = valV (val l s) ∧ New w w') := by
  obtain ⟨a, cap, rfl, hc1, hc2⟩ := h.form
  simp only [maxLen] at hc2
  refine calls_of_Wc Tryd.func24 rfl Tryd.ntmps24 rfl ?_
  (repeat' (first | refine Wc.seq ?_ | refine Wc.region ?_))
  refine Wl.box rfl fun w1 b1 n1 s1 => ?_
  replace b1 : Bk w1 w.heap.size 37 [vi up, vs nm, .slice a l.length cap] := b1
  (repeat' (first | refine Wl.assignE (by conv => { lhs; whnf }) ?_ | refine Wl.nil ?_ | refine Qseq.normal ?_ | refine Wc.seq ?_ | refine Wc.region ?_ | refine Wc.block ?_))
  refine Wc.loop (σ := Nat) (fun i => [(1, vs s), (2, ptrV w.heap.size), (6, vi i)]) (fun i w' => i ≤ l.length ∧ (∀ p ∈ l.take i, p.1 ≠ s) ∧ New w1 w') (fun i => l.length - i) 0 ⟨rfl, rfl, rfl, trivial⟩ ⟨Nat.zero_le _, by simp, Chg.refl _ _⟩ ?_
  rintro i G w2 ⟨hi, hall, n2⟩
  have b2 := b1.chg n2 id
  have n02 := New.trans n1 n2
  have h2 := h.keep (stable_flat pC) n02.keep
  simp only [upds]
  (repeat' (first | refine Wl.moveE (by conv => { lhs; whnf }) ?_ | refine Wc.seq ?_ | refine Wc.region ?_ | refine Wl.fieldAddr rfl rfl ?_))
  refine Wl.load1 rfl (b2.cell (o := 2) rfl) ?_
  (repeat' (first | refine Wl.assignE (by conv => { lhs; whnf }) ?_ | refine Wl.nil ?_ | refine Wl.lenS rfl ?_ | refine Qseq.normal ?_ | refine Wc.seq ?_ | refine Wc.region ?_ | refine Wc.block ?_ | refine Wc.skip ?_ | refine Wc.exit ?_ | refine Wc.ret ?_ | refine Qseq.exit ?_ | refine Qblk.hit ?_ | refine Qloop.exit ?_ | refine Wc.condT rfl ?_ | refine Wc.condF rfl ?_ | refine Wl.fieldAddr rfl rfl ?_ | refine Wl.lss rfl rfl (fun _ => ?_) (fun _ => ?_)))
  · obtain ⟨p, hp⟩ := get_lt l (k := i) (by omega)
    refine Wl.load1 rfl (b2.cell (o := 2) rfl) ?_
    (repeat' (refine Wl.moveE (by conv => { lhs; whnf }) ?_))
    refine Wl.idxAddr h2 rfl rfl (by omega) hp fun b o cs hl hR hat => ?_
    obtain rfl : cs = pC p := hR
    (repeat' (refine Wl.fieldAddr rfl rfl ?_))
    refine Wl.load1 rfl (hat.get 0 rfl) ?_
    (repeat' (first | refine Wl.moveE (by conv => { lhs; whnf }) ?_ | refine Wl.assignE (by conv => { lhs; whnf }) ?_ | refine Wl.nil ?_ | refine Qseq.normal ?_ | refine Wc.seq ?_ | refine Wc.region ?_ | refine Wc.skip ?_ | refine Qblk.normal ?_ | refine Wc.condT rfl ?_ | refine Wc.condF rfl ?_ | refine Wl.fieldAddr rfl rfl ?_ | refine Wl.add rfl rfl (by omega) (by omega) ?_ | refine Wl.seql rfl rfl (fun _ => ?_) (fun _ => ?_)))
    · refine Wl.load1 rfl (b2.cell (o := 2) rfl) ?_
      (repeat' (refine Wl.moveE (by conv => { lhs; whnf }) ?_))
      refine Wl.idxAddr h2 rfl rfl (by omega) hp fun b o cs hl hR hat => ?_
      obtain rfl : cs = pC p := hR
      (repeat' (refine Wl.fieldAddr rfl rfl ?_))
      refine Wl.load1 rfl (hat.get 1 rfl) ?_
      (repeat' (first | refine Wl.assignE (by conv => { lhs; whnf }) ?_ | refine Wl.nil ?_ | refine Qseq.normal ?_ | refine Wc.ret ?_ | refine Qseq.ret ?_ | refine Qblk.ret ?_ | refine Qloop.ret ?_))
      refine Qfn.ret2 rfl rfl rfl ⟨_, rfl, ?_, n02⟩
      have e : p.1 = s := by assumption
      rw [val_take hall, drop_cons hp]
      unfold val
      rw [List.find?_cons, decide_eq_true e]; rfl
    · refine Qloop.normal (i + 1) ⟨rfl, rfl, rfl, trivial⟩ ⟨by omega, fun q hq => ?_, n2⟩ (by omega)
      have e : p.1 ≠ s := by assumption
      rw [take_snoc hp] at hq
      rcases List.mem_append.1 hq with hq | hq
      · exact hall q hq
      · simp at hq; subst hq; exact e
  · have e : i = l.length := by omega
    subst e
    refine Qfn.ret2 rfl rfl rfl ⟨_, rfl, ?_, n02⟩
    rw [val_take hall, List.drop_length]; rfl
def fullP (p : Pc) (i : Nat) : List UInt8 := if p.target = [47] then pathS (nmsOf p.nodes i) else if pathS (nmsOf p.nodes i) = [47] then p.target else p.target ++ pathS (nmsOf p.nodes i)
def hasV (p : Pc) (prop : List UInt8) (i : Nat) : Bool := match p.nodes[i]? with | some x => (val x.props prop).isSome | none => false
def namesB (p : Pc) (path prop : List UInt8) : Bool := (decide (path = p.target) && p.drop.contains prop) || (List.range p.nodes.length).any fun i => decide (fullP p i = path) && hasV p prop i
set_option maxHeartbeats 1000000 in
set_option maxRecDepth 4000 in
theorem names_spec {Pb : Nat → Prop} {w : World} {nv dv : Value} {p : Pc} {path prop : List UInt8} (ht : treeOk p.nodes = true) (hn : RdS rNd 3 Pb w nv p.nodes) (hd : RdS (one vs) 1 Pb w dv p.drop) (hs : p.target.length ≤ 2000000) :
    Calls Tryd.prog 25 #[.agg #[vs p.target, nv, dv], vs path, vs prop] w (Ret fun r w' => r = .bool (namesB p path prop) ∧ New w w') := by
  obtain ⟨na, nc, rfl, hnc1, hnc2⟩ := hn.form
  obtain ⟨da, dc, rfl, hdc1, hdc2⟩ := hd.form
  simp only [maxLen] at hdc2
  have htl := treeOk_len ht
  have hnm : namesB p path prop = ((decide (path = p.target) && p.drop.contains prop) || (List.range p.nodes.length).any fun i => decide (fullP p i = path) && hasV p prop i) := rfl
  refine calls_of_Wc Tryd.func25 rfl Tryd.ntmps25 rfl ?_
  refine Wc.seq ?_
  refine Wc.region ?_
  refine Wl.box rfl fun w1 b1 n1 s1 => ?_
  replace b1 : Bk w1 w.heap.size 25 [vs p.target, .slice na p.nodes.length nc, .slice da p.drop.length dc] := b1
  refine Wl.assignE (v := .bool false) rfl ?_
  refine Wl.nil ?_
  refine Qseq.normal ?_
  refine Wc.cutR (fun F w2 => agrees F [(1, vs path), (2, vs prop), (3, ptrV w.heap.size)] ∧ New w1 w2 ∧ (decide (path = p.target) && p.drop.contains prop) = false) ?_ ?_
  · (repeat' (first | refine Wl.moveE (by conv => { lhs; whnf }) ?_ | refine Wc.seq ?_ | refine Wc.region ?_ | refine Wl.fieldAddr rfl rfl ?_))
    refine Wl.load1 rfl (b1.cell (o := 0) rfl) ?_
    (repeat' (first | refine Wl.assignE (by conv => { lhs; whnf }) ?_ | refine Wl.nil ?_ | refine Qseq.normal ?_ | refine Wc.seq ?_ | refine Wc.region ?_ | refine Wc.block ?_ | refine Wc.skip ?_ | refine Wc.condT rfl ?_ | refine Wc.condF rfl ?_ | refine Wl.seql rfl rfl (fun _ => ?_) (fun _ => ?_)))
    · have hpt : path = p.target := by assumption
      refine Wc.loop (σ := Nat) (fun i => [(1, vs path), (2, vs prop), (3, ptrV w.heap.size), (7, vi i)]) (fun i w' => i ≤ p.drop.length ∧ (∀ x ∈ p.drop.take i, x ≠ prop) ∧ New w1 w') (fun i => p.drop.length - i) 0 ⟨rfl, rfl, rfl, rfl, trivial⟩ ⟨Nat.zero_le _, by simp, Chg.refl _ _⟩ ?_
      rintro i G w2 ⟨hi, hall, n2⟩
      have b2 := b1.chg n2 id
      simp only [upds]
      (repeat' (first | refine Wl.moveE (by conv => { lhs; whnf }) ?_ | refine Wc.seq ?_ | refine Wc.region ?_ | refine Wl.fieldAddr rfl rfl ?_))
      refine Wl.load1 rfl (b2.cell (o := 2) rfl) ?_
      (repeat' (first | refine Wl.nil ?_ | refine Wl.lenS rfl ?_ | refine Qseq.normal ?_ | refine Wc.seq ?_ | refine Wc.region ?_ | refine Wc.block ?_ | refine Wc.skip ?_ | refine Wc.exit ?_ | refine Qseq.exit ?_ | refine Qblk.hit ?_ | refine Qloop.exit ?_ | refine Wc.condT rfl ?_ | refine Wc.condF rfl ?_ | refine Wl.fieldAddr rfl rfl ?_ | refine Wl.lss rfl rfl (fun _ => ?_) (fun _ => ?_)))
      · obtain ⟨x, hx⟩ := get_lt p.drop (k := i) (by omega)
        refine Wl.load1 rfl (b2.cell (o := 2) rfl) ?_
        (repeat' (refine Wl.moveE (by conv => { lhs; whnf }) ?_))
        refine Wl.idxAddrV (hd.keep (stable_one _) (New.trans n1 n2).keep) rfl rfl (by omega) hx fun b o hc => ?_
        refine Wl.load1 rfl hc ?_
        (repeat' (first | refine Wl.moveE (by conv => { lhs; whnf }) ?_ | refine Wl.assignE (by conv => { lhs; whnf }) ?_ | refine Wl.nil ?_ | refine Qseq.normal ?_ | refine Wc.seq ?_ | refine Wc.region ?_ | refine Wc.skip ?_ | refine Wc.ret ?_ | refine Qseq.ret ?_ | refine Qblk.normal ?_ | refine Qblk.ret ?_ | refine Qloop.ret ?_ | refine Wc.condT rfl ?_ | refine Wc.condF rfl ?_ | refine Qm.ret ?_ | refine Wl.add rfl rfl (by omega) (by omega) ?_ | refine Wl.seql rfl rfl (fun _ => ?_) (fun _ => ?_)))
        · have e : x = prop := by assumption
          refine Qfn.ret1 rfl rfl ⟨_, rfl, ?_, New.trans n1 n2⟩
          rw [hnm, decide_eq_true hpt, List.contains_iff_mem.2 (e ▸ List.mem_of_getElem? hx)]; rfl
        · have e : x ≠ prop := by assumption
          refine Qloop.normal (i + 1) ⟨rfl, rfl, rfl, rfl, trivial⟩ ⟨by omega, fun y hy => ?_, n2⟩ (by omega)
          rw [take_snoc hx] at hy
          rcases List.mem_append.1 hy with hy | hy
          · exact hall y hy
          · simp at hy; subst hy; exact e
      · have e : i = p.drop.length := by omega
        subst e
        rw [List.take_length] at hall
        refine Qm.normal ⟨⟨rfl, rfl, rfl, trivial⟩, n2, ?_⟩
        have : p.drop.contains prop = false := by
          rw [Bool.eq_false_iff]; intro hc; exact hall prop (List.contains_iff_mem.1 hc) rfl
        rw [this, Bool.and_false]
    · have hpt : path ≠ p.target := by assumption
      refine Qm.normal ⟨⟨rfl, rfl, rfl, trivial⟩, Chg.refl _ _, ?_⟩
      rw [decide_eq_false hpt, Bool.false_and]
  · rintro F2 w2 ⟨hag, n2, hfirst⟩
    rw [← upds_of_agrees hag]
    simp only [upds]
    rw [hfirst, Bool.false_or] at hnm
    (repeat' (first | refine Wl.assignE (by conv => { lhs; whnf }) ?_ | refine Wl.nil ?_ | refine Qseq.normal ?_ | refine Wc.seq ?_ | refine Wc.region ?_ | refine Wc.block ?_))
    refine Wc.loop (σ := Nat) (fun i => [(1, vs path), (2, vs prop), (3, ptrV w.heap.size), (8, vi i)]) (fun i w' => i ≤ p.nodes.length ∧ (∀ j, j < i → (decide (fullP p j = path) && hasV p prop j) = false) ∧ New w1 w') (fun i => p.nodes.length - i) 0 ⟨rfl, rfl, rfl, rfl, trivial⟩ ⟨Nat.zero_le _, fun j hj => by omega, n2⟩ ?_
    rintro i G w3 ⟨hi, hall, n3⟩
    have b3 := b1.chg n3 id
    simp only [upds]
    (repeat' (first | refine Wl.moveE (by conv => { lhs; whnf }) ?_ | refine Wc.seq ?_ | refine Wc.region ?_ | refine Wl.fieldAddr rfl rfl ?_))
    refine Wl.load1 rfl (b3.cell (o := 1) rfl) ?_
    (repeat' (first | refine Wl.assignE (by conv => { lhs; whnf }) ?_ | refine Wl.nil ?_ | refine Wl.lenS rfl ?_ | refine Qseq.normal ?_ | refine Wc.seq ?_ | refine Wc.region ?_ | refine Wc.block ?_ | refine Wc.skip ?_ | refine Wc.exit ?_ | refine Wc.ret ?_ | refine Qseq.exit ?_ | refine Qblk.hit ?_ | refine Qloop.exit ?_ | refine Wc.condT rfl ?_ | refine Wc.condF rfl ?_ | refine Wl.fieldAddr rfl rfl ?_ | refine Wl.lss rfl rfl (fun _ => ?_) (fun _ => ?_)))
    · obtain ⟨x, hx⟩ := get_lt p.nodes (k := i) (by omega)
      have hpl := pathOf_len ht (i := i) (by omega)
      refine Wl.load1 rfl (b3.cell (o := 1) rfl) ?_
      (repeat' (refine Wl.moveE (by conv => { lhs; whnf }) ?_))
      refine Wl.call (Path_spec ht i (by omega) w3 (hn.keep stableNd (New.trans n1 n3).keep)) rfl ?_
      rintro _ w4 ⟨rfl, n4⟩
      replace n4 := New.trans n3 n4
      have b4 := b1.chg n4 id
      (repeat' (first | refine Wl.assignE (by conv => { lhs; whnf }) ?_ | refine Wl.nil ?_ | refine Qseq.normal ?_ | refine Wc.seq ?_ | refine Wc.region ?_ | refine Wl.fieldAddr rfl rfl ?_))
      refine Wl.load1 rfl (b4.cell (o := 0) rfl) ?_
      (repeat' (refine Wl.moveE (by conv => { lhs; whnf }) ?_))
      refine Wl.sadd rfl rfl (by omega) ?_
      refine Wl.assignE rfl ?_
      refine Wl.nil ?_
      refine Qseq.normal ?_
      refine Wc.cutR (fun F w5 => agrees F [(1, vs path), (2, vs prop), (3, ptrV w.heap.size), (8, vi i), (10, vs (fullP p i))] ∧ w5 = w4) ?_ ?_
      · (repeat' (first | refine Wc.seq ?_ | refine Wc.region ?_ | refine Wl.fieldAddr rfl rfl ?_))
        refine Wl.load1 rfl (b4.cell (o := 0) rfl) ?_
        have hfp : fullP p i = if p.target = [47] then pathS (nmsOf p.nodes i) else if pathS (nmsOf p.nodes i) = [47] then p.target else p.target ++ pathS (nmsOf p.nodes i) := rfl
        (repeat' (first | refine Wl.moveE (by conv => { lhs; whnf }) ?_ | refine Wl.assignE (by conv => { lhs; whnf }) ?_ | refine Wl.nil ?_ | refine Qseq.normal ?_ | refine Wc.seq ?_ | refine Wc.region ?_ | refine Wc.skip ?_ | refine Wc.condT rfl ?_ | refine Wc.condF rfl ?_ | refine Wl.fieldAddr rfl rfl ?_ | refine Wl.seql rfl rfl (fun _ => ?_) (fun _ => ?_)))
        · rw [if_pos (by assumption)] at hfp
          exact Qm.normal ⟨⟨rfl, rfl, rfl, rfl, by rw [hfp]; rfl, trivial⟩, rfl⟩
        · rw [if_neg (by assumption), if_pos (by assumption)] at hfp
          refine Wl.load1 rfl (b4.cell (o := 0) rfl) ?_
          (repeat' (first | refine Wl.assignE (by conv => { lhs; whnf }) ?_ | refine Wl.nil ?_))
          exact Qm.normal ⟨⟨rfl, rfl, rfl, rfl, by rw [hfp]; rfl, trivial⟩, rfl⟩
        · rw [if_neg (by assumption), if_neg (by assumption)] at hfp
          exact Qm.normal ⟨⟨rfl, rfl, rfl, rfl, by rw [hfp]; rfl, trivial⟩, rfl⟩
      · rintro F5 w5 ⟨hag5, rfl⟩
        rw [← upds_of_agrees hag5]
        simp only [upds]
        generalize hfp : fullP p i = fp
        (repeat' (first | refine Wc.seq ?_ | refine Wc.region ?_ | refine Wl.fieldAddr rfl rfl ?_))
        refine Wl.load1 rfl (b4.cell (o := 1) rfl) ?_
        (repeat' (refine Wl.moveE (by conv => { lhs; whnf }) ?_))
        refine Wl.idxAddr (hn.keep stableNd (New.trans n1 n4).keep) rfl rfl (by omega) hx fun b o cs hl hR hat => ?_
        obtain ⟨xpv, rfl, hxpr⟩ := hR
        refine Wl.loadAt hat rfl rfl ?_
        (repeat' (refine Wl.moveE (by conv => { lhs; whnf }) ?_))
        refine Wl.call (value_spec hxpr) rfl ?_
        rintro _ w6 ⟨rfl, n6⟩
        replace n6 := New.trans n4 n6
        have hv : hasV p prop i = (val x.props prop).isSome := by unfold hasV; rw [hx]
        cases hval : val x.props prop with
        | none =>
          rw [hval] at hv
          (repeat' (first | refine Wl.moveE (by conv => { lhs; whnf }) ?_ | refine Wl.assignE (by conv => { lhs; whnf }) ?_ | refine Wl.nil ?_ | refine Wl.extract rfl rfl ?_ | refine Wl.guardY rfl rfl ?_ | refine Wl.guardN rfl rfl ?_ | refine Wl.pickTE rfl (by conv => { lhs; whnf }) ?_ | refine Wl.pickFE rfl (by conv => { lhs; whnf }) ?_ | refine Qseq.normal ?_ | refine Wc.seq ?_ | refine Wc.region ?_ | refine Wc.skip ?_ | refine Qblk.normal ?_ | refine Wc.condF rfl ?_ | refine Wl.add rfl rfl (by omega) (by omega) ?_ | refine Wl.seql rfl rfl (fun _ => ?_) (fun _ => ?_)))
          all_goals
            refine Qloop.normal (i + 1) ⟨rfl, rfl, rfl, rfl, trivial⟩ ⟨by omega, fun j hj => ?_, n6⟩ (by omega)
            rcases Nat.lt_succ_iff_lt_or_eq.1 hj with h | rfl
            · exact hall j h
            · rw [hv]; simp
        | some u =>
          rw [hval] at hv
          (repeat' (first | refine Wl.moveE (by conv => { lhs; whnf }) ?_ | refine Wl.assignE (by conv => { lhs; whnf }) ?_ | refine Wl.nil ?_ | refine Wl.extract rfl rfl ?_ | refine Wl.guardY rfl rfl ?_ | refine Wl.guardN rfl rfl ?_ | refine Wl.pickTE rfl (by conv => { lhs; whnf }) ?_ | refine Wl.pickFE rfl (by conv => { lhs; whnf }) ?_ | refine Qseq.normal ?_ | refine Wc.seq ?_ | refine Wc.region ?_ | refine Wc.skip ?_ | refine Wc.ret ?_ | refine Qseq.ret ?_ | refine Qblk.normal ?_ | refine Qblk.ret ?_ | refine Qloop.ret ?_ | refine Wc.condT rfl ?_ | refine Wc.condF rfl ?_ | refine Wl.add rfl rfl (by omega) (by omega) ?_ | refine Wl.seql rfl rfl (fun _ => ?_) (fun _ => ?_)))
          · refine Qfn.ret1 rfl rfl ⟨_, rfl, ?_, New.trans n1 n6⟩
            show Value.bool true = Value.bool _
            rw [hnm, List.any_eq_true.2 ⟨i, List.mem_range.2 (List.getElem?_eq_some_iff.1 hx).1, by rw [hv, hfp, decide_eq_true (by assumption)]; rfl⟩]
          · refine Qloop.normal (i + 1) ⟨rfl, rfl, rfl, rfl, trivial⟩ ⟨by omega, fun j hj => ?_, n6⟩ (by omega)
            rcases Nat.lt_succ_iff_lt_or_eq.1 hj with h | rfl
            · exact hall j h
            · rw [hfp, decide_eq_false (by assumption), Bool.false_and]
    · have e : i = p.nodes.length := by omega
      subst e
      refine Qfn.ret1 rfl rfl ⟨_, rfl, ?_, New.trans n1 n3⟩
      show Value.bool false = Value.bool _
      rw [hnm, List.any_eq_false.2 fun j hj => by rw [hall j (List.mem_range.1 hj)]; simp]
end Go.Proofs.YtjpebmgllfiloaaDoor

namespace Go.Proofs.YtjpebmgllfiloaaDoor
open Go Wk

theorem join_split : ∀ l : List UInt8, (splitR 47 l).flatMap (fun n => 47 :: n) = 47 :: l
  | [] => rfl
  | b :: l => by
    have ih := join_split l
    rw [splitR]
    split
    · rename_i hb
      subst hb
      rw [List.flatMap_cons, ih]; rfl
    · split
      · rename_i h t e
        rw [e, List.flatMap_cons] at ih
        rw [List.flatMap_cons]
        simp only [List.cons_append, List.cons.injEq, true_and] at ih ⊢
        exact ih
      · rename_i e
        exact absurd e (splitR_ne 47 l)
theorem pathN_S {s : List UInt8} {nms : List Nm} (h : pathN s = some nms) : s = pathS nms := by
  unfold pathN at h
  split at h
  · rename_i hp
    have hs : s = 47 :: Lib.trimPrefix s [47] := by
      unfold Lib.trimPrefix
      rw [if_pos hp]
      unfold Lib.hasPrefix at hp
      have := List.isPrefixOf_iff_prefix.1 hp
      obtain ⟨r, rfl⟩ := this
      simp
    split at h
    · rename_i he
      cases h
      rw [hs, he]; rfl
    · rename_i he
      cases h
      unfold pathS
      rw [if_neg (splitR_ne 47 _), join_split]; exact hs
  · cases h
theorem nms_inj {t : List Nd} (ht : treeOk t = true) {j k : Nat} (hj : j < t.length) (hk : k < t.length) (h : pathS (nmsOf t j) = pathS (nmsOf t k)) : j = k := by
  have h2 := pathS_inj (fun n hn => (nmsOf_good ht j n hn).1) (fun n hn => (nmsOf_good ht k n hn).1) h
  obtain ⟨τ, rfl, hτ⟩ := treeOk_parse ht
  rw [flT_length] at hj hk
  obtain ⟨σ, h3⟩ := atP_nms hτ j hj
  obtain ⟨ρ, h4⟩ := atP_nms hτ k hk
  rw [h2, h4] at h3
  simp only [Option.some.injEq, Prod.mk.injEq] at h3
  exact h3.2.symm
theorem gp_of_nms {τ : T} (hτ : okTree τ = true) {i : Nat} {x : Nd} (hx : (flT τ (-1) 0)[i]? = some x) : gp (nmsOf (flT τ (-1) 0) i) τ = some x.props := by
  have hi := (List.getElem?_eq_some_iff.1 hx).1
  rw [flT_length] at hi
  obtain ⟨σ, h⟩ := atP_nms hτ i hi
  obtain ⟨_, _, up, h2⟩ := nms_atP hτ h
  rw [hx] at h2
  cases h2
  exact gp_some h
theorem nms_of_gp {τ : T} (hτ : okTree τ = true) {ν : List Nm} {ps : List Pr} (h : gp ν τ = some ps) : ∃ k x, (flT τ (-1) 0)[k]? = some x ∧ nmsOf (flT τ (-1) 0) k = ν ∧ x.props = ps := by
  rw [← gp_at (b := 0)] at h
  cases ha : atP ν τ 0 with
  | none => rw [ha] at h; cases h
  | some q =>
    rw [ha] at h
    obtain ⟨σ, k⟩ := q
    cases h
    obtain ⟨h1, _, up, h2⟩ := nms_atP hτ ha
    exact ⟨k, _, h2, h1, rfl⟩
theorem gp_drop {D : List Nm} {σ : T} {μ : List Nm} : gp μ (dropT D σ) = if μ = [] then some (dropPr D σ.props) else gp μ σ := by
  cases σ
  cases μ with
  | nil => rfl
  | cons _ _ => rfl
theorem updP_id : ∀ (nms : List Nm) (τ : T), updP (fun x => x) nms τ = τ
  | [], τ => rfl
  | nm :: r, .mk n p ks => by
    simp only [updP]
    congr 1
    induction ks with
    | nil => rfl
    | cons k ks ih =>
      rw [updK]
      split
      · rw [updP_id r k]
      · rw [ih]
/-- A laid tree, taken apart. -/
structure Laid (t u : List Nd) (p : Pc) (τ π σ : T) (nms : List Nm) (i0 : Nat) : Prop where
  t : t = flT τ (-1) 0
  ot : okTree τ = true
  n : p.nodes = flT π (-1) 0
  on : okTree π = true
  tg : p.target = pathS nms
  at' : atP nms τ 0 = some (σ, i0)
  u : u = flT (layO p.drop nms π τ) (-1) 0
  ou : okTree (layO p.drop nms π τ) = true
  pk : pieceOk p = true
theorem laid_of {t u : List Nd} {p : Pc} (h : layM t p = (u, 0)) : ∃ τ π σ nms i0, Laid t u p τ π σ nms i0 := by
  have h0 := h
  unfold layM at h0
  split at h0
  · rename_i ht
    split at h0
    · rename_i hp
      clear h0
      obtain ⟨τ, rfl, hτ⟩ := treeOk_parse ht
      obtain ⟨π, hπ, hπo⟩ := treeOk_parse (pieceOk_nodes hp)
      rw [layM_T hp hπ hτ] at h
      cases hn : pathN p.target with
      | none => rw [hn] at h; simp at h
      | some nms =>
        rw [hn] at h
        simp only [Option.bind_some] at h
        cases ha : atP nms τ 0 with
        | none => rw [ha] at h; simp at h
        | some q =>
          obtain ⟨σ, i0⟩ := q
          rw [ha] at h
          simp only [Option.map_some] at h
          split at h
          · rename_i ho
            simp only [Prod.mk.injEq, and_true] at h
            exact ⟨τ, π, σ, nms, i0, rfl, hτ, hπ, hπo, pathN_S hn, ha, h.symm, ho, hp⟩
          · simp at h
    · simp at h0
  · simp at h0
section
variable {t u : List Nd} {p : Pc} {τ π σ : T} {nms : List Nm} {i0 : Nat}
theorem lay_gname {D : List Nm} (t : T) : (layT π (dropT D t)).name = t.name := by rw [layT_name]; cases t; rfl
theorem Laid.good (h : Laid t u p τ π σ nms i0) : ∀ n ∈ nms, GoodN n := by
  have h1 := (nms_atP h.ot h.at').1
  intro n hn
  rw [← h1] at hn
  exact (nmsOf_good (by rw [treeOk_flT]; exact h.ot) i0 n hn).1
theorem okT_of (h : okTree τ = true) : okT 1 τ = true := by unfold okTree at h; simp only [Bool.and_eq_true] at h; exact h.2.2
theorem Laid.full (h : Laid t u p τ π σ nms i0) {j : Nat} : fullP p j = pathS (nms ++ nmsOf p.nodes j) := by
  have hg := h.good
  have hm : ∀ n ∈ nmsOf p.nodes j, GoodN n := fun n hn => (nmsOf_good (pieceOk_nodes h.pk) j n hn).1
  unfold fullP
  rw [h.tg]
  split
  · rename_i e
    have : nms = [] := pathS_inj hg (by simp) (by rw [e]; rfl)
    rw [this, List.nil_append]
  · rename_i e
    split
    · rename_i e2
      have : nmsOf p.nodes j = [] := pathS_inj hm (by simp) (by rw [e2]; rfl)
      rw [this, List.append_nil]
    · rename_i e2
      have h1 : nms ≠ [] := fun e' => e (by rw [e']; rfl)
      have h2 : nmsOf p.nodes j ≠ [] := fun e' => e2 (by rw [e']; rfl)
      unfold pathS
      rw [if_neg h1, if_neg h2, if_neg (by simp [h1]), List.flatMap_append]
theorem Laid.names (h : Laid t u p τ π σ nms i0) {ν : List Nm} (hν : ∀ n ∈ ν, GoodN n) {q : Nm} : namesB p (pathS ν) q = true ↔ (ν = nms ∧ q ∈ p.drop) ∨ ∃ μ qs, ν = nms ++ μ ∧ gp μ π = some qs ∧ (val qs q).isSome = true := by
  have hg := h.good
  unfold namesB
  rw [Bool.or_eq_true, Bool.and_eq_true, decide_eq_true_eq, List.contains_iff_mem, List.any_eq_true]
  constructor
  · rintro (⟨h1, h2⟩ | ⟨j, hj, h1⟩)
    · rw [h.tg] at h1
      exact .inl ⟨pathS_inj hν hg h1, h2⟩
    · rw [Bool.and_eq_true, decide_eq_true_eq, h.full] at h1
      have hm : ∀ n ∈ nms ++ nmsOf p.nodes j, GoodN n := fun n hn => by
        rcases List.mem_append.1 hn with hn | hn
        · exact hg n hn
        · exact (nmsOf_good (pieceOk_nodes h.pk) j n hn).1
      have h2 := pathS_inj hm hν h1.1
      obtain ⟨x, hx⟩ := get_lt p.nodes (List.mem_range.1 hj)
      have h3 := h1.2
      unfold hasV at h3
      rw [hx] at h3
      rw [h.n] at hx h2
      exact .inr ⟨_, _, h2.symm, gp_of_nms h.on hx, h3⟩
  · rintro (⟨h1, h2⟩ | ⟨μ, qs, h1, h2, h3⟩)
    · exact .inl ⟨by rw [h1, h.tg], h2⟩
    · obtain ⟨k, x, hx, hk, hps⟩ := nms_of_gp h.on h2
      rw [← h.n] at hx hk
      refine .inr ⟨k, List.mem_range.2 (List.getElem?_eq_some_iff.1 hx).1, ?_⟩
      rw [h.full, hk, ← h1]
      unfold hasV
      rw [hx]
      dsimp only
      rw [hps, h3, decide_eq_true rfl]; rfl
theorem pieceOk_drop (h : pieceOk p = true) {x : Nd} (hx : p.nodes[0]? = some x) : ∀ d ∈ p.drop, val x.props d = none := by
  unfold pieceOk at h
  simp only [Bool.and_eq_true] at h
  have h2 := h.2.2
  cases hn : p.nodes with
  | nil => rw [hn] at hx; cases hx
  | cons y r =>
    rw [hn] at h2 hx
    simp at hx
    subst hx
    dsimp only at h2
    have key : ∀ (l : List Nm) (seen : List Nm), dropGo y.props seen l = true → ∀ d ∈ l, val y.props d = none := by
      intro l
      induction l with
      | nil => intro seen _ d hd; simp at hd
      | cons s r ih =>
        intro seen h d hd
        simp only [dropGo, Bool.and_eq_true, Bool.not_eq_true'] at h
        rcases List.mem_cons.1 hd with rfl | hd
        · refine val_none.2 fun q hq e => ?_
          have := List.any_eq_false.1 h.2.2.1 q hq
          simp [e] at this
        · exact ih _ h.2.2.2 d hd
    exact key p.drop [] h2
/-- The props at a path of the laid tree. -/
theorem Laid.gp (h : Laid t u p τ π σ nms i0) {ν : List Nm} {ps : List Pr} (hν : Go.Proofs.YtjpebmgllfiloaaDoor.gp ν τ = some ps) (hgν : ∀ n ∈ ν, GoodN n) : ∃ ps', Go.Proofs.YtjpebmgllfiloaaDoor.gp ν (layO p.drop nms π τ) = some ps' ∧ ∀ q, namesB p (pathS ν) q = false → val ps' q = val ps q := by
  have hup := gp_upd (g := fun σ => layT π (dropT p.drop σ)) lay_gname (ν := ν) h.at'
  unfold layO
  by_cases hpre : ∃ μ, ν = nms ++ μ
  · obtain ⟨μ, rfl⟩ := hpre
    rw [hup.1 μ rfl, gp_lay (okT_of h.on), gp_drop]
    have hs : Go.Proofs.YtjpebmgllfiloaaDoor.gp (nms ++ μ) τ = Go.Proofs.YtjpebmgllfiloaaDoor.gp μ σ := by
      have := (gp_upd (g := fun x => x) (fun _ => rfl) (ν := nms ++ μ) h.at').1 μ rfl
      rw [updP_id] at this
      exact this
    rw [hs] at hν
    have hb : ∃ b, (if μ = [] then some (dropPr p.drop σ.props) else Go.Proofs.YtjpebmgllfiloaaDoor.gp μ σ) = some b ∧ ∀ q, (μ = [] → q ∉ p.drop) → val b q = val ps q := by
      split
      · rename_i e
        subst e
        have : σ.props = ps := Option.some.inj hν
        subst this
        refine ⟨_, rfl, fun q hq => ?_⟩
        rw [val_drop, if_neg (fun hc => hq rfl (List.contains_iff_mem.1 hc))]
      · exact ⟨ps, hν, fun _ _ => rfl⟩
    obtain ⟨b, hb1, hb2⟩ := hb
    rw [hb1]
    have hnm : ∀ q, namesB p (pathS (nms ++ μ)) q = false → (μ = [] → q ∉ p.drop) := fun q hq e hd => by
      subst e
      rw [(h.names (by simpa using hgν)).2 (.inl ⟨by simp, hd⟩)] at hq
      cases hq
    cases hπ : Go.Proofs.YtjpebmgllfiloaaDoor.gp μ π with
    | none => exact ⟨b, rfl, fun q hq => hb2 q (hnm q hq)⟩
    | some qs =>
      refine ⟨_, rfl, fun q hq => ?_⟩
      obtain ⟨k, x, hx, _, hps⟩ := nms_of_gp h.on hπ
      have hnd := propsOk_nodup (treeOk_nd (by rw [treeOk_flT]; exact h.on) hx).pr
      rw [hps] at hnd
      rw [val_foldl qs _ q hnd]
      cases hv : val qs q with
      | none => exact hb2 q (hnm q hq)
      | some v =>
        rw [(h.names hgν).2 (.inr ⟨μ, qs, rfl, hπ, by rw [hv]; rfl⟩)] at hq
        cases hq
  · rw [hup.2 fun μ e => hpre ⟨μ, e⟩]
    exact ⟨ps, hν, fun _ _ => rfl⟩
end
/-- What the law asks of a laid tree. -/
structure LayF (t u : List Nd) (p : Pc) : Prop where
  tt : treeOk t = true
  tu : treeOk u = true
  tn : treeOk p.nodes = true
  len : t.length ≤ u.length
  node : ∀ i x, t[i]? = some x → ∃ k y, u[k]? = some y ∧ pathS (nmsOf u k) = pathS (nmsOf t i) ∧ ∀ q, namesB p (pathS (nmsOf t i)) q = false → val y.props q = val x.props q
  tgt : ∃ k y, u[k]? = some y ∧ pathS (nmsOf u k) = p.target ∧ (∀ d ∈ p.drop, val y.props d = none) ∧ ∀ x, p.nodes[0]? = some x → ∀ q ∈ x.props, val y.props q.1 = some q.2
theorem layF {t u : List Nd} {p : Pc} (h : layM t p = (u, 0)) : LayF t u p := by
  obtain ⟨τ, π, σ, nms, i0, L⟩ := laid_of h
  have ht : treeOk t = true := by rw [L.t, treeOk_flT]; exact L.ot
  have hu : treeOk u = true := by rw [L.u, treeOk_flT]; exact L.ou
  refine ⟨ht, hu, pieceOk_nodes L.pk, ?_, fun i x hx => ?_, ?_⟩
  · rw [L.t, L.u, flT_length, flT_length]
    unfold layO
    rw [updP_const L.at']
    have h1 := (szT_upd (σ' := layT π (dropT p.drop σ)) L.at').1
    have h2 := (layT_mono π (dropT p.drop σ)).1
    rw [szT_drop] at h2
    omega
  · have hg : ∀ n ∈ nmsOf t i, GoodN n := fun n hn => (nmsOf_good ht i n hn).1
    have hx' := hx
    rw [L.t] at hx' hg
    obtain ⟨ps', h1, h2⟩ := L.gp (gp_of_nms L.ot hx') hg
    obtain ⟨k, y, h3, h4, h5⟩ := nms_of_gp L.ou h1
    rw [← L.u] at h3 h4
    rw [← L.t] at h4 h2
    exact ⟨k, y, h3, by rw [h4], fun q hq => by rw [h5, h2 q hq]⟩
  · have hup := (gp_upd (g := fun σ => layT π (dropT p.drop σ)) lay_gname (ν := nms) L.at').1 [] (by simp)
    have hps : gp [] (layT π (dropT p.drop σ)) = some (π.props.foldl setPr (dropPr p.drop σ.props)) := by
      cases π; cases σ; rfl
    rw [hps] at hup
    obtain ⟨k, y, h3, h4, h5⟩ := nms_of_gp L.ou hup
    rw [← L.u] at h3 h4
    have hr := get_flT (l := flT π (-1) 0) (rest := []) (b := 0) (τ := π) (up := -1) (by simp)
    rw [← L.n] at hr
    have hnd := propsOk_nodup (treeOk_nd (pieceOk_nodes L.pk) hr).pr
    dsimp only at hnd
    refine ⟨k, y, h3, by rw [h4, L.tg], fun d hd => ?_, fun x hx q hq => ?_⟩
    · have := pieceOk_drop L.pk hr d hd
      dsimp only at this
      rw [h5, val_foldl _ _ _ hnd, this, val_drop, if_pos (List.contains_iff_mem.2 hd)]
    · rw [hr] at hx
      cases hx
      rw [h5, val_foldl _ _ _ hnd, val_mem hnd hq]
theorem layM_err {t : List Nd} {p : Pc} (h : (layM t p).2 ≠ 0) : (layM t p).1 = [] := by
  unfold layM at h ⊢
  by_cases h1 : treeOk t = true
  · rw [if_pos h1] at h ⊢
    by_cases h2 : pieceOk p = true
    · rw [if_pos h2] at h ⊢
      cases h3 : findM t p.target with
      | none => rfl
      | some i =>
        rw [h3] at h
        dsimp only at h ⊢
        generalize layG p.nodes p.nodes.length i 0 (dropG p.drop (knotsM t) i) (t.length : Int) = r at h ⊢
        obtain ⟨ok, G, c⟩ := r
        cases ok with
        | false => rfl
        | true =>
          dsimp only at h ⊢
          by_cases h5 : treeOk (flatG G G.length 0 (-1) []) = true
          · rw [if_pos h5] at h; exact absurd rfl h
          · rw [if_neg h5]
    · rw [if_neg h2]
  · rw [if_neg h1]
theorem layM_ok {t u : List Nd} {p : Pc} (h : layM t p = (u, 0)) : treeOk u = true := (layF h).tu
end Go.Proofs.YtjpebmgllfiloaaDoor

namespace Go.Proofs.YtjpebmgllfiloaaDoor.Wk
open Go Go.RowKit

section
variable {P : Program} {ops : Array Oper} {C : Nat → World → Prop} {Q : Exit → Act → World → Prop}
/-- Is the one bound ahead of the other? -/
def bd (ops : Array Oper) (i j : Nat) : Bool := (ahead ops ops.size [j]).contains i
def TSn (P : Program) (ops : Array Oper) (C : Nat → World → Prop) (Q : Exit → Act → World → Prop) : List Nat → Act → World → Prop
  | [], a, w => Q .normal a w
  | i :: l, a, w => if isQ ops i = true then (∃ o v, ops[i]? = some o ∧ YieldsIn P ops (C i) o v a ∧ TSn P ops C Q l (a.put o.dst v) w)
    else if i + 1 = ops.size then wpOp P ops Q i (fun a' w' => Q .normal a' w') a w else wpOp P ops QF i (fun a' w' => ((∀ k ∈ l, C k w') ∧ ∀ k, bd ops k i = false → C k w') ∧ TSn P ops C Q l a' w') a w
theorem TSn_quiet {j : Nat} {oj : Oper} {post : List Nat} (hj : ops[j]? = some oj) (hq : isQ ops j = true) : ∀ (pre : List Nat) (a : Act) (w : World), (∀ i ∈ pre, Free ops i j) → (∀ k ∈ pre ++ j :: post, C k w) → TSn P ops C Q (pre ++ j :: post) a w →
    ∃ v, YieldsIn P ops (C j) oj v a ∧ TSn P ops C Q (pre ++ post) (a.put oj.dst v) w
  | [], a, w, _, _, h => by
    rw [List.nil_append, TSn, if_pos hq] at h
    obtain ⟨o, v, ho, hy, ht⟩ := h
    rw [hj] at ho
    cases ho
    exact ⟨v, hy, ht⟩
  | i :: pre, a, w, hf, hC, h => by
    obtain ⟨⟨oi, oj', hi, hj', h1, h2, s1, s2⟩, _, hnl⟩ := hf i (by simp)
    rw [hj] at hj'
    cases hj'
    have hrj : readB oj.op = true := by unfold isQ at hq; rw [hj] at hq; exact hq
    obtain ⟨_, hne, _⟩ := Oper.apart_spec h1
    rw [List.cons_append, TSn] at h
    by_cases hqi : isQ ops i = true
    · rw [if_pos hqi] at h
      obtain ⟨o, vi, ho, hy, ht⟩ := h
      rw [hi] at ho
      cases ho
      obtain ⟨v, hyv, hts⟩ := TSn_quiet hj hq pre _ w (fun k hk => hf k (by simp [hk])) (fun k hk => hC k (by rw [List.cons_append]; exact List.mem_cons_of_mem _ hk)) ht
      refine ⟨v, (yields_unput h1 s2).1 hyv, ?_⟩
      rw [List.cons_append, TSn, if_pos hqi]
      refine ⟨oi, vi, hi, (yields_unput h2 s1).2 hy, ?_⟩
      rw [← Act.put_comm a vi v hne]
      exact hts
    · rw [if_neg hqi, if_neg hnl] at h
      obtain ⟨u, ds', w', ⟨hC', _⟩, ht'⟩ := wpOp_exists hi h
      obtain ⟨v, hyv, _⟩ := TSn_quiet hj hq pre _ w' (fun k hk => hf k (by simp [hk])) hC' ht'
      have hya := yields_wd.1 ((yields_unput h1 s2).1 hyv)
      have key : wpOp P ops QF i (fun a' w' => ((∀ k ∈ pre ++ post, C k w') ∧ ∀ k, bd ops k i = false → C k w') ∧ TSn P ops C Q (pre ++ post) a' w') (a.put oj.dst v) w := by
        refine wpOp_reput hi h2 s1 ?_ h
        rintro u' ds1 w1 ⟨⟨hC1, hB1⟩, ht1⟩
        obtain ⟨v1, hy1, hts1⟩ := TSn_quiet hj hq pre _ w1 (fun k hk => hf k (by simp [hk])) hC1 ht1
        have : v1 = v := yields_unique (hC1 j (by simp)) hrj (yields_wd.1 ((yields_unput h1 s2).1 hy1)) hya
        subst this
        refine ⟨⟨fun k hk => hC1 k (by rcases List.mem_append.1 hk with h | h <;> simp [h]), hB1⟩, ?_⟩
        rw [← Act.put_comm (wd a ds1) u' v1 hne]
        exact hts1
      refine ⟨v, hya, ?_⟩
      rw [List.cons_append, TSn, if_neg hqi, if_neg hnl]
      exact key
/-- An operation that may come up now may be taken first. -/
theorem TSn_first {j : Nat} {post : List Nat} (hjn : j < ops.size) : ∀ (pre : List Nat) (a : Act) (w : World), (∀ i ∈ pre, Free ops i j) → (∀ i ∈ pre ++ post, bd ops i j = false) → (isQ ops j = false → j + 1 = ops.size → pre = [] ∧ post = []) → (∀ k ∈ pre ++ j :: post, C k w) → TSn P ops C Q (pre ++ j :: post) a w →
    (isQ ops j = false ∧ pre ++ post = [] ∧ wpOp P ops Q j (fun a' w' => Q .normal a' w') a w) ∨ wpOp P ops QF j (fun a' w' => (∀ k ∈ pre ++ post, C k w') ∧ TSn P ops C Q (pre ++ post) a' w') a w := by
  intro pre a w hf hbd hlast hC h
  obtain ⟨oj, hj⟩ : ∃ oj, ops[j]? = some oj := ⟨ops[j], Array.getElem?_eq_getElem hjn⟩
  cases hq : isQ ops j with
  | true =>
    obtain ⟨v, hy, ht⟩ := TSn_quiet hj hq pre a w hf hC h
    have hrj : readB oj.op = true := by unfold isQ at hq; rw [hj] at hq; exact hq
    exact .inr (YieldsS.wpOp hj hy hrj (hC j (by simp)) ⟨fun k hk => hC k (by rcases List.mem_append.1 hk with h | h <;> simp [h]), ht⟩)
  | false =>
    have hl := hlast hq
    clear hlast
    by_cases hpost : j + 1 = ops.size
    · obtain ⟨rfl, rfl⟩ := hl hpost
      rw [List.nil_append, TSn, if_neg (by rw [hq]; simp), if_pos hpost] at h
      exact .inl ⟨rfl, rfl, h⟩
    · right
      clear hl
      have key : wpOp P ops QF j (fun a' w' => (∀ k, bd ops k j = false → C k w') ∧ TSn P ops C Q (pre ++ post) a' w') a w := by
        clear hC
        induction pre generalizing a with
        | nil =>
          rw [List.nil_append, TSn, if_neg (by rw [hq]; simp), if_neg hpost] at h
          exact wpOp_mono (fun a' w' h' => ⟨h'.1.2, h'.2⟩) h
        | cons i pre ih =>
          obtain ⟨⟨oi, oj', hi, hj', h1, h2, s1, s2⟩, hone, _⟩ := hf i (by simp)
          rw [hj] at hj'
          cases hj'
          have hqi : isQ ops i = true := by rcases hone with h | h; exact h; rw [hq] at h; cases h
          rw [List.cons_append, TSn, if_pos hqi] at h
          obtain ⟨o, vi, ho, hy, ht⟩ := h
          rw [hi] at ho
          cases ho
          have := ih _ (fun k hk => hf k (by simp [hk])) (fun k hk => hbd k (by rw [List.cons_append]; exact List.mem_cons_of_mem _ hk)) ht
          refine wpOp_mono (fun a' w' h' => ?_) (wpOp_put hj h1 s1 s2 hy this)
          obtain ⟨hy', hC', ht'⟩ := h'
          refine ⟨hC', ?_⟩
          rw [List.cons_append, TSn, if_pos hqi]
          exact ⟨oi, vi, hi, hy', ht'⟩
      exact wpOp_mono (fun a' w' h' => ⟨fun k hk => h'.1 k (hbd k hk), h'.2⟩) key

theorem wpAny_of_TSn (hok : okT ops = true) : ∀ (fuel : Nat) (listed : Array Bool) (a : Act) (w : World), listed.size = ops.size → (left ops listed).length = fuel → Clos ops listed → (∀ k ∈ left ops listed, C k w) → TSn P ops C Q (left ops listed) a w → wpAny P .any ops Q fuel listed a w := by
  simp only [okT, Bool.and_eq_true] at hok
  obtain ⟨⟨⟨hns, hpair⟩, hdown⟩, hlast⟩ := hok
  have hsel := Region.noSelect_spec hns
  have rdy : ∀ listed : Array Bool, listed.size = ops.size → ∀ i, i ∈ Region.ready .any ops listed → i ∈ left ops listed := by
    intro listed hs i hi
    obtain ⟨h0, o, ho, _⟩ := mem_ready.1 hi
    unfold left
    rw [List.mem_filter, List.mem_range]
    exact ⟨(Array.getElem?_eq_some_iff.1 ho).1, by simp [h0]⟩
  intro fuel
  induction fuel with
  | zero =>
    intro listed a w hs hl hcl hC h
    have hnil : left ops listed = [] := List.eq_nil_of_length_eq_zero hl
    rw [hnil] at h
    refine ⟨?_, h⟩
    rw [List.eq_nil_iff_forall_not_mem]
    intro i hi
    have := rdy listed hs i hi
    rw [hnil] at this
    cases this
  | succ fuel ih =>
    intro listed a w hs hl hcl hC h
    refine ⟨fun h0 => ?_, fun j hj => ?_⟩
    · exfalso
      cases hL : left ops listed with
      | nil => rw [hL] at hl; cases hl
      | cons i l =>
        have hmem : i ∈ left ops listed := by rw [hL]; simp
        have hmem' := hmem
        unfold left at hmem
        rw [List.mem_filter, List.mem_range] at hmem
        have hall : ∀ k, k < i → listed.getD k false = true := by
          intro k hk
          have hks : k < ops.size := by omega
          cases hb : listed.getD k true with
          | true => simpa [Array.getD_eq_getD_getElem?, hs, hks] using hb
          | false =>
            have hkm : k ∈ left ops listed := by unfold left; rw [List.mem_filter, List.mem_range]; exact ⟨hks, by simp [hb]⟩
            have hsort : (left ops listed).Pairwise (· < ·) := List.Pairwise.sublist List.filter_sublist List.pairwise_lt_range
            rw [hL] at hkm hsort
            rcases List.mem_cons.1 hkm with e | e
            · omega
            · have := (List.pairwise_cons.1 hsort).1 k e; omega
        have : i ∈ Region.ready .any ops listed := by
          refine mem_ready.2 ⟨by simpa using hmem.2, ops[i], Array.getElem?_eq_getElem hmem.1, fun e he hb => ?_⟩
          have h3 := List.all_eq_true.1 hdown i (List.mem_range.2 hmem.1)
          rw [Array.getElem?_eq_getElem hmem.1] at h3
          have h4 := Array.all_eq_true'.1 h3 e he
          rw [hb] at h4
          exact hall e.on (by simpa using h4)
        rw [h0] at this
        cases this
    · obtain ⟨pre, post, hL⟩ := List.append_of_mem (rdy listed hs j hj)
      rw [hL] at h hC
      obtain ⟨_, oj, hoj, _⟩ := mem_ready.1 hj
      have hjs : j < ops.size := (Array.getElem?_eq_some_iff.1 hoj).1
      have hnd : (left ops listed).Nodup := List.Nodup.sublist List.filter_sublist List.nodup_range
      have hsort : (left ops listed).Pairwise (· < ·) := List.Pairwise.sublist List.filter_sublist List.pairwise_lt_range
      have hunl : ∀ i ∈ left ops listed, i < ops.size ∧ listed.getD i true = false := fun i hi => by
        unfold left at hi
        rw [List.mem_filter, List.mem_range] at hi
        exact ⟨hi.1, by simpa using hi.2⟩
      have hbehind : ∀ k, k ∈ ahead ops ops.size [j] → k = j ∨ listed.getD k false = true := ahead_spec hcl hj _ _ (by simp)
      have hfree : ∀ i ∈ pre, Free ops i j := by
        intro i hi
        have him : i ∈ left ops listed := by rw [hL]; simp [hi]
        obtain ⟨his, hun⟩ := hunl i him
        have hij : i < j := by rw [hL] at hsort; exact (List.pairwise_append.1 hsort).2.2 i hi j (by simp)
        have h3 := List.all_eq_true.1 (List.all_eq_true.1 hpair j (List.mem_range.2 hjs)) i (List.mem_range.2 hij)
        unfold okPair at h3
        simp only [Bool.or_eq_true, Bool.and_eq_true, Array.getElem?_eq_getElem his, Array.getElem?_eq_getElem hjs] at h3
        rcases h3 with h3 | ⟨h3, h4, h5⟩
        · exfalso
          rcases hbehind i (by simpa using h3) with e | e
          · omega
          · simp [Array.getD_eq_getD_getElem?, hs, his] at hun e
            rw [hun] at e; cases e
        · exact ⟨⟨_, _, Array.getElem?_eq_getElem his, Array.getElem?_eq_getElem hjs, h4, h5, fun cs b => hsel i _ cs b (Array.getElem?_eq_getElem his), fun cs b => hsel j _ cs b (Array.getElem?_eq_getElem hjs)⟩, h3, by omega⟩
      have hlst : isQ ops j = false → j + 1 = ops.size → pre = [] ∧ post = [] := by
        intro hq hje
        have hj1 : ops.size - 1 = j := by omega
        rw [hj1, hq, Bool.false_or] at hlast
        have all : ∀ i ∈ left ops listed, i = j := fun i hi => by
          obtain ⟨his, hun⟩ := hunl i hi
          rcases hbehind i (by simpa using List.all_eq_true.1 hlast i (List.mem_range.2 his)) with e | e
          · exact e
          · simp [Array.getD_eq_getD_getElem?, hs, his] at hun e
            rw [hun] at e; cases e
        rw [hL] at all hnd
        have h' := List.nodup_append.1 hnd
        constructor
        · cases pre with
          | nil => rfl
          | cons i pre => exact absurd (all i (by simp)) (h'.2.2 i (by simp) j (by simp))
        · cases post with
          | nil => rfl
          | cons i post =>
            have := all i (by simp)
            subst this
            exact absurd (by simp) (List.nodup_cons.1 h'.2.1).1
      have hbd : ∀ i ∈ pre ++ post, bd ops i j = false := by
        intro i hi
        have him : i ∈ left ops listed := by rw [hL]; rcases List.mem_append.1 hi with h | h <;> simp [h]
        obtain ⟨his, hun⟩ := hunl i him
        cases hb : bd ops i j with
        | false => rfl
        | true =>
          exfalso
          unfold bd at hb
          rcases hbehind i (by simpa using hb) with e | e
          · subst e
            rw [hL] at hnd
            have h' := List.nodup_append.1 hnd
            rcases List.mem_append.1 hi with h | h
            · exact h'.2.2 i h i (by simp) rfl
            · exact (List.nodup_cons.1 h'.2.1).1 h
          · simp [Array.getD_eq_getD_getElem?, hs, his] at hun e
            rw [hun] at e; cases e
      have hset : left ops (listed.setIfInBounds j true) = pre ++ post := by rw [left_set hs hjs]; exact nodup_filter hnd hL
      have hlen : (pre ++ post).length = fuel := by have := hl; rw [hL] at this; simp at this ⊢; omega
      have hcl' := hcl.set hj
      rcases TSn_first hjs pre a w hfree hbd hlst hC h with ⟨_, he, hw⟩ | hw
      · refine wpOp_mono (fun a' w' h' => ih _ a' w' (by simpa using hs) (by rw [hset]; exact hlen) hcl' (fun k hk => ?_) ?_) hw
        · rw [hset, he] at hk; simp at hk
        · rw [hset, he]; exact h'
      · exact wpOp_of_QF (fun a' w' h' => ih _ a' w' (by simpa using hs) (by rw [hset]; exact hlen) hcl' (by rw [hset]; exact h'.1) (by rw [hset]; exact h'.2)) hw
end

section
variable {P : Program} {n : Nat} {ds : List Deferred} {Q : Po} {F : Fr} {ops : List Oper} {C : Nat → World → Prop} {w : World}
/-- The walk in the text's order; k: the place. -/
def Wu (P : Program) (n : Nat) (ds : List Deferred) (C : Nat → World → Prop) (Q : Po) (ops : List Oper) : Nat → List Oper → Fr → World → Prop
  | _, [], F, w => Q .normal F w
  | k, o :: l, F, w => if readB o.op = true then Wq P n ds (C k) (fun F' => Wu P n ds C Q ops (k + 1) l F' w) ops [o] F
    else if l.isEmpty = true then Wl P n ds Q ops [o] F w else Wl P n ds (fun e F' w' => e = .normal ∧ (∀ j, (k < j ∨ bd ops.toArray j k = false) → C j w') ∧ Wu P n ds C Q ops (k + 1) l F' w') ops [o] F w
theorem Wu.nil {k : Nat} (h : Q .normal F w) : Wu P n ds C Q ops k [] F w := h
theorem Wu.quiet {k : Nat} {o : Oper} {l : List Oper} (hr : readB o.op = true) (h : Wq P n ds (C k) (fun F' => Wu P n ds C Q ops (k + 1) l F' w) ops [o] F) : Wu P n ds C Q ops k (o :: l) F w := by
  unfold Wu; rw [if_pos hr]; exact h
theorem Wu.chain {k : Nat} {o o2 : Oper} {l : List Oper} (hr : readB o.op = false) (h : Wl P n ds (fun e F' w' => e = .normal ∧ (∀ j, (k < j ∨ bd ops.toArray j k = false) → C j w') ∧ Wu P n ds C Q ops (k + 1) (o2 :: l) F' w') ops [o] F w) : Wu P n ds C Q ops k (o :: o2 :: l) F w := by
  unfold Wu; rw [if_neg (by rw [hr]; simp), if_neg (by simp)]; exact h
theorem Wu.last {k : Nat} {o : Oper} (hr : readB o.op = false) (h : Wl P n ds Q ops [o] F w) : Wu P n ds C Q ops k [o] F w := by
  unfold Wu; rw [if_neg (by rw [hr]; simp), if_pos List.isEmpty_nil]; exact h
theorem TSn_of_Wu : ∀ (l : List Oper) (k : Nat) (F : Fr) (w : World), (∀ j, l[j]? = ops[k + j]?) → Wu P n ds C Q ops k l F w → TSn P ops.toArray C (QA n ds Q) ((List.range l.length).map (k + ·)) (act n ds F) w
  | [], k, F, w, _, h => ⟨F, rfl, h⟩
  | o :: l, k, F, w, hl, h => by
    have h0 : ops[k]? = some o := by simpa using (hl 0).symm
    have h0' : ops.toArray[k]? = some o := by simpa using h0
    have hl' : ∀ j, l[j]? = ops[k + 1 + j]? := fun j => by have := hl (j + 1); simpa [Nat.add_assoc, Nat.add_comm 1 j] using this
    have e1 : (List.range (o :: l).length).map (k + ·) = k :: (List.range l.length).map (k + 1 + ·) := by
      rw [List.length_cons, List.range_succ_eq_map, List.map_cons, List.map_map, Nat.add_zero]
      congr 1
      apply List.map_congr_left
      intro j _
      show k + (j + 1) = k + 1 + j
      omega
    have hlen : (k + 1 = ops.toArray.size) ↔ l = [] := by
      have h2 := hl' 0
      constructor
      · intro e
        have hz : ops.toArray.size = ops.length := by simp
        have hz2 : ops.length ≤ k + 1 + 0 := by omega
        rw [List.getElem?_eq_none hz2] at h2
        cases l with
        | nil => rfl
        | cons _ _ => simp at h2
      · intro e
        subst e
        have hk := (List.getElem?_eq_some_iff.1 h0).1
        have : ops[k + 1 + 0]? = none := by rw [← h2]; rfl
        have := List.getElem?_eq_none_iff.1 this
        simp; omega
    have hq : isQ ops.toArray k = readB o.op := by unfold isQ; rw [h0']
    rw [e1, TSn, hq]
    unfold Wu at h
    split
    · rename_i hr
      rw [if_pos hr] at h
      unfold Wq at h
      have hst : qOp P ops.toArray (C k) k (fun a => ∃ F', a = act n ds F' ∧ Wu P n ds C Q ops (k + 1) l F' w) (act n ds F) := by unfold qOp; simp only [h0']; exact h
      obtain ⟨v, hy, F', hF, hw⟩ := yieldsIn_of_qOp h0' hst
      refine ⟨o, v, h0', hy, ?_⟩
      rw [hF]
      exact TSn_of_Wu l (k + 1) F' w hl' hw
    · rename_i hr
      rw [if_neg hr] at h
      split
      · rename_i he
        have := hlen.1 he
        subst this
        rw [if_pos List.isEmpty_nil] at h
        exact wpOp_of_Wl h0 h
      · rename_i he
        rw [if_neg (by simpa using fun e => he (hlen.2 e))] at h
        refine wpOp_noQ ?_ ?_ (wpOp_of_Wl h0 h)
        · rintro e a' w' hne ⟨F', _, h', _⟩; exact hne h'
        · rintro a' w' ⟨F', rfl, _, hC, h'⟩
          exact ⟨⟨fun j hj => hC j (.inl (by obtain ⟨m, _, rfl⟩ := List.mem_map.1 hj; omega)), fun j hj => hC j (.inr hj)⟩, TSn_of_Wu l (k + 1) F' w' hl' h'⟩
/-- A region that draws its order, by one walk in the text's order. -/
theorem Wc.regionU {rid : Nat} (hm : P.follows .mixedOrders = true) (hB : okT ops.toArray = true) (C : Nat → World → Prop) (hC : ∀ k, C k w.drew) (h : ∀ w', New w w' → Wu P n ds C Q ops 0 ops F w') : Wc P n ds Q (.region rid ops.toArray true) F w := by
  unfold Wc
  refine wp_region_any hm ?_
  have hleft : left ops.toArray (Array.replicate ops.toArray.size false) = (List.range ops.length).map (0 + ·) := by
    unfold left
    rw [show ((fun x => 0 + x) : Nat → Nat) = id from funext fun x => Nat.zero_add x, List.map_id]
    simp only [List.size_toArray]
    refine List.filter_eq_self.2 fun k hk => ?_
    have := List.mem_range.1 hk
    simp [Array.getD_eq_getD_getElem?, Array.getElem?_replicate, this]
  have h0 : Clos ops.toArray (Array.replicate ops.toArray.size false) := by
    intro j o hj
    exfalso
    simp only [Array.getD_eq_getD_getElem?, Array.getElem?_replicate] at hj
    split at hj <;> simp at hj
  refine wpAny_of_TSn (C := C) hB _ _ _ _ (by simp) (by rw [hleft]; simp) h0 (fun k _ => hC k) ?_
  rw [hleft]
  exact TSn_of_Wu ops 0 F w.drew (fun j => by rw [Nat.zero_add]) (h _ (Chg.drew _ _))
end
/-- What is not bound ahead of an operation stands behind a place. -/
theorem bd_ge {ops : Array Oper} {k c : Nat} (h : (List.range c).all (fun j => bd ops j k) = true) (hc : c ≤ k + 1) {j : Nat} (hj : k < j ∨ bd ops j k = false) : c ≤ j := by
  rcases Nat.lt_or_ge j c with hlt | hge
  · have := List.all_eq_true.1 h j (List.mem_range.2 hlt)
    rcases hj with h1 | h1
    · omega
    · rw [h1] at this; cases this
  · exact hge
attribute [irreducible] Wu
end Go.Proofs.YtjpebmgllfiloaaDoor.Wk

namespace Go.Proofs.YtjpebmgllfiloaaDoor
open Go Wk
open Go.RowKit (Below)
attribute [local irreducible] Go.Calls

def stkLay (S : Stk) (p : Pc) : Stk × Int × Int :=
  if S.rows.length = 16 then (S, 0, 3)
  else if (layM (stkTop S S.rows.length) p).2 ≠ 0 then (S, 0, (layM (stkTop S S.rows.length) p).2)
  else (⟨S.base, S.rows ++ [⟨S.laid + 1, p, (layM (stkTop S S.rows.length) p).1⟩], S.laid + 1⟩, S.laid + 1, 0)
theorem Wl.buildG {P : Program} {n : Nat} {ds : List Deferred} {Q : Po} {F : Fr} {w : World} {ops rest : List Oper} {d : Nat} {ty : TypeId} {pos : String} {aft : Array Edge} {t : TypeId} {ps : List (Nat × Operand)} {parts : List (Nat × Value)} {u : Value}
    (hps : ps.map (fun p => (p.1, ev n F p.2)) = parts) (hr : (Instr.build t parts.toArray).run P w = .ok u w) (c : Wl P n ds Q ops rest (upd F d u) w) : Wl P n ds Q ops (⟨some d, .build t ps.toArray, ty, pos, aft, none⟩ :: rest) F w := by
  refine Wl.val ?_ c
  subst hps
  simp only [execOp, List.map_toArray, Sem.run_bind]
  rw [hr]; rfl
set_option maxHeartbeats 4000000 in
set_option maxRecDepth 4000 in
theorem LayS_spec {lo : Nat} {lab : SLab} {w : World} {bl : Nat} {S : Stk} {bv rv : Value} (h : StkAt lo lab w bl S bv rv) (hlo : lo ≤ w.heap.size) (wf : WfS S) {Pp : Nat → Prop} {nv dv : Value} {p : Pc} (hn : RdS rNd 3 Pp w nv p.nodes) (hd : RdS (one vs) 1 Pp w dv p.drop) (hs : p.target.length ≤ 2000000) (hPp : ∀ b, Pp b → lab b = none) :
    Calls Tryd.prog 29 #[ptrV bl, .agg #[vs p.target, nv, dv]] w (Ret fun r w' => r = .tuple #[vi (stkLay S p).2.1, vi (stkLay S p).2.2] ∧ (∃ lab' bv' rv', StkAt lo lab' w' bl (stkLay S p).1 bv' rv' ∧ ∀ b, b < w.heap.size → lab' b = lab b) ∧ Chg (fun b => lab b = some true) w w') := by
  obtain ⟨ra, rc, rfl, hrc1, hrc2⟩ := h.rows.form
  obtain ⟨na, nc, rfl, _, _⟩ := hn.form
  obtain ⟨da, dc, rfl, _, _⟩ := hd.form
  simp only [maxLen] at hrc2
  refine calls_of_Wc Tryd.func29 rfl Tryd.ntmps29 rfl ?_
  (repeat' (first | refine Wc.seq ?_ | refine Wc.region ?_))
  refine Wl.box rfl fun w1 b1 n1 s1 => ?_
  replace b1 : Bk w1 w.heap.size 25 [vs p.target, .slice na p.nodes.length nc, .slice da p.drop.length dc] := b1
  have h1 := h.new n1
  (repeat' (first | refine Wl.moveE (by conv => { lhs; whnf }) ?_ | refine Wl.assignE (by conv => { lhs; whnf }) ?_ | refine Wl.nil ?_ | refine Qseq.normal ?_ | refine Wc.seq ?_ | refine Wc.region ?_ | refine Wc.block ?_))
  refine Wl.peqNil rfl rfl ?_
  (repeat' (first | refine Wl.moveE (by conv => { lhs; whnf }) ?_ | refine Wl.assignE (by conv => { lhs; whnf }) ?_ | refine Wl.nil ?_ | refine Qseq.normal ?_ | refine Wc.seq ?_ | refine Wc.region ?_ | refine Wc.condF rfl ?_ | refine Wl.nilP rfl ?_ | refine Wl.fieldAddr rfl rfl ?_))
  refine Wl.load1 rfl (h1.bk.cell (o := 1) rfl) ?_
  unfold stkLay
  by_cases h16 : S.rows.length = 16
  · rw [if_pos h16]
    (repeat' (first | refine Wl.assignE (by conv => { lhs; whnf }) ?_ | refine Wl.nil ?_ | refine Wl.lenS rfl ?_ | refine Qseq.normal ?_ | refine Wc.seq ?_ | refine Wc.region ?_ | refine Wc.ret ?_ | refine Qseq.ret ?_ | refine Qblk.ret ?_ | refine Wc.condT rfl ?_ | (refine Wl.eql rfl rfl (fun _ => ?_) (fun _ => ?_) <;> (first | (exfalso; omega) | skip))))
    exact Qfn.ret2 rfl rfl rfl ⟨_, rfl, rfl, ⟨lab, _, _, h1, fun _ _ => rfl⟩, n1.any⟩
  · rw [if_neg h16]
    (repeat' (first | refine Wl.assignE (by conv => { lhs; whnf }) ?_ | refine Wl.nil ?_ | refine Wl.lenS rfl ?_ | refine Qseq.normal ?_ | refine Wc.seq ?_ | refine Wc.skip ?_ | refine Qblk.normal ?_ | refine Wc.condF rfl ?_ | (refine Wl.eql rfl rfl (fun _ => ?_) (fun _ => ?_) <;> (first | (exfalso; omega) | skip))))
    refine Wc.regionT rfl (by kernel_rfl) (New w1) (Chg.drew _ _) ?_
    intro w2 n2
    have hC2 := n2
    (repeat' (first | refine Wt.quiet rfl (Wq.moveE (by conv => { lhs; whnf }) (Wq.nil ?_)) | refine Wt.quiet rfl (Wq.nilP rfl (Wq.nil ?_)) | refine Wt.quiet rfl (Wq.fieldAddr rfl rfl (Wq.nil ?_))))
    refine Wt.quiet rfl (Wq.load1 rfl (fun w' hw => (h1.bk.chg hw id).cell (o := 1) rfl) (Wq.nil ?_))
    (repeat' (refine Wt.quiet rfl (Wq.lenS rfl (Wq.nil ?_))))
    refine Wt.chain rfl (Wl.call (top_spec (h1.new n2) (Nat.le_refl _)) rfl ?_)
    rintro tv w3 ⟨rt, n3⟩
    replace n3 := New.trans n2 n3
    refine Wl.nil ⟨rfl, n3, ?_⟩
    skip
    refine Wt.quiet rfl (Wq.loadAt (fun w' hw => (b1.chg hw id).at) rfl rfl (Wq.nil ?_))
    have n03 := New.trans n1 n3
    refine Wt.chain rfl (Wl.call (Lay_spec (Pb := fun _ => True) (rt.mono monoNd fun _ _ _ => trivial) ((hn.keep stableNd n03.keep).mono monoNd fun _ _ _ => trivial) ((hd.keep (stable_one _) n03.keep).mono (mono_one _) fun _ _ _ => trivial) hs) rfl ?_)
    rintro _ w4 ⟨uv, rfl, n4, labu, pvs, to4⟩
    have n14 := New.trans n3 n4
    refine Wl.nil ⟨rfl, n14, ?_⟩
    have s3 := n03.size
    have s13' := n3.size
    have s14' := n14.size
    clear hC2 n2
    have htop := stkTop_ok wf (Nat.le_refl S.rows.length)
    have hlf : (layM (stkTop S S.rows.length) p).2 = 0 → LayF (stkTop S S.rows.length) (layM (stkTop S S.rows.length) p).1 p := fun e => layF (Prod.ext rfl e)
    have hpk : (layM (stkTop S S.rows.length) p).2 = 0 → pieceOk p = true := fun e => by
      obtain ⟨_, _, _, _, _, L⟩ := laid_of (t := stkTop S S.rows.length) (u := (layM (stkTop S S.rows.length) p).1) (p := p) (Prod.ext rfl e)
      exact L.pk
    generalize layM (stkTop S S.rows.length) p = LM at to4 hlf hpk ⊢
    obtain ⟨u, e⟩ := LM
    dsimp only at to4 hlf hpk ⊢
    have h4 := h1.new n14
    have b4 := b1.chg n14 id
    have n04 := New.trans n1 n14
    by_cases he : e = 0
    rotate_left
    · rw [if_pos he]
      (repeat' (first | refine Wt.nil ?_ | refine Wt.quiet rfl (Wq.moveE (by conv => { lhs; whnf }) (Wq.nil ?_)) | refine Wt.quiet rfl (Wq.assignE (by conv => { lhs; whnf }) (Wq.nil ?_)) | refine Wt.quiet rfl (Wq.extract rfl rfl (Wq.nil ?_))))
      (repeat' (first | refine Wl.moveE (by conv => { lhs; whnf }) ?_ | refine Wl.assignE (by conv => { lhs; whnf }) ?_ | refine Wl.nil ?_ | refine Qseq.normal ?_ | refine Wc.seq ?_ | refine Wc.region ?_ | refine Wc.ret ?_ | refine Qseq.ret ?_ | refine Wc.condT rfl ?_ | (refine Wl.neq rfl rfl (fun _ => ?_) (fun _ => ?_) <;> (first | (exfalso; omega) | skip))))
      exact Qfn.ret2 rfl rfl rfl ⟨_, rfl, rfl, ⟨lab, _, _, h4, fun _ _ => rfl⟩, n04.any⟩
    · subst he
      rw [if_neg (by simp)]
      have FU := hlf rfl
      have hpo := hpk rfl
      have ru := to4.rd
      obtain ⟨ua, uc, rfl, huc1, huc2⟩ := ru.form
      have hnl := tree_lens FU.tn
      have hdl : p.drop.length ≤ 2000000 := by
        unfold pieceOk at hpo
        simp only [Bool.and_eq_true, decide_eq_true_eq] at hpo
        omega
      have hlaid := wf.laid
      (repeat' (first | refine Wt.nil ?_ | refine Wt.quiet rfl (Wq.moveE (by conv => { lhs; whnf }) (Wq.nil ?_)) | refine Wt.quiet rfl (Wq.assignE (by conv => { lhs; whnf }) (Wq.nil ?_)) | refine Wt.quiet rfl (Wq.extract rfl rfl (Wq.nil ?_))))
      (repeat' (first | refine Wl.moveE (by conv => { lhs; whnf }) ?_ | refine Wl.nil ?_ | refine Qseq.normal ?_ | refine Wc.seq ?_ | refine Wc.region ?_ | refine Wc.skip ?_ | refine Wc.condF rfl ?_ | refine Wl.nilP rfl ?_ | refine Wl.fieldAddr rfl rfl ?_ | (refine Wl.neq rfl rfl (fun _ => ?_) (fun _ => ?_) <;> (first | (exfalso; omega) | skip))))
      refine Wl.load1 rfl (h4.bk.cell (o := 2) rfl) ?_
      (repeat' (first | refine Wl.nilP rfl ?_ | refine Wl.fieldAddr rfl rfl ?_ | refine Wl.add rfl rfl (by omega) (by omega) ?_))
      refine Wl.store1 h4.bk rfl (show (2 : Nat) < 3 by omega) rfl rfl fun w5 k5 c5 => ?_
      replace k5 : Bk w5 bl tStk [bv, .slice ra S.rows.length rc, vi (S.laid + 1)] := k5
      have hblw : bl < w.heap.size := h.bk.lt
      have b5 : Bk w5 w.heap.size 25 [vs p.target, .slice na p.nodes.length nc, .slice da p.drop.length dc] := b4.chg c5 (fun e => by omega)
      have s4 := n04.size
      have s5 := c5.size
      have K : ∀ b, b < w.heap.size → b = bl → lab b = some true := fun b _ e => e ▸ h.lb
      have c05 : Chg (fun b => lab b = some true) w w5 := Chg.trans n04.any c5 (fun b hb e => K b hb e)
      have base5 : RdS rNd 3 (fun b => lab b = some false) w5 bv S.base := h4.base.keep stableNd (c5.keep fun b _ hb e => by rw [e, h.lb] at hb; cases hb)
      have rows5 : OwnS rRow tRow 5 (fun b => lab b = some true ∧ b ≠ bl) (fun b => lab b = some false) w5 (.slice ra S.rows.length rc) S.rows := h4.rows.keep stableRow (c5.keep fun b _ hb e => hb.2 e) (c5.keep fun b _ hb e => by rw [e, h.lb] at hb; cases hb)
      have lowb : ∀ b c, lab b = some c → b < w.heap.size := fun b c e => (h.low b c e).2
      have c5p : Keep Pp w4 w5 := c5.keep fun b _ hb e => by have h1 := hPp b hb; rw [e, h.lb] at h1; cases h1
      have rn5 := (hn.keep stableNd n04.keep).keep stableNd c5p
      have rd5 := (hd.keep (stable_one _) n04.keep).keep (stable_one _) c5p
      have ru5 : RdS rNd 3 (fun b => w3.heap.size ≤ b) w5 (.slice ua u.length uc) u := ru.keep stableNd (c5.keep fun b _ hb e => by omega)
      clear c5p
      (repeat' (first | refine Wl.nil ?_ | refine Qseq.normal ?_ | refine Wc.seq ?_))
      refine Wc.regionU rfl (by kernel_rfl) (fun k w' => Chg (fun b => 7 ≤ k ∧ b = w.heap.size) w5 w') (fun k => Chg.drew _ _) ?_
      intro w6 n6
      (repeat' (refine Wu.quiet rfl (Wq.fieldAddr rfl rfl (Wq.nil ?_))))
      refine Wu.quiet rfl (Wq.load1 rfl (fun w' hw => (b5.chg hw (by omega)).cell (o := 1) rfl) (Wq.nil ?_))
      refine Wu.chain rfl (Wl.call (twin_spec (rn5.keep stableNd n6.keep) hnl.1 hnl.2) rfl ?_)
      rintro tw w7 ⟨lab7, pvs7, to7, n7⟩
      have n57 := New.trans n6 n7
      refine Wl.nil ⟨rfl, fun j _ => n57.any, ?_⟩
      (repeat' (refine Wu.quiet rfl (Wq.fieldAddr rfl rfl (Wq.nil ?_))))
      refine Wu.quiet rfl (Wq.load1 rfl (fun w' hw => (b5.chg hw (by omega)).cell (o := 2) rfl) (Wq.nil ?_))
      refine Wu.chain rfl (Wl.call (CloneStr_spec (rd5.keep (stable_one _) n57.keep) hdl) rfl ?_)
      rintro dw w8 ⟨od8, n8⟩
      have n58 := New.trans n57 n8
      refine Wl.nil ⟨rfl, fun j _ => n58.any, ?_⟩
      (repeat' (refine Wu.quiet rfl (Wq.fieldAddr rfl rfl (Wq.nil ?_))))
      have rt7 := to7.rd
      have rd8 := od8.rd (mono_one _)
      obtain ⟨wa, wc, rfl, _, _⟩ := rt7.form
      obtain ⟨ea, ec, rfl, _, _⟩ := rd8.form
      refine Wu.chain rfl (Wl.store1 (b5.chg n58 id) rfl (show (1 : Nat) < 3 by omega) rfl rfl fun w9 b9 c9 => ?_)
      replace b9 : Bk w9 w.heap.size 25 [vs p.target, .slice wa p.nodes.length wc, .slice da p.drop.length dc] := b9
      refine Wl.nil ⟨rfl, fun j hj => Chg.trans n58.any c9 (fun b _ e => ⟨bd_ge (c := 7) (by kernel_rfl) (by omega) hj, e⟩), ?_⟩
      (repeat' (refine Wu.quiet rfl (Wq.fieldAddr rfl rfl (Wq.nil ?_))))
      refine Wu.last rfl (Wl.store1 b9 rfl (show (2 : Nat) < 3 by omega) rfl rfl fun w10 b10 c10 => ?_)
      replace b10 : Bk w10 w.heap.size 25 [vs p.target, .slice wa p.nodes.length wc, .slice ea p.drop.length ec] := b10
      have c510 : Chg (fun b => b = w.heap.size) w5 w10 := Chg.trans (Chg.trans n58.any c9 fun _ _ e => e) c10 fun _ _ e => e
      have s6 := n6.size
      have s7 := n7.size
      have s8 := n8.size
      have s9 := c9.size
      have s10 := c10.size
      have hlw : ∀ b c, lab b = some c → ¬ b = w.heap.size := fun b c e e' => by have := lowb b c e; omega
      have k10 : Bk w10 bl tStk [bv, .slice ra S.rows.length rc, vi (S.laid + 1)] := k5.chg c510 (hlw bl true h.lb)
      have rows10 := rows5.keep stableRow (c510.keep fun b _ hb e => hlw b true hb.1 e) (c510.keep fun b _ hb e => hlw b false hb e)
      have base10 := base5.keep stableNd (c510.keep fun b _ hb e => hlw b false hb e)
      have c8910 : Chg (fun b => b = w.heap.size) w8 w10 := Chg.trans c9 c10 fun _ _ e => e
      have nw10 : RdS rNd 3 (fun b => w.heap.size < b ∧ b < w10.heap.size) w10 (.slice wa p.nodes.length wc) p.nodes :=
        ((rt7.mono monoNd (Pb' := fun b => w.heap.size < b ∧ b < w10.heap.size) fun b hb e => by omega).keep stableNd n8.keep).keep stableNd (c8910.keep fun b _ hb e => by omega)
      have dw10 : RdS (one vs) 1 (fun b => w.heap.size < b ∧ b < w10.heap.size) w10 (.slice ea p.drop.length ec) p.drop :=
        (rd8.mono (mono_one _) (Pb' := fun b => w.heap.size < b ∧ b < w10.heap.size) fun b hb e => by rcases e with e | e; omega; exact e.elim).keep (stable_one _) (c8910.keep fun b _ hb e => by omega)
      have uw10 : RdS rNd 3 (fun b => w.heap.size < b ∧ b < w10.heap.size) w10 (.slice ua u.length uc) u :=
        (ru5.mono monoNd (Pb' := fun b => w.heap.size < b ∧ b < w10.heap.size) fun b hb e => by omega).keep stableNd (c510.keep fun b _ hb e => by omega)
      clear rt7 rd8 ru5 rn5 rd5 to7 od8 c8910 c9 c10 b9
      have hrl := wf.len
      (repeat' (first | refine Wl.nil ?_ | refine Qseq.normal ?_ | refine Wc.seq ?_))
      refine Wc.regionT rfl (by kernel_rfl) (fun w' => Chg (fun b => lab b = some true ∧ b ≠ bl) w10 w') (Chg.drew _ _) ?_
      intro w11 n11
      have hk : ∀ w', Chg (fun b => lab b = some true ∧ b ≠ bl) w10 w' → Bk w' bl tStk [bv, .slice ra S.rows.length rc, vi (S.laid + 1)] := fun w' hw => k10.chg hw (fun e => e.2 rfl)
      have hp10 : ∀ w', Chg (fun b => lab b = some true ∧ b ≠ bl) w10 w' → Bk w' w.heap.size 25 [vs p.target, .slice wa p.nodes.length wc, .slice ea p.drop.length ec] := fun w' hw => b10.chg hw (fun e => by have := lowb _ _ e.1; omega)
      (repeat' (first | refine Wt.quiet rfl (Wq.moveE (by conv => { lhs; whnf }) (Wq.nil ?_)) | refine Wt.quiet rfl (Wq.nilP rfl (Wq.nil ?_)) | refine Wt.quiet rfl (Wq.fieldAddr rfl rfl (Wq.nil ?_))))
      refine Wt.quiet rfl (Wq.load1 rfl (fun w' hw => (hk w' hw).cell (o := 1) rfl) (Wq.nil ?_))
      (repeat' (first | refine Wt.quiet rfl (Wq.moveE (by conv => { lhs; whnf }) (Wq.nil ?_)) | refine Wt.quiet rfl (Wq.nilP rfl (Wq.nil ?_)) | refine Wt.quiet rfl (Wq.fieldAddr rfl rfl (Wq.nil ?_))))
      refine Wt.quiet rfl (Wq.load1 rfl (fun w' hw => (hk w' hw).cell (o := 2) rfl) (Wq.nil ?_))
      refine Wt.quiet rfl (Wq.loadAt (fun w' hw => (hp10 w' hw).at) rfl rfl (Wq.nil ?_))
      (repeat' (refine Wt.quiet rfl (Wq.moveE (by conv => { lhs; whnf }) (Wq.nil ?_))))
      refine Wt.chain rfl (Wl.buildG (ps := [(0, .tmp 56), (1, .tmp 57), (2, .tmp 58)]) (parts := [(0, vi (S.laid + 1)), (1, .agg #[vs p.target, .slice wa p.nodes.length wc, .slice ea p.drop.length ec]), (2, .slice ua u.length uc)]) rfl run_buildRow ?_)
      refine Wl.nil ⟨rfl, n11.any, ?_⟩
      have s11 := n11.size
      refine Wt.chain rfl (Wl.buildSlice1 (R := rRow) (y := ⟨S.laid + 1, p, u⟩) (Pe := fun b => w.heap.size < b ∧ b < w10.heap.size) goodRow rfl rfl rfl ⟨_, _, _, rfl, (nw10.keep stableNd n11.keep).mono monoNd fun b _ e => ⟨e, by omega⟩, (dw10.keep (stable_one _) n11.keep).mono (mono_one _) fun b _ e => ⟨e, by omega⟩, (uw10.keep stableNd n11.keep).mono monoNd fun b _ e => ⟨e, by omega⟩⟩ (by omega) (by omega) fun vt w12 ot n12 s12 hobt => ?_)
      have n1012 := New.trans n11 n12
      refine Wl.nil ⟨rfl, n1012.any, ?_⟩
      have rows12 := (rows10.keep stableRow n1012.keep n1012.keep).mono monoRow (Pb' := fun b => lab b = some true ∧ b ≠ bl) (Pe' := fun b => lab b = some false ∨ (w.heap.size < b ∧ b < w12.heap.size)) (fun b _ e => e) (fun b _ e => .inl e)
      refine Wt.chain rfl (Wl.appendAll goodRow rows12 (ot.rd monoRow) (fun y cs hy => monoRow _ _ _ _ _ (fun b hb e => ⟨.inr (by rcases e with e | e <;> omega), fun e' => by have := lowb b true (rows12.lt e').1.1; rcases e with e | e <;> omega⟩) hy) rfl rfl (by omega) (by simp only [maxLen, List.length_singleton]; omega) (by simp only [List.length_singleton]; omega) fun rv13 w13 o13 c13 lie _ => ?_)
      have c1013 : Chg (fun b => lab b = some true ∧ b ≠ bl) w10 w13 := Chg.trans n1012.any c13 (fun b _ e => (rows12.lt e).1)
      refine Wl.nil ⟨rfl, c1013, ?_⟩
      (repeat' (first | refine Wt.quiet rfl (Wq.nilP rfl (Wq.nil ?_)) | refine Wt.quiet rfl (Wq.fieldAddr rfl rfl (Wq.nil ?_))))
      have h13 : rv13.oneCell' = true := by obtain ⟨_, _, rfl, _⟩ := o13.form; rfl
      refine Wt.last rfl (Wl.store1 (hk w13 c1013) rfl (show (1 : Nat) < 3 by omega) rfl h13 fun w14 k14 c14 => ?_)
      replace k14 : Bk w14 bl tStk [bv, rv13, vi (S.laid + 1)] := k14
      have c1014 : Chg (fun b => lab b = some true) w10 w14 := Chg.trans (c1013.mono fun b _ e => e.1) c14 fun b _ e => e ▸ h.lb
      have c014 : Chg (fun b => lab b = some true) w w14 := Chg.trans (Chg.trans c05 c510 fun b hb e => by omega) c1014 fun _ _ e => e
      have s13 := c13.size
      have s14 := c14.size
      have o14 := o13.keep stableRow (c14.keep fun b _ hb e => by rcases hb with hb | hb; exact hb.2 e; omega) (c14.keep fun b _ hb e => by rcases hb with hb | hb; rw [e, h.lb] at hb; cases hb; omega)
      have base14 := base10.keep stableNd (c1014.keep fun b _ hb e => by rw [hb] at e; cases e)
      (repeat' (first | refine Wl.moveE (by conv => { lhs; whnf }) ?_ | refine Wl.nil ?_ | refine Qseq.normal ?_ | refine Wc.seq ?_ | refine Wc.region ?_ | refine Wl.nilP rfl ?_ | refine Wl.fieldAddr rfl rfl ?_))
      refine Wl.load1 rfl (k14.cell (o := 2) rfl) ?_
      (repeat' (first | refine Wl.assignE (by conv => { lhs; whnf }) ?_ | refine Wl.nil ?_ | refine Qseq.normal ?_ | refine Wc.ret ?_))
      refine Qfn.ret2 rfl rfl rfl ⟨_, rfl, rfl, ⟨fun b => if b < w.heap.size then lab b else if b < w12.heap.size then (if b = w.heap.size then none else some false) else if b < w14.heap.size then some true else none, bv, rv13, ⟨fun b c e => ?_, ?_, k14, ?_, ?_⟩, fun b hb => if_pos hb⟩, c014⟩
      · split at e
        · have := h.low b c e; omega
        · split at e
          · split at e
            · cases e
            · omega
          · split at e
            · omega
            · cases e
      · rw [if_pos hblw]; exact h.lb
      · exact base14.mono monoNd fun b _ e => by rw [if_pos (lowb b _ e)]; exact e
      · refine o14.mono monoRow (fun b hb e => ?_) (fun b hb e => ?_)
        · rcases e with e | e
          · exact ⟨by rw [if_pos (lowb b _ e.1)]; exact e.1, e.2⟩
          · exact ⟨by rw [if_neg (by omega), if_neg (by omega), if_pos hb], by omega⟩
        · rcases e with e | e
          · rw [if_pos (lowb b _ e)]; exact e
          · rw [if_neg (by omega), if_pos e.2, if_neg (by omega)]
end Go.Proofs.YtjpebmgllfiloaaDoor

namespace Go.Proofs.YtjpebmgllfiloaaDoor
open Go Wk
open Go.RowKit (Below)
attribute [local irreducible] Go.Calls

def relay (t : List Nd) : List SRow → Int × List SRow
  | [] => (0, [])
  | r :: rs => if (layM t r.piece).2 ≠ 0 then ((layM t r.piece).2, [])
    else ((relay (layM t r.piece).1 rs).1, ⟨r.n, r.piece, (layM t r.piece).1⟩ :: (relay (layM t r.piece).1 rs).2)
def stkTake (S : Stk) (n : Int) : Stk × Int :=
  match S.rows.findIdx? (fun r => decide (r.n = n)) with
  | none => (S, 1)
  | some at_ => if (relay (stkTop S at_) (S.rows.drop (at_ + 1))).1 ≠ 0 then (S, (relay (stkTop S at_) (S.rows.drop (at_ + 1))).1)
    else (⟨S.base, S.rows.take at_ ++ (relay (stkTop S at_) (S.rows.drop (at_ + 1))).2, S.laid⟩, 0)
/-- Rows that reach such blocks alone. -/
def rRowQ (Q : Nat → Prop) : Rel SRow := fun Pb w x cs => rRow (fun b => Pb b ∧ Q b) w x cs
theorem goodRowQ (Q : Nat → Prop) : GoodR (rRowQ Q) 5 := ⟨fun Pb w w' x cs hk h => stableRow _ _ _ _ _ (fun b hb => hk b hb.1) h, fun Pb Pb' w x cs hP h => monoRow _ _ _ _ _ (fun b hb e => ⟨hP b hb e.1, e.2⟩) h, fun Pb w x cs h hl => goodRow.oc _ w x cs h hl⟩
theorem rowsQ {e : TypeId} {Pb Pe : Nat → Prop} {w : World} {v : Value} {xs : List SRow} (h : OwnS rRow e 5 Pb Pe w v xs) : RdS (rRowQ Pe) 5 (fun b => Pb b ∨ Pe b) w v xs := by
  have h1 := h.rdE
  rcases h1 with h1 | h1 | ⟨b, off, cap, cur, e', fr, rfl, hb, hh, h2, h3, h4, h5⟩
  · exact .inl h1
  · exact .inr (.inl h1)
  · exact .inr (.inr ⟨b, off, cap, cur, e', fr, rfl, .inl hb, hh, h2, h3, h4, fun i x hx => monoRow _ _ _ _ _ (fun b _ e => ⟨.inr e.1, e.1⟩) (h5 i x hx)⟩)
theorem IndexFuncRow_spec {R : Rel SRow} (hR : Stable R) {Pb : Nat → Prop} {w : World} {v : Value} {l : List SRow} {p : SRow → Bool} {g : FuncId} {cap : Array Value} [hc : Callable Tryd.prog g] (h : RdS R 5 Pb w v l)
    (hf : ∀ y cs w', y ∈ l → cs.length = 5 → R Pb w' y cs → New w w' → Calls Tryd.prog g ([Value.agg cs.toArray] ++ cap.toList).toArray w' (Ret fun r w'' => r = .bool (p y) ∧ New w' w'')) :
    Calls Tryd.prog 55 #[v, .func (.func g) #[] cap] w (Ret fun r w' => r = vi (idx p l) ∧ New w w') := by
  obtain ⟨a, cp, rfl, hc1, hc2⟩ := h.form
  simp only [maxLen] at hc2
  refine calls_of_Wc Tryd.func55 rfl Tryd.ntmps55 rfl ?_
  (repeat' (first | refine Wl.moveE (by conv => { lhs; whnf }) ?_ | refine Wl.assignE (by conv => { lhs; whnf }) ?_ | refine Wl.nil ?_ | refine Wl.lenS rfl ?_ | refine Qseq.normal ?_ | refine Wc.seq ?_ | refine Wc.region ?_ | refine Wc.block ?_))
  refine Wc.loop (σ := Nat) (fun i => [(0, .slice a l.length cp), (1, .func (.func g) #[] cap), (7, vi l.length), (8, vi i)]) (fun i w' => i ≤ l.length ∧ (∀ x ∈ l.take i, p x = false) ∧ New w w') (fun i => l.length - i) 0 ⟨rfl, rfl, rfl, rfl, trivial⟩ ⟨Nat.zero_le _, by simp, Chg.refl _ _⟩ ?_
  rintro i G w1 ⟨hi, hall, n1⟩
  simp only [upds]
  (repeat' (first | refine Wl.moveE (by conv => { lhs; whnf }) ?_ | refine Wl.assignE (by conv => { lhs; whnf }) ?_ | refine Wl.nil ?_ | refine Qseq.normal ?_ | refine Wc.seq ?_ | refine Wc.region ?_ | refine Wc.block ?_ | refine Wc.skip ?_ | refine Wc.exit ?_ | refine Wc.ret ?_ | refine Qseq.exit ?_ | refine Qblk.hit ?_ | refine Qloop.exit ?_ | refine Wc.condT rfl ?_ | refine Wc.condF rfl ?_ | refine Wl.lss rfl rfl (fun _ => ?_) (fun _ => ?_)))
  · obtain ⟨y, hy⟩ := get_lt l (k := i) (by omega)
    refine Wl.idxAddr (h.keep hR n1.keep) rfl rfl (by omega) hy fun b o cs hl hRy hat => ?_
    refine Wl.loadAt hat hl rfl ?_
    refine Wl.callV (dst := some 16) rfl (hf y cs w1 (List.mem_of_getElem? hy) hl hRy n1) rfl ?_
    rintro _ w2 ⟨rfl, n2⟩
    simp only [updO]
    cases hp : p y with
    | true =>
      (repeat' (first | refine Wl.moveE (by conv => { lhs; whnf }) ?_ | refine Wl.assignE (by conv => { lhs; whnf }) ?_ | refine Wl.nil ?_ | refine Qseq.normal ?_ | refine Wc.seq ?_ | refine Wc.region ?_ | refine Wc.ret ?_ | refine Qseq.ret ?_ | refine Qblk.ret ?_ | refine Qloop.ret ?_ | refine Wc.condT rfl ?_))
      refine Qfn.ret1 rfl rfl ⟨_, rfl, ?_, New.trans n1 n2⟩
      rw [idx_hit hy hall hp]; rfl
    | false =>
      (repeat' (first | refine Wl.moveE (by conv => { lhs; whnf }) ?_ | refine Wl.nil ?_ | refine Qseq.normal ?_ | refine Wc.region ?_ | refine Wc.skip ?_ | refine Qblk.normal ?_ | refine Wc.condF rfl ?_ | refine Wl.add rfl rfl (by omega) (by omega) ?_))
      exact Qloop.normal (i + 1) ⟨rfl, rfl, rfl, rfl, trivial⟩ ⟨by omega, take_all hy hall hp, New.trans n1 n2⟩ (by omega)
  · have e : i = l.length := by omega
    subst e
    rw [List.take_length] at hall
    refine Qfn.ret1 rfl rfl ⟨_, rfl, ?_, n1⟩
    rw [idx_miss hall]; rfl
/-- r.n == n. -/
theorem Take1_spec {Pb : Nat → Prop} {w : World} {b : Nat} {T : TypeId} {n : Int} {y : SRow} {cs : List Value} (hb : Bk w b T [vi n]) (hy : rRow Pb w y cs) :
    Calls Tryd.prog 56 #[.agg cs.toArray, ptrV b] w (Ret fun r w' => r = .bool (decide (y.n = n)) ∧ New w w') := by
  obtain ⟨nv, dv, tv, rfl, _⟩ := hy
  refine calls_of_Wc Tryd.func56 rfl Tryd.ntmps56 rfl ?_
  (repeat' (first | refine Wc.seq ?_ | refine Wc.region ?_))
  refine Wl.box rfl fun w1 b1 n1 s1 => ?_
  replace b1 : Bk w1 w.heap.size tRow [vi y.n, vs y.piece.target, nv, dv, tv] := b1
  (repeat' (first | refine Wl.assignE (by conv => { lhs; whnf }) ?_ | refine Wl.nil ?_ | refine Qseq.normal ?_ | refine Wc.seq ?_ | refine Wc.region ?_ | refine Wl.fieldAddr rfl rfl ?_))
  refine Wl.load1 rfl (b1.cell (o := 0) rfl) ?_
  refine Wl.load1 rfl ((hb.chg n1 id).cell (o := 0) rfl) ?_
  (repeat' (first | refine Wl.assignE (by conv => { lhs; whnf }) ?_ | refine Wl.nil ?_ | refine Qseq.normal ?_ | refine Wc.ret ?_ | refine Wl.eql rfl rfl (fun _ => ?_) (fun _ => ?_)))
  · refine Qfn.ret1 rfl rfl ⟨_, rfl, ?_, n1⟩
    rw [decide_eq_true (by assumption)]; rfl
  · refine Qfn.ret1 rfl rfl ⟨_, rfl, ?_, n1⟩
    rw [decide_eq_false (by assumption)]; rfl
theorem CloneRow_spec {Q Pb : Nat → Prop} {w : World} {v : Value} {l : List SRow} (h : RdS (rRowQ Q) 5 Pb w v l) (hl : l.length ≤ 2000000) (hQ : ∀ b, Q b → b < w.heap.size) :
    Calls Tryd.prog 57 #[v] w (Ret fun r w' => OwnS rRow tRow 5 (fun b => w.heap.size ≤ b) Q w' r l ∧ New w w') := by
  obtain ⟨a, cap, rfl, hc1, hc2⟩ := h.form
  refine calls_of_Wc Tryd.func57 rfl Tryd.ntmps57 rfl ?_
  (repeat' (first | refine Wl.moveE (by conv => { lhs; whnf }) ?_ | refine Wl.assignE (by conv => { lhs; whnf }) ?_ | refine Wl.nil ?_ | refine Qseq.normal ?_ | refine Wc.seq ?_ | refine Wc.region ?_))
  refine Wl.slNil rfl rfl ?_
  cases a with
  | none =>
    have e : l = [] := by
      rcases h with ⟨_, rfl⟩ | ⟨_, _, e, _⟩ | ⟨_, _, _, _, _, _, e, _⟩
      · rfl
      · cases e
      · cases e
    subst e
    (repeat' (first | refine Wl.assignE (by conv => { lhs; whnf }) ?_ | refine Wl.nil ?_ | refine Qseq.normal ?_ | refine Wc.seq ?_ | refine Wc.region ?_ | refine Wc.ret ?_ | refine Qseq.ret ?_ | refine Wc.condT rfl ?_))
    exact Qfn.ret1 rfl rfl ⟨_, rfl, OwnS.nil, Chg.refl _ _⟩
  | some a =>
    (repeat' (first | refine Wl.nil ?_ | refine Qseq.normal ?_ | refine Wc.seq ?_ | refine Wc.region ?_ | refine Wc.skip ?_ | refine Wc.condF rfl ?_))
    refine Wl.buildSlice0 (R := rRowQ Q) (Pe := fun _ => True) fun v1 w1 o1 n1 => ?_
    (repeat' (refine Wl.moveE (by conv => { lhs; whnf }) ?_))
    refine Wl.appendAll (goodRowQ Q) o1 (h.keep (goodRowQ Q).st n1.keep) (fun y cs hy => monoRow _ _ _ _ _ (fun b _ e => ⟨⟨trivial, fun e' => by have := (o1.lt e').1; have := hQ b e.2; omega⟩, e.2⟩) hy) rfl rfl (by omega) (by simp only [maxLen, List.length_nil]; omega) (by simp only [List.length_nil]; omega) fun v2 w2 o2 c2 lie _ => ?_
    (repeat' (first | refine Wl.assignE (by conv => { lhs; whnf }) ?_ | refine Wl.nil ?_ | refine Qseq.normal ?_ | refine Wc.ret ?_))
    refine Qfn.ret1 rfl rfl ⟨_, rfl, ?_, Chg.trans n1 c2 fun k hk e => by have := (o1.lt e).1; omega⟩
    have hs := n1.size
    obtain ⟨cs, hoc, he⟩ := o2
    exact ⟨cs, hoc.mono (fun b _ hb => by rcases hb with hb | hb; exact hb; omega), fun i x hx => monoRow _ _ _ _ _ (fun b _ e => ⟨e.2, e.1.2⟩) (he i x hx)⟩
theorem Wk.OwnS.new' {α : Type} {R : Rel α} (hR : Stable R) {e : TypeId} {sz : Nat} {Pb Pe : Nat → Prop} {w w' : World} {v : Value} {xs : List α} (h : OwnS R e sz Pb Pe w v xs) (n : New w w') : OwnS R e sz Pb Pe w' v xs := h.keep hR n.keep n.keep
theorem At.part {w : World} {b o : Nat} {cs : List Value} (h : At w b o cs) (k m : Nat) : At w b (o + k) ((cs.drop k).take m) := fun i u hu => by
  rw [List.getElem?_take] at hu
  split at hu
  · rw [List.getElem?_drop] at hu
    rw [Nat.add_assoc]
    exact h (k + i) u hu
  · cases hu
theorem ownE {α : Type} {R : Rel α} (hR : Mono R) {e : TypeId} {sz : Nat} {Pb Pb' Pe Pe' : Nat → Prop} {w : World} {v : Value} {xs : List α} (h : OwnS R e sz Pb Pe w v xs) (hP : ∀ b, b < w.heap.size → v.ownBlock = some b → Pb b → Pb' b) (hE : ∀ b, b < w.heap.size → Pe b → v.ownBlock ≠ some b → Pe' b) : OwnS R e sz Pb' Pe' w v xs := by
  have h1 := h.reblk (Pb' := fun b => b < w.heap.size ∧ v.ownBlock = some b ∧ Pb b) fun b e hb => ⟨(h.lt e).2, e, hb⟩
  obtain ⟨cs, hoc, he⟩ := h1
  exact ⟨cs, hoc.mono (fun b hb e => hP b hb e.2.1 e.2.2), fun i x hx => hR _ _ _ _ _ (fun b hb e => ⟨hE b hb e.1 e.2, e.2⟩) (he i x hx)⟩
set_option maxHeartbeats 4000000 in
set_option maxRecDepth 4000 in
theorem Take_spec {lo : Nat} {lab : SLab} {w : World} {bl : Nat} {S : Stk} {bv rv : Value} {n : Int} (h : StkAt lo lab w bl S bv rv) (hlo : lo ≤ w.heap.size) (wf : WfS S) :
    Calls Tryd.prog 30 #[ptrV bl, vi n] w (Ret fun r w' => r = vi (stkTake S n).2 ∧ (∃ lab' bv' rv', StkAt lo lab' w' bl (stkTake S n).1 bv' rv' ∧ ∀ b, b < w.heap.size → lab' b = lab b) ∧ Chg (fun b => lab b = some true) w w') := by
  obtain ⟨ra, rc, rfl, hrc1, hrc2⟩ := h.rows.form
  simp only [maxLen] at hrc2
  have hrl := wf.len
  refine calls_of_Wc Tryd.func30 rfl Tryd.ntmps30 rfl ?_
  (repeat' (first | refine Wc.seq ?_ | refine Wc.region ?_))
  refine Wl.box rfl fun w1 b1 n1 s1 => ?_
  replace b1 : Bk w1 w.heap.size 3 [vi n] := b1
  have h1 := h.new n1
  (repeat' (first | refine Wl.moveE (by conv => { lhs; whnf }) ?_ | refine Wl.assignE (by conv => { lhs; whnf }) ?_ | refine Wl.nil ?_ | refine Qseq.normal ?_ | refine Wc.seq ?_ | refine Wc.region ?_))
  refine Wl.peqNil rfl rfl ?_
  (repeat' (first | refine Wl.moveE (by conv => { lhs; whnf }) ?_ | refine Wl.nil ?_ | refine Qseq.normal ?_ | refine Wc.seq ?_ | refine Wc.region ?_ | refine Wc.skip ?_ | refine Wc.condF rfl ?_ | refine Wl.nilP rfl ?_ | refine Wl.fieldAddr rfl rfl ?_))
  refine Wl.load1 rfl (h1.bk.cell (o := 1) rfl) ?_
  refine Wl.makeFunc (first := []) (cap := [.tmp 3]) rfl rfl ?_
  refine Wl.call (IndexFuncRow_spec (goodRowQ _).st (p := fun r => decide (r.n = n)) (g := 56) (cap := #[ptrV w.heap.size]) (rowsQ h1.rows) (fun y cs w' _ _ hR hw => Take1_spec (b1.chg hw id) hR)) rfl ?_
  rintro _ w2 ⟨rfl, n2⟩
  have n02 := New.trans n1 n2
  have h2 := h.new n02
  unfold stkTake
  rcases idx_cases (fun r : SRow => decide (r.n = n)) S.rows with ⟨e, hno⟩ | ⟨k, y0, e, hk0, hpy, hbef⟩
  · rw [e, show S.rows.findIdx? (fun r => decide (r.n = n)) = none from List.findIdx?_eq_none_iff.2 hno]
    (repeat' (first | refine Wl.moveE (by conv => { lhs; whnf }) ?_ | refine Wl.assignE (by conv => { lhs; whnf }) ?_ | refine Wl.nil ?_ | refine Qseq.normal ?_ | refine Wc.seq ?_ | refine Wc.region ?_ | refine Wc.ret ?_ | refine Qseq.ret ?_ | refine Wc.condT rfl ?_ | (refine Wl.lss rfl rfl (fun _ => ?_) (fun _ => ?_) <;> (first | (exfalso; omega) | skip))))
    exact Qfn.ret1 rfl rfl ⟨_, rfl, rfl, ⟨lab, _, _, h2, fun _ _ => rfl⟩, n02.any⟩
  · have hfi : S.rows.findIdx? (fun r => decide (r.n = n)) = some k := by
      rw [List.findIdx?_eq_some_iff_getElem]
      obtain ⟨hlt, rfl⟩ := List.getElem?_eq_some_iff.1 hk0
      refine ⟨hlt, hpy, fun q hq => ?_⟩
      have := hbef S.rows[q] (by rw [List.mem_iff_getElem?]; exact ⟨q, by rw [List.getElem?_take, if_pos hq, List.getElem?_eq_getElem]⟩)
      simp [this]
    rw [e, hfi]
    dsimp only
    have hkl : k < S.rows.length := (List.getElem?_eq_some_iff.1 hk0).1
    have lowb : ∀ b c, lab b = some c → b < w.heap.size := fun b c e => (h.low b c e).2
    have rq := rowsQ h.rows
    have kp : ∀ {w'}, New w w' → Keep (fun b => (lab b = some true ∧ b ≠ bl) ∨ lab b = some false) w w' := fun hw => hw.keep
    (repeat' (first | refine Wl.moveE (by conv => { lhs; whnf }) ?_ | refine Wl.assignE (by conv => { lhs; whnf }) ?_ | refine Wl.nil ?_ | refine Qseq.normal ?_ | refine Wc.seq ?_ | refine Wc.region ?_ | refine Wc.skip ?_ | refine Wc.condF rfl ?_ | refine Wl.nilP rfl ?_ | refine Wl.fieldAddr rfl rfl ?_ | (refine Wl.lss rfl rfl (fun _ => ?_) (fun _ => ?_) <;> (first | (exfalso; omega) | skip))))
    refine Wl.load1 rfl (h2.bk.cell (o := 1) rfl) ?_
    (repeat' (refine Wl.moveE (by conv => { lhs; whnf }) ?_))
    refine Wl.sliceTo (rq.keep (goodRowQ _).st (kp n02)) rfl rfl (by omega) (by omega) fun sv1 rs1 => ?_
    refine Wl.call (CloneRow_spec rs1 (by simp; omega) (fun b hb => Nat.lt_of_lt_of_le (lowb b _ hb) n02.size)) rfl ?_
    rintro rv3 w3 ⟨o3, n3⟩
    have n03 := New.trans n02 n3
    (repeat' (first | refine Wl.moveE (by conv => { lhs; whnf }) ?_ | refine Wl.assignE (by conv => { lhs; whnf }) ?_ | refine Wl.nil ?_ | refine Qseq.normal ?_ | refine Wc.seq ?_ | refine Wc.region ?_))
    refine Wl.call (top_spec (h.new n03) (k := k) (by omega)) rfl ?_
    rintro tv4 w4 ⟨rt4, n4⟩
    have n04 := New.trans n03 n4
    have h4 := h.new n04
    (repeat' (first | refine Wl.moveE (by conv => { lhs; whnf }) ?_ | refine Wl.assignE (by conv => { lhs; whnf }) ?_ | refine Wl.nil ?_ | refine Qseq.normal ?_ | refine Wc.seq ?_ | refine Wc.region ?_ | refine Wl.nilP rfl ?_ | refine Wl.fieldAddr rfl rfl ?_))
    refine Wl.load1 rfl (h4.bk.cell (o := 1) rfl) ?_
    (repeat' (first | refine Wl.moveE (by conv => { lhs; whnf }) ?_ | refine Wl.add rfl rfl (by omega) (by omega) ?_))
    refine Wl.sliceFrom (rq.keep (goodRowQ _).st (kp n04)) rfl rfl (by omega) (by omega) fun sv2 rs2 => ?_
    rw [show ((k : Int) + 1).toNat = k + 1 by omega] at rs2
    obtain ⟨sa, sc, rfl, hsc1, hsc2⟩ := rs2.form
    (repeat' (first | refine Wl.moveE (by conv => { lhs; whnf }) ?_ | refine Wl.nil ?_ | refine Wl.lenS rfl ?_ | refine Qseq.normal ?_ | refine Wc.block ?_))
    generalize hrest : S.rows.drop (k + 1) = rest at rs2 hsc1 ⊢
    have hrestl : rest.length ≤ 16 := by rw [← hrest]; simp; omega
    have hrestm : ∀ r ∈ rest, r ∈ S.rows := fun r hr => List.mem_of_mem_drop (hrest ▸ hr)
    generalize hRES : relay (stkTop S k) rest = RES
    have s02 := n02.size
    have s3 := n3.size
    have s4 := n4.size
    refine Wc.loop (σ := Nat × List Nd × Value × List SRow × Value) (fun s => [(0, ptrV bl), (6, s.2.2.2.2), (7, s.2.2.1), (38, .slice sa rest.length sc), (39, vi rest.length), (40, vi s.1)])
      (fun s w' => s.1 ≤ rest.length ∧ treeOk s.2.1 = true ∧ RES.1 = (relay s.2.1 (rest.drop s.1)).1 ∧ S.rows.take k ++ RES.2 = s.2.2.2.1 ++ (relay s.2.1 (rest.drop s.1)).2 ∧ s.2.2.2.1.length = k + s.1 ∧
        RdS rNd 3 (fun b => (lab b = some false ∨ w.heap.size ≤ b) ∧ s.2.2.2.2.ownBlock ≠ some b) w' s.2.2.1 s.2.1 ∧ OwnS rRow tRow 5 (fun b => w.heap.size ≤ b) (fun b => lab b = some false ∨ w.heap.size ≤ b) w' s.2.2.2.2 s.2.2.2.1 ∧ New w w') (fun s => rest.length - s.1)
      (0, stkTop S k, tv4, S.rows.take k, rv3) ⟨rfl, rfl, rfl, rfl, rfl, rfl, trivial⟩ ⟨Nat.zero_le _, stkTop_ok wf (by omega), by dsimp only; rw [List.drop_zero, hRES], by dsimp only; rw [List.drop_zero, hRES], by simp; omega, ?_, ?_, n04⟩ ?_
    · exact rt4.mono monoNd fun b _ e => ⟨.inl e, fun e' => by have h1 := (o3.lt e').1; have := lowb b _ e; omega⟩
    · exact (o3.new' stableRow n4).mono monoRow (fun b _ e => by omega) (fun b _ e => .inl e)
    rintro ⟨i, t, tv, done, rvi⟩ G w5 ⟨hi, hto, hr1, hr2, hdl, rt5, o5, n5⟩
    dsimp only at hi hto hr1 hr2 hdl rt5 o5 n5
    simp only [upds]
    (repeat' (first | refine Wl.moveE (by conv => { lhs; whnf }) ?_ | refine Wl.nil ?_ | refine Qseq.normal ?_ | refine Wc.seq ?_ | refine Wc.region ?_ | refine Wc.block ?_ | refine Wc.skip ?_ | refine Wc.exit ?_ | refine Qseq.exit ?_ | refine Qblk.hit ?_ | refine Qloop.exit ?_ | refine Wc.condT rfl ?_ | refine Wc.condF rfl ?_ | refine Wl.nilP rfl ?_ | refine Wl.fieldAddr rfl rfl ?_ | refine Wl.lss rfl rfl (fun _ => ?_) (fun _ => ?_)))
    · obtain ⟨r, hr⟩ := get_lt rest (k := i) (by omega)
      have hrm := wf.row r (hrestm r (List.mem_of_getElem? hr))
      rw [drop_cons hr] at hr1 hr2
      have rs5 := rs2.keep (goodRowQ _).st (w' := w5) fun b hb hlt => by
        have hbw : b < w.heap.size := by rcases hb with e | e; exact lowb b _ e.1; exact lowb b _ e
        exact (n5.block b hbw fun e => e).trans (n04.block b hbw fun e => e).symm
      refine Wl.idxAddr rs5 rfl rfl (by omega) hr fun b o cs hl hR hat => ?_
      obtain ⟨nv, dv, tvr, rfl, hRn, hRd, hRt⟩ := hR
      refine Wl.loadAt hat rfl rfl ?_
      obtain ⟨na, nc, rfl, _, _⟩ := hRn.form
      obtain ⟨da, dc, rfl, _, _⟩ := hRd.form
      obtain ⟨ta', tc', rfl, _, _⟩ := hRt.form
      refine Wl.alloc fun w6 b6 n6 s6 => ?_
      refine Wl.storeB (new := [vi r.n, vs r.piece.target, .slice na r.piece.nodes.length nc, .slice da r.piece.drop.length dc, .slice ta' r.tree.length tc']) b6 rfl rfl rfl rfl (show (5 : Nat) ≤ 5 from Nat.le_refl 5) (by
        intro c hc
        simp at hc
        rcases hc with rfl | rfl | rfl | rfl | rfl <;> rfl) fun w7 b7 c7 s7 => ?_
      replace b7 : Bk w7 w5.heap.size tRow [vi r.n, vs r.piece.target, .slice na r.piece.nodes.length nc, .slice da r.piece.drop.length dc, .slice ta' r.tree.length tc'] := b7
      have n57 : New w5 w7 := Chg.trans n6 c7 fun b hb e => by omega
      have n07 := New.trans n5 n57
      have rn7 := hRn.keep stableNd n57.keep
      have rd7 := hRd.keep (stable_one _) n57.keep
      have rt7 := rt5.keep stableNd n57.keep
      have o7 := o5.new' stableRow n57
      clear b6 c7 n6
      (repeat' (first | refine Wl.moveE (by conv => { lhs; whnf }) ?_ | refine Wl.nil ?_ | refine Qseq.normal ?_ | refine Wc.seq ?_ | refine Wc.region ?_ | refine Wl.fieldAddr rfl rfl ?_))
      have pcAt : ∀ w', Bk w' w5.heap.size tRow [vi r.n, vs r.piece.target, .slice na r.piece.nodes.length nc, .slice da r.piece.drop.length dc, .slice ta' r.tree.length tc'] → At w' w5.heap.size (0 + 1) [vs r.piece.target, .slice na r.piece.nodes.length nc, .slice da r.piece.drop.length dc] := fun w' hb => At.part hb.at 1 3
      refine Wl.loadAt (pcAt w7 b7) rfl rfl ?_
      refine Wl.call (Lay_spec (Pb := fun _ => True) (p := r.piece) (rt7.mono monoNd fun _ _ _ => trivial) (rn7.mono monoNd fun _ _ _ => trivial) (rd7.mono (mono_one _) fun _ _ _ => trivial) hrm.2.2) rfl ?_
      rintro _ w8 ⟨uv, rfl, n8, labu, pvs, to8⟩
      have b8 := b7.chg n8 id
      have n08 := New.trans n07 n8
      have ru := to8.rd
      clear to8
      unfold relay at hr1 hr2
      have hlok : (layM t r.piece).2 = 0 → treeOk (layM t r.piece).1 = true := fun e => (layF (t := t) (u := (layM t r.piece).1) (p := r.piece) (Prod.ext rfl e)).tu
      generalize layM t r.piece = LM at ru hr1 hr2 hlok ⊢
      obtain ⟨u, e8⟩ := LM
      dsimp only at ru hr1 hr2 hlok ⊢
      by_cases he8 : e8 = 0
      rotate_left
      · rw [if_pos he8] at hr1
        dsimp only at hr1
        rw [hr1, if_pos he8]
        (repeat' (first | refine Wl.moveE (by conv => { lhs; whnf }) ?_ | refine Wl.assignE (by conv => { lhs; whnf }) ?_ | refine Wl.nil ?_ | refine Wl.extract rfl rfl ?_ | refine Qseq.normal ?_ | refine Wc.seq ?_ | refine Wc.region ?_ | refine Wc.ret ?_ | refine Qseq.ret ?_ | refine Qblk.ret ?_ | refine Qloop.ret ?_ | refine Wc.condT rfl ?_ | (refine Wl.neq rfl rfl (fun _ => ?_) (fun _ => ?_) <;> (first | (exfalso; omega) | skip))))
        exact Qfn.ret1 rfl rfl ⟨_, rfl, rfl, ⟨lab, _, _, h.new n08, fun _ _ => rfl⟩, n08.any⟩
      · subst he8
        rw [if_neg (by simp)] at hr1 hr2
        dsimp only at hr1 hr2
        obtain ⟨ua, uc, rfl, _, _⟩ := ru.form
        (repeat' (first | refine Wl.moveE (by conv => { lhs; whnf }) ?_ | refine Wl.assignE (by conv => { lhs; whnf }) ?_ | refine Wl.nil ?_ | refine Wl.extract rfl rfl ?_ | refine Qseq.normal ?_ | refine Wc.seq ?_ | refine Wc.region ?_ | refine Wc.skip ?_ | refine Wc.condF rfl ?_ | refine Wl.fieldAddr rfl rfl ?_ | (refine Wl.neq rfl rfl (fun _ => ?_) (fun _ => ?_) <;> (first | (exfalso; omega) | skip))))
        refine Wl.load1 rfl (b8.cell (o := 0) rfl) ?_
        (repeat' (refine Wl.fieldAddr rfl rfl ?_))
        refine Wl.loadAt (pcAt w8 b8) rfl rfl ?_
        (repeat' (refine Wl.moveE (by conv => { lhs; whnf }) ?_))
        refine Wl.buildG (ps := [(0, .tmp 57), (1, .tmp 59), (2, .tmp 60)]) (parts := [(0, vi r.n), (1, .agg #[vs r.piece.target, .slice na r.piece.nodes.length nc, .slice da r.piece.drop.length dc]), (2, .slice ua u.length uc)]) rfl run_buildRow ?_
        have s5 := n5.size
        have s57 := n57.size
        have s8 := n8.size
        have rn8 : RdS rNd 3 (fun b => (lab b = some false ∨ w7.heap.size ≤ b) ∧ b < w8.heap.size) w8 (.slice na r.piece.nodes.length nc) r.piece.nodes := (rn7.keep stableNd n8.keep).mono monoNd fun b hb e => ⟨.inl e.2, hb⟩
        have rd8 : RdS (one vs) 1 (fun b => (lab b = some false ∨ w7.heap.size ≤ b) ∧ b < w8.heap.size) w8 (.slice da r.piece.drop.length dc) r.piece.drop := (rd7.keep (stable_one _) n8.keep).mono (mono_one _) fun b hb e => ⟨.inl e.2, hb⟩
        have ru8 : RdS rNd 3 (fun b => (lab b = some false ∨ w7.heap.size ≤ b) ∧ b < w8.heap.size) w8 (.slice ua u.length uc) u := ru.mono monoNd fun b hb e => ⟨.inr e, hb⟩
        refine Wl.buildSlice1 (R := rRow) (y := ⟨r.n, r.piece, u⟩) (Pe := fun b => (lab b = some false ∨ w7.heap.size ≤ b) ∧ b < w8.heap.size) goodRow rfl rfl rfl ⟨_, _, _, rfl, rn8.mono monoNd fun b _ e => ⟨e, by omega⟩, rd8.mono (mono_one _) fun b _ e => ⟨e, by omega⟩, ru8.mono monoNd fun b _ e => ⟨e, by omega⟩⟩ (by omega) (by omega) fun vt w9 ot n9 s9 hobt => ?_
        have n89 := New.trans n8 n9
        have n09 := New.trans n07 n89
        have o9 := o7.new' stableRow n89
        have hown : ∀ b, rvi.ownBlock = some b → w.heap.size ≤ b ∧ b < w5.heap.size := fun b e => o5.lt e
        refine Wl.appendAll goodRow o9 (ot.rd monoRow) (fun y cs hy => monoRow _ _ _ _ _ (fun b hb e => ⟨by
          rcases e with e | ⟨e | e, _⟩
          · exact .inr (by omega)
          · exact .inl e
          · exact .inr (by omega), fun e' => by
          have h1 := hown b e'
          rcases e with e | ⟨e | e, _⟩
          · omega
          · have := lowb b _ e; omega
          · omega⟩) hy) rfl rfl (by omega) (by simp only [maxLen, List.length_singleton]; omega) (by simp only [List.length_singleton]; omega) fun rv10 w10 o10 c10 lie _ => ?_
        have s10 := c10.size
        have n010 : New w w10 := Chg.trans n09 c10 fun b hb e => by have := hown b e; omega
        (repeat' (first | refine Wl.moveE (by conv => { lhs; whnf }) ?_ | refine Wl.assignE (by conv => { lhs; whnf }) ?_ | refine Wl.nil ?_ | refine Qseq.normal ?_ | refine Wc.region ?_ | refine Qblk.normal ?_ | refine Wl.add rfl rfl (by omega) (by omega) ?_))
        refine Qloop.normal (i + 1, u, .slice ua u.length uc, done ++ [⟨r.n, r.piece, u⟩], rv10) ⟨rfl, rfl, rfl, rfl, rfl, rfl, trivial⟩ ⟨by dsimp only; omega, hlok rfl, hr1, by dsimp only; rw [hr2, List.append_assoc]; rfl, by simp; omega, ?_, o10.mono monoRow (fun b _ e => by rcases e with e | e <;> omega) (fun _ _ e => e), n010⟩ (by dsimp only; omega)
        have ru9 := (ru8.keep stableNd n9.keep).keep stableNd (c10.keep fun b _ hb e => by
          have h1 := hown b e
          rcases hb.1 with e2 | e2
          · have := lowb b _ e2; omega
          · omega)
        exact ru9.mono monoNd fun b _ e => ⟨by rcases e.1 with e2 | e2; exact .inl e2; exact .inr (by omega), fun e' => by
          rcases lie with lie | lie
          · have h1 := hown b (lie ▸ e')
            rcases e.1 with e2 | e2
            · have := lowb b _ e2; omega
            · omega
          · have h1 := lie b e'
            have := e.2
            omega⟩
    · have e : i = rest.length := by omega
      subst e
      rw [List.drop_length] at hr1 hr2
      simp only [relay, List.append_nil] at hr1 hr2
      rw [if_neg (by rw [hr1]; simp)]
      have h5 := h.new n5
      have hv5 : rvi.oneCell' = true := by obtain ⟨_, _, rfl, _⟩ := o5.form; rfl
      refine Wl.store1 h5.bk rfl (show (1 : Nat) < 3 by omega) rfl hv5 fun w6 k6 c6 => ?_
      replace k6 : Bk w6 bl tStk [bv, rvi, vi S.laid] := k6
      have hblw : bl < w.heap.size := h.bk.lt
      have s5 := n5.size
      have s6 := c6.size
      have o6 := o5.keep stableRow (c6.keep fun b _ hb e => by omega) (c6.keep fun b _ hb e => by rcases hb with hb | hb; rw [e, h.lb] at hb; cases hb; omega)
      have base6 := h5.base.keep stableNd (c6.keep fun b _ hb e => by rw [e, h.lb] at hb; cases hb)
      (repeat' (first | refine Wl.assignE (by conv => { lhs; whnf }) ?_ | refine Wl.nil ?_ | refine Qseq.normal ?_ | refine Wc.seq ?_ | refine Wc.region ?_ | refine Wc.ret ?_))
      refine Qfn.ret1 rfl rfl ⟨_, rfl, rfl, ⟨fun b => if b < w.heap.size then lab b else if b < w6.heap.size then (if rvi.ownBlock = some b then some true else some false) else none, bv, rvi, ⟨fun b c e => ?_, by rw [if_pos hblw]; exact h.lb, k6, base6.mono monoNd fun b _ e => (by rw [if_pos (lowb b _ e)]; exact e), ?_⟩, fun b hb => if_pos hb⟩, Chg.trans n5.any c6 fun b _ e => e ▸ h.lb⟩
      · split at e
        · have := h.low b c e; omega
        · split at e
          · omega
          · cases e
      · show OwnS rRow tRow 5 _ _ w6 rvi (S.rows.take k ++ RES.2)
        rw [hr2]
        refine ownE monoRow o6 (fun b hb e1 e2 => ⟨by rw [if_neg (by omega), if_pos hb, if_pos e1], by omega⟩) fun b hb e1 e2 => ?_
        rcases e1 with e1 | e1
        · rw [if_pos (lowb b _ e1)]; exact e1
        · rw [if_neg (by omega), if_pos hb, if_neg e2]
end Go.Proofs.YtjpebmgllfiloaaDoor

namespace Go.Proofs.YtjpebmgllfiloaaDoor
open Go Wk

def layAll (t : List Nd) : List Pc → List Nd × Int
  | [] => (t, 0)
  | p :: r => if (layM t p).2 ≠ 0 then ([], (layM t p).2) else layAll (layM t p).1 r
/-- Rows that hold what laying gives. -/
def ConsR (t : List Nd) : List SRow → Prop
  | [] => True
  | r :: rs => layM t r.piece = (r.tree, 0) ∧ ConsR r.tree rs
def topR (t : List Nd) : List SRow → List Nd
  | [] => t
  | r :: rs => topR r.tree rs
theorem topR_append (a b : List SRow) : ∀ t, topR t (a ++ b) = topR (topR t a) b := by
  induction a with
  | nil => intro t; rfl
  | cons r rs ih => intro t; exact ih r.tree
theorem consR_append (a b : List SRow) : ∀ t, ConsR t (a ++ b) ↔ ConsR t a ∧ ConsR (topR t a) b := by
  induction a with
  | nil => intro t; simp [ConsR, topR]
  | cons r rs ih =>
    intro t
    simp only [List.cons_append, ConsR, topR, ih r.tree]
    exact and_assoc.symm
theorem stkTop_R {base : List Nd} {laid : Int} : ∀ {rows : List SRow} {k : Nat}, k ≤ rows.length → stkTop ⟨base, rows, laid⟩ k = topR base (rows.take k) := by
  intro rows k hk
  unfold stkTop
  dsimp only
  by_cases h : k = 0
  · rw [if_pos h, h]; rfl
  · rw [if_neg h]
    obtain ⟨r, hr⟩ := get_lt rows (k := k - 1) (by omega)
    rw [hr]
    have e : rows.take k = rows.take (k - 1) ++ [r] := by
      have := take_snoc hr
      rwa [show k - 1 + 1 = k by omega] at this
    rw [e, topR_append]
    rfl
theorem layAll_cons {ps : List Pc} : ∀ {rows : List SRow} {t : List Nd}, ConsR t rows → layAll t (rows.map (·.piece) ++ ps) = layAll (topR t rows) ps
  | [], t, _ => rfl
  | r :: rs, t, h => by
    simp only [List.map_cons, List.cons_append, layAll, topR]
    rw [h.1]
    exact layAll_cons h.2
theorem layAll_relay : ∀ (rows : List SRow) (t : List Nd), (layAll t (rows.map (·.piece))).2 = (relay t rows).1 ∧ ((relay t rows).1 = 0 → ConsR t (relay t rows).2 ∧ (relay t rows).2.map (·.piece) = rows.map (·.piece) ∧ (relay t rows).2.map (·.n) = rows.map (·.n))
  | [], t => by simp [layAll, relay, ConsR]
  | r :: rs, t => by
    simp only [List.map_cons, layAll, relay]
    by_cases h : (layM t r.piece).2 ≠ 0
    · rw [if_pos h, if_pos h]
      exact ⟨rfl, fun e => absurd e h⟩
    · rw [if_neg h, if_neg h]
      have ih := layAll_relay rs (layM t r.piece).1
      refine ⟨ih.1, fun e => ?_⟩
      obtain ⟨i1, i2, i3⟩ := ih.2 e
      exact ⟨⟨Prod.ext rfl (by simpa using h), i1⟩, by simp [i2], by simp [i3]⟩
theorem layM_piece {t u : List Nd} {p : Pc} (h : layM t p = (u, 0)) : pieceOk p = true := by
  obtain ⟨τ, π, σ, nms, i0, L⟩ := laid_of h
  exact L.pk
theorem consR_ok : ∀ {rows : List SRow} {t : List Nd}, ConsR t rows → ∀ r ∈ rows, treeOk r.tree = true ∧ pieceOk r.piece = true
  | [], _, _, r, h => by simp at h
  | r :: rs, t, h, x, hx => by
    rcases List.mem_cons.1 hx with rfl | hx
    · exact ⟨layM_ok h.1, layM_piece h.1⟩
    · exact consR_ok h.2 x hx
/-- The stack's state in the law. -/
structure StI (S : Stk) (i : Nat) : Prop where
  base : treeOk S.base = true
  cons : ConsR S.base S.rows
  len : S.rows.length ≤ 16
  tg : ∀ r ∈ S.rows, r.piece.target.length ≤ 2000000
  inc : (S.rows.map (·.n)).Pairwise (· < ·)
  bd : ∀ r ∈ S.rows, r.n ≤ S.laid
  laid : 0 ≤ S.laid ∧ S.laid ≤ i
theorem StI.wf {S : Stk} {i : Nat} (h : StI S i) (hi : i ≤ 1000000) : WfS S :=
  ⟨h.base, h.len, fun r hr => ⟨(consR_ok h.cons r hr).1, (consR_ok h.cons r hr).2, h.tg r hr⟩, by have := h.laid; omega⟩
theorem StI.top {S : Stk} {i : Nat} (_ : StI S i) : stkTop S S.rows.length = topR S.base S.rows := by
  have := stkTop_R (base := S.base) (laid := S.laid) (rows := S.rows) (Nat.le_refl _)
  rwa [List.take_length] at this
theorem StI.all {S : Stk} {i : Nat} (h : StI S i) : layAll S.base (S.rows.map (·.piece)) = (stkTop S S.rows.length, 0) := by
  have := layAll_cons (ps := []) h.cons
  rw [List.append_nil] at this
  rw [this, h.top]; rfl
theorem StI.lay {S : Stk} {i : Nat} (h : StI S i) {p : Pc} (hp : p.target.length ≤ 2000000) : StI (stkLay S p).1 (i + 1) := by
  have keep : StI S (i + 1) := ⟨h.base, h.cons, h.len, h.tg, h.inc, h.bd, by have := h.laid; omega⟩
  unfold stkLay
  by_cases h1 : S.rows.length = 16
  · rw [if_pos h1]; exact keep
  · rw [if_neg h1]
    by_cases h2 : (layM (stkTop S S.rows.length) p).2 ≠ 0
    · rw [if_pos h2]; exact keep
    · rw [if_neg h2]
      have hl := h.laid
      refine ⟨h.base, ?_, ?_, fun r hr => ?_, ?_, fun r hr => ?_, ?_⟩
      · show ConsR S.base (S.rows ++ [_])
        rw [consR_append]
        refine ⟨h.cons, ?_, trivial⟩
        rw [← h.top]
        exact Prod.ext rfl (by simpa using h2)
      · have := h.len
        simp only [List.length_append, List.length_singleton]; omega
      · rcases List.mem_append.1 hr with hr | hr
        · exact h.tg r hr
        · simp at hr; subst hr; exact hp
      · show (List.map _ (S.rows ++ [_])).Pairwise (· < ·)
        rw [List.map_append, List.pairwise_append]
        refine ⟨h.inc, by simp, fun a ha b hb => ?_⟩
        obtain ⟨r, hr, rfl⟩ := List.mem_map.1 ha
        simp at hb; subst hb
        have := h.bd r hr
        omega
      · rcases List.mem_append.1 hr with hr | hr
        · have := h.bd r hr; dsimp only; omega
        · simp at hr; subst hr; dsimp only; omega
      · dsimp only; omega
/-- The rows without one number. -/
theorem stkTake_some {S : Stk} {i : Nat} (h : StI S i) {n : Int} {k : Nat} (hk : S.rows.findIdx? (fun r => decide (r.n = n)) = some k) :
    k < S.rows.length ∧ S.rows.filter (fun r => decide (r.n ≠ n)) = S.rows.take k ++ S.rows.drop (k + 1) := by
  rw [List.findIdx?_eq_some_iff_getElem] at hk
  obtain ⟨h1, h2, h3⟩ := hk
  refine ⟨h1, ?_⟩
  have e : S.rows = S.rows.take k ++ S.rows[k] :: S.rows.drop (k + 1) := by
    rw [List.getElem_cons_drop, List.take_append_drop]
  have hinc := h.inc
  have h2' : S.rows[k].n = n := of_decide_eq_true h2
  conv => lhs; rw [e]
  rw [List.filter_append, List.filter_cons, if_neg (by simp [h2'])]
  rw [e, List.map_append, List.map_cons, List.pairwise_append, List.pairwise_cons] at hinc
  congr 1
  · refine List.filter_eq_self.2 fun r hr => ?_
    have := hinc.2.2 r.n (List.mem_map.2 ⟨r, hr, rfl⟩) S.rows[k].n (by simp)
    rw [h2'] at this
    simp; omega
  · refine List.filter_eq_self.2 fun r hr => ?_
    have := hinc.2.1.1 r.n (List.mem_map.2 ⟨r, hr, rfl⟩)
    rw [h2'] at this
    simp; omega
theorem stkTake_none {S : Stk} {n : Int} (hk : S.rows.findIdx? (fun r => decide (r.n = n)) = none) : S.rows.filter (fun r => decide (r.n ≠ n)) = S.rows := by
  rw [List.findIdx?_eq_none_iff] at hk
  refine List.filter_eq_self.2 fun r hr => ?_
  have := hk r hr
  simpa using this
/-- What the references' Take comes to. -/
theorem take_ref {S : Stk} {i : Nat} (h : StI S i) (n : Int) :
    ((S.rows.filter fun r => decide (r.n ≠ n)).length = S.rows.length ∧ stkTake S n = (S, 1)) ∨
    ((S.rows.filter fun r => decide (r.n ≠ n)).length ≠ S.rows.length ∧ (layAll S.base ((S.rows.filter fun r => decide (r.n ≠ n)).map (·.piece))).2 = (stkTake S n).2 ∧
      ((stkTake S n).2 ≠ 0 → (stkTake S n).1 = S) ∧ ((stkTake S n).2 = 0 → (stkTake S n).1.base = S.base ∧ (stkTake S n).1.laid = S.laid ∧ (stkTake S n).1.rows.map (·.piece) = (S.rows.filter fun r => decide (r.n ≠ n)).map (·.piece) ∧
        (stkTake S n).1.rows.map (·.n) = (S.rows.filter fun r => decide (r.n ≠ n)).map (·.n) ∧ ConsR S.base (stkTake S n).1.rows)) := by
  unfold stkTake
  cases hk : S.rows.findIdx? (fun r => decide (r.n = n)) with
  | none =>
    left
    rw [stkTake_none hk]
    exact ⟨rfl, rfl⟩
  | some k =>
    right
    obtain ⟨hkl, hf⟩ := stkTake_some h hk
    rw [hf]
    have hc := h.cons
    have e : S.rows = S.rows.take k ++ S.rows.drop k := (List.take_append_drop _ _).symm
    rw [e, consR_append] at hc
    have ht : stkTop S k = topR S.base (S.rows.take k) := stkTop_R (base := S.base) (laid := S.laid) (by omega)
    have hl := layAll_relay (S.rows.drop (k + 1)) (stkTop S k)
    have ha : layAll S.base ((S.rows.take k ++ S.rows.drop (k + 1)).map (·.piece)) = layAll (stkTop S k) ((S.rows.drop (k + 1)).map (·.piece)) := by
      rw [List.map_append, layAll_cons hc.1, ht]
    refine ⟨by simp; omega, ?_⟩
    rw [ha, hl.1]
    dsimp only
    by_cases h0 : (relay (stkTop S k) (S.rows.drop (k + 1))).1 ≠ 0
    · rw [if_pos h0]
      exact ⟨rfl, fun _ => rfl, fun e => absurd e h0⟩
    · rw [if_neg h0]
      obtain ⟨r1, r2, r3⟩ := hl.2 (by simpa using h0)
      refine ⟨by simpa using h0, fun e => absurd rfl e, fun _ => ⟨rfl, rfl, ?_, ?_, ?_⟩⟩
      · simp only [List.map_append, r2]
      · simp only [List.map_append, r3]
      · show ConsR S.base (S.rows.take k ++ _)
        rw [consR_append]
        exact ⟨hc.1, by rw [← ht]; exact r1⟩
theorem StI.take {S : Stk} {i : Nat} (h : StI S i) (n : Int) : StI (stkTake S n).1 i := by
  rcases take_ref h n with ⟨_, e⟩ | ⟨hne, _, h1, h2⟩
  · rw [e]; exact h
  · by_cases h0 : (stkTake S n).2 = 0
    · obtain ⟨b1, b2, b3, b4, b5⟩ := h2 h0
      have hlen : (stkTake S n).1.rows.length = (S.rows.filter fun r => decide (r.n ≠ n)).length := by simpa using congrArg List.length b4
      refine ⟨by rw [b1]; exact h.base, by rw [b1]; exact b5, ?_, fun r hr => ?_, ?_, fun r hr => ?_, by rw [b2]; exact h.laid⟩
      · have := List.length_filter_le (fun r : SRow => decide (r.n ≠ n)) S.rows
        have := h.len; omega
      · have hm : r.piece ∈ (S.rows.filter fun r => decide (r.n ≠ n)).map (·.piece) := by rw [← b3]; exact List.mem_map.2 ⟨r, hr, rfl⟩
        obtain ⟨x, hx, e⟩ := List.mem_map.1 hm
        have := h.tg x (List.mem_filter.1 hx).1
        rwa [e] at this
      · rw [b4]
        exact List.Pairwise.sublist (List.Sublist.map _ List.filter_sublist) h.inc
      · have hm : r.n ∈ (S.rows.filter fun r => decide (r.n ≠ n)).map (·.n) := by rw [← b4]; exact List.mem_map.2 ⟨r, hr, rfl⟩
        obtain ⟨x, hx, e⟩ := List.mem_map.1 hm
        have := h.bd x (List.mem_filter.1 hx).1
        rw [b2, ← e]; exact this
    · rw [h1 h0]; exact h
/-- A piece that is the root alone. -/
def rootP : Pc := ⟨[47], [⟨-1, [], []⟩], []⟩
theorem layM_root (t : List Nd) : (layM t rootP).2 = if treeOk t = true then 0 else 40 := by
  by_cases h : treeOk t = true
  · rw [if_pos h]
    obtain ⟨τ, rfl, hτ⟩ := treeOk_parse h
    have hp : pieceOk rootP = true := by kernel_rfl
    rw [layM_T (τ := τ) (π := .mk [] [] []) hp (by rfl) hτ]
    have hn : pathN rootP.target = some [] := by kernel_rfl
    have e : layO rootP.drop [] (.mk [] [] []) τ = τ := by
      cases τ with
      | mk n ps ks =>
        have hd : dropPr [] ps = ps := by unfold dropPr; simp
        simp only [layO, updP, rootP, dropT, hd, layT, layK, List.foldl_nil]
    rw [hn]
    simp only [Option.bind_some, atP, Option.map_some]
    rw [e, if_pos hτ]
  · rw [if_neg h]
    unfold layM
    rw [if_neg h]
end Go.Proofs.YtjpebmgllfiloaaDoor

namespace Go.Proofs.YtjpebmgllfiloaaDoor
open Go Wk

/-- A node and those above it, from it on. -/
def ancF (l : List Nd) : Nat → Nat → List Nat
  | 0, _ => []
  | f + 1, i => i :: (match l[i]? with | some x => if x.parent < 0 then [] else ancF l f x.parent.toNat | none => [])
def anc (l : List Nd) (i : Nat) : List Nat := ancF l (i + 1) i
def sameKid (x y : Nd) : Bool := decide (y.parent = x.parent) && decide (y.name = x.name)
def nextOk (l : List Nd) (i : Nat) : Bool := match l[i]? with
  | none => false
  | some x => decide (i < 512) && (propsOk x.props && (if i = 0 then decide (x.parent = -1) && decide (x.name = []) else
      nameOk x.name && (decide (0 ≤ x.parent) && (decide (x.parent < i) && ((anc l (i - 1)).contains x.parent.toNat && (decide ((anc l x.parent.toNat).length + 1 ≤ 16) && !((l.take i).drop 1).any (sameKid x)))))))
/-- Parents stand ahead. -/
def Down (l : List Nd) (n : Nat) : Prop := ∀ (j : Nat) (x : Nd), j < n → l[j]? = some x → x.parent < j
section
variable {l : List Nd} {n : Nat}
theorem ancF_eq (h : Down l n) : ∀ (i f : Nat), i < n → i < f → ancF l f i = anc l i := by
  intro i
  induction i using Nat.strongRecOn with
  | ind i ih =>
    intro f hi hf
    obtain ⟨f, rfl⟩ : ∃ g, f = g + 1 := ⟨f - 1, by omega⟩
    unfold anc
    rw [ancF, ancF]
    cases hx : l[i]? with
    | none => rfl
    | some x =>
      dsimp only
      by_cases hp : x.parent < 0
      · rw [if_pos hp, if_pos hp]
      · have := h i x hi hx
        rw [if_neg hp, if_neg hp, ih x.parent.toNat (by omega) f (by omega) (by omega), ih x.parent.toNat (by omega) i (by omega) (by omega)]
theorem anc_step (h : Down l n) {i : Nat} {x : Nd} (hi : i < n) (hx : l[i]? = some x) : anc l i = i :: (if x.parent < 0 then [] else anc l x.parent.toNat) := by
  have := h i x hi hx
  unfold anc
  rw [ancF, hx]
  dsimp only
  by_cases hp : x.parent < 0
  · rw [if_pos hp, if_pos hp]
  · rw [if_neg hp, if_neg hp, ancF_eq h x.parent.toNat i (by omega) (by omega)]; rfl
theorem anc_head (l : List Nd) (i : Nat) : ∃ r, anc l i = i :: r := ⟨_, rfl⟩
theorem anc_mem (h : Down l n) {p : Nat} : ∀ (m : Nat), m < n → m < l.length → p ∈ anc l m → ∃ pre, anc l m = pre ++ anc l p := by
  intro m
  induction m using Nat.strongRecOn with
  | ind m ih =>
    intro hm hl hp
    obtain ⟨x, hx⟩ := get_lt l hl
    have hs := anc_step h hm hx
    have hd := h m x hm hx
    rw [hs] at hp
    rcases List.mem_cons.1 hp with rfl | hp
    · exact ⟨[], rfl⟩
    · by_cases h0 : x.parent < 0
      · rw [if_pos h0] at hp; simp at hp
      · rw [if_neg h0] at hp hs
        obtain ⟨pre, e⟩ := ih x.parent.toNat (by omega) (by omega) (by omega) hp
        exact ⟨m :: pre, by rw [hs, e]; rfl⟩
end
theorem nextOk_down {l : List Nd} {n : Nat} (h : ∀ j, j < n → nextOk l j = true) : Down l n := fun j x hj hx => by
  have := h j hj
  unfold nextOk at this
  rw [hx] at this
  simp only [Bool.and_eq_true] at this
  by_cases h0 : j = 0
  · rw [if_pos h0] at this
    simp only [Bool.and_eq_true, decide_eq_true_eq] at this
    omega
  · rw [if_neg h0] at this
    simp only [Bool.and_eq_true, decide_eq_true_eq] at this
    exact this.2.2.2.2.1
theorem chk_next (l : List Nd) : ∀ (k i : Nat) (dp pt : List Int) (sn : List Kid), l.length - i = k → i ≤ l.length → (∀ j, j < i → nextOk l j = true) → dp.length = i → (∀ j, j < i → dp.getD j 0 = ((anc l j).length : Int)) →
    pt = (if i = 0 then [] else (anc l (i - 1)).reverse.map fun (n : Nat) => (n : Int)) → sn = ((l.take i).drop 1).map (fun y => (y.parent, y.name)) →
    ((chkGo i dp pt sn (l.drop i)).2.isSome = true ↔ ∀ j, i ≤ j → j < l.length → nextOk l j = true)
  | 0, i, dp, pt, sn, hk, hi, hall, hdl, hdp, hpt, hsn => by
    have e : i = l.length := by omega
    subst e
    rw [List.drop_length, chkGo]
    exact ⟨fun _ j h1 h2 => by omega, fun _ => rfl⟩
  | k + 1, i, dp, pt, sn, hk, hi, hall, hdl, hdp, hpt, hsn => by
    obtain ⟨x, hx⟩ := get_lt l (k := i) (by omega)
    have hdn := nextOk_down hall
    have hno : nextOk l i = (decide (i < 512) && (propsOk x.props && (if i = 0 then decide (x.parent = -1) && decide (x.name = []) else
      nameOk x.name && (decide (0 ≤ x.parent) && (decide (x.parent < i) && ((anc l (i - 1)).contains x.parent.toNat && (decide ((anc l x.parent.toNat).length + 1 ≤ 16) && !((l.take i).drop 1).any (sameKid x)))))))) := by
      conv => lhs; unfold nextOk
      rw [hx]
    have bad : ∀ (z : Int), nextOk l i = false → (((z, (none : Option (List Int))).2.isSome = true) ↔ ∀ j, i ≤ j → j < l.length → nextOk l j = true) := fun z h =>
      ⟨fun e => (by cases e), fun e => by have := e i (Nat.le_refl _) (by omega); rw [h] at this; cases this⟩
    rw [drop_cons hx, chkGo]
    by_cases c1 : 512 ≤ i ∨ propsOk x.props = false
    · rw [if_pos c1]
      refine bad _ ?_
      rw [hno]
      rcases c1 with c1 | c1
      · rw [decide_eq_false (by omega)]; rfl
      · rw [c1]; simp
    · rw [if_neg c1]
      simp only [not_or, Nat.not_le, Bool.not_eq_false] at c1
      rw [decide_eq_true c1.1, c1.2, Bool.true_and, Bool.true_and] at hno
      have step : nextOk l i = true → ∀ dp' pt' sn', dp'.length = i + 1 → (∀ j, j < i + 1 → dp'.getD j 0 = ((anc l j).length : Int)) → pt' = ((anc l i).reverse.map fun (n : Nat) => (n : Int)) → sn' = ((l.take (i + 1)).drop 1).map (fun y => (y.parent, y.name)) →
          ((chkGo (i + 1) dp' pt' sn' (l.drop (i + 1))).2.isSome = true ↔ ∀ j, i ≤ j → j < l.length → nextOk l j = true) := fun hn dp' pt' sn' h1 h2 h3 h4 => by
        rw [chk_next l k (i + 1) dp' pt' sn' (by omega) (by omega) (fun j hj => by
          rcases Nat.lt_or_ge j i with h | h
          · exact hall j h
          · obtain rfl : j = i := by omega
            exact hn) h1 h2 (by rw [if_neg (by omega)]; exact h3) h4]
        exact ⟨fun h j hj hl => by
          rcases Nat.lt_or_ge i j with h' | h'
          · exact h j h' hl
          · obtain rfl : j = i := by omega
            exact hn, fun h j hj hl => h j (by omega) hl⟩
      by_cases h0 : i = 0
      · subst h0
        rw [if_pos rfl] at hno ⊢
        by_cases c2 : x.parent ≠ -1 ∨ x.name ≠ []
        · rw [if_pos c2]
          refine bad _ ?_
          rw [hno]
          rcases c2 with c2 | c2
          · rw [decide_eq_false c2]; rfl
          · rw [decide_eq_false c2]; simp
        · rw [if_neg c2]
          simp only [ne_eq, not_or, Decidable.not_not] at c2
          rw [decide_eq_true c2.1, decide_eq_true c2.2] at hno
          have e1 : anc l 0 = [0] := by
            unfold anc
            rw [ancF, hx]
            dsimp only
            rw [if_pos (by omega)]
          obtain rfl : dp = [] := List.eq_nil_of_length_eq_zero hdl
          refine step hno _ _ _ rfl (fun j hj => ?_) (by rw [e1]; rfl) ?_
          · obtain rfl : j = 0 := by omega
            rw [e1]; rfl
          · rw [hsn]
            have : l.take (0 + 1) = [x] := by rw [take_snoc hx]; rfl
            rw [this]; simp
      · rw [if_neg h0] at hno ⊢
        rw [if_neg h0] at hpt
        by_cases c2 : nameOk x.name = false ∨ x.parent < 0 ∨ (i : Int) ≤ x.parent
        · rw [if_pos c2]
          refine bad _ ?_
          rw [hno]
          rcases c2 with c2 | c2 | c2
          · rw [c2]; rfl
          · rw [decide_eq_false (by omega)]; simp
          · rw [decide_eq_false (show ¬ x.parent < i by omega)]; simp
        · rw [if_neg c2]
          simp only [not_or, Bool.not_eq_false, Int.not_lt, Int.not_le] at c2
          obtain ⟨c2, c3, c4⟩ := c2
          obtain ⟨p, hp⟩ := Int.eq_ofNat_of_zero_le c3
          rw [c2, decide_eq_true c3, decide_eq_true c4, Bool.true_and, Bool.true_and, Bool.true_and, hp, Int.toNat_natCast] at hno
          have hpi : p < i := by omega
          rw [hp, Int.toNat_natCast, hdp p hpi, Int.toNat_natCast]
          obtain ⟨r, hr⟩ := anc_head l p
          have hpl : pt.length = (anc l (i - 1)).length := by rw [hpt]; simp
          have hd1 : (((anc l p).length : Int) - 1).toNat = r.length := by rw [hr]; simp
          rw [hd1]
          have hmem : p ∈ anc l (i - 1) ↔ ¬ ((pt.length : Int) < ((anc l p).length : Int)) ∧ pt.getD r.length 0 = (p : Int) := by
            constructor
            · intro hm
              obtain ⟨pre, e⟩ := anc_mem hdn (i - 1) (by omega) (by omega) hm
              rw [hpl, e, List.length_append]
              refine ⟨by omega, ?_⟩
              rw [hpt, e, hr, List.reverse_append, List.reverse_cons, List.map_append, List.map_append, List.append_assoc, List.getD_eq_getElem?_getD, List.getElem?_append_right (by simp)]
              simp
            · rintro ⟨h1, h2⟩
              rw [hr, List.length_cons, hpl] at h1
              rw [List.getD_eq_getElem?_getD, hpt, List.getElem?_map] at h2
              have hlt : r.length < (anc l (i - 1)).reverse.length := by rw [List.length_reverse]; omega
              rw [List.getElem?_eq_getElem hlt, Option.map_some, Option.getD_some] at h2
              have : (anc l (i - 1)).reverse[r.length] = p := by omega
              rw [← List.mem_reverse, ← this]
              exact List.getElem_mem hlt
          have hsnc : sn.contains ((p : Int), x.name) = ((l.take i).drop 1).any (sameKid x) := by
            rw [Bool.eq_iff_iff, List.contains_iff_mem, hsn, List.mem_map, List.any_eq_true]
            unfold sameKid
            simp only [Prod.mk.injEq, Bool.and_eq_true, decide_eq_true_eq, hp]
          by_cases c5 : (pt.length : Int) < ((anc l p).length : Int) ∨ pt.getD r.length 0 ≠ (p : Int) ∨ 16 < ((anc l p).length : Int) + 1 ∨ sn.contains ((p : Int), x.name) = true
          · rw [if_pos c5]
            refine bad _ ?_
            rw [hno]
            rcases c5 with c5 | c5 | c5 | c5
            · rw [show (anc l (i - 1)).contains p = false from Bool.eq_false_iff.2 fun e => (hmem.1 (List.contains_iff_mem.1 e)).1 c5]; rfl
            · rw [show (anc l (i - 1)).contains p = false from Bool.eq_false_iff.2 fun e => c5 (hmem.1 (List.contains_iff_mem.1 e)).2]; rfl
            · rw [decide_eq_false (by omega)]; simp
            · rw [← hsnc, c5]; simp
          · rw [if_neg c5]
            simp only [ne_eq, not_or, Decidable.not_not, Bool.not_eq_true] at c5
            obtain ⟨c5, c6, c7, c8⟩ := c5
            have hm := hmem.2 ⟨c5, c6⟩
            rw [List.contains_iff_mem.2 hm, decide_eq_true (by omega), ← hsnc, c8] at hno
            obtain ⟨pre, e⟩ := anc_mem hdn (i - 1) (by omega) (by omega) hm
            have hnext : nextOk l i = true := hno
            have hdn' : Down l (i + 1) := nextOk_down fun j hj => by
              rcases Nat.lt_or_ge j i with h | h
              · exact hall j h
              · obtain rfl : j = i := by omega
                exact hnext
            have hai : anc l i = i :: anc l p := by
              rw [anc_step hdn' (Nat.lt_succ_self i) hx, if_neg (by omega), hp, Int.toNat_natCast]
            refine step hnext _ _ _ (by simp [hdl]) (fun j hj => ?_) ?_ ?_
            · rcases Nat.lt_or_ge j i with h | h
              · rw [getD_left (by omega)]; exact hdp j h
              · obtain rfl : j = i := by omega
                rw [getD_last hdl, hai]; simp
            · rw [hpt, e, hai, List.reverse_append, List.map_append, List.take_append_of_le_length (by simp), List.take_of_length_le (by simp), List.reverse_cons, List.map_append]
              rfl
            · rw [hsn, take_snoc hx, List.drop_append_of_le_length (by simp; omega), List.map_append, ← hp]; rfl
/-- The same nodes are a tree. -/
theorem treeOk_next (l : List Nd) : treeOk l = true ↔ (∀ j, j < l.length → nextOk l j = true) ∧ 0 < l.length := by
  have h := chk_next l l.length 0 [] [] [] (by omega) (Nat.zero_le _) (fun j hj => by omega) rfl (fun j hj => by omega) rfl (by simp)
  rw [List.drop_zero] at h
  unfold treeOk
  rw [Bool.and_eq_true, decide_eq_true_eq, h]
  exact ⟨fun h => ⟨fun j hj => h.1 j (Nat.zero_le _) hj, h.2⟩, fun h => ⟨fun j _ hj => h.1 j hj, h.2⟩⟩
theorem anc_length {l : List Nd} {n : Nat} (h : Down l n) : ∀ i, i < n → (anc l i).length ≤ i + 1 := by
  intro i
  induction i using Nat.strongRecOn with
  | ind i ih =>
    intro hi
    cases hx : l[i]? with
    | none => unfold anc; rw [ancF, hx]; simp
    | some x =>
      have := h i x hi hx
      rw [anc_step h hi hx, List.length_cons]
      split
      · simp
      · have := ih x.parent.toNat (by omega) (by omega); omega
end Go.Proofs.YtjpebmgllfiloaaDoor

namespace Go.Proofs.YtjpebmgllfiloaaDoor
open Go Wk
open Go.RowKit (Below)
attribute [local irreducible] Go.Calls

theorem signs_iff (c : UInt8) : signs.contains c = true ↔ (97 ≤ c.toNat ∧ c.toNat ≤ 122) ∨ (48 ≤ c.toNat ∧ c.toNat ≤ 57) ∨ c.toNat = 44 ∨ c.toNat = 46 ∨ c.toNat = 95 ∨ c.toNat = 43 ∨ c.toNat = 45 ∨ c.toNat = 64 ∨ c.toNat = 35 ∨ c.toNat = 63 := by
  have key : ∀ n : Fin 256, signs.contains (UInt8.ofNat n.val) = true ↔ (97 ≤ n.val ∧ n.val ≤ 122) ∨ (48 ≤ n.val ∧ n.val ≤ 57) ∨ n.val = 44 ∨ n.val = 46 ∨ n.val = 95 ∨ n.val = 43 ∨ n.val = 45 ∨ n.val = 64 ∨ n.val = 35 ∨ n.val = 63 := by
    rw [signs_eq]; decide +kernel
  have := key ⟨c.toNat, c.toNat_lt⟩
  simpa using this
set_option maxHeartbeats 4000000 in
theorem NameR_spec {w : World} {s : List UInt8} : Calls Tryd.prog 50 #[vs s] w (Ret fun r w' => r = .bool (nameOk s) ∧ w = w') := by
  refine calls_of_Wc Tryd.func50 rfl Tryd.ntmps50 rfl ?_
  (repeat' (first | refine Wl.moveE (by conv => { lhs; whnf }) ?_ | refine Wl.assignE (by conv => { lhs; whnf }) ?_ | refine Wl.nil ?_ | refine Wl.guardY rfl rfl ?_ | refine Wl.guardN rfl rfl ?_ | refine Wl.pickTE rfl (by conv => { lhs; whnf }) ?_ | refine Wl.pickFE rfl (by conv => { lhs; whnf }) ?_ | refine Wl.lenStr rfl ?_ | refine Qseq.normal ?_ | refine Wc.seq ?_ | refine Wc.region ?_ | refine Wc.block ?_ | refine Wc.skip ?_ | refine Wc.ret ?_ | refine Qseq.ret ?_ | refine Wc.condT rfl ?_ | refine Wc.condF rfl ?_ | refine Wl.lss rfl rfl (fun _ => ?_) (fun _ => ?_) | refine Wl.gtr rfl rfl (fun _ => ?_) (fun _ => ?_)))
  · refine Qfn.ret1 rfl rfl ⟨_, rfl, ?_, rfl⟩
    have e : s = [] := List.eq_nil_of_length_eq_zero (by omega)
    subst e; rfl
  · refine Qfn.ret1 rfl rfl ⟨_, rfl, ?_, rfl⟩
    unfold nameOk
    rw [decide_eq_false (by omega)]; rfl
  · have hne : s ≠ [] := fun e => by subst e; simp at *
    have hle : s.length ≤ 31 := by omega
    refine Wc.loop (σ := Nat) (fun i => [(0, vs s), (3, vi i)]) (fun i w' => i ≤ s.length ∧ (s.take i).all (fun c => signs.contains c) = true ∧ w = w') (fun i => s.length - i) 0 ⟨rfl, rfl, trivial⟩ ⟨Nat.zero_le _, rfl, rfl⟩ ?_
    rintro i G _ ⟨hi, hall, rfl⟩
    simp only [upds]
    (repeat' (first | refine Wl.moveE (by conv => { lhs; whnf }) ?_ | refine Wl.assignE (by conv => { lhs; whnf }) ?_ | refine Wl.nil ?_ | refine Wl.lenStr rfl ?_ | refine Qseq.normal ?_ | refine Wc.seq ?_ | refine Wc.region ?_ | refine Wc.block ?_ | refine Wc.skip ?_ | refine Wc.exit ?_ | refine Wc.ret ?_ | refine Qseq.exit ?_ | refine Qblk.hit ?_ | refine Qloop.exit ?_ | refine Wc.condT rfl ?_ | refine Wc.condF rfl ?_ | refine Wl.lss rfl rfl (fun _ => ?_) (fun _ => ?_)))
    · obtain ⟨c, hc⟩ := get_byte s (k := i) (by omega)
      refine Wl.idxStr rfl rfl (by omega) hc ?_
      have hbad : ¬ ((97 ≤ c.toNat ∧ c.toNat ≤ 122) ∨ (48 ≤ c.toNat ∧ c.toNat ≤ 57) ∨ c.toNat = 44 ∨ c.toNat = 46 ∨ c.toNat = 95 ∨ c.toNat = 43 ∨ c.toNat = 45 ∨ c.toNat = 64 ∨ c.toNat = 35 ∨ c.toNat = 63) → Value.bool false = Value.bool (nameOk s) := fun h => by
        unfold nameOk
        rw [all_fail hc (Bool.eq_false_iff.2 fun e => h ((signs_iff c).1 e)), Bool.and_false]
      have hgood := (signs_iff c).2
      (repeat' (first | refine Wl.moveE (by conv => { lhs; whnf }) ?_ | refine Wl.assignE (by conv => { lhs; whnf }) ?_ | refine Wl.nil ?_ | refine Wl.guardY rfl rfl ?_ | refine Wl.guardN rfl rfl ?_ | refine Wl.guardU rfl ?_ | refine Wl.pickTE rfl (by conv => { lhs; whnf }) ?_ | refine Wl.pickFE rfl (by conv => { lhs; whnf }) ?_ | refine Wl.notB rfl ?_ | refine Qseq.normal ?_ | refine Wc.seq ?_ | refine Wc.region ?_ | refine Wc.skip ?_ | refine Wc.ret ?_ | refine Qseq.ret ?_ | refine Qblk.normal ?_ | refine Qblk.ret ?_ | refine Qloop.ret ?_ | refine Wc.condT rfl ?_ | refine Wc.condF rfl ?_ | refine Wl.add rfl rfl (by omega) (by omega) ?_ | (refine Wl.leq rfl rfl (fun _ => ?_) (fun _ => ?_) <;> (first | (exfalso; omega) | skip)) | (refine Wl.geq rfl rfl (fun _ => ?_) (fun _ => ?_) <;> (first | (exfalso; omega) | skip)) | (refine Wl.eql rfl rfl (fun _ => ?_) (fun _ => ?_) <;> (first | (exfalso; omega) | skip))))
      all_goals first
        | exact Qfn.ret1 rfl rfl ⟨_, rfl, hbad (by omega), rfl⟩
        | exact Qloop.normal (i + 1) ⟨rfl, rfl, trivial⟩ ⟨by omega, all_step hc hall (hgood (by omega)), rfl⟩ (by omega)
    · have e : i = s.length := by omega
      subst e
      rw [List.take_length] at hall
      refine Qfn.ret1 rfl rfl ⟨_, rfl, ?_, rfl⟩
      unfold nameOk
      rw [hall, decide_eq_true ⟨hne, hle⟩]; rfl
theorem propsGo_bad {l : List Pr} {k i : Nat} {p q : Pr} : ∀ {seen : List (List UInt8)}, l[k]? = some p → l[i]? = some q → k < i → p.1 = q.1 → propsGo seen l = false := by
  induction l generalizing k i with
  | nil => intro seen h; simp at h
  | cons x r ih =>
    intro seen hk hi hlt he
    obtain ⟨i, rfl⟩ : ∃ j, i = j + 1 := ⟨i - 1, by omega⟩
    rw [List.getElem?_cons_succ] at hi
    rw [propsGo]
    cases k with
    | zero =>
      simp only [List.getElem?_cons_zero, Option.some.injEq] at hk
      subst hk
      have key : ∀ (r : List Pr) (j : Nat) (seen : List (List UInt8)), r[j]? = some q → seen.contains q.1 = true → propsGo seen r = false := by
        intro r
        induction r with
        | nil => intro j seen h; simp at h
        | cons y r ih2 =>
          intro j seen hj hs
          rw [propsGo]
          cases j with
          | zero =>
            simp only [List.getElem?_cons_zero, Option.some.injEq] at hj
            subst hj
            rw [hs]; simp
          | succ j =>
            rw [List.getElem?_cons_succ] at hj
            rw [ih2 j _ hj (List.contains_iff_mem.2 (List.mem_append.2 (.inl (List.contains_iff_mem.1 hs))))]; simp
      rw [key r i _ hi (List.contains_iff_mem.2 (by rw [he]; simp))]; simp
    | succ k =>
      rw [List.getElem?_cons_succ] at hk
      rw [ih hk hi (by omega) he]; simp
theorem propsGo_one {l : List Pr} {i : Nat} {q : Pr} : ∀ {seen : List (List UInt8)}, l[i]? = some q → (nameOk q.1 = false ∨ 1024 < q.2.length) → propsGo seen l = false := by
  induction l generalizing i with
  | nil => intro seen h; simp at h
  | cons x r ih =>
    intro seen hi h
    rw [propsGo]
    cases i with
    | zero =>
      simp only [List.getElem?_cons_zero, Option.some.injEq] at hi
      subst hi
      rcases h with h | h
      · rw [h]; rfl
      · rw [decide_eq_false (by omega)]; simp
    | succ i =>
      rw [List.getElem?_cons_succ] at hi
      rw [ih hi h]; simp
theorem propsGo_all {l : List Pr} : ∀ {seen : List (List UInt8)}, (∀ (i : Nat) (q : Pr), l[i]? = some q → nameOk q.1 = true ∧ q.2.length ≤ 1024 ∧ q.1 ∉ seen ∧ ∀ (k : Nat) (p : Pr), k < i → l[k]? = some p → p.1 ≠ q.1) → propsGo seen l = true := by
  induction l with
  | nil => intro _ _; rfl
  | cons x r ih =>
    intro seen h
    have h0 := h 0 x rfl
    rw [propsGo, h0.1, decide_eq_true h0.2.1, show seen.contains x.1 = false from Bool.eq_false_iff.2 fun e => h0.2.2.1 (List.contains_iff_mem.1 e), ih fun i q hq => ?_]
    · rfl
    · have h1 := h (i + 1) q (by simpa using hq)
      refine ⟨h1.1, h1.2.1, fun e => ?_, fun k p hk hp => h1.2.2.2 (k + 1) p (by omega) (by simpa using hp)⟩
      rcases List.mem_append.1 e with e | e
      · exact h1.2.2.1 e
      · simp at e
        exact h1.2.2.2 0 x (by omega) rfl e.symm
set_option maxHeartbeats 1000000 in
theorem propsR_spec {Pb : Nat → Prop} {w : World} {v : Value} {l : List Pr} (h : RdS rPr 2 Pb w v l) :
    Calls Tryd.prog 81 #[v] w (Ret fun r w' => r = .bool (propsOk l) ∧ New w w') := by
  obtain ⟨a, cap, rfl, hc1, hc2⟩ := h.form
  simp only [maxLen] at hc2
  unfold propsOk
  refine calls_of_Wc Tryd.func81 rfl Tryd.ntmps81 rfl ?_
  (repeat' (first | refine Wl.moveE (by conv => { lhs; whnf }) ?_ | refine Wl.assignE (by conv => { lhs; whnf }) ?_ | refine Wl.nil ?_ | refine Wl.lenS rfl ?_ | refine Qseq.normal ?_ | refine Wc.seq ?_ | refine Wc.region ?_ | refine Wc.block ?_ | refine Wc.skip ?_ | refine Wc.ret ?_ | refine Qseq.ret ?_ | refine Wc.condT rfl ?_ | refine Wc.condF rfl ?_ | refine Wl.gtr rfl rfl (fun _ => ?_) (fun _ => ?_)))
  · rw [decide_eq_false (by omega)]
    exact Qfn.ret1 rfl rfl ⟨_, rfl, rfl, Chg.refl _ _⟩
  · rw [decide_eq_true (by omega), Bool.true_and]
    refine Wc.loop (σ := Nat) (fun i => [(0, .slice a l.length cap), (3, vi i)]) (fun i w' => i ≤ l.length ∧ (∀ (j : Nat) (q : Pr), j < i → l[j]? = some q → nameOk q.1 = true ∧ q.2.length ≤ 1024 ∧ ∀ (k : Nat) (p : Pr), k < j → l[k]? = some p → p.1 ≠ q.1) ∧ New w w') (fun i => l.length - i) 0 ⟨rfl, rfl, trivial⟩ ⟨Nat.zero_le _, fun j q hj => by omega, Chg.refl _ _⟩ ?_
    rintro i G w1 ⟨hi, hall, n1⟩
    have h1 := h.keep (stable_flat pC) n1.keep
    simp only [upds]
    (repeat' (first | refine Wl.moveE (by conv => { lhs; whnf }) ?_ | refine Wl.assignE (by conv => { lhs; whnf }) ?_ | refine Wl.nil ?_ | refine Wl.lenS rfl ?_ | refine Qseq.normal ?_ | refine Wc.seq ?_ | refine Wc.region ?_ | refine Wc.block ?_ | refine Wc.skip ?_ | refine Wc.exit ?_ | refine Wc.ret ?_ | refine Qseq.exit ?_ | refine Qblk.hit ?_ | refine Qloop.exit ?_ | refine Wc.condT rfl ?_ | refine Wc.condF rfl ?_ | refine Wl.lss rfl rfl (fun _ => ?_) (fun _ => ?_)))
    · obtain ⟨q, hq⟩ := get_lt l (k := i) (by omega)
      refine Wl.idxAddr h1 rfl rfl (by omega) hq fun b o cs hl hR hat => ?_
      obtain rfl : cs = pC q := hR
      (repeat' (refine Wl.fieldAddr rfl rfl ?_))
      refine Wl.load1 rfl (hat.get 0 rfl) ?_
      refine Wl.call (NameR_spec (s := q.1)) rfl ?_
      rintro _ _ ⟨rfl, rfl⟩
      cases hok : nameOk q.1 with
      | false =>
        (repeat' (first | refine Wl.moveE (by conv => { lhs; whnf }) ?_ | refine Wl.assignE (by conv => { lhs; whnf }) ?_ | refine Wl.nil ?_ | refine Wl.guardN rfl rfl ?_ | refine Wl.pickTE rfl (by conv => { lhs; whnf }) ?_ | refine Wl.notB rfl ?_ | refine Qseq.normal ?_ | refine Wc.seq ?_ | refine Wc.region ?_ | refine Wc.ret ?_ | refine Qseq.ret ?_ | refine Qblk.ret ?_ | refine Qloop.ret ?_ | refine Wc.condT rfl ?_))
        rw [propsGo_one hq (.inl hok)]
        exact Qfn.ret1 rfl rfl ⟨_, rfl, rfl, n1⟩
      | true =>
        (repeat' (first | refine Wl.moveE (by conv => { lhs; whnf }) ?_ | refine Wl.guardY rfl rfl ?_ | refine Wl.notB rfl ?_))
        refine Wl.idxAddr h1 rfl rfl (by omega) hq fun b o cs hl hR hat => ?_
        obtain rfl : cs = pC q := hR
        (repeat' (first | refine Wl.guardY rfl rfl ?_ | refine Wl.fieldAddr rfl rfl ?_))
        refine Wl.load1 rfl (hat.get 1 rfl) ?_
        (repeat' (first | refine Wl.assignE (by conv => { lhs; whnf }) ?_ | refine Wl.nil ?_ | refine Wl.guardY rfl rfl ?_ | refine Wl.pickFE rfl (by conv => { lhs; whnf }) ?_ | refine Wl.lenStr rfl ?_ | refine Qseq.normal ?_ | refine Wc.seq ?_ | refine Wc.region ?_ | refine Wc.block ?_ | refine Wc.skip ?_ | refine Wc.ret ?_ | refine Qseq.ret ?_ | refine Qblk.ret ?_ | refine Qloop.ret ?_ | refine Wc.condT rfl ?_ | refine Wc.condF rfl ?_ | refine Wl.gtr rfl rfl (fun _ => ?_) (fun _ => ?_)))
        · rw [propsGo_one hq (.inr (by omega))]
          exact Qfn.ret1 rfl rfl ⟨_, rfl, rfl, n1⟩
        · refine Wc.loop (σ := Nat) (fun k => [(0, .slice a l.length cap), (3, vi i), (4, vi k)]) (fun k w' => k ≤ i ∧ (∀ (k' : Nat) (p : Pr), k' < k → l[k']? = some p → p.1 ≠ q.1) ∧ New w w') (fun k => i - k) 0 ⟨rfl, rfl, rfl, trivial⟩ ⟨Nat.zero_le _, fun j q hj => by omega, n1⟩ ?_
          rintro k G w2 ⟨hk, hno, n2⟩
          have h2 := h.keep (stable_flat pC) n2.keep
          simp only [upds]
          (repeat' (first | refine Wl.moveE (by conv => { lhs; whnf }) ?_ | refine Wl.assignE (by conv => { lhs; whnf }) ?_ | refine Wl.nil ?_ | refine Qseq.normal ?_ | refine Wc.seq ?_ | refine Wc.region ?_ | refine Wc.block ?_ | refine Wc.skip ?_ | refine Wc.exit ?_ | refine Qseq.exit ?_ | refine Qblk.normal ?_ | refine Qblk.hit ?_ | refine Qloop.exit ?_ | refine Wc.condT rfl ?_ | refine Wc.condF rfl ?_ | refine Wl.add rfl rfl (by omega) (by omega) ?_ | refine Wl.lss rfl rfl (fun _ => ?_) (fun _ => ?_)))
          · obtain ⟨p, hp⟩ := get_lt l (k := k) (by omega)
            refine Wc.regionN rfl (by kernel_rfl) ?_
            (repeat' (refine Wq.moveE (by conv => { lhs; whnf }) ?_))
            refine Wq.idxAddr h2 (fun w' hw => New.keep hw) rfl rfl (by omega) hp fun b o cs hl hR hat => ?_
            obtain rfl : cs = pC p := hR
            (repeat' (refine Wq.fieldAddr rfl rfl ?_))
            refine Wq.load1 rfl (fun w' hw => (hat w' hw).get 0 rfl) ?_
            clear hat
            (repeat' (refine Wq.moveE (by conv => { lhs; whnf }) ?_))
            refine Wq.idxAddr h2 (fun w' hw => New.keep hw) rfl rfl (by omega) hq fun b o cs hl hR hat => ?_
            obtain rfl : cs = pC q := hR
            (repeat' (refine Wq.fieldAddr rfl rfl ?_))
            refine Wq.load1 rfl (fun w' hw => (hat w' hw).get 0 rfl) ?_
            clear hat
            (repeat' (first | refine Wq.nil ?_ | refine Wq.seql rfl rfl (fun _ => ?_) (fun _ => ?_)))
            · intro w3 n3
              (repeat' (first | refine Wl.assignE (by conv => { lhs; whnf }) ?_ | refine Wl.nil ?_ | refine Qseq.normal ?_ | refine Wc.seq ?_ | refine Wc.region ?_ | refine Wc.ret ?_ | refine Qseq.ret ?_ | refine Qblk.ret ?_ | refine Qloop.ret ?_ | refine Wc.condT rfl ?_))
              rw [propsGo_bad hp hq (by omega) (by assumption)]
              exact Qfn.ret1 rfl rfl ⟨_, rfl, rfl, New.trans n2 n3⟩
            · intro w3 n3
              (repeat' (first | refine Wl.moveE (by conv => { lhs; whnf }) ?_ | refine Wl.assignE (by conv => { lhs; whnf }) ?_ | refine Wl.nil ?_ | refine Qseq.normal ?_ | refine Wc.region ?_ | refine Wc.skip ?_ | refine Qblk.normal ?_ | refine Wc.condF rfl ?_ | refine Wl.add rfl rfl (by omega) (by omega) ?_))
              refine Qloop.normal (k + 1) ⟨rfl, rfl, rfl, trivial⟩ ⟨by omega, fun k' p' hk' hp' => ?_, New.trans n2 n3⟩ (by omega)
              rcases Nat.lt_or_ge k' k with h | h
              · exact hno k' p' h hp'
              · obtain rfl : k' = k := by omega
                rw [hp] at hp'
                cases hp'
                assumption
          · refine Qloop.normal (i + 1) ⟨rfl, rfl, trivial⟩ ⟨by omega, fun j q' hj hq' => ?_, n2⟩ (by omega)
            rcases Nat.lt_or_ge j i with h | h
            · exact hall j q' h hq'
            · obtain rfl : j = i := by omega
              rw [hq] at hq'
              cases hq'
              exact ⟨hok, by omega, fun k' p hk' hp => hno k' p (by omega) hp⟩
    · have e : i = l.length := by omega
      subst e
      rw [propsGo_all (seen := []) fun i q hq => by
        have := hall i q (List.getElem?_eq_some_iff.1 hq).1 hq
        exact ⟨this.1, this.2.1, by simp, this.2.2⟩]
      exact Qfn.ret1 rfl rfl ⟨_, rfl, rfl, n1⟩
theorem has_spec {Pb : Nat → Prop} {w : World} {v : Value} {l : List Int} {x : Int} (h : RdS (one vi) 1 Pb w v l) :
    Calls Tryd.prog 83 #[v, vi x] w (Ret fun r w' => r = .bool (l.contains x) ∧ w = w') := by
  obtain ⟨a, cap, rfl, hc1, hc2⟩ := h.form
  simp only [maxLen] at hc2
  refine calls_of_Wc Tryd.func83 rfl Tryd.ntmps83 rfl ?_
  (repeat' (first | refine Wl.assignE (by conv => { lhs; whnf }) ?_ | refine Wl.nil ?_ | refine Qseq.normal ?_ | refine Wc.seq ?_ | refine Wc.region ?_ | refine Wc.block ?_))
  refine Wc.loop (σ := Nat) (fun i => [(0, .slice a l.length cap), (1, vi x), (5, vi i)]) (fun i w' => i ≤ l.length ∧ l.contains x = (l.drop i).contains x ∧ w = w') (fun i => l.length - i) 0 ⟨rfl, rfl, rfl, trivial⟩ ⟨Nat.zero_le _, rfl, rfl⟩ ?_
  rintro i G _ ⟨hi, hgo, rfl⟩
  simp only [upds]
  (repeat' (first | refine Wl.moveE (by conv => { lhs; whnf }) ?_ | refine Wl.assignE (by conv => { lhs; whnf }) ?_ | refine Wl.nil ?_ | refine Wl.lenS rfl ?_ | refine Qseq.normal ?_ | refine Wc.seq ?_ | refine Wc.region ?_ | refine Wc.block ?_ | refine Wc.skip ?_ | refine Wc.exit ?_ | refine Wc.ret ?_ | refine Qseq.exit ?_ | refine Qblk.hit ?_ | refine Qloop.exit ?_ | refine Wc.condT rfl ?_ | refine Wc.condF rfl ?_ | refine Wl.lss rfl rfl (fun _ => ?_) (fun _ => ?_)))
  · obtain ⟨y, hy⟩ := get_lt l (k := i) (by omega)
    rw [drop_cons hy, List.contains_cons] at hgo
    refine Wl.idxAddrV h rfl rfl (by omega) hy fun b o hcell => ?_
    refine Wl.load1 rfl hcell ?_
    (repeat' (first | refine Wl.moveE (by conv => { lhs; whnf }) ?_ | refine Wl.assignE (by conv => { lhs; whnf }) ?_ | refine Wl.nil ?_ | refine Qseq.normal ?_ | refine Wc.seq ?_ | refine Wc.region ?_ | refine Wc.skip ?_ | refine Wc.ret ?_ | refine Qseq.ret ?_ | refine Qblk.normal ?_ | refine Qblk.ret ?_ | refine Qloop.ret ?_ | refine Wc.condT rfl ?_ | refine Wc.condF rfl ?_ | refine Wl.add rfl rfl (by omega) (by omega) ?_ | refine Wl.eql rfl rfl (fun _ => ?_) (fun _ => ?_)))
    · rw [hgo, show (x == y) = true from beq_iff_eq.2 (by omega)]
      exact Qfn.ret1 rfl rfl ⟨_, rfl, rfl, rfl⟩
    · rw [show (x == y) = false from beq_eq_false_iff_ne.2 (by omega), Bool.false_or] at hgo
      exact Qloop.normal (i + 1) ⟨rfl, rfl, rfl, trivial⟩ ⟨by omega, hgo, rfl⟩ (by omega)
  · have e : i = l.length := by omega
    subst e
    rw [hgo, List.drop_length]
    exact Qfn.ret1 rfl rfl ⟨_, rfl, rfl, rfl⟩
end Go.Proofs.YtjpebmgllfiloaaDoor

namespace Go.Proofs.YtjpebmgllfiloaaDoor
open Go Wk
open Go.RowKit (Below)
attribute [local irreducible] Go.Calls

abbrev intsOf (l : List Nat) : List Int := l.map fun (n : Nat) => (n : Int)
def ancI (l : List Nd) (i : Int) : List Nat := if i < 0 then [] else anc l i.toNat
theorem ancI_length {l : List Nd} {n : Nat} (h : Down l n) {i : Int} (hi : i < n) (h0 : -1 ≤ i) : ((ancI l i).length : Int) ≤ i + 1 := by
  unfold ancI
  split
  · simp; omega
  · have := anc_length h i.toNat (by omega)
    omega
set_option maxRecDepth 4000 in
theorem above_spec {Pb : Nat → Prop} {w : World} {v : Value} {l : List Nd} {n i : Nat} (h : RdS rNd 3 Pb w v l) (hd : Down l n) (hi : i < n) (hl : i < l.length) (h512 : i < 512) :
    Calls Tryd.prog 82 #[v, vi i] w (Ret fun r w' => OwnS (one vi) 3 1 (fun b => w.heap.size ≤ b) No w' r (intsOf (anc l i)) ∧ New w w') := by
  obtain ⟨a, cap, rfl, hc1, hc2⟩ := h.form
  simp only [maxLen] at hc2
  refine calls_of_Wc Tryd.func82 rfl Tryd.ntmps82 rfl ?_
  (repeat' (first | refine Wl.assignE (by conv => { lhs; whnf }) ?_ | refine Wl.nil ?_ | refine Qseq.normal ?_ | refine Wc.seq ?_ | refine Wc.region ?_ | refine Wc.block ?_))
  refine Wc.loop (σ := Int × Value × List Nat) (fun s => [(0, .slice a l.length cap), (1, vi s.1), (5, s.2.1)]) (fun s w' => s.1 ≤ i ∧ anc l i = s.2.2 ++ ancI l s.1 ∧ OwnS (one vi) 3 1 (fun b => w.heap.size ≤ b) No w' s.2.1 (intsOf s.2.2) ∧ New w w') (fun s => (s.1 + 1).toNat) ((i : Int), .slice none 0 0, []) ⟨rfl, rfl, rfl, trivial⟩ ⟨Int.le_refl _, ?_, OwnS.nil, Chg.refl _ _⟩ ?_
  · unfold ancI
    rw [if_neg (by omega)]; rfl
  rintro ⟨c, vo, out⟩ G w1 ⟨hc, hgo, o1, n1⟩
  dsimp only at hc hgo o1
  simp only [upds]
  have hal := anc_length hd i hi
  rw [hgo, List.length_append] at hal
  (repeat' (first | refine Wl.moveE (by conv => { lhs; whnf }) ?_ | refine Wl.assignE (by conv => { lhs; whnf }) ?_ | refine Wl.nil ?_ | refine Qseq.normal ?_ | refine Wc.seq ?_ | refine Wc.region ?_ | refine Wc.block ?_ | refine Wc.skip ?_ | refine Wc.exit ?_ | refine Wc.ret ?_ | refine Qseq.exit ?_ | refine Qblk.hit ?_ | refine Qloop.exit ?_ | refine Wc.condT rfl ?_ | refine Wc.condF rfl ?_ | refine Wl.geq rfl rfl (fun _ => ?_) (fun _ => ?_)))
  · obtain ⟨x, hx⟩ := get_lt l (k := c.toNat) (by omega)
    refine Wl.append1 (y := c) (good_one _ fun _ => rfl) o1 rfl rfl rfl rfl rfl (by omega) (by omega) (by simp only [maxLen, List.length_map]; omega) (by simp only [List.length_map]; omega) rfl rfl fun vo' w2 p o2 c2 lie => ?_
    have n2 : New w w2 := Chg.trans n1 c2 fun k hk e => by have := (o1.lt e).1; omega
    (repeat' (first | refine Wl.moveE (by conv => { lhs; whnf }) ?_ | refine Wl.assignE (by conv => { lhs; whnf }) ?_ | refine Wl.nil ?_ | refine Qseq.normal ?_ | refine Wc.region ?_))
    refine Wl.idxAddr (h.keep stableNd n2.keep) rfl rfl (by omega) hx fun b o cs hl hR hat => ?_
    obtain ⟨pv, rfl, _⟩ := hR
    (repeat' (refine Wl.fieldAddr rfl rfl ?_))
    refine Wl.load1 rfl (hat.get 0 rfl) ?_
    (repeat' (first | refine Wl.assignE (by conv => { lhs; whnf }) ?_ | refine Wl.nil ?_ | refine Qblk.normal ?_))
    have hdx := hd c.toNat x (by omega) hx
    refine Qloop.normal (x.parent, vo', out ++ [c.toNat]) ⟨rfl, rfl, rfl, trivial⟩ ⟨by dsimp only; omega, ?_, ?_, n2⟩ (by dsimp only; omega)
    · rw [hgo]
      dsimp only
      rw [List.append_assoc]
      congr 1
      unfold ancI
      rw [if_neg (by omega), anc_step hd (by omega) hx]
      rfl
    · have e : intsOf (out ++ [c.toNat]) = intsOf out ++ [c] := by simp; omega
      dsimp only
      rw [e]
      exact o2.mono (mono_one _) (fun b hb e => by have := n1.size; rcases e with e | e <;> omega) fun _ _ e => e
  · have e : ancI l c = [] := by unfold ancI; rw [if_pos (by omega)]
    rw [e, List.append_nil] at hgo
    rw [hgo]
    exact Qfn.ret1 rfl (by obtain ⟨_, _, rfl, _⟩ := o1.form; rfl) ⟨_, rfl, o1, n1⟩
theorem any_take {α : Type} {p : α → Bool} {l : List α} {k i : Nat} {x : α} (hk : k < i) (h1 : 1 ≤ k) (hx : l[k]? = some x) (hp : p x = true) : ((l.take i).drop 1).any p = true := by
  rw [List.any_eq_true]
  refine ⟨x, List.mem_iff_getElem?.2 ⟨k - 1, ?_⟩, hp⟩
  rw [List.getElem?_drop, List.getElem?_take, if_pos (by omega), show 1 + (k - 1) = k by omega]
  exact hx
theorem any_none {α : Type} {p : α → Bool} {l : List α} {i : Nat} (h : ∀ (k : Nat) (x : α), 1 ≤ k → k < i → l[k]? = some x → p x = false) : ((l.take i).drop 1).any p = false := by
  rw [List.any_eq_false]
  intro x hx
  obtain ⟨k, hk⟩ := List.mem_iff_getElem?.1 hx
  rw [List.getElem?_drop, List.getElem?_take] at hk
  split at hk
  · rw [h (1 + k) x (by omega) (by omega) hk]; simp
  · cases hk
theorem has_anc {l : List Nat} {p : Int} (h0 : 0 ≤ p) : (intsOf l).contains p = l.contains p.toNat := by
  rw [Bool.eq_iff_iff, List.contains_iff_mem, List.contains_iff_mem, List.mem_map]
  exact ⟨fun ⟨a, ha, e⟩ => by have : a = p.toNat := by omega
                              rwa [← this], fun h => ⟨_, h, by omega⟩⟩
set_option maxRecDepth 4000 in
set_option maxHeartbeats 1000000 in
theorem next_spec {Pb : Nat → Prop} {w : World} {v : Value} {l : List Nd} {i : Nat} (h : RdS rNd 3 Pb w v l) (hi : i < l.length) (hall : ∀ j, j < i → nextOk l j = true) :
    Calls Tryd.prog 75 #[v, vi i] w (Ret fun r w' => r = .bool (nextOk l i) ∧ New w w') := by
  obtain ⟨a, cap, rfl, hc1, hc2⟩ := h.form
  simp only [maxLen] at hc2
  obtain ⟨x, hx⟩ := get_lt l hi
  have hdn := nextOk_down hall
  unfold nextOk
  rw [hx]
  dsimp only
  refine calls_of_Wc Tryd.func75 rfl Tryd.ntmps75 rfl ?_
  (repeat' (first | refine Wl.moveE (by conv => { lhs; whnf }) ?_ | refine Wl.assignE (by conv => { lhs; whnf }) ?_ | refine Wl.nil ?_ | refine Qseq.normal ?_ | refine Wc.seq ?_ | refine Wc.region ?_))
  refine Wl.idxAddr h rfl rfl (by omega) hx fun b o cs hl hR hat => ?_
  obtain ⟨pv, rfl, hpr⟩ := hR
  refine Wl.loadAt hat rfl rfl ?_
  refine Wl.alloc fun w1 b1 n1 s1 => ?_
  refine Wl.storeB (new := [vi x.parent, vs x.name, pv]) b1 rfl rfl rfl rfl (show (3 : Nat) ≤ 3 from Nat.le_refl 3) (goodNd.oc Pb w x _ ⟨pv, rfl, hpr⟩ rfl) fun w2 b2 c2 s2 => ?_
  replace b2 : Bk w2 w.heap.size 37 [vi x.parent, vs x.name, pv] := b2
  have n2 : New w w2 := Chg.trans n1 c2 fun k hk e => by omega
  clear b1 c2 n1
  (repeat' (first | refine Wl.moveE (by conv => { lhs; whnf }) ?_ | refine Wl.assignE (by conv => { lhs; whnf }) ?_ | refine Wl.nil ?_ | refine Wl.guardY rfl rfl ?_ | refine Wl.guardN rfl rfl ?_ | refine Wl.pickTE rfl (by conv => { lhs; whnf }) ?_ | refine Qseq.normal ?_ | refine Wc.seq ?_ | refine Wc.region ?_ | refine Wc.ret ?_ | refine Qseq.ret ?_ | refine Wc.condT rfl ?_ | refine Wl.fieldAddr rfl rfl ?_ | refine Wl.geq rfl rfl (fun _ => ?_) (fun _ => ?_)))
  · rw [decide_eq_false (by omega), Bool.false_and]
    exact Qfn.ret1 rfl rfl ⟨_, rfl, rfl, n2⟩
  · rw [decide_eq_true (by omega), Bool.true_and]
    refine Wl.load1 rfl (b2.cell (o := 2) rfl) ?_
    refine Wl.guardY rfl rfl ?_
    refine Wl.call (propsR_spec (hpr.keep (stable_flat pC) n2.keep)) rfl ?_
    rintro _ w3 ⟨rfl, n3⟩
    have b3 := b2.keep n3.keep (Pb := fun _ => True) trivial
    replace n3 := New.trans n2 n3
    clear b2 n2
    cases hpo : propsOk x.props with
    | false =>
      (repeat' (first | refine Wl.assignE (by conv => { lhs; whnf }) ?_ | refine Wl.nil ?_ | refine Wl.guardY rfl rfl ?_ | refine Wl.pickFE rfl (by conv => { lhs; whnf }) ?_ | refine Wl.notB rfl ?_ | refine Qseq.normal ?_ | refine Wc.seq ?_ | refine Wc.region ?_ | refine Wc.ret ?_ | refine Qseq.ret ?_ | refine Wc.condT rfl ?_))
      rw [Bool.false_and]
      exact Qfn.ret1 rfl rfl ⟨_, rfl, rfl, n3⟩
    | true =>
      rw [Bool.true_and]
      (repeat' (first | refine Wl.moveE (by conv => { lhs; whnf }) ?_ | refine Wl.nil ?_ | refine Wl.guardY rfl rfl ?_ | refine Wl.pickFE rfl (by conv => { lhs; whnf }) ?_ | refine Wl.notB rfl ?_ | refine Qseq.normal ?_ | refine Wc.seq ?_ | refine Wc.region ?_ | refine Wc.skip ?_ | refine Wc.condT rfl ?_ | refine Wc.condF rfl ?_ | refine Wl.fieldAddr rfl rfl ?_ | refine Wl.eql rfl rfl (fun _ => ?_) (fun _ => ?_)))
      · have e0 : i = 0 := by omega
        subst e0
        rw [if_pos rfl]
        refine Wl.load1 rfl (b3.cell (o := 0) rfl) ?_
        (repeat' (first | refine Wl.moveE (by conv => { lhs; whnf }) ?_ | refine Wl.assignE (by conv => { lhs; whnf }) ?_ | refine Wl.nil ?_ | refine Wl.guardY rfl rfl ?_ | refine Wl.guardN rfl rfl ?_ | refine Wl.pickFE rfl (by conv => { lhs; whnf }) ?_ | refine Qseq.normal ?_ | refine Wc.ret ?_ | refine Qseq.ret ?_ | refine Wl.fieldAddr rfl rfl ?_ | refine Wl.eql rfl rfl (fun _ => ?_) (fun _ => ?_)))
        · refine Wl.load1 rfl (b3.cell (o := 1) rfl) ?_
          (repeat' (first | refine Wl.assignE (by conv => { lhs; whnf }) ?_ | refine Wl.nil ?_ | refine Wl.guardY rfl rfl ?_ | refine Wl.pickTE rfl (by conv => { lhs; whnf }) ?_ | refine Qseq.normal ?_ | refine Wc.ret ?_ | refine Qseq.ret ?_ | refine Wl.seql rfl rfl (fun _ => ?_) (fun _ => ?_)))
          · rw [decide_eq_true (by assumption), decide_eq_true (by assumption)]
            exact Qfn.ret1 rfl rfl ⟨_, rfl, rfl, n3⟩
          · rw [decide_eq_true (by assumption), decide_eq_false (by assumption)]
            exact Qfn.ret1 rfl rfl ⟨_, rfl, rfl, n3⟩
        · rw [decide_eq_false (by assumption), Bool.false_and]
          exact Qfn.ret1 rfl rfl ⟨_, rfl, rfl, n3⟩
      · rw [if_neg (show ¬ i = 0 by omega)]
        refine Wl.load1 rfl (b3.cell (o := 1) rfl) ?_
        refine Wl.call (NameR_spec (s := x.name)) rfl ?_
        rintro _ _ ⟨rfl, rfl⟩
        cases hnm : nameOk x.name with
        | false =>
          (repeat' (first | refine Wl.moveE (by conv => { lhs; whnf }) ?_ | refine Wl.assignE (by conv => { lhs; whnf }) ?_ | refine Wl.nil ?_ | refine Wl.guardN rfl rfl ?_ | refine Wl.pickTE rfl (by conv => { lhs; whnf }) ?_ | refine Wl.notB rfl ?_ | refine Qseq.normal ?_ | refine Wc.seq ?_ | refine Wc.region ?_ | refine Wc.ret ?_ | refine Qseq.ret ?_ | refine Wc.condT rfl ?_))
          rw [Bool.false_and]
          exact Qfn.ret1 rfl rfl ⟨_, rfl, rfl, n3⟩
        | true =>
          rw [Bool.true_and]
          (repeat' (first | refine Wl.moveE (by conv => { lhs; whnf }) ?_ | refine Wl.guardY rfl rfl ?_ | refine Wl.notB rfl ?_ | refine Wl.fieldAddr rfl rfl ?_))
          refine Wl.load1 rfl (b3.cell (o := 0) rfl) ?_
          (repeat' (first | refine Wl.moveE (by conv => { lhs; whnf }) ?_ | refine Wl.assignE (by conv => { lhs; whnf }) ?_ | refine Wl.nil ?_ | refine Wl.guardY rfl rfl ?_ | refine Wl.guardN rfl rfl ?_ | refine Wl.pickTE rfl (by conv => { lhs; whnf }) ?_ | refine Wl.pickFE rfl (by conv => { lhs; whnf }) ?_ | refine Qseq.normal ?_ | refine Wc.seq ?_ | refine Wc.region ?_ | refine Wc.ret ?_ | refine Qseq.ret ?_ | refine Wc.condT rfl ?_ | refine Wl.fieldAddr rfl rfl ?_ | refine Wl.lss rfl rfl (fun _ => ?_) (fun _ => ?_)))
          · rw [decide_eq_false (by omega), Bool.false_and]
            exact Qfn.ret1 rfl rfl ⟨_, rfl, rfl, n3⟩
          · rw [decide_eq_true (by omega), Bool.true_and]
            refine Wl.load1 rfl (b3.cell (o := 0) rfl) ?_
            (repeat' (first | refine Wl.moveE (by conv => { lhs; whnf }) ?_ | refine Wl.assignE (by conv => { lhs; whnf }) ?_ | refine Wl.nil ?_ | refine Wl.guardY rfl rfl ?_ | refine Wl.pickFE rfl (by conv => { lhs; whnf }) ?_ | refine Qseq.normal ?_ | refine Wc.seq ?_ | refine Wc.region ?_ | refine Wc.skip ?_ | refine Wc.ret ?_ | refine Qseq.ret ?_ | refine Wc.condT rfl ?_ | refine Wc.condF rfl ?_ | refine Wl.sub rfl rfl (by omega) (by omega) ?_ | refine Wl.geq rfl rfl (fun _ => ?_) (fun _ => ?_)))
            · rw [decide_eq_false (by omega), Bool.false_and]
              exact Qfn.ret1 rfl rfl ⟨_, rfl, rfl, n3⟩
            · rw [decide_eq_true (by omega), Bool.true_and]
              have hab := above_spec (i := i - 1) (h.keep stableNd n3.keep) hdn (by omega) (by omega) (by omega)
              rw [show ((i - 1 : Nat) : Int) = (i : Int) - 1 by omega] at hab
              refine Wl.call hab rfl ?_
              rintro uv w4 ⟨o4, n4⟩
              have b4 := b3.keep n4.keep (Pb := fun _ => True) trivial
              replace n4 := New.trans n3 n4
              (repeat' (first | refine Wl.moveE (by conv => { lhs; whnf }) ?_ | refine Wl.assignE (by conv => { lhs; whnf }) ?_ | refine Wl.nil ?_ | refine Qseq.normal ?_ | refine Wc.seq ?_ | refine Wc.region ?_ | refine Wl.fieldAddr rfl rfl ?_))
              refine Wl.load1 rfl (b4.cell (o := 0) rfl) ?_
              refine Wl.call (has_spec (x := x.parent) (o4.rd (mono_one _))) rfl ?_
              rintro _ _ ⟨rfl, rfl⟩
              rw [has_anc (by omega)]
              cases hha : (anc l (i - 1)).contains x.parent.toNat with
              | false =>
                (repeat' (first | refine Wl.moveE (by conv => { lhs; whnf }) ?_ | refine Wl.assignE (by conv => { lhs; whnf }) ?_ | refine Wl.nil ?_ | refine Wl.guardN rfl rfl ?_ | refine Wl.pickTE rfl (by conv => { lhs; whnf }) ?_ | refine Wl.notB rfl ?_ | refine Qseq.normal ?_ | refine Wc.seq ?_ | refine Wc.region ?_ | refine Wc.ret ?_ | refine Qseq.ret ?_ | refine Wc.condT rfl ?_))
                rw [Bool.false_and]
                exact Qfn.ret1 rfl rfl ⟨_, rfl, rfl, n4⟩
              | true =>
                rw [Bool.true_and]
                (repeat' (first | refine Wl.moveE (by conv => { lhs; whnf }) ?_ | refine Wl.guardY rfl rfl ?_ | refine Wl.notB rfl ?_ | refine Wl.fieldAddr rfl rfl ?_))
                refine Wl.load1 rfl (b4.cell (o := 0) rfl) ?_
                refine Wl.guardY rfl rfl ?_
                have hab := above_spec (i := x.parent.toNat) (h.keep stableNd n4.keep) hdn (by omega) (by omega) (by omega)
                rw [show ((x.parent.toNat : Nat) : Int) = x.parent by omega] at hab
                refine Wl.call hab rfl ?_
                rintro uv2 w5 ⟨o5, n5⟩
                have b5 := b4.keep n5.keep (Pb := fun _ => True) trivial
                replace n5 := New.trans n4 n5
                obtain ⟨ua, uc, rfl, hu1, hu2⟩ := o5.form
                have hal := anc_length hdn x.parent.toNat (by omega)
                have hil : (intsOf (anc l x.parent.toNat)).length = (anc l x.parent.toNat).length := List.length_map _
                rw [hil]
                clear o5 o4
                (repeat' (first | refine Wl.assignE (by conv => { lhs; whnf }) ?_ | refine Wl.nil ?_ | refine Wl.guardY rfl rfl ?_ | refine Wl.pickFE rfl (by conv => { lhs; whnf }) ?_ | refine Wl.lenS rfl ?_ | refine Qseq.normal ?_ | refine Wc.seq ?_ | refine Wc.region ?_ | refine Wc.block ?_ | refine Wc.skip ?_ | refine Wc.ret ?_ | refine Qseq.ret ?_ | refine Wc.condT rfl ?_ | refine Wc.condF rfl ?_ | refine Wl.add rfl rfl (by omega) (by omega) ?_ | refine Wl.gtr rfl rfl (fun _ => ?_) (fun _ => ?_)))
                · rw [decide_eq_false (by omega), Bool.false_and]
                  exact Qfn.ret1 rfl rfl ⟨_, rfl, rfl, n5⟩
                · rw [decide_eq_true (by omega), Bool.true_and]
                  refine Wc.loop (σ := Nat) (fun k => [(0, .slice a l.length cap), (1, vi i), (5, ptrV w.heap.size), (7, vi k)]) (fun k w' => k ≤ i ∧ 1 ≤ k ∧ (∀ (j : Nat) (y : Nd), 1 ≤ j → j < k → l[j]? = some y → sameKid x y = false) ∧ Bk w' w.heap.size 37 [vi x.parent, vs x.name, pv] ∧ New w w') (fun k => i - k) 1 ⟨rfl, rfl, rfl, rfl, trivial⟩ ⟨by omega, by omega, fun j y h1 h2 => by omega, b5, n5⟩ ?_
                  rintro k G w6 ⟨hk, hk1, hno, b6, n6⟩
                  simp only [upds]
                  have h6 := h.keep stableNd n6.keep
                  (repeat' (first | refine Wl.moveE (by conv => { lhs; whnf }) ?_ | refine Wl.assignE (by conv => { lhs; whnf }) ?_ | refine Wl.nil ?_ | refine Qseq.normal ?_ | refine Wc.seq ?_ | refine Wc.region ?_ | refine Wc.block ?_ | refine Wc.skip ?_ | refine Wc.exit ?_ | refine Wc.ret ?_ | refine Qseq.exit ?_ | refine Qblk.hit ?_ | refine Qloop.exit ?_ | refine Wc.condT rfl ?_ | refine Wc.condF rfl ?_ | refine Wl.lss rfl rfl (fun _ => ?_) (fun _ => ?_)))
                  · obtain ⟨y, hy⟩ := get_lt l (k := k) (by omega)
                    refine Wc.regionN rfl (by kernel_rfl) ?_
                    (repeat' (refine Wq.moveE (by conv => { lhs; whnf }) ?_))
                    refine Wq.idxAddr h6 (fun w' hw => New.keep hw) rfl rfl (by omega) hy fun b o cs hl hR hat => ?_
                    obtain ⟨yv, rfl, _⟩ := hR
                    (repeat' (refine Wq.fieldAddr rfl rfl ?_))
                    refine Wq.load1 rfl (fun w' hw => (hat w' hw).get 0 rfl) ?_
                    clear hat
                    (repeat' (refine Wq.fieldAddr rfl rfl ?_))
                    refine Wq.load1 rfl (fun w' hw => (b6.chg hw id).cell (o := 0) rfl) ?_
                    (repeat' (first | refine Wq.moveE (by conv => { lhs; whnf }) ?_ | refine Wq.nil ?_ | refine Wq.guardY rfl rfl ?_ | refine Wq.guardN rfl rfl ?_ | refine Wq.pickFE rfl (by conv => { lhs; whnf }) ?_ | refine Wq.eql rfl rfl (fun _ => ?_) (fun _ => ?_)))
                    · refine Wq.idxAddr h6 (fun w' hw => New.keep hw) rfl rfl (by omega) hy fun b o cs hl hR hat => ?_
                      obtain ⟨yv', rfl, _⟩ := hR
                      (repeat' (first | refine Wq.guardY rfl rfl ?_ | refine Wq.fieldAddr rfl rfl ?_))
                      refine Wq.load1 rfl (fun w' hw => (hat w' hw).get 1 rfl) ?_
                      clear hat
                      (repeat' (first | refine Wq.guardY rfl rfl ?_ | refine Wq.fieldAddr rfl rfl ?_))
                      refine Wq.load1 rfl (fun w' hw => (b6.chg hw id).cell (o := 1) rfl) ?_
                      (repeat' (first | refine Wq.nil ?_ | refine Wq.guardY rfl rfl ?_ | refine Wq.pickTE rfl (by conv => { lhs; whnf }) ?_ | refine Wq.seql rfl rfl (fun _ => ?_) (fun _ => ?_)))
                      · intro w7 n7
                        (repeat' (first | refine Wl.assignE (by conv => { lhs; whnf }) ?_ | refine Wl.nil ?_ | refine Qseq.normal ?_ | refine Wc.seq ?_ | refine Wc.region ?_ | refine Wc.ret ?_ | refine Qseq.ret ?_ | refine Qblk.ret ?_ | refine Qloop.ret ?_ | refine Wc.condT rfl ?_))
                        rw [any_take (p := sameKid x) (x := y) (k := k) (by omega) hk1 hy (by unfold sameKid; rw [decide_eq_true (by assumption), decide_eq_true (by assumption)]; rfl)]
                        exact Qfn.ret1 rfl rfl ⟨_, rfl, rfl, New.trans n6 n7⟩
                      · intro w7 n7
                        (repeat' (first | refine Wl.moveE (by conv => { lhs; whnf }) ?_ | refine Wl.assignE (by conv => { lhs; whnf }) ?_ | refine Wl.nil ?_ | refine Qseq.normal ?_ | refine Wc.region ?_ | refine Wc.skip ?_ | refine Qblk.normal ?_ | refine Wc.condF rfl ?_ | refine Wl.add rfl rfl (by omega) (by omega) ?_))
                        refine Qloop.normal (k + 1) ⟨rfl, rfl, rfl, rfl, trivial⟩ ⟨by omega, by omega, fun j z h1 h2 hz => ?_, b6.chg n7 id, New.trans n6 n7⟩ (by omega)
                        rcases Nat.lt_or_ge j k with h3 | h3
                        · exact hno j z h1 h3 hz
                        · obtain rfl : j = k := by omega
                          rw [hy] at hz
                          cases hz
                          unfold sameKid
                          rw [decide_eq_false (show ¬ y.name = x.name by assumption), Bool.and_false]
                    · intro w7 n7
                      (repeat' (first | refine Wl.moveE (by conv => { lhs; whnf }) ?_ | refine Wl.assignE (by conv => { lhs; whnf }) ?_ | refine Wl.nil ?_ | refine Qseq.normal ?_ | refine Wc.region ?_ | refine Wc.skip ?_ | refine Qblk.normal ?_ | refine Wc.condF rfl ?_ | refine Wl.add rfl rfl (by omega) (by omega) ?_))
                      refine Qloop.normal (k + 1) ⟨rfl, rfl, rfl, rfl, trivial⟩ ⟨by omega, by omega, fun j z h1 h2 hz => ?_, b6.chg n7 id, New.trans n6 n7⟩ (by omega)
                      rcases Nat.lt_or_ge j k with h3 | h3
                      · exact hno j z h1 h3 hz
                      · obtain rfl : j = k := by omega
                        rw [hy] at hz
                        cases hz
                        unfold sameKid
                        rw [decide_eq_false (show ¬ y.parent = x.parent by assumption), Bool.false_and]
                  · have e : k = i := by omega
                    subst e
                    rw [any_none (p := sameKid x) hno]
                    exact Qfn.ret1 rfl rfl ⟨_, rfl, rfl, n6⟩
theorem CheckR_spec {Pb : Nat → Prop} {w : World} {v : Value} {l : List Nd} (h : RdS rNd 3 Pb w v l) :
    Calls Tryd.prog 61 #[v] w (Ret fun r w' => (∃ u : Int, r = .tuple #[vi u, vi (treeE l)]) ∧ New w w') := by
  obtain ⟨a, cap, rfl, hc1, hc2⟩ := h.form
  simp only [maxLen] at hc2
  have hno : ∀ {i : Nat}, i < l.length → nextOk l i = false → treeE l = 40 := fun {i} hi hn => by
    unfold treeE
    rw [if_neg fun e => by rw [((treeOk_next l).1 e).1 i hi] at hn; cases hn]
  refine calls_of_Wc Tryd.func61 rfl Tryd.ntmps61 rfl ?_
  (repeat' (first | refine Wl.assignE (by conv => { lhs; whnf }) ?_ | refine Wl.nil ?_ | refine Qseq.normal ?_ | refine Wc.seq ?_ | refine Wc.region ?_ | refine Wc.block ?_))
  refine Wc.loop (σ := Nat) (fun i => [(0, .slice a l.length cap), (4, vi i)]) (fun i w' => i ≤ l.length ∧ (∀ j, j < i → nextOk l j = true) ∧ New w w') (fun i => l.length - i) 0 ⟨rfl, rfl, trivial⟩ ⟨Nat.zero_le _, fun j hj => by omega, Chg.refl _ _⟩ ?_
  rintro i G w1 ⟨hi, hall, n1⟩
  simp only [upds]
  (repeat' (first | refine Wl.moveE (by conv => { lhs; whnf }) ?_ | refine Wl.assignE (by conv => { lhs; whnf }) ?_ | refine Wl.nil ?_ | refine Wl.lenS rfl ?_ | refine Qseq.normal ?_ | refine Wc.seq ?_ | refine Wc.region ?_ | refine Wc.block ?_ | refine Wc.skip ?_ | refine Wc.exit ?_ | refine Wc.ret ?_ | refine Qseq.exit ?_ | refine Qseq.ret ?_ | refine Qblk.hit ?_ | refine Qloop.exit ?_ | refine Wc.condT rfl ?_ | refine Wc.condF rfl ?_ | refine Wl.lss rfl rfl (fun _ => ?_) (fun _ => ?_) | refine Wl.eql rfl rfl (fun _ => ?_) (fun _ => ?_)))
  · refine Wl.call (next_spec (i := i) (h.keep stableNd n1.keep) (by omega) hall) rfl ?_
    rintro _ w2 ⟨rfl, n2⟩
    cases hn : nextOk l i with
    | false =>
      (repeat' (first | refine Wl.moveE (by conv => { lhs; whnf }) ?_ | refine Wl.assignE (by conv => { lhs; whnf }) ?_ | refine Wl.nil ?_ | refine Wl.notB rfl ?_ | refine Qseq.normal ?_ | refine Wc.seq ?_ | refine Wc.region ?_ | refine Wc.ret ?_ | refine Qseq.ret ?_ | refine Qblk.ret ?_ | refine Qloop.ret ?_ | refine Wc.condT rfl ?_))
      rw [hno (by omega) hn]
      exact Qfn.ret2 rfl rfl rfl ⟨_, rfl, ⟨_, rfl⟩, New.trans n1 n2⟩
    | true =>
      (repeat' (first | refine Wl.moveE (by conv => { lhs; whnf }) ?_ | refine Wl.assignE (by conv => { lhs; whnf }) ?_ | refine Wl.nil ?_ | refine Wl.notB rfl ?_ | refine Qseq.normal ?_ | refine Wc.region ?_ | refine Wc.skip ?_ | refine Qblk.normal ?_ | refine Wc.condF rfl ?_ | refine Wl.add rfl rfl (by omega) (by omega) ?_))
      refine Qloop.normal (i + 1) ⟨rfl, rfl, trivial⟩ ⟨by omega, fun j hj => ?_, New.trans n1 n2⟩ (by omega)
      rcases Nat.lt_or_ge j i with h | h
      · exact hall j h
      · obtain rfl : j = i := by omega
        exact hn
  · have e : treeE l = 40 := by
      unfold treeE
      rw [if_neg fun e => by have := ((treeOk_next l).1 e).2; omega]
    rw [e]
    exact Qfn.ret2 rfl rfl rfl ⟨_, rfl, ⟨_, rfl⟩, n1⟩
  · have e : treeE l = 0 := by
      unfold treeE
      rw [if_pos ((treeOk_next l).2 ⟨fun j hj => hall j (by omega), by omega⟩)]
    rw [e]
    exact Qfn.ret2 rfl rfl rfl ⟨_, rfl, ⟨_, rfl⟩, n1⟩
theorem mayR_spec {Pb : Nat → Prop} {w : World} {v : Value} {l : List Nd} (h : RdS rNd 3 Pb w v l) :
    Calls Tryd.prog 37 #[v] w (Ret fun r w' => r = .bool (treeOk l) ∧ New w w') := by
  refine calls_of_Wc Tryd.func37 rfl Tryd.ntmps37 rfl ?_
  (repeat' (first | refine Wl.moveE (by conv => { lhs; whnf }) ?_ | refine Wl.assignE (by conv => { lhs; whnf }) ?_ | refine Wl.nil ?_ | refine Qseq.normal ?_ | refine Wc.seq ?_ | refine Wc.region ?_))
  refine Wl.call (CheckR_spec h) rfl ?_
  rintro _ w1 ⟨⟨u, rfl⟩, n1⟩
  unfold treeE
  cases hok : treeOk l with
  | true =>
    rw [if_pos rfl]
    (repeat' (first | refine Wl.moveE (by conv => { lhs; whnf }) ?_ | refine Wl.assignE (by conv => { lhs; whnf }) ?_ | refine Wl.nil ?_ | refine Wl.extract rfl rfl ?_ | refine Qseq.normal ?_ | refine Wc.seq ?_ | refine Wc.region ?_ | refine Wc.ret ?_ | (refine Wl.eql rfl rfl (fun _ => ?_) (fun _ => ?_) <;> (first | (exfalso; omega) | skip))))
    exact Qfn.ret1 rfl rfl ⟨_, rfl, rfl, n1⟩
  | false =>
    rw [if_neg (by simp)]
    (repeat' (first | refine Wl.moveE (by conv => { lhs; whnf }) ?_ | refine Wl.assignE (by conv => { lhs; whnf }) ?_ | refine Wl.nil ?_ | refine Wl.extract rfl rfl ?_ | refine Qseq.normal ?_ | refine Wc.seq ?_ | refine Wc.region ?_ | refine Wc.ret ?_ | (refine Wl.eql rfl rfl (fun _ => ?_) (fun _ => ?_) <;> (first | (exfalso; omega) | skip))))
    exact Qfn.ret1 rfl rfl ⟨_, rfl, rfl, n1⟩
end Go.Proofs.YtjpebmgllfiloaaDoor

namespace Go.Proofs.YtjpebmgllfiloaaDoor
open Go Wk
open Go.RowKit (Below)
attribute [local irreducible] Go.Calls

section
variable {P : Program} {n : Nat} {F : Fr} {w : World}
theorem Qfn.retCell {fn : Func} {R : Ending → World → Prop} {t e sz bytes b : Nat} {z : Value} {T : TypeId} {cs : List Value} [he : ElT P e sz bytes true z] (h : fn.results = #[.cell t e]) (ht : Nat.blt t n = true)
    (hF : F t = ptrV b) (hb : Bk w b T cs) (hl : cs.length = sz) (k : R (.returned (.agg cs.toArray)) w) : Qfn P n fn R .ret F w := by
  unfold Qfn
  obtain ⟨i, hi, hsz', _, _⟩ := he.inf
  obtain ⟨u, hu, hu2⟩ := he.und
  refine ⟨.agg cs.toArray, ?_, k⟩
  refine Go.results_cell_row h (arr n F) w b T cs.toArray (0, 0) u ?_ hb hu ?_ (by rw [hi]; simp [hsz', hl])
  · rw [Array.getD_eq_getD_getElem?, arr_get, if_pos (by rwa [Nat.blt_eq] at ht)]
    exact hF
  · cases u <;> simp_all [isAggD]
end
set_option maxHeartbeats 1000000 in
set_option maxRecDepth 4000 in
theorem Twin_spec {Pt : Nat → Prop} {w : World} {v : Value} {t : List Nd} (h : RdS rNd 3 Pt w v t) (hl : t.length ≤ 2000000) (hpl : ∀ x ∈ t, x.props.length ≤ 2000000) :
    Calls Tryd.prog 18 #[v] w (Ret fun r w' => ∃ lab pvs, TrOwn w.heap.size lab w' r t pvs ∧ New w w') := by
  obtain ⟨a, cap, rfl, hc1, hc2⟩ := h.form
  simp only [maxLen] at hc2
  refine calls_of_Wc Tryd.func18 rfl Tryd.ntmps18 rfl ?_
  (repeat' (first | refine Wl.assignE (by conv => { lhs; whnf }) ?_ | refine Wl.nil ?_ | refine Qseq.normal ?_ | refine Wc.seq ?_ | refine Wc.region ?_ | refine Wc.block ?_))
  refine Wc.loop (σ := Nat × Value × Lb × List Sl) (fun s => [(0, .slice a t.length cap), (3, s.2.1), (4, vi s.1)])
    (fun s w' => s.1 ≤ t.length ∧ TrOwn w.heap.size s.2.2.1 w' s.2.1 (t.take s.1) s.2.2.2 ∧ New w w') (fun s => t.length - s.1) (0, .slice none 0 0, fun _ => none, []) ⟨rfl, rfl, rfl, trivial⟩ ⟨Nat.zero_le _, TrOwn.nil, Chg.refl _ _⟩ ?_
  rintro ⟨i, vo, lab, pvs⟩ G w1 ⟨hi, to1, n1⟩
  dsimp only at hi to1 n1
  have sz1 := n1.size
  simp only [upds]
  (repeat' (first | refine Wl.moveE (by conv => { lhs; whnf }) ?_ | refine Wl.assignE (by conv => { lhs; whnf }) ?_ | refine Wl.nil ?_ | refine Wl.lenS rfl ?_ | refine Qseq.normal ?_ | refine Wc.seq ?_ | refine Wc.region ?_ | refine Wc.block ?_ | refine Wc.skip ?_ | refine Wc.exit ?_ | refine Wc.ret ?_ | refine Qseq.exit ?_ | refine Qblk.hit ?_ | refine Qloop.exit ?_ | refine Wc.condT rfl ?_ | refine Wc.condF rfl ?_ | refine Wl.lss rfl rfl (fun _ => ?_) (fun _ => ?_)))
  · obtain ⟨x, hx⟩ := get_lt t (k := i) (by omega)
    have hxp := hpl x (List.mem_of_getElem? hx)
    refine Wl.idxAddr (h.keep stableNd n1.keep) rfl rfl (by omega) hx fun b o cs hl' hR hat => ?_
    obtain ⟨pv, rfl, hpr⟩ := hR
    refine Wl.loadAt hat rfl rfl ?_
    clear hat
    refine Wl.alloc fun w2 b2 n2 s2 => ?_
    refine Wl.storeB (new := [vi x.parent, vs x.name, pv]) b2 rfl rfl rfl rfl (show (3 : Nat) ≤ 3 from Nat.le_refl 3) (goodNd.oc Pt w1 x _ ⟨pv, rfl, hpr⟩ rfl) fun w3 b3 c3 s3 => ?_
    replace b3 : Bk w3 w1.heap.size 37 [vi x.parent, vs x.name, pv] := b3
    have n13 : New w1 w3 := Chg.trans n2 c3 fun b hb e => by omega
    clear b2 c3 n2
    (repeat' (first | refine Wl.nil ?_ | refine Qseq.normal ?_ | refine Wc.seq ?_ | refine Wc.region ?_))
    refine Wl.buildSliceE fun w4 hg4 n4 => ?_
    have b4 := b3.chg n4 id
    (repeat' (refine Wl.fieldAddr rfl rfl ?_))
    refine Wl.load1 rfl (b4.cell (o := 2) rfl) ?_
    have hn14 := New.trans n13 n4
    refine Wl.appendZ (Pe := No) goodPr hg4 (hpr.keep (stable_flat pC) hn14.keep) (fun y cs hy => hy) rfl rfl (by omega) (by simp only [maxLen]; omega) (by omega) fun pv' w5 o5 n5 => ?_
    have b5 := b4.chg n5 id
    have hn15 := New.trans hn14 n5
    obtain ⟨qa, qc, rfl, hq1, hq2⟩ := o5.form
    have s13 := n13.size
    have s4 := n4.size
    have s5 := n5.size
    have bl := b3.lt
    (repeat' (refine Wl.fieldAddr rfl rfl ?_))
    refine Wl.store1 b5 rfl (show (2 : Nat) < 3 by omega) rfl rfl fun w6 b6 c6 => ?_
    replace b6 : Bk w6 w1.heap.size 37 [vi x.parent, vs x.name, .slice qa x.props.length qc] := b6
    have n16 : New w1 w6 := Chg.trans hn15 c6 fun b hb e => by omega
    have o6 := o5.chg plainPr c6 (fun b hb e => by have := (o5.lt hb).1; omega)
    (repeat' (first | refine Wl.moveE (by conv => { lhs; whnf }) ?_ | refine Wl.nil ?_ | refine Qseq.normal ?_ | refine Wc.region ?_))
    refine Wl.loadB b6 rfl rfl ?_
    have to6 := to1.new n16
    have hxl : x.props.length ≤ qc := hq1
    refine Wl.append1 (R := flat ndV) (y := (x, (qa, x.props.length, qc))) goodNdV to6.arr rfl rfl rfl rfl rfl (by omega) (by omega) (by simp only [maxLen, List.length_zip, List.length_take]; omega) (by simp only [List.length_zip, List.length_take]; omega) rfl rfl fun vo' w7 p o7 c7 lie => ?_
    obtain ⟨lab', to7⟩ := to1.snoc (x := x) (pv := (qa, x.props.length, qc)) sz1 n16 (o6.mono (mono_flat pC) (fun b _ e => by rcases e with e | e <;> omega) fun _ _ e => e) o7 c7
    rw [← take_snoc hx] at to7
    (repeat' (first | refine Wl.moveE (by conv => { lhs; whnf }) ?_ | refine Wl.assignE (by conv => { lhs; whnf }) ?_ | refine Wl.nil ?_ | refine Qseq.normal ?_ | refine Wc.region ?_ | refine Qblk.normal ?_ | refine Wl.add rfl rfl (by omega) (by omega) ?_))
    refine Qloop.normal (i + 1, vo', lab', pvs ++ [(qa, x.props.length, qc)]) ⟨rfl, rfl, rfl, trivial⟩ ⟨by dsimp only; omega, to7, Chg.trans (New.trans n1 n16) c7 fun b hb e => ?_⟩ (by dsimp only; omega)
    have h1 := (to6.arr.lt e).1
    have := (to1.low b _ h1).1
    omega
  · have e : i = t.length := by omega
    subst e
    rw [List.take_length] at to1
    exact Qfn.ret1 rfl (by obtain ⟨_, _, rfl, _⟩ := to1.arr.form; rfl) ⟨_, rfl, lab, pvs, to1, n1⟩
/-- A piece in memory of one's own. -/
structure PcOwn (lo : Nat) (w : World) (r : Value) (p : Pc) : Prop where
  ex : ∃ (nv dv : Value) (lab : Lb) (pvs : List Sl), r = .agg #[vs p.target, nv, dv] ∧ TrOwn lo lab w nv p.nodes pvs ∧ OwnS (one vs) 9 1 (fun b => lo ≤ b ∧ lab b = none) No w dv p.drop
set_option maxRecDepth 4000 in
theorem TwinPiece_spec {Pt : Nat → Prop} {w : World} {nv dv : Value} {p : Pc} (hn : RdS rNd 3 Pt w nv p.nodes) (hd : RdS (one vs) 1 Pt w dv p.drop) (hl : p.nodes.length ≤ 2000000) (hpl : ∀ x ∈ p.nodes, x.props.length ≤ 2000000) (hdl : p.drop.length ≤ 2000000) :
    Calls Tryd.prog 19 #[.agg #[vs p.target, nv, dv]] w (Ret fun r w' => PcOwn w.heap.size w' r p ∧ New w w') := by
  refine calls_of_Wc Tryd.func19 rfl Tryd.ntmps19 rfl ?_
  (repeat' (first | refine Wc.seq ?_ | refine Wc.region ?_))
  refine Wl.box rfl fun w1 b1 n1 s1 => ?_
  replace b1 : Bk w1 w.heap.size 25 [vs p.target, nv, dv] := b1
  skip
  refine Wl.alloc fun w2 z2 n2 s2 => ?_
  have b2 := b1.chg n2 id
  have zl2 := z2.lt
  have n02 := New.trans n1 n2
  (repeat' (first | refine Wl.nil ?_ | refine Qseq.normal ?_ | refine Wc.seq ?_ | refine Wc.region ?_ | refine Wl.fieldAddr rfl rfl ?_))
  refine Wl.load1 rfl (b2.cell (o := 1) rfl) ?_
  refine Wl.call (Twin_spec (hn.keep stableNd n02.keep) hl hpl) rfl ?_
  rintro tv w3 ⟨lab, pvs, to3, n3⟩
  have b3 := b2.chg n3 id
  have z3 := z2.chg n3 id
  have n03 := New.trans n02 n3
  have s3 := n3.size
  obtain ⟨ta, tc, rfl, _, _⟩ := to3.arr.form
  (repeat' (refine Wl.fieldAddr rfl rfl ?_))
  refine Wl.store1 b3 rfl (show (1 : Nat) < 3 by omega) rfl rfl fun w4 b4 c4 => ?_
  replace b4 : Bk w4 w.heap.size 25 [vs p.target, .slice ta (p.nodes.zip pvs).length tc, dv] := b4
  have z4 := z3.chg c4 (by omega)
  have n04 : New w w4 := Chg.trans n03 c4 fun b hb e => by omega
  have to4 := to3.chg c4 fun b hb e => by
    cases hq : lab b with
    | none => rfl
    | some q => have := (to3.low b q hq).1; omega
  have s4 := c4.size
  (repeat' (first | refine Wl.nil ?_ | refine Qseq.normal ?_ | refine Wc.seq ?_ | refine Wc.region ?_))
  refine Wl.buildSliceE fun w5 hg5 n5 => ?_
  have b5 := b4.chg n5 id
  (repeat' (refine Wl.fieldAddr rfl rfl ?_))
  refine Wl.load1 rfl (b5.cell (o := 2) rfl) ?_
  refine Wl.appendZ (Pe := No) (good_one vs fun _ => rfl) hg5 (hd.keep (stable_one _) (New.trans n04 n5).keep) (fun y cs hy => hy) rfl rfl (by omega) (by simp only [maxLen]; omega) (by omega) fun dv' w6 o6 n6 => ?_
  have b6 := b5.chg n6 id
  have s5 := n5.size
  have s6 := n6.size
  have n46 := New.trans n5 n6
  have to6 := to4.new n46
  obtain ⟨da, dc, rfl, _, _⟩ := o6.form
  (repeat' (refine Wl.fieldAddr rfl rfl ?_))
  refine Wl.store1 b6 rfl (show (2 : Nat) < 3 by omega) rfl rfl fun w7 b7 c7 => ?_
  replace b7 : Bk w7 w.heap.size 25 [vs p.target, .slice ta (p.nodes.zip pvs).length tc, .slice da p.drop.length dc] := b7
  have z7 := (z4.chg n46 id).chg c7 (by omega)
  have to7 := to6.chg c7 fun b hb e => by
    cases hq : lab b with
    | none => rfl
    | some q => have := (to6.low b q hq).1; omega
  have o7 := o6.chg (plain_one _) c7 fun b hb e => by have := (o6.lt hb).1; omega
  have n07 : New w w7 := Chg.trans (New.trans n04 n46) c7 fun b hb e => by omega
  have s7 := c7.size
  (repeat' (first | refine Wl.nil ?_ | refine Qseq.normal ?_ | refine Wc.seq ?_ | refine Wc.region ?_))
  refine Wl.loadB b7 rfl rfl ?_
  skip
  refine Wl.storeB (new := [vs p.target, .slice ta (p.nodes.zip pvs).length tc, .slice da p.drop.length dc]) z7 rfl rfl rfl rfl (show (3 : Nat) ≤ 3 from Nat.le_refl 3) (by intro c hc; simp at hc; rcases hc with rfl | rfl | rfl <;> rfl) fun w8 z8 c8 s8 => ?_
  replace z8 : Bk w8 w1.heap.size 25 [vs p.target, .slice ta (p.nodes.zip pvs).length tc, .slice da p.drop.length dc] := z8
  (repeat' (first | refine Wl.nil ?_ | refine Qseq.normal ?_ | refine Wc.ret ?_))
  refine Qfn.retCell rfl rfl rfl z8 rfl ⟨_, rfl, ⟨_, _, lab, pvs, rfl, ?_, ?_⟩, Chg.trans n07 c8 fun b hb e => by omega⟩
  · have h := to7.chg c8 fun b hb e => by
      cases hq : lab b with
      | none => rfl
      | some q => have := (to7.low b q hq).1; omega
    exact ⟨h.len, fun b c e => ⟨by have := (h.low b c e).1; omega, (h.low b c e).2⟩, h.arr, h.pr⟩
  · have h := o7.chg (plain_one _) c8 (fun b hb e => by have := (o7.lt hb).1; omega)
    refine h.reblk fun b hb e => ⟨by omega, ?_⟩
    cases hq : lab b with
    | none => rfl
    | some q => have := (to4.low b q hq).2; omega
theorem idx_drop {α : Type} {p : α → Bool} {l : List α} {i : Nat} {y : α} (hy : l[i]? = some y) (h : ∀ x ∈ l.take i, p x = false) (hp : p y = false) : ∀ x ∈ l.take (i + 1), p x = false := take_all hy h hp
theorem prop_spec {Pb : Nat → Prop} {w : World} {v : Value} {l : List Pr} {nm : List UInt8} (h : RdS rPr 2 Pb w v l) :
    Calls Tryd.prog 51 #[v, vs nm] w (Ret fun r w' => r = vi (idx (fun y : Pr => decide (y.1 = nm)) l) ∧ w = w') := by
  obtain ⟨a, cap, rfl, hc1, hc2⟩ := h.form
  simp only [maxLen] at hc2
  refine calls_of_Wc Tryd.func51 rfl Tryd.ntmps51 rfl ?_
  (repeat' (first | refine Wl.assignE (by conv => { lhs; whnf }) ?_ | refine Wl.nil ?_ | refine Qseq.normal ?_ | refine Wc.seq ?_ | refine Wc.region ?_ | refine Wc.block ?_))
  refine Wc.loop (σ := Nat) (fun i => [(0, .slice a l.length cap), (1, vs nm), (5, vi i)]) (fun i w' => i ≤ l.length ∧ (∀ x ∈ l.take i, decide (x.1 = nm) = false) ∧ w = w') (fun i => l.length - i) 0 ⟨rfl, rfl, rfl, trivial⟩ ⟨Nat.zero_le _, by simp, rfl⟩ ?_
  rintro i G _ ⟨hi, hall, rfl⟩
  simp only [upds]
  (repeat' (first | refine Wl.moveE (by conv => { lhs; whnf }) ?_ | refine Wl.assignE (by conv => { lhs; whnf }) ?_ | refine Wl.nil ?_ | refine Wl.lenS rfl ?_ | refine Qseq.normal ?_ | refine Wc.seq ?_ | refine Wc.region ?_ | refine Wc.block ?_ | refine Wc.skip ?_ | refine Wc.exit ?_ | refine Wc.ret ?_ | refine Qseq.exit ?_ | refine Qblk.hit ?_ | refine Qloop.exit ?_ | refine Wc.condT rfl ?_ | refine Wc.condF rfl ?_ | refine Wl.lss rfl rfl (fun _ => ?_) (fun _ => ?_)))
  · obtain ⟨y, hy⟩ := get_lt l (k := i) (by omega)
    refine Wl.idxAddr h rfl rfl (by omega) hy fun b o cs hl hR hat => ?_
    obtain rfl : cs = pC y := hR
    (repeat' (refine Wl.fieldAddr rfl rfl ?_))
    refine Wl.load1 rfl (hat.get 0 rfl) ?_
    (repeat' (first | refine Wl.moveE (by conv => { lhs; whnf }) ?_ | refine Wl.assignE (by conv => { lhs; whnf }) ?_ | refine Wl.nil ?_ | refine Qseq.normal ?_ | refine Wc.seq ?_ | refine Wc.region ?_ | refine Wc.skip ?_ | refine Wc.ret ?_ | refine Qseq.ret ?_ | refine Qblk.normal ?_ | refine Qblk.ret ?_ | refine Qloop.ret ?_ | refine Wc.condT rfl ?_ | refine Wc.condF rfl ?_ | refine Wl.add rfl rfl (by omega) (by omega) ?_ | refine Wl.seql rfl rfl (fun _ => ?_) (fun _ => ?_)))
    · refine Qfn.ret1 rfl rfl ⟨_, rfl, ?_, rfl⟩
      rw [idx_hit (p := fun y : Pr => decide (y.1 = nm)) hy hall (decide_eq_true (by assumption))]; rfl
    · exact Qloop.normal (i + 1) ⟨rfl, rfl, rfl, trivial⟩ ⟨by omega, take_all (p := fun y : Pr => decide (y.1 = nm)) hy hall (decide_eq_false (by assumption)), rfl⟩ (by omega)
  · have e : i = l.length := by omega
    subst e
    rw [List.take_length] at hall
    refine Qfn.ret1 rfl rfl ⟨_, rfl, ?_, rfl⟩
    rw [idx_miss (p := fun y : Pr => decide (y.1 = nm)) hall]; rfl
/-- The kid of a name beneath a node, in the whole list. -/
def kidL (t : List Nd) (at_ : Int) (nm : List UInt8) : Option Nat := t.findIdx? fun x => decide (x.parent = at_) && decide (x.name = nm)
def optI : Option Nat → Int
  | some i => i
  | none => -1
theorem idx_opt {α : Type} (p : α → Bool) (l : List α) : idx p l = optI (l.findIdx? p) := by
  unfold idx optI; cases l.findIdx? p <;> rfl
theorem kid_spec {Pb : Nat → Prop} {w : World} {v : Value} {t : List Nd} {at_ : Int} {nm : List UInt8} (h : RdS rNd 3 Pb w v t) :
    Calls Tryd.prog 63 #[v, vi at_, vs nm] w (Ret fun r w' => r = vi (optI (kidL t at_ nm)) ∧ w = w') := by
  obtain ⟨a, cap, rfl, hc1, hc2⟩ := h.form
  simp only [maxLen] at hc2
  unfold kidL
  rw [← idx_opt]
  refine calls_of_Wc Tryd.func63 rfl Tryd.ntmps63 rfl ?_
  (repeat' (first | refine Wl.assignE (by conv => { lhs; whnf }) ?_ | refine Wl.nil ?_ | refine Qseq.normal ?_ | refine Wc.seq ?_ | refine Wc.region ?_ | refine Wc.block ?_))
  refine Wc.loop (σ := Nat) (fun i => [(0, .slice a t.length cap), (1, vi at_), (2, vs nm), (7, vi i)]) (fun i w' => i ≤ t.length ∧ (∀ x ∈ t.take i, (decide (x.parent = at_) && decide (x.name = nm)) = false) ∧ w = w') (fun i => t.length - i) 0 ⟨rfl, rfl, rfl, rfl, trivial⟩ ⟨Nat.zero_le _, by simp, rfl⟩ ?_
  rintro i G _ ⟨hi, hall, rfl⟩
  simp only [upds]
  (repeat' (first | refine Wl.moveE (by conv => { lhs; whnf }) ?_ | refine Wl.assignE (by conv => { lhs; whnf }) ?_ | refine Wl.nil ?_ | refine Wl.lenS rfl ?_ | refine Qseq.normal ?_ | refine Wc.seq ?_ | refine Wc.region ?_ | refine Wc.block ?_ | refine Wc.skip ?_ | refine Wc.exit ?_ | refine Wc.ret ?_ | refine Qseq.exit ?_ | refine Qblk.hit ?_ | refine Qloop.exit ?_ | refine Wc.condT rfl ?_ | refine Wc.condF rfl ?_ | refine Wl.lss rfl rfl (fun _ => ?_) (fun _ => ?_)))
  · obtain ⟨y, hy⟩ := get_lt t (k := i) (by omega)
    have hno : (decide (y.parent = at_) && decide (y.name = nm)) = false → ∀ x ∈ t.take (i + 1), (decide (x.parent = at_) && decide (x.name = nm)) = false := take_all (p := fun x : Nd => decide (x.parent = at_) && decide (x.name = nm)) hy hall
    refine Wl.idxAddr h rfl rfl (by omega) hy fun b o cs hl hR hat => ?_
    obtain ⟨pv, rfl, _⟩ := hR
    (repeat' (refine Wl.fieldAddr rfl rfl ?_))
    refine Wl.load1 rfl (hat.get 0 rfl) ?_
    (repeat' (first | refine Wl.moveE (by conv => { lhs; whnf }) ?_ | refine Wl.assignE (by conv => { lhs; whnf }) ?_ | refine Wl.nil ?_ | refine Wl.guardY rfl rfl ?_ | refine Wl.guardN rfl rfl ?_ | refine Wl.pickFE rfl (by conv => { lhs; whnf }) ?_ | refine Qseq.normal ?_ | refine Wc.region ?_ | refine Wc.skip ?_ | refine Qblk.normal ?_ | refine Wc.condF rfl ?_ | refine Wl.add rfl rfl (by omega) (by omega) ?_ | refine Wl.eql rfl rfl (fun _ => ?_) (fun _ => ?_)))
    · refine Wl.idxAddr h rfl rfl (by omega) hy fun b o cs hl hR hat => ?_
      obtain ⟨pv, rfl, _⟩ := hR
      (repeat' (first | refine Wl.guardY rfl rfl ?_ | refine Wl.fieldAddr rfl rfl ?_))
      refine Wl.load1 rfl (hat.get 1 rfl) ?_
      (repeat' (first | refine Wl.moveE (by conv => { lhs; whnf }) ?_ | refine Wl.assignE (by conv => { lhs; whnf }) ?_ | refine Wl.nil ?_ | refine Wl.guardY rfl rfl ?_ | refine Wl.pickTE rfl (by conv => { lhs; whnf }) ?_ | refine Qseq.normal ?_ | refine Wc.seq ?_ | refine Wc.region ?_ | refine Wc.skip ?_ | refine Wc.ret ?_ | refine Qseq.ret ?_ | refine Qblk.normal ?_ | refine Qblk.ret ?_ | refine Qloop.ret ?_ | refine Wc.condT rfl ?_ | refine Wc.condF rfl ?_ | refine Wl.add rfl rfl (by omega) (by omega) ?_ | refine Wl.seql rfl rfl (fun _ => ?_) (fun _ => ?_)))
      · refine Qfn.ret1 rfl rfl ⟨_, rfl, ?_, rfl⟩
        rw [idx_hit (p := fun x : Nd => decide (x.parent = at_) && decide (x.name = nm)) hy hall (by rw [decide_eq_true (by assumption), decide_eq_true (by assumption)]; rfl)]; rfl
      · exact Qloop.normal (i + 1) ⟨rfl, rfl, rfl, rfl, trivial⟩ ⟨by omega, hno (by rw [decide_eq_false (show ¬ y.name = nm by assumption), Bool.and_false]), rfl⟩ (by omega)
    · exact Qloop.normal (i + 1) ⟨rfl, rfl, rfl, rfl, trivial⟩ ⟨by omega, hno (by rw [decide_eq_false (show ¬ y.parent = at_ by assumption), Bool.false_and]), rfl⟩ (by omega)
  · have e : i = t.length := by omega
    subst e
    rw [List.take_length] at hall
    refine Qfn.ret1 rfl rfl ⟨_, rfl, ?_, rfl⟩
    rw [idx_miss (p := fun x : Nd => decide (x.parent = at_) && decide (x.name = nm)) hall]; rfl
/-- How many from a place on are it, or beneath it. -/
def belowL (t : List Nd) (at_ : Nat) : Nat := 1 + ((t.drop (at_ + 1)).takeWhile fun x => decide ((at_ : Int) ≤ x.parent)).length
theorem below_spec {Pb : Nat → Prop} {w : World} {v : Value} {t : List Nd} {at_ : Nat} (h : RdS rNd 3 Pb w v t) (ha : at_ < t.length) (hl : t.length ≤ 1000000) :
    Calls Tryd.prog 76 #[v, vi at_] w (Ret fun r w' => r = vi (belowL t at_) ∧ w = w') := by
  obtain ⟨a, cap, rfl, hc1, hc2⟩ := h.form
  simp only [maxLen] at hc2
  refine calls_of_Wc Tryd.func76 rfl Tryd.ntmps76 rfl ?_
  (repeat' (first | refine Wl.assignE (by conv => { lhs; whnf }) ?_ | refine Wl.nil ?_ | refine Qseq.normal ?_ | refine Wc.seq ?_ | refine Wc.region ?_ | refine Wc.block ?_))
  refine Wc.loop (σ := Nat) (fun k => [(0, .slice a t.length cap), (1, vi at_), (5, vi k)]) (fun k w' => 1 ≤ k ∧ at_ + k ≤ t.length ∧ belowL t at_ = k + ((t.drop (at_ + k)).takeWhile fun x => decide ((at_ : Int) ≤ x.parent)).length ∧ w = w') (fun k => t.length - (at_ + k)) 1 ⟨rfl, rfl, rfl, trivial⟩ ⟨Nat.le_refl _, by omega, rfl, rfl⟩ ?_
  rintro k G _ ⟨hk, hkl, hgo, rfl⟩
  simp only [upds]
  (repeat' (first | refine Wl.moveE (by conv => { lhs; whnf }) ?_ | refine Wl.assignE (by conv => { lhs; whnf }) ?_ | refine Wl.nil ?_ | refine Wl.guardY rfl rfl ?_ | refine Wl.guardN rfl rfl ?_ | refine Wl.pickFE rfl (by conv => { lhs; whnf }) ?_ | refine Wl.lenS rfl ?_ | refine Qseq.normal ?_ | refine Wc.seq ?_ | refine Wc.region ?_ | refine Wc.exit ?_ | refine Wc.ret ?_ | refine Qseq.exit ?_ | refine Qblk.hit ?_ | refine Qloop.exit ?_ | refine Wc.condF rfl ?_ | refine Wl.add rfl rfl (by omega) (by omega) ?_ | refine Wl.lss rfl rfl (fun _ => ?_) (fun _ => ?_)))
  · obtain ⟨y, hy⟩ := get_lt t (k := at_ + k) (by omega)
    rw [drop_cons hy, List.takeWhile_cons] at hgo
    refine Wl.idxAddr h rfl rfl (by omega) (by rw [show ((at_ : Int) + (k : Int)).toNat = at_ + k by omega]; exact hy) fun b o cs hl hR hat => ?_
    obtain ⟨pv, rfl, _⟩ := hR
    (repeat' (first | refine Wl.guardY rfl rfl ?_ | refine Wl.fieldAddr rfl rfl ?_))
    refine Wl.load1 rfl (hat.get 0 rfl) ?_
    (repeat' (first | refine Wl.moveE (by conv => { lhs; whnf }) ?_ | refine Wl.assignE (by conv => { lhs; whnf }) ?_ | refine Wl.nil ?_ | refine Wl.guardY rfl rfl ?_ | refine Wl.pickTE rfl (by conv => { lhs; whnf }) ?_ | refine Qseq.normal ?_ | refine Wc.seq ?_ | refine Wc.region ?_ | refine Wc.block ?_ | refine Wc.skip ?_ | refine Wc.exit ?_ | refine Wc.ret ?_ | refine Qseq.exit ?_ | refine Qblk.normal ?_ | refine Qblk.hit ?_ | refine Qloop.exit ?_ | refine Wc.condT rfl ?_ | refine Wc.condF rfl ?_ | refine Wl.add rfl rfl (by omega) (by omega) ?_ | refine Wl.geq rfl rfl (fun _ => ?_) (fun _ => ?_)))
    · rw [decide_eq_true (by omega), if_pos rfl, List.length_cons] at hgo
      exact Qloop.normal (k + 1) ⟨rfl, rfl, rfl, trivial⟩ ⟨by omega, by omega, by rw [hgo, show at_ + (k + 1) = at_ + k + 1 by omega]; omega, rfl⟩ (by omega)
    · rw [decide_eq_false (by omega), if_neg (by simp)] at hgo
      rw [hgo]
      exact Qfn.ret1 rfl rfl ⟨_, rfl, rfl, rfl⟩
  · have e : t.drop (at_ + k) = [] := List.drop_eq_nil_of_le (by omega)
    rw [e] at hgo
    rw [hgo]
    exact Qfn.ret1 rfl rfl ⟨_, rfl, rfl, rfl⟩
end Go.Proofs.YtjpebmgllfiloaaDoor
