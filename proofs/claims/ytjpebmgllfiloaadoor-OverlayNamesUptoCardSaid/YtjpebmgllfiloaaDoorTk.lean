/-
  The walk of Take of a stack.
-/
import Derived.Test.YtjpebmgllfiloaaDoorSl
namespace Go.Proofs.YtjpebmgllfiloaaDoor
open Go Wk
open Go.RowKit (Below)
attribute [local irreducible] Go.Calls

def relay (t : List Nd) : List SRow → Int × List SRow
  | [] => (0, [])
  | r :: rs => if (layM t r.piece).2 ≠ 0 then ((layM t r.piece).2, [])
    else ((relay (layM t r.piece).1 rs).1, ⟨r.n, r.piece, (layM t r.piece).1⟩ :: (relay (layM t r.piece).1 rs).2)
def stkTake (S : Stk) (n : Int) : Stk × Int :=
  match S.rows.findIdx? (fun r => decide (r.n = n)) with
  | none => (S, 1)
  | some at_ => if (relay (stkTop S at_) (S.rows.drop (at_ + 1))).1 ≠ 0 then (S, (relay (stkTop S at_) (S.rows.drop (at_ + 1))).1)
    else (⟨S.base, S.rows.take at_ ++ (relay (stkTop S at_) (S.rows.drop (at_ + 1))).2, S.laid⟩, 0)
/-- Rows that reach such blocks alone. -/
def rRowQ (Q : Nat → Prop) : Rel SRow := fun Pb w x cs => rRow (fun b => Pb b ∧ Q b) w x cs
theorem goodRowQ (Q : Nat → Prop) : GoodR (rRowQ Q) 5 := ⟨fun Pb w w' x cs hk h => stableRow _ _ _ _ _ (fun b hb => hk b hb.1) h, fun Pb Pb' w x cs hP h => monoRow _ _ _ _ _ (fun b hb e => ⟨hP b hb e.1, e.2⟩) h, fun Pb w x cs h hl => goodRow.oc _ w x cs h hl⟩
theorem rowsQ {e : TypeId} {Pb Pe : Nat → Prop} {w : World} {v : Value} {xs : List SRow} (h : OwnS rRow e 5 Pb Pe w v xs) : RdS (rRowQ Pe) 5 (fun b => Pb b ∨ Pe b) w v xs := by
  have h1 := h.rdE
  rcases h1 with h1 | h1 | ⟨b, off, cap, cur, e', fr, rfl, hb, hh, h2, h3, h4, h5⟩
  · exact .inl h1
  · exact .inr (.inl h1)
  · exact .inr (.inr ⟨b, off, cap, cur, e', fr, rfl, .inl hb, hh, h2, h3, h4, fun i x hx => monoRow _ _ _ _ _ (fun b _ e => ⟨.inr e.1, e.1⟩) (h5 i x hx)⟩)
theorem IndexFuncRow_spec {R : Rel SRow} (hR : Stable R) {Pb : Nat → Prop} {w : World} {v : Value} {l : List SRow} {p : SRow → Bool} {g : FuncId} {cap : Array Value} [hc : Callable Tryd.prog g] (h : RdS R 5 Pb w v l)
    (hf : ∀ y cs w', y ∈ l → cs.length = 5 → R Pb w' y cs → New w w' → Calls Tryd.prog g ([Value.agg cs.toArray] ++ cap.toList).toArray w' (Ret fun r w'' => r = .bool (p y) ∧ New w' w'')) :
    Calls Tryd.prog 55 #[v, .func (.func g) #[] cap] w (Ret fun r w' => r = vi (idx p l) ∧ New w w') := by
  obtain ⟨a, cp, rfl, hc1, hc2⟩ := h.form
  simp only [maxLen] at hc2
  refine calls_of_Wc Tryd.func55 rfl Tryd.ntmps55 rfl ?_
  (repeat' (first | refine Wl.moveE (by conv => { lhs; whnf }) ?_ | refine Wl.assignE (by conv => { lhs; whnf }) ?_ | refine Wl.nil ?_ | refine Wl.lenS rfl ?_ | refine Qseq.normal ?_ | refine Wc.seq ?_ | refine Wc.region ?_ | refine Wc.block ?_))
  refine Wc.loop (σ := Nat) (fun i => [(0, .slice a l.length cp), (1, .func (.func g) #[] cap), (7, vi l.length), (8, vi i)]) (fun i w' => i ≤ l.length ∧ (∀ x ∈ l.take i, p x = false) ∧ New w w') (fun i => l.length - i) 0 ⟨rfl, rfl, rfl, rfl, trivial⟩ ⟨Nat.zero_le _, by simp, Chg.refl _ _⟩ ?_
  rintro i G w1 ⟨hi, hall, n1⟩
  simp only [upds]
  (repeat' (first | refine Wl.moveE (by conv => { lhs; whnf }) ?_ | refine Wl.assignE (by conv => { lhs; whnf }) ?_ | refine Wl.nil ?_ | refine Qseq.normal ?_ | refine Wc.seq ?_ | refine Wc.region ?_ | refine Wc.block ?_ | refine Wc.skip ?_ | refine Wc.exit ?_ | refine Wc.ret ?_ | refine Qseq.exit ?_ | refine Qblk.hit ?_ | refine Qloop.exit ?_ | refine Wc.condT rfl ?_ | refine Wc.condF rfl ?_ | refine Wl.lss rfl rfl (fun _ => ?_) (fun _ => ?_)))
  · obtain ⟨y, hy⟩ := get_lt l (k := i) (by omega)
    refine Wl.idxAddr (h.keep hR n1.keep) rfl rfl (by omega) hy fun b o cs hl hRy hat => ?_
    refine Wl.loadAt hat hl rfl ?_
    refine Wl.callV (dst := some 16) rfl (hf y cs w1 (List.mem_of_getElem? hy) hl hRy n1) rfl ?_
    rintro _ w2 ⟨rfl, n2⟩
    simp only [updO]
    cases hp : p y with
    | true =>
      (repeat' (first | refine Wl.moveE (by conv => { lhs; whnf }) ?_ | refine Wl.assignE (by conv => { lhs; whnf }) ?_ | refine Wl.nil ?_ | refine Qseq.normal ?_ | refine Wc.seq ?_ | refine Wc.region ?_ | refine Wc.ret ?_ | refine Qseq.ret ?_ | refine Qblk.ret ?_ | refine Qloop.ret ?_ | refine Wc.condT rfl ?_))
      refine Qfn.ret1 rfl rfl ⟨_, rfl, ?_, New.trans n1 n2⟩
      rw [idx_hit hy hall hp]; rfl
    | false =>
      (repeat' (first | refine Wl.moveE (by conv => { lhs; whnf }) ?_ | refine Wl.nil ?_ | refine Qseq.normal ?_ | refine Wc.region ?_ | refine Wc.skip ?_ | refine Qblk.normal ?_ | refine Wc.condF rfl ?_ | refine Wl.add rfl rfl (by omega) (by omega) ?_))
      exact Qloop.normal (i + 1) ⟨rfl, rfl, rfl, rfl, trivial⟩ ⟨by omega, take_all hy hall hp, New.trans n1 n2⟩ (by omega)
  · have e : i = l.length := by omega
    subst e
    rw [List.take_length] at hall
    refine Qfn.ret1 rfl rfl ⟨_, rfl, ?_, n1⟩
    rw [idx_miss hall]; rfl
/-- r.n == n. -/
theorem Take1_spec {Pb : Nat → Prop} {w : World} {b : Nat} {T : TypeId} {n : Int} {y : SRow} {cs : List Value} (hb : Bk w b T [vi n]) (hy : rRow Pb w y cs) :
    Calls Tryd.prog 56 #[.agg cs.toArray, ptrV b] w (Ret fun r w' => r = .bool (decide (y.n = n)) ∧ New w w') := by
  obtain ⟨nv, dv, tv, rfl, _⟩ := hy
  refine calls_of_Wc Tryd.func56 rfl Tryd.ntmps56 rfl ?_
  (repeat' (first | refine Wc.seq ?_ | refine Wc.region ?_))
  refine Wl.box rfl fun w1 b1 n1 s1 => ?_
  replace b1 : Bk w1 w.heap.size tRow [vi y.n, vs y.piece.target, nv, dv, tv] := b1
  (repeat' (first | refine Wl.assignE (by conv => { lhs; whnf }) ?_ | refine Wl.nil ?_ | refine Qseq.normal ?_ | refine Wc.seq ?_ | refine Wc.region ?_ | refine Wl.fieldAddr rfl rfl ?_))
  refine Wl.load1 rfl (b1.cell (o := 0) rfl) ?_
  refine Wl.load1 rfl ((hb.chg n1 id).cell (o := 0) rfl) ?_
  (repeat' (first | refine Wl.assignE (by conv => { lhs; whnf }) ?_ | refine Wl.nil ?_ | refine Qseq.normal ?_ | refine Wc.ret ?_ | refine Wl.eql rfl rfl (fun _ => ?_) (fun _ => ?_)))
  · refine Qfn.ret1 rfl rfl ⟨_, rfl, ?_, n1⟩
    rw [decide_eq_true (by assumption)]; rfl
  · refine Qfn.ret1 rfl rfl ⟨_, rfl, ?_, n1⟩
    rw [decide_eq_false (by assumption)]; rfl
theorem CloneRow_spec {Q Pb : Nat → Prop} {w : World} {v : Value} {l : List SRow} (h : RdS (rRowQ Q) 5 Pb w v l) (hl : l.length ≤ 2000000) (hQ : ∀ b, Q b → b < w.heap.size) :
    Calls Tryd.prog 57 #[v] w (Ret fun r w' => OwnS rRow tRow 5 (fun b => w.heap.size ≤ b) Q w' r l ∧ New w w') := by
  obtain ⟨a, cap, rfl, hc1, hc2⟩ := h.form
  refine calls_of_Wc Tryd.func57 rfl Tryd.ntmps57 rfl ?_
  (repeat' (first | refine Wl.moveE (by conv => { lhs; whnf }) ?_ | refine Wl.assignE (by conv => { lhs; whnf }) ?_ | refine Wl.nil ?_ | refine Qseq.normal ?_ | refine Wc.seq ?_ | refine Wc.region ?_))
  refine Wl.slNil rfl rfl ?_
  cases a with
  | none =>
    have e : l = [] := by
      rcases h with ⟨_, rfl⟩ | ⟨_, _, e, _⟩ | ⟨_, _, _, _, _, _, e, _⟩
      · rfl
      · cases e
      · cases e
    subst e
    (repeat' (first | refine Wl.assignE (by conv => { lhs; whnf }) ?_ | refine Wl.nil ?_ | refine Qseq.normal ?_ | refine Wc.seq ?_ | refine Wc.region ?_ | refine Wc.ret ?_ | refine Qseq.ret ?_ | refine Wc.condT rfl ?_))
    exact Qfn.ret1 rfl rfl ⟨_, rfl, OwnS.nil, Chg.refl _ _⟩
  | some a =>
    (repeat' (first | refine Wl.nil ?_ | refine Qseq.normal ?_ | refine Wc.seq ?_ | refine Wc.region ?_ | refine Wc.skip ?_ | refine Wc.condF rfl ?_))
    refine Wl.buildSlice0 (R := rRowQ Q) (Pe := fun _ => True) fun v1 w1 o1 n1 => ?_
    (repeat' (refine Wl.moveE (by conv => { lhs; whnf }) ?_))
    refine Wl.appendAll (goodRowQ Q) o1 (h.keep (goodRowQ Q).st n1.keep) (fun y cs hy => monoRow _ _ _ _ _ (fun b _ e => ⟨⟨trivial, fun e' => by have := (o1.lt e').1; have := hQ b e.2; omega⟩, e.2⟩) hy) rfl rfl (by omega) (by simp only [maxLen, List.length_nil]; omega) (by simp only [List.length_nil]; omega) fun v2 w2 o2 c2 lie _ => ?_
    (repeat' (first | refine Wl.assignE (by conv => { lhs; whnf }) ?_ | refine Wl.nil ?_ | refine Qseq.normal ?_ | refine Wc.ret ?_))
    refine Qfn.ret1 rfl rfl ⟨_, rfl, ?_, Chg.trans n1 c2 fun k hk e => by have := (o1.lt e).1; omega⟩
    have hs := n1.size
    obtain ⟨cs, hoc, he⟩ := o2
    exact ⟨cs, hoc.mono (fun b _ hb => by rcases hb with hb | hb; exact hb; omega), fun i x hx => monoRow _ _ _ _ _ (fun b _ e => ⟨e.2, e.1.2⟩) (he i x hx)⟩
theorem Wk.OwnS.new' {α : Type} {R : Rel α} (hR : Stable R) {e : TypeId} {sz : Nat} {Pb Pe : Nat → Prop} {w w' : World} {v : Value} {xs : List α} (h : OwnS R e sz Pb Pe w v xs) (n : New w w') : OwnS R e sz Pb Pe w' v xs := h.keep hR n.keep n.keep
theorem At.part {w : World} {b o : Nat} {cs : List Value} (h : At w b o cs) (k m : Nat) : At w b (o + k) ((cs.drop k).take m) := fun i u hu => by
  rw [List.getElem?_take] at hu
  split at hu
  · rw [List.getElem?_drop] at hu
    rw [Nat.add_assoc]
    exact h (k + i) u hu
  · cases hu
theorem ownE {α : Type} {R : Rel α} (hR : Mono R) {e : TypeId} {sz : Nat} {Pb Pb' Pe Pe' : Nat → Prop} {w : World} {v : Value} {xs : List α} (h : OwnS R e sz Pb Pe w v xs) (hP : ∀ b, b < w.heap.size → v.ownBlock = some b → Pb b → Pb' b) (hE : ∀ b, b < w.heap.size → Pe b → v.ownBlock ≠ some b → Pe' b) : OwnS R e sz Pb' Pe' w v xs := by
  have h1 := h.reblk (Pb' := fun b => b < w.heap.size ∧ v.ownBlock = some b ∧ Pb b) fun b e hb => ⟨(h.lt e).2, e, hb⟩
  obtain ⟨cs, hoc, he⟩ := h1
  exact ⟨cs, hoc.mono (fun b hb e => hP b hb e.2.1 e.2.2), fun i x hx => hR _ _ _ _ _ (fun b hb e => ⟨hE b hb e.1 e.2, e.2⟩) (he i x hx)⟩
set_option maxHeartbeats 4000000 in
set_option maxRecDepth 4000 in
theorem Take_spec {lo : Nat} {lab : SLab} {w : World} {bl : Nat} {S : Stk} {bv rv : Value} {n : Int} (h : StkAt lo lab w bl S bv rv) (hlo : lo ≤ w.heap.size) (wf : WfS S) :
    Calls Tryd.prog 30 #[ptrV bl, vi n] w (Ret fun r w' => r = vi (stkTake S n).2 ∧ (∃ lab' bv' rv', StkAt lo lab' w' bl (stkTake S n).1 bv' rv' ∧ ∀ b, b < w.heap.size → lab' b = lab b) ∧ Chg (fun b => lab b = some true) w w') := by
  obtain ⟨ra, rc, rfl, hrc1, hrc2⟩ := h.rows.form
  simp only [maxLen] at hrc2
  have hrl := wf.len
  refine calls_of_Wc Tryd.func30 rfl Tryd.ntmps30 rfl ?_
  (repeat' (first | refine Wc.seq ?_ | refine Wc.region ?_))
  refine Wl.box rfl fun w1 b1 n1 s1 => ?_
  replace b1 : Bk w1 w.heap.size 3 [vi n] := b1
  have h1 := h.new n1
  (repeat' (first | refine Wl.moveE (by conv => { lhs; whnf }) ?_ | refine Wl.assignE (by conv => { lhs; whnf }) ?_ | refine Wl.nil ?_ | refine Qseq.normal ?_ | refine Wc.seq ?_ | refine Wc.region ?_))
  refine Wl.peqNil rfl rfl ?_
  (repeat' (first | refine Wl.moveE (by conv => { lhs; whnf }) ?_ | refine Wl.nil ?_ | refine Qseq.normal ?_ | refine Wc.seq ?_ | refine Wc.region ?_ | refine Wc.skip ?_ | refine Wc.condF rfl ?_ | refine Wl.nilP rfl ?_ | refine Wl.fieldAddr rfl rfl ?_))
  refine Wl.load1 rfl (h1.bk.cell (o := 1) rfl) ?_
  refine Wl.makeFunc (first := []) (cap := [.tmp 3]) rfl rfl ?_
  refine Wl.call (IndexFuncRow_spec (goodRowQ _).st (p := fun r => decide (r.n = n)) (g := 56) (cap := #[ptrV w.heap.size]) (rowsQ h1.rows) (fun y cs w' _ _ hR hw => Take1_spec (b1.chg hw id) hR)) rfl ?_
  rintro _ w2 ⟨rfl, n2⟩
  have n02 := New.trans n1 n2
  have h2 := h.new n02
  unfold stkTake
  rcases idx_cases (fun r : SRow => decide (r.n = n)) S.rows with ⟨e, hno⟩ | ⟨k, y0, e, hk0, hpy, hbef⟩
  · rw [e, show S.rows.findIdx? (fun r => decide (r.n = n)) = none from List.findIdx?_eq_none_iff.2 hno]
    (repeat' (first | refine Wl.moveE (by conv => { lhs; whnf }) ?_ | refine Wl.assignE (by conv => { lhs; whnf }) ?_ | refine Wl.nil ?_ | refine Qseq.normal ?_ | refine Wc.seq ?_ | refine Wc.region ?_ | refine Wc.ret ?_ | refine Qseq.ret ?_ | refine Wc.condT rfl ?_ | (refine Wl.lss rfl rfl (fun _ => ?_) (fun _ => ?_) <;> (first | (exfalso; omega) | skip))))
    exact Qfn.ret1 rfl rfl ⟨_, rfl, rfl, ⟨lab, _, _, h2, fun _ _ => rfl⟩, n02.any⟩
  · have hfi : S.rows.findIdx? (fun r => decide (r.n = n)) = some k := by
      rw [List.findIdx?_eq_some_iff_getElem]
      obtain ⟨hlt, rfl⟩ := List.getElem?_eq_some_iff.1 hk0
      refine ⟨hlt, hpy, fun q hq => ?_⟩
      have := hbef S.rows[q] (by rw [List.mem_iff_getElem?]; exact ⟨q, by rw [List.getElem?_take, if_pos hq, List.getElem?_eq_getElem]⟩)
      simp [this]
    rw [e, hfi]
    dsimp only
    have hkl : k < S.rows.length := (List.getElem?_eq_some_iff.1 hk0).1
    have lowb : ∀ b c, lab b = some c → b < w.heap.size := fun b c e => (h.low b c e).2
    have rq := rowsQ h.rows
    have kp : ∀ {w'}, New w w' → Keep (fun b => (lab b = some true ∧ b ≠ bl) ∨ lab b = some false) w w' := fun hw => hw.keep
    (repeat' (first | refine Wl.moveE (by conv => { lhs; whnf }) ?_ | refine Wl.assignE (by conv => { lhs; whnf }) ?_ | refine Wl.nil ?_ | refine Qseq.normal ?_ | refine Wc.seq ?_ | refine Wc.region ?_ | refine Wc.skip ?_ | refine Wc.condF rfl ?_ | refine Wl.nilP rfl ?_ | refine Wl.fieldAddr rfl rfl ?_ | (refine Wl.lss rfl rfl (fun _ => ?_) (fun _ => ?_) <;> (first | (exfalso; omega) | skip))))
    refine Wl.load1 rfl (h2.bk.cell (o := 1) rfl) ?_
    (repeat' (refine Wl.moveE (by conv => { lhs; whnf }) ?_))
    refine Wl.sliceTo (rq.keep (goodRowQ _).st (kp n02)) rfl rfl (by omega) (by omega) fun sv1 rs1 => ?_
    refine Wl.call (CloneRow_spec rs1 (by simp; omega) (fun b hb => Nat.lt_of_lt_of_le (lowb b _ hb) n02.size)) rfl ?_
    rintro rv3 w3 ⟨o3, n3⟩
    have n03 := New.trans n02 n3
    (repeat' (first | refine Wl.moveE (by conv => { lhs; whnf }) ?_ | refine Wl.assignE (by conv => { lhs; whnf }) ?_ | refine Wl.nil ?_ | refine Qseq.normal ?_ | refine Wc.seq ?_ | refine Wc.region ?_))
    refine Wl.call (top_spec (h.new n03) (k := k) (by omega)) rfl ?_
    rintro tv4 w4 ⟨rt4, n4⟩
    have n04 := New.trans n03 n4
    have h4 := h.new n04
    (repeat' (first | refine Wl.moveE (by conv => { lhs; whnf }) ?_ | refine Wl.assignE (by conv => { lhs; whnf }) ?_ | refine Wl.nil ?_ | refine Qseq.normal ?_ | refine Wc.seq ?_ | refine Wc.region ?_ | refine Wl.nilP rfl ?_ | refine Wl.fieldAddr rfl rfl ?_))
    refine Wl.load1 rfl (h4.bk.cell (o := 1) rfl) ?_
    (repeat' (first | refine Wl.moveE (by conv => { lhs; whnf }) ?_ | refine Wl.add rfl rfl (by omega) (by omega) ?_))
    refine Wl.sliceFrom (rq.keep (goodRowQ _).st (kp n04)) rfl rfl (by omega) (by omega) fun sv2 rs2 => ?_
    rw [show ((k : Int) + 1).toNat = k + 1 by omega] at rs2
    obtain ⟨sa, sc, rfl, hsc1, hsc2⟩ := rs2.form
    (repeat' (first | refine Wl.moveE (by conv => { lhs; whnf }) ?_ | refine Wl.nil ?_ | refine Wl.lenS rfl ?_ | refine Qseq.normal ?_ | refine Wc.block ?_))
    generalize hrest : S.rows.drop (k + 1) = rest at rs2 hsc1 ⊢
    have hrestl : rest.length ≤ 16 := by rw [← hrest]; simp; omega
    have hrestm : ∀ r ∈ rest, r ∈ S.rows := fun r hr => List.mem_of_mem_drop (hrest ▸ hr)
    generalize hRES : relay (stkTop S k) rest = RES
    have s02 := n02.size
    have s3 := n3.size
    have s4 := n4.size
    refine Wc.loop (σ := Nat × List Nd × Value × List SRow × Value) (fun s => [(0, ptrV bl), (6, s.2.2.2.2), (7, s.2.2.1), (38, .slice sa rest.length sc), (39, vi rest.length), (40, vi s.1)])
      (fun s w' => s.1 ≤ rest.length ∧ treeOk s.2.1 = true ∧ RES.1 = (relay s.2.1 (rest.drop s.1)).1 ∧ S.rows.take k ++ RES.2 = s.2.2.2.1 ++ (relay s.2.1 (rest.drop s.1)).2 ∧ s.2.2.2.1.length = k + s.1 ∧
        RdS rNd 3 (fun b => (lab b = some false ∨ w.heap.size ≤ b) ∧ s.2.2.2.2.ownBlock ≠ some b) w' s.2.2.1 s.2.1 ∧ OwnS rRow tRow 5 (fun b => w.heap.size ≤ b) (fun b => lab b = some false ∨ w.heap.size ≤ b) w' s.2.2.2.2 s.2.2.2.1 ∧ New w w') (fun s => rest.length - s.1)
      (0, stkTop S k, tv4, S.rows.take k, rv3) ⟨rfl, rfl, rfl, rfl, rfl, rfl, trivial⟩ ⟨Nat.zero_le _, stkTop_ok wf (by omega), by dsimp only; rw [List.drop_zero, hRES], by dsimp only; rw [List.drop_zero, hRES], by simp; omega, ?_, ?_, n04⟩ ?_
    · exact rt4.mono monoNd fun b _ e => ⟨.inl e, fun e' => by have h1 := (o3.lt e').1; have := lowb b _ e; omega⟩
    · exact (o3.new' stableRow n4).mono monoRow (fun b _ e => by omega) (fun b _ e => .inl e)
    rintro ⟨i, t, tv, done, rvi⟩ G w5 ⟨hi, hto, hr1, hr2, hdl, rt5, o5, n5⟩
    dsimp only at hi hto hr1 hr2 hdl rt5 o5 n5
    simp only [upds]
    (repeat' (first | refine Wl.moveE (by conv => { lhs; whnf }) ?_ | refine Wl.nil ?_ | refine Qseq.normal ?_ | refine Wc.seq ?_ | refine Wc.region ?_ | refine Wc.block ?_ | refine Wc.skip ?_ | refine Wc.exit ?_ | refine Qseq.exit ?_ | refine Qblk.hit ?_ | refine Qloop.exit ?_ | refine Wc.condT rfl ?_ | refine Wc.condF rfl ?_ | refine Wl.nilP rfl ?_ | refine Wl.fieldAddr rfl rfl ?_ | refine Wl.lss rfl rfl (fun _ => ?_) (fun _ => ?_)))
    · obtain ⟨r, hr⟩ := get_lt rest (k := i) (by omega)
      have hrm := wf.row r (hrestm r (List.mem_of_getElem? hr))
      rw [drop_cons hr] at hr1 hr2
      have rs5 := rs2.keep (goodRowQ _).st (w' := w5) fun b hb hlt => by
        have hbw : b < w.heap.size := by rcases hb with e | e; exact lowb b _ e.1; exact lowb b _ e
        exact (n5.block b hbw fun e => e).trans (n04.block b hbw fun e => e).symm
      refine Wl.idxAddr rs5 rfl rfl (by omega) hr fun b o cs hl hR hat => ?_
      obtain ⟨nv, dv, tvr, rfl, hRn, hRd, hRt⟩ := hR
      refine Wl.loadAt hat rfl rfl ?_
      obtain ⟨na, nc, rfl, _, _⟩ := hRn.form
      obtain ⟨da, dc, rfl, _, _⟩ := hRd.form
      obtain ⟨ta', tc', rfl, _, _⟩ := hRt.form
      refine Wl.alloc fun w6 b6 n6 s6 => ?_
      refine Wl.storeB (new := [vi r.n, vs r.piece.target, .slice na r.piece.nodes.length nc, .slice da r.piece.drop.length dc, .slice ta' r.tree.length tc']) b6 rfl rfl rfl rfl (show (5 : Nat) ≤ 5 from Nat.le_refl 5) (by
        intro c hc
        simp at hc
        rcases hc with rfl | rfl | rfl | rfl | rfl <;> rfl) fun w7 b7 c7 s7 => ?_
      replace b7 : Bk w7 w5.heap.size tRow [vi r.n, vs r.piece.target, .slice na r.piece.nodes.length nc, .slice da r.piece.drop.length dc, .slice ta' r.tree.length tc'] := b7
      have n57 : New w5 w7 := Chg.trans n6 c7 fun b hb e => by omega
      have n07 := New.trans n5 n57
      have rn7 := hRn.keep stableNd n57.keep
      have rd7 := hRd.keep (stable_one _) n57.keep
      have rt7 := rt5.keep stableNd n57.keep
      have o7 := o5.new' stableRow n57
      clear b6 c7 n6
      (repeat' (first | refine Wl.moveE (by conv => { lhs; whnf }) ?_ | refine Wl.nil ?_ | refine Qseq.normal ?_ | refine Wc.seq ?_ | refine Wc.region ?_ | refine Wl.fieldAddr rfl rfl ?_))
      have pcAt : ∀ w', Bk w' w5.heap.size tRow [vi r.n, vs r.piece.target, .slice na r.piece.nodes.length nc, .slice da r.piece.drop.length dc, .slice ta' r.tree.length tc'] → At w' w5.heap.size (0 + 1) [vs r.piece.target, .slice na r.piece.nodes.length nc, .slice da r.piece.drop.length dc] := fun w' hb => At.part hb.at 1 3
      refine Wl.loadAt (pcAt w7 b7) rfl rfl ?_
      refine Wl.call (Lay_spec (Pb := fun _ => True) (p := r.piece) (rt7.mono monoNd fun _ _ _ => trivial) (rn7.mono monoNd fun _ _ _ => trivial) (rd7.mono (mono_one _) fun _ _ _ => trivial) hrm.2.2) rfl ?_
      rintro _ w8 ⟨uv, rfl, n8, labu, pvs, to8⟩
      have b8 := b7.chg n8 id
      have n08 := New.trans n07 n8
      have ru := to8.rd
      clear to8
      unfold relay at hr1 hr2
      have hlok : (layM t r.piece).2 = 0 → treeOk (layM t r.piece).1 = true := fun e => (layF (t := t) (u := (layM t r.piece).1) (p := r.piece) (Prod.ext rfl e)).tu
      generalize layM t r.piece = LM at ru hr1 hr2 hlok ⊢
      obtain ⟨u, e8⟩ := LM
      dsimp only at ru hr1 hr2 hlok ⊢
      by_cases he8 : e8 = 0
      rotate_left
      · rw [if_pos he8] at hr1
        dsimp only at hr1
        rw [hr1, if_pos he8]
        (repeat' (first | refine Wl.moveE (by conv => { lhs; whnf }) ?_ | refine Wl.assignE (by conv => { lhs; whnf }) ?_ | refine Wl.nil ?_ | refine Wl.extract rfl rfl ?_ | refine Qseq.normal ?_ | refine Wc.seq ?_ | refine Wc.region ?_ | refine Wc.ret ?_ | refine Qseq.ret ?_ | refine Qblk.ret ?_ | refine Qloop.ret ?_ | refine Wc.condT rfl ?_ | (refine Wl.neq rfl rfl (fun _ => ?_) (fun _ => ?_) <;> (first | (exfalso; omega) | skip))))
        exact Qfn.ret1 rfl rfl ⟨_, rfl, rfl, ⟨lab, _, _, h.new n08, fun _ _ => rfl⟩, n08.any⟩
      · subst he8
        rw [if_neg (by simp)] at hr1 hr2
        dsimp only at hr1 hr2
        obtain ⟨ua, uc, rfl, _, _⟩ := ru.form
        (repeat' (first | refine Wl.moveE (by conv => { lhs; whnf }) ?_ | refine Wl.assignE (by conv => { lhs; whnf }) ?_ | refine Wl.nil ?_ | refine Wl.extract rfl rfl ?_ | refine Qseq.normal ?_ | refine Wc.seq ?_ | refine Wc.region ?_ | refine Wc.skip ?_ | refine Wc.condF rfl ?_ | refine Wl.fieldAddr rfl rfl ?_ | (refine Wl.neq rfl rfl (fun _ => ?_) (fun _ => ?_) <;> (first | (exfalso; omega) | skip))))
        refine Wl.load1 rfl (b8.cell (o := 0) rfl) ?_
        (repeat' (refine Wl.fieldAddr rfl rfl ?_))
        refine Wl.loadAt (pcAt w8 b8) rfl rfl ?_
        (repeat' (refine Wl.moveE (by conv => { lhs; whnf }) ?_))
        refine Wl.buildG (ps := [(0, .tmp 57), (1, .tmp 59), (2, .tmp 60)]) (parts := [(0, vi r.n), (1, .agg #[vs r.piece.target, .slice na r.piece.nodes.length nc, .slice da r.piece.drop.length dc]), (2, .slice ua u.length uc)]) rfl run_buildRow ?_
        have s5 := n5.size
        have s57 := n57.size
        have s8 := n8.size
        have rn8 : RdS rNd 3 (fun b => (lab b = some false ∨ w7.heap.size ≤ b) ∧ b < w8.heap.size) w8 (.slice na r.piece.nodes.length nc) r.piece.nodes := (rn7.keep stableNd n8.keep).mono monoNd fun b hb e => ⟨.inl e.2, hb⟩
        have rd8 : RdS (one vs) 1 (fun b => (lab b = some false ∨ w7.heap.size ≤ b) ∧ b < w8.heap.size) w8 (.slice da r.piece.drop.length dc) r.piece.drop := (rd7.keep (stable_one _) n8.keep).mono (mono_one _) fun b hb e => ⟨.inl e.2, hb⟩
        have ru8 : RdS rNd 3 (fun b => (lab b = some false ∨ w7.heap.size ≤ b) ∧ b < w8.heap.size) w8 (.slice ua u.length uc) u := ru.mono monoNd fun b hb e => ⟨.inr e, hb⟩
        refine Wl.buildSlice1 (R := rRow) (y := ⟨r.n, r.piece, u⟩) (Pe := fun b => (lab b = some false ∨ w7.heap.size ≤ b) ∧ b < w8.heap.size) goodRow rfl rfl rfl ⟨_, _, _, rfl, rn8.mono monoNd fun b _ e => ⟨e, by omega⟩, rd8.mono (mono_one _) fun b _ e => ⟨e, by omega⟩, ru8.mono monoNd fun b _ e => ⟨e, by omega⟩⟩ (by omega) (by omega) fun vt w9 ot n9 s9 hobt => ?_
        have n89 := New.trans n8 n9
        have n09 := New.trans n07 n89
        have o9 := o7.new' stableRow n89
        have hown : ∀ b, rvi.ownBlock = some b → w.heap.size ≤ b ∧ b < w5.heap.size := fun b e => o5.lt e
        refine Wl.appendAll goodRow o9 (ot.rd monoRow) (fun y cs hy => monoRow _ _ _ _ _ (fun b hb e => ⟨by
          rcases e with e | ⟨e | e, _⟩
          · exact .inr (by omega)
          · exact .inl e
          · exact .inr (by omega), fun e' => by
          have h1 := hown b e'
          rcases e with e | ⟨e | e, _⟩
          · omega
          · have := lowb b _ e; omega
          · omega⟩) hy) rfl rfl (by omega) (by simp only [maxLen, List.length_singleton]; omega) (by simp only [List.length_singleton]; omega) fun rv10 w10 o10 c10 lie _ => ?_
        have s10 := c10.size
        have n010 : New w w10 := Chg.trans n09 c10 fun b hb e => by have := hown b e; omega
        (repeat' (first | refine Wl.moveE (by conv => { lhs; whnf }) ?_ | refine Wl.assignE (by conv => { lhs; whnf }) ?_ | refine Wl.nil ?_ | refine Qseq.normal ?_ | refine Wc.region ?_ | refine Qblk.normal ?_ | refine Wl.add rfl rfl (by omega) (by omega) ?_))
        refine Qloop.normal (i + 1, u, .slice ua u.length uc, done ++ [⟨r.n, r.piece, u⟩], rv10) ⟨rfl, rfl, rfl, rfl, rfl, rfl, trivial⟩ ⟨by dsimp only; omega, hlok rfl, hr1, by dsimp only; rw [hr2, List.append_assoc]; rfl, by simp; omega, ?_, o10.mono monoRow (fun b _ e => by rcases e with e | e <;> omega) (fun _ _ e => e), n010⟩ (by dsimp only; omega)
        have ru9 := (ru8.keep stableNd n9.keep).keep stableNd (c10.keep fun b _ hb e => by
          have h1 := hown b e
          rcases hb.1 with e2 | e2
          · have := lowb b _ e2; omega
          · omega)
        exact ru9.mono monoNd fun b _ e => ⟨by rcases e.1 with e2 | e2; exact .inl e2; exact .inr (by omega), fun e' => by
          rcases lie with lie | lie
          · have h1 := hown b (lie ▸ e')
            rcases e.1 with e2 | e2
            · have := lowb b _ e2; omega
            · omega
          · have h1 := lie b e'
            have := e.2
            omega⟩
    · have e : i = rest.length := by omega
      subst e
      rw [List.drop_length] at hr1 hr2
      simp only [relay, List.append_nil] at hr1 hr2
      rw [if_neg (by rw [hr1]; simp)]
      have h5 := h.new n5
      have hv5 : rvi.oneCell' = true := by obtain ⟨_, _, rfl, _⟩ := o5.form; rfl
      refine Wl.store1 h5.bk rfl (show (1 : Nat) < 3 by omega) rfl hv5 fun w6 k6 c6 => ?_
      replace k6 : Bk w6 bl tStk [bv, rvi, vi S.laid] := k6
      have hblw : bl < w.heap.size := h.bk.lt
      have s5 := n5.size
      have s6 := c6.size
      have o6 := o5.keep stableRow (c6.keep fun b _ hb e => by omega) (c6.keep fun b _ hb e => by rcases hb with hb | hb; rw [e, h.lb] at hb; cases hb; omega)
      have base6 := h5.base.keep stableNd (c6.keep fun b _ hb e => by rw [e, h.lb] at hb; cases hb)
      (repeat' (first | refine Wl.assignE (by conv => { lhs; whnf }) ?_ | refine Wl.nil ?_ | refine Qseq.normal ?_ | refine Wc.seq ?_ | refine Wc.region ?_ | refine Wc.ret ?_))
      refine Qfn.ret1 rfl rfl ⟨_, rfl, rfl, ⟨fun b => if b < w.heap.size then lab b else if b < w6.heap.size then (if rvi.ownBlock = some b then some true else some false) else none, bv, rvi, ⟨fun b c e => ?_, by rw [if_pos hblw]; exact h.lb, k6, base6.mono monoNd fun b _ e => (by rw [if_pos (lowb b _ e)]; exact e), ?_⟩, fun b hb => if_pos hb⟩, Chg.trans n5.any c6 fun b _ e => e ▸ h.lb⟩
      · split at e
        · have := h.low b c e; omega
        · split at e
          · omega
          · cases e
      · show OwnS rRow tRow 5 _ _ w6 rvi (S.rows.take k ++ RES.2)
        rw [hr2]
        refine ownE monoRow o6 (fun b hb e1 e2 => ⟨by rw [if_neg (by omega), if_pos hb, if_pos e1], by omega⟩) fun b hb e1 e2 => ?_
        rcases e1 with e1 | e1
        · rw [if_pos (lowb b _ e1)]; exact e1
        · rw [if_neg (by omega), if_pos hb, if_neg e2]
end Go.Proofs.YtjpebmgllfiloaaDoor
