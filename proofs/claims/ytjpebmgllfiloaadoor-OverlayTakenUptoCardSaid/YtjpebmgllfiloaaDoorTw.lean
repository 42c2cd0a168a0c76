/-
  The walk of OverlayTaken.
-/
import Derived.Test.YtjpebmgllfiloaaDoorTn
import Derived.Test.YtjpebmgllfiloaaDoorSm
import Derived.Test.YtjpebmgllfiloaaDoorAw
import Derived.Test.YtjpebmgllfiloaaDoorOpn
namespace Go.Proofs.YtjpebmgllfiloaaDoor
open Go Wk
open Go.RowKit (Below)
attribute [local irreducible] Go.Calls

def rTree : Rel (List Nd) := rSl rNd 3
theorem goodTree : GoodR rTree 1 := ⟨stableNd.RdS 3, monoNd.RdS 3, fun Pb w x cs ⟨v, e, h⟩ _ c hc => by
  subst e
  obtain ⟨_, _, rfl, _⟩ := h.form
  simp at hc
  subst hc; rfl⟩
theorem stablePc : Stable rPc := fun _ _ _ _ _ hk ⟨⟨nv, dv, e, h1, h2⟩⟩ => ⟨⟨nv, dv, e, h1.keep stableNd hk, h2.keep (stable_one _) hk⟩⟩
theorem monoPc : Mono rPc := fun _ _ _ _ _ hP ⟨⟨nv, dv, e, h1, h2⟩⟩ => ⟨⟨nv, dv, e, h1.mono monoNd hP, h2.mono (mono_one _) hP⟩⟩
theorem goodInt : GoodR (one vi) 1 := good_one _ fun _ => rfl
/-- What the law holds beside the stack. -/
structure TkM (w0 : Nat) (lab : SLab) (w : World) (was : List (List Nd)) (nums : List Int) (wasV numsV : Value) : Prop where
  ow : OwnS rTree 22 1 (fun b => lab b = none ∧ w0 ≤ b) (fun b => (lab b = none ∧ w0 ≤ b) ∧ numsV.ownBlock ≠ some b) w wasV was
  on : OwnS (one vi) 3 1 (fun b => lab b = none ∧ w0 ≤ b) No w numsV nums
  sp : Sep wasV numsV
section
variable {w0 : Nat} {lab lab' : SLab} {w w' : World} {was : List (List Nd)} {nums : List Int} {wasV numsV : Value}
theorem TkM.step (h : TkM w0 lab w was nums wasV numsV) (c : Chg (fun b => lab b = some true) w w') (hl : ∀ b, b < w.heap.size → lab' b = lab b) : TkM w0 lab' w' was nums wasV numsV := by
  have k : ∀ (Pb : Nat → Prop), (∀ b, Pb b → lab b = none) → Keep Pb w w' := fun Pb hP => c.keep fun b _ h1 h2 => by rw [hP b h1] at h2; cases h2
  refine ⟨?_, ?_, h.sp⟩
  · have h1 := h.ow.reblk (Pb' := fun b => (lab b = none ∧ w0 ≤ b) ∧ b < w.heap.size) fun b e hb => ⟨hb, (h.ow.lt e).2⟩
    have h2 := h1.mono goodTree.mo (fun b hb e => e) (Pe' := fun b => ((lab b = none ∧ w0 ≤ b) ∧ numsV.ownBlock ≠ some b) ∧ b < w.heap.size) fun b hb e => ⟨e, hb⟩
    exact (h2.keep goodTree.st (k _ fun b e => e.1.1) (k _ fun b e => e.1.1.1)).mono goodTree.mo (fun b _ e => ⟨(hl b e.2).trans e.1.1, e.1.2⟩) fun b _ e => ⟨⟨(hl b e.2).trans e.1.1.1, e.1.1.2⟩, e.1.2⟩
  · have h1 := h.on.reblk (Pb' := fun b => (lab b = none ∧ w0 ≤ b) ∧ b < w.heap.size) fun b e hb => ⟨hb, (h.on.lt e).2⟩
    exact (h1.keep goodInt.st (k _ fun b e => e.1.1) (k _ fun b e => e.elim)).mono goodInt.mo (fun b _ e => ⟨(hl b e.2).trans e.1.1, e.1.2⟩) fun b _ e => e
theorem TkM.new (h : TkM w0 lab w was nums wasV numsV) (n : New w w') : TkM w0 lab w' was nums wasV numsV := h.step (n.any) fun _ _ => rfl
end
theorem top_short {S : Stk} (wf : WfS S) {k : Nat} (hk : k ≤ S.rows.length) : Short (stkTop S k) := short_ok (stkTop_ok wf hk)
/-- A stack's Lay, told. -/
theorem stkLay_cases {S : Stk} {p : Pc} (h : S.rows.length ≠ 16) : (∃ e, e ≠ 0 ∧ stkLay S p = (S, 0, e)) ∨ ∃ u, layM (stkTop S S.rows.length) p = (u, 0) ∧ stkLay S p = (⟨S.base, S.rows ++ [⟨S.laid + 1, p, u⟩], S.laid + 1⟩, S.laid + 1, 0) := by
  unfold stkLay
  rw [if_neg h]
  by_cases he : (layM (stkTop S S.rows.length) p).2 = 0
  · rw [if_neg (by simpa using he)]
    exact .inr ⟨_, Prod.ext rfl he, rfl⟩
  · rw [if_pos he]
    exact .inl ⟨_, he, rfl⟩
/-- The law's state between two rounds. -/
structure TkS (t : List Nd) (i : Nat) (S : Stk) (was : List (List Nd)) (nums : List Int) : Prop where
  wf : WfS S
  base : S.base = t
  ns : S.rows.map (·.n) = nums
  bound : ∀ x ∈ nums, x ≤ S.laid
  inc : nums.Pairwise (· < ·)
  wl : was.length = S.rows.length
  ws : ∀ (j : Nat) (tr : List Nd), was[j]? = some tr → tr = stkTop S j
  len : S.rows.length ≤ i
  laid : S.laid ≤ 2 * i
set_option maxHeartbeats 8000000 in
set_option maxRecDepth 4000 in
theorem taken_law {w : World} {tv lv : Value} {t : List Nd} {l : List Pc} {n : Int} (ht : RdS rNd 3 (fun b => b < w.heap.size) w tv t) (hl : RdS rPc 3 (fun b => b < w.heap.size) w lv l) (hs : ∀ p ∈ l, p.target.length ≤ 2000000) :
    Calls Tryd.prog 6 #[tv, lv, vi n] w (Ret fun r w' => r = .bool true ∧ New w w') := by
  obtain ⟨ta, tc, rfl, htc1, htc2⟩ := ht.form
  obtain ⟨la, lc, rfl, hlc1, hlc2⟩ := hl.form
  simp only [maxLen] at htc2 hlc2
  refine calls_of_Wc Tryd.func6 rfl Tryd.ntmps6 rfl ?_
  (repeat' (first | refine Wl.assignE (by conv => { lhs; whnf }) ?_ | refine Wl.nil ?_ | refine Qseq.normal ?_ | refine Wc.seq ?_ | refine Wc.region ?_))
  refine Wl.call awake_spec rfl ?_
  rintro _ w1 ⟨rfl, n1⟩
  (repeat' (first | refine Wl.moveE (by conv => { lhs; whnf }) ?_ | refine Wl.nil ?_ | refine Wl.notB rfl ?_ | refine Qseq.normal ?_ | refine Wc.seq ?_ | refine Wc.region ?_ | refine Wc.skip ?_ | refine Wc.condF rfl ?_))
  refine Wl.call (New_spec (ht.keep stableNd n1.keep)) rfl ?_
  rintro _ w2 ⟨n2, hbad, hgood⟩
  have n02 := New.trans n1 n2
  cases hok : treeOk t with
  | false =>
    rw [hbad hok]
    (repeat' (first | refine Wl.moveE (by conv => { lhs; whnf }) ?_ | refine Wl.assignE (by conv => { lhs; whnf }) ?_ | refine Wl.nil ?_ | refine Wl.extract rfl rfl ?_ | refine Qseq.normal ?_ | refine Wc.seq ?_ | refine Wc.region ?_ | refine Wc.condT rfl ?_ | (refine Wl.neq rfl rfl (fun _ => ?_) (fun _ => ?_) <;> (first | (exfalso; omega) | skip))))
    refine Wl.peqNil rfl rfl ?_
    (repeat' (first | refine Wl.assignE (by conv => { lhs; whnf }) ?_ | refine Wl.nil ?_ | refine Qseq.normal ?_ | refine Wc.ret ?_ | refine Qseq.ret ?_))
    exact Qfn.ret1 rfl rfl ⟨_, rfl, rfl, n02⟩
  | true =>
    obtain ⟨bl, lab2, bv2, rfl, st2⟩ := hgood hok
    clear hbad hgood
    have s1 := n1.size
    have s2 := n2.size
    have I0 : TkS t 0 ⟨t, [], 0⟩ [] [] := ⟨⟨hok, by simp, by simp, by simp⟩, rfl, rfl, by simp, by simp, rfl, by simp, by simp, by simp⟩
    have labw : ∀ {lab : SLab} {w' : World} {S bv rv}, StkAt w1.heap.size lab w' bl S bv rv → ∀ b, b < w.heap.size → lab b = none := fun {lab w' S bv rv} h b hb => by
      cases e : lab b with
      | none => rfl
      | some c => have := (h.low b c e).1; omega
    have lnew : ∀ {lab : SLab} {w' w'' : World} {S bv rv}, StkAt w1.heap.size lab w' bl S bv rv → New w w' → Chg (fun b => lab b = some true) w' w'' → New w w'' := fun {lab w' w'' S bv rv} h n c => Chg.trans n c fun b hb e => by have := labw h b hb; rw [this] at e; cases e
    (repeat' (first | refine Wl.moveE (by conv => { lhs; whnf }) ?_ | refine Wl.assignE (by conv => { lhs; whnf }) ?_ | refine Wl.nil ?_ | refine Wl.extract rfl rfl ?_ | refine Qseq.normal ?_))
    refine Wc.seq ?_
    refine Wc.seq ?_
    (repeat' (first | refine Wl.moveE (by conv => { lhs; whnf }) ?_ | refine Wl.nil ?_ | refine Qseq.normal ?_ | refine Wc.region ?_ | refine Wc.skip ?_ | refine Wc.condF rfl ?_ | (refine Wl.neq rfl rfl (fun _ => ?_) (fun _ => ?_) <;> (first | (exfalso; omega) | skip))))
    refine Wc.seq ?_
    (repeat' (first | refine Wl.assignE (by conv => { lhs; whnf }) ?_ | refine Wl.nil ?_ | refine Qseq.normal ?_ | refine Wc.region ?_))
    refine Wc.seq ?_
    (repeat' (first | refine Wl.assignE (by conv => { lhs; whnf }) ?_ | refine Wl.nil ?_ | refine Qseq.normal ?_ | refine Wc.region ?_))
    refine Wc.cutR (fun F w' => ∃ (i : Nat) (S : Stk) (lab : SLab) (bv rv : Value) (was : List (List Nd)) (nums : List Int) (wasV numsV : Value), agrees F [(0, .slice ta t.length tc), (7, ptrV bl), (9, wasV), (10, numsV)] ∧
      i ≤ 12 ∧ TkS t i S was nums ∧ StkAt w1.heap.size lab w' bl S bv rv ∧ TkM w.heap.size lab w' was nums wasV numsV ∧ New w w' ∧ w1.heap.size ≤ w'.heap.size) ?_ ?_
    rotate_left
    · rintro F3 w3 ⟨i, S, lab, bv, rv, was, nums, wasV, numsV, hag, hi12, I, st3, m3, n3, s3⟩
      have hnl : nums.length = S.rows.length := by rw [← I.ns, List.length_map]
      obtain ⟨wa, wc, rfl, hwc1, hwc2⟩ := m3.ow.form
      obtain ⟨na, nc, rfl, hnc1, hnc2⟩ := m3.on.form
      simp only [maxLen] at hwc2 hnc2
      have hrl := I.len
      have hwl := I.wl
      rw [← upds_of_agrees hag]
      simp only [upds]
      (repeat' (first | refine Wl.moveE (by conv => { lhs; whnf }) ?_ | refine Wl.assignE (by conv => { lhs; whnf }) ?_ | refine Wl.nil ?_ | refine Wl.lenS rfl ?_ | refine Qseq.normal ?_ | refine Wc.seq ?_ | refine Wc.region ?_ | refine Wc.block ?_ | refine Wl.sub rfl rfl (by omega) (by omega) ?_))
      refine Wc.loop (σ := Nat × List SRow × SLab × Value × Value) (fun s => [(0, .slice ta t.length tc), (7, ptrV bl), (9, .slice wa was.length wc), (10, .slice na nums.length nc), (18, vi ((s.1 : Int) - 1))])
        (fun s w' => s.1 = s.2.1.length ∧ s.1 ≤ nums.length ∧ s.2.1 = S.rows.take s.1 ∧ StkAt w1.heap.size s.2.2.1 w' bl ⟨S.base, s.2.1, S.laid⟩ s.2.2.2.1 s.2.2.2.2 ∧ TkM w.heap.size s.2.2.1 w' was nums (.slice wa was.length wc) (.slice na nums.length nc) ∧ New w w' ∧ w1.heap.size ≤ w'.heap.size) (fun s => s.1)
        (nums.length, S.rows, lab, bv, rv) ⟨rfl, rfl, rfl, rfl, rfl, trivial⟩ ⟨hnl, Nat.le_refl _, by dsimp only; rw [hnl, List.take_length], st3, m3, n3, s3⟩ ?_
      rintro ⟨m, rows, lab4, bv4, rv4⟩ G w4 ⟨hm, hmn, hrows, st4, m4, n4, s4⟩
      dsimp only at hm hmn hrows st4 m4 n4 s4
      simp only [upds]
      have wfm : WfS ⟨S.base, rows, S.laid⟩ := ⟨I.wf.base, by dsimp only; have := I.wf.len; omega, fun x hx => I.wf.row x (by dsimp only at hx; rw [hrows] at hx; exact List.mem_of_mem_take hx), I.wf.laid⟩
      (repeat' (first | refine Wl.moveE (by conv => { lhs; whnf }) ?_ | refine Wl.nil ?_ | refine Qseq.normal ?_ | refine Wc.seq ?_ | refine Wc.region ?_ | refine Wc.block ?_ | refine Wc.skip ?_ | refine Wc.exit ?_ | refine Qseq.exit ?_ | refine Qblk.hit ?_ | refine Qloop.exit ?_ | refine Wc.condT rfl ?_ | refine Wc.condF rfl ?_ | refine Wl.geq rfl rfl (fun _ => ?_) (fun _ => ?_)))
      · obtain ⟨pre, r, hpr⟩ : ∃ pre r, rows = pre ++ [r] := ⟨rows.dropLast, rows.getLast (by intro e; rw [e] at hm; simp at hm; omega), (List.dropLast_concat_getLast _).symm⟩
        subst hpr
        have hpl : m = pre.length + 1 := by simpa using hm
        have hSr : S.rows[pre.length]? = some r := by
          have := congrArg (fun q => q[pre.length]?) hrows
          simp only [List.getElem?_append_right (Nat.le_refl pre.length), Nat.sub_self, List.getElem?_take] at this
          rw [if_pos (by omega)] at this
          simpa using this.symm
        have hpre : pre = S.rows.take pre.length := by
          have := congrArg (List.take pre.length) hrows
          rw [List.take_left, List.take_take, Nat.min_eq_left (by omega)] at this
          exact this
        have hnum : nums[((m : Int) - 1).toNat]? = some r.n := by
          rw [show ((m : Int) - 1).toNat = pre.length by omega, ← I.ns, List.getElem?_map, hSr]; rfl
        have hwas : was[((m : Int) - 1).toNat]? = some (stkTop ⟨S.base, pre, S.laid⟩ pre.length) := by
          obtain ⟨tr, htr⟩ := get_lt was (k := pre.length) (by omega)
          have e1 := I.ws _ _ htr
          have e2 : stkTop ⟨S.base, pre, S.laid⟩ pre.length = stkTop S pre.length := by
            have h := stkTop_pre (base := S.base) (pre := pre) (post := S.rows.drop pre.length) (laid := S.laid) (laid' := S.laid) (Nat.le_refl pre.length)
            rw [(congrArg (fun q => q ++ S.rows.drop pre.length) hpre).trans (List.take_append_drop _ _)] at h
            exact h.symm
          rw [show ((m : Int) - 1).toNat = pre.length by omega, htr, e1, e2]
        have hlast : stkTake ⟨S.base, pre ++ [r], S.laid⟩ r.n = (⟨S.base, pre, S.laid⟩, 0) := stkTake_last fun x hx e => by
          have h1 : ((pre ++ [r]).map (·.n)).Pairwise (· < ·) := by
            rw [hrows, List.map_take, I.ns]
            exact List.Pairwise.sublist (List.take_sublist _ _) I.inc
          rw [List.map_append, List.pairwise_append] at h1
          have := h1.2.2 x.n (List.mem_map.2 ⟨x, hx, rfl⟩) r.n (by simp)
          omega
        have wfp : WfS ⟨S.base, pre, S.laid⟩ := ⟨I.wf.base, by dsimp only; have := I.wf.len; omega, fun x hx => wfm.row x (by simp at hx ⊢; exact .inl hx), I.wf.laid⟩
        refine Wc.regionT rfl (by kernel_rfl) (fun w' => Chg (fun b => lab4 b = some true) w4 w') (Chg.drew _ _) ?_
        intro w5 n5
        have hnk : ∀ w', Chg (fun b => lab4 b = some true) w4 w' → Keep (fun b => (lab4 b = none ∧ w.heap.size ≤ b) ∨ No b) w4 w' := fun w' hw => hw.keep fun b _ e1 e2 => by rcases e1 with e1 | e1; rw [e1.1] at e2; cases e2; exact e1
        have hwk : ∀ w', Chg (fun b => lab4 b = some true) w4 w' → Keep (fun b => (lab4 b = none ∧ w.heap.size ≤ b) ∨ ((lab4 b = none ∧ w.heap.size ≤ b) ∧ (Value.slice na nums.length nc).ownBlock ≠ some b)) w4 w' := fun w' hw => hw.keep fun b _ e1 e2 => by rcases e1 with e1 | e1; rw [e1.1] at e2; cases e2; rw [e1.1.1] at e2; cases e2
        (repeat' (refine Wt.quiet rfl (Wq.moveE (by conv => { lhs; whnf }) (Wq.nil ?_))))
        refine Wt.quiet rfl (Wq.idxAddrV (m4.on.rd goodInt.mo) hnk rfl rfl (by omega) hnum (fun b o hc => Wq.nil ?_))
        refine Wt.quiet rfl (Wq.load1 rfl hc (Wq.nil ?_))
        refine Wt.chain rfl (Wl.call (Take_spec (n := r.n) (st4.new n5) (by have := n5.size; omega) wfm) rfl ?_)
        rintro _ w6 ⟨rfl, ⟨lab6, bv6, rv6, st6, hl6⟩, c6⟩
        rw [hlast] at st6 ⊢
        dsimp only at st6 ⊢
        have c46 : Chg (fun b => lab4 b = some true) w4 w6 := Chg.trans n5.any c6 fun _ _ e => e
        refine Wl.nil ⟨rfl, c46, ?_⟩
        have m6 := m4.step c46 fun b hb => hl6 b (by have := n5.size; omega)
        (repeat' (first | refine Wt.guardY rfl rfl ?_ | refine Wt.quiet rfl (Wq.moveE (by conv => { lhs; whnf }) (Wq.nil ?_)) | (refine Wt.quiet rfl (Wq.neq rfl rfl (fun _ => Wq.nil ?_) (fun _ => Wq.nil ?_)) <;> (first | (exfalso; omega) | skip))))
        refine Wt.chain rfl (Wl.call (Tree_spec st6 wfp) rfl ?_)
        rintro tv7 w7 ⟨⟨labt7, pvs7, to7⟩, n7⟩
        have c47 : Chg (fun b => lab4 b = some true) w4 w7 := Chg.trans c46 (n7.any) fun _ _ e => e
        refine Wl.nil ⟨rfl, c47, ?_⟩
        (repeat' (first | refine Wt.guardY rfl rfl ?_ | refine Wt.quiet rfl (Wq.moveE (by conv => { lhs; whnf }) (Wq.nil ?_))))
        refine Wt.quiet rfl (Wq.idxAddr (m4.ow.rd goodTree.mo) hwk rfl rfl (by omega) hwas fun b o cs hcl hR hat => Wq.nil ?_)
        obtain ⟨xv, rfl, hxr⟩ := hR
        (repeat' (refine Wt.guardY rfl rfl ?_))
        refine Wt.quiet rfl (Wq.load1 rfl (fun w' hw => (hat w' hw).get 0 rfl) (Wq.nil ?_))
        try refine Wt.guardY rfl rfl ?_
        refine Wt.chain rfl (Wl.call (Same_spec (t := stkTop ⟨S.base, pre, S.laid⟩ pre.length) to7.rd (hxr.keep stableNd (hwk w7 c47)) (top_short wfp (Nat.le_refl _))) rfl ?_)
        rintro _ w8 ⟨rfl, n8⟩
        have c48 : Chg (fun b => lab4 b = some true) w4 w8 := Chg.trans c47 (n8.any) fun _ _ e => e
        refine Wl.nil ⟨rfl, c48, ?_⟩
        (repeat' (first | refine Wt.nil ?_ | refine Wt.guardY rfl rfl ?_ | refine Wt.quiet rfl (Wq.pickFE rfl (by conv => { lhs; whnf }) (Wq.nil ?_)) | refine Wt.quiet rfl (Wq.notB rfl (Wq.nil ?_))))
        (repeat' (first | refine Wl.moveE (by conv => { lhs; whnf }) ?_ | refine Wl.assignE (by conv => { lhs; whnf }) ?_ | refine Wl.nil ?_ | refine Qseq.normal ?_ | refine Wc.region ?_ | refine Wc.skip ?_ | refine Qblk.normal ?_ | refine Wc.condF rfl ?_ | refine Wl.sub rfl rfl (by omega) (by omega) ?_))
        have n78 := New.trans n7 n8
        refine Qloop.normal (pre.length, pre, lab6, bv6, rv6) ⟨rfl, rfl, rfl, rfl, by show vi _ = vi _; congr 1; omega, trivial⟩ ⟨rfl, by dsimp only; omega, hpre, st6.new n78, m6.new n78, lnew st4 n4 c48, by have := c48.size; omega⟩ (by dsimp only; omega)
      · have hm0 : m = 0 := by omega
        subst hm0
        obtain rfl : rows = [] := List.eq_nil_of_length_eq_zero hm.symm
        have htop0 : stkTop ⟨S.base, [], S.laid⟩ ([] : List SRow).length = t := I.base
        refine Wl.call (Tree_spec st4 wfm) rfl ?_
        rintro tv5 w5 ⟨⟨labt5, pvs5, to5⟩, n5⟩
        have rt5 := to5.rd
        dsimp only at rt5
        rw [htop0] at rt5
        have n05 := New.trans n4 n5
        have hst := short_ok hok
        (repeat' (refine Wl.moveE (by conv => { lhs; whnf }) ?_))
        refine Wl.call (Same_spec rt5 (ht.keep stableNd n05.keep) hst) rfl ?_
        rintro _ w6 ⟨rfl, n6⟩
        have n06 := New.trans n05 n6
        (repeat' (first | refine Wl.moveE (by conv => { lhs; whnf }) ?_ | refine Wl.guardY rfl rfl ?_))
        refine Wl.call (Base_spec ((st4.new n5).new n6) wfm) rfl ?_
        rintro tv7 w7 ⟨⟨labt7, pvs7, to7⟩, n7⟩
        have rt7 := to7.rd
        dsimp only at rt7
        rw [I.base] at rt7
        have n07 := New.trans n06 n7
        (repeat' (first | refine Wl.moveE (by conv => { lhs; whnf }) ?_ | refine Wl.guardY rfl rfl ?_))
        refine Wl.call (Same_spec rt7 (ht.keep stableNd n07.keep) hst) rfl ?_
        rintro _ w8 ⟨rfl, n8⟩
        (repeat' (first | refine Wl.assignE (by conv => { lhs; whnf }) ?_ | refine Wl.nil ?_ | refine Wl.pickTE rfl (by conv => { lhs; whnf }) ?_ | refine Qseq.normal ?_ | refine Wc.ret ?_))
        exact Qfn.ret1 rfl rfl ⟨_, rfl, rfl, New.trans n07 n8⟩
    (repeat' (first | refine Wl.assignE (by conv => { lhs; whnf }) ?_ | refine Wl.nil ?_ | refine Qseq.normal ?_ | refine Wc.seq ?_ | refine Wc.region ?_ | refine Wc.block ?_))
    refine Wc.loop (σ := Nat × Stk × SLab × Value × Value × List (List Nd) × List Int × Value × Value) (fun s => [(0, .slice ta t.length tc), (1, .slice la l.length lc), (7, ptrV bl), (9, s.2.2.2.2.2.2.2.1), (10, s.2.2.2.2.2.2.2.2), (11, vi s.1)])
      (fun s w' => s.1 ≤ l.length ∧ s.1 ≤ 12 ∧ TkS t s.1 s.2.1 s.2.2.2.2.2.1 s.2.2.2.2.2.2.1 ∧ StkAt w1.heap.size s.2.2.1 w' bl s.2.1 s.2.2.2.1 s.2.2.2.2.1 ∧ TkM w.heap.size s.2.2.1 w' s.2.2.2.2.2.1 s.2.2.2.2.2.2.1 s.2.2.2.2.2.2.2.1 s.2.2.2.2.2.2.2.2 ∧ New w w' ∧ w1.heap.size ≤ w'.heap.size) (fun s => l.length - s.1)
      (0, ⟨t, [], 0⟩, lab2, bv2, .slice none 0 0, [], [], .slice none 0 0, .slice none 0 0) ⟨rfl, rfl, rfl, rfl, rfl, rfl, trivial⟩ ⟨Nat.zero_le _, by simp, I0, st2, ⟨OwnS.nil, OwnS.nil, fun b e => by cases e⟩, n02, s2⟩ ?_
    rintro ⟨i, S, lab, bv, rv, was, nums, wasV, numsV⟩ G w3 ⟨hi, hi12, I, st3, m3, n3, s3⟩
    dsimp only at hi hi12 I st3 m3 n3 s3
    have hrl := I.len
    have hwl := I.wl
    have hnl : nums.length = S.rows.length := by rw [← I.ns, List.length_map]
    obtain ⟨wa, wc, rfl, hwc1, hwc2⟩ := m3.ow.form
    obtain ⟨na, nc, rfl, hnc1, hnc2⟩ := m3.on.form
    simp only [maxLen] at hwc2 hnc2
    simp only [upds]
    (repeat' (first | refine Wl.moveE (by conv => { lhs; whnf }) ?_ | refine Wl.nil ?_ | refine Wl.guardY rfl rfl ?_ | refine Wl.guardN rfl rfl ?_ | refine Wl.pickTE rfl (by conv => { lhs; whnf }) ?_ | refine Wl.pickFE rfl (by conv => { lhs; whnf }) ?_ | refine Wl.lenS rfl ?_ | refine Qseq.normal ?_ | refine Wc.seq ?_ | refine Wc.region ?_ | refine Wc.block ?_ | refine Wc.skip ?_ | refine Wc.exit ?_ | refine Qseq.exit ?_ | refine Qblk.hit ?_ | refine Qloop.exit ?_ | refine Wc.condT rfl ?_ | refine Wc.condF rfl ?_ | refine Wl.lss rfl rfl (fun _ => ?_) (fun _ => ?_)))
    · obtain ⟨p, hp⟩ := get_lt l (k := i) (by omega)
      have hps := hs p (List.mem_of_getElem? hp)
      have hlw : ∀ {w'}, New w w' → Keep (fun b => b < w.heap.size) w w' := fun hw => hw.keep
      refine Wl.call (Tree_spec st3 I.wf) rfl ?_
      rintro nowV w4 ⟨⟨labt4, pvs4, to4⟩, n4⟩
      have rnow4 : RdS rNd 3 (fun b => (((lab b = none ∧ w.heap.size ≤ b) ∧ (Value.slice na nums.length nc).ownBlock ≠ some b) ∧ (Value.slice wa was.length wc).ownBlock ≠ some b) ∧ b < w4.heap.size) w4 nowV (stkTop S S.rows.length) := to4.rd.mono monoNd fun b hb e => ⟨⟨⟨⟨by
        cases e' : lab b with
        | none => rfl
        | some c => have := (st3.low b c e').2; omega, by have := n3.size; omega⟩, fun e' => by have := (m3.on.lt e').2; omega⟩, fun e' => by have := (m3.ow.lt e').2; omega⟩, hb⟩
      obtain ⟨qa, qc, rfl, _, _⟩ := rnow4.form
      clear to4
      have st4 := st3.new n4
      have m4 := m3.new n4
      have n04 := New.trans n3 n4
      have s4 := n4.size
      (repeat' (first | refine Wl.moveE (by conv => { lhs; whnf }) ?_ | refine Wl.assignE (by conv => { lhs; whnf }) ?_ | refine Wl.nil ?_ | refine Qseq.normal ?_ | refine Wc.seq ?_ | refine Wc.region ?_))
      refine Wl.idxAddr (hl.keep stablePc (hlw n04)) rfl rfl (by omega) hp fun b o cs hcl hR hat => ?_
      obtain ⟨⟨pnv, pdv, rfl, hpn, hpd⟩⟩ := hR
      refine Wl.loadAt hat rfl rfl ?_
      clear hat
      refine Wl.call (LayS_spec st4 (by omega) I.wf (p := p) hpn hpd hps (fun b hb => labw st4 b hb)) rfl ?_
      rintro _ w5 ⟨rfl, ⟨lab5, bv5, rv5, st5, hl5⟩, c5⟩
      have n05 := lnew st4 n04 c5
      have m5 := m4.step c5 hl5
      have s5 := c5.size
      have know : Keep (fun b => (((lab b = none ∧ w.heap.size ≤ b) ∧ (Value.slice na nums.length nc).ownBlock ≠ some b) ∧ (Value.slice wa was.length wc).ownBlock ≠ some b) ∧ b < w4.heap.size) w4 w5 := c5.keep fun b _ h1 h2 => by rw [h1.1.1.1.1] at h2; cases h2
      have rnow5 : RdS rNd 3 (fun b => ((lab5 b = none ∧ w.heap.size ≤ b) ∧ (Value.slice na nums.length nc).ownBlock ≠ some b) ∧ (Value.slice wa was.length wc).ownBlock ≠ some b) w5 (.slice qa (stkTop S S.rows.length).length qc) (stkTop S S.rows.length) := (rnow4.keep stableNd know).mono monoNd fun b _ e => ⟨⟨⟨(hl5 b e.2).trans e.1.1.1.1, e.1.1.1.2⟩, e.1.1.2⟩, e.1.2⟩
      clear know rnow4
      rcases stkLay_cases (S := S) (p := p) (by omega) with ⟨e, he, hlay⟩ | ⟨u, hu, hlay⟩
      · rw [hlay] at st5 ⊢
        dsimp only at st5 ⊢
        (repeat' (first | refine Wl.moveE (by conv => { lhs; whnf }) ?_ | refine Wl.assignE (by conv => { lhs; whnf }) ?_ | refine Wl.nil ?_ | refine Wl.extract rfl rfl ?_ | refine Qseq.normal ?_ | refine Wc.seq ?_ | refine Wc.region ?_ | refine Wc.condT rfl ?_ | (refine Wl.neq rfl rfl (fun _ => ?_) (fun _ => ?_) <;> (first | (exfalso; omega) | skip))))
        refine Wl.call (Tree_spec st5 I.wf) rfl ?_
        rintro tv6 w6 ⟨⟨labt6, pvs6, to6⟩, n6⟩
        (repeat' (refine Wl.moveE (by conv => { lhs; whnf }) ?_))
        refine Wl.call (Same_spec to6.rd (rnow5.keep stableNd n6.keep) (top_short I.wf (Nat.le_refl _))) rfl ?_
        rintro _ w7 ⟨rfl, n7⟩
        have n67 := New.trans n6 n7
        (repeat' (first | refine Wl.moveE (by conv => { lhs; whnf }) ?_ | refine Wl.assignE (by conv => { lhs; whnf }) ?_ | refine Wl.nil ?_ | refine Wl.notB rfl ?_ | refine Qseq.normal ?_ | refine Wc.region ?_ | refine Wc.skip ?_ | refine Wc.exit ?_ | refine Qseq.exit ?_ | refine Qblk.hit ?_ | refine Wc.condF rfl ?_ | refine Wl.add rfl rfl (by omega) (by omega) ?_))
        refine Qloop.normal (i + 1, S, lab5, bv5, rv5, was, nums, _, _) ⟨rfl, rfl, rfl, rfl, rfl, rfl, trivial⟩ ⟨by dsimp only; omega, by dsimp only; omega, ⟨I.wf, I.base, I.ns, I.bound, I.inc, I.wl, I.ws, by dsimp only; omega, by have := I.laid; dsimp only; omega⟩, st5.new n67, m5.new n67, New.trans n05 n67, by have := n67.size; omega⟩ (by dsimp only; omega)
      · rw [hlay] at st5 ⊢
        dsimp only at st5 ⊢
        have hpo : pieceOk p = true := by
          obtain ⟨_, _, _, _, _, L⟩ := laid_of hu
          exact L.pk
        have huo := (layF hu).tu
        have hlaid := I.wf.laid
        have hIl := I.laid
        have wf5 : WfS ⟨S.base, S.rows ++ [⟨S.laid + 1, p, u⟩], S.laid + 1⟩ := wf_push I.wf (by omega) ⟨huo, hpo, hps⟩ (by omega)
        (repeat' (first | refine Wl.moveE (by conv => { lhs; whnf }) ?_ | refine Wl.assignE (by conv => { lhs; whnf }) ?_ | refine Wl.nil ?_ | refine Wl.extract rfl rfl ?_ | refine Qseq.normal ?_ | refine Wc.seq ?_ | refine Wc.region ?_ | refine Wc.skip ?_ | refine Wc.condF rfl ?_ | (refine Wl.neq rfl rfl (fun _ => ?_) (fun _ => ?_) <;> (first | (exfalso; omega) | skip))))
        refine Wl.call (Tree_spec st5 wf5) rfl ?_
        rintro ov w6 ⟨⟨labt6, pvs6, to6⟩, n6⟩
        have n06 := New.trans n05 n6
        have st6 := st5.new n6
        have m6 := m5.new n6
        have rnow6 := rnow5.keep stableNd n6.keep
        have ro6 : RdS rNd 3 (fun b => ((lab5 b = none ∧ w.heap.size ≤ b) ∧ (Value.slice na nums.length nc).ownBlock ≠ some b) ∧ (Value.slice wa was.length wc).ownBlock ≠ some b) w6 ov (stkTop ⟨S.base, S.rows ++ [⟨S.laid + 1, p, u⟩], S.laid + 1⟩ (S.rows ++ [(⟨S.laid + 1, p, u⟩ : SRow)]).length) := to6.rd.mono monoNd fun b hb e => ⟨⟨⟨by
          cases e' : lab5 b with
          | none => rfl
          | some c => have := (st5.low b c e').2; omega, by have := n05.size; omega⟩, fun e' => by have := (m5.on.lt e').2; omega⟩, fun e' => by have := (m5.ow.lt e').2; omega⟩
        rw [stkTop_last] at ro6
        dsimp only at ro6
        clear to6
        obtain ⟨oa, oc, rfl, _, _⟩ := ro6.form
        have s6 := n6.size
        (repeat' (first | refine Wl.moveE (by conv => { lhs; whnf }) ?_ | refine Wl.assignE (by conv => { lhs; whnf }) ?_ | refine Wl.nil ?_ | refine Qseq.normal ?_ | refine Wc.seq ?_ | refine Wc.region ?_))
        refine Wl.idxAddr (hl.keep stablePc (hlw n06)) rfl rfl (by omega) hp fun b o cs hcl hR hat => ?_
        obtain ⟨⟨pnv2, pdv2, rfl, hpn2, hpd2⟩⟩ := hR
        refine Wl.loadAt hat rfl rfl ?_
        clear hat
        refine Wl.call (Lay_spec (Pb := fun _ => True) (p := p) (ro6.mono monoNd fun _ _ _ => trivial) (hpn2.mono monoNd fun _ _ _ => trivial) (hpd2.mono (mono_one _) fun _ _ _ => trivial) hps) rfl ?_
        rintro _ w7 ⟨two, rfl, n7, labt7, pvs7, to7⟩
        rw [layM_twice hu] at to7 ⊢
        dsimp only at to7 ⊢
        have hsu := short_ok huo
        (repeat' (first | refine Wl.moveE (by conv => { lhs; whnf }) ?_ | refine Wl.assignE (by conv => { lhs; whnf }) ?_ | refine Wl.nil ?_ | refine Wl.extract rfl rfl ?_ | refine Wl.guardY rfl rfl ?_ | refine Qseq.normal ?_ | refine Wc.seq ?_ | refine Wc.region ?_ | (refine Wl.neq rfl rfl (fun _ => ?_) (fun _ => ?_) <;> (first | (exfalso; omega) | skip))))
        refine Wl.call (Same_spec to7.rd (ro6.keep stableNd n7.keep) hsu) rfl ?_
        rintro _ w8 ⟨rfl, n8⟩
        have n68 := New.trans n7 n8
        have n08 := New.trans n06 n68
        have st8 := st6.new n68
        have m8 := m6.new n68
        have rnow8 := rnow6.keep stableNd n68.keep
        have ro8 := ro6.keep stableNd n68.keep
        have s8 := n68.size
        clear to7 n7 n8
        have low8 : ∀ b, w8.heap.size ≤ b → lab5 b = none := fun b hb => by
          cases e' : lab5 b with
          | none => rfl
          | some c => have := (st8.low b c e').2; omega
        have s08 := n08.size
        (repeat' (first | refine Wl.moveE (by conv => { lhs; whnf }) ?_ | refine Wl.nil ?_ | refine Wl.guardY rfl rfl ?_ | refine Wl.pickFE rfl (by conv => { lhs; whnf }) ?_ | refine Wl.notB rfl ?_ | refine Qseq.normal ?_ | refine Wc.seq ?_ | refine Wc.region ?_ | refine Wc.skip ?_ | refine Wc.condF rfl ?_))
        refine Wl.buildSlice1 (R := rTree) (y := stkTop S S.rows.length) (Pe := fun b => ((lab5 b = none ∧ w.heap.size ≤ b) ∧ (Value.slice na nums.length nc).ownBlock ≠ some b) ∧ (Value.slice wa was.length wc).ownBlock ≠ some b) goodTree rfl rfl rfl ⟨_, rfl, rnow8.mono monoNd fun b hb e => ⟨e, by omega⟩⟩ (by omega) (by omega) fun vt w9 ot n9 s9 hobt => ?_
        have m9 := m8.new n9
        have st9 := st8.new n9
        have hwb : ∀ b, (Value.slice wa was.length wc).ownBlock = some b → (lab5 b = none ∧ w.heap.size ≤ b) ∧ b < w8.heap.size := fun b e => m8.ow.lt e
        have hnb : ∀ b, (Value.slice na nums.length nc).ownBlock = some b → (lab5 b = none ∧ w.heap.size ≤ b) ∧ b < w8.heap.size := fun b e => m8.on.lt e
        refine Wl.appendAll goodTree m9.ow (ot.rd goodTree.mo) (fun y cs hy => goodTree.mo _ _ _ _ _ (fun b hb e => by
          rcases e with e | e
          · exact ⟨⟨⟨low8 b e, by omega⟩, fun e' => by have := (hnb b e').2; omega⟩, fun e' => by have := (hwb b e').2; omega⟩
          · exact e) hy) rfl rfl (by omega) (by simp only [maxLen, List.length_singleton]; omega) (by simp only [List.length_singleton]; omega) fun wasV' w10 ow10 c10 lie10 _ => ?_
        have s10 := c10.size
        obtain ⟨wa', wc', rfl, _, _⟩ := ow10.form
        have n010 : New w w10 := Chg.trans (New.trans n08 n9) c10 fun b hb e => by have := (hwb b e).1.2; omega
        have st10 := st9.chg c10 fun b _ e => (hwb b e).1.1
        have on10 := m9.on.chg (plain_one _) c10 fun b e1 e2 => m9.sp b e2 e1
        have rnow10 := rnow8.keep stableNd (w' := w9) n9.keep
        replace rnow10 := rnow10.keep stableNd (c10.keep fun b _ e1 e2 => e1.2 e2)
        have ro10 := (ro8.keep stableNd n9.keep).keep stableNd (c10.keep fun b _ e1 e2 => e1.2 e2)
        have hw10 : ∀ b, (Value.slice wa' (was ++ [stkTop S S.rows.length]).length wc').ownBlock = some b → b < w10.heap.size := fun b e => (ow10.lt e).2
        have sp10 : Sep (.slice wa' (was ++ [stkTop S S.rows.length]).length wc') (.slice na nums.length nc) := fun b e1 e2 => by
          rcases lie10 with lie | lie
          · exact m8.sp b (lie ▸ e1) e2
          · have := lie b e1; have := (hnb b e2).2; omega
        have ow10' : OwnS rTree 22 1 (fun b => lab5 b = none ∧ w.heap.size ≤ b) (fun b => ((lab5 b = none ∧ w.heap.size ≤ b) ∧ (Value.slice na nums.length nc).ownBlock ≠ some b) ∧ b < w10.heap.size) w10 (.slice wa' (was ++ [stkTop S S.rows.length]).length wc') (was ++ [stkTop S S.rows.length]) := ow10.mono goodTree.mo (fun b _ e => by rcases e with e | e; exact e; exact ⟨low8 b (by omega), by omega⟩) fun b hb e => ⟨e, hb⟩
        clear ow10 m9 ot
        have hnums : S.rows.map (·.n) = nums := I.ns
        (repeat' (first | refine Wl.moveE (by conv => { lhs; whnf }) ?_ | refine Wl.assignE (by conv => { lhs; whnf }) ?_ | refine Wl.nil ?_ | refine Qseq.normal ?_ | refine Wc.seq ?_ | refine Wc.region ?_))
        refine Wl.buildSlice1 (R := one vi) (y := S.laid + 1) (Pe := No) goodInt rfl rfl rfl rfl (by omega) (by omega) fun vt2 w11 ot2 n11 s11 hobt2 => ?_
        refine Wl.appendAll goodInt (on10.new (plain_one _) n11) (ot2.rd goodInt.mo) (fun y cs hy => hy) rfl rfl (by omega) (by simp only [maxLen, List.length_singleton]; omega) (by simp only [List.length_singleton]; omega) fun numsV' w12 on12 c12 lie12 _ => ?_
        have s12 := c12.size
        obtain ⟨na', nc', rfl, hnc1', hnc2'⟩ := on12.form
        have n1012 : New w w12 := Chg.trans (New.trans n010 n11) c12 fun b hb e => by have := (hnb b e).1.2; omega
        have st12 := (st10.new n11).chg c12 fun b _ e => (hnb b e).1.1
        have hn12 : ∀ b, (Value.slice na' (nums ++ [S.laid + 1]).length nc').ownBlock = some b → (Value.slice na nums.length nc).ownBlock = some b ∨ w11.heap.size ≤ b := fun b e => by
          rcases lie12 with lie | lie
          · exact .inl (lie ▸ e)
          · exact .inr (lie b e)
        have ow12 : OwnS rTree 22 1 (fun b => lab5 b = none ∧ w.heap.size ≤ b) (fun b => (lab5 b = none ∧ w.heap.size ≤ b) ∧ (Value.slice na' (nums ++ [S.laid + 1]).length nc').ownBlock ≠ some b) w12 (.slice wa' (was ++ [stkTop S S.rows.length]).length wc') (was ++ [stkTop S S.rows.length]) := by
          have h1 := ow10'.reblk (Pb' := fun b => (lab5 b = none ∧ w.heap.size ≤ b) ∧ (Value.slice na nums.length nc).ownBlock ≠ some b) fun b e hb => ⟨hb, sp10 b e⟩
          have h2 := (h1.keep goodTree.st n11.keep n11.keep).keep goodTree.st (c12.keep fun b _ e1 e2 => e1.2 e2) (c12.keep fun b _ e1 e2 => e1.1.2 e2)
          exact h2.mono goodTree.mo (fun b _ e => e.1) fun b _ e => ⟨e.1.1, fun e' => by
            rcases hn12 b e' with h | h
            · exact e.1.2 h
            · have := e.2; omega⟩
        have on12' : OwnS (one vi) 3 1 (fun b => lab5 b = none ∧ w.heap.size ≤ b) No w12 (.slice na' (nums ++ [S.laid + 1]).length nc') (nums ++ [S.laid + 1]) := on12.mono goodInt.mo (fun b _ e => by rcases e with e | e; exact e; exact ⟨low8 b (by omega), by omega⟩) fun _ _ e => e
        have m12 : TkM w.heap.size lab5 w12 (was ++ [stkTop S S.rows.length]) (nums ++ [S.laid + 1]) (.slice wa' (was ++ [stkTop S S.rows.length]).length wc') (.slice na' (nums ++ [S.laid + 1]).length nc') := ⟨ow12, on12', fun b e1 e2 => by
          rcases hn12 b e2 with h | h
          · exact sp10 b e1 h
          · have := hw10 b e1; omega⟩
        have rnow12 : RdS rNd 3 (fun b => lab5 b = none ∧ b < w12.heap.size) w12 (.slice qa (stkTop S S.rows.length).length qc) (stkTop S S.rows.length) := ((rnow10.keep stableNd n11.keep).keep stableNd (c12.keep fun b _ e1 e2 => e1.1.2 e2)).mono monoNd fun b hb e => ⟨e.1.1.1, hb⟩
        have ro12 : RdS rNd 3 (fun b => lab5 b = none ∧ b < w12.heap.size) w12 (.slice oa u.length oc) u := ((ro10.keep stableNd n11.keep).keep stableNd (c12.keep fun b _ e1 e2 => e1.1.2 e2)).mono monoNd fun b hb e => ⟨e.1.1.1, hb⟩
        clear ow12 on12' on12 ow10' on10 hn12 hw10 sp10 rnow10 ro10 rnow8 ro8 rnow6 ro6 m8 m6 st8 st6 st9 st10 low8 hwb hnb
        have hlast : stkTake ⟨S.base, S.rows ++ [⟨S.laid + 1, p, u⟩], S.laid + 1⟩ (S.laid + 1) = (⟨S.base, S.rows, S.laid + 1⟩, 0) := stkTake_last (r := ⟨S.laid + 1, p, u⟩) fun x hx e => by
          have := I.bound x.n (hnums ▸ List.mem_map.2 ⟨x, hx, rfl⟩)
          dsimp only at e
          omega
        have low1 : w1.heap.size ≤ w12.heap.size := by omega
        (repeat' (first | refine Wl.moveE (by conv => { lhs; whnf }) ?_ | refine Wl.assignE (by conv => { lhs; whnf }) ?_ | refine Wl.nil ?_ | refine Qseq.normal ?_ | refine Wc.seq ?_ | refine Wc.region ?_))
        refine Wl.call (Take_spec (n := S.laid + 1) st12 low1 wf5) rfl ?_
        rintro _ w13 ⟨rfl, ⟨lab13, bv13, rv13, st13, hl13⟩, c13⟩
        rw [hlast] at st13 ⊢
        dsimp only at st13 ⊢
        have n013 := lnew st12 n1012 c13
        have m13 := m12.step c13 hl13
        have kn13 : ∀ {v : Value} {x : List Nd}, RdS rNd 3 (fun b => lab5 b = none ∧ b < w12.heap.size) w12 v x → RdS rNd 3 (fun b => lab13 b = none) w13 v x := fun hr => (hr.keep stableNd (c13.keep fun b _ e1 e2 => by rw [e1.1] at e2; cases e2)).mono monoNd fun b _ e => (hl13 b e.2).trans e.1
        have rnow13 := kn13 rnow12
        have ro13 := kn13 ro12
        have s13 := c13.size
        clear kn13 rnow12 ro12 m12 st12
        have wf13 : WfS ⟨S.base, S.rows, S.laid + 1⟩ := ⟨I.wf.base, I.wf.len, I.wf.row, by dsimp only; omega⟩
        (repeat' (first | refine Wl.moveE (by conv => { lhs; whnf }) ?_ | refine Wl.guardY rfl rfl ?_ | (refine Wl.neq rfl rfl (fun _ => ?_) (fun _ => ?_) <;> (first | (exfalso; omega) | skip))))
        refine Wl.call (Tree_spec st13 wf13) rfl ?_
        rintro tv14 w14 ⟨⟨labt14, pvs14, to14⟩, n14⟩
        (repeat' (first | refine Wl.moveE (by conv => { lhs; whnf }) ?_ | refine Wl.guardY rfl rfl ?_))
        refine Wl.call (Same_spec (t := stkTop S S.rows.length) to14.rd (rnow13.keep stableNd n14.keep) (top_short I.wf (Nat.le_refl _))) rfl ?_
        rintro _ w15 ⟨rfl, n15⟩
        have n1315 := New.trans n14 n15
        have st15 := st13.new n1315
        have m15 := m13.new n1315
        have ro15 := ro13.keep stableNd n1315.keep
        have n015 := New.trans n013 n1315
        have s15 := n1315.size
        clear to14 n14 n15
        have hlay2 : stkLay ⟨S.base, S.rows, S.laid + 1⟩ p = (⟨S.base, S.rows ++ [⟨S.laid + 1 + 1, p, u⟩], S.laid + 1 + 1⟩, S.laid + 1 + 1, 0) := by
          unfold stkLay
          dsimp only
          have e1 : stkTop ⟨S.base, S.rows, S.laid + 1⟩ S.rows.length = stkTop S S.rows.length := rfl
          rw [if_neg (by omega), e1, hu]
          simp
        (repeat' (first | refine Wl.moveE (by conv => { lhs; whnf }) ?_ | refine Wl.nil ?_ | refine Wl.guardY rfl rfl ?_ | refine Wl.pickFE rfl (by conv => { lhs; whnf }) ?_ | refine Wl.notB rfl ?_ | refine Qseq.normal ?_ | refine Wc.seq ?_ | refine Wc.region ?_ | refine Wc.skip ?_ | refine Wc.condF rfl ?_))
        refine Wl.idxAddr (hl.keep stablePc (hlw n015)) rfl rfl (by omega) hp fun b o cs hcl hR hat => ?_
        obtain ⟨⟨pnv3, pdv3, rfl, hpn3, hpd3⟩⟩ := hR
        refine Wl.loadAt hat rfl rfl ?_
        clear hat
        refine Wl.call (LayS_spec st15 (by omega) wf13 (p := p) hpn3 hpd3 hps (fun b hb => labw st15 b hb)) rfl ?_
        rintro _ w16 ⟨rfl, ⟨lab16, bv16, rv16, st16, hl16⟩, c16⟩
        rw [hlay2] at st16 ⊢
        dsimp only at st16 ⊢
        have n016 := lnew st15 n015 c16
        have m16 := m15.step c16 hl16
        have ro16 := ro15.keep stableNd (c16.keep fun b _ e1 e2 => by rw [e1] at e2; cases e2)
        have s16 := c16.size
        have wf16 : WfS ⟨S.base, S.rows ++ [⟨S.laid + 1 + 1, p, u⟩], S.laid + 1 + 1⟩ := wf_push wf13 (by dsimp only; omega) ⟨huo, hpo, hps⟩ (by omega)
        clear st15 m15
        (repeat' (first | refine Wl.moveE (by conv => { lhs; whnf }) ?_ | refine Wl.assignE (by conv => { lhs; whnf }) ?_ | refine Wl.nil ?_ | refine Wl.extract rfl rfl ?_ | refine Wl.guardY rfl rfl ?_ | refine Qseq.normal ?_ | refine Wc.seq ?_ | refine Wc.region ?_ | (refine Wl.neq rfl rfl (fun _ => ?_) (fun _ => ?_) <;> (first | (exfalso; omega) | skip))))
        refine Wl.call (Tree_spec st16 wf16) rfl ?_
        rintro tv17 w17 ⟨⟨labt17, pvs17, to17⟩, n17⟩
        have rt17 := to17.rd
        rw [stkTop_last] at rt17
        dsimp only at rt17
        (repeat' (first | refine Wl.moveE (by conv => { lhs; whnf }) ?_ | refine Wl.guardY rfl rfl ?_))
        refine Wl.call (Same_spec rt17 (ro16.keep stableNd n17.keep) hsu) rfl ?_
        rintro _ w18 ⟨rfl, n18⟩
        have n1618 := New.trans n17 n18
        have st18 := st16.new n1618
        have m18 := m16.new n1618
        have n018 := New.trans n016 n1618
        have s18 := n1618.size
        clear to17 rt17 n17 n18 st16 m16 ro16 ro15 ro13
        have hnl2 : (nums ++ [S.laid + 1]).length = nums.length + 1 := by simp
        (repeat' (first | refine Wl.moveE (by conv => { lhs; whnf }) ?_ | refine Wl.nil ?_ | refine Wl.guardY rfl rfl ?_ | refine Wl.pickFE rfl (by conv => { lhs; whnf }) ?_ | refine Wl.notB rfl ?_ | refine Wl.lenS rfl ?_ | refine Qseq.normal ?_ | refine Wc.region ?_ | refine Wc.skip ?_ | refine Wc.condF rfl ?_ | refine Wl.sub rfl rfl (by omega) (by omega) ?_))
        refine Wl.idxStore (f := vi) (q := S.laid + 1 + 1) m18.on rfl rfl (by rw [hnl2]; omega) (by rw [hnl2]; omega) rfl rfl rfl rfl rfl rfl fun pp w19 on19 c19 => ?_
        have hnb : ∀ b, (Value.slice na' (nums ++ [S.laid + 1]).length nc').ownBlock = some b → lab16 b = none ∧ w.heap.size ≤ b := fun b e => (m18.on.lt e).1
        have hset : (nums ++ [S.laid + 1]).set (((nums ++ [S.laid + 1]).length : Int) - 1).toNat (S.laid + 1 + 1) = nums ++ [S.laid + 1 + 1] := by
          rw [hnl2, show (((nums.length + 1 : Nat) : Int) - 1).toNat = nums.length by omega, List.set_append_right _ _ (Nat.le_refl _), Nat.sub_self]
          rfl
        rw [hset] at on19
        have st19 := st18.chg c19 fun b _ e => (hnb b e).1
        have m19 : TkM w.heap.size lab16 w19 (was ++ [stkTop S S.rows.length]) (nums ++ [S.laid + 1 + 1]) (.slice wa' (was ++ [stkTop S S.rows.length]).length wc') (.slice na' (nums ++ [S.laid + 1]).length nc') := by
          have h1 := m18.ow.reblk (Pb' := fun b => (lab16 b = none ∧ w.heap.size ≤ b) ∧ (Value.slice na' (nums ++ [S.laid + 1]).length nc').ownBlock ≠ some b) fun b e hb => ⟨hb, m18.sp b e⟩
          exact ⟨(h1.keep goodTree.st (c19.keep fun b _ e1 e2 => e1.2 e2) (c19.keep fun b _ e1 e2 => e1.2 e2)).mono goodTree.mo (fun b _ e => e.1) fun _ _ e => e, on19, m18.sp⟩
        have n019 : New w w19 := Chg.trans n018 c19 fun b hb e => by have := (hnb b e).2; omega
        have s19 := c19.size
        (repeat' (first | refine Wl.moveE (by conv => { lhs; whnf }) ?_ | refine Wl.assignE (by conv => { lhs; whnf }) ?_ | refine Wl.nil ?_ | refine Qseq.normal ?_ | refine Wc.region ?_ | refine Qblk.normal ?_ | refine Wl.add rfl rfl (by omega) (by omega) ?_))
        refine Qloop.normal (i + 1, ⟨S.base, S.rows ++ [⟨S.laid + 1 + 1, p, u⟩], S.laid + 1 + 1⟩, lab16, bv16, rv16, was ++ [stkTop S S.rows.length], nums ++ [S.laid + 1 + 1], _, _) ⟨rfl, rfl, rfl, rfl, rfl, rfl, trivial⟩ ⟨by dsimp only; omega, by dsimp only; omega, ⟨wf16, I.base, by simp [hnums], fun x hx => ?_, ?_, by simp [I.wl], fun j tr hj => ?_, by simp; omega, by dsimp only; omega⟩, st19, m19, n019, by omega⟩ (by dsimp only; omega)
        · rcases List.mem_append.1 hx with h | h
          · have := I.bound x h; dsimp only; omega
          · simp at h; subst h; exact Int.le_refl _
        · rw [List.pairwise_append]
          refine ⟨I.inc, by simp, fun a ha b hb => ?_⟩
          simp at hb
          subst hb
          have := I.bound a ha; omega
        · rw [List.getElem?_append] at hj
          split at hj
          · rename_i hjl
            rw [I.ws j tr hj]
            exact (stkTop_pre (base := S.base) (pre := S.rows) (laid := S.laid + 1 + 1) (laid' := S.laid) (by omega)).symm
          · rename_i hjl
            rw [List.getElem?_singleton] at hj
            split at hj
            · have hje : j = S.rows.length := by omega
              cases hj
              subst hje
              exact (stkTop_pre (base := S.base) (pre := S.rows) (laid := S.laid + 1 + 1) (laid' := S.laid) (Nat.le_refl _)).symm
            · cases hj
    · exact Qm.normal ⟨i, S, lab, bv, rv, was, nums, _, _, ⟨rfl, rfl, rfl, rfl, trivial⟩, hi12, I, st3, m3, n3, s3⟩
    · exact Qm.normal ⟨i, S, lab, bv, rv, was, nums, _, _, ⟨rfl, rfl, rfl, rfl, trivial⟩, hi12, I, st3, m3, n3, s3⟩
end Go.Proofs.YtjpebmgllfiloaaDoor
