/-
  The walk of OverlayNames: the numbers of the chapter; no stack; as many pieces as may lie.
-/
import Derived.Test.YtjpebmgllfiloaaDoorTk
import Derived.Test.YtjpebmgllfiloaaDoorLit
namespace Go.Proofs.YtjpebmgllfiloaaDoor
open Go Wk
open Go.RowKit (Below)
attribute [local irreducible] Go.Calls

theorem LayNil_spec {w : World} {s : List UInt8} {na da : Option Addr} {nl nc dl dc : Nat} :
    Calls Tryd.prog 29 #[.pointer none, .agg #[vs s, .slice na nl nc, .slice da dl dc]] w (Ret fun r w' => r = .tuple #[vi 0, vi 2] ∧ New w w') := by
  refine calls_of_Wc Tryd.func29 rfl Tryd.ntmps29 rfl ?_
  (repeat' (first | refine Wc.seq ?_ | refine Wc.region ?_))
  refine Wl.box rfl fun w1 b1 n1 s1 => ?_
  (repeat' (first | refine Wl.moveE (by conv => { lhs; whnf }) ?_ | refine Wl.assignE (by conv => { lhs; whnf }) ?_ | refine Wl.nil ?_ | refine Qseq.normal ?_ | refine Wc.seq ?_ | refine Wc.region ?_ | refine Wc.block ?_))
  refine Wl.peqNil rfl rfl ?_
  (repeat' (first | refine Wl.assignE (by conv => { lhs; whnf }) ?_ | refine Wl.nil ?_ | refine Qseq.normal ?_ | refine Wc.seq ?_ | refine Wc.region ?_ | refine Wc.ret ?_ | refine Qseq.ret ?_ | refine Qblk.ret ?_ | refine Wc.condT rfl ?_))
  exact Qfn.ret2 rfl rfl rfl ⟨_, rfl, rfl, n1⟩
theorem TakeNil_spec {w : World} {n : Int} : Calls Tryd.prog 30 #[.pointer none, vi n] w (Ret fun r w' => r = vi 2 ∧ New w w') := by
  refine calls_of_Wc Tryd.func30 rfl Tryd.ntmps30 rfl ?_
  (repeat' (first | refine Wc.seq ?_ | refine Wc.region ?_))
  refine Wl.box rfl fun w1 b1 n1 s1 => ?_
  (repeat' (first | refine Wl.moveE (by conv => { lhs; whnf }) ?_ | refine Wl.assignE (by conv => { lhs; whnf }) ?_ | refine Wl.nil ?_ | refine Qseq.normal ?_ | refine Wc.seq ?_ | refine Wc.region ?_))
  refine Wl.peqNil rfl rfl ?_
  (repeat' (first | refine Wl.assignE (by conv => { lhs; whnf }) ?_ | refine Wl.nil ?_ | refine Qseq.normal ?_ | refine Wc.seq ?_ | refine Wc.region ?_ | refine Wc.ret ?_ | refine Qseq.ret ?_ | refine Wc.condT rfl ?_))
  exact Qfn.ret1 rfl rfl ⟨_, rfl, rfl, n1⟩
theorem TreeNil_spec {w : World} : Calls Tryd.prog 28 #[.pointer none] w (Ret fun r w' => r = .slice none 0 0 ∧ New w w') := by
  refine calls_of_Wc Tryd.func28 rfl Tryd.ntmps28 rfl ?_
  (repeat' (first | refine Wl.moveE (by conv => { lhs; whnf }) ?_ | refine Wl.assignE (by conv => { lhs; whnf }) ?_ | refine Wl.nil ?_ | refine Qseq.normal ?_ | refine Wc.seq ?_ | refine Wc.region ?_))
  refine Wl.peqNil rfl rfl ?_
  (repeat' (first | refine Wl.assignE (by conv => { lhs; whnf }) ?_ | refine Wl.nil ?_ | refine Qseq.normal ?_ | refine Wc.seq ?_ | refine Wc.region ?_ | refine Wc.ret ?_ | refine Qseq.ret ?_ | refine Wc.condT rfl ?_))
  exact Qfn.ret1 rfl rfl ⟨_, rfl, rfl, Chg.refl _ _⟩
theorem BaseNil_spec {w : World} : Calls Tryd.prog 31 #[.pointer none] w (Ret fun r w' => r = .slice none 0 0 ∧ New w w') := by
  refine calls_of_Wc Tryd.func31 rfl Tryd.ntmps31 rfl ?_
  (repeat' (first | refine Wl.moveE (by conv => { lhs; whnf }) ?_ | refine Wl.assignE (by conv => { lhs; whnf }) ?_ | refine Wl.nil ?_ | refine Qseq.normal ?_ | refine Wc.seq ?_ | refine Wc.region ?_))
  refine Wl.peqNil rfl rfl ?_
  (repeat' (first | refine Wl.assignE (by conv => { lhs; whnf }) ?_ | refine Wl.nil ?_ | refine Qseq.normal ?_ | refine Wc.seq ?_ | refine Wc.region ?_ | refine Wc.ret ?_ | refine Qseq.ret ?_ | refine Wc.condT rfl ?_))
  exact Qfn.ret1 rfl rfl ⟨_, rfl, rfl, Chg.refl _ _⟩
theorem LyingNil_spec {w : World} : Calls Tryd.prog 36 #[.pointer none] w (Ret fun r w' => r = .slice none 0 0 ∧ New w w') := by
  refine calls_of_Wc Tryd.func36 rfl Tryd.ntmps36 rfl ?_
  (repeat' (first | refine Wl.moveE (by conv => { lhs; whnf }) ?_ | refine Wl.assignE (by conv => { lhs; whnf }) ?_ | refine Wl.nil ?_ | refine Qseq.normal ?_ | refine Wc.seq ?_ | refine Wc.region ?_))
  refine Wl.peqNil rfl rfl ?_
  (repeat' (first | refine Wl.assignE (by conv => { lhs; whnf }) ?_ | refine Wl.nil ?_ | refine Qseq.normal ?_ | refine Wc.seq ?_ | refine Wc.region ?_ | refine Wc.ret ?_ | refine Qseq.ret ?_ | refine Wc.condT rfl ?_))
  exact Qfn.ret1 rfl rfl ⟨_, rfl, rfl, Chg.refl _ _⟩
def t0 : List Nd := [⟨-1, [], []⟩]
def p0 : Pc := ⟨[47], t0, []⟩
def stk (k : Nat) : Stk := ⟨t0, (List.range k).map fun (j : Nat) => (⟨(j : Int) + 1, p0, t0⟩ : SRow), k⟩
theorem t0_ok : treeOk t0 = true := by kernel_rfl
theorem p0_ok : pieceOk p0 = true := by kernel_rfl
theorem lay0 : layM t0 p0 = (t0, 0) := by kernel_rfl
theorem stk_top (k : Nat) : stkTop (stk k) (stk k).rows.length = t0 := by
  unfold stkTop stk
  dsimp only
  split
  · rfl
  · rename_i h
    simp only [List.length_map, List.length_range] at h ⊢
    rw [List.getElem?_map, List.getElem?_range (by omega)]; rfl
theorem wf_stk {k : Nat} (hk : k ≤ 16) : WfS (stk k) := ⟨t0_ok, by simp [stk]; omega, fun r hr => by
  simp only [stk, List.mem_map] at hr
  obtain ⟨j, _, rfl⟩ := hr
  exact ⟨t0_ok, by kernel_rfl, by simp [p0]⟩, by simp [stk]; omega⟩
theorem lay_stk {k : Nat} (hk : k < 16) : stkLay (stk k) p0 = (stk (k + 1), (k : Int) + 1, 0) := by
  unfold stkLay
  rw [stk_top, lay0, if_neg (by simp [stk]; omega)]
  simp [stk, List.range_succ]
theorem lay_full : stkLay (stk 16) p0 = (stk 16, 0, 3) := by
  unfold stkLay
  rw [if_pos (by simp [stk])]
def stk3 : Stk := (stkTake (stk 16) 3).1
theorem take3 : stkTake (stk 16) 3 = (stk3, 0) := by
  have h : (stkTake (stk 16) 3).2 = 0 := by kernel_rfl
  exact Prod.ext rfl h
theorem stk3_len : stk3.rows.length = 15 := by kernel_rfl
theorem stk3_top : stkTop stk3 stk3.rows.length = t0 := by kernel_rfl
theorem stk3_laid : stk3.laid = 16 := by kernel_rfl
theorem stk3_lay : (stkLay stk3 p0).2 = (17, 0) := by
  unfold stkLay
  rw [stk3_top, lay0, if_neg (by rw [stk3_len]; omega), stk3_laid]
  simp
theorem stk3_wf : WfS stk3 := by
  have hb : stk3.base = t0 := by kernel_rfl
  have hr : stk3.rows.all (fun r => decide (r.tree = t0) && (decide (r.piece.nodes = t0) && (decide (r.piece.drop = []) && decide (r.piece.target = [47])))) = true := by kernel_rfl
  refine ⟨by rw [hb]; exact t0_ok, by rw [stk3_len]; omega, fun r hm => ?_, by rw [stk3_laid]; omega⟩
  have := List.all_eq_true.1 hr r hm
  simp only [Bool.and_eq_true, decide_eq_true_eq] at this
  obtain ⟨h1, h2, h3, h4⟩ := this
  refine ⟨by rw [h1]; exact t0_ok, ?_, by rw [h4]; simp⟩
  have e : r.piece = p0 := by
    cases hpc : r.piece with
    | mk x y z =>
      rw [hpc] at h2 h3 h4
      dsimp only at h2 h3 h4
      rw [h2, h3, h4]; rfl
  rw [e]; exact p0_ok
set_option maxHeartbeats 4000000 in
set_option maxRecDepth 4000 in
theorem names_law {w : World} : Calls Tryd.prog 8 #[] w (Ret fun r w' => r = .bool true ∧ New w w') := by
  refine calls_of_Wc Tryd.func8 rfl Tryd.ntmps8 rfl ?_
  (repeat' (first | refine Wl.moveE (by conv => { lhs; whnf }) ?_ | refine Wl.assignE (by conv => { lhs; whnf }) ?_ | refine Wl.nil ?_ | refine Qseq.normal ?_ | refine Wc.seq ?_ | refine Wc.region ?_))
  refine Wl.buildF (ps := []) (parts := []) rfl rfl (by simp) ?_
  refine Wl.call (LayNil_spec (s := []) (na := none) (nl := 0) (nc := 0) (da := none) (dl := 0) (dc := 0)) rfl ?_
  rintro _ w1 ⟨rfl, n1⟩
  (repeat' (first | refine Wl.moveE (by conv => { lhs; whnf }) ?_ | refine Wl.assignE (by conv => { lhs; whnf }) ?_ | refine Wl.nil ?_ | refine Wl.extract rfl rfl ?_ | refine Qseq.normal ?_ | refine Wc.seq ?_ | refine Wc.region ?_))
  refine Wl.call TakeNil_spec rfl ?_
  rintro _ w2 ⟨rfl, n2⟩
  replace n2 := New.trans n1 n2
  (repeat' (first | refine Wl.moveE (by conv => { lhs; whnf }) ?_ | refine Wl.assignE (by conv => { lhs; whnf }) ?_ | refine Wl.nil ?_ | refine Wl.guardY rfl rfl ?_ | refine Wl.pickFE rfl (by conv => { lhs; whnf }) ?_ | refine Qseq.normal ?_ | refine Wc.seq ?_ | refine Wc.region ?_ | (refine Wl.neq rfl rfl (fun _ => ?_) (fun _ => ?_) <;> (first | (exfalso; omega) | skip))))
  refine Wl.call TreeNil_spec rfl ?_
  rintro _ w3 ⟨rfl, n3⟩
  replace n3 := New.trans n2 n3
  (repeat' (first | refine Wl.moveE (by conv => { lhs; whnf }) ?_ | refine Wl.guardY rfl rfl ?_ | refine Wl.lenS rfl ?_))
  refine Wl.call BaseNil_spec rfl ?_
  rintro _ w4 ⟨rfl, n4⟩
  replace n4 := New.trans n3 n4
  (repeat' (first | refine Wl.moveE (by conv => { lhs; whnf }) ?_ | refine Wl.guardY rfl rfl ?_ | refine Wl.lenS rfl ?_ | refine Wl.add rfl rfl (by omega) (by omega) ?_))
  refine Wl.call LyingNil_spec rfl ?_
  rintro _ w5 ⟨rfl, n5⟩
  replace n5 := New.trans n4 n5
  clear n1 n2 n3 n4
  (repeat' (first | refine Wl.nil ?_ | refine Wl.guardY rfl rfl ?_ | refine Wl.pickFE rfl (by conv => { lhs; whnf }) ?_ | refine Wl.lenS rfl ?_ | refine Qseq.normal ?_ | refine Wc.seq ?_ | refine Wc.region ?_ | refine Wc.skip ?_ | refine Wc.condF rfl ?_ | refine Wl.add rfl rfl (by omega) (by omega) ?_ | (refine Wl.neq rfl rfl (fun _ => ?_) (fun _ => ?_) <;> (first | (exfalso; omega) | skip))))
  refine Wl.buildF (ps := [(0, .const (.int .i64 (-1)))]) (parts := [(0, vi (-1))]) rfl rfl (by simp [Value.cells]) ?_
  refine Wl.buildSliceN (R := rNd) (N := 1) (ps := [(0, .tmp 49)]) (xs := t0) (Pe := No) (us := [.agg #[vi (-1), vs [], .slice none 0 0]]) goodNd rfl rfl ⟨rfl, ⟨_, rfl, RdS.nil⟩, trivial⟩ (by simp) (by simp) fun tv w6 o6 n6 s6 ob6 => ?_
  have n06 := New.trans n5 n6
  refine Wl.call (New_spec (o6.rd monoNd)) rfl ?_
  rintro _ w7 ⟨n7, _, hgood⟩
  obtain ⟨bl, lab, bv, rfl, st7⟩ := hgood t0_ok
  have n07 := New.trans n06 n7
  (repeat' (first | refine Wl.moveE (by conv => { lhs; whnf }) ?_ | refine Wl.assignE (by conv => { lhs; whnf }) ?_ | refine Wl.nil ?_ | refine Wl.extract rfl rfl ?_ | refine Wl.guardY rfl rfl ?_ | refine Qseq.normal ?_ | refine Wc.seq ?_ | refine Wc.region ?_ | (refine Wl.neq rfl rfl (fun _ => ?_) (fun _ => ?_) <;> (first | (exfalso; omega) | skip))))
  refine Wl.peqNil rfl rfl ?_
  (repeat' (first | refine Wl.nil ?_ | refine Wl.pickFE rfl (by conv => { lhs; whnf }) ?_ | refine Qseq.normal ?_ | refine Wc.seq ?_ | refine Wc.region ?_ | refine Wc.skip ?_ | refine Wc.condF rfl ?_))
  refine Wl.buildF (ps := [(0, .const (.int .i64 (-1)))]) (parts := [(0, vi (-1))]) rfl rfl (by simp [Value.cells]) ?_
  refine Wl.buildSliceN (R := rNd) (N := 1) (ps := [(0, .tmp 60)]) (xs := t0) (Pe := No) (us := [.agg #[vi (-1), vs [], .slice none 0 0]]) goodNd rfl rfl ⟨rfl, ⟨_, rfl, RdS.nil⟩, trivial⟩ (by simp) (by simp) fun pv w8 o8 n8 s8 ob8 => ?_
  obtain ⟨pa, pc, rfl, _, _⟩ := o8.form
  refine Wl.buildF (ps := [(0, .const (vs [47])), (1, .tmp 61)]) (parts := [(0, vs [47]), (1, .slice pa 1 pc)]) rfl rfl (by simp [Value.cells]) ?_
  refine Wl.alloc fun w9 b9 n9 s9 => ?_
  refine Wl.storeB (new := [vs [47], .slice pa 1 pc, .slice none 0 0]) b9 rfl rfl rfl rfl (show (3 : Nat) ≤ 3 from Nat.le_refl 3) (by
    intro c hc
    simp at hc
    rcases hc with rfl | rfl | rfl <;> rfl) fun w10 b10 c10 s10 => ?_
  replace b10 : Bk w10 w8.heap.size 25 [vs [47], .slice pa 1 pc, .slice none 0 0] := b10
  have n810 : New w8 w10 := Chg.trans n9 c10 fun b hb e => by omega
  have n710 := New.trans n8 n810
  have n010 := New.trans n07 n710
  have r10 : RdS rNd 3 (fun b => b = w7.heap.size) w10 (.slice pa 1 pc) p0.nodes := ((o8.rd monoNd).keep stableNd n810.keep).mono monoNd fun b _ e => by rcases e with e | e; exact e; exact e.elim
  have s7 := n7.size
  have st10 := st7.new n710
  have lows : ∀ {lab : SLab} {w' S bv rv}, StkAt w6.heap.size lab w' bl S bv rv → w10.heap.size ≤ w'.heap.size → True := fun _ _ => trivial
  clear lows
  have hlp : lab w7.heap.size = none ∧ lab w8.heap.size = none := by
    constructor
    · cases e : lab w7.heap.size with
      | none => rfl
      | some c => have := (st7.low _ c e).2; omega
    · cases e : lab w8.heap.size with
      | none => rfl
      | some c => have := (st7.low _ c e).2; omega
  have pcs : vs p0.target = vs [47] := rfl
  (repeat' (first | refine Wl.assignE (by conv => { lhs; whnf }) ?_ | refine Wl.nil ?_ | refine Qseq.normal ?_ | refine Wc.seq ?_ | refine Wc.region ?_ | refine Wc.block ?_))
  refine Wc.loop (σ := Nat × SLab × Value × Value) (fun s => [(5, ptrV bl), (7, ptrV w8.heap.size), (8, vi ((s.1 : Int) + 1))])
    (fun s w' => s.1 ≤ 16 ∧ StkAt w6.heap.size s.2.1 w' bl (stk s.1) s.2.2.1 s.2.2.2 ∧ Bk w' w8.heap.size 25 [vs [47], .slice pa 1 pc, .slice none 0 0] ∧ RdS rNd 3 (fun b => b = w7.heap.size) w' (.slice pa 1 pc) p0.nodes ∧ (s.2.1 w7.heap.size = none ∧ s.2.1 w8.heap.size = none) ∧ New w w' ∧ w10.heap.size ≤ w'.heap.size) (fun s => 16 - s.1)
    (0, lab, bv, .slice none 0 0) ⟨rfl, rfl, rfl, trivial⟩ ⟨by simp, st10, b10, r10, hlp, n010, Nat.le_refl _⟩ ?_
  rintro ⟨k, lab1, bv1, rv1⟩ G w11 ⟨hk, st11, b11, r11, hlp1, n11, s11⟩
  dsimp only at hk st11 b11 r11 hlp1 n11 s11
  -- what a call on the stack leaves
  have stay : ∀ {w' w'' : World} {lab lab' : SLab} {S bv rv}, StkAt w6.heap.size lab w' bl S bv rv → (∀ b, b < w'.heap.size → lab' b = lab b) → Chg (fun b => lab b = some true) w' w'' → Bk w' w8.heap.size 25 [vs [47], .slice pa 1 pc, .slice none 0 0] → RdS rNd 3 (fun b => b = w7.heap.size) w' (.slice pa 1 pc) p0.nodes → (lab w7.heap.size = none ∧ lab w8.heap.size = none) → New w w' → w10.heap.size ≤ w'.heap.size →
      Bk w'' w8.heap.size 25 [vs [47], .slice pa 1 pc, .slice none 0 0] ∧ RdS rNd 3 (fun b => b = w7.heap.size) w'' (.slice pa 1 pc) p0.nodes ∧ (lab' w7.heap.size = none ∧ lab' w8.heap.size = none) ∧ New w w'' ∧ w10.heap.size ≤ w''.heap.size := fun {w' w'' lab lab' S bv rv} st hl c hb hr hn hw hs => by
    have := c.size
    refine ⟨hb.chg c fun e => (by rw [hn.2] at e; cases e), hr.keep stableNd (c.keep fun b _ e1 e2 => (by rw [e1, hn.1] at e2; cases e2)), ⟨(hl _ (by omega)).trans hn.1, (hl _ (by omega)).trans hn.2⟩, Chg.trans hw c fun b hb e => ?_, by omega⟩
    have h1 := (st.low b _ e).1
    have := n06.size
    omega
  simp only [upds]
  (repeat' (first | refine Wl.moveE (by conv => { lhs; whnf }) ?_ | refine Wl.nil ?_ | refine Qseq.normal ?_ | refine Wc.seq ?_ | refine Wc.region ?_ | refine Wc.block ?_ | refine Wc.skip ?_ | refine Wc.exit ?_ | refine Qseq.exit ?_ | refine Qblk.hit ?_ | refine Qloop.exit ?_ | refine Wc.condT rfl ?_ | refine Wc.condF rfl ?_ | refine Wl.leq rfl rfl (fun _ => ?_) (fun _ => ?_)))
  · refine Wl.loadB b11 rfl rfl ?_
    refine Wl.call (LayS_spec st11 (by omega) (wf_stk hk) (p := p0) r11 RdS.nil (by simp [p0]) (fun b hb => by rw [hb]; exact hlp1.1)) rfl ?_
    rintro _ w12 ⟨rfl, ⟨lab12, bv12, rv12, st12, hl12⟩, c12⟩
    rw [lay_stk (by omega)] at st12 ⊢
    dsimp only at st12 ⊢
    obtain ⟨h1, h2, h3, h4, h5⟩ := stay st11 hl12 c12 b11 r11 hlp1 n11 s11
    (repeat' (first | refine Wl.moveE (by conv => { lhs; whnf }) ?_ | refine Wl.assignE (by conv => { lhs; whnf }) ?_ | refine Wl.nil ?_ | refine Wl.extract rfl rfl ?_ | refine Wl.guardY rfl rfl ?_ | refine Wl.pickFE rfl (by conv => { lhs; whnf }) ?_ | refine Qseq.normal ?_ | refine Wc.seq ?_ | refine Wc.region ?_ | refine Wc.skip ?_ | refine Qblk.normal ?_ | refine Wc.condF rfl ?_ | refine Wl.add rfl rfl (by omega) (by omega) ?_ | (refine Wl.neq rfl rfl (fun _ => ?_) (fun _ => ?_) <;> (first | (exfalso; omega) | skip))))
    exact Qloop.normal (k + 1, lab12, bv12, rv12) ⟨rfl, rfl, by show vi _ = vi _; congr 1, trivial⟩ ⟨by dsimp only; omega, st12, h1, h2, h3, h4, h5⟩ (by dsimp only; omega)
  · obtain rfl : k = 16 := by omega
    refine Wl.loadB b11 rfl rfl ?_
    refine Wl.call (LayS_spec st11 (by omega) (wf_stk hk) (p := p0) r11 RdS.nil (by simp [p0]) (fun b hb => by rw [hb]; exact hlp1.1)) rfl ?_
    rintro _ w12 ⟨rfl, ⟨lab12, bv12, rv12, st12, hl12⟩, c12⟩
    rw [lay_full] at st12 ⊢
    dsimp only at st12 ⊢
    obtain ⟨b12, r12, hlp12, n12, s12⟩ := stay st11 hl12 c12 b11 r11 hlp1 n11 s11
    (repeat' (first | refine Wl.moveE (by conv => { lhs; whnf }) ?_ | refine Wl.assignE (by conv => { lhs; whnf }) ?_ | refine Wl.nil ?_ | refine Wl.extract rfl rfl ?_ | refine Qseq.normal ?_ | refine Wc.seq ?_ | refine Wc.region ?_))
    refine Wl.call (Take_spec (n := 3) st12 (by omega) (wf_stk hk)) rfl ?_
    rintro _ w13 ⟨rfl, ⟨lab13, bv13, rv13, st13, hl13⟩, c13⟩
    rw [take3] at st13 ⊢
    dsimp only at st13 ⊢
    obtain ⟨b13, r13, hlp13, n13, s13⟩ := stay st12 hl13 c13 b12 r12 hlp12 n12 s12
    (repeat' (first | refine Wl.moveE (by conv => { lhs; whnf }) ?_ | refine Wl.assignE (by conv => { lhs; whnf }) ?_ | refine Wl.nil ?_ | refine Qseq.normal ?_ | refine Wc.seq ?_ | refine Wc.region ?_))
    refine Wl.loadB b13 rfl rfl ?_
    refine Wl.call (LayS_spec st13 (by omega) stk3_wf (p := p0) r13 RdS.nil (by simp [p0]) (fun b hb => by rw [hb]; exact hlp13.1)) rfl ?_
    rintro _ w14 ⟨rfl, ⟨lab14, bv14, rv14, st14, hl14⟩, c14⟩
    rw [stk3_lay]
    obtain ⟨_, _, _, n14, _⟩ := stay st13 hl14 c14 b13 r13 hlp13 n13 s13
    (repeat' (first | refine Wl.moveE (by conv => { lhs; whnf }) ?_ | refine Wl.assignE (by conv => { lhs; whnf }) ?_ | refine Wl.nil ?_ | refine Wl.extract rfl rfl ?_ | refine Wl.guardY rfl rfl ?_ | refine Wl.pickTE rfl (by conv => { lhs; whnf }) ?_ | refine Qseq.normal ?_ | refine Wc.seq ?_ | refine Wc.region ?_ | refine Wc.ret ?_ | (refine Wl.eql rfl rfl (fun _ => ?_) (fun _ => ?_) <;> (first | (exfalso; omega) | skip))))
    exact Qfn.ret1 rfl rfl ⟨_, rfl, rfl, n14⟩
end Go.Proofs.YtjpebmgllfiloaaDoor
