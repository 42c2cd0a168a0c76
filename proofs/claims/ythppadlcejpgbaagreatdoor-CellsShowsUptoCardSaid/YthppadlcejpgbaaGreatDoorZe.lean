/-
  Texts of this claim, one behind the other: J7, J8, Jl, Bulk.
-/
import Derived.Test.YthppadlcejpgbaaGreatDoorZd
import Derived.Test.YthppadlcejpgbaaGreatDoorRows
import Derived.Lib.LaidTab
namespace Go.Proofs.YthppadlcejpgbaaGreatDoor
open Go Wk
open Go.RowKit (Below)
attribute [local irreducible] Go.Calls

theorem take_join_len {α : Type} {f : α → List UInt8} {m : Nat} {sep : List UInt8} (hf : ∀ x, (f x).length ≤ m) (xs : List α) (i : Nat) : (Lib.join ((xs.take i).map f) sep).length ≤ (m + sep.length) * xs.length := by
  refine Nat.le_trans (join_len (m := m) fun y hy => by obtain ⟨x, _, rfl⟩ := List.mem_map.1 hy; exact hf x) (Nat.mul_le_mul_left _ (by rw [List.length_map, List.length_take]; omega))
theorem flat_take {xs : List (List UInt8)} (i : Nat) : ((xs.take i).flatMap (· ++ [(0 : UInt8)])).length ≤ (xs.flatMap (· ++ [(0 : UInt8)])).length := flat_take_le _ xs i
set_option maxHeartbeats 2000000 in
theorem refShow_spec {w : World} {l : List UInt8} (hl : l.length ≤ 100000000) :
    Calls Tryz.prog 15 #[vs l] w (Ret fun r w' => r = vs (showM l) ∧ New w w') := by
  refine calls_of_Wc Tryz.func15 rfl Tryz.ntmps15 rfl ?_
  (repeat' (first | refine Wl.moveE (by conv => { lhs; whnf }) ?_ | refine Wl.assignE (by conv => { lhs; whnf }) ?_ | refine Wl.nil ?_ | refine Qseq.normal ?_ | refine Wc.seq ?_ | refine Wc.region ?_))
  refine Wl.call (refLook_spec hl) rfl ?_
  rintro _ w1 ⟨rfl, n1⟩
  rcases look_show l with ⟨h0, _, hs⟩ | ⟨h0, hne, hp, hs⟩ | ⟨h0, hne, h4, hs⟩ | ⟨h0, hne, hs⟩
  · rw [h0, hs]
    (repeat' (first | refine Wl.assignE (by conv => { lhs; whnf }) ?_ | refine Wl.nil ?_ | refine Qseq.normal ?_ | refine Wc.seq ?_ | refine Wc.region ?_ | refine Wc.block ?_ | refine Wc.ret ?_ | refine Qseq.ret ?_ | refine Qblk.ret ?_ | refine Wc.condT rfl ?_ | (refine Wl.eql rfl rfl (fun _ => ?_) (fun _ => ?_) <;> (first | (exfalso; omega) | skip))))
    exact Qfn.ret1 rfl rfl ⟨_, rfl, rfl, n1⟩
  · rw [h0]
    obtain ⟨ht, _, _⟩ := plainB_spec hp
    have hfl := congrArg List.length (txts_sum ht)
    have hxl := len_flat (txts l)
    have htl := txts_le (l := l)
    (repeat' (first | refine Wl.moveE (by conv => { lhs; whnf }) ?_ | refine Wl.assignE (by conv => { lhs; whnf }) ?_ | refine Wl.nil ?_ | refine Qseq.normal ?_ | refine Wc.seq ?_ | refine Wc.region ?_ | refine Wc.block ?_ | refine Wc.condT rfl ?_ | refine Wc.condF rfl ?_ | (refine Wl.eql rfl rfl (fun _ => ?_) (fun _ => ?_) <;> (first | (exfalso; omega) | skip))))
    refine Wl.call (refTexts_spec hl) rfl ?_
    rintro _ w2 ⟨v, rfl, ho, n2⟩
    have hr := ho.rd goodStr.mo
    have n12 := n1.trans n2
    generalize txts l = xs at hr hs hfl hxl htl
    clear ho
    obtain ⟨a, cap, rfl, hcap, hmax⟩ := hr.form
    simp only [maxLen] at hmax
    have hjl : ∀ i, (Lib.join ((xs.take i).map quoteM) [44, 32]).length ≤ 400000000 := fun i => by
      have := join_sum (sep := [44, 32]) (xs.take i)
      have h2 := flat_take (xs := xs) i
      simp only [List.length_cons, List.length_nil] at this
      omega
    (repeat' (first | refine Wl.moveE (by conv => { lhs; whnf }) ?_ | refine Wl.assignE (by conv => { lhs; whnf }) ?_ | refine Wl.nil ?_ | refine Wl.extract rfl rfl ?_ | refine Qseq.normal ?_ | refine Wc.seq ?_ | refine Wc.region ?_ | refine Wc.block ?_))
    refine Wc.loop (σ := Nat) (fun i => [(3, vs (Lib.join ((xs.take i).map quoteM) [44, 32])), (4, .slice a xs.length cap), (6, vi i)]) (fun i w' => i ≤ xs.length ∧ New w2 w') (fun i => xs.length - i) 0 ⟨rfl, rfl, rfl, trivial⟩ ⟨Nat.zero_le _, Chg.refl _ _⟩ ?_
    rintro i G w3 ⟨hi, n3⟩
    simp only [upds]
    have hj := hjl i
    have hj1 := hjl (i + 1)
    (repeat' (first | refine Wl.moveE (by conv => { lhs; whnf }) ?_ | refine Wl.assignE (by conv => { lhs; whnf }) ?_ | refine Wl.nil ?_ | refine Wl.lenS rfl ?_ | refine Qseq.normal ?_ | refine Wc.seq ?_ | refine Wc.region ?_ | refine Wc.block ?_ | refine Wc.skip ?_ | refine Wc.exit ?_ | refine Wc.ret ?_ | refine Qseq.exit ?_ | refine Qseq.ret ?_ | refine Qblk.ret ?_ | refine Qblk.hit ?_ | refine Qloop.exit ?_ | refine Wc.condT rfl ?_ | refine Wc.condF rfl ?_ | refine Wl.lss rfl rfl (fun _ => ?_) (fun _ => ?_) | refine Wl.gtr rfl rfl (fun _ => ?_) (fun _ => ?_)))
    · have hi0 : i ≠ 0 := by omega
      obtain ⟨t, htx⟩ := get_lt' xs (k := i) (by omega)
      have htl2 := htl t (List.mem_of_getElem? htx)
      have hst := join_step (f := quoteM) (sep := [44, 32]) htx
      rw [if_neg hi0] at hst
      have hql := quote_len t
      refine Wl.sadd (b := [44, 32]) rfl rfl (by simp only [List.length_cons, List.length_nil]; omega) ?_
      (repeat' (first | refine Wl.moveE (by conv => { lhs; whnf }) ?_ | refine Wl.assignE (by conv => { lhs; whnf }) ?_ | refine Wl.nil ?_ | refine Qseq.normal ?_ | refine Wc.region ?_))
      refine Wl.idxLoadV (hr.keep (stable_one _) n3.keep) rfl rfl (by omega) (by rw [Int.toNat_natCast]; exact htx) rfl rfl fun p => ?_
      refine Wl.call (quoted_spec (t := t) (by omega)) rfl ?_
      rintro _ w4 ⟨rfl, n4⟩
      refine Wl.sadd rfl rfl (by simp only [List.length_append, List.length_cons, List.length_nil]; omega) ?_
      rw [← hst]
      (repeat' (first | refine Wl.moveE (by conv => { lhs; whnf }) ?_ | refine Wl.assignE (by conv => { lhs; whnf }) ?_ | refine Wl.nil ?_ | refine Qseq.normal ?_ | refine Wc.region ?_ | refine Qblk.normal ?_ | refine Wl.add rfl rfl (by omega) (by omega) ?_))
      exact Qloop.normal (i + 1) ⟨rfl, rfl, rfl, trivial⟩ ⟨by omega, n3.trans n4⟩ (by omega)
    · have hi0 : i = 0 := by omega
      subst hi0
      obtain ⟨t, htx⟩ := get_lt' xs (k := 0) (by omega)
      have htl2 := htl t (List.mem_of_getElem? htx)
      have hst := join_step (f := quoteM) (sep := [44, 32]) htx
      rw [if_pos rfl] at hst
      have hql := quote_len t
      refine Wl.idxLoadV (hr.keep (stable_one _) n3.keep) rfl rfl (by omega) htx rfl rfl fun p => ?_
      refine Wl.call (quoted_spec (t := t) (by omega)) rfl ?_
      rintro _ w4 ⟨rfl, n4⟩
      refine Wl.sadd rfl rfl (by omega) ?_
      rw [show Lib.join ((xs.take 0).map quoteM) [44, 32] = [] from rfl, ← hst]
      (repeat' (first | refine Wl.moveE (by conv => { lhs; whnf }) ?_ | refine Wl.assignE (by conv => { lhs; whnf }) ?_ | refine Wl.nil ?_ | refine Qseq.normal ?_ | refine Wc.region ?_ | refine Qblk.normal ?_ | refine Wl.add rfl rfl (by omega) (by omega) ?_))
      exact Qloop.normal (0 + 1) ⟨rfl, rfl, rfl, trivial⟩ ⟨by omega, n3.trans n4⟩ (by omega)
    · have hi2 : i = xs.length := by omega
      subst hi2
      rw [List.take_length]
      exact Qfn.ret1 rfl rfl ⟨_, rfl, by rw [hs]; rfl, n12.trans n3⟩
  · rw [h0]
    (repeat' (first | refine Wl.moveE (by conv => { lhs; whnf }) ?_ | refine Wl.assignE (by conv => { lhs; whnf }) ?_ | refine Wl.nil ?_ | refine Qseq.normal ?_ | refine Wc.seq ?_ | refine Wc.region ?_ | refine Wc.block ?_ | refine Wc.condT rfl ?_ | refine Wc.condF rfl ?_ | (refine Wl.eql rfl rfl (fun _ => ?_) (fun _ => ?_) <;> (first | (exfalso; omega) | skip))))
    refine Wl.call (refU32s_spec hl) rfl ?_
    rintro _ w2 ⟨v, rfl, ho, n2⟩
    rw [(form_ok h4).2] at ho
    have hr := ho.rd good32.mo
    have n12 := n1.trans n2
    have hpl : (pieces 4 l).length ≤ 25000000 := by rw [pieces_length]; omega
    have hp4 := pieces4_lt (v := l)
    generalize pieces 4 l = xs at hr hs hpl hp4
    clear ho
    obtain ⟨a, cap, rfl, hcap, hmax⟩ := hr.form
    simp only [maxLen] at hmax
    have hjl : ∀ i, (Lib.join ((xs.take i).map numT) [32]).length ≤ 475000000 := fun i => by
      have := take_join_len (sep := [32]) numT_len xs i
      simp only [List.length_singleton] at this
      omega
    (repeat' (first | refine Wl.moveE (by conv => { lhs; whnf }) ?_ | refine Wl.assignE (by conv => { lhs; whnf }) ?_ | refine Wl.nil ?_ | refine Wl.extract rfl rfl ?_ | refine Qseq.normal ?_ | refine Wc.seq ?_ | refine Wc.region ?_ | refine Wc.block ?_))
    refine Wc.loop (σ := Nat) (fun i => [(3, vs (Lib.join ((xs.take i).map numT) [32])), (7, .slice a xs.length cap), (9, vi i)]) (fun i w' => i ≤ xs.length ∧ New w2 w') (fun i => xs.length - i) 0 ⟨rfl, rfl, rfl, trivial⟩ ⟨Nat.zero_le _, Chg.refl _ _⟩ ?_
    rintro i G w3 ⟨hi, n3⟩
    simp only [upds]
    have hj := hjl i
    (repeat' (first | refine Wl.moveE (by conv => { lhs; whnf }) ?_ | refine Wl.nil ?_ | refine Wl.lenS rfl ?_ | refine Qseq.normal ?_ | refine Wc.seq ?_ | refine Wc.region ?_ | refine Wc.block ?_ | refine Wc.skip ?_ | refine Wc.exit ?_ | refine Qseq.exit ?_ | refine Qblk.hit ?_ | refine Qloop.exit ?_ | refine Wc.condT rfl ?_ | refine Wc.condF rfl ?_ | refine Wl.lss rfl rfl (fun _ => ?_) (fun _ => ?_) | refine Wl.gtr rfl rfl (fun _ => ?_) (fun _ => ?_)))
    · have hi0 : i ≠ 0 := by omega
      obtain ⟨x, htx⟩ := get_lt' xs (k := i) (by omega)
      obtain ⟨hx0, hx1⟩ := hp4 x (List.mem_of_getElem? htx)
      have ex : x = ((x.toNat : Nat) : Int) := (Int.toNat_of_nonneg hx0).symm
      have hst := join_step (f := numT) (sep := [32]) htx
      rw [if_neg hi0] at hst
      have hnl := hexD_len x.toNat
      refine Wl.sadd (b := [32]) rfl rfl (by simp only [List.length_singleton]; omega) ?_
      (repeat' (first | refine Wl.moveE (by conv => { lhs; whnf }) ?_ | refine Wl.assignE (by conv => { lhs; whnf }) ?_ | refine Wl.nil ?_ | refine Qseq.normal ?_ | refine Wc.region ?_))
      refine Wl.sadd (b := [48, 120]) rfl rfl (by simp only [List.length_append, List.length_cons, List.length_nil]; omega) ?_
      (repeat' (refine Wl.moveE (by conv => { lhs; whnf }) ?_))
      refine Wl.idxLoadV (hr.keep (stable_one _) n3.keep) rfl rfl (by omega) (by rw [Int.toNat_natCast]; exact htx) rfl rfl fun p => ?_
      skip
      refine Wl.convI rfl ?_
      rw [show IntKind.u64.wrap x = ((x.toNat : Nat) : Int) by rw [wrapU64 x hx0 (by omega)]; exact ex]
      refine Wl.call (digits_spec (n := x.toNat) (by omega)) rfl ?_
      rintro _ w4 ⟨rfl, n4⟩
      refine Wl.sadd rfl rfl (by simp only [List.length_append, List.length_cons, List.length_nil]; omega) ?_
      rw [show (Lib.join ((xs.take i).map numT) [32] ++ [32] ++ [48, 120]) ++ hexD x.toNat = Lib.join ((xs.take (i + 1)).map numT) [32] by rw [hst]; simp [numT]]
      (repeat' (first | refine Wl.moveE (by conv => { lhs; whnf }) ?_ | refine Wl.assignE (by conv => { lhs; whnf }) ?_ | refine Wl.nil ?_ | refine Qseq.normal ?_ | refine Wc.region ?_ | refine Qblk.normal ?_ | refine Wl.add rfl rfl (by omega) (by omega) ?_))
      exact Qloop.normal (i + 1) ⟨rfl, rfl, rfl, trivial⟩ ⟨by omega, n3.trans n4⟩ (by omega)
    · have hi0 : i = 0 := by omega
      subst hi0
      obtain ⟨x, htx⟩ := get_lt' xs (k := 0) (by omega)
      obtain ⟨hx0, hx1⟩ := hp4 x (List.mem_of_getElem? htx)
      have ex : x = ((x.toNat : Nat) : Int) := (Int.toNat_of_nonneg hx0).symm
      have hst := join_step (f := numT) (sep := [32]) htx
      rw [if_pos rfl] at hst
      have hnl := hexD_len x.toNat
      rw [show Lib.join ((xs.take 0).map numT) [32] = [] from rfl]
      skip
      refine Wl.sadd (b := [48, 120]) rfl rfl (by simp) ?_
      (repeat' (refine Wl.moveE (by conv => { lhs; whnf }) ?_))
      refine Wl.idxLoadV (hr.keep (stable_one _) n3.keep) rfl rfl (by omega) htx rfl rfl fun p => ?_
      skip
      refine Wl.convI rfl ?_
      rw [show IntKind.u64.wrap x = ((x.toNat : Nat) : Int) by rw [wrapU64 x hx0 (by omega)]; exact ex]
      refine Wl.call (digits_spec (n := x.toNat) (by omega)) rfl ?_
      rintro _ w4 ⟨rfl, n4⟩
      refine Wl.sadd rfl rfl (by simp only [List.length_append, List.length_cons, List.length_nil]; omega) ?_
      rw [show (([] : List UInt8) ++ [48, 120]) ++ hexD x.toNat = Lib.join ((xs.take (0 + 1)).map numT) [32] by rw [hst]; simp [numT]]
      (repeat' (first | refine Wl.moveE (by conv => { lhs; whnf }) ?_ | refine Wl.assignE (by conv => { lhs; whnf }) ?_ | refine Wl.nil ?_ | refine Qseq.normal ?_ | refine Wc.region ?_ | refine Qblk.normal ?_ | refine Wl.add rfl rfl (by omega) (by omega) ?_))
      exact Qloop.normal (0 + 1) ⟨rfl, rfl, rfl, trivial⟩ ⟨by omega, n3.trans n4⟩ (by omega)
    · have hi2 : i = xs.length := by omega
      subst hi2
      rw [List.take_length]
      rw [List.take_length] at hj
      refine Wl.sadd (a := [60]) rfl rfl (by simp only [List.length_singleton]; omega) ?_
      refine Wl.sadd (b := [62]) rfl rfl (by simp only [List.length_append, List.length_singleton]; omega) ?_
      (repeat' (first | refine Wl.assignE (by conv => { lhs; whnf }) ?_ | refine Wl.nil ?_ | refine Qseq.normal ?_ | refine Wc.ret ?_ | refine Qseq.ret ?_ | refine Qblk.ret ?_))
      exact Qfn.ret1 rfl rfl ⟨_, rfl, by rw [hs]; rfl, n12.trans n3⟩
  · rw [h0]
    have hjl : ∀ i, (Lib.join ((l.take i).map hexB) [32]).length ≤ 400000000 := fun i => by
      have := take_join_len (m := 2) (sep := [32]) (f := hexB) (fun _ => Nat.le_refl _) l i
      simp only [List.length_singleton] at this
      omega
    (repeat' (first | refine Wl.assignE (by conv => { lhs; whnf }) ?_ | refine Wl.nil ?_ | refine Qseq.normal ?_ | refine Wc.seq ?_ | refine Wc.region ?_ | refine Wc.block ?_ | refine Wc.skip ?_ | refine Qblk.normal ?_ | refine Wc.condF rfl ?_ | (refine Wl.eql rfl rfl (fun _ => ?_) (fun _ => ?_) <;> (first | (exfalso; omega) | skip))))
    refine Wl.buildSlice1 (R := one by8) (y := 91) (Pe := fun _ => False) goodR8 rfl rfl rfl rfl (by omega) (by omega) fun v2 w2 ho2 n2 s2 hb2 => ?_
    (repeat' (first | refine Wl.assignE (by conv => { lhs; whnf }) ?_ | refine Wl.nil ?_ | refine Qseq.normal ?_ | refine Wc.seq ?_ | refine Wc.region ?_ | refine Wc.block ?_))
    refine Wc.loop (σ := Nat × Value) (fun s => [(0, vs l), (10, s.2), (11, vi s.1)]) (fun s w' => s.1 ≤ l.length ∧ OwnS (one by8) 5 1 (fun b => w1.heap.size ≤ b) (fun _ => False) w' s.2 (91 :: Lib.join ((l.take s.1).map hexB) [32]) ∧ New w1 w') (fun s => l.length - s.1) (0, v2) ⟨rfl, rfl, rfl, trivial⟩ ⟨Nat.zero_le _, ho2, n2⟩ ?_
    rintro ⟨i, bv⟩ G w3 ⟨hi, ho, n3⟩
    dsimp only at hi ho
    simp only [upds]
    have hj := hjl i
    have hs3 := n3.size
    (repeat' (first | refine Wl.moveE (by conv => { lhs; whnf }) ?_ | refine Wl.nil ?_ | refine Wl.lenStr rfl ?_ | refine Qseq.normal ?_ | refine Wc.seq ?_ | refine Wc.region ?_ | refine Wc.block ?_ | refine Wc.skip ?_ | refine Wc.exit ?_ | refine Qseq.exit ?_ | refine Qblk.hit ?_ | refine Qloop.exit ?_ | refine Wc.condT rfl ?_ | refine Wc.condF rfl ?_ | refine Wl.lss rfl rfl (fun _ => ?_) (fun _ => ?_) | refine Wl.gtr rfl rfl (fun _ => ?_) (fun _ => ?_)))
    · have hi0 : i ≠ 0 := by omega
      obtain ⟨c, hc⟩ := get_lt' l (k := i) (by omega)
      have hcl := c.toNat_lt
      have eq16 : IntKind.u64.wrap (IntKind.u8.wrap ((c.toNat : Int).tdiv 16)) = ((c.toNat / 16 : Nat) : Int) := by
        rw [show (c.toNat : Int).tdiv 16 = ((c.toNat / 16 : Nat) : Int) from rfl, IntKind.wrap_u8, wrapU64 _ (by omega) (by omega)]; omega
      have eqc : IntKind.u64.wrap (c.toNat : Int) = (c.toNat : Int) := wrapU64 _ (by omega) (by omega)
      have hst := join_step (f := hexB) (sep := [32]) hc
      rw [if_neg hi0] at hst
      refine Wl.append1 (y := 32) goodR8 ho rfl rfl rfl rfl rfl (by omega) (by omega) (by simp only [maxLen, List.length_cons]; omega) (by simp only [List.length_cons]; omega) rfl rfl fun v4 w4 p ho4 hc4 _ => ?_
      have n4 : New w1 w4 := Chg.trans n3 hc4 fun b hb e => by have := (ho.lt e).1; omega
      have hs4 := n4.size
      replace ho4 := ho4.mono goodR8.mo (Pb' := fun b => w1.heap.size ≤ b) (Pe' := fun _ => False) (fun b _ hb => by rcases hb with hb | hb <;> omega) (fun _ _ h => h)
      (repeat' (first | refine Wl.assignE (by conv => { lhs; whnf }) ?_ | refine Wl.nil ?_ | refine Qseq.normal ?_))
      refine Wc.regionT rfl (by kernel_rfl) (fun _ => True) trivial ?_
      intro w5 n5
      (repeat' (refine Wt.quiet rfl (Wq.moveE (by conv => { lhs; whnf }) (Wq.nil ?_))))
      refine Wt.quiet rfl (Wq.idxStr rfl rfl (by omega) (by rw [Int.toNat_natCast]; exact hc) (Wq.nil ?_))
      refine Wt.quiet rfl (Wq.quoW rfl rfl (by omega) (Wq.nil ?_))
      refine Wt.quiet rfl (Wq.convI rfl (Wq.nil ?_))
      rw [eq16]
      refine Wt.chain rfl (Wl.call digit_spec rfl ?_)
      rintro _ _ ⟨rfl, rfl⟩
      refine Wl.nil ⟨rfl, trivial, ?_⟩
      rw [Nat.mod_eq_of_lt (show c.toNat / 16 < 16 by omega)]
      (repeat' (refine Wt.quiet rfl (Wq.moveE (by conv => { lhs; whnf }) (Wq.nil ?_))))
      refine Wt.quiet rfl (Wq.idxStr rfl rfl (by omega) (by rw [Int.toNat_natCast]; exact hc) (Wq.nil ?_))
      refine Wt.quiet rfl (Wq.convI rfl (Wq.nil ?_))
      rw [eqc]
      refine Wt.chain rfl (Wl.call digit_spec rfl ?_)
      rintro _ _ ⟨rfl, rfl⟩
      refine Wl.nil ⟨rfl, trivial, ?_⟩
      refine Wt.chain rfl (Wl.buildSliceN (N := 2) (R := one by8) (Pe := fun _ => False) (xs := hexB c) (us := (hexB c).map by8) goodR8 rfl rfl ⟨rfl, rfl, rfl, rfl, trivial⟩ (Nat.succ_pos 1) (show 2 * 1 ≤ 16777216 by omega) fun v6 w6 ho6 n6 s6 hb6 => Wl.nil ⟨rfl, trivial, ?_⟩)
      have ho46 := (ho4.keepP n5.keep).keepP n6.keep
      have hs5 := n5.size
      have hs6 := n6.size
      have hxl : (hexB c).length = 2 := rfl
      refine Wt.chain rfl (Wl.appendAll goodR8 ho46 (ho6.rd goodR8.mo) (fun _ _ h => h) rfl rfl (by omega) (by simp only [maxLen, List.length_cons, List.length_append, List.length_nil]; omega) (by simp only [List.length_cons, List.length_append, List.length_nil]; omega) fun v7 w7 ho7 hc7 _ _ => Wl.nil ⟨rfl, trivial, ?_⟩)
      (repeat' (first | refine Wt.nil ?_ | refine Wt.quiet rfl (Wq.assignE (by conv => { lhs; whnf }) (Wq.nil ?_))))
      (repeat' (first | refine Wl.moveE (by conv => { lhs; whnf }) ?_ | refine Wl.assignE (by conv => { lhs; whnf }) ?_ | refine Wl.nil ?_ | refine Qseq.normal ?_ | refine Wc.region ?_ | refine Qblk.normal ?_ | refine Wl.add rfl rfl (by omega) (by omega) ?_))
      refine Qloop.normal (i + 1, v7) ⟨rfl, rfl, rfl, trivial⟩ ⟨by dsimp only; omega, ?_, Chg.trans (n4.trans (n5.trans n6)) hc7 fun b hb e => by have := (ho46.lt e).1; omega⟩ (by dsimp only; omega)
      dsimp only
      rw [hst]
      have e9 : 91 :: (Lib.join ((l.take i).map hexB) [32] ++ [32] ++ hexB c) = (91 :: Lib.join ((l.take i).map hexB) [32] ++ [32]) ++ hexB c := by simp
      rw [e9]
      exact ho7.mono goodR8.mo (fun b _ hb => by rcases hb with hb | hb <;> omega) (fun _ _ h => h)
    · have hi0 : i = 0 := by omega
      subst hi0
      obtain ⟨c, hc⟩ := get_lt' l (k := 0) (by omega)
      have hcl := c.toNat_lt
      have eq16 : IntKind.u64.wrap (IntKind.u8.wrap ((c.toNat : Int).tdiv 16)) = ((c.toNat / 16 : Nat) : Int) := by
        rw [show (c.toNat : Int).tdiv 16 = ((c.toNat / 16 : Nat) : Int) from rfl, IntKind.wrap_u8, wrapU64 _ (by omega) (by omega)]; omega
      have eqc : IntKind.u64.wrap (c.toNat : Int) = (c.toNat : Int) := wrapU64 _ (by omega) (by omega)
      have hst := join_step (f := hexB) (sep := [32]) hc
      rw [if_pos rfl] at hst
      refine Wc.regionT rfl (by kernel_rfl) (fun _ => True) trivial ?_
      intro w5 n5
      (repeat' (refine Wt.quiet rfl (Wq.moveE (by conv => { lhs; whnf }) (Wq.nil ?_))))
      refine Wt.quiet rfl (Wq.idxStr rfl rfl (by omega) hc (Wq.nil ?_))
      refine Wt.quiet rfl (Wq.quoW rfl rfl (by omega) (Wq.nil ?_))
      refine Wt.quiet rfl (Wq.convI rfl (Wq.nil ?_))
      rw [eq16]
      refine Wt.chain rfl (Wl.call digit_spec rfl ?_)
      rintro _ _ ⟨rfl, rfl⟩
      refine Wl.nil ⟨rfl, trivial, ?_⟩
      rw [Nat.mod_eq_of_lt (show c.toNat / 16 < 16 by omega)]
      (repeat' (refine Wt.quiet rfl (Wq.moveE (by conv => { lhs; whnf }) (Wq.nil ?_))))
      refine Wt.quiet rfl (Wq.idxStr rfl rfl (by omega) hc (Wq.nil ?_))
      refine Wt.quiet rfl (Wq.convI rfl (Wq.nil ?_))
      rw [eqc]
      refine Wt.chain rfl (Wl.call digit_spec rfl ?_)
      rintro _ _ ⟨rfl, rfl⟩
      refine Wl.nil ⟨rfl, trivial, ?_⟩
      refine Wt.chain rfl (Wl.buildSliceN (N := 2) (R := one by8) (Pe := fun _ => False) (xs := hexB c) (us := (hexB c).map by8) goodR8 rfl rfl ⟨rfl, rfl, rfl, rfl, trivial⟩ (Nat.succ_pos 1) (show 2 * 1 ≤ 16777216 by omega) fun v6 w6 ho6 n6 s6 hb6 => Wl.nil ⟨rfl, trivial, ?_⟩)
      have ho46 := (ho.keepP n5.keep).keepP n6.keep
      have hs5 := n5.size
      have hs6 := n6.size
      have hxl : (hexB c).length = 2 := rfl
      refine Wt.chain rfl (Wl.appendAll goodR8 ho46 (ho6.rd goodR8.mo) (fun _ _ h => h) rfl rfl (by omega) (by simp only [maxLen, List.length_cons, List.length_append, List.length_nil]; omega) (by simp only [List.length_cons, List.length_append, List.length_nil]; omega) fun v7 w7 ho7 hc7 _ _ => Wl.nil ⟨rfl, trivial, ?_⟩)
      (repeat' (first | refine Wt.nil ?_ | refine Wt.quiet rfl (Wq.assignE (by conv => { lhs; whnf }) (Wq.nil ?_))))
      (repeat' (first | refine Wl.moveE (by conv => { lhs; whnf }) ?_ | refine Wl.assignE (by conv => { lhs; whnf }) ?_ | refine Wl.nil ?_ | refine Qseq.normal ?_ | refine Wc.region ?_ | refine Qblk.normal ?_ | refine Wl.add rfl rfl (by omega) (by omega) ?_))
      refine Qloop.normal (0 + 1, v7) ⟨rfl, rfl, rfl, trivial⟩ ⟨by dsimp only; omega, ?_, Chg.trans (n3.trans (n5.trans n6)) hc7 fun b hb e => by have := (ho46.lt e).1; omega⟩ (by dsimp only; omega)
      dsimp only
      rw [hst]
      have e9 : 91 :: ([] ++ hexB c) = (91 :: Lib.join ((l.take 0).map hexB) [32]) ++ hexB c := by simp [Lib.join, List.intercalate]
      rw [e9]
      exact ho7.mono goodR8.mo (fun b _ hb => by rcases hb with hb | hb <;> omega) (fun _ _ h => h)
    · have hi2 : i = l.length := by omega
      subst hi2
      rw [List.take_length] at ho hj
      refine Wl.append1 (y := 93) goodR8 ho rfl rfl rfl rfl rfl (by omega) (by omega) (by simp only [maxLen, List.length_cons]; omega) (by simp only [List.length_cons]; omega) rfl rfl fun v4 w4 p ho4 hc4 _ => ?_
      refine Wl.bytesStr (ho4.rd (mono_one _)) rfl ?_
      (repeat' (first | refine Wl.assignE (by conv => { lhs; whnf }) ?_ | refine Wl.nil ?_ | refine Qseq.normal ?_ | refine Wc.ret ?_))
      exact Qfn.ret1 rfl rfl ⟨_, rfl, by rw [hs]; rfl, n1.trans (Chg.trans n3 hc4 fun b hb e => by have := (ho.lt e).1; omega)⟩
end Go.Proofs.YthppadlcejpgbaaGreatDoor

namespace Go.Proofs.YthppadlcejpgbaaGreatDoor
open Go Wk
open Go.RowKit (Below)
attribute [local irreducible] Go.Calls

theorem value_spec {w : World} {c : UInt8} : Calls Tryz.prog 57 #[by8 c] w (Ret fun r w' => r = .int .u64 (valB c : Nat) ∧ w = w') := by
  refine calls_of_Wc Tryz.func57 rfl Tryz.ntmps57 rfl ?_
  (repeat' (first | refine Wl.assignE (by conv => { lhs; whnf }) ?_ | refine Wl.nil ?_ | refine Qseq.normal ?_ | refine Wc.seq ?_ | refine Wc.region ?_ | refine Wc.block ?_))
  refine Wc.loop (σ := Nat) (fun k => [(0, by8 c), (3, .int .u64 (k : Nat))]) (fun k w' => k ≤ 16 ∧ (∀ j, j < k → dg j ≠ c) ∧ w = w') (fun k => 16 - k) 0 ⟨rfl, rfl, trivial⟩ ⟨by omega, fun j h => absurd h (by omega), rfl⟩ ?_
  rintro k G w' ⟨hk, hno, rfl⟩
  simp only [upds]
  (repeat' (first | refine Wl.moveE (by conv => { lhs; whnf }) ?_ | refine Wl.assignE (by conv => { lhs; whnf }) ?_ | refine Wl.nil ?_ | refine Qseq.normal ?_ | refine Wc.seq ?_ | refine Wc.region ?_ | refine Wc.block ?_ | refine Wc.skip ?_ | refine Wc.exit ?_ | refine Wc.ret ?_ | refine Qseq.exit ?_ | refine Qblk.hit ?_ | refine Qloop.exit ?_ | refine Wc.condT rfl ?_ | refine Wc.condF rfl ?_ | refine Wl.lss rfl rfl (fun _ => ?_) (fun _ => ?_)))
  · refine Wl.call digit_spec rfl ?_
    rintro _ _ ⟨rfl, rfl⟩
    rw [Nat.mod_eq_of_lt (show k < 16 by omega)]
    (repeat' (first | refine Wl.moveE (by conv => { lhs; whnf }) ?_ | refine Wl.assignE (by conv => { lhs; whnf }) ?_ | refine Wl.nil ?_ | refine Qseq.normal ?_ | refine Wc.seq ?_ | refine Wc.region ?_ | refine Wc.skip ?_ | refine Wc.ret ?_ | refine Qseq.ret ?_ | refine Qblk.normal ?_ | refine Qblk.ret ?_ | refine Qloop.ret ?_ | refine Wc.condT rfl ?_ | refine Wc.condF rfl ?_ | refine Wl.eql rfl rfl (fun _ => ?_) (fun _ => ?_)))
    · rename_i he
      have hdc : dg k = c := UInt8.toNat_inj.1 (by omega)
      refine Qfn.ret1 rfl rfl ⟨_, rfl, ?_, rfl⟩
      rw [← hdc, val_dg k (by omega)]; rfl
    · rename_i hne
      have hdc : dg k ≠ c := fun e => hne (by rw [e])
      refine Wl.addW rfl rfl ?_
      rw [show IntKind.u64.wrap ((k : Int) + 1) = ((k + 1 : Nat) : Int) by rw [wrap_u rfl (by omega) (by simp only [IntKind.bits]; omega)]; omega]
      (repeat' (first | refine Wl.assignE (by conv => { lhs; whnf }) ?_ | refine Wl.nil ?_))
      exact Qloop.normal (k + 1) ⟨rfl, rfl, trivial⟩ ⟨by omega, fun j hj => by
        rcases Nat.lt_or_ge j k with h | h
        · exact hno j h
        · rw [show j = k by omega]; exact hdc, rfl⟩ (by omega)
  · have hk16 : k = 16 := by omega
    subst hk16
    exact Qfn.ret1 rfl rfl ⟨_, rfl, by rw [val_no c hno]; rfl, rfl⟩
theorem drop_cons {l : List UInt8} {i : Nat} {c : UInt8} (h : l[i]? = some c) : l.drop i = c :: l.drop (i + 1) := by
  obtain ⟨h1, h2⟩ := List.getElem?_eq_some_iff.1 h
  rw [List.drop_eq_getElem_cons h1, h2]
theorem wrap_num {n v : Nat} : IntKind.u64.wrap (IntKind.u64.wrap (16 * (n : Int)) + (v : Int)) = (((16 * n + v) % 18446744073709551616 : Nat) : Int) := by
  simp only [IntKind.wrap, IntKind.bits, IntKind.signed]
  simp
set_option maxHeartbeats 4000000 in
theorem guess_spec {w : World} {s : List UInt8} (hl : s.length ≤ 20000000) : Calls Tryz.prog 34 #[vs s] w (Ret fun r w' => r = vs (guessM s) ∧ New w w' ∧ (guessM s).length ≤ 4 * s.length + 4) := by
  refine calls_of_Wc Tryz.func34 rfl Tryz.ntmps34 rfl ?_
  cases s with
  | nil =>
    (repeat' (first | refine Wl.moveE (by conv => { lhs; whnf }) ?_ | refine Wl.assignE (by conv => { lhs; whnf }) ?_ | refine Wl.nil ?_ | refine Wl.guardN rfl rfl ?_ | refine Wl.pickTE rfl (by conv => { lhs; whnf }) ?_ | refine Qseq.normal ?_ | refine Wc.seq ?_ | refine Wc.region ?_ | refine Wc.block ?_ | refine Wc.skip ?_ | refine Qblk.normal ?_ | refine Wc.condT rfl ?_ | (refine Wl.seql rfl rfl (fun _ => ?_) (fun _ => ?_) <;> (first | (exfalso; contradiction) | skip))))
    refine Wl.bytesStr (RdS.nil (Pb := fun _ => True) (R := one by8) (sz := 1)) rfl ?_
    (repeat' (first | refine Wl.assignE (by conv => { lhs; whnf }) ?_ | refine Wl.nil ?_ | refine Qseq.normal ?_ | refine Wc.ret ?_))
    exact Qfn.ret1 rfl rfl ⟨_, rfl, rfl, Chg.refl _ _, by simp [guessM]⟩
  | cons c r =>
    (repeat' (first | refine Wl.moveE (by conv => { lhs; whnf }) ?_ | refine Wl.assignE (by conv => { lhs; whnf }) ?_ | refine Wl.nil ?_ | refine Wl.guardY rfl rfl ?_ | refine Wl.pickFE rfl (by conv => { lhs; whnf }) ?_ | refine Qseq.normal ?_ | refine Wc.seq ?_ | refine Wc.region ?_ | refine Wc.block ?_ | refine Wc.skip ?_ | refine Qblk.normal ?_ | refine Wc.condT rfl ?_ | refine Wc.condF rfl ?_ | (refine Wl.seql rfl rfl (fun _ => ?_) (fun _ => ?_) <;> (first | (exfalso; contradiction) | skip))))
    · have he : c :: r = [45] := by assumption
      rw [he]
      refine Wl.bytesStr (RdS.nil (Pb := fun _ => True) (R := one by8) (sz := 1)) rfl ?_
      (repeat' (first | refine Wl.assignE (by conv => { lhs; whnf }) ?_ | refine Wl.nil ?_ | refine Qseq.normal ?_ | refine Wc.ret ?_))
      exact Qfn.ret1 rfl rfl ⟨_, rfl, rfl, Chg.refl _ _, by simp [guessM]⟩
    · refine Wl.idxStr (b := c) rfl rfl (by omega) rfl ?_
      by_cases h34 : c = 34
      · subst h34
        (repeat' (first | refine Wl.assignE (by conv => { lhs; whnf }) ?_ | refine Wl.nil ?_ | refine Qseq.normal ?_ | refine Wc.seq ?_ | refine Wc.region ?_ | refine Wc.block ?_ | refine Wc.condT rfl ?_ | (refine Wl.eql rfl rfl (fun _ => ?_) (fun _ => ?_) <;> (first | (exfalso; contradiction) | skip))))
        refine Wc.loop (σ := Nat × Value × List UInt8) (fun x => [(0, vs (34 :: r)), (3, x.2.1), (4, vi x.1)]) (fun x w' => x.1 ≤ (34 :: r).length + 4 ∧ x.2.2.length ≤ x.1 ∧ x.2.2.length ≤ (34 :: r).length ∧ gT r = x.2.2 ++ gT ((34 :: r).drop x.1) ∧ OwnS (one by8) 5 1 (fun b => w.heap.size ≤ b) (fun _ => False) w' x.2.1 x.2.2 ∧ New w w') (fun x => (34 :: r).length + 4 - x.1) (1, .slice none 0 0, []) ⟨rfl, rfl, rfl, trivial⟩ ⟨by omega, Nat.zero_le _, Nat.zero_le _, rfl, OwnS.nil, Chg.refl _ _⟩ ?_
        rintro ⟨i, bv, acc⟩ G w1 ⟨hi, ha, ha2, hg, ho, n1⟩
        dsimp only at hi ha ha2 hg ho
        simp only [upds]
        generalize hL : (34 :: r : List UInt8) = L at *
        have hs1 := n1.size
        rcases Nat.lt_or_ge i L.length with hlt | hge
        rotate_left
        · rw [List.drop_eq_nil_of_le hge, gT, List.append_nil] at hg
          (repeat' (first | refine Wl.moveE (by conv => { lhs; whnf }) ?_ | refine Wl.nil ?_ | refine Wl.lenStr rfl ?_ | refine Qseq.normal ?_ | refine Wc.seq ?_ | refine Wc.region ?_ | refine Wc.exit ?_ | refine Qseq.exit ?_ | refine Qblk.normal ?_ | refine Qblk.hit ?_ | refine Qloop.exit ?_ | refine Wc.condF rfl ?_ | (refine Wl.lss rfl rfl (fun _ => ?_) (fun _ => ?_) <;> (first | (exfalso; omega) | skip))))
          refine Wl.bytesStr (ho.rd (mono_one _)) rfl ?_
          (repeat' (first | refine Wl.assignE (by conv => { lhs; whnf }) ?_ | refine Wl.nil ?_ | refine Qseq.normal ?_ | refine Wc.ret ?_))
          refine Qfn.ret1 rfl rfl ⟨_, rfl, ?_, n1, ?_⟩
          · rw [← hL]; show vs acc = vs (gT r); rw [hg]
          · rw [← hL]; show (gT r).length ≤ _; rw [hg, hL]; omega
        obtain ⟨c, hc⟩ := get_lt' L hlt
        have hcl := c.toNat_lt
        rw [drop_cons hc] at hg
        by_cases h92 : c = 92
        · subst h92
          rcases Nat.lt_or_ge (i + 1) L.length with hlt2 | hge2
          · obtain ⟨d, hd⟩ := get_lt' L hlt2
            rw [drop_cons hd, gT_92] at hg
            (repeat' (first | refine Wl.moveE (by conv => { lhs; whnf }) ?_ | refine Wl.nil ?_ | refine Wl.lenStr rfl ?_ | refine Qseq.normal ?_ | refine Wc.seq ?_ | refine Wc.region ?_ | refine Wc.block ?_ | refine Wc.skip ?_ | refine Wc.condT rfl ?_ | (refine Wl.lss rfl rfl (fun _ => ?_) (fun _ => ?_) <;> (first | (exfalso; omega) | skip))))
            refine Wl.idxStr (b := 92) rfl rfl (by omega) (by rw [Int.toNat_natCast]; exact hc) ?_
            (repeat' (first | refine Wl.moveE (by conv => { lhs; whnf }) ?_ | refine Wl.assignE (by conv => { lhs; whnf }) ?_ | refine Wl.nil ?_ | refine Wl.guardY rfl rfl ?_ | refine Wl.pickTE rfl (by conv => { lhs; whnf }) ?_ | refine Wl.lenStr rfl ?_ | refine Qseq.normal ?_ | refine Wc.seq ?_ | refine Wc.region ?_ | refine Wc.condT rfl ?_ | refine Wl.add rfl rfl (by omega) (by omega) ?_ | (refine Wl.lss rfl rfl (fun _ => ?_) (fun _ => ?_) <;> (first | (exfalso; omega) | skip)) | (refine Wl.eql rfl rfl (fun _ => ?_) (fun _ => ?_) <;> (first | (exfalso; contradiction) | skip))))
            refine Wl.idxStr (b := d) rfl rfl (by omega) (by rw [show ((i : Int) + 1).toNat = i + 1 by omega]; exact hd) ?_
            refine Wl.append1 (y := d) goodR8 ho rfl rfl rfl rfl rfl (by omega) (by omega) (by simp only [maxLen]; omega) (by omega) rfl rfl fun v3 w3 p ho3 hc3 _ => ?_
            (repeat' (first | refine Wl.moveE (by conv => { lhs; whnf }) ?_ | refine Wl.assignE (by conv => { lhs; whnf }) ?_ | refine Wl.nil ?_ | refine Qseq.normal ?_ | refine Wc.region ?_ | refine Qblk.normal ?_ | refine Wl.add rfl rfl (by omega) (by omega) ?_))
            exact Qloop.normal (i + 2, v3, acc ++ [d]) ⟨rfl, rfl, (show vi _ = vi _ by congr 1 <;> omega), trivial⟩ ⟨by dsimp only; omega, by simp only [List.length_append, List.length_singleton]; omega, by simp only [List.length_append, List.length_singleton]; omega, by rw [List.append_assoc]; exact hg, ho3.mono goodR8.mo (fun b _ hb => by rcases hb with hb | hb <;> omega) (fun _ _ h => h), Chg.trans n1 hc3 fun b hb e => by have := (ho.lt e).1; omega⟩ (by dsimp only; omega)
          · rw [List.drop_eq_nil_of_le hge2, gT_end] at hg
            (repeat' (first | refine Wl.moveE (by conv => { lhs; whnf }) ?_ | refine Wl.nil ?_ | refine Wl.lenStr rfl ?_ | refine Qseq.normal ?_ | refine Wc.seq ?_ | refine Wc.region ?_ | refine Wc.block ?_ | refine Wc.skip ?_ | refine Wc.condT rfl ?_ | (refine Wl.lss rfl rfl (fun _ => ?_) (fun _ => ?_) <;> (first | (exfalso; omega) | skip))))
            refine Wl.idxStr (b := 92) rfl rfl (by omega) (by rw [Int.toNat_natCast]; exact hc) ?_
            (repeat' (first | refine Wl.moveE (by conv => { lhs; whnf }) ?_ | refine Wl.assignE (by conv => { lhs; whnf }) ?_ | refine Wl.nil ?_ | refine Wl.guardY rfl rfl ?_ | refine Wl.pickTE rfl (by conv => { lhs; whnf }) ?_ | refine Wl.lenStr rfl ?_ | refine Qseq.normal ?_ | refine Wc.seq ?_ | refine Wc.region ?_ | refine Wc.condF rfl ?_ | refine Wl.add rfl rfl (by omega) (by omega) ?_ | (refine Wl.lss rfl rfl (fun _ => ?_) (fun _ => ?_) <;> (first | (exfalso; omega) | skip)) | (refine Wl.eql rfl rfl (fun _ => ?_) (fun _ => ?_) <;> (first | (exfalso; contradiction) | skip))))
            refine Wl.idxStr (b := 92) rfl rfl (by omega) (by rw [Int.toNat_natCast]; exact hc) ?_
            (repeat' (first | refine Wl.moveE (by conv => { lhs; whnf }) ?_ | refine Wl.assignE (by conv => { lhs; whnf }) ?_ | refine Wl.nil ?_ | refine Qseq.normal ?_ | refine Wc.region ?_ | refine Wc.condF rfl ?_ | (refine Wl.eql rfl rfl (fun _ => ?_) (fun _ => ?_) <;> (first | (exfalso; omega) | skip))))
            refine Wl.idxStr (b := 92) rfl rfl (by omega) (by rw [Int.toNat_natCast]; exact hc) ?_
            refine Wl.append1 (y := 92) goodR8 ho rfl rfl rfl rfl rfl (by omega) (by omega) (by simp only [maxLen]; omega) (by omega) rfl rfl fun v3 w3 p ho3 hc3 _ => ?_
            (repeat' (first | refine Wl.moveE (by conv => { lhs; whnf }) ?_ | refine Wl.assignE (by conv => { lhs; whnf }) ?_ | refine Wl.nil ?_ | refine Qseq.normal ?_ | refine Wc.region ?_ | refine Qblk.normal ?_ | refine Wl.add rfl rfl (by omega) (by omega) ?_))
            exact Qloop.normal (i + 1, v3, acc ++ [92]) ⟨rfl, rfl, rfl, trivial⟩ ⟨by dsimp only; omega, by simp only [List.length_append, List.length_singleton]; omega, by simp only [List.length_append, List.length_singleton]; omega, by dsimp only; rw [List.drop_eq_nil_of_le hge2, gT, List.append_nil]; exact hg, ho3.mono goodR8.mo (fun b _ hb => by rcases hb with hb | hb <;> omega) (fun _ _ h => h), Chg.trans n1 hc3 fun b hb e => by have := (ho.lt e).1; omega⟩ (by dsimp only; omega)
        have h92' : c.toNat ≠ 92 := fun e => h92 (UInt8.toNat_inj.1 e)
        by_cases h34 : c = 34
        · subst h34
          rw [gT_34, List.drop_drop] at hg
          (repeat' (first | refine Wl.moveE (by conv => { lhs; whnf }) ?_ | refine Wl.nil ?_ | refine Wl.lenStr rfl ?_ | refine Qseq.normal ?_ | refine Wc.seq ?_ | refine Wc.region ?_ | refine Wc.block ?_ | refine Wc.skip ?_ | refine Wc.condT rfl ?_ | (refine Wl.lss rfl rfl (fun _ => ?_) (fun _ => ?_) <;> (first | (exfalso; omega) | skip))))
          refine Wl.idxStr (b := 34) rfl rfl (by omega) (by rw [Int.toNat_natCast]; exact hc) ?_
          (repeat' (first | refine Wl.moveE (by conv => { lhs; whnf }) ?_ | refine Wl.assignE (by conv => { lhs; whnf }) ?_ | refine Wl.nil ?_ | refine Wl.guardN rfl rfl ?_ | refine Wl.pickFE rfl (by conv => { lhs; whnf }) ?_ | refine Qseq.normal ?_ | refine Wc.seq ?_ | refine Wc.region ?_ | refine Wc.condF rfl ?_ | (refine Wl.eql rfl rfl (fun _ => ?_) (fun _ => ?_) <;> (first | (exfalso; omega) | skip))))
          refine Wl.idxStr (b := 34) rfl rfl (by omega) (by rw [Int.toNat_natCast]; exact hc) ?_
          (repeat' (first | refine Wl.moveE (by conv => { lhs; whnf }) ?_ | refine Wl.assignE (by conv => { lhs; whnf }) ?_ | refine Wl.nil ?_ | refine Qseq.normal ?_ | refine Wc.seq ?_ | refine Wc.region ?_ | refine Wc.condT rfl ?_ | (refine Wl.eql rfl rfl (fun _ => ?_) (fun _ => ?_) <;> (first | (exfalso; omega) | skip))))
          refine Wl.append1 (y := 0) goodR8 ho rfl rfl rfl rfl rfl (by omega) (by omega) (by simp only [maxLen]; omega) (by omega) rfl rfl fun v3 w3 p ho3 hc3 _ => ?_
          (repeat' (first | refine Wl.moveE (by conv => { lhs; whnf }) ?_ | refine Wl.assignE (by conv => { lhs; whnf }) ?_ | refine Wl.nil ?_ | refine Qseq.normal ?_ | refine Wc.region ?_ | refine Qblk.normal ?_ | refine Wl.add rfl rfl (by omega) (by omega) ?_))
          exact Qloop.normal (i + 4, v3, acc ++ [0]) ⟨rfl, rfl, (show vi _ = vi _ by congr 1 <;> omega), trivial⟩ ⟨by dsimp only; omega, by simp only [List.length_append, List.length_singleton]; omega, by simp only [List.length_append, List.length_singleton]; omega, by rw [List.append_assoc]; exact hg, ho3.mono goodR8.mo (fun b _ hb => by rcases hb with hb | hb <;> omega) (fun _ _ h => h), Chg.trans n1 hc3 fun b hb e => by have := (ho.lt e).1; omega⟩ (by dsimp only; omega)
        have h34' : c.toNat ≠ 34 := fun e => h34 (UInt8.toNat_inj.1 e)
        rw [gT_plain h34 h92] at hg
        (repeat' (first | refine Wl.moveE (by conv => { lhs; whnf }) ?_ | refine Wl.nil ?_ | refine Wl.lenStr rfl ?_ | refine Qseq.normal ?_ | refine Wc.seq ?_ | refine Wc.region ?_ | refine Wc.block ?_ | refine Wc.skip ?_ | refine Wc.condT rfl ?_ | (refine Wl.lss rfl rfl (fun _ => ?_) (fun _ => ?_) <;> (first | (exfalso; omega) | skip))))
        refine Wl.idxStr (b := c) rfl rfl (by omega) (by rw [Int.toNat_natCast]; exact hc) ?_
        (repeat' (first | refine Wl.moveE (by conv => { lhs; whnf }) ?_ | refine Wl.assignE (by conv => { lhs; whnf }) ?_ | refine Wl.nil ?_ | refine Wl.guardN rfl rfl ?_ | refine Wl.pickFE rfl (by conv => { lhs; whnf }) ?_ | refine Qseq.normal ?_ | refine Wc.seq ?_ | refine Wc.region ?_ | refine Wc.condF rfl ?_ | (refine Wl.eql rfl rfl (fun _ => ?_) (fun _ => ?_) <;> (first | (exfalso; omega) | skip))))
        refine Wl.idxStr (b := c) rfl rfl (by omega) (by rw [Int.toNat_natCast]; exact hc) ?_
        (repeat' (first | refine Wl.moveE (by conv => { lhs; whnf }) ?_ | refine Wl.assignE (by conv => { lhs; whnf }) ?_ | refine Wl.nil ?_ | refine Qseq.normal ?_ | refine Wc.region ?_ | refine Wc.condF rfl ?_ | (refine Wl.eql rfl rfl (fun _ => ?_) (fun _ => ?_) <;> (first | (exfalso; omega) | skip))))
        refine Wl.idxStr (b := c) rfl rfl (by omega) (by rw [Int.toNat_natCast]; exact hc) ?_
        refine Wl.append1 (y := c) goodR8 ho rfl rfl rfl rfl rfl (by omega) (by omega) (by simp only [maxLen]; omega) (by omega) rfl rfl fun v3 w3 p ho3 hc3 _ => ?_
        (repeat' (first | refine Wl.moveE (by conv => { lhs; whnf }) ?_ | refine Wl.assignE (by conv => { lhs; whnf }) ?_ | refine Wl.nil ?_ | refine Qseq.normal ?_ | refine Wc.region ?_ | refine Qblk.normal ?_ | refine Wl.add rfl rfl (by omega) (by omega) ?_))
        exact Qloop.normal (i + 1, v3, acc ++ [c]) ⟨rfl, rfl, rfl, trivial⟩ ⟨by dsimp only; omega, by simp only [List.length_append, List.length_singleton]; omega, by simp only [List.length_append, List.length_singleton]; omega, by rw [List.append_assoc]; exact hg, ho3.mono goodR8.mo (fun b _ hb => by rcases hb with hb | hb <;> omega) (fun _ _ h => h), Chg.trans n1 hc3 fun b hb e => by have := (ho.lt e).1; omega⟩ (by dsimp only; omega)
      have h34' : c.toNat ≠ 34 := fun e => h34 (UInt8.toNat_inj.1 e)
      by_cases h60 : c = 60
      · subst h60
        (repeat' (first | refine Wl.moveE (by conv => { lhs; whnf }) ?_ | refine Wl.assignE (by conv => { lhs; whnf }) ?_ | refine Wl.nil ?_ | refine Qseq.normal ?_ | refine Wc.seq ?_ | refine Wc.region ?_ | refine Wc.condF rfl ?_ | (refine Wl.eql rfl rfl (fun _ => ?_) (fun _ => ?_) <;> (first | (exfalso; omega) | skip))))
        refine Wl.idxStr (b := 60) rfl rfl (by omega) rfl ?_
        (repeat' (first | refine Wl.assignE (by conv => { lhs; whnf }) ?_ | refine Wl.nil ?_ | refine Qseq.normal ?_ | refine Wc.seq ?_ | refine Wc.region ?_ | refine Wc.block ?_ | refine Wc.condT rfl ?_ | (refine Wl.eql rfl rfl (fun _ => ?_) (fun _ => ?_) <;> (first | (exfalso; contradiction) | skip))))
        refine Wc.loop (σ := Nat × Nat × Value × List UInt8) (fun x => [(0, vs (60 :: r)), (3, x.2.2.1), (5, .int .u64 (x.2.1 : Nat)), (6, vi x.1)]) (fun x w' => x.1 ≤ (60 :: r).length ∧ x.2.1 < 18446744073709551616 ∧ x.2.2.2.length ≤ 4 * x.1 ∧ gN r 0 = x.2.2.2 ++ gN ((60 :: r).drop x.1) x.2.1 ∧ OwnS (one by8) 5 1 (fun b => w.heap.size ≤ b) (fun _ => False) w' x.2.2.1 x.2.2.2 ∧ New w w') (fun x => (60 :: r).length - x.1) (1, 0, .slice none 0 0, []) ⟨rfl, rfl, rfl, rfl, trivial⟩ ⟨by simp, (show 0 < 18446744073709551616 by omega), Nat.zero_le _, rfl, OwnS.nil, Chg.refl _ _⟩ ?_
        rintro ⟨i, n, bv, acc⟩ G w1 ⟨hi, hn, ha, hg, ho, n1⟩
        dsimp only at hi hn ha hg ho
        simp only [upds]
        generalize hL : (60 :: r : List UInt8) = L at *
        have hs1 := n1.size
        rcases Nat.lt_or_ge i L.length with hlt | hge
        rotate_left
        · rw [List.drop_eq_nil_of_le hge, gN, List.append_nil] at hg
          (repeat' (first | refine Wl.moveE (by conv => { lhs; whnf }) ?_ | refine Wl.nil ?_ | refine Wl.lenStr rfl ?_ | refine Qseq.normal ?_ | refine Wc.seq ?_ | refine Wc.region ?_ | refine Wc.exit ?_ | refine Qseq.exit ?_ | refine Qblk.normal ?_ | refine Qblk.hit ?_ | refine Qloop.exit ?_ | refine Wc.condF rfl ?_ | (refine Wl.lss rfl rfl (fun _ => ?_) (fun _ => ?_) <;> (first | (exfalso; omega) | skip))))
          refine Wl.bytesStr (ho.rd (mono_one _)) rfl ?_
          (repeat' (first | refine Wl.assignE (by conv => { lhs; whnf }) ?_ | refine Wl.nil ?_ | refine Qseq.normal ?_ | refine Wc.ret ?_))
          refine Qfn.ret1 rfl rfl ⟨_, rfl, ?_, n1, ?_⟩
          · rw [← hL]; show vs acc = vs (gN r 0); rw [hg]
          · rw [← hL]; show (gN r 0).length ≤ _; rw [hg, hL]; omega
        obtain ⟨c, hc⟩ := get_lt' L hlt
        have hcl := c.toNat_lt
        rw [drop_cons hc, gN.eq_2] at hg
        by_cases hsep : c = 32 ∨ c = 62
        · rw [if_pos hsep] at hg
          have hbl := be_length 4 (n : Int)
          rcases hsep with rfl | rfl
          · refine Wc.frame [(0, vs L), (3, bv), (5, .int .u64 (n : Nat)), (6, vi i)] ⟨rfl, rfl, rfl, rfl, trivial⟩ fun G => ?_
            (repeat' (first | refine Wl.moveE (by conv => { lhs; whnf }) ?_ | refine Wl.nil ?_ | refine Wl.lenStr rfl ?_ | refine Qseq.normal ?_ | refine Wc.seq ?_ | refine Wc.region ?_ | refine Wc.block ?_ | refine Wc.skip ?_ | refine Wc.condT rfl ?_ | (refine Wl.lss rfl rfl (fun _ => ?_) (fun _ => ?_) <;> (first | (exfalso; omega) | skip))))
            refine Wl.idxStr (b := 32) rfl rfl (by omega) (by rw [Int.toNat_natCast]; exact hc) ?_
            (repeat' (first | refine Wl.moveE (by conv => { lhs; whnf }) ?_ | refine Wl.nil ?_ | refine Wl.guardN rfl rfl ?_ | refine Wl.pickTE rfl (by conv => { lhs; whnf }) ?_ | refine Qseq.normal ?_ | refine Wc.seq ?_ | refine Wc.region ?_ | refine Wc.condT rfl ?_ | (refine Wl.eql rfl rfl (fun _ => ?_) (fun _ => ?_) <;> (first | (exfalso; contradiction) | skip))))
            refine Wl.call (bytes_spec (sz := 4) (by omega) (by omega) (by omega)) rfl ?_
            rintro _ w2 ⟨rfl, n2⟩
            have hs2 := n2.size
            refine Wl.appendStr (ho.keepP n2.keep) rfl rfl (by simp only [maxLen]; omega) (by omega) fun v3 w3 ho3 hc3 _ => ?_
            (repeat' (first | refine Wl.moveE (by conv => { lhs; whnf }) ?_ | refine Wl.assignE (by conv => { lhs; whnf }) ?_ | refine Wl.nil ?_ | refine Qseq.normal ?_ | refine Wc.region ?_ | refine Qblk.normal ?_ | refine Wl.add rfl rfl (by omega) (by omega) ?_))
            exact Qloop.normal (i + 1, 0, v3, acc ++ be 4 (n : Int)) ⟨rfl, rfl, rfl, rfl, trivial⟩ ⟨hlt, by dsimp only; omega, by simp only [List.length_append]; omega, by rw [List.append_assoc]; exact hg, ho3.mono goodR8.mo (fun b _ hb => by rcases hb with hb | hb <;> omega) (fun _ _ h => h), Chg.trans (n1.trans n2) hc3 fun b hb e => by have := (ho.lt e).1; omega⟩ (by dsimp only; omega)
          · (repeat' (first | refine Wl.moveE (by conv => { lhs; whnf }) ?_ | refine Wl.nil ?_ | refine Wl.lenStr rfl ?_ | refine Qseq.normal ?_ | refine Wc.seq ?_ | refine Wc.region ?_ | refine Wc.block ?_ | refine Wc.skip ?_ | refine Wc.condT rfl ?_ | (refine Wl.lss rfl rfl (fun _ => ?_) (fun _ => ?_) <;> (first | (exfalso; omega) | skip))))
            refine Wl.idxStr (b := 62) rfl rfl (by omega) (by rw [Int.toNat_natCast]; exact hc) ?_
            (repeat' (first | refine Wl.moveE (by conv => { lhs; whnf }) ?_ | refine Wl.guardY rfl rfl ?_ | (refine Wl.eql rfl rfl (fun _ => ?_) (fun _ => ?_) <;> (first | (exfalso; contradiction) | skip))))
            refine Wl.idxStr (b := 62) rfl rfl (by omega) (by rw [Int.toNat_natCast]; exact hc) ?_
            (repeat' (first | refine Wl.moveE (by conv => { lhs; whnf }) ?_ | refine Wl.nil ?_ | refine Wl.guardY rfl rfl ?_ | refine Wl.pickFE rfl (by conv => { lhs; whnf }) ?_ | refine Qseq.normal ?_ | refine Wc.seq ?_ | refine Wc.region ?_ | refine Wc.condT rfl ?_ | (refine Wl.eql rfl rfl (fun _ => ?_) (fun _ => ?_) <;> (first | (exfalso; contradiction) | skip))))
            refine Wl.call (bytes_spec (sz := 4) (by omega) (by omega) (by omega)) rfl ?_
            rintro _ w2 ⟨rfl, n2⟩
            have hs2 := n2.size
            refine Wl.appendStr (ho.keepP n2.keep) rfl rfl (by simp only [maxLen]; omega) (by omega) fun v3 w3 ho3 hc3 _ => ?_
            (repeat' (first | refine Wl.moveE (by conv => { lhs; whnf }) ?_ | refine Wl.assignE (by conv => { lhs; whnf }) ?_ | refine Wl.nil ?_ | refine Qseq.normal ?_ | refine Wc.region ?_ | refine Qblk.normal ?_ | refine Wl.add rfl rfl (by omega) (by omega) ?_))
            exact Qloop.normal (i + 1, 0, v3, acc ++ be 4 (n : Int)) ⟨rfl, rfl, rfl, rfl, trivial⟩ ⟨hlt, by dsimp only; omega, by simp only [List.length_append]; omega, by rw [List.append_assoc]; exact hg, ho3.mono goodR8.mo (fun b _ hb => by rcases hb with hb | hb <;> omega) (fun _ _ h => h), Chg.trans (n1.trans n2) hc3 fun b hb e => by have := (ho.lt e).1; omega⟩ (by dsimp only; omega)
        rw [if_neg hsep] at hg
        have h32 : c.toNat ≠ 32 := fun e => hsep (.inl (UInt8.toNat_inj.1 e))
        have h62 : c.toNat ≠ 62 := fun e => hsep (.inr (UInt8.toNat_inj.1 e))
        by_cases h120 : c = 120
        · subst h120
          rw [if_pos rfl] at hg
          (repeat' (first | refine Wl.moveE (by conv => { lhs; whnf }) ?_ | refine Wl.nil ?_ | refine Wl.lenStr rfl ?_ | refine Qseq.normal ?_ | refine Wc.seq ?_ | refine Wc.region ?_ | refine Wc.block ?_ | refine Wc.skip ?_ | refine Wc.condT rfl ?_ | (refine Wl.lss rfl rfl (fun _ => ?_) (fun _ => ?_) <;> (first | (exfalso; omega) | skip))))
          refine Wl.idxStr (b := 120) rfl rfl (by omega) (by rw [Int.toNat_natCast]; exact hc) ?_
          (repeat' (first | refine Wl.moveE (by conv => { lhs; whnf }) ?_ | refine Wl.guardY rfl rfl ?_ | (refine Wl.eql rfl rfl (fun _ => ?_) (fun _ => ?_) <;> (first | (exfalso; omega) | skip))))
          refine Wl.idxStr (b := 120) rfl rfl (by omega) (by rw [Int.toNat_natCast]; exact hc) ?_
          (repeat' (first | refine Wl.moveE (by conv => { lhs; whnf }) ?_ | refine Wl.nil ?_ | refine Wl.guardY rfl rfl ?_ | refine Wl.pickFE rfl (by conv => { lhs; whnf }) ?_ | refine Qseq.normal ?_ | refine Wc.seq ?_ | refine Wc.region ?_ | refine Wc.condF rfl ?_ | (refine Wl.eql rfl rfl (fun _ => ?_) (fun _ => ?_) <;> (first | (exfalso; omega) | skip))))
          refine Wl.idxStr (b := 120) rfl rfl (by omega) (by rw [Int.toNat_natCast]; exact hc) ?_
          (repeat' (first | refine Wl.moveE (by conv => { lhs; whnf }) ?_ | refine Wl.assignE (by conv => { lhs; whnf }) ?_ | refine Wl.nil ?_ | refine Qseq.normal ?_ | refine Wc.region ?_ | refine Qblk.normal ?_ | refine Wc.condT rfl ?_ | refine Wl.add rfl rfl (by omega) (by omega) ?_ | (refine Wl.eql rfl rfl (fun _ => ?_) (fun _ => ?_) <;> (first | (exfalso; contradiction) | skip))))
          exact Qloop.normal (i + 1, 0, bv, acc) ⟨rfl, rfl, rfl, rfl, trivial⟩ ⟨hlt, by dsimp only; omega, by dsimp only; omega, hg, ho, n1⟩ (by dsimp only; omega)
        have h120' : c.toNat ≠ 120 := fun e => h120 (UInt8.toNat_inj.1 e)
        rw [if_neg h120] at hg
        have hv := val_lt c
        (repeat' (first | refine Wl.moveE (by conv => { lhs; whnf }) ?_ | refine Wl.nil ?_ | refine Wl.lenStr rfl ?_ | refine Qseq.normal ?_ | refine Wc.seq ?_ | refine Wc.region ?_ | refine Wc.block ?_ | refine Wc.skip ?_ | refine Wc.condT rfl ?_ | (refine Wl.lss rfl rfl (fun _ => ?_) (fun _ => ?_) <;> (first | (exfalso; omega) | skip))))
        refine Wl.idxStr (b := c) rfl rfl (by omega) (by rw [Int.toNat_natCast]; exact hc) ?_
        (repeat' (first | refine Wl.moveE (by conv => { lhs; whnf }) ?_ | refine Wl.guardY rfl rfl ?_ | (refine Wl.eql rfl rfl (fun _ => ?_) (fun _ => ?_) <;> (first | (exfalso; omega) | skip))))
        refine Wl.idxStr (b := c) rfl rfl (by omega) (by rw [Int.toNat_natCast]; exact hc) ?_
        (repeat' (first | refine Wl.moveE (by conv => { lhs; whnf }) ?_ | refine Wl.nil ?_ | refine Wl.guardY rfl rfl ?_ | refine Wl.pickFE rfl (by conv => { lhs; whnf }) ?_ | refine Qseq.normal ?_ | refine Wc.seq ?_ | refine Wc.region ?_ | refine Wc.condF rfl ?_ | (refine Wl.eql rfl rfl (fun _ => ?_) (fun _ => ?_) <;> (first | (exfalso; omega) | skip))))
        refine Wl.idxStr (b := c) rfl rfl (by omega) (by rw [Int.toNat_natCast]; exact hc) ?_
        (repeat' (first | refine Wl.moveE (by conv => { lhs; whnf }) ?_ | refine Wl.nil ?_ | refine Qseq.normal ?_ | refine Wc.region ?_ | refine Wc.condF rfl ?_ | (refine Wl.eql rfl rfl (fun _ => ?_) (fun _ => ?_) <;> (first | (exfalso; omega) | skip))))
        refine Wl.mulW (a := 16) (b := (n : Int)) rfl rfl ?_
        (repeat' (refine Wl.moveE (by conv => { lhs; whnf }) ?_))
        refine Wl.idxStr (b := c) rfl rfl (by omega) (by rw [Int.toNat_natCast]; exact hc) ?_
        refine Wl.call value_spec rfl ?_
        rintro _ _ ⟨rfl, rfl⟩
        refine Wl.addW rfl rfl ?_
        rw [wrap_num]
        (repeat' (first | refine Wl.moveE (by conv => { lhs; whnf }) ?_ | refine Wl.assignE (by conv => { lhs; whnf }) ?_ | refine Wl.nil ?_ | refine Qseq.normal ?_ | refine Wc.region ?_ | refine Qblk.normal ?_ | refine Wl.add rfl rfl (by omega) (by omega) ?_))
        exact Qloop.normal (i + 1, (16 * n + valB c) % 18446744073709551616, bv, acc) ⟨rfl, rfl, rfl, rfl, trivial⟩ ⟨hlt, Nat.mod_lt _ (by omega), by dsimp only; omega, hg, ho, n1⟩ (by dsimp only; omega)
      have h60' : c.toNat ≠ 60 := fun e => h60 (UInt8.toNat_inj.1 e)
      by_cases h91 : c = 91
      · subst h91
        (repeat' (first | refine Wl.moveE (by conv => { lhs; whnf }) ?_ | refine Wl.assignE (by conv => { lhs; whnf }) ?_ | refine Wl.nil ?_ | refine Qseq.normal ?_ | refine Wc.seq ?_ | refine Wc.region ?_ | refine Wc.condF rfl ?_ | (refine Wl.eql rfl rfl (fun _ => ?_) (fun _ => ?_) <;> (first | (exfalso; omega) | skip))))
        refine Wl.idxStr (b := 91) rfl rfl (by omega) rfl ?_
        (repeat' (first | refine Wl.moveE (by conv => { lhs; whnf }) ?_ | refine Wl.assignE (by conv => { lhs; whnf }) ?_ | refine Wl.nil ?_ | refine Qseq.normal ?_ | refine Wc.seq ?_ | refine Wc.region ?_ | refine Wc.condF rfl ?_ | (refine Wl.eql rfl rfl (fun _ => ?_) (fun _ => ?_) <;> (first | (exfalso; omega) | skip))))
        refine Wl.idxStr (b := 91) rfl rfl (by omega) rfl ?_
        (repeat' (first | refine Wl.assignE (by conv => { lhs; whnf }) ?_ | refine Wl.nil ?_ | refine Qseq.normal ?_ | refine Wc.seq ?_ | refine Wc.region ?_ | refine Wc.block ?_ | refine Wc.condT rfl ?_ | (refine Wl.eql rfl rfl (fun _ => ?_) (fun _ => ?_) <;> (first | (exfalso; contradiction) | skip))))
        refine Wc.loop (σ := Nat × Value × List UInt8) (fun x => [(0, vs (91 :: r)), (3, x.2.1), (7, vi x.1)]) (fun x w' => x.1 ≤ (91 :: r).length + 3 ∧ x.2.2.length ≤ x.1 ∧ x.2.2.length ≤ (91 :: r).length ∧ gR r = x.2.2 ++ gR ((91 :: r).drop x.1) ∧ OwnS (one by8) 5 1 (fun b => w.heap.size ≤ b) (fun _ => False) w' x.2.1 x.2.2 ∧ New w w') (fun x => (91 :: r).length + 3 - x.1) (1, .slice none 0 0, []) ⟨rfl, rfl, rfl, trivial⟩ ⟨by omega, Nat.zero_le _, Nat.zero_le _, rfl, OwnS.nil, Chg.refl _ _⟩ ?_
        rintro ⟨i, bv, acc⟩ G w1 ⟨hi, ha, ha2, hg, ho, n1⟩
        dsimp only at hi ha ha2 hg ho
        simp only [upds]
        generalize hL : (91 :: r : List UInt8) = L at *
        have hs1 := n1.size
        rcases Nat.lt_or_ge (i + 1) L.length with hlt | hge
        rotate_left
        · have hend : gR (L.drop i) = [] := by
            rcases Nat.lt_or_ge i L.length with h | h
            · obtain ⟨c, hc⟩ := get_lt' L h
              rw [drop_cons hc, List.drop_eq_nil_of_le hge, gR.eq_def]
            · rw [List.drop_eq_nil_of_le h, gR.eq_def]
          rw [hend, List.append_nil] at hg
          (repeat' (first | refine Wl.moveE (by conv => { lhs; whnf }) ?_ | refine Wl.nil ?_ | refine Wl.lenStr rfl ?_ | refine Qseq.normal ?_ | refine Wc.seq ?_ | refine Wc.region ?_ | refine Wc.exit ?_ | refine Qseq.exit ?_ | refine Qblk.normal ?_ | refine Qblk.hit ?_ | refine Qloop.exit ?_ | refine Wc.condF rfl ?_ | refine Wl.add rfl rfl (by omega) (by omega) ?_ | (refine Wl.lss rfl rfl (fun _ => ?_) (fun _ => ?_) <;> (first | (exfalso; omega) | skip))))
          refine Wl.bytesStr (ho.rd (mono_one _)) rfl ?_
          (repeat' (first | refine Wl.assignE (by conv => { lhs; whnf }) ?_ | refine Wl.nil ?_ | refine Qseq.normal ?_ | refine Wc.ret ?_))
          refine Qfn.ret1 rfl rfl ⟨_, rfl, ?_, n1, ?_⟩
          · rw [← hL]; show vs acc = vs (gR r); rw [hg]
          · rw [← hL]; show (gR r).length ≤ _; rw [hg, hL]; omega
        obtain ⟨a, hca⟩ := get_lt' L (k := i) (by omega)
        obtain ⟨d, hcd⟩ := get_lt' L hlt
        have hva := val_lt a
        have hvd := val_lt d
        rw [drop_cons hca, drop_cons hcd, gR, List.drop_drop] at hg
        have e1 : IntKind.u64.wrap ((16 : Int) * (valB a : Nat)) = ((16 * valB a : Nat) : Int) := by rw [show (16 : Int) * (valB a : Nat) = ((16 * valB a : Nat) : Int) by omega]; exact wrap_u rfl (by omega) (by simp only [IntKind.bits]; omega)
        have e2 : IntKind.u64.wrap (((16 * valB a : Nat) : Int) + (valB d : Nat)) = ((16 * valB a + valB d : Nat) : Int) := by rw [show ((16 * valB a : Nat) : Int) + (valB d : Nat) = ((16 * valB a + valB d : Nat) : Int) by omega]; exact wrap_u rfl (by omega) (by simp only [IntKind.bits]; omega)
        have e3 : IntKind.u8.wrap ((16 * valB a + valB d : Nat) : Int) = ((UInt8.ofNat (16 * valB a + valB d)).toNat : Int) := by
          rw [IntKind.wrap_u8, UInt8.toNat_ofNat']; omega
        (repeat' (first | refine Wl.moveE (by conv => { lhs; whnf }) ?_ | refine Wl.nil ?_ | refine Wl.lenStr rfl ?_ | refine Qseq.normal ?_ | refine Wc.seq ?_ | refine Wc.region ?_ | refine Wc.block ?_ | refine Wc.skip ?_ | refine Wc.condT rfl ?_ | refine Wl.add rfl rfl (by omega) (by omega) ?_ | (refine Wl.lss rfl rfl (fun _ => ?_) (fun _ => ?_) <;> (first | (exfalso; omega) | skip))))
        refine Wc.regionT rfl (by kernel_rfl) (fun _ => True) trivial ?_
        intro w5 n5
        (repeat' (refine Wt.quiet rfl (Wq.moveE (by conv => { lhs; whnf }) (Wq.nil ?_))))
        refine Wt.quiet rfl (Wq.idxStr rfl rfl (by omega) (by rw [Int.toNat_natCast]; exact hca) (Wq.nil ?_))
        refine Wt.chain rfl (Wl.call value_spec rfl ?_)
        rintro _ _ ⟨rfl, rfl⟩
        refine Wl.nil ⟨rfl, trivial, ?_⟩
        refine Wt.quiet rfl (Wq.mulW (a := 16) (b := ((valB a : Nat) : Int)) rfl rfl (Wq.nil ?_))
        rw [e1]
        (repeat' (first | refine Wt.quiet rfl (Wq.moveE (by conv => { lhs; whnf }) (Wq.nil ?_)) | refine Wt.quiet rfl (Wq.add rfl rfl (by omega) (by omega) (Wq.nil ?_))))
        refine Wt.quiet rfl (Wq.idxStr rfl rfl (by omega) (by rw [show ((i : Int) + 1).toNat = i + 1 by omega]; exact hcd) (Wq.nil ?_))
        refine Wt.chain rfl (Wl.call value_spec rfl ?_)
        rintro _ _ ⟨rfl, rfl⟩
        refine Wl.nil ⟨rfl, trivial, ?_⟩
        refine Wt.quiet rfl (Wq.addW rfl rfl (Wq.nil ?_))
        rw [e2]
        refine Wt.quiet rfl (Wq.convI rfl (Wq.nil ?_))
        rw [e3]
        refine Wt.chain rfl (Wl.buildSlice1 (R := one by8) (y := UInt8.ofNat (16 * valB a + valB d)) (Pe := fun _ => False) goodR8 rfl rfl rfl rfl (by omega) (by omega) fun v6 w6 ho6 n6 s6 hb6 => Wl.nil ⟨rfl, trivial, ?_⟩)
        have ho46 := (ho.keepP n5.keep).keepP n6.keep
        have hs5 := n5.size
        have hs6 := n6.size
        refine Wt.chain rfl (Wl.appendAll goodR8 ho46 (ho6.rd goodR8.mo) (fun _ _ h => h) rfl rfl (by omega) (by simp only [maxLen, List.length_singleton]; omega) (by simp only [List.length_singleton]; omega) fun v7 w7 ho7 hc7 _ _ => Wl.nil ⟨rfl, trivial, ?_⟩)
        (repeat' (first | refine Wt.nil ?_ | refine Wt.quiet rfl (Wq.assignE (by conv => { lhs; whnf }) (Wq.nil ?_))))
        (repeat' (first | refine Wl.moveE (by conv => { lhs; whnf }) ?_ | refine Wl.assignE (by conv => { lhs; whnf }) ?_ | refine Wl.nil ?_ | refine Qseq.normal ?_ | refine Wc.region ?_ | refine Qblk.normal ?_ | refine Wl.add rfl rfl (by omega) (by omega) ?_))
        exact Qloop.normal (i + 3, v7, acc ++ [UInt8.ofNat (16 * valB a + valB d)]) ⟨rfl, rfl, rfl, trivial⟩ ⟨by dsimp only; omega, by simp only [List.length_append, List.length_singleton]; omega, by simp only [List.length_append, List.length_singleton]; omega, by rw [List.append_assoc]; exact hg, ho7.mono goodR8.mo (fun b _ hb => by rcases hb with hb | hb <;> omega) (fun _ _ h => h), Chg.trans (n1.trans (n5.trans n6)) hc7 fun b hb e => by have := (ho46.lt e).1; omega⟩ (by dsimp only; omega)
      have h91' : c.toNat ≠ 91 := fun e => h91 (UInt8.toNat_inj.1 e)
      (repeat' (first | refine Wl.moveE (by conv => { lhs; whnf }) ?_ | refine Wl.assignE (by conv => { lhs; whnf }) ?_ | refine Wl.nil ?_ | refine Qseq.normal ?_ | refine Wc.seq ?_ | refine Wc.region ?_ | refine Wc.condF rfl ?_ | (refine Wl.eql rfl rfl (fun _ => ?_) (fun _ => ?_) <;> (first | (exfalso; omega) | skip))))
      refine Wl.idxStr (b := c) rfl rfl (by omega) rfl ?_
      (repeat' (first | refine Wl.moveE (by conv => { lhs; whnf }) ?_ | refine Wl.assignE (by conv => { lhs; whnf }) ?_ | refine Wl.nil ?_ | refine Qseq.normal ?_ | refine Wc.seq ?_ | refine Wc.region ?_ | refine Wc.condF rfl ?_ | (refine Wl.eql rfl rfl (fun _ => ?_) (fun _ => ?_) <;> (first | (exfalso; omega) | skip))))
      refine Wl.idxStr (b := c) rfl rfl (by omega) rfl ?_
      (repeat' (first | refine Wl.moveE (by conv => { lhs; whnf }) ?_ | refine Wl.assignE (by conv => { lhs; whnf }) ?_ | refine Wl.nil ?_ | refine Qseq.normal ?_ | refine Wc.seq ?_ | refine Wc.region ?_ | refine Wc.skip ?_ | refine Qblk.normal ?_ | refine Wc.condF rfl ?_ | (refine Wl.eql rfl rfl (fun _ => ?_) (fun _ => ?_) <;> (first | (exfalso; omega) | skip))))
      refine Wl.bytesStr (RdS.nil (Pb := fun _ => True) (R := one by8) (sz := 1)) rfl ?_
      (repeat' (first | refine Wl.assignE (by conv => { lhs; whnf }) ?_ | refine Wl.nil ?_ | refine Qseq.normal ?_ | refine Wc.ret ?_))
      have hgm : guessM (c :: r) = [] := by
        unfold guessM
        split <;> simp_all
      exact Qfn.ret1 rfl rfl ⟨_, rfl, by rw [hgm]; rfl, Chg.refl _ _, by rw [hgm]; simp⟩
theorem refParse_spec {w : World} {s : List UInt8} (hl : s.length ≤ 20000000) : Calls Tryz.prog 13 #[vs s] w (Ret fun r w' => r = .tuple #[vs (parseM s).1, vi (parseM s).2] ∧ New w w') := by
  have hpg := parse_guess s
  refine calls_of_Wc Tryz.func13 rfl Tryz.ntmps13 rfl ?_
  (repeat' (first | refine Wl.moveE (by conv => { lhs; whnf }) ?_ | refine Wl.assignE (by conv => { lhs; whnf }) ?_ | refine Wl.nil ?_ | refine Qseq.normal ?_ | refine Wc.seq ?_ | refine Wc.region ?_))
  refine Wl.call (guess_spec hl) rfl ?_
  rintro _ w1 ⟨rfl, n1, hgl⟩
  (repeat' (first | refine Wl.moveE (by conv => { lhs; whnf }) ?_ | refine Wl.assignE (by conv => { lhs; whnf }) ?_ | refine Wl.nil ?_ | refine Qseq.normal ?_ | refine Wc.seq ?_ | refine Wc.region ?_))
  refine Wl.call (refShow_spec (l := guessM s) (by omega)) rfl ?_
  rintro _ w2 ⟨rfl, n2⟩
  by_cases he : showM (guessM s) = s
  · rw [if_pos he] at hpg
    rw [hpg]
    (repeat' (first | refine Wl.moveE (by conv => { lhs; whnf }) ?_ | refine Wl.assignE (by conv => { lhs; whnf }) ?_ | refine Wl.nil ?_ | refine Qseq.normal ?_ | refine Wc.seq ?_ | refine Wc.region ?_ | refine Wc.skip ?_ | refine Wc.ret ?_ | refine Wc.condF rfl ?_ | (refine Wl.sneq rfl rfl (fun _ => ?_) (fun _ => ?_) <;> (first | (exfalso; contradiction) | skip))))
    exact Qfn.ret2 rfl rfl rfl ⟨_, rfl, rfl, n1.trans n2⟩
  · rw [if_neg he] at hpg
    rw [hpg]
    (repeat' (first | refine Wl.moveE (by conv => { lhs; whnf }) ?_ | refine Wl.assignE (by conv => { lhs; whnf }) ?_ | refine Wl.nil ?_ | refine Qseq.normal ?_ | refine Wc.seq ?_ | refine Wc.region ?_ | refine Wc.ret ?_ | refine Qseq.ret ?_ | refine Wc.condT rfl ?_ | (refine Wl.sneq rfl rfl (fun _ => ?_) (fun _ => ?_) <;> (first | (exfalso; contradiction) | skip))))
    exact Qfn.ret2 rfl rfl rfl ⟨_, rfl, rfl, n1.trans n2⟩
theorem shows_law {w : World} (hD : DeB w) (hE : ErrV w) {v s : List UInt8} (hv : v.length ≤ 1048576) (hs : s.length ≤ 1048576) :
    Calls Tryz.prog 4 #[vs v, vs s] w (Ret fun r w' => r = .bool true ∧ New w w') := by
  refine calls_of_Wc Tryz.func4 rfl Tryz.ntmps4 rfl ?_
  (repeat' (first | refine Wl.moveE (by conv => { lhs; whnf }) ?_ | refine Wl.assignE (by conv => { lhs; whnf }) ?_ | refine Wl.nil ?_ | refine Qseq.normal ?_ | refine Wc.seq ?_ | refine Wc.region ?_))
  refine Wl.call (refParse_spec (s := s) (by omega)) rfl ?_
  rintro _ w1 ⟨rfl, n1⟩
  (repeat' (first | refine Wl.moveE (by conv => { lhs; whnf }) ?_ | refine Wl.assignE (by conv => { lhs; whnf }) ?_ | refine Wl.nil ?_ | refine Wl.extract rfl rfl ?_ | refine Qseq.normal ?_ | refine Wc.seq ?_ | refine Wc.region ?_))
  refine Wl.call (ParseS_spec (s := s) (hD.new n1) (hE.new n1) (by omega)) rfl ?_
  rintro _ w2 ⟨rfl, n2⟩
  have n12 := n1.trans n2
  (repeat' (first | refine Wl.moveE (by conv => { lhs; whnf }) ?_ | refine Wl.assignE (by conv => { lhs; whnf }) ?_ | refine Wl.nil ?_ | refine Wl.extract rfl rfl ?_ | refine Qseq.normal ?_ | refine Wc.seq ?_ | refine Wc.region ?_))
  refine Wl.call (Show_spec (l := v) (hD.new n12) (by omega)) rfl ?_
  rintro _ w3 ⟨rfl, n3⟩
  (repeat' (refine Wl.moveE (by conv => { lhs; whnf }) ?_))
  refine Wl.call (refShow_spec (l := v) (by omega)) rfl ?_
  rintro _ w4 ⟨rfl, n4⟩
  (repeat' (first | refine Wl.moveE (by conv => { lhs; whnf }) ?_ | refine Wl.assignE (by conv => { lhs; whnf }) ?_ | refine Wl.nil ?_ | refine Wl.guardY rfl rfl ?_ | refine Wl.pickTE rfl (by conv => { lhs; whnf }) ?_ | refine Qseq.normal ?_ | refine Wc.ret ?_ | (refine Wl.eql rfl rfl (fun _ => ?_) (fun _ => ?_) <;> (first | (exfalso; omega) | skip)) | (refine Wl.seql rfl rfl (fun _ => ?_) (fun _ => ?_) <;> (first | (exfalso; contradiction) | skip))))
  exact Qfn.ret1 rfl rfl ⟨_, rfl, rfl, n12.trans (n3.trans n4)⟩
end Go.Proofs.YthppadlcejpgbaaGreatDoor

namespace Go.Proofs.YthppadlcejpgbaaGreatDoor
open Go Wk

theorem laidVar_of {P : Program} {w : World} {n : String} {d : DataW Unit} : ∀ {l : List (String × DataW Unit)} {ps : List MemPlace}, DataW.LaidVars P w l ps → (n, d) ∈ l →
    ∃ g t cs fuel p, P.globalNamed n = some g ∧ (P.globals[g]?).map (·.type) = some t ∧ w.var? P n = some cs ∧ DataW.trod (fun _ => ()) P w 0 (fun _ => true) false fuel t cs.toList = some (d, p)
  | [], _, _, h => by cases h
  | (m, e) :: r, ps, hl, h => by
    obtain ⟨g, t, cs, fuel, p, q, h1, h2, h3, h4, h5, _⟩ := hl
    rcases List.mem_cons.1 h with h | h
    · cases h
      exact ⟨g, t, cs, fuel, p, h1, h2, h3, h4⟩
    · exact laidVar_of h5 h
theorem iface_of_trod {H : Type} {enc : TypeId × Value → H} {P : Program} {w : World} {base : Nat} {sp : Nat → Bool} {held : Bool} {fuel : Nat} {t : TypeId} {ms : Array (String × TypeId)} {cs : List Value} {nm : String} {d : DataW H} {p : List MemPlace}
    (ht : P.underlying t = some (.interface ms)) (h : DataW.trod enc P w base sp held fuel t cs = some (.iface nm d, p)) : ∃ u v, cs = [.iface u v] := by
  cases fuel with
  | zero => simp [DataW.trod] at h
  | succ fuel =>
    simp only [DataW.trod, ht] at h
    split at h <;> first | cases h | exact ⟨_, _, rfl⟩ | simp_all
theorem cell_lt {w : World} {g i : Nat} {v : Value} (h : w.cell? ⟨g, i, none⟩ = some v) : g < w.heap.size := by
  rcases Nat.lt_or_ge g w.heap.size with h1 | h1
  · exact h1
  · simp only [World.cell?] at h
    rw [Array.getElem?_eq_none h1] at h; cases h
def deB64 : List Int := [0, 1, 56, 2, 57, 49, 28, 3, 61, 58, 42, 50, 38, 29, 17, 4, 62, 47, 59, 36, 45, 43, 51, 22, 53, 39, 33, 30, 24, 18, 12, 5, 63, 55, 48, 27, 60, 41, 37, 16, 46, 35, 44, 21, 52, 32, 23, 11, 54, 26, 40, 15, 34, 20, 31, 10, 25, 14, 19, 9, 13, 8, 7, 6]
theorem deB_of {W : World} {l : List (String × DataW Unit)} (h : laidMet Tryz.prog l W) (hm : ("math/bits.deBruijn64tab", Rows.laid_math_bits_deBruijn64tab) ∈ l) : DeB W := by
  obtain ⟨ps, hl, _⟩ := h
  obtain ⟨g, t, cs, fuel, p, h1, h2, h3, h4⟩ := laidVar_of hl hm
  obtain rfl : 5 = g := Option.some.inj ((show Tryz.prog.globalNamed "math/bits.deBruijn64tab" = some 5 by kernel_rfl).symm.trans h1)
  obtain rfl : 185 = t := Option.some.inj ((show (Tryz.prog.globals[5]?).map (·.type) = some 185 by kernel_rfl).symm.trans h2)
  have hc := Lib.cells_of_tab (zs := deB64) Tryz.underlying185 Tryz.underlying5 (by kernel_rfl) (by kernel_rfl) h4
  have h5 := World.var?_cell h1 h3 15
  have h6 : cs[15]? = some (.int .u8 4) := by
    rw [← Array.getElem?_toList, hc]; rfl
  rw [h6] at h5
  exact ⟨h5, cell_lt h5⟩
theorem errV_of {W : World} {l : List (String × DataW Unit)} (h : laidMet Tryz.prog l W) (hm : ("strconv.ErrRange", Rows.laid_strconv_ErrRange) ∈ l) (hm' : ("strconv.ErrSyntax", Rows.laid_strconv_ErrSyntax) ∈ l) : ErrV W := by
  obtain ⟨ps, hl, _⟩ := h
  rintro g (rfl | rfl)
  · obtain ⟨g, t, cs, fuel, p, h1, h2, h3, h4⟩ := laidVar_of hl hm'
    obtain rfl : 2 = g := Option.some.inj ((show Tryz.prog.globalNamed "strconv.ErrSyntax" = some 2 by kernel_rfl).symm.trans h1)
    obtain rfl : 82 = t := Option.some.inj ((show (Tryz.prog.globals[2]?).map (·.type) = some 82 by kernel_rfl).symm.trans h2)
    obtain ⟨u, v, hc⟩ := iface_of_trod Tryz.underlying82 h4
    have h5 := World.var?_cell h1 h3 0
    rw [← Array.getElem?_toList, hc] at h5
    exact ⟨cell_lt h5, u, v, h5⟩
  · obtain ⟨g, t, cs, fuel, p, h1, h2, h3, h4⟩ := laidVar_of hl hm
    obtain rfl : 3 = g := Option.some.inj ((show Tryz.prog.globalNamed "strconv.ErrRange" = some 3 by kernel_rfl).symm.trans h1)
    obtain rfl : 82 = t := Option.some.inj ((show (Tryz.prog.globals[3]?).map (·.type) = some 82 by kernel_rfl).symm.trans h2)
    obtain ⟨u, v, hc⟩ := iface_of_trod Tryz.underlying82 h4
    have h5 := World.var?_cell h1 h3 0
    rw [← Array.getElem?_toList, hc] at h5
    exact ⟨cell_lt h5, u, v, h5⟩
theorem met_of {P : Program} {l : List (String × DataW Unit)} {W : World} (h0 : (l.filter fun x => x.2.handleName?.isSome) = []) (h : laidMetH P l W) : laidMet P l W := by
  unfold laidMetH at h
  rw [h0] at h; exact h
end Go.Proofs.YthppadlcejpgbaaGreatDoor

namespace Go.Proofs.YthppadlcejpgbaaGreatDoor
open Go Wk

theorem bulk_one {H : Type} (d : DataW H) : 1 ≤ Rows.uptoBulk d := by
  cases d with
  | lit l => cases l <;> simp [Rows.uptoBulk]
  | _ => simp [Rows.uptoBulk]
theorem bulk_len {H : Type} (l : List (DataW H)) : l.length ≤ Rows.uptoBulkAll l := by
  induction l with
  | nil => simp [Rows.uptoBulkAll]
  | cons x r ih => have := bulk_one x; simp only [Rows.uptoBulkAll, List.length_cons]; omega
theorem bulk_sl {α : Type} {D : Dat α} {H : Type} {xs : List α} {d : DataW H} (h : datSl D H xs d) : xs.length ≤ Rows.uptoBulk d := by
  rcases h with ⟨rfl, rfl⟩ | ⟨es, sp, rfl, hl, _⟩
  · simp
  · have := bulk_len es
    simp only [Rows.uptoBulk]
    omega
/-- A measure of the elements, added up. -/
theorem bulk_sum {α : Type} {D : Dat α} {H : Type} (μ : α → Nat) (hμ : ∀ x d, D H x d → μ x ≤ Rows.uptoBulk d) : ∀ (xs : List α) (es : List (DataW H)), es.length = xs.length → (∀ (i : Nat) (x : α), xs[i]? = some x → ∃ y, es[i]? = some y ∧ D H x y) → (xs.map μ).sum ≤ Rows.uptoBulkAll es
  | [], es, _, _ => by simp
  | x :: xs, [], h, _ => by simp at h
  | x :: xs, e :: es, h, hd => by
    obtain ⟨y, hy, hD⟩ := hd 0 x rfl
    simp at hy
    subst hy
    have ih := bulk_sum μ hμ xs es (by simpa using h) (fun i x hx => by
      obtain ⟨y, hy, hD⟩ := hd (i + 1) x (by simpa using hx)
      exact ⟨y, by simpa using hy, hD⟩)
    have := hμ x e hD
    simp only [List.map_cons, List.sum_cons, Rows.uptoBulkAll]
    omega
theorem bulk_slsum {α : Type} {D : Dat α} {H : Type} {xs : List α} {d : DataW H} (μ : α → Nat) (hμ : ∀ x d, D H x d → μ x ≤ Rows.uptoBulk d) (h : datSl D H xs d) : (xs.map μ).sum ≤ Rows.uptoBulk d := by
  rcases h with ⟨rfl, rfl⟩ | ⟨es, sp, rfl, hl, hd⟩
  · simp
  · have := bulk_sum μ hμ xs es hl hd
    simp only [Rows.uptoBulk]
    omega
theorem bulk_str {H : Type} (l : List UInt8) (d : DataW H) (h : datStr H l d) : l.length + 1 ≤ Rows.uptoBulk d := by
  obtain ⟨rfl, _⟩ := h
  simp [Rows.uptoBulk]
theorem dat_mem {α : Type} {D : Dat α} {H : Type} {xs : List α} {d : DataW H} (h : datSl D H xs d) {x : α} (hx : x ∈ xs) : ∃ y, D H x y := by
  obtain ⟨i, hi⟩ := List.mem_iff_getElem?.1 hx
  rcases h with ⟨rfl, rfl⟩ | ⟨es, sp, rfl, hl, hd⟩
  · simp at hi
  · obtain ⟨y, _, hD⟩ := hd i x hi
    exact ⟨y, hD⟩
end Go.Proofs.YthppadlcejpgbaaGreatDoor
