/-
  Texts of this claim, one behind the other: Xj, Xv, Br, Xw, X3, X4, X5, X6, Xk, Xq, Rn, Xr, X7, X8, X9, T2.
-/
import Derived.Test.YtjaendlcijmifaaDoorZc
import Derived.Lib.ParseIntB
import Derived.Lib.ParseIntBCases
import Derived.RangeFuncNested
namespace Go.Proofs.YtjaendlcijmifaaDoor
open Go Wk
open Go.RowKit (Below)
attribute [local irreducible] Go.Calls

theorem splitR_sum (c : UInt8) : ∀ l : List UInt8, ((splitR c l).map fun x => x.length + 1).sum = l.length + 1
  | [] => rfl
  | b :: l => by
    have ih := splitR_sum c l
    rw [splitR]
    split
    · rw [List.map_cons, List.sum_cons, ih]; simp; omega
    · have hne := splitR_ne c l
      revert ih hne
      generalize splitR c l = q
      intro ih hne
      cases q with
      | nil => exact absurd rfl hne
      | cons h t => simp only [List.map_cons, List.sum_cons, List.length_cons] at ih ⊢; omega
theorem sum_le_mul {m : Nat} : ∀ {l : List Nat}, (∀ x ∈ l, x ≤ m) → l.sum ≤ l.length * m
  | [], _ => by simp
  | x :: l, h => by
    have h1 := sum_le_mul (l := l) fun y hy => h y (by simp [hy])
    have h2 := h x (by simp)
    rw [List.sum_cons, List.length_cons, Nat.add_mul]; omega
theorem pathM_len {s : List UInt8} (h : pathM s = true) : s.length ≤ 1000 := by
  unfold pathM at h
  rcases Bool.or_eq_true _ _ ▸ h with h | h
  · rw [of_decide_eq_true h]; simp
  · simp only [Bool.and_eq_true, Bool.not_eq_true', List.any_eq_false, decide_eq_true_eq] at h
    obtain ⟨⟨⟨h0, h1⟩, h2⟩, h3⟩ := h
    have hs := splitR_sum 47 s
    have hle : ∀ x ∈ (splitR 47 s).map fun x => x.length + 1, x ≤ 32 := by
      intro x hx
      obtain ⟨y, hy, rfl⟩ := List.mem_map.1 hx
      obtain ⟨k, hk⟩ := List.mem_iff_getElem?.1 hy
      cases k with
      | zero =>
        rw [h0] at hk
        cases hk; simp
      | succ k =>
        have hm : y ∈ (splitR 47 s).drop 1 := List.mem_iff_getElem?.2 ⟨k, by rw [List.getElem?_drop, Nat.add_comm]; exact hk⟩
        have := h3 y hm
        cases hn : nameOk y with
        | false => rw [hn] at this; exact absurd rfl this
        | true =>
          unfold nameOk at hn
          rw [Bool.and_eq_true] at hn
          have := of_decide_eq_true hn.1
          omega
    have := sum_le_mul hle
    rw [List.length_map] at this
    have h4 : (splitR 47 s).length * 32 ≤ 16 * 32 := Nat.mul_le_mul_right _ h2
    omega
theorem goodS : GoodR (one vs) 1 := good_one _ fun _ => rfl
set_option maxHeartbeats 2000000 in
theorem Lines_spec' {w : World} {p : Value} {l : List Ev} (ht : Tb w) (hl : l.length ≤ 1000000) (hw : ∀ e ∈ l, EvW e ∧ e.pa.length ≤ 100000000) (hE : ∀ w', New w w' → Calls Tryd.prog 11 #[p] w' (Ret fun r w'' => SeqAt (fun k => w'.heap.size ≤ k) w'' r l ∧ New w' w'')) :
    Calls Tryd.prog 21 #[p] w (Ret fun r w' => OwnS (one vs) 9 1 (fun b => w.heap.size ≤ b) No w' r (l.map lineM) ∧ New w w') := by
  refine calls_of_Wd Tryd.func21 rfl Tryd.ntmps21 rfl ?_
  (repeat' (first | refine Wl.assignE (by conv => { lhs; whnf }) ?_ | refine Wl.nil ?_ | refine Wd.seq ?_ | refine Qds.normal ?_ | refine Wd.region ?_))
  refine Wl.alloc fun w1 b1 n1 s1 => ?_
  replace b1 : Bk w1 w.heap.size 50 [.slice none 0 0] := b1
  (repeat' (first | refine Wl.moveE (by conv => { lhs; whnf }) ?_ | refine Wl.nil ?_ | refine Wd.seq ?_ | refine Qds.normal ?_ | refine Wd.region ?_))
  refine Wl.call (hE w1 n1) rfl ?_
  intro f w2 hh
  obtain ⟨⟨bs, sv, rfl, hbs, hb2, hr2⟩, n2⟩ := hh
  have b2 := b1.chg n2 (fun e => e)
  have hq2 : SqR (fun k => w1.heap.size ≤ k ∧ k < w2.heap.size) bs sv l w2 := ⟨hb2, hr2.mono (mono_flat _) fun k hk e => ⟨e, hk⟩⟩
  have hbl := hb2.lt
  have n02 := n1.trans n2
  have z1 := n1.size
  have z2 := n2.size
  clear hb2 hr2 b1
  let I : Nat → World → Prop := fun k W => New w W ∧ w2.heap.size ≤ W.heap.size ∧ SqR (fun k => w1.heap.size ≤ k ∧ k < w2.heap.size) bs sv l W ∧ ∃ u, Bk W w.heap.size 50 [u] ∧ OwnS (one vs) 9 1 (fun j => w2.heap.size ≤ j) No W u ((l.take k).map lineM)
  (repeat' (first | refine Wl.nil ?_ | refine Wd.block ?_ | refine Qds.normal ?_))
  refine Wd.range (gf := 55) (lb := #[pT bs]) rfl (fun args _ => run_callFunc inferInstance args) (iter_values (Pb := fun k => w1.heap.size ≤ k ∧ k < w2.heap.size) (bs := bs) (v := sv) (l := l)) I (fun _ _ => False) ?_ ?_ ?_ ?_ ?_ ?_ ?_ ?_ ?_
  · exact fun k W h => h.2.2.1
  · rintro k W W' ⟨h1, h2, h3, u, h4, h5⟩ n
    exact ⟨h1.trans n, Nat.le_trans h2 n.size, h3.new n, u, h4.chg n (fun e => e), h5.new (plain_one _) n⟩
  · rintro k W r r' ⟨h1, h2, h3, u, h4, h5⟩ hL
    exact ⟨h1.put _ (by omega), by simpa using h2, h3.put _ (.loop hL) (by omega), u, h4.put _ (.loop hL), h5.put _ (plain_one _) (.loop hL)⟩
  · exact fun _ _ _ _ h => h.elim
  · intro r
    have n := Chg.loop (w := w2) (.deferred (some [])) (.loop r)
    exact ⟨n02.trans n, n.size, hq2.new n, _, b2.chg n (fun e => e), OwnS.nil⟩
  · rintro k W r hk ⟨h1, h2, h3, u, h4, h5⟩ hL hD
    obtain ⟨y, hy⟩ := get_lt l hk
    obtain ⟨hyw, hyl⟩ := hw y (List.mem_of_getElem? hy)
    show Wr _ _ _ _ _ (upd _ 7 (evV (l.getD k ev0))) W
    rw [getD_of hy]
    (repeat' (refine Wr.region rfl (by repeat' (first | exact Qfn.out (by rintro _ ⟨⟨_, e⟩, _⟩; cases e) | exact Qrd.out | exact Qas.out | refine Qsr.out ?_ | refine Qloop.out ?_ | refine Qsc.out ?_ | refine Qblk.out ?_)) ?_))
    refine Wl.alloc fun W1 c1 m1 t1 => ?_
    refine Wl.storeB (o := 0) (new := evC y) c1 rfl rfl rfl rfl (Nat.le_refl 6) (evC_one _) fun W2 c2 m2 t2 => ?_
    replace c2 : Bk W2 W.heap.size 36 (evC y) := c2
    have m02 : New W W2 := Chg.trans m1 m2 fun _ _ e => by omega
    (repeat' (refine Wl.nil ?_))
    refine ⟨m02, fun r' => ?_⟩
    have nL : NoC W2 (w2.heap.size + 1) := .loop ((m02.block _ (Array.getElem?_eq_some_iff.1 hL).1 id).trans hL)
    have hLt := nL.lt
    have q1 : New w (W2.putObj (w2.heap.size + 1) (.loop r')) := (h1.trans m02).put _ (by omega)
    have q3 := (h3.new m02).put (.loop r') nL (by omega)
    have q4 := (h4.chg m02 (fun e => e)).put (.loop r') nL
    have q5 := (h5.new (plain_one _) m02).put (.loop r') (plain_one _) nL
    have q6 := c2.put (.loop r') nL
    have qL : NoC (W2.putObj (w2.heap.size + 1) (.loop r')) (w2.heap.size + 1) := .loop (World.putObj_heap_same hLt)
    have qD : NoC (W2.putObj (w2.heap.size + 1) (.loop r')) w2.heap.size := .mark ((World.putObj_heap_other (by omega)).trans ((m02.block _ (Array.getElem?_eq_some_iff.1 hD).1 id).trans hD))
    have hu1 : ∀ j, u.ownBlock = some j → w2.heap.size ≤ j ∧ j < W.heap.size := fun j e => h5.lt e
    generalize W2.putObj (w2.heap.size + 1) (.loop r') = W3 at *
    clear m1 m2 c1 c2 h1 h3 h4 h5
    have zW := q1.size
    have zL := qL.lt
    have z6 := q6.lt
    obtain ⟨ua, ucp, hu0, _⟩ := q5.form
    (repeat' (refine Wr.block ?_))
    refine Wr.regionT rfl (by repeat' (first | exact Qfn.out (by rintro _ ⟨⟨_, e⟩, _⟩; cases e) | exact Qrd.out | exact Qas.out | refine Qsr.out ?_ | refine Qloop.out ?_ | refine Qsc.out ?_ | refine Qblk.out ?_)) rfl (by kernel_rfl) (fun W' => Chg (fun j => u.ownBlock = some j) W3 W') (Chg.drew _ _) ?_
    intro W4 m4
    have bk4 : ∀ W', Chg (fun j => u.ownBlock = some j) W3 W' → Bk W' w.heap.size 50 [u] := fun W' c => q4.chg c fun e => by have := hu1 _ e; omega
    skip
    refine Wt.quiet rfl (Wq.load1 rfl (fun W' c => (bk4 W' c).cell (o := 0) rfl) (Wq.nil ?_))
    refine Wt.quiet rfl (Wq.loadAt (fun W' c => (q6.chg c fun e => by have := hu1 _ e; omega).at) rfl rfl (Wq.nil ?_))
    refine Wt.chain rfl (Wl.call (line_spec (ht.new (q1.trans m4)) hyw hyl) rfl ?_)
    rintro _ W5 ⟨rfl, m5⟩
    replace m5 := m4.trans m5
    refine Wl.nil ⟨rfl, m5.any, ?_⟩
    refine Wt.chain rfl (Wl.buildSlice1 (R := one vs) (Pe := No) (y := lineM y) goodS rfl rfl rfl rfl (by omega) (by omega) fun v6 W6 o6 n6 s6 e6 => ?_)
    have m6 := m5.trans n6
    refine Wl.nil ⟨rfl, m6.any, ?_⟩
    refine Wt.chain rfl (Wl.appendAll (R := one vs) goodS (q5.new (plain_one _) m6) (o6.rd goodS.mo) (fun y cs hy => hy) rfl rfl (by omega) (by simp only [maxLen, List.length_map, List.length_take, List.length_singleton]; omega) (by simp only [List.length_map, List.length_take, List.length_singleton]; omega) fun u' W7 o7 c7 lie _ => ?_)
    rw [show (l.take k).map lineM ++ [lineM y] = (l.take (k + 1)).map lineM by rw [take_snoc' hy, List.map_append]; rfl] at o7
    have c37 : Chg (fun j => u.ownBlock = some j) W3 W7 := Chg.trans m6.any c7 fun _ _ e => e
    refine Wl.nil ⟨rfl, c37, ?_⟩
    have zm6 := m6.size
    have hu' : ∀ j, u'.ownBlock = some j → j ≠ w.heap.size := by
      intro j e
      rcases lie with lie | lie
      · rw [lie] at e; have := hu1 j e; omega
      · have := lie j e; omega
    refine Wt.last rfl (Wl.store1 (bk4 W7 c37) rfl (by simp) rfl (by obtain ⟨_, _, rfl, _⟩ := o7.form; rfl) fun W8 q8 d8 => ?_)
    have z7 := c7.size
    have z8 := d8.size
    have e38 : Chg (fun j => u.ownBlock = some j ∨ j = w.heap.size) W3 W8 := Chg.trans (c37.mono fun _ _ e => .inl e) (d8.mono fun _ _ e => .inr e) fun _ _ e => e
    (repeat' (first | refine Wl.nil ?_ | refine Qblk.normal ?_))
    refine ⟨e38.block _ qL.lt ?_, e38.block _ qD.lt ?_, Chg.trans q1 e38 fun j hj e => ?_, by omega, q3.chg e38 ?_ ?_, u', q8, ?_⟩
    · rintro (e | e)
      · exact q5.nl qL e rfl
      · omega
    · rintro (e | e)
      · exact q5.nl qD e rfl
      · omega
    · rcases e with e | e
      · have := hu1 j e; omega
      · omega
    · rintro (e | e)
      · have := hu1 _ e; omega
      · omega
    · rintro j hj (e | e)
      · have := hu1 _ e; omega
      · omega
    · exact (o7.chg (plain_one _) d8 fun j e e' => hu' j e e').mono goodS.mo (fun j _ e => by rcases e with e | e <;> omega) fun _ _ e => e
  · rintro W ⟨h1, h2, h3, u, h4, h5⟩ hD
    rw [List.take_length] at h5
    (repeat' (first | refine Wd.seq ?_ | refine Qds.normal ?_ | refine Qdb.normal ?_ | refine Wd.region ?_))
    refine Wl.load1 rfl (h4.cell (o := 0) rfl) ?_
    (repeat' (first | refine Wl.assignE (by conv => { lhs; whnf }) ?_ | refine Wl.nil ?_ | refine Qds.normal ?_ | refine Wd.ret ?_))
    refine Lv.mark (by simp) hD ?_
    have nD : NoC W w2.heap.size := .mark hD
    refine Lv.ret (v := u) (results1 rfl (rvOf_tmp rfl)) ⟨_, rfl, (h5.put _ (plain_one _) nD).mono goodS.mo (fun j _ e => by omega) (fun _ _ e => e), h1.put _ (by omega)⟩
  · exact fun _ h => h.elim
  · exact fun _ _ h => h.elim
theorem TrOk.evs {t : Tr} (h : TrOk t) : ∀ e ∈ t.kept, EvW e ∧ e.pa.length ≤ 100000000 := fun e he => by
  obtain ⟨h1, _, h3⟩ := h.ok e he
  exact ⟨h1, by have := pathM_len h3; omega⟩
def linesM (t : Tr) : List (List UInt8) := t.kept.map lineM
theorem Lines_spec {Pb : Nat → Prop} {w : World} {b : Nat} {t : Tr} (ht : Tb w) (h : Rg Pb w b t) : Calls Tryd.prog 21 #[pT b] w (Ret fun r w' => OwnS (one vs) 9 1 (fun b => w.heap.size ≤ b) No w' r (linesM t) ∧ New w w') :=
  Lines_spec' ht (by have := h.ok.len; have := h.ok.s1; omega) h.ok.evs fun w' n => Each_spec (h.new n)
theorem Lines_nil {w : World} (ht : Tb w) : Calls Tryd.prog 21 #[.pointer none] w (Ret fun r w' => OwnS (one vs) 9 1 (fun b => w.heap.size ≤ b) No w' r [] ∧ New w w') :=
  Lines_spec' (l := []) ht (by simp) (fun e he => by simp at he) fun w' n => Each_nil
theorem neqL {α : Type} {a b : List α} {x y : α} {i : Nat} (ha : a[i]? = some x) (hb : b[i]? = some y) (h : x ≠ y) : a ≠ b := by
  rintro rfl
  rw [ha] at hb
  exact h (Option.some.inj hb)
theorem take_full {α : Type} {a b : List α} {i : Nat} (hl : a.length = b.length) (hi : i = a.length) (h : a.take i = b.take i) : a = b := by
  subst hi
  rw [List.take_length, hl, List.take_length] at h; exact h
theorem take_both {α : Type} {a b : List α} {x : α} {i : Nat} (h : a.take i = b.take i) (ha : a[i]? = some x) (hb : b[i]? = some x) : a.take (i + 1) = b.take (i + 1) := by
  rw [take_snoc' ha, take_snoc' hb, h]
theorem texts_spec {Pb Pc : Nat → Prop} {w : World} {u v : Value} {a b : List (List UInt8)} (h : RdS (one vs) 1 Pb w u a) (h' : RdS (one vs) 1 Pc w v b) :
    Calls Tryd.prog 22 #[u, v] w (Ret fun r w' => r = .bool (decide (a = b)) ∧ New w w') := by
  obtain ⟨p, cp, rfl, hc1, hc2⟩ := h.form
  obtain ⟨q, cq, rfl, hd1, hd2⟩ := h'.form
  simp only [maxLen] at hc2 hd2
  refine calls_of_Wc Tryd.func22 rfl Tryd.ntmps22 rfl ?_
  (repeat' (first | refine Wl.moveE (by conv => { lhs; whnf }) ?_ | refine Wl.assignE (by conv => { lhs; whnf }) ?_ | refine Wl.nil ?_ | refine Wl.lenS rfl ?_ | refine Qseq.normal ?_ | refine Wc.seq ?_ | refine Wc.region ?_ | refine Wc.block ?_ | refine Wc.skip ?_ | refine Wc.ret ?_ | refine Qseq.ret ?_ | refine Wc.condT rfl ?_ | refine Wc.condF rfl ?_ | refine Wl.neq rfl rfl (fun _ => ?_) (fun _ => ?_)))
  · refine Qfn.ret1 rfl rfl ⟨_, rfl, ?_, Chg.refl _ _⟩
    rw [decide_eq_false (fun e => by subst e; omega)]; rfl
  · have hl : a.length = b.length := by omega
    refine Wc.loop (σ := Nat) (fun i => [(0, .slice p a.length cp), (1, .slice q b.length cq), (5, vi i)]) (fun i w' => i ≤ a.length ∧ a.take i = b.take i ∧ New w w') (fun i => a.length - i) 0 ⟨rfl, rfl, rfl, trivial⟩ ⟨Nat.zero_le _, rfl, Chg.refl _ _⟩ ?_
    rintro i G w1 ⟨hi, he, n1⟩
    simp only [upds]
    have g := h.keep (stable_one _) n1.keep
    have g' := h'.keep (stable_one _) n1.keep
    (repeat' (first | refine Wl.moveE (by conv => { lhs; whnf }) ?_ | refine Wl.assignE (by conv => { lhs; whnf }) ?_ | refine Wl.nil ?_ | refine Wl.lenS rfl ?_ | refine Qseq.normal ?_ | refine Wc.seq ?_ | refine Wc.region ?_ | refine Wc.block ?_ | refine Wc.skip ?_ | refine Wc.exit ?_ | refine Wc.ret ?_ | refine Qseq.exit ?_ | refine Qblk.hit ?_ | refine Qloop.exit ?_ | refine Wc.condT rfl ?_ | refine Wc.condF rfl ?_ | refine Wl.lss rfl rfl (fun _ => ?_) (fun _ => ?_)))
    · obtain ⟨x, hx⟩ := get_lt a (k := i) (by omega)
      obtain ⟨y, hy⟩ := get_lt b (k := i) (by omega)
      refine Wc.regionN rfl (by kernel_rfl) ?_
      (repeat' (refine Wq.moveE (by conv => { lhs; whnf }) ?_))
      refine Wq.idxAddrV g (fun w' n => n.keep) rfl rfl (by omega) (by rw [Int.toNat_natCast]; exact hx) fun bb o hc => ?_
      refine Wq.load1 rfl hc ?_
      (repeat' (refine Wq.moveE (by conv => { lhs; whnf }) ?_))
      refine Wq.idxAddrV g' (fun w' n => n.keep) rfl rfl (by omega) (by rw [Int.toNat_natCast]; exact hy) fun bb' o' hc' => ?_
      refine Wq.load1 rfl hc' ?_
      (repeat' (first | refine Wq.nil ?_ | refine Wq.sneq rfl rfl (fun _ => ?_) (fun _ => ?_)))
      · intro w2 n2
        have hne : x ≠ y := by assumption
        (repeat' (first | refine Wl.assignE (by conv => { lhs; whnf }) ?_ | refine Wl.nil ?_ | refine Qseq.normal ?_ | refine Wc.seq ?_ | refine Wc.region ?_ | refine Wc.ret ?_ | refine Qseq.ret ?_ | refine Qblk.ret ?_ | refine Qloop.ret ?_ | refine Wc.condT rfl ?_))
        refine Qfn.ret1 rfl rfl ⟨_, rfl, ?_, n1.trans n2⟩
        rw [decide_eq_false (neqL hx hy hne)]; rfl
      · intro w2 n2
        have hxy : x = y := by assumption
        subst hxy
        (repeat' (first | refine Wl.moveE (by conv => { lhs; whnf }) ?_ | refine Wl.assignE (by conv => { lhs; whnf }) ?_ | refine Wl.nil ?_ | refine Qseq.normal ?_ | refine Wc.region ?_ | refine Wc.skip ?_ | refine Qblk.normal ?_ | refine Wc.condF rfl ?_ | refine Wl.add rfl rfl (by omega) (by omega) ?_))
        exact Qloop.normal (i + 1) ⟨rfl, rfl, rfl, trivial⟩ ⟨by omega, take_both he hx hy, n1.trans n2⟩ (by omega)
    · refine Qfn.ret1 rfl rfl ⟨_, rfl, ?_, n1⟩
      rw [decide_eq_true (take_full hl (by omega) he)]; rfl
end Go.Proofs.YtjaendlcijmifaaDoor

namespace Go.Proofs.YtjaendlcijmifaaDoor
open Go Wk
open Go.RowKit (Below)

theorem pu_snoc {M : Nat} (c : UInt8) : ∀ (l : List UInt8) (acc a : Nat), Lib.parseUintM M acc l = .ok a → Lib.parseUintM M acc (l ++ [c]) = Lib.parseUintM M a [c]
  | [], acc, a, h => by
    rw [Lib.parseUintM] at h
    cases h; rfl
  | d :: l, acc, a, h => by
    rw [Lib.parseUintM] at h
    rw [List.cons_append, Lib.parseUintM]
    split at h
    · rename_i h1
      rw [if_pos h1]
      split at h
      · cases h
      · rename_i h2
        rw [if_neg h2]
        split at h
        · cases h
        · rename_i h3
          rw [if_neg h3]
          exact pu_snoc c l _ a h
    · cases h
theorem dig_nat {k : Nat} (h : k < 10) : (UInt8.ofNat (48 + k)).toNat = 48 + k := by rw [UInt8.toNat_ofNat']; omega
theorem pu_digit {a k : Nat} (hk : k < 10) (h : a * 10 + k < 18446744073709551616) : Lib.parseUintM 18446744073709551615 a [UInt8.ofNat (48 + k)] = .ok (a * 10 + k) := by
  rw [Lib.parseUintM, dig_nat hk, if_pos (by omega), if_neg (by omega), if_neg (by omega), Lib.parseUintM]
  congr 1; omega
theorem dec_step {n : Nat} (h : ¬ n < 10) : decN n = decN (n / 10) ++ [UInt8.ofNat (48 + n % 10)] := by
  show Lib.decDigits n = Lib.decDigits (n / 10) ++ _
  rw [Lib.decDigits, dif_neg h]
theorem dec_one {n : Nat} (h : n < 10) : decN n = [UInt8.ofNat (48 + n)] := Lib.decDigits_one h
theorem pu_dec : ∀ (f n : Nat), n ≤ f → n < 18446744073709551616 → Lib.parseUintM 18446744073709551615 0 (decN n) = .ok n
  | 0, n, hf, h => by
    obtain rfl : n = 0 := by omega
    rw [dec_one (by omega)]
    exact pu_digit (a := 0) (k := 0) (by omega) (by omega)
  | f + 1, n, hf, h => by
    by_cases h10 : n < 10
    · rw [dec_one h10, pu_digit h10 (by omega)]; congr 1; omega
    · rw [dec_step h10, pu_snoc _ _ _ _ (pu_dec f (n / 10) (by omega) (by omega)), pu_digit (by omega) (by omega)]
      congr 1; omega
theorem dec_dig : ∀ (f n : Nat), n ≤ f → decN n ≠ [] ∧ ∀ b ∈ decN n, 48 ≤ b.toNat ∧ b.toNat ≤ 57
  | 0, n, hf => by
    obtain rfl : n = 0 := by omega
    rw [dec_one (by omega)]
    exact ⟨by simp, fun b hb => by rw [List.mem_singleton.1 hb, dig_nat (by omega)]; omega⟩
  | f + 1, n, hf => by
    by_cases h10 : n < 10
    · rw [dec_one h10]
      exact ⟨by simp, fun b hb => by rw [List.mem_singleton.1 hb, dig_nat h10]; omega⟩
    · rw [dec_step h10]
      refine ⟨by simp, fun b hb => ?_⟩
      rcases List.mem_append.1 hb with hb | hb
      · exact (dec_dig f (n / 10) (by omega)).2 b hb
      · rw [List.mem_singleton.1 hb, dig_nat (by omega)]; omega
theorem parseU {n : Nat} (h : n < 18446744073709551616) : Lib.parseUintB 64 (decN n) = .ok n := by
  unfold Lib.parseUintB
  rw [if_neg (dec_dig n n (Nat.le_refl _)).1]
  exact pu_dec n n (Nat.le_refl _) h
theorem decI_pos (n : Nat) : decI (n : Int) = decN n := Lib.itoa_nonneg n
theorem decI_neg {n : Nat} (h : 1 ≤ n) : decI (-(n : Int)) = 45 :: decN n := Lib.itoa_neg n h
theorem parseI {x : Int} (h0 : -9223372036854775808 ≤ x) (h1 : x ≤ 9223372036854775807) : Lib.parseIntB 64 (decI x) = .ok x := by
  rcases Int.lt_or_le x 0 with hx | hx
  · obtain ⟨n, rfl⟩ : ∃ n : Nat, x = -(n : Int) := ⟨x.natAbs, by omega⟩
    rw [decI_neg (by omega)]
    unfold Lib.parseIntB
    dsimp only
    rw [if_pos (by decide), parseU (by omega)]
    dsimp only
    rw [if_neg (by simp), if_neg (by simp; omega), if_pos (show UInt8.toNat 45 = 45 by decide)]
  · obtain ⟨n, rfl⟩ : ∃ n : Nat, x = (n : Int) := ⟨x.natAbs, by omega⟩
    rw [decI_pos]
    obtain ⟨hne, hd⟩ := dec_dig n n (Nat.le_refl _)
    have hp := parseU (n := n) (by omega)
    cases hl : decN n with
    | nil => exact absurd hl hne
    | cons c r =>
      have hc := hd c (by rw [hl]; simp)
      rw [hl] at hp
      unfold Lib.parseIntB
      dsimp only
      rw [if_neg (by omega), hp]
      dsimp only
      rw [if_neg (by simp; omega), if_neg (by simp; omega), if_neg (by omega)]
theorem decN_inj {m n : Nat} (hm : m < 18446744073709551616) (hn : n < 18446744073709551616) (h : decN m = decN n) : m = n := by
  have h1 := parseU hm
  rw [h, parseU hn] at h1
  cases h1; rfl
theorem decI_inj {x y : Int} (hx0 : -9223372036854775808 ≤ x) (hx1 : x ≤ 9223372036854775807) (hy0 : -9223372036854775808 ≤ y) (hy1 : y ≤ 9223372036854775807) (h : decI x = decI y) : x = y := by
  have h1 := parseI hx0 hx1
  rw [h, parseI hy0 hy1] at h1
  cases h1; rfl
theorem decN_32 (n : Nat) : ∀ b ∈ decN n, b ≠ 32 := fun b hb e => by
  have := (dec_dig n n (Nat.le_refl _)).2 b hb
  subst e
  simp at this
theorem decI_32 (x : Int) : ∀ b ∈ decI x, b ≠ 32 := by
  rcases Int.lt_or_le x 0 with hx | hx
  · obtain ⟨n, rfl⟩ : ∃ n : Nat, x = -(n : Int) := ⟨x.natAbs, by omega⟩
    rw [decI_neg (by omega)]
    intro b hb
    rcases List.mem_cons.1 hb with rfl | hb
    · decide
    · exact decN_32 n b hb
  · obtain ⟨n, rfl⟩ : ∃ n : Nat, x = (n : Int) := ⟨x.natAbs, by omega⟩
    rw [decI_pos]; exact decN_32 n
theorem nameK_32 (k : Nat) : ∀ b ∈ nameK k, b ≠ 32 := by
  rcases Nat.lt_or_ge k 10 with h | h
  · have : ∀ k : Fin 10, ∀ b ∈ nameK k.val, b ≠ 32 := by decide
    exact this ⟨k, h⟩
  · rw [nameK_big h]; intro b hb; simp at hb
theorem mem_splitR {c b : UInt8} : ∀ {l : List UInt8}, b ∈ l → b = c ∨ ∃ p ∈ splitR c l, b ∈ p
  | [], h => by simp at h
  | d :: l, h => by
    rw [splitR]
    by_cases hd : d = c
    · rw [if_pos hd]
      rcases List.mem_cons.1 h with rfl | h
      · exact .inl hd
      · rcases mem_splitR h with h | ⟨p, hp, hb⟩
        · exact .inl h
        · exact .inr ⟨p, List.mem_cons_of_mem _ hp, hb⟩
    · rw [if_neg hd]
      have hne := splitR_ne c l
      have ih := fun h => mem_splitR (c := c) (b := b) (l := l) h
      generalize splitR c l = q at hne ih
      cases q with
      | nil => exact absurd rfl hne
      | cons a r =>
        rcases List.mem_cons.1 h with rfl | h
        · exact .inr ⟨_, List.mem_cons_self, List.mem_cons_self⟩
        · rcases ih h with h | ⟨p, hp, hb⟩
          · exact .inl h
          · rcases List.mem_cons.1 hp with rfl | hp
            · exact .inr ⟨_, List.mem_cons_self, List.mem_cons_of_mem _ hb⟩
            · exact .inr ⟨p, List.mem_cons_of_mem _ hp, hb⟩
theorem path_32 {s : List UInt8} (h : pathM s = true) : ∀ b ∈ s, b ≠ 32 := by
  rintro b hb rfl
  unfold pathM at h
  rcases Bool.or_eq_true _ _ ▸ h with h | h
  · rw [of_decide_eq_true h] at hb; simp at hb
  · simp only [Bool.and_eq_true, Bool.not_eq_true', List.any_eq_false, decide_eq_true_eq] at h
    obtain ⟨⟨⟨h0, h1⟩, h2⟩, h3⟩ := h
    rcases mem_splitR (c := 47) hb with h | ⟨p, hp, hbp⟩
    · cases h
    · obtain ⟨k, hk⟩ := List.mem_iff_getElem?.1 hp
      cases k with
      | zero => rw [h0] at hk; cases hk; simp at hbp
      | succ k =>
        have hm : p ∈ (splitR 47 s).drop 1 := List.mem_iff_getElem?.2 ⟨k, by rw [List.getElem?_drop, Nat.add_comm]; exact hk⟩
        have := h3 p hm
        cases hn : nameOk p with
        | false => rw [hn] at this; exact absurd rfl this
        | true =>
          unfold nameOk at hn
          rw [Bool.and_eq_true] at hn
          have h4 := List.all_eq_true.1 hn.2 32 hbp
          rw [signs_eq] at h4
          revert h4; decide
/-- An event that a line may tell. -/
structure EvL (x : Ev) : Prop where
  w : EvW x
  k : nameK x.kd ≠ []
  p : pathM x.pa = true
  i0 : 0 < x.id
  i1 : x.id ≤ 4611686018427387904
  c : x.ca < x.id
def piecesM (x : Ev) : List (List UInt8) := [decN x.id, decI x.tm, nameK x.kd, x.pa, decI x.ar] ++ if x.ca = 0 then [] else [[98, 121], decN x.ca]
theorem split_line {x : Ev} (h : EvL x) : splitR 32 (lineM x) = piecesM x := by
  have e : lineM x = decN x.id ++ 32 :: (decI x.tm ++ 32 :: (nameK x.kd ++ 32 :: (x.pa ++ 32 :: (decI x.ar ++ if x.ca = 0 then [] else 32 :: ([98, 121] ++ 32 :: decN x.ca))))) := by
    unfold lineM lineH
    split <;> simp
  rw [e, splitR_at (decN_32 _), splitR_at (decI_32 _), splitR_at (nameK_32 _), splitR_at (path_32 h.p)]
  unfold piecesM
  split
  · rw [List.append_nil, splitR_free (decI_32 _)]; rfl
  · rw [splitR_at (decI_32 _), splitR_at (by decide), splitR_free (decN_32 _)]; rfl
theorem line_inj {x y : Ev} (hx : EvL x) (hy : EvL y) (h : lineM x = lineM y) : x = y := by
  have h1 := split_line hx
  rw [h, split_line hy] at h1
  unfold piecesM at h1
  have hi : y.id = x.id := decN_inj hy.w.id hx.w.id (by injection h1)
  have ht : y.tm = x.tm := decI_inj hy.w.t0 hy.w.t1 hx.w.t0 hx.w.t1 (by injection h1 with _ h1; injection h1)
  have hk : y.kd = x.kd := nameK_inj hy.k (by injection h1 with _ h1; injection h1 with _ h1; injection h1)
  have hp : y.pa = x.pa := by injection h1 with _ h1; injection h1 with _ h1; injection h1 with _ h1; injection h1
  have ha : y.ar = x.ar := decI_inj hy.w.a0 hy.w.a1 hx.w.a0 hx.w.a1 (by injection h1 with _ h1; injection h1 with _ h1; injection h1 with _ h1; injection h1 with _ h1; injection h1)
  have hc : y.ca = x.ca := by
    have h2 : (if y.ca = 0 then ([] : List (List UInt8)) else [[98, 121], decN y.ca]) = if x.ca = 0 then [] else [[98, 121], decN x.ca] := by
      injection h1 with _ h1; injection h1 with _ h1; injection h1 with _ h1; injection h1 with _ h1; injection h1
    by_cases h3 : y.ca = 0 <;> by_cases h4 : x.ca = 0
    · omega
    · rw [if_pos h3, if_neg h4] at h2; cases h2
    · rw [if_neg h3, if_pos h4] at h2; cases h2
    · rw [if_neg h3, if_neg h4] at h2
      exact decN_inj hy.w.ca hx.w.ca (by injection h2 with _ h2; injection h2)
  cases x; cases y
  simp_all
end Go.Proofs.YtjaendlcijmifaaDoor

namespace Go.Proofs.YtjaendlcijmifaaDoor.Wk
open Go Go.RowKit

def boundL (ops : Array Oper) (j : Nat) : List Nat := match ops[j]? with | some o => (o.after.toList.filter (Region.binds .any)).map (·.on) | none => []
def availB (ops : Array Oper) (l : List Nat) (j : Nat) : Bool := (boundL ops j).all fun k => !l.contains k
def nextQ (ops : Array Oper) (l : List Nat) : Option Nat := l.find? fun i => isQ ops i && availB ops l i
def okPairG (ops : Array Oper) (i j : Nat) : Bool := (boundL ops j).contains i || (match ops[i]?, ops[j]? with | some oi, some oj => oi.apart ops oj && oj.apart ops oi | _, _ => false)
def okG (ops : Array Oper) : Bool :=
  Region.noSelect ops && (List.range ops.size).all (fun j => (List.range j).all fun i => okPairG ops i j) && (List.range ops.size).all (fun j => (boundL ops j).all fun k => decide (k < j))
def out (j : Nat) (l : List Nat) : List Nat := l.filter fun k => k != j
section
variable {P : Program} {ops : Array Oper} {C : World → Prop} {Q : Exit → Act → World → Prop}
def TG (P : Program) (ops : Array Oper) (C : World → Prop) (Q : Exit → Act → World → Prop) : Nat → List Nat → Act → World → Prop
  | 0, _, a, w => Q .normal a w
  | f + 1, l, a, w => match nextQ ops l with
    | some q => ∃ o v, ops[q]? = some o ∧ YieldsIn P ops C o v a ∧ TG P ops C Q f (out q l) (a.put o.dst v) w
    | none => ∀ j ∈ l, availB ops l j = true → if j + 1 = ops.size then wpOp P ops Q j (fun a' w' => Q .normal a' w') a w else wpOp P ops QF j (fun a' w' => C w' ∧ TG P ops C Q f (out j l) a' w') a w
theorem out_comm (i j : Nat) (l : List Nat) : out i (out j l) = out j (out i l) := by
  unfold out; rw [List.filter_filter, List.filter_filter]; congr 1; funext k; rw [Bool.and_comm]
theorem mem_out {i j : Nat} {l : List Nat} : i ∈ out j l ↔ i ∈ l ∧ i ≠ j := by unfold out; rw [List.mem_filter]; simp
theorem avail_out {i j : Nat} {l : List Nat} (h : availB ops l i = true) : availB ops (out j l) i = true := by
  unfold availB at h ⊢
  rw [List.all_eq_true] at h ⊢
  intro k hk
  have := h k hk
  simp only [Bool.not_eq_true', Bool.eq_false_iff, ne_eq, List.contains_iff_mem] at this ⊢
  exact fun e => this (mem_out.1 e).1
theorem out_len {j : Nat} {l : List Nat} (hn : l.Nodup) (hj : j ∈ l) : (out j l).length + 1 = l.length := by
  have : out j l = l.erase j := by unfold out; rw [hn.erase_eq_filter]
  rw [this, List.length_erase_of_mem hj]
  have := List.length_pos_of_mem hj
  omega
/-- Two that may both come up now stand apart. -/
structure Ap (ops : Array Oper) (i j : Nat) (oi oj : Oper) : Prop where
  ij : oi.apart ops oj = true
  ji : oj.apart ops oi = true
  si : ∀ cs b, oi.op ≠ .select cs b
  sj : ∀ cs b, oj.op ≠ .select cs b
theorem apart_of (hok : okG ops = true) {l : List Nat} {i j : Nat} {oi oj : Oper} (hi : ops[i]? = some oi) (hj : ops[j]? = some oj) (hil : i ∈ l) (hjl : j ∈ l) (ai : availB ops l i = true) (aj : availB ops l j = true) (hne : i ≠ j) : Ap ops i j oi oj := by
  simp only [okG, Bool.and_eq_true] at hok
  obtain ⟨⟨hns, hpair⟩, _⟩ := hok
  have hsel := Region.noSelect_spec hns
  have his := (Array.getElem?_eq_some_iff.1 hi).1
  have hjs := (Array.getElem?_eq_some_iff.1 hj).1
  have key : ∀ {i j : Nat} {oi oj : Oper}, ops[i]? = some oi → ops[j]? = some oj → i ∈ l → availB ops l j = true → i < j → oi.apart ops oj = true ∧ oj.apart ops oi = true := by
    intro i j oi oj hi hj hil aj hij
    have hjs := (Array.getElem?_eq_some_iff.1 hj).1
    have h3 := List.all_eq_true.1 (List.all_eq_true.1 hpair j (List.mem_range.2 hjs)) i (List.mem_range.2 hij)
    unfold okPairG at h3
    simp only [hi, hj, Bool.or_eq_true, Bool.and_eq_true] at h3
    rcases h3 with h3 | h3
    · exfalso
      have := List.all_eq_true.1 aj i (by simpa using h3)
      rw [List.contains_iff_mem.2 hil] at this
      cases this
    · exact h3
  have sel : ∀ {i : Nat} {o : Oper}, ops[i]? = some o → ∀ cs b, o.op ≠ .select cs b := fun h cs b => hsel _ _ cs b h
  rcases Nat.lt_or_ge i j with h | h
  · have := key hi hj hil aj h; exact ⟨this.1, this.2, sel hi, sel hj⟩
  · have := key hj hi hjl ai (by omega); exact ⟨this.2, this.1, sel hi, sel hj⟩
/-- What only reads and may come up now may be taken now, or had been. -/
theorem TG_quiet (hok : okG ops = true) : ∀ (f : Nat) (q : Nat) (oq : Oper), ops[q]? = some oq → isQ ops q = true → ∀ (l : List Nat) (a : Act) (w : World), l.length = f + 1 → l.Nodup → (∀ i ∈ l, i < ops.size) → q ∈ l → availB ops l q = true →
    (TG P ops C Q (f + 1) l a w ↔ ∃ v, YieldsIn P ops C oq v a ∧ TG P ops C Q f (out q l) (a.put oq.dst v) w) := by
  intro f
  induction f with
  | zero =>
    intro q oq hq hqq l a w hl hn hlt hm ha
    obtain ⟨x, rfl⟩ : ∃ x, l = [x] := by cases l with | nil => cases hl | cons x r => cases r with | nil => exact ⟨x, rfl⟩ | cons y s => simp at hl
    obtain rfl : q = x := by simpa using hm
    have hnq : nextQ ops [q] = some q := by simp [nextQ, hqq, ha]
    rw [TG, hnq]
    simp only [hq, Option.some.injEq]
    exact ⟨fun ⟨o, v, e, h⟩ => by cases e; exact ⟨v, h⟩, fun ⟨v, h⟩ => ⟨oq, v, rfl, h⟩⟩
  | succ f ih =>
    intro q oq hq hqq l a w hl hn hlt hm ha
    rw [TG]
    cases hnq : nextQ ops l with
    | none =>
      exfalso
      have := List.find?_eq_none.1 hnq q hm
      simp [hqq, ha] at this
    | some r =>
      have hr := List.find?_some hnq
      have hrm := List.mem_of_find?_eq_some hnq
      simp only [Bool.and_eq_true] at hr
      dsimp only
      by_cases hrq : r = q
      · subst hrq
        simp only [hq, Option.some.injEq]
        exact ⟨fun ⟨o, v, e, h⟩ => by cases e; exact ⟨v, h⟩, fun ⟨v, h⟩ => ⟨oq, v, rfl, h⟩⟩
      · obtain ⟨or', hor⟩ : ∃ o, ops[r]? = some o := ⟨ops[r]'(hlt r hrm), Array.getElem?_eq_getElem (hlt r hrm)⟩
        have ap := apart_of hok hor hq hrm hm hr.2 ha hrq
        have hne := (Oper.apart_spec ap.ij).2.1
        have lr := out_len hn hrm
        have lq := out_len hn hm
        have nr : (out r l).Nodup := hn.filter _
        have nq : (out q l).Nodup := hn.filter _
        have e1 := fun a' => ih q oq hq hqq (out r l) a' w (by omega) nr (fun i hi => hlt i (mem_out.1 hi).1) (mem_out.2 ⟨hm, fun e => hrq e.symm⟩) (avail_out ha)
        have e2 := fun a' => ih r or' hor hr.1 (out q l) a' w (by omega) nq (fun i hi => hlt i (mem_out.1 hi).1) (mem_out.2 ⟨hrm, hrq⟩) (avail_out hr.2)
        constructor
        · rintro ⟨o, vr, eo, hy, ht⟩
          rw [hor] at eo
          cases eo
          obtain ⟨vq, hyq, ht2⟩ := (e1 _).1 ht
          refine ⟨vq, (yields_unput ap.ij ap.sj).1 hyq, (e2 _).2 ⟨vr, (yields_unput ap.ji ap.si).2 hy, ?_⟩⟩
          rw [out_comm, ← Act.put_comm a vr vq hne]
          exact ht2
        · rintro ⟨vq, hyq, ht⟩
          obtain ⟨vr, hyr, ht2⟩ := (e2 _).1 ht
          refine ⟨or', vr, hor, (yields_unput ap.ji ap.si).1 hyr, (e1 _).2 ⟨vq, (yields_unput ap.ij ap.sj).2 hyq, ?_⟩⟩
          rw [out_comm, Act.put_comm a vr vq hne]
          exact ht2
/-- Another operation that may come up now may be taken first. -/
theorem TG_chain (hok : okG ops = true) {j : Nat} {oj : Oper} (hj : ops[j]? = some oj) (hjq : isQ ops j = false) (hjl : j + 1 ≠ ops.size) : ∀ (f : Nat) (l : List Nat) (a : Act) (w : World), l.length = f + 1 → l.Nodup → (∀ i ∈ l, i < ops.size) → j ∈ l → availB ops l j = true →
    TG P ops C Q (f + 1) l a w → wpOp P ops QF j (fun a' w' => C w' ∧ TG P ops C Q f (out j l) a' w') a w := by
  intro f
  induction f with
  | zero =>
    intro l a w hl hn hlt hm ha h
    obtain ⟨x, rfl⟩ : ∃ x, l = [x] := by cases l with | nil => cases hl | cons x r => cases r with | nil => exact ⟨x, rfl⟩ | cons y s => simp at hl
    obtain rfl : j = x := by simpa using hm
    have hnq : nextQ ops [j] = none := by simp [nextQ, hjq]
    rw [TG, hnq] at h
    have := h j (by simp) ha
    rwa [if_neg hjl] at this
  | succ f ih =>
    intro l a w hl hn hlt hm ha h
    have h0 := h
    rw [TG] at h
    cases hnq : nextQ ops l with
    | none =>
      rw [hnq] at h
      have := h j hm ha
      rwa [if_neg hjl] at this
    | some r =>
      have hr := List.find?_some hnq
      have hrm := List.mem_of_find?_eq_some hnq
      simp only [Bool.and_eq_true] at hr
      obtain ⟨or', hor⟩ : ∃ o, ops[r]? = some o := ⟨ops[r]'(hlt r hrm), Array.getElem?_eq_getElem (hlt r hrm)⟩
      have hrj : r ≠ j := fun e => by rw [e, hjq] at hr; cases hr.1
      have ap := apart_of hok hor hj hrm hm hr.2 ha hrj
      have lr := out_len hn hrm
      have lj := out_len hn hm
      have nr : (out r l).Nodup := hn.filter _
      have nj : (out j l).Nodup := hn.filter _
      obtain ⟨v, hy, ht⟩ := (TG_quiet hok (f + 1) r or' hor hr.1 l a w hl hn hlt hrm hr.2).1 h0
      have hw := ih (out r l) _ w (by omega) nr (fun i hi => hlt i (mem_out.1 hi).1) (mem_out.2 ⟨hm, fun e => hrj e.symm⟩) (avail_out ha) ht
      refine wpOp_mono (fun a' w' h' => ?_) (wpOp_put hj ap.ij ap.si ap.sj hy hw)
      obtain ⟨hy', hC', ht'⟩ := h'
      refine ⟨hC', (TG_quiet hok f r or' hor hr.1 (out j l) a' w' (by omega) nj (fun i hi => hlt i (mem_out.1 hi).1) (mem_out.2 ⟨hrm, hrj⟩) (avail_out hr.2)).2 ⟨v, hy', ?_⟩⟩
      rw [out_comm]; exact ht'
def okGL (ops : Array Oper) : Bool := okG ops && (isQ ops (ops.size - 1) || (List.range ops.size).all fun k => (ahead ops ops.size [ops.size - 1]).contains k)
theorem wpAny_of_TG (hok2 : okGL ops = true) : ∀ (fuel : Nat) (listed : Array Bool) (a : Act) (w : World), listed.size = ops.size → (left ops listed).length = fuel → Clos ops listed → (fuel ≠ 0 → C w) → TG P ops C Q fuel (left ops listed) a w → wpAny P .any ops Q fuel listed a w := by
  have hok : okG ops = true := by unfold okGL at hok2; simp only [Bool.and_eq_true] at hok2; exact hok2.1
  have hlast : (isQ ops (ops.size - 1) || (List.range ops.size).all fun k => (ahead ops ops.size [ops.size - 1]).contains k) = true := by unfold okGL at hok2; simp only [Bool.and_eq_true] at hok2; exact hok2.2
  have hdown : ∀ (j : Nat) (o : Oper), ops[j]? = some o → ∀ e ∈ o.after, Region.binds .any e = true → e.on < j := by
    intro j o ho e he hb
    have := hok
    simp only [okG, Bool.and_eq_true] at this
    have h3 := List.all_eq_true.1 this.2 j (List.mem_range.2 (Array.getElem?_eq_some_iff.1 ho).1)
    have hm : e.on ∈ boundL ops j := by
      unfold boundL; rw [ho]
      exact List.mem_map.2 ⟨e, List.mem_filter.2 ⟨by simpa using he, hb⟩, rfl⟩
    exact of_decide_eq_true (List.all_eq_true.1 h3 _ hm)
  have rdy : ∀ listed : Array Bool, listed.size = ops.size → ∀ i, i ∈ Region.ready .any ops listed → i ∈ left ops listed ∧ availB ops (left ops listed) i = true := by
    intro listed hs i hi
    obtain ⟨h0, o, ho, hall⟩ := mem_ready.1 hi
    refine ⟨?_, ?_⟩
    · unfold left
      rw [List.mem_filter, List.mem_range]
      exact ⟨(Array.getElem?_eq_some_iff.1 ho).1, by simp [h0]⟩
    · unfold availB boundL
      rw [ho, List.all_eq_true]
      intro k hk
      obtain ⟨e, he, rfl⟩ := List.mem_map.1 hk
      rw [List.mem_filter] at he
      have h1 := hall e (by simpa using he.1) he.2
      simp only [Bool.not_eq_true', Bool.eq_false_iff, ne_eq, List.contains_iff_mem]
      intro hm
      unfold left at hm
      rw [List.mem_filter, List.mem_range] at hm
      have hlt : e.on < listed.size := by rw [hs]; exact hm.1
      have h2 := hm.2
      simp [Array.getD_eq_getD_getElem?, Array.getElem?_eq_getElem hlt] at h1 h2
      rw [h1] at h2; cases h2
  intro fuel
  induction fuel with
  | zero =>
    intro listed a w hs hl hcl hC h
    have hnil : left ops listed = [] := List.eq_nil_of_length_eq_zero hl
    refine ⟨?_, h⟩
    rw [List.eq_nil_iff_forall_not_mem]
    intro i hi
    have := (rdy listed hs i hi).1
    rw [hnil] at this
    cases this
  | succ fuel ih =>
    intro listed a w hs hl hcl hC h
    replace hC := hC (by simp)
    have hnd : (left ops listed).Nodup := List.Nodup.sublist List.filter_sublist List.nodup_range
    have hunl : ∀ i ∈ left ops listed, i < ops.size ∧ listed.getD i true = false := fun i hi => by
      unfold left at hi
      rw [List.mem_filter, List.mem_range] at hi
      exact ⟨hi.1, by simpa using hi.2⟩
    refine ⟨fun h0 => ?_, fun j hj => ?_⟩
    · exfalso
      cases hL : left ops listed with
      | nil => rw [hL] at hl; cases hl
      | cons i l =>
        have hmem : i ∈ left ops listed := by rw [hL]; simp
        obtain ⟨his, hun⟩ := hunl i hmem
        have hall : ∀ k, k < i → listed.getD k false = true := by
          intro k hk
          have hks : k < ops.size := by omega
          cases hb : listed.getD k true with
          | true => simpa [Array.getD_eq_getD_getElem?, hs, hks] using hb
          | false =>
            have hkm : k ∈ left ops listed := by unfold left; rw [List.mem_filter, List.mem_range]; exact ⟨hks, by simp [hb]⟩
            have hsort : (left ops listed).Pairwise (· < ·) := List.Pairwise.sublist List.filter_sublist List.pairwise_lt_range
            rw [hL] at hkm hsort
            rcases List.mem_cons.1 hkm with e | e
            · omega
            · have := (List.pairwise_cons.1 hsort).1 k e; omega
        have : i ∈ Region.ready .any ops listed := mem_ready.2 ⟨hun, ops[i], Array.getElem?_eq_getElem his, fun e he hb => hall e.on (hdown i _ (Array.getElem?_eq_getElem his) e he hb)⟩
        rw [h0] at this
        cases this
    · obtain ⟨hjm, hja⟩ := rdy listed hs j hj
      have hjs := (hunl j hjm).1
      have hoj : ops[j]? = some ops[j] := Array.getElem?_eq_getElem hjs
      have hset : left ops (listed.setIfInBounds j true) = out j (left ops listed) := left_set hs hjs
      have hlen := out_len hnd hjm
      have hcl' := hcl.set hj
      have hlen' : (left ops (listed.setIfInBounds j true)).length = fuel := by rw [hset]; omega
      cases hjq : isQ ops j with
      | true =>
        obtain ⟨v, hy, ht⟩ := (TG_quiet hok fuel j _ hoj hjq (left ops listed) a w hl hnd (fun i hi => (hunl i hi).1) hjm hja).1 h
        have hrj : readB ops[j].op = true := by unfold isQ at hjq; rw [hoj] at hjq; exact hjq
        exact YieldsS.wpOp hoj hy hrj hC (ih _ _ w (by simpa using hs) hlen' hcl' (fun _ => hC) (by rw [hset]; exact ht))
      | false =>
        by_cases hjl : j + 1 = ops.size
        · have hj1 : ops.size - 1 = j := by omega
          rw [hj1, hjq, Bool.false_or] at hlast
          have hbehind : ∀ k, k ∈ ahead ops ops.size [j] → k = j ∨ listed.getD k false = true := ahead_spec hcl hj _ _ (by simp)
          have all : ∀ i ∈ left ops listed, i = j := fun i hi => by
            obtain ⟨his, hun⟩ := hunl i hi
            rcases hbehind i (by simpa using List.all_eq_true.1 hlast i (List.mem_range.2 his)) with e | e
            · exact e
            · simp [Array.getD_eq_getD_getElem?, hs, his] at hun e
              rw [hun] at e; cases e
          have hL : left ops listed = [j] := by
            cases hh : left ops listed with
            | nil => rw [hh] at hl; cases hl
            | cons x r =>
              rw [hh] at all hnd
              obtain rfl := all x (by simp)
              cases r with
              | nil => rfl
              | cons y s =>
                have := all y (by simp)
                subst this
                exact absurd (by simp) (List.nodup_cons.1 hnd).1
          have hf : fuel = 0 := by rw [hL] at hl; simpa using hl.symm
          subst hf
          rw [hL] at h hja
          have hnq : nextQ ops [j] = none := by simp [nextQ, hjq]
          rw [TG, hnq] at h
          have hw := h j (by simp) hja
          rw [if_pos hjl] at hw
          exact wpOp_mono (fun a' w' h' => ih _ a' w' (by simpa using hs) hlen' hcl' (fun hne => absurd rfl hne) h') hw
        · exact wpOp_of_QF (fun a' w' h' => ih _ a' w' (by simpa using hs) hlen' hcl' (fun _ => h'.1) (by rw [hset]; exact h'.2)) (TG_chain hok hoj hjq hjl fuel (left ops listed) a w hl hnd (fun i hi => (hunl i hi).1) hjm hja h)
end
section
variable {P : Program} {n : Nat} {ds : List Deferred} {Q : Po} {F : Fr} {ops : List Oper} {C : World → Prop} {w : World}
/-- The walk that parts: by frames. -/
def Wg (P : Program) (n : Nat) (ds : List Deferred) (C : World → Prop) (Q : Po) (ops : List Oper) : Nat → List Nat → Fr → World → Prop
  | 0, _, F, w => Q .normal F w
  | f + 1, l, F, w => match nextQ ops.toArray l with
    | some q => ∃ o, ops[q]? = some o ∧ Wq P n ds C (fun F' => Wg P n ds C Q ops f (out q l) F' w) ops [o] F
    | none => ∀ j ∈ l, availB ops.toArray l j = true → ∃ o, ops[j]? = some o ∧ (if j + 1 = ops.length then Wl P n ds Q ops [o] F w else Wl P n ds (fun e F' w' => e = .normal ∧ C w' ∧ Wg P n ds C Q ops f (out j l) F' w') ops [o] F w)
theorem Wg.nil {l : List Nat} (h : Q .normal F w) : Wg P n ds C Q ops 0 l F w := h
theorem Wg.quiet {f q : Nat} {l l' : List Nat} {o : Oper} (h : nextQ ops.toArray l = some q) (ho : ops[q]? = some o) (hl : out q l = l') (k : Wq P n ds C (fun F' => Wg P n ds C Q ops f l' F' w) ops [o] F) : Wg P n ds C Q ops (f + 1) l F w := by
  subst hl
  rw [Wg, h]
  exact ⟨o, ho, k⟩
theorem Wg.one {f j : Nat} {l l' : List Nat} {o : Oper} (h : nextQ ops.toArray l = none) (hr : l.filter (availB ops.toArray l) = [j]) (ho : ops[j]? = some o) (hjl : Nat.beq (j + 1) ops.length = false) (hl : out j l = l')
    (k : Wl P n ds (fun e F' w' => e = .normal ∧ C w' ∧ Wg P n ds C Q ops f l' F' w') ops [o] F w) : Wg P n ds C Q ops (f + 1) l F w := by
  subst hl
  rw [Wg, h]
  intro i hi ha
  have hm : i ∈ l.filter (availB ops.toArray l) := List.mem_filter.2 ⟨hi, ha⟩
  rw [hr] at hm
  obtain rfl : i = j := by simpa using hm
  exact ⟨o, ho, by rw [if_neg (Nat.ne_of_beq_eq_false hjl)]; exact k⟩
theorem Wg.two {f j1 j2 : Nat} {l l1 l2 : List Nat} {o1 o2 : Oper} (h : nextQ ops.toArray l = none) (hr : l.filter (availB ops.toArray l) = [j1, j2]) (ho1 : ops[j1]? = some o1) (ho2 : ops[j2]? = some o2)
    (hjl1 : Nat.beq (j1 + 1) ops.length = false) (hjl2 : Nat.beq (j2 + 1) ops.length = false) (hl1 : out j1 l = l1) (hl2 : out j2 l = l2)
    (k1 : Wl P n ds (fun e F' w' => e = .normal ∧ C w' ∧ Wg P n ds C Q ops f l1 F' w') ops [o1] F w) (k2 : Wl P n ds (fun e F' w' => e = .normal ∧ C w' ∧ Wg P n ds C Q ops f l2 F' w') ops [o2] F w) : Wg P n ds C Q ops (f + 1) l F w := by
  subst hl1
  subst hl2
  rw [Wg, h]
  intro i hi ha
  have hm : i ∈ l.filter (availB ops.toArray l) := List.mem_filter.2 ⟨hi, ha⟩
  rw [hr] at hm
  have : i = j1 ∨ i = j2 := by simpa using hm
  rcases this with rfl | rfl
  · exact ⟨o1, ho1, by rw [if_neg (Nat.ne_of_beq_eq_false hjl1)]; exact k1⟩
  · exact ⟨o2, ho2, by rw [if_neg (Nat.ne_of_beq_eq_false hjl2)]; exact k2⟩
theorem Wg.last {f j : Nat} {l : List Nat} {o : Oper} (h : nextQ ops.toArray l = none) (hr : l = [j]) (ho : ops[j]? = some o) (hjl : j + 1 = ops.length) (k : Wl P n ds Q ops [o] F w) : Wg P n ds C Q ops (f + 1) l F w := by
  rw [Wg, h]
  subst hr
  intro i hi ha
  obtain rfl : i = j := by simpa using hi
  exact ⟨o, ho, by rw [if_pos hjl]; exact k⟩
theorem TG_of_Wg : ∀ (f : Nat) (l : List Nat) (F : Fr) (w : World), Wg P n ds C Q ops f l F w → TG P ops.toArray C (QA n ds Q) f l (act n ds F) w
  | 0, l, F, w, h => ⟨F, rfl, h⟩
  | f + 1, l, F, w, h => by
    rw [TG]
    rw [Wg] at h
    cases hq : nextQ ops.toArray l with
    | some q =>
      rw [hq] at h
      obtain ⟨o, ho, h⟩ := h
      have ho' : ops.toArray[q]? = some o := by simpa using ho
      unfold Wq at h
      have hst : qOp P ops.toArray C q (fun a => ∃ F', a = act n ds F' ∧ Wg P n ds C Q ops f (out q l) F' w) (act n ds F) := by unfold qOp; simp only [ho']; exact h
      obtain ⟨v, hy, F', hF, hw⟩ := yieldsIn_of_qOp ho' hst
      refine ⟨o, v, ho', hy, ?_⟩
      rw [hF]
      exact TG_of_Wg f (out q l) F' w hw
    | none =>
      rw [hq] at h
      intro j hj ha
      obtain ⟨o, ho, h⟩ := h j hj ha
      have hsz : ops.toArray.size = ops.length := by simp
      rw [hsz]
      split
      · rename_i he
        rw [if_pos he] at h
        exact wpOp_of_Wl ho h
      · rename_i he
        rw [if_neg he] at h
        refine wpOp_noQ ?_ ?_ (wpOp_of_Wl ho h)
        · rintro e a' w' hne ⟨F', _, h', _⟩; exact hne h'
        · rintro a' w' ⟨F', rfl, _, hC, h'⟩
          exact ⟨hC, TG_of_Wg f (out j l) F' w' h'⟩
/-- A region that draws its order, by a walk that parts. -/
theorem Wc.regionG {rid m : Nat} (hm : P.follows .mixedOrders = true) (hB : okGL ops.toArray = true) (C : World → Prop) (hC : C w.drew) (hlen : ops.length = m) (h : ∀ w', New w w' → Wg P n ds C Q ops m (List.range m) F w') : Wc P n ds Q (.region rid ops.toArray true) F w := by
  subst hlen
  unfold Wc
  refine wp_region_any hm ?_
  have hleft : left ops.toArray (Array.replicate ops.toArray.size false) = List.range ops.length := by
    unfold left
    simp only [List.size_toArray]
    refine List.filter_eq_self.2 fun k hk => ?_
    have := List.mem_range.1 hk
    simp [Array.getD_eq_getD_getElem?, Array.getElem?_replicate, this]
  have h0 : Clos ops.toArray (Array.replicate ops.toArray.size false) := by
    intro j o hj
    exfalso
    simp only [Array.getD_eq_getD_getElem?, Array.getElem?_replicate] at hj
    split at hj <;> simp at hj
  refine wpAny_of_TG (C := C) hB _ _ _ _ (by simp) (by rw [hleft]; simp) h0 (fun _ => hC) ?_
  rw [hleft]
  have := TG_of_Wg ops.length (List.range ops.length) F w.drew (h _ (Chg.drew _ _))
  simpa using this
end
attribute [irreducible] Wg
end Go.Proofs.YtjaendlcijmifaaDoor.Wk

namespace Go.Proofs.YtjaendlcijmifaaDoor
open Go Wk
open Go.RowKit (Below)
attribute [local irreducible] Go.Calls

section
variable {P : Program} {n : Nat} {ds : List Deferred} {Q : Po} {F : Fr} {w : World} {ops : List Oper} {C : World → Prop}
theorem Wk.Wg.qh {f q : Nat} {r : List Nat} {o : Oper} (h : nextQ ops.toArray (q :: r) = some q) (ho : ops[q]? = some o) (hl : out q (q :: r) = r) (k : Wq P n ds C (fun F' => Wg P n ds C Q ops f r F' w) ops [o] F) : Wg P n ds C Q ops (f + 1) (q :: r) F w :=
  Wg.quiet h ho hl k
theorem Wk.Wg.oneH {f j : Nat} {r : List Nat} {o : Oper} (h : nextQ ops.toArray (j :: r) = none) (hr : (j :: r).filter (availB ops.toArray (j :: r)) = [j]) (ho : ops[j]? = some o) (hjl : Nat.beq (j + 1) ops.length = false) (hl : out j (j :: r) = r)
    (k : Wl P n ds (fun e F' w' => e = .normal ∧ C w' ∧ Wg P n ds C Q ops f r F' w') ops [o] F w) : Wg P n ds C Q ops (f + 1) (j :: r) F w := Wg.one h hr ho hjl hl k
end
theorem Wk.Wc.cutW {P : Program} {n : Nat} {ds : List Deferred} {Q : Po} {F : Fr} {w : World} {a b : Code} (l : List (Nat × Value)) (M : World → Prop) (h1 : Wc P n ds (fun e F w => e = .normal ∧ agrees F l ∧ M w) a F w) (h2 : ∀ G w, M w → Wc P n ds Q b (upds G l) w) : Wc P n ds Q (.seq a b) F w := by
  refine Wc.seq ?_
  unfold Wc at h1 ⊢
  refine wp_mono h1 ?_
  rintro e a' w' ⟨F', rfl, rfl, hF, hM⟩
  refine ⟨F', rfl, ?_⟩
  unfold Qseq
  have := h2 F' w' hM
  rw [upds_of_agrees hF] at this
  exact this
/-- The errors' variables hold what their initialisers lay. -/
def ErrV (w : World) : Prop := ∀ g, g = 0 ∨ g = 1 → g < w.heap.size ∧ ∃ te pe, w.cell? ⟨g, 0, none⟩ = some (.iface te pe)
theorem ErrV.new {w w' : World} (h : ErrV w) (n : New w w') : ErrV w' := fun g hg => by
  obtain ⟨h1, te, pe, h2⟩ := h g hg
  refine ⟨Nat.lt_of_lt_of_le h1 n.size, te, pe, ?_⟩
  have := n.block g h1 id
  simp only [World.cell?] at h2 ⊢
  rw [this]; exact h2
theorem new_bytes {w : World} {e : TypeId} {s : ByteArray} : New w (Lib.bytesWorld w e s) :=
  ⟨rfl, rfl, rfl, by rw [Lib.bytesWorld_size]; omega, fun k hk _ => Lib.bytesWorld_at_old w e _ k hk⟩
theorem ParseUint_spec {w : World} {s : List UInt8} (hE : ErrV w) (hl : s.length ≤ 100000000) :
    Calls Tryd.prog 57 #[vs s, vi 10, vi 64] w (Ret fun r w' => (∃ (n : Nat) (e : Value), r = .tuple #[.int .u64 n, e] ∧ n < 18446744073709551616 ∧ ∀ m, m < 18446744073709551616 → s = decN m → n = m) ∧ New w w') := by
  have hs : (⟨s.toArray⟩ : ByteArray).size = s.length := by simp [ByteArray.size]
  obtain ⟨_, te, pe, h0⟩ := hE _ (.inl rfl)
  obtain ⟨_, te1, pe1, h1⟩ := hE _ (.inr rfl)
  cases hp : Lib.parseUintB 64 s with
  | ok u =>
    refine (Tryd.strconv_ParseUint_10_at64_ok ⟨s.toArray⟩ (by rw [hs]; omega) u hp w).mono ?_
    rintro e w' ⟨rfl, hw⟩
    refine ⟨_, rfl, ⟨u, _, rfl, ?_, fun m hm e => ?_⟩, ?_⟩
    · have := Lib.parseUintB_le hp; omega
    · rw [e, parseU hm] at hp; cases hp; rfl
    · rcases hw with rfl | rfl
      · exact Chg.refl _ _
      · exact new_bytes
  | «syntax» =>
    refine (Tryd.strconv_ParseUint_10_at64_syntax ⟨s.toArray⟩ (by rw [hs]; omega) hp _ w h0 (.inr ⟨_, _, rfl⟩)).mono ?_
    rintro e w' ⟨N, rfl, _, _, hb⟩
    exact ⟨_, rfl, ⟨0, _, rfl, by omega, fun m hm e => by rw [e, parseU hm] at hp; cases hp⟩, New.ofBelow hb⟩
  | range =>
    refine (Tryd.strconv_ParseUint_10_at64_range ⟨s.toArray⟩ (by rw [hs]; omega) hp _ w h1 (.inr ⟨_, _, rfl⟩)).mono ?_
    rintro e w' ⟨N, rfl, _, _, hb⟩
    exact ⟨_, rfl, ⟨18446744073709551615, _, rfl, by omega, fun m hm e => by rw [e, parseU hm] at hp; cases hp⟩, New.ofBelow hb⟩
theorem ParseInt_spec {w : World} {s : List UInt8} (hE : ErrV w) (hl : s.length ≤ 100000000) :
    Calls Tryd.prog 58 #[vs s, vi 10, vi 64] w (Ret fun r w' => (∃ (n : Int) (e : Value), r = .tuple #[vi n, e] ∧ -9223372036854775808 ≤ n ∧ n ≤ 9223372036854775807 ∧ ∀ m, -9223372036854775808 ≤ m → m ≤ 9223372036854775807 → s = decI m → n = m) ∧ New w w') := by
  have hs : (⟨s.toArray⟩ : ByteArray).size = s.length := by simp [ByteArray.size]
  obtain ⟨_, te, pe, h0⟩ := hE _ (.inl rfl)
  obtain ⟨_, te1, pe1, h1⟩ := hE _ (.inr rfl)
  cases hp : Lib.parseIntB 64 s with
  | ok u =>
    refine (Tryd.strconv_ParseInt_10_at64_ok ⟨s.toArray⟩ (by rw [hs]; omega) u hp w).mono ?_
    rintro e w' ⟨rfl, hw⟩
    have hb := Lib.parseIntB_bounds hp
    refine ⟨_, rfl, ⟨u, _, rfl, by simp at hb; omega, by simp at hb; omega, fun m hm hm' e => ?_⟩, ?_⟩
    · rw [e, parseI hm hm'] at hp; cases hp; rfl
    · rcases hw with rfl | ⟨t, rfl⟩
      · exact Chg.refl _ _
      · exact new_bytes
  | «syntax» =>
    refine (Tryd.strconv_ParseInt_10_at64_syntax ⟨s.toArray⟩ (by rw [hs]; omega) hp _ w h0 (.inr ⟨_, _, rfl⟩)).mono ?_
    rintro e w' ⟨N, rfl, _, _, hb⟩
    exact ⟨_, rfl, ⟨0, _, rfl, by omega, by omega, fun m hm hm' e => by rw [e, parseI hm hm'] at hp; cases hp⟩, New.ofBelow hb⟩
  | range =>
    refine (Tryd.strconv_ParseInt_10_at64_range ⟨s.toArray⟩ (by rw [hs]; omega) hp _ w h1 (.inr ⟨_, _, rfl⟩)).mono ?_
    rintro e w' ⟨N, rfl, _, _, hb⟩
    refine ⟨_, rfl, ⟨Lib.intSat 64 s, _, rfl, ?_, ?_, fun m hm hm' e => by rw [e, parseI hm hm'] at hp; cases hp⟩, New.ofBelow hb⟩
    · unfold Lib.intSat; split <;> simp
    · unfold Lib.intSat; split <;> simp
theorem sum_ge' {l : List Nat} {x : Nat} (h : x ∈ l) : x ≤ l.sum := by
  induction l with
  | nil => simp at h
  | cons y r ih =>
    simp only [List.sum_cons]
    rcases List.mem_cons.1 h with rfl | h
    · omega
    · have := ih h; omega
/-- The number of a kind's name; 0: there is none. -/
def kindOf (s : List UInt8) : Nat → Nat
  | 0 => 0
  | k + 1 => if nameK (k + 1) = s then k + 1 else kindOf s k
theorem kindOf_le (s : List UInt8) : ∀ n, kindOf s n ≤ n
  | 0 => Nat.le_refl _
  | k + 1 => by unfold kindOf; split; exact Nat.le_refl _; exact Nat.le_succ_of_le (kindOf_le s k)
theorem kindOf_name {s : List UInt8} : ∀ {n : Nat}, kindOf s n ≠ 0 → nameK (kindOf s n) = s
  | 0, h => absurd rfl h
  | k + 1, h => by
    unfold kindOf at h ⊢
    split
    · rename_i e; exact e
    · rename_i e; rw [if_neg e] at h; exact kindOf_name h
theorem kindOf_of {s : List UInt8} {j : Nat} (hj : nameK j = s) (hne : s ≠ []) : ∀ {n : Nat}, j ≤ n → kindOf s n = j
  | 0, h => by
    have : j = 0 := by omega
    subst this
    exact absurd hj.symm hne
  | k + 1, h => by
    unfold kindOf
    split
    · rename_i e
      exact (nameK_inj (j := k + 1) (k := j) (by rw [e]; exact hne) (e.trans hj.symm))
    · rename_i e
      exact kindOf_of hj hne (by
        rcases Nat.lt_or_ge j (k + 1) with h1 | h1
        · omega
        · exact absurd (by rw [show k + 1 = j by omega]; exact hj) e)
set_option maxRecDepth 4000 in
set_option maxHeartbeats 4000000 in
theorem event_spec {w : World} {s : List UInt8} (ht : Tb w) (hE : ErrV w) (hl : s.length ≤ 10000000) :
    Calls Tryd.prog 39 #[vs s] w (Ret fun r w' => (∃ (y : Ev) (q : Bool), r = .tuple #[evV y, .bool q] ∧ (q = true → EvL y ∧ lineM y = s) ∧ (q = false → ∀ x, EvL x → lineM x ≠ s)) ∧ New w w') := by
  have hcount := splitR_length 32 s
  have hcl : s.count 32 ≤ s.length := List.count_le_length
  refine calls_of_Wc Tryd.func39 rfl Tryd.ntmps39 rfl ?_
  (repeat' (first | refine Wc.seq ?_ | refine Wc.region ?_))
  refine Wl.alloc fun w1 b1 n1 s1 => ?_
  replace b1 : Bk w1 w.heap.size 36 (evC ev0) := b1
  (repeat' (first | refine Wl.moveE (by conv => { lhs; whnf }) ?_ | refine Wl.assignE (by conv => { lhs; whnf }) ?_ | refine Wl.nil ?_ | refine Qseq.normal ?_ | refine Wc.seq ?_ | refine Wc.region ?_))
  refine Wl.call (SplitC_spec 32 (l := s) (by omega)) rfl ?_
  rintro v w2 ⟨ov, n2⟩
  have rv := (ov.rd goodS.mo).mono (Pb' := fun k => k < w2.heap.size) (mono_one _) fun k hk _ => hk
  obtain ⟨a, cp, rfl, hc1, hc2⟩ := rv.form
  simp only [maxLen] at hc2
  have b2 := b1.chg n2 (fun e => e)
  have n02 := n1.trans n2
  have z1 := n1.size
  clear n1 n2 b1 ov
  have hsum := splitR_sum 32 s
  have hsl : ∀ x, EvL x → lineM x = s → splitR 32 s = piecesM x := fun x hx e => by rw [← e]; exact split_line hx
  have hpl : ∀ (i : Nat) (y : List UInt8), (splitR 32 s)[i]? = some y → y.length ≤ s.length := fun i y hy => by
    have h1 := sum_ge' (List.mem_map.2 ⟨y, List.mem_of_getElem? hy, rfl⟩ : y.length + 1 ∈ (splitR 32 s).map fun x => x.length + 1)
    omega
  have hbad : (splitR 32 s).length ≠ 5 → (splitR 32 s).length ≠ 7 → ∀ x, EvL x → lineM x ≠ s := fun h5 h7 x hx e => by
    have h1 := congrArg List.length (hsl x hx e)
    unfold piecesM at h1
    split at h1 <;> simp at h1 <;> omega
  clear hsum hcount hcl
  generalize splitR 32 s = ps at *
  by_cases hlen : ps.length = 5 ∨ ps.length = 7
  rotate_left
  · have hq := hbad (fun e => hlen (.inl e)) (fun e => hlen (.inr e))
    (repeat' (first | refine Wl.moveE (by conv => { lhs; whnf }) ?_ | refine Wl.assignE (by conv => { lhs; whnf }) ?_ | refine Wl.nil ?_ | refine Wl.guardY rfl rfl ?_ | refine Wl.pickTE rfl (by conv => { lhs; whnf }) ?_ | refine Wl.lenS rfl ?_ | refine Qseq.normal ?_ | refine Wc.seq ?_ | refine Wc.region ?_ | refine Wc.condT rfl ?_ | (refine Wl.neq rfl rfl (fun _ => ?_) (fun _ => ?_) <;> (first | (exfalso; omega) | skip))))
    refine Wl.buildG (u := evV ev0) rfl (by kernel_rfl) ?_
    skip
    refine Wl.storeB (o := 0) (new := evC ev0) b2 rfl rfl rfl rfl (by decide) (evC_one _) fun w3 b3 c3 s3 => ?_
    (repeat' (first | refine Wl.assignE (by conv => { lhs; whnf }) ?_ | refine Wl.nil ?_ | refine Qseq.normal ?_ | refine Wc.ret ?_ | refine Qseq.ret ?_))
    exact Qfn.retR (results2 rfl (rvOf_agg (e := 36) rfl rfl b3 rfl) (rvOf_tmp rfl)) ⟨_, rfl, ⟨ev0, false, rfl, fun e => (by cases e), fun _ => hq⟩, Chg.trans n02 c3 fun k hk e => by omega⟩
  clear hbad
  obtain ⟨p0, h0⟩ := get_lt ps (k := 0) (by omega)
  obtain ⟨p1, h1⟩ := get_lt ps (k := 1) (by omega)
  obtain ⟨p2, h2⟩ := get_lt ps (k := 2) (by omega)
  obtain ⟨p3, h3⟩ := get_lt ps (k := 3) (by omega)
  obtain ⟨p4, h4⟩ := get_lt ps (k := 4) (by omega)
  (repeat' (first | refine Wl.assignE (by conv => { lhs; whnf }) ?_ | refine Wl.nil ?_ | refine Qseq.normal ?_))
  refine Wk.Wc.cutW [(0, vs s), (2, pT w.heap.size), (4, .slice a ps.length cp)] (fun W => w2 = W) ?_ ?_
  · (repeat' (first | refine Wl.moveE (by conv => { lhs; whnf }) ?_ | refine Wl.nil ?_ | refine Wl.guardY rfl rfl ?_ | refine Wl.guardN rfl rfl ?_ | refine Wl.pickTE rfl (by conv => { lhs; whnf }) ?_ | refine Wl.pickFE rfl (by conv => { lhs; whnf }) ?_ | refine Wl.lenS rfl ?_ | refine Qseq.normal ?_ | refine Wc.seq ?_ | refine Wc.region ?_ | refine Wc.skip ?_ | refine Wc.condF rfl ?_ | (refine Wl.neq rfl rfl (fun _ => ?_) (fun _ => ?_) <;> (first | (exfalso; omega) | skip))))
    · exact ⟨rfl, ⟨rfl, rfl, rfl, trivial⟩, rfl⟩
    · exact ⟨rfl, ⟨rfl, rfl, rfl, trivial⟩, rfl⟩
  rintro G2 _ rfl
  simp only [upds]
  have z2 := n02.size
  have e2 := b2.lt
  (repeat' (first | refine Wc.seq ?_ | refine Wc.region ?_))
  refine Wl.alloc fun w3 b3 n3 s3 => ?_
  replace b3 : Bk w3 w2.heap.size 36 (evC ev0) := b3
  have bb3 := b2.chg n3 (fun e => e)
  have n03 := n02.trans n3
  have z3 := n3.size
  have rv3 := rv.keep (stable_one _) n3.keep
  clear b2 n02 n3 rv
  (repeat' (first | refine Wl.moveE (by conv => { lhs; whnf }) ?_ | refine Wl.nil ?_ | refine Qseq.normal ?_ | refine Wc.seq ?_ | refine Wc.region ?_))
  refine Wl.idxAddrV rv3 rfl rfl (by omega) h0 fun b o hc => ?_
  refine Wl.load1 rfl hc ?_
  refine Wl.call (ParseUint_spec (hE.new n03) (by have := hpl 0 p0 h0; omega)) rfl ?_
  rintro _ w4 ⟨⟨k0, e0, rfl, hk0, hm0⟩, n4⟩
  have b4 := b3.chg n4 (fun e => e)
  (repeat' (first | refine Wl.moveE (by conv => { lhs; whnf }) ?_ | refine Wl.extract rfl rfl ?_ | refine Wl.fieldAddr rfl rfl ?_))
  refine Wl.store1 b4 rfl (by simp [evC]) rfl rfl fun w5 b5 c5 => ?_
  replace b5 : Bk w5 w2.heap.size 36 (evC ⟨k0, 0, 0, 0, [], 0⟩) := b5
  have c35 : Chg (fun k => k = w2.heap.size) w3 w5 := Chg.trans n4.any c5 fun _ _ e => e
  clear b3 n4 b4 c5 hc
  have n05 : New w w5 := Chg.trans n03 c35 fun k hk e => by omega
  have bb5 := bb3.chg c35 (by omega)
  have rv5 := rv3.keep (stable_one _) (c35.keep fun k hk e e' => by omega)
  clear bb3 rv3 n03 c35
  (repeat' (first | refine Wl.moveE (by conv => { lhs; whnf }) ?_ | refine Wl.nil ?_ | refine Qseq.normal ?_ | refine Wc.seq ?_ | refine Wc.region ?_))
  refine Wl.idxAddrV rv5 rfl rfl (by omega) h1 fun b o hc => ?_
  refine Wl.load1 rfl hc ?_
  refine Wl.call (ParseInt_spec (hE.new n05) (by have := hpl 1 p1 h1; omega)) rfl ?_
  rintro _ w6 ⟨⟨k1, e1, rfl, hk1, hk1', hm1⟩, n6⟩
  have b6 := b5.chg n6 (fun e => e)
  (repeat' (first | refine Wl.moveE (by conv => { lhs; whnf }) ?_ | refine Wl.extract rfl rfl ?_ | refine Wl.fieldAddr rfl rfl ?_))
  refine Wl.store1 b6 rfl (by simp [evC]) rfl rfl fun w7 b7 c7 => ?_
  replace b7 : Bk w7 w2.heap.size 36 (evC ⟨k0, 0, k1, 0, [], 0⟩) := b7
  have c57 : Chg (fun k => k = w2.heap.size) w5 w7 := Chg.trans n6.any c7 fun _ _ e => e
  clear b5 n6 b6 c7 hc
  have n07 : New w w7 := Chg.trans n05 c57 fun k hk e => by omega
  have bb7 := bb5.chg c57 (by omega)
  have rv7 := rv5.keep (stable_one _) (c57.keep fun k hk e e' => by omega)
  have z7 := c57.size
  have z5 := n05.size
  clear c57 bb5 rv5 n05
  (repeat' (first | refine Wl.nil ?_ | refine Qseq.normal ?_))
  refine Wk.Wc.cutW [(0, vs s), (2, pT w.heap.size), (4, .slice a ps.length cp), (5, pT w2.heap.size)] (fun W => ∃ kd, kd = kindOf p2 9 ∧ Chg (fun k => k = w2.heap.size) w7 W ∧ Bk W w2.heap.size 36 (evC ⟨k0, 0, k1, kd, [], 0⟩)) ?_ ?_
  · (repeat' (first | refine Wc.seq ?_ | refine Wc.region ?_ | refine Wl.fieldAddr rfl rfl ?_))
    refine Wl.store1 b7 rfl (by simp [evC]) rfl rfl fun w8 b8 c8 => ?_
    replace b8 : Bk w8 w2.heap.size 36 (evC ⟨k0, 0, k1, 9, [], 0⟩) := b8
    (repeat' (first | refine Wl.nil ?_ | refine Qseq.normal ?_ | refine Wc.block ?_))
    refine Wc.loop (σ := Nat) (fun k => [(0, vs s), (2, pT w.heap.size), (4, .slice a ps.length cp), (5, pT w2.heap.size)]) (fun k W => k ≤ 9 ∧ kindOf p2 9 = kindOf p2 k ∧ Chg (fun k => k = w2.heap.size) w7 W ∧ Bk W w2.heap.size 36 (evC ⟨k0, 0, k1, k, [], 0⟩)) (fun k => k) 9 ⟨rfl, rfl, rfl, rfl, trivial⟩ ⟨Nat.le_refl _, rfl, c8, b8⟩ ?_
    clear b8 c8 b7
    rintro k G3 W ⟨hk9, hkk, cW, bW⟩
    simp only [upds]
    have rvW := rv7.keep (stable_one _) (cW.keep fun k hk e e' => by omega)
    (repeat' (refine Wc.seq ?_))
    refine Wc.regionT rfl (by kernel_rfl) (New W) (Chg.drew _ _) ?_
    intro W1 m1
    (repeat' (refine Wt.quiet rfl (Wq.fieldAddr rfl rfl (Wq.nil ?_))))
    refine Wt.quiet rfl (Wq.load1 rfl (u := .int .u8 k) (fun W' c => (bW.chg c (fun e => e)).cell (o := 3) rfl) (Wq.nil ?_))
    rcases Nat.eq_zero_or_pos k with hk0 | hk0
    · subst hk0
      (repeat' (first | refine Wt.nil ?_ | refine Wt.guardN rfl rfl (by assumption) ?_ | refine Wt.quiet rfl (Wq.moveE (by conv => { lhs; whnf }) (Wq.nil ?_)) | refine Wt.quiet rfl (Wq.pickFE rfl (by conv => { lhs; whnf }) (Wq.nil ?_)) | (refine Wt.quiet rfl (Wq.gtr rfl rfl (fun _ => Wq.nil ?_) (fun _ => Wq.nil ?_)) <;> (first | (exfalso; omega) | skip))))
      (repeat' (first | refine Qseq.normal ?_ | refine Wc.exit ?_ | refine Qseq.exit ?_ | refine Qblk.hit ?_ | refine Qloop.exit ?_ | refine Wc.condF rfl ?_))
      exact ⟨rfl, ⟨rfl, rfl, rfl, rfl, trivial⟩, 0, hkk.symm, Chg.trans cW m1.any fun _ _ e => e, bW.chg m1 (fun e => e)⟩
    · (repeat' (first | refine Wt.guardY rfl rfl ?_ | refine Wt.quiet rfl (Wq.moveE (by conv => { lhs; whnf }) (Wq.nil ?_)) | refine Wt.quiet rfl (Wq.fieldAddr rfl rfl (Wq.nil ?_)) | (refine Wt.quiet rfl (Wq.gtr rfl rfl (fun _ => Wq.nil ?_) (fun _ => Wq.nil ?_)) <;> (first | (exfalso; omega) | skip))))
      refine Wt.quiet rfl (Wq.load1 rfl (u := .int .u8 k) (fun W' c => (bW.chg c (fun e => e)).cell (o := 3) rfl) (Wq.nil ?_))
      (try refine Wt.guardY rfl rfl ?_)
      refine Wt.chain rfl (Wl.call (name_spec (k := k) (by omega)) rfl ?_)
      rintro _ W2 ⟨rfl, m2⟩
      have m12 := m1.trans m2
      refine Wl.nil ⟨rfl, m12, ?_⟩
      (repeat' (first | refine Wt.guardY rfl rfl ?_ | refine Wt.quiet rfl (Wq.moveE (by conv => { lhs; whnf }) (Wq.nil ?_))))
      refine Wt.quiet rfl (Wq.idxAddrV rvW (fun W' c => c.keep) rfl rfl (by omega) h2 fun b o hc => Wq.nil ?_)
      (try refine Wt.guardY rfl rfl ?_)
      refine Wt.quiet rfl (Wq.load1 rfl hc (Wq.nil ?_))
      obtain ⟨j, rfl⟩ : ∃ j, k = j + 1 := ⟨k - 1, by omega⟩
      by_cases hn : nameK (j + 1) = p2
      · have he : kindOf p2 (j + 1) = j + 1 := by unfold kindOf; rw [if_pos hn]
        (repeat' (first | refine Wt.nil ?_ | refine Wt.guardY rfl rfl ?_ | refine Wt.quiet rfl (Wq.pickTE rfl (by conv => { lhs; whnf }) (Wq.nil ?_)) | (refine Wt.quiet rfl (Wq.sneq rfl rfl (fun _ => Wq.nil ?_) (fun _ => Wq.nil ?_)) <;> (first | (exfalso; contradiction) | skip))))
        (repeat' (first | refine Qseq.normal ?_ | refine Wc.exit ?_ | refine Qseq.exit ?_ | refine Qblk.hit ?_ | refine Qloop.exit ?_ | refine Wc.condF rfl ?_))
        exact ⟨rfl, ⟨rfl, rfl, rfl, rfl, trivial⟩, j + 1, (hkk.trans he).symm, Chg.trans cW m12.any fun _ _ e => e, bW.chg m12 (fun e => e)⟩
      · have he : kindOf p2 (j + 1) = kindOf p2 j := by conv => lhs; unfold kindOf; rw [if_neg hn]
        (repeat' (first | refine Wt.nil ?_ | refine Wt.guardY rfl rfl ?_ | refine Wt.quiet rfl (Wq.pickTE rfl (by conv => { lhs; whnf }) (Wq.nil ?_)) | (refine Wt.quiet rfl (Wq.sneq rfl rfl (fun _ => Wq.nil ?_) (fun _ => Wq.nil ?_)) <;> (first | (exfalso; contradiction) | skip))))
        have bW2 := bW.chg m12 (fun e => e)
        (repeat' (first | refine Qseq.normal ?_ | refine Wc.seq ?_ | refine Wc.region ?_ | refine Wc.block ?_ | refine Wc.skip ?_ | refine Qblk.normal ?_ | refine Wc.condT rfl ?_ | refine Wl.fieldAddr rfl rfl ?_))
        refine Wl.load1 (u := .int .u8 (j + 1 : Nat)) rfl (bW2.cell (o := 3) rfl) ?_
        refine Wl.subW rfl rfl ?_
        rw [show ((j + 1 : Nat) : Int) - 1 = ((j : Nat) : Int) by omega, wrap_u rfl (by omega) (by simp [IntKind.bits]; omega)]
        (repeat' (refine Wl.fieldAddr rfl rfl ?_))
        refine Wl.store1 bW2 rfl (by simp [evC]) rfl rfl fun W3 b3' c3' => ?_
        replace b3' : Bk W3 w2.heap.size 36 (evC ⟨k0, 0, k1, j, [], 0⟩) := b3'
        (repeat' (refine Wl.nil ?_))
        exact Qloop.normal j ⟨rfl, rfl, rfl, rfl, trivial⟩ ⟨by omega, hkk.trans he, Chg.trans (Chg.trans cW m12.any fun _ _ e => e) c3' fun _ _ e => e, b3'⟩ (by omega)
  clear b7
  rintro G3 w8 ⟨kd, hkd, c78, b8⟩
  simp only [upds]
  have n08 : New w w8 := Chg.trans n07 c78 fun k hk e => by omega
  have bb8 := bb7.chg c78 (by omega)
  have rv8 := rv7.keep (stable_one _) (c78.keep fun k hk e e' => by omega)
  have z8 := c78.size
  clear c78 bb7 rv7 n07
  (repeat' (first | refine Wl.moveE (by conv => { lhs; whnf }) ?_ | refine Wc.seq ?_ | refine Wc.region ?_))
  refine Wl.idxAddrV rv8 rfl rfl (by omega) h3 fun b o hc => ?_
  refine Wl.load1 rfl hc ?_
  (repeat' (refine Wl.fieldAddr rfl rfl ?_))
  refine Wl.store1 b8 rfl (by simp [evC]) rfl rfl fun w9 b9 c9 => ?_
  replace b9 : Bk w9 w2.heap.size 36 (evC ⟨k0, 0, k1, kd, p3, 0⟩) := b9
  have n09 : New w w9 := Chg.trans n08 c9 fun k hk e => by omega
  have bb9 := bb8.chg c9 (by omega)
  have rv9 := rv8.keep (stable_one _) (c9.keep fun k hk e e' => by omega)
  have z9 := c9.size
  clear b8 c9 bb8 rv8 n08 hc
  (repeat' (first | refine Wl.moveE (by conv => { lhs; whnf }) ?_ | refine Wl.nil ?_ | refine Qseq.normal ?_ | refine Wc.seq ?_ | refine Wc.region ?_))
  refine Wl.idxAddrV rv9 rfl rfl (by omega) h4 fun b o hc => ?_
  refine Wl.load1 rfl hc ?_
  refine Wl.call (ParseInt_spec (hE.new n09) (by have := hpl 4 p4 h4; omega)) rfl ?_
  rintro _ w10 ⟨⟨k4, e4, rfl, hk4, hk4', hm4⟩, n10⟩
  have b10 := b9.chg n10 (fun e => e)
  (repeat' (first | refine Wl.moveE (by conv => { lhs; whnf }) ?_ | refine Wl.extract rfl rfl ?_ | refine Wl.fieldAddr rfl rfl ?_))
  refine Wl.store1 b10 rfl (by simp [evC]) rfl rfl fun w11 b11 c11 => ?_
  replace b11 : Bk w11 w2.heap.size 36 (evC ⟨k0, 0, k1, kd, p3, k4⟩) := b11
  have c911 : Chg (fun k => k = w2.heap.size) w9 w11 := Chg.trans n10.any c11 fun _ _ e => e
  have n011 : New w w11 := Chg.trans n09 c911 fun k hk e => by omega
  have bb11 := bb9.chg c911 (by omega)
  have rv11 := rv9.keep (stable_one _) (c911.keep fun k hk e e' => by omega)
  have z11 := c911.size
  clear b9 n10 b10 c11 c911 bb9 rv9 n09 hc
  (repeat' (first | refine Wl.nil ?_ | refine Qseq.normal ?_))
  refine Wk.Wc.cutW [(0, vs s), (2, pT w.heap.size), (5, pT w2.heap.size)] (fun W => ∃ k6 : Nat, k6 < 18446744073709551616 ∧ New w W ∧ Bk W w.heap.size 36 (evC ev0) ∧ Bk W w2.heap.size 36 (evC ⟨k0, k6, k1, kd, p3, k4⟩) ∧ (ps.length = 5 → k6 = 0) ∧ (∀ p6, ps[6]? = some p6 → ∀ m, m < 18446744073709551616 → p6 = decN m → k6 = m)) ?_ ?_
  · (repeat' (first | refine Wl.moveE (by conv => { lhs; whnf }) ?_ | refine Wl.nil ?_ | refine Wl.lenS rfl ?_ | refine Qseq.normal ?_ | refine Wc.seq ?_ | refine Wc.region ?_ | refine Wc.skip ?_ | refine Wc.condT rfl ?_ | refine Wc.condF rfl ?_ | refine Wl.eql rfl rfl (fun _ => ?_) (fun _ => ?_)))
    · obtain ⟨p6, h6⟩ := get_lt ps (k := 6) (by omega)
      refine Wl.idxAddrV rv11 rfl rfl (by omega) h6 fun b o hc => ?_
      refine Wl.load1 rfl hc ?_
      refine Wl.call (ParseUint_spec (hE.new n011) (by have := hpl 6 p6 h6; omega)) rfl ?_
      rintro _ w12 ⟨⟨k6, e6, rfl, hk6, hm6⟩, n12⟩
      have b12 := b11.chg n12 (fun e => e)
      (repeat' (first | refine Wl.moveE (by conv => { lhs; whnf }) ?_ | refine Wl.extract rfl rfl ?_ | refine Wl.fieldAddr rfl rfl ?_))
      refine Wl.store1 b12 rfl (by simp [evC]) rfl rfl fun w13 b13 c13 => ?_
      replace b13 : Bk w13 w2.heap.size 36 (evC ⟨k0, k6, k1, kd, p3, k4⟩) := b13
      have c1113 : Chg (fun k => k = w2.heap.size) w11 w13 := Chg.trans n12.any c13 fun _ _ e => e
      (repeat' (refine Wl.nil ?_))
      exact ⟨rfl, ⟨rfl, rfl, rfl, trivial⟩, k6, hk6, Chg.trans n011 c1113 fun k hk e => by omega, bb11.chg c1113 (by omega), b13, fun e => by omega, fun q hq m hm e => hm6 m hm (by rw [h6] at hq; cases hq; exact e)⟩
    · exact ⟨rfl, ⟨rfl, rfl, rfl, trivial⟩, 0, by omega, n011, bb11, b11, fun _ => rfl, fun q hq => by have := (List.getElem?_eq_some_iff.1 hq).1; omega⟩
  clear b11 bb11 rv11 n011
  rintro G4 W ⟨k6, hk6, nW, bb, bx, h60, h6⟩
  simp only [upds]
  have hkd9 : kd ≤ 9 := by rw [hkd]; exact kindOf_le _ _
  have hyW : EvW ⟨k0, k6, k1, kd, p3, k4⟩ := ⟨hk0, hk6, hk1, hk1', by show kd < 256; omega, hk4, hk4'⟩
  have key : ∀ x, EvL x → lineM x = s → x = ⟨k0, k6, k1, kd, p3, k4⟩ := by
    intro x hx e
    have hp := hsl x hx e
    have g : ∀ i : Nat, ps[i]? = (piecesM x)[i]? := fun i => by rw [hp]
    have g0 := (h0.symm.trans (g 0)).trans (show (piecesM x)[0]? = some (decN x.id) from rfl)
    have g1 := (h1.symm.trans (g 1)).trans (show (piecesM x)[1]? = some (decI x.tm) from rfl)
    have g2 := (h2.symm.trans (g 2)).trans (show (piecesM x)[2]? = some (nameK x.kd) from rfl)
    have g3 := (h3.symm.trans (g 3)).trans (show (piecesM x)[3]? = some x.pa from rfl)
    have g4 := (h4.symm.trans (g 4)).trans (show (piecesM x)[4]? = some (decI x.ar) from rfl)
    have q0 := hm0 x.id hx.w.id (Option.some.inj g0)
    have q1 := hm1 x.tm hx.w.t0 hx.w.t1 (Option.some.inj g1)
    have q3 := Option.some.inj g3
    have q4 := hm4 x.ar hx.w.a0 hx.w.a1 (Option.some.inj g4)
    have q2 : kd = x.kd := by
      rw [hkd, Option.some.inj g2]
      refine kindOf_of rfl hx.k ?_
      rcases Nat.lt_or_ge x.kd 10 with h | h
      · omega
      · exact absurd (nameK_big h) hx.k
    have q6 : k6 = x.ca := by
      by_cases hc0 : x.ca = 0
      · rw [hc0]
        refine h60 ?_
        rw [hp]; unfold piecesM; rw [if_pos hc0]; rfl
      · refine h6 (decN x.ca) ?_ x.ca hx.w.ca rfl
        rw [hp]; unfold piecesM; rw [if_neg hc0]; rfl
    subst q0 q1 q2 q3 q4 q6
    rfl
  have hp3 := hpl 3 p3 h3
  clear hsl hpl hm0 hm1 hm4 h6 h60 h0 h1 h2 h3 h4 hlen
  have zW := nW.size
  have bxC : ∀ W', Chg (fun k => k = w.heap.size) W W' → Bk W' w2.heap.size 36 (evC ⟨k0, k6, k1, kd, p3, k4⟩) := fun W' c => bx.chg c (by omega)
  refine Wc.seq ?_
  refine Wc.regionG (m := 34) rfl (by kernel_rfl) (fun W' => Chg (fun k => k = w.heap.size) W W') (Chg.drew _ _) rfl ?_
  intro W1 m1
  show Wg _ _ _ _ _ _ _ [0, 1, 2, 3, 4, 5, 6, 7, 8, 9, 10, 11, 12, 13, 14, 15, 16, 17, 18, 19, 20, 21, 22, 23, 24, 25, 26, 27, 28, 29, 30, 31, 32, 33] _ _
  refine Wk.Wg.qh rfl rfl rfl (Wq.loadAt (fun W' c => (bxC W' c).at) rfl rfl (Wq.nil ?_))
  refine Wk.Wg.qh rfl rfl rfl (Wq.loadAt (fun W' c => (bxC W' c).at) rfl rfl (Wq.nil ?_))
  refine Wg.quiet (q := 3) (l' := [2, 4, 5, 6, 7, 8, 9, 10, 11, 12, 13, 14, 15, 16, 17, 18, 19, 20, 21, 22, 23, 24, 25, 26, 27, 28, 29, 30, 31, 32, 33]) rfl rfl rfl (Wq.moveE (by conv => { lhs; whnf }) (Wq.nil ?_))
  refine Wk.Wg.oneH rfl rfl rfl rfl rfl (Wl.call (line_spec (x := ⟨k0, k6, k1, kd, p3, k4⟩) (ht.new (nW.trans m1)) hyW (by show p3.length ≤ _; omega)) rfl ?_)
  rintro _ W2 ⟨rfl, m2⟩
  replace m2 := m1.trans m2
  clear m1
  refine Wl.nil ⟨rfl, m2.any, ?_⟩
  by_cases hline : lineM ⟨k0, k6, k1, kd, p3, k4⟩ = s
  rotate_left
  · have hf : ∀ x, EvL x → lineM x ≠ s := fun x hx e => hline (by rw [← key x hx e]; exact e)
    (repeat' (first | refine Wg.nil ?_ | (refine Wg.qh rfl rfl rfl ?_; refine Wq.guardN rfl rfl ?_; try refine Wq.nil ?_) | (refine Wg.qh rfl rfl rfl ?_; (try refine Wq.guardY rfl rfl ?_); (first | refine Wq.moveE (by conv => { lhs; whnf }) ?_ | refine Wq.assignE (by conv => { lhs; whnf }) ?_ | refine Wq.extract rfl rfl ?_ | refine Wq.pickTE rfl (by conv => { lhs; whnf }) ?_ | refine Wq.pickFE rfl (by conv => { lhs; whnf }) ?_ | refine Wq.notB rfl ?_ | refine Wq.lenS rfl ?_ | refine Wq.lenStr rfl ?_ | refine Wq.nilP rfl ?_ | refine Wq.fieldAddr rfl rfl ?_ | refine Wq.add rfl rfl (by omega) (by omega) ?_ | refine Wq.sub rfl rfl (by omega) (by omega) ?_ | refine Wq.mul rfl rfl (by omega) (by omega) ?_ | refine Wq.convI rfl ?_ | (refine Wq.lss rfl rfl (fun _ => ?_) (fun _ => ?_) <;> (first | (exfalso; omega) | (exfalso; contradiction) | skip)) | (refine Wq.leq rfl rfl (fun _ => ?_) (fun _ => ?_) <;> (first | (exfalso; omega) | (exfalso; contradiction) | skip)) | (refine Wq.gtr rfl rfl (fun _ => ?_) (fun _ => ?_) <;> (first | (exfalso; omega) | (exfalso; contradiction) | skip)) | (refine Wq.geq rfl rfl (fun _ => ?_) (fun _ => ?_) <;> (first | (exfalso; omega) | (exfalso; contradiction) | skip)) | (refine Wq.eql rfl rfl (fun _ => ?_) (fun _ => ?_) <;> (first | (exfalso; omega) | (exfalso; contradiction) | skip)) | (refine Wq.neq rfl rfl (fun _ => ?_) (fun _ => ?_) <;> (first | (exfalso; omega) | (exfalso; contradiction) | skip)) | (refine Wq.seql rfl rfl (fun _ => ?_) (fun _ => ?_) <;> (first | (exfalso; omega) | (exfalso; contradiction) | skip)) | (refine Wq.sneq rfl rfl (fun _ => ?_) (fun _ => ?_) <;> (first | (exfalso; omega) | (exfalso; contradiction) | skip))); all_goals (try refine Wq.nil ?_))))
    refine Wk.Wg.oneH rfl rfl rfl rfl rfl (Wl.guardN rfl rfl (Wl.nil ⟨rfl, m2.any, ?_⟩))
    (repeat' (first | refine Wg.nil ?_ | (refine Wg.qh rfl rfl rfl ?_; refine Wq.guardN rfl rfl ?_; try refine Wq.nil ?_) | (refine Wg.qh rfl rfl rfl ?_; (try refine Wq.guardY rfl rfl ?_); (first | refine Wq.moveE (by conv => { lhs; whnf }) ?_ | refine Wq.assignE (by conv => { lhs; whnf }) ?_ | refine Wq.extract rfl rfl ?_ | refine Wq.pickTE rfl (by conv => { lhs; whnf }) ?_ | refine Wq.pickFE rfl (by conv => { lhs; whnf }) ?_ | refine Wq.notB rfl ?_ | refine Wq.lenS rfl ?_ | refine Wq.lenStr rfl ?_ | refine Wq.nilP rfl ?_ | refine Wq.fieldAddr rfl rfl ?_ | refine Wq.add rfl rfl (by omega) (by omega) ?_ | refine Wq.sub rfl rfl (by omega) (by omega) ?_ | refine Wq.mul rfl rfl (by omega) (by omega) ?_ | refine Wq.convI rfl ?_ | (refine Wq.lss rfl rfl (fun _ => ?_) (fun _ => ?_) <;> (first | (exfalso; omega) | (exfalso; contradiction) | skip)) | (refine Wq.leq rfl rfl (fun _ => ?_) (fun _ => ?_) <;> (first | (exfalso; omega) | (exfalso; contradiction) | skip)) | (refine Wq.gtr rfl rfl (fun _ => ?_) (fun _ => ?_) <;> (first | (exfalso; omega) | (exfalso; contradiction) | skip)) | (refine Wq.geq rfl rfl (fun _ => ?_) (fun _ => ?_) <;> (first | (exfalso; omega) | (exfalso; contradiction) | skip)) | (refine Wq.eql rfl rfl (fun _ => ?_) (fun _ => ?_) <;> (first | (exfalso; omega) | (exfalso; contradiction) | skip)) | (refine Wq.neq rfl rfl (fun _ => ?_) (fun _ => ?_) <;> (first | (exfalso; omega) | (exfalso; contradiction) | skip)) | (refine Wq.seql rfl rfl (fun _ => ?_) (fun _ => ?_) <;> (first | (exfalso; omega) | (exfalso; contradiction) | skip)) | (refine Wq.sneq rfl rfl (fun _ => ?_) (fun _ => ?_) <;> (first | (exfalso; omega) | (exfalso; contradiction) | skip))); all_goals (try refine Wq.nil ?_))))
    refine Wk.Wg.oneH rfl rfl rfl rfl rfl (Wl.storeB (o := 0) (new := evC ⟨k0, k6, k1, kd, p3, k4⟩) (bb.chg m2 (fun e => e)) rfl rfl rfl rfl (Nat.le_refl 6) (evC_one _) fun W9 b9 c9 s9 => ?_)
    have n9 : New w W9 := Chg.trans (nW.trans m2) c9 fun k hk e => by omega
    refine Wl.nil ⟨rfl, Chg.trans m2.any c9 fun _ _ e => e, ?_⟩
    (repeat' (first | refine Wg.nil ?_ | (refine Wg.qh rfl rfl rfl ?_; (try refine Wq.guardY rfl rfl ?_); (first | refine Wq.moveE (by conv => { lhs; whnf }) ?_ | refine Wq.assignE (by conv => { lhs; whnf }) ?_ | refine Wq.extract rfl rfl ?_ | refine Wq.pickTE rfl (by conv => { lhs; whnf }) ?_ | refine Wq.pickFE rfl (by conv => { lhs; whnf }) ?_ | refine Wq.notB rfl ?_ | refine Wq.lenS rfl ?_ | refine Wq.lenStr rfl ?_ | refine Wq.nilP rfl ?_ | refine Wq.fieldAddr rfl rfl ?_ | refine Wq.add rfl rfl (by omega) (by omega) ?_ | refine Wq.sub rfl rfl (by omega) (by omega) ?_ | refine Wq.mul rfl rfl (by omega) (by omega) ?_ | refine Wq.convI rfl ?_ | (refine Wq.lss rfl rfl (fun _ => ?_) (fun _ => ?_) <;> (first | (exfalso; omega) | (exfalso; contradiction) | skip)) | (refine Wq.leq rfl rfl (fun _ => ?_) (fun _ => ?_) <;> (first | (exfalso; omega) | (exfalso; contradiction) | skip)) | (refine Wq.gtr rfl rfl (fun _ => ?_) (fun _ => ?_) <;> (first | (exfalso; omega) | (exfalso; contradiction) | skip)) | (refine Wq.geq rfl rfl (fun _ => ?_) (fun _ => ?_) <;> (first | (exfalso; omega) | (exfalso; contradiction) | skip)) | (refine Wq.eql rfl rfl (fun _ => ?_) (fun _ => ?_) <;> (first | (exfalso; omega) | (exfalso; contradiction) | skip)) | (refine Wq.neq rfl rfl (fun _ => ?_) (fun _ => ?_) <;> (first | (exfalso; omega) | (exfalso; contradiction) | skip)) | (refine Wq.seql rfl rfl (fun _ => ?_) (fun _ => ?_) <;> (first | (exfalso; omega) | (exfalso; contradiction) | skip)) | (refine Wq.sneq rfl rfl (fun _ => ?_) (fun _ => ?_) <;> (first | (exfalso; omega) | (exfalso; contradiction) | skip))); all_goals (try refine Wq.nil ?_))))
    (repeat' (first | refine Qseq.normal ?_ | refine Wc.ret ?_))
    exact Qfn.retR (results2 rfl (rvOf_agg (e := 36) rfl rfl b9 rfl) (rvOf_tmp rfl)) ⟨_, rfl, ⟨⟨k0, k6, k1, kd, p3, k4⟩, false, rfl, fun e => (by cases e), fun _ => hf⟩, n9⟩
  by_cases hkd0 : kd = 0
  · have hf : ∀ x, EvL x → lineM x ≠ s := fun x hx e => hx.k (by rw [key x hx e]; show nameK kd = []; rw [hkd0]; rfl)
    (repeat' (first | refine Wg.nil ?_ | (refine Wg.qh rfl rfl rfl ?_; refine Wq.guardN rfl rfl ?_; try refine Wq.nil ?_) | (refine Wg.qh rfl rfl rfl ?_; (try refine Wq.guardY rfl rfl ?_); (first | refine Wq.moveE (by conv => { lhs; whnf }) ?_ | refine Wq.assignE (by conv => { lhs; whnf }) ?_ | refine Wq.extract rfl rfl ?_ | refine Wq.pickTE rfl (by conv => { lhs; whnf }) ?_ | refine Wq.pickFE rfl (by conv => { lhs; whnf }) ?_ | refine Wq.notB rfl ?_ | refine Wq.lenS rfl ?_ | refine Wq.lenStr rfl ?_ | refine Wq.nilP rfl ?_ | refine Wq.fieldAddr rfl rfl ?_ | refine Wq.add rfl rfl (by omega) (by omega) ?_ | refine Wq.sub rfl rfl (by omega) (by omega) ?_ | refine Wq.mul rfl rfl (by omega) (by omega) ?_ | refine Wq.convI rfl ?_ | (refine Wq.lss rfl rfl (fun _ => ?_) (fun _ => ?_) <;> (first | (exfalso; omega) | (exfalso; contradiction) | skip)) | (refine Wq.leq rfl rfl (fun _ => ?_) (fun _ => ?_) <;> (first | (exfalso; omega) | (exfalso; contradiction) | skip)) | (refine Wq.gtr rfl rfl (fun _ => ?_) (fun _ => ?_) <;> (first | (exfalso; omega) | (exfalso; contradiction) | skip)) | (refine Wq.geq rfl rfl (fun _ => ?_) (fun _ => ?_) <;> (first | (exfalso; omega) | (exfalso; contradiction) | skip)) | (refine Wq.eql rfl rfl (fun _ => ?_) (fun _ => ?_) <;> (first | (exfalso; omega) | (exfalso; contradiction) | skip)) | (refine Wq.neq rfl rfl (fun _ => ?_) (fun _ => ?_) <;> (first | (exfalso; omega) | (exfalso; contradiction) | skip)) | (refine Wq.seql rfl rfl (fun _ => ?_) (fun _ => ?_) <;> (first | (exfalso; omega) | (exfalso; contradiction) | skip)) | (refine Wq.sneq rfl rfl (fun _ => ?_) (fun _ => ?_) <;> (first | (exfalso; omega) | (exfalso; contradiction) | skip))); all_goals (try refine Wq.nil ?_))))
    refine Wk.Wg.qh rfl rfl rfl (Wq.guardY rfl rfl (Wq.load1 (u := .int .u8 kd) rfl (fun W' c => (bxC W' c).cell (o := 3) rfl) (Wq.nil ?_)))
    (repeat' (first | refine Wg.nil ?_ | (refine Wg.qh rfl rfl rfl ?_; refine Wq.guardN rfl rfl ?_; try refine Wq.nil ?_) | (refine Wg.qh rfl rfl rfl ?_; (try refine Wq.guardY rfl rfl ?_); (first | refine Wq.moveE (by conv => { lhs; whnf }) ?_ | refine Wq.assignE (by conv => { lhs; whnf }) ?_ | refine Wq.extract rfl rfl ?_ | refine Wq.pickTE rfl (by conv => { lhs; whnf }) ?_ | refine Wq.pickFE rfl (by conv => { lhs; whnf }) ?_ | refine Wq.notB rfl ?_ | refine Wq.lenS rfl ?_ | refine Wq.lenStr rfl ?_ | refine Wq.nilP rfl ?_ | refine Wq.fieldAddr rfl rfl ?_ | refine Wq.add rfl rfl (by omega) (by omega) ?_ | refine Wq.sub rfl rfl (by omega) (by omega) ?_ | refine Wq.mul rfl rfl (by omega) (by omega) ?_ | refine Wq.convI rfl ?_ | (refine Wq.lss rfl rfl (fun _ => ?_) (fun _ => ?_) <;> (first | (exfalso; omega) | (exfalso; contradiction) | skip)) | (refine Wq.leq rfl rfl (fun _ => ?_) (fun _ => ?_) <;> (first | (exfalso; omega) | (exfalso; contradiction) | skip)) | (refine Wq.gtr rfl rfl (fun _ => ?_) (fun _ => ?_) <;> (first | (exfalso; omega) | (exfalso; contradiction) | skip)) | (refine Wq.geq rfl rfl (fun _ => ?_) (fun _ => ?_) <;> (first | (exfalso; omega) | (exfalso; contradiction) | skip)) | (refine Wq.eql rfl rfl (fun _ => ?_) (fun _ => ?_) <;> (first | (exfalso; omega) | (exfalso; contradiction) | skip)) | (refine Wq.neq rfl rfl (fun _ => ?_) (fun _ => ?_) <;> (first | (exfalso; omega) | (exfalso; contradiction) | skip)) | (refine Wq.seql rfl rfl (fun _ => ?_) (fun _ => ?_) <;> (first | (exfalso; omega) | (exfalso; contradiction) | skip)) | (refine Wq.sneq rfl rfl (fun _ => ?_) (fun _ => ?_) <;> (first | (exfalso; omega) | (exfalso; contradiction) | skip))); all_goals (try refine Wq.nil ?_))))
    refine Wk.Wg.oneH rfl rfl rfl rfl rfl (Wl.guardN rfl rfl (Wl.nil ⟨rfl, m2.any, ?_⟩))
    (repeat' (first | refine Wg.nil ?_ | (refine Wg.qh rfl rfl rfl ?_; refine Wq.guardN rfl rfl ?_; try refine Wq.nil ?_) | (refine Wg.qh rfl rfl rfl ?_; (try refine Wq.guardY rfl rfl ?_); (first | refine Wq.moveE (by conv => { lhs; whnf }) ?_ | refine Wq.assignE (by conv => { lhs; whnf }) ?_ | refine Wq.extract rfl rfl ?_ | refine Wq.pickTE rfl (by conv => { lhs; whnf }) ?_ | refine Wq.pickFE rfl (by conv => { lhs; whnf }) ?_ | refine Wq.notB rfl ?_ | refine Wq.lenS rfl ?_ | refine Wq.lenStr rfl ?_ | refine Wq.nilP rfl ?_ | refine Wq.fieldAddr rfl rfl ?_ | refine Wq.add rfl rfl (by omega) (by omega) ?_ | refine Wq.sub rfl rfl (by omega) (by omega) ?_ | refine Wq.mul rfl rfl (by omega) (by omega) ?_ | refine Wq.convI rfl ?_ | (refine Wq.lss rfl rfl (fun _ => ?_) (fun _ => ?_) <;> (first | (exfalso; omega) | (exfalso; contradiction) | skip)) | (refine Wq.leq rfl rfl (fun _ => ?_) (fun _ => ?_) <;> (first | (exfalso; omega) | (exfalso; contradiction) | skip)) | (refine Wq.gtr rfl rfl (fun _ => ?_) (fun _ => ?_) <;> (first | (exfalso; omega) | (exfalso; contradiction) | skip)) | (refine Wq.geq rfl rfl (fun _ => ?_) (fun _ => ?_) <;> (first | (exfalso; omega) | (exfalso; contradiction) | skip)) | (refine Wq.eql rfl rfl (fun _ => ?_) (fun _ => ?_) <;> (first | (exfalso; omega) | (exfalso; contradiction) | skip)) | (refine Wq.neq rfl rfl (fun _ => ?_) (fun _ => ?_) <;> (first | (exfalso; omega) | (exfalso; contradiction) | skip)) | (refine Wq.seql rfl rfl (fun _ => ?_) (fun _ => ?_) <;> (first | (exfalso; omega) | (exfalso; contradiction) | skip)) | (refine Wq.sneq rfl rfl (fun _ => ?_) (fun _ => ?_) <;> (first | (exfalso; omega) | (exfalso; contradiction) | skip))); all_goals (try refine Wq.nil ?_))))
    refine Wk.Wg.oneH rfl rfl rfl rfl rfl (Wl.storeB (o := 0) (new := evC ⟨k0, k6, k1, kd, p3, k4⟩) (bb.chg m2 (fun e => e)) rfl rfl rfl rfl (Nat.le_refl 6) (evC_one _) fun W9 b9 c9 s9 => ?_)
    have n9 : New w W9 := Chg.trans (nW.trans m2) c9 fun k hk e => by omega
    refine Wl.nil ⟨rfl, Chg.trans m2.any c9 fun _ _ e => e, ?_⟩
    (repeat' (first | refine Wg.nil ?_ | (refine Wg.qh rfl rfl rfl ?_; (try refine Wq.guardY rfl rfl ?_); (first | refine Wq.moveE (by conv => { lhs; whnf }) ?_ | refine Wq.assignE (by conv => { lhs; whnf }) ?_ | refine Wq.extract rfl rfl ?_ | refine Wq.pickTE rfl (by conv => { lhs; whnf }) ?_ | refine Wq.pickFE rfl (by conv => { lhs; whnf }) ?_ | refine Wq.notB rfl ?_ | refine Wq.lenS rfl ?_ | refine Wq.lenStr rfl ?_ | refine Wq.nilP rfl ?_ | refine Wq.fieldAddr rfl rfl ?_ | refine Wq.add rfl rfl (by omega) (by omega) ?_ | refine Wq.sub rfl rfl (by omega) (by omega) ?_ | refine Wq.mul rfl rfl (by omega) (by omega) ?_ | refine Wq.convI rfl ?_ | (refine Wq.lss rfl rfl (fun _ => ?_) (fun _ => ?_) <;> (first | (exfalso; omega) | (exfalso; contradiction) | skip)) | (refine Wq.leq rfl rfl (fun _ => ?_) (fun _ => ?_) <;> (first | (exfalso; omega) | (exfalso; contradiction) | skip)) | (refine Wq.gtr rfl rfl (fun _ => ?_) (fun _ => ?_) <;> (first | (exfalso; omega) | (exfalso; contradiction) | skip)) | (refine Wq.geq rfl rfl (fun _ => ?_) (fun _ => ?_) <;> (first | (exfalso; omega) | (exfalso; contradiction) | skip)) | (refine Wq.eql rfl rfl (fun _ => ?_) (fun _ => ?_) <;> (first | (exfalso; omega) | (exfalso; contradiction) | skip)) | (refine Wq.neq rfl rfl (fun _ => ?_) (fun _ => ?_) <;> (first | (exfalso; omega) | (exfalso; contradiction) | skip)) | (refine Wq.seql rfl rfl (fun _ => ?_) (fun _ => ?_) <;> (first | (exfalso; omega) | (exfalso; contradiction) | skip)) | (refine Wq.sneq rfl rfl (fun _ => ?_) (fun _ => ?_) <;> (first | (exfalso; omega) | (exfalso; contradiction) | skip))); all_goals (try refine Wq.nil ?_))))
    (repeat' (first | refine Qseq.normal ?_ | refine Wc.ret ?_))
    exact Qfn.retR (results2 rfl (rvOf_agg (e := 36) rfl rfl b9 rfl) (rvOf_tmp rfl)) ⟨_, rfl, ⟨⟨k0, k6, k1, kd, p3, k4⟩, false, rfl, fun e => (by cases e), fun _ => hf⟩, n9⟩
  (repeat' (first | refine Wg.nil ?_ | (refine Wg.qh rfl rfl rfl ?_; refine Wq.guardN rfl rfl ?_; try refine Wq.nil ?_) | (refine Wg.qh rfl rfl rfl ?_; (try refine Wq.guardY rfl rfl ?_); (first | refine Wq.moveE (by conv => { lhs; whnf }) ?_ | refine Wq.assignE (by conv => { lhs; whnf }) ?_ | refine Wq.extract rfl rfl ?_ | refine Wq.pickTE rfl (by conv => { lhs; whnf }) ?_ | refine Wq.pickFE rfl (by conv => { lhs; whnf }) ?_ | refine Wq.notB rfl ?_ | refine Wq.lenS rfl ?_ | refine Wq.lenStr rfl ?_ | refine Wq.nilP rfl ?_ | refine Wq.fieldAddr rfl rfl ?_ | refine Wq.add rfl rfl (by omega) (by omega) ?_ | refine Wq.sub rfl rfl (by omega) (by omega) ?_ | refine Wq.mul rfl rfl (by omega) (by omega) ?_ | refine Wq.convI rfl ?_ | (refine Wq.lss rfl rfl (fun _ => ?_) (fun _ => ?_) <;> (first | (exfalso; omega) | (exfalso; contradiction) | skip)) | (refine Wq.leq rfl rfl (fun _ => ?_) (fun _ => ?_) <;> (first | (exfalso; omega) | (exfalso; contradiction) | skip)) | (refine Wq.gtr rfl rfl (fun _ => ?_) (fun _ => ?_) <;> (first | (exfalso; omega) | (exfalso; contradiction) | skip)) | (refine Wq.geq rfl rfl (fun _ => ?_) (fun _ => ?_) <;> (first | (exfalso; omega) | (exfalso; contradiction) | skip)) | (refine Wq.eql rfl rfl (fun _ => ?_) (fun _ => ?_) <;> (first | (exfalso; omega) | (exfalso; contradiction) | skip)) | (refine Wq.neq rfl rfl (fun _ => ?_) (fun _ => ?_) <;> (first | (exfalso; omega) | (exfalso; contradiction) | skip)) | (refine Wq.seql rfl rfl (fun _ => ?_) (fun _ => ?_) <;> (first | (exfalso; omega) | (exfalso; contradiction) | skip)) | (refine Wq.sneq rfl rfl (fun _ => ?_) (fun _ => ?_) <;> (first | (exfalso; omega) | (exfalso; contradiction) | skip))); all_goals (try refine Wq.nil ?_))))
  refine Wk.Wg.qh rfl rfl rfl (Wq.guardY rfl rfl (Wq.load1 (u := .int .u8 kd) rfl (fun W' c => (bxC W' c).cell (o := 3) rfl) (Wq.nil ?_)))
  (repeat' (first | refine Wg.nil ?_ | (refine Wg.qh rfl rfl rfl ?_; refine Wq.guardN rfl rfl ?_; try refine Wq.nil ?_) | (refine Wg.qh rfl rfl rfl ?_; (try refine Wq.guardY rfl rfl ?_); (first | refine Wq.moveE (by conv => { lhs; whnf }) ?_ | refine Wq.assignE (by conv => { lhs; whnf }) ?_ | refine Wq.extract rfl rfl ?_ | refine Wq.pickTE rfl (by conv => { lhs; whnf }) ?_ | refine Wq.pickFE rfl (by conv => { lhs; whnf }) ?_ | refine Wq.notB rfl ?_ | refine Wq.lenS rfl ?_ | refine Wq.lenStr rfl ?_ | refine Wq.nilP rfl ?_ | refine Wq.fieldAddr rfl rfl ?_ | refine Wq.add rfl rfl (by omega) (by omega) ?_ | refine Wq.sub rfl rfl (by omega) (by omega) ?_ | refine Wq.mul rfl rfl (by omega) (by omega) ?_ | refine Wq.convI rfl ?_ | (refine Wq.lss rfl rfl (fun _ => ?_) (fun _ => ?_) <;> (first | (exfalso; omega) | (exfalso; contradiction) | skip)) | (refine Wq.leq rfl rfl (fun _ => ?_) (fun _ => ?_) <;> (first | (exfalso; omega) | (exfalso; contradiction) | skip)) | (refine Wq.gtr rfl rfl (fun _ => ?_) (fun _ => ?_) <;> (first | (exfalso; omega) | (exfalso; contradiction) | skip)) | (refine Wq.geq rfl rfl (fun _ => ?_) (fun _ => ?_) <;> (first | (exfalso; omega) | (exfalso; contradiction) | skip)) | (refine Wq.eql rfl rfl (fun _ => ?_) (fun _ => ?_) <;> (first | (exfalso; omega) | (exfalso; contradiction) | skip)) | (refine Wq.neq rfl rfl (fun _ => ?_) (fun _ => ?_) <;> (first | (exfalso; omega) | (exfalso; contradiction) | skip)) | (refine Wq.seql rfl rfl (fun _ => ?_) (fun _ => ?_) <;> (first | (exfalso; omega) | (exfalso; contradiction) | skip)) | (refine Wq.sneq rfl rfl (fun _ => ?_) (fun _ => ?_) <;> (first | (exfalso; omega) | (exfalso; contradiction) | skip))); all_goals (try refine Wq.nil ?_))))
  refine Wk.Wg.qh rfl rfl rfl (Wq.guardY rfl rfl (Wq.load1 (u := vs p3) rfl (fun W' c => (bxC W' c).cell (o := 4) rfl) (Wq.nil ?_)))
  refine Wk.Wg.oneH rfl rfl rfl rfl rfl (Wl.guardY rfl rfl (Wl.call (path_spec (s := p3) (by omega)) rfl ?_))
  rintro _ W3 ⟨rfl, m3⟩
  replace m3 := m2.trans m3
  clear m2
  refine Wl.nil ⟨rfl, m3.any, ?_⟩
  cases hpp : pathM p3 with
  | false =>
    have hf : ∀ x, EvL x → lineM x ≠ s := fun x hx e => by
      have h1 := hx.p
      rw [key x hx e] at h1
      exact absurd (h1.symm.trans hpp) (by simp)
    (repeat' (first | refine Wg.nil ?_ | (refine Wg.qh rfl rfl rfl ?_; refine Wq.guardN rfl rfl ?_; try refine Wq.nil ?_) | (refine Wg.qh rfl rfl rfl ?_; (try refine Wq.guardY rfl rfl ?_); (first | refine Wq.moveE (by conv => { lhs; whnf }) ?_ | refine Wq.assignE (by conv => { lhs; whnf }) ?_ | refine Wq.extract rfl rfl ?_ | refine Wq.pickTE rfl (by conv => { lhs; whnf }) ?_ | refine Wq.pickFE rfl (by conv => { lhs; whnf }) ?_ | refine Wq.notB rfl ?_ | refine Wq.lenS rfl ?_ | refine Wq.lenStr rfl ?_ | refine Wq.nilP rfl ?_ | refine Wq.fieldAddr rfl rfl ?_ | refine Wq.add rfl rfl (by omega) (by omega) ?_ | refine Wq.sub rfl rfl (by omega) (by omega) ?_ | refine Wq.mul rfl rfl (by omega) (by omega) ?_ | refine Wq.convI rfl ?_ | (refine Wq.lss rfl rfl (fun _ => ?_) (fun _ => ?_) <;> (first | (exfalso; omega) | (exfalso; contradiction) | skip)) | (refine Wq.leq rfl rfl (fun _ => ?_) (fun _ => ?_) <;> (first | (exfalso; omega) | (exfalso; contradiction) | skip)) | (refine Wq.gtr rfl rfl (fun _ => ?_) (fun _ => ?_) <;> (first | (exfalso; omega) | (exfalso; contradiction) | skip)) | (refine Wq.geq rfl rfl (fun _ => ?_) (fun _ => ?_) <;> (first | (exfalso; omega) | (exfalso; contradiction) | skip)) | (refine Wq.eql rfl rfl (fun _ => ?_) (fun _ => ?_) <;> (first | (exfalso; omega) | (exfalso; contradiction) | skip)) | (refine Wq.neq rfl rfl (fun _ => ?_) (fun _ => ?_) <;> (first | (exfalso; omega) | (exfalso; contradiction) | skip)) | (refine Wq.seql rfl rfl (fun _ => ?_) (fun _ => ?_) <;> (first | (exfalso; omega) | (exfalso; contradiction) | skip)) | (refine Wq.sneq rfl rfl (fun _ => ?_) (fun _ => ?_) <;> (first | (exfalso; omega) | (exfalso; contradiction) | skip))); all_goals (try refine Wq.nil ?_))))
    refine Wk.Wg.oneH rfl rfl rfl rfl rfl (Wl.storeB (o := 0) (new := evC ⟨k0, k6, k1, kd, p3, k4⟩) (bb.chg m3 (fun e => e)) rfl rfl rfl rfl (Nat.le_refl 6) (evC_one _) fun W9 b9 c9 s9 => ?_)
    have n9 : New w W9 := Chg.trans (nW.trans m3) c9 fun k hk e => by omega
    refine Wl.nil ⟨rfl, Chg.trans m3.any c9 fun _ _ e => e, ?_⟩
    (repeat' (first | refine Wg.nil ?_ | (refine Wg.qh rfl rfl rfl ?_; (try refine Wq.guardY rfl rfl ?_); (first | refine Wq.moveE (by conv => { lhs; whnf }) ?_ | refine Wq.assignE (by conv => { lhs; whnf }) ?_ | refine Wq.extract rfl rfl ?_ | refine Wq.pickTE rfl (by conv => { lhs; whnf }) ?_ | refine Wq.pickFE rfl (by conv => { lhs; whnf }) ?_ | refine Wq.notB rfl ?_ | refine Wq.lenS rfl ?_ | refine Wq.lenStr rfl ?_ | refine Wq.nilP rfl ?_ | refine Wq.fieldAddr rfl rfl ?_ | refine Wq.add rfl rfl (by omega) (by omega) ?_ | refine Wq.sub rfl rfl (by omega) (by omega) ?_ | refine Wq.mul rfl rfl (by omega) (by omega) ?_ | refine Wq.convI rfl ?_ | (refine Wq.lss rfl rfl (fun _ => ?_) (fun _ => ?_) <;> (first | (exfalso; omega) | (exfalso; contradiction) | skip)) | (refine Wq.leq rfl rfl (fun _ => ?_) (fun _ => ?_) <;> (first | (exfalso; omega) | (exfalso; contradiction) | skip)) | (refine Wq.gtr rfl rfl (fun _ => ?_) (fun _ => ?_) <;> (first | (exfalso; omega) | (exfalso; contradiction) | skip)) | (refine Wq.geq rfl rfl (fun _ => ?_) (fun _ => ?_) <;> (first | (exfalso; omega) | (exfalso; contradiction) | skip)) | (refine Wq.eql rfl rfl (fun _ => ?_) (fun _ => ?_) <;> (first | (exfalso; omega) | (exfalso; contradiction) | skip)) | (refine Wq.neq rfl rfl (fun _ => ?_) (fun _ => ?_) <;> (first | (exfalso; omega) | (exfalso; contradiction) | skip)) | (refine Wq.seql rfl rfl (fun _ => ?_) (fun _ => ?_) <;> (first | (exfalso; omega) | (exfalso; contradiction) | skip)) | (refine Wq.sneq rfl rfl (fun _ => ?_) (fun _ => ?_) <;> (first | (exfalso; omega) | (exfalso; contradiction) | skip))); all_goals (try refine Wq.nil ?_))))
    (repeat' (first | refine Qseq.normal ?_ | refine Wc.ret ?_))
    exact Qfn.retR (results2 rfl (rvOf_agg (e := 36) rfl rfl b9 rfl) (rvOf_tmp rfl)) ⟨_, rfl, ⟨⟨k0, k6, k1, kd, p3, k4⟩, false, rfl, fun e => (by cases e), fun _ => hf⟩, n9⟩
  | true =>
    by_cases hk00 : k0 = 0
    · have hf : ∀ x, EvL x → lineM x ≠ s := fun x hx e => by
        have h1 := hx.i0
        rw [key x hx e] at h1
        exact absurd h1 (by show ¬ 0 < k0; omega)
      (repeat' (first | refine Wg.nil ?_ | (refine Wg.qh rfl rfl rfl ?_; refine Wq.guardN rfl rfl ?_; try refine Wq.nil ?_) | (refine Wg.qh rfl rfl rfl ?_; (try refine Wq.guardY rfl rfl ?_); (first | refine Wq.moveE (by conv => { lhs; whnf }) ?_ | refine Wq.assignE (by conv => { lhs; whnf }) ?_ | refine Wq.extract rfl rfl ?_ | refine Wq.pickTE rfl (by conv => { lhs; whnf }) ?_ | refine Wq.pickFE rfl (by conv => { lhs; whnf }) ?_ | refine Wq.notB rfl ?_ | refine Wq.lenS rfl ?_ | refine Wq.lenStr rfl ?_ | refine Wq.nilP rfl ?_ | refine Wq.fieldAddr rfl rfl ?_ | refine Wq.add rfl rfl (by omega) (by omega) ?_ | refine Wq.sub rfl rfl (by omega) (by omega) ?_ | refine Wq.mul rfl rfl (by omega) (by omega) ?_ | refine Wq.convI rfl ?_ | (refine Wq.lss rfl rfl (fun _ => ?_) (fun _ => ?_) <;> (first | (exfalso; omega) | (exfalso; contradiction) | skip)) | (refine Wq.leq rfl rfl (fun _ => ?_) (fun _ => ?_) <;> (first | (exfalso; omega) | (exfalso; contradiction) | skip)) | (refine Wq.gtr rfl rfl (fun _ => ?_) (fun _ => ?_) <;> (first | (exfalso; omega) | (exfalso; contradiction) | skip)) | (refine Wq.geq rfl rfl (fun _ => ?_) (fun _ => ?_) <;> (first | (exfalso; omega) | (exfalso; contradiction) | skip)) | (refine Wq.eql rfl rfl (fun _ => ?_) (fun _ => ?_) <;> (first | (exfalso; omega) | (exfalso; contradiction) | skip)) | (refine Wq.neq rfl rfl (fun _ => ?_) (fun _ => ?_) <;> (first | (exfalso; omega) | (exfalso; contradiction) | skip)) | (refine Wq.seql rfl rfl (fun _ => ?_) (fun _ => ?_) <;> (first | (exfalso; omega) | (exfalso; contradiction) | skip)) | (refine Wq.sneq rfl rfl (fun _ => ?_) (fun _ => ?_) <;> (first | (exfalso; omega) | (exfalso; contradiction) | skip))); all_goals (try refine Wq.nil ?_))))
      refine Wk.Wg.qh rfl rfl rfl (Wq.guardY rfl rfl (Wq.load1 (u := .int .u64 k0) rfl (fun W' c => (bxC W' c).cell (o := 0) rfl) (Wq.nil ?_)))
      (repeat' (first | refine Wg.nil ?_ | (refine Wg.qh rfl rfl rfl ?_; refine Wq.guardN rfl rfl ?_; try refine Wq.nil ?_) | (refine Wg.qh rfl rfl rfl ?_; (try refine Wq.guardY rfl rfl ?_); (first | refine Wq.moveE (by conv => { lhs; whnf }) ?_ | refine Wq.assignE (by conv => { lhs; whnf }) ?_ | refine Wq.extract rfl rfl ?_ | refine Wq.pickTE rfl (by conv => { lhs; whnf }) ?_ | refine Wq.pickFE rfl (by conv => { lhs; whnf }) ?_ | refine Wq.notB rfl ?_ | refine Wq.lenS rfl ?_ | refine Wq.lenStr rfl ?_ | refine Wq.nilP rfl ?_ | refine Wq.fieldAddr rfl rfl ?_ | refine Wq.add rfl rfl (by omega) (by omega) ?_ | refine Wq.sub rfl rfl (by omega) (by omega) ?_ | refine Wq.mul rfl rfl (by omega) (by omega) ?_ | refine Wq.convI rfl ?_ | (refine Wq.lss rfl rfl (fun _ => ?_) (fun _ => ?_) <;> (first | (exfalso; omega) | (exfalso; contradiction) | skip)) | (refine Wq.leq rfl rfl (fun _ => ?_) (fun _ => ?_) <;> (first | (exfalso; omega) | (exfalso; contradiction) | skip)) | (refine Wq.gtr rfl rfl (fun _ => ?_) (fun _ => ?_) <;> (first | (exfalso; omega) | (exfalso; contradiction) | skip)) | (refine Wq.geq rfl rfl (fun _ => ?_) (fun _ => ?_) <;> (first | (exfalso; omega) | (exfalso; contradiction) | skip)) | (refine Wq.eql rfl rfl (fun _ => ?_) (fun _ => ?_) <;> (first | (exfalso; omega) | (exfalso; contradiction) | skip)) | (refine Wq.neq rfl rfl (fun _ => ?_) (fun _ => ?_) <;> (first | (exfalso; omega) | (exfalso; contradiction) | skip)) | (refine Wq.seql rfl rfl (fun _ => ?_) (fun _ => ?_) <;> (first | (exfalso; omega) | (exfalso; contradiction) | skip)) | (refine Wq.sneq rfl rfl (fun _ => ?_) (fun _ => ?_) <;> (first | (exfalso; omega) | (exfalso; contradiction) | skip))); all_goals (try refine Wq.nil ?_))))
      refine Wk.Wg.oneH rfl rfl rfl rfl rfl (Wl.storeB (o := 0) (new := evC ⟨k0, k6, k1, kd, p3, k4⟩) (bb.chg m3 (fun e => e)) rfl rfl rfl rfl (Nat.le_refl 6) (evC_one _) fun W9 b9 c9 s9 => ?_)
      have n9 : New w W9 := Chg.trans (nW.trans m3) c9 fun k hk e => by omega
      refine Wl.nil ⟨rfl, Chg.trans m3.any c9 fun _ _ e => e, ?_⟩
      (repeat' (first | refine Wg.nil ?_ | (refine Wg.qh rfl rfl rfl ?_; (try refine Wq.guardY rfl rfl ?_); (first | refine Wq.moveE (by conv => { lhs; whnf }) ?_ | refine Wq.assignE (by conv => { lhs; whnf }) ?_ | refine Wq.extract rfl rfl ?_ | refine Wq.pickTE rfl (by conv => { lhs; whnf }) ?_ | refine Wq.pickFE rfl (by conv => { lhs; whnf }) ?_ | refine Wq.notB rfl ?_ | refine Wq.lenS rfl ?_ | refine Wq.lenStr rfl ?_ | refine Wq.nilP rfl ?_ | refine Wq.fieldAddr rfl rfl ?_ | refine Wq.add rfl rfl (by omega) (by omega) ?_ | refine Wq.sub rfl rfl (by omega) (by omega) ?_ | refine Wq.mul rfl rfl (by omega) (by omega) ?_ | refine Wq.convI rfl ?_ | (refine Wq.lss rfl rfl (fun _ => ?_) (fun _ => ?_) <;> (first | (exfalso; omega) | (exfalso; contradiction) | skip)) | (refine Wq.leq rfl rfl (fun _ => ?_) (fun _ => ?_) <;> (first | (exfalso; omega) | (exfalso; contradiction) | skip)) | (refine Wq.gtr rfl rfl (fun _ => ?_) (fun _ => ?_) <;> (first | (exfalso; omega) | (exfalso; contradiction) | skip)) | (refine Wq.geq rfl rfl (fun _ => ?_) (fun _ => ?_) <;> (first | (exfalso; omega) | (exfalso; contradiction) | skip)) | (refine Wq.eql rfl rfl (fun _ => ?_) (fun _ => ?_) <;> (first | (exfalso; omega) | (exfalso; contradiction) | skip)) | (refine Wq.neq rfl rfl (fun _ => ?_) (fun _ => ?_) <;> (first | (exfalso; omega) | (exfalso; contradiction) | skip)) | (refine Wq.seql rfl rfl (fun _ => ?_) (fun _ => ?_) <;> (first | (exfalso; omega) | (exfalso; contradiction) | skip)) | (refine Wq.sneq rfl rfl (fun _ => ?_) (fun _ => ?_) <;> (first | (exfalso; omega) | (exfalso; contradiction) | skip))); all_goals (try refine Wq.nil ?_))))
      (repeat' (first | refine Qseq.normal ?_ | refine Wc.ret ?_))
      exact Qfn.retR (results2 rfl (rvOf_agg (e := 36) rfl rfl b9 rfl) (rvOf_tmp rfl)) ⟨_, rfl, ⟨⟨k0, k6, k1, kd, p3, k4⟩, false, rfl, fun e => (by cases e), fun _ => hf⟩, n9⟩
    by_cases hk0m : k0 ≤ 4611686018427387904
    rotate_left
    · have hf : ∀ x, EvL x → lineM x ≠ s := fun x hx e => by
        have h1 := hx.i1
        rw [key x hx e] at h1
        exact absurd h1 hk0m
      (repeat' (first | refine Wg.nil ?_ | (refine Wg.qh rfl rfl rfl ?_; refine Wq.guardN rfl rfl ?_; try refine Wq.nil ?_) | (refine Wg.qh rfl rfl rfl ?_; (try refine Wq.guardY rfl rfl ?_); (first | refine Wq.moveE (by conv => { lhs; whnf }) ?_ | refine Wq.assignE (by conv => { lhs; whnf }) ?_ | refine Wq.extract rfl rfl ?_ | refine Wq.pickTE rfl (by conv => { lhs; whnf }) ?_ | refine Wq.pickFE rfl (by conv => { lhs; whnf }) ?_ | refine Wq.notB rfl ?_ | refine Wq.lenS rfl ?_ | refine Wq.lenStr rfl ?_ | refine Wq.nilP rfl ?_ | refine Wq.fieldAddr rfl rfl ?_ | refine Wq.add rfl rfl (by omega) (by omega) ?_ | refine Wq.sub rfl rfl (by omega) (by omega) ?_ | refine Wq.mul rfl rfl (by omega) (by omega) ?_ | refine Wq.convI rfl ?_ | (refine Wq.lss rfl rfl (fun _ => ?_) (fun _ => ?_) <;> (first | (exfalso; omega) | (exfalso; contradiction) | skip)) | (refine Wq.leq rfl rfl (fun _ => ?_) (fun _ => ?_) <;> (first | (exfalso; omega) | (exfalso; contradiction) | skip)) | (refine Wq.gtr rfl rfl (fun _ => ?_) (fun _ => ?_) <;> (first | (exfalso; omega) | (exfalso; contradiction) | skip)) | (refine Wq.geq rfl rfl (fun _ => ?_) (fun _ => ?_) <;> (first | (exfalso; omega) | (exfalso; contradiction) | skip)) | (refine Wq.eql rfl rfl (fun _ => ?_) (fun _ => ?_) <;> (first | (exfalso; omega) | (exfalso; contradiction) | skip)) | (refine Wq.neq rfl rfl (fun _ => ?_) (fun _ => ?_) <;> (first | (exfalso; omega) | (exfalso; contradiction) | skip)) | (refine Wq.seql rfl rfl (fun _ => ?_) (fun _ => ?_) <;> (first | (exfalso; omega) | (exfalso; contradiction) | skip)) | (refine Wq.sneq rfl rfl (fun _ => ?_) (fun _ => ?_) <;> (first | (exfalso; omega) | (exfalso; contradiction) | skip))); all_goals (try refine Wq.nil ?_))))
      refine Wk.Wg.qh rfl rfl rfl (Wq.guardY rfl rfl (Wq.load1 (u := .int .u64 k0) rfl (fun W' c => (bxC W' c).cell (o := 0) rfl) (Wq.nil ?_)))
      (repeat' (first | refine Wg.nil ?_ | (refine Wg.qh rfl rfl rfl ?_; refine Wq.guardN rfl rfl ?_; try refine Wq.nil ?_) | (refine Wg.qh rfl rfl rfl ?_; (try refine Wq.guardY rfl rfl ?_); (first | refine Wq.moveE (by conv => { lhs; whnf }) ?_ | refine Wq.assignE (by conv => { lhs; whnf }) ?_ | refine Wq.extract rfl rfl ?_ | refine Wq.pickTE rfl (by conv => { lhs; whnf }) ?_ | refine Wq.pickFE rfl (by conv => { lhs; whnf }) ?_ | refine Wq.notB rfl ?_ | refine Wq.lenS rfl ?_ | refine Wq.lenStr rfl ?_ | refine Wq.nilP rfl ?_ | refine Wq.fieldAddr rfl rfl ?_ | refine Wq.add rfl rfl (by omega) (by omega) ?_ | refine Wq.sub rfl rfl (by omega) (by omega) ?_ | refine Wq.mul rfl rfl (by omega) (by omega) ?_ | refine Wq.convI rfl ?_ | (refine Wq.lss rfl rfl (fun _ => ?_) (fun _ => ?_) <;> (first | (exfalso; omega) | (exfalso; contradiction) | skip)) | (refine Wq.leq rfl rfl (fun _ => ?_) (fun _ => ?_) <;> (first | (exfalso; omega) | (exfalso; contradiction) | skip)) | (refine Wq.gtr rfl rfl (fun _ => ?_) (fun _ => ?_) <;> (first | (exfalso; omega) | (exfalso; contradiction) | skip)) | (refine Wq.geq rfl rfl (fun _ => ?_) (fun _ => ?_) <;> (first | (exfalso; omega) | (exfalso; contradiction) | skip)) | (refine Wq.eql rfl rfl (fun _ => ?_) (fun _ => ?_) <;> (first | (exfalso; omega) | (exfalso; contradiction) | skip)) | (refine Wq.neq rfl rfl (fun _ => ?_) (fun _ => ?_) <;> (first | (exfalso; omega) | (exfalso; contradiction) | skip)) | (refine Wq.seql rfl rfl (fun _ => ?_) (fun _ => ?_) <;> (first | (exfalso; omega) | (exfalso; contradiction) | skip)) | (refine Wq.sneq rfl rfl (fun _ => ?_) (fun _ => ?_) <;> (first | (exfalso; omega) | (exfalso; contradiction) | skip))); all_goals (try refine Wq.nil ?_))))
      refine Wk.Wg.qh rfl rfl rfl (Wq.guardY rfl rfl (Wq.load1 (u := .int .u64 k0) rfl (fun W' c => (bxC W' c).cell (o := 0) rfl) (Wq.nil ?_)))
      (repeat' (first | refine Wg.nil ?_ | (refine Wg.qh rfl rfl rfl ?_; refine Wq.guardN rfl rfl ?_; try refine Wq.nil ?_) | (refine Wg.qh rfl rfl rfl ?_; (try refine Wq.guardY rfl rfl ?_); (first | refine Wq.moveE (by conv => { lhs; whnf }) ?_ | refine Wq.assignE (by conv => { lhs; whnf }) ?_ | refine Wq.extract rfl rfl ?_ | refine Wq.pickTE rfl (by conv => { lhs; whnf }) ?_ | refine Wq.pickFE rfl (by conv => { lhs; whnf }) ?_ | refine Wq.notB rfl ?_ | refine Wq.lenS rfl ?_ | refine Wq.lenStr rfl ?_ | refine Wq.nilP rfl ?_ | refine Wq.fieldAddr rfl rfl ?_ | refine Wq.add rfl rfl (by omega) (by omega) ?_ | refine Wq.sub rfl rfl (by omega) (by omega) ?_ | refine Wq.mul rfl rfl (by omega) (by omega) ?_ | refine Wq.convI rfl ?_ | (refine Wq.lss rfl rfl (fun _ => ?_) (fun _ => ?_) <;> (first | (exfalso; omega) | (exfalso; contradiction) | skip)) | (refine Wq.leq rfl rfl (fun _ => ?_) (fun _ => ?_) <;> (first | (exfalso; omega) | (exfalso; contradiction) | skip)) | (refine Wq.gtr rfl rfl (fun _ => ?_) (fun _ => ?_) <;> (first | (exfalso; omega) | (exfalso; contradiction) | skip)) | (refine Wq.geq rfl rfl (fun _ => ?_) (fun _ => ?_) <;> (first | (exfalso; omega) | (exfalso; contradiction) | skip)) | (refine Wq.eql rfl rfl (fun _ => ?_) (fun _ => ?_) <;> (first | (exfalso; omega) | (exfalso; contradiction) | skip)) | (refine Wq.neq rfl rfl (fun _ => ?_) (fun _ => ?_) <;> (first | (exfalso; omega) | (exfalso; contradiction) | skip)) | (refine Wq.seql rfl rfl (fun _ => ?_) (fun _ => ?_) <;> (first | (exfalso; omega) | (exfalso; contradiction) | skip)) | (refine Wq.sneq rfl rfl (fun _ => ?_) (fun _ => ?_) <;> (first | (exfalso; omega) | (exfalso; contradiction) | skip))); all_goals (try refine Wq.nil ?_))))
      refine Wk.Wg.oneH rfl rfl rfl rfl rfl (Wl.storeB (o := 0) (new := evC ⟨k0, k6, k1, kd, p3, k4⟩) (bb.chg m3 (fun e => e)) rfl rfl rfl rfl (Nat.le_refl 6) (evC_one _) fun W9 b9 c9 s9 => ?_)
      have n9 : New w W9 := Chg.trans (nW.trans m3) c9 fun k hk e => by omega
      refine Wl.nil ⟨rfl, Chg.trans m3.any c9 fun _ _ e => e, ?_⟩
      (repeat' (first | refine Wg.nil ?_ | (refine Wg.qh rfl rfl rfl ?_; (try refine Wq.guardY rfl rfl ?_); (first | refine Wq.moveE (by conv => { lhs; whnf }) ?_ | refine Wq.assignE (by conv => { lhs; whnf }) ?_ | refine Wq.extract rfl rfl ?_ | refine Wq.pickTE rfl (by conv => { lhs; whnf }) ?_ | refine Wq.pickFE rfl (by conv => { lhs; whnf }) ?_ | refine Wq.notB rfl ?_ | refine Wq.lenS rfl ?_ | refine Wq.lenStr rfl ?_ | refine Wq.nilP rfl ?_ | refine Wq.fieldAddr rfl rfl ?_ | refine Wq.add rfl rfl (by omega) (by omega) ?_ | refine Wq.sub rfl rfl (by omega) (by omega) ?_ | refine Wq.mul rfl rfl (by omega) (by omega) ?_ | refine Wq.convI rfl ?_ | (refine Wq.lss rfl rfl (fun _ => ?_) (fun _ => ?_) <;> (first | (exfalso; omega) | (exfalso; contradiction) | skip)) | (refine Wq.leq rfl rfl (fun _ => ?_) (fun _ => ?_) <;> (first | (exfalso; omega) | (exfalso; contradiction) | skip)) | (refine Wq.gtr rfl rfl (fun _ => ?_) (fun _ => ?_) <;> (first | (exfalso; omega) | (exfalso; contradiction) | skip)) | (refine Wq.geq rfl rfl (fun _ => ?_) (fun _ => ?_) <;> (first | (exfalso; omega) | (exfalso; contradiction) | skip)) | (refine Wq.eql rfl rfl (fun _ => ?_) (fun _ => ?_) <;> (first | (exfalso; omega) | (exfalso; contradiction) | skip)) | (refine Wq.neq rfl rfl (fun _ => ?_) (fun _ => ?_) <;> (first | (exfalso; omega) | (exfalso; contradiction) | skip)) | (refine Wq.seql rfl rfl (fun _ => ?_) (fun _ => ?_) <;> (first | (exfalso; omega) | (exfalso; contradiction) | skip)) | (refine Wq.sneq rfl rfl (fun _ => ?_) (fun _ => ?_) <;> (first | (exfalso; omega) | (exfalso; contradiction) | skip))); all_goals (try refine Wq.nil ?_))))
      (repeat' (first | refine Qseq.normal ?_ | refine Wc.ret ?_))
      exact Qfn.retR (results2 rfl (rvOf_agg (e := 36) rfl rfl b9 rfl) (rvOf_tmp rfl)) ⟨_, rfl, ⟨⟨k0, k6, k1, kd, p3, k4⟩, false, rfl, fun e => (by cases e), fun _ => hf⟩, n9⟩
    by_cases hk6m : k6 < k0
    rotate_left
    · have hf : ∀ x, EvL x → lineM x ≠ s := fun x hx e => by
        have h1 := hx.c
        rw [key x hx e] at h1
        exact absurd h1 hk6m
      (repeat' (first | refine Wg.nil ?_ | (refine Wg.qh rfl rfl rfl ?_; refine Wq.guardN rfl rfl ?_; try refine Wq.nil ?_) | (refine Wg.qh rfl rfl rfl ?_; (try refine Wq.guardY rfl rfl ?_); (first | refine Wq.moveE (by conv => { lhs; whnf }) ?_ | refine Wq.assignE (by conv => { lhs; whnf }) ?_ | refine Wq.extract rfl rfl ?_ | refine Wq.pickTE rfl (by conv => { lhs; whnf }) ?_ | refine Wq.pickFE rfl (by conv => { lhs; whnf }) ?_ | refine Wq.notB rfl ?_ | refine Wq.lenS rfl ?_ | refine Wq.lenStr rfl ?_ | refine Wq.nilP rfl ?_ | refine Wq.fieldAddr rfl rfl ?_ | refine Wq.add rfl rfl (by omega) (by omega) ?_ | refine Wq.sub rfl rfl (by omega) (by omega) ?_ | refine Wq.mul rfl rfl (by omega) (by omega) ?_ | refine Wq.convI rfl ?_ | (refine Wq.lss rfl rfl (fun _ => ?_) (fun _ => ?_) <;> (first | (exfalso; omega) | (exfalso; contradiction) | skip)) | (refine Wq.leq rfl rfl (fun _ => ?_) (fun _ => ?_) <;> (first | (exfalso; omega) | (exfalso; contradiction) | skip)) | (refine Wq.gtr rfl rfl (fun _ => ?_) (fun _ => ?_) <;> (first | (exfalso; omega) | (exfalso; contradiction) | skip)) | (refine Wq.geq rfl rfl (fun _ => ?_) (fun _ => ?_) <;> (first | (exfalso; omega) | (exfalso; contradiction) | skip)) | (refine Wq.eql rfl rfl (fun _ => ?_) (fun _ => ?_) <;> (first | (exfalso; omega) | (exfalso; contradiction) | skip)) | (refine Wq.neq rfl rfl (fun _ => ?_) (fun _ => ?_) <;> (first | (exfalso; omega) | (exfalso; contradiction) | skip)) | (refine Wq.seql rfl rfl (fun _ => ?_) (fun _ => ?_) <;> (first | (exfalso; omega) | (exfalso; contradiction) | skip)) | (refine Wq.sneq rfl rfl (fun _ => ?_) (fun _ => ?_) <;> (first | (exfalso; omega) | (exfalso; contradiction) | skip))); all_goals (try refine Wq.nil ?_))))
      refine Wk.Wg.qh rfl rfl rfl (Wq.guardY rfl rfl (Wq.load1 (u := .int .u64 k0) rfl (fun W' c => (bxC W' c).cell (o := 0) rfl) (Wq.nil ?_)))
      (repeat' (first | refine Wg.nil ?_ | (refine Wg.qh rfl rfl rfl ?_; refine Wq.guardN rfl rfl ?_; try refine Wq.nil ?_) | (refine Wg.qh rfl rfl rfl ?_; (try refine Wq.guardY rfl rfl ?_); (first | refine Wq.moveE (by conv => { lhs; whnf }) ?_ | refine Wq.assignE (by conv => { lhs; whnf }) ?_ | refine Wq.extract rfl rfl ?_ | refine Wq.pickTE rfl (by conv => { lhs; whnf }) ?_ | refine Wq.pickFE rfl (by conv => { lhs; whnf }) ?_ | refine Wq.notB rfl ?_ | refine Wq.lenS rfl ?_ | refine Wq.lenStr rfl ?_ | refine Wq.nilP rfl ?_ | refine Wq.fieldAddr rfl rfl ?_ | refine Wq.add rfl rfl (by omega) (by omega) ?_ | refine Wq.sub rfl rfl (by omega) (by omega) ?_ | refine Wq.mul rfl rfl (by omega) (by omega) ?_ | refine Wq.convI rfl ?_ | (refine Wq.lss rfl rfl (fun _ => ?_) (fun _ => ?_) <;> (first | (exfalso; omega) | (exfalso; contradiction) | skip)) | (refine Wq.leq rfl rfl (fun _ => ?_) (fun _ => ?_) <;> (first | (exfalso; omega) | (exfalso; contradiction) | skip)) | (refine Wq.gtr rfl rfl (fun _ => ?_) (fun _ => ?_) <;> (first | (exfalso; omega) | (exfalso; contradiction) | skip)) | (refine Wq.geq rfl rfl (fun _ => ?_) (fun _ => ?_) <;> (first | (exfalso; omega) | (exfalso; contradiction) | skip)) | (refine Wq.eql rfl rfl (fun _ => ?_) (fun _ => ?_) <;> (first | (exfalso; omega) | (exfalso; contradiction) | skip)) | (refine Wq.neq rfl rfl (fun _ => ?_) (fun _ => ?_) <;> (first | (exfalso; omega) | (exfalso; contradiction) | skip)) | (refine Wq.seql rfl rfl (fun _ => ?_) (fun _ => ?_) <;> (first | (exfalso; omega) | (exfalso; contradiction) | skip)) | (refine Wq.sneq rfl rfl (fun _ => ?_) (fun _ => ?_) <;> (first | (exfalso; omega) | (exfalso; contradiction) | skip))); all_goals (try refine Wq.nil ?_))))
      refine Wk.Wg.qh rfl rfl rfl (Wq.guardY rfl rfl (Wq.load1 (u := .int .u64 k0) rfl (fun W' c => (bxC W' c).cell (o := 0) rfl) (Wq.nil ?_)))
      (repeat' (first | refine Wg.nil ?_ | (refine Wg.qh rfl rfl rfl ?_; refine Wq.guardN rfl rfl ?_; try refine Wq.nil ?_) | (refine Wg.qh rfl rfl rfl ?_; (try refine Wq.guardY rfl rfl ?_); (first | refine Wq.moveE (by conv => { lhs; whnf }) ?_ | refine Wq.assignE (by conv => { lhs; whnf }) ?_ | refine Wq.extract rfl rfl ?_ | refine Wq.pickTE rfl (by conv => { lhs; whnf }) ?_ | refine Wq.pickFE rfl (by conv => { lhs; whnf }) ?_ | refine Wq.notB rfl ?_ | refine Wq.lenS rfl ?_ | refine Wq.lenStr rfl ?_ | refine Wq.nilP rfl ?_ | refine Wq.fieldAddr rfl rfl ?_ | refine Wq.add rfl rfl (by omega) (by omega) ?_ | refine Wq.sub rfl rfl (by omega) (by omega) ?_ | refine Wq.mul rfl rfl (by omega) (by omega) ?_ | refine Wq.convI rfl ?_ | (refine Wq.lss rfl rfl (fun _ => ?_) (fun _ => ?_) <;> (first | (exfalso; omega) | (exfalso; contradiction) | skip)) | (refine Wq.leq rfl rfl (fun _ => ?_) (fun _ => ?_) <;> (first | (exfalso; omega) | (exfalso; contradiction) | skip)) | (refine Wq.gtr rfl rfl (fun _ => ?_) (fun _ => ?_) <;> (first | (exfalso; omega) | (exfalso; contradiction) | skip)) | (refine Wq.geq rfl rfl (fun _ => ?_) (fun _ => ?_) <;> (first | (exfalso; omega) | (exfalso; contradiction) | skip)) | (refine Wq.eql rfl rfl (fun _ => ?_) (fun _ => ?_) <;> (first | (exfalso; omega) | (exfalso; contradiction) | skip)) | (refine Wq.neq rfl rfl (fun _ => ?_) (fun _ => ?_) <;> (first | (exfalso; omega) | (exfalso; contradiction) | skip)) | (refine Wq.seql rfl rfl (fun _ => ?_) (fun _ => ?_) <;> (first | (exfalso; omega) | (exfalso; contradiction) | skip)) | (refine Wq.sneq rfl rfl (fun _ => ?_) (fun _ => ?_) <;> (first | (exfalso; omega) | (exfalso; contradiction) | skip))); all_goals (try refine Wq.nil ?_))))
      refine Wk.Wg.qh rfl rfl rfl (Wq.guardY rfl rfl (Wq.load1 (u := .int .u64 k6) rfl (fun W' c => (bxC W' c).cell (o := 1) rfl) (Wq.nil ?_)))
      (repeat' (first | refine Wg.nil ?_ | (refine Wg.qh rfl rfl rfl ?_; refine Wq.guardN rfl rfl ?_; try refine Wq.nil ?_) | (refine Wg.qh rfl rfl rfl ?_; (try refine Wq.guardY rfl rfl ?_); (first | refine Wq.moveE (by conv => { lhs; whnf }) ?_ | refine Wq.assignE (by conv => { lhs; whnf }) ?_ | refine Wq.extract rfl rfl ?_ | refine Wq.pickTE rfl (by conv => { lhs; whnf }) ?_ | refine Wq.pickFE rfl (by conv => { lhs; whnf }) ?_ | refine Wq.notB rfl ?_ | refine Wq.lenS rfl ?_ | refine Wq.lenStr rfl ?_ | refine Wq.nilP rfl ?_ | refine Wq.fieldAddr rfl rfl ?_ | refine Wq.add rfl rfl (by omega) (by omega) ?_ | refine Wq.sub rfl rfl (by omega) (by omega) ?_ | refine Wq.mul rfl rfl (by omega) (by omega) ?_ | refine Wq.convI rfl ?_ | (refine Wq.lss rfl rfl (fun _ => ?_) (fun _ => ?_) <;> (first | (exfalso; omega) | (exfalso; contradiction) | skip)) | (refine Wq.leq rfl rfl (fun _ => ?_) (fun _ => ?_) <;> (first | (exfalso; omega) | (exfalso; contradiction) | skip)) | (refine Wq.gtr rfl rfl (fun _ => ?_) (fun _ => ?_) <;> (first | (exfalso; omega) | (exfalso; contradiction) | skip)) | (refine Wq.geq rfl rfl (fun _ => ?_) (fun _ => ?_) <;> (first | (exfalso; omega) | (exfalso; contradiction) | skip)) | (refine Wq.eql rfl rfl (fun _ => ?_) (fun _ => ?_) <;> (first | (exfalso; omega) | (exfalso; contradiction) | skip)) | (refine Wq.neq rfl rfl (fun _ => ?_) (fun _ => ?_) <;> (first | (exfalso; omega) | (exfalso; contradiction) | skip)) | (refine Wq.seql rfl rfl (fun _ => ?_) (fun _ => ?_) <;> (first | (exfalso; omega) | (exfalso; contradiction) | skip)) | (refine Wq.sneq rfl rfl (fun _ => ?_) (fun _ => ?_) <;> (first | (exfalso; omega) | (exfalso; contradiction) | skip))); all_goals (try refine Wq.nil ?_))))
      refine Wk.Wg.qh rfl rfl rfl (Wq.guardY rfl rfl (Wq.load1 (u := .int .u64 k0) rfl (fun W' c => (bxC W' c).cell (o := 0) rfl) (Wq.nil ?_)))
      (repeat' (first | refine Wg.nil ?_ | (refine Wg.qh rfl rfl rfl ?_; refine Wq.guardN rfl rfl ?_; try refine Wq.nil ?_) | (refine Wg.qh rfl rfl rfl ?_; (try refine Wq.guardY rfl rfl ?_); (first | refine Wq.moveE (by conv => { lhs; whnf }) ?_ | refine Wq.assignE (by conv => { lhs; whnf }) ?_ | refine Wq.extract rfl rfl ?_ | refine Wq.pickTE rfl (by conv => { lhs; whnf }) ?_ | refine Wq.pickFE rfl (by conv => { lhs; whnf }) ?_ | refine Wq.notB rfl ?_ | refine Wq.lenS rfl ?_ | refine Wq.lenStr rfl ?_ | refine Wq.nilP rfl ?_ | refine Wq.fieldAddr rfl rfl ?_ | refine Wq.add rfl rfl (by omega) (by omega) ?_ | refine Wq.sub rfl rfl (by omega) (by omega) ?_ | refine Wq.mul rfl rfl (by omega) (by omega) ?_ | refine Wq.convI rfl ?_ | (refine Wq.lss rfl rfl (fun _ => ?_) (fun _ => ?_) <;> (first | (exfalso; omega) | (exfalso; contradiction) | skip)) | (refine Wq.leq rfl rfl (fun _ => ?_) (fun _ => ?_) <;> (first | (exfalso; omega) | (exfalso; contradiction) | skip)) | (refine Wq.gtr rfl rfl (fun _ => ?_) (fun _ => ?_) <;> (first | (exfalso; omega) | (exfalso; contradiction) | skip)) | (refine Wq.geq rfl rfl (fun _ => ?_) (fun _ => ?_) <;> (first | (exfalso; omega) | (exfalso; contradiction) | skip)) | (refine Wq.eql rfl rfl (fun _ => ?_) (fun _ => ?_) <;> (first | (exfalso; omega) | (exfalso; contradiction) | skip)) | (refine Wq.neq rfl rfl (fun _ => ?_) (fun _ => ?_) <;> (first | (exfalso; omega) | (exfalso; contradiction) | skip)) | (refine Wq.seql rfl rfl (fun _ => ?_) (fun _ => ?_) <;> (first | (exfalso; omega) | (exfalso; contradiction) | skip)) | (refine Wq.sneq rfl rfl (fun _ => ?_) (fun _ => ?_) <;> (first | (exfalso; omega) | (exfalso; contradiction) | skip))); all_goals (try refine Wq.nil ?_))))
      refine Wk.Wg.oneH rfl rfl rfl rfl rfl (Wl.storeB (o := 0) (new := evC ⟨k0, k6, k1, kd, p3, k4⟩) (bb.chg m3 (fun e => e)) rfl rfl rfl rfl (Nat.le_refl 6) (evC_one _) fun W9 b9 c9 s9 => ?_)
      have n9 : New w W9 := Chg.trans (nW.trans m3) c9 fun k hk e => by omega
      refine Wl.nil ⟨rfl, Chg.trans m3.any c9 fun _ _ e => e, ?_⟩
      (repeat' (first | refine Wg.nil ?_ | (refine Wg.qh rfl rfl rfl ?_; (try refine Wq.guardY rfl rfl ?_); (first | refine Wq.moveE (by conv => { lhs; whnf }) ?_ | refine Wq.assignE (by conv => { lhs; whnf }) ?_ | refine Wq.extract rfl rfl ?_ | refine Wq.pickTE rfl (by conv => { lhs; whnf }) ?_ | refine Wq.pickFE rfl (by conv => { lhs; whnf }) ?_ | refine Wq.notB rfl ?_ | refine Wq.lenS rfl ?_ | refine Wq.lenStr rfl ?_ | refine Wq.nilP rfl ?_ | refine Wq.fieldAddr rfl rfl ?_ | refine Wq.add rfl rfl (by omega) (by omega) ?_ | refine Wq.sub rfl rfl (by omega) (by omega) ?_ | refine Wq.mul rfl rfl (by omega) (by omega) ?_ | refine Wq.convI rfl ?_ | (refine Wq.lss rfl rfl (fun _ => ?_) (fun _ => ?_) <;> (first | (exfalso; omega) | (exfalso; contradiction) | skip)) | (refine Wq.leq rfl rfl (fun _ => ?_) (fun _ => ?_) <;> (first | (exfalso; omega) | (exfalso; contradiction) | skip)) | (refine Wq.gtr rfl rfl (fun _ => ?_) (fun _ => ?_) <;> (first | (exfalso; omega) | (exfalso; contradiction) | skip)) | (refine Wq.geq rfl rfl (fun _ => ?_) (fun _ => ?_) <;> (first | (exfalso; omega) | (exfalso; contradiction) | skip)) | (refine Wq.eql rfl rfl (fun _ => ?_) (fun _ => ?_) <;> (first | (exfalso; omega) | (exfalso; contradiction) | skip)) | (refine Wq.neq rfl rfl (fun _ => ?_) (fun _ => ?_) <;> (first | (exfalso; omega) | (exfalso; contradiction) | skip)) | (refine Wq.seql rfl rfl (fun _ => ?_) (fun _ => ?_) <;> (first | (exfalso; omega) | (exfalso; contradiction) | skip)) | (refine Wq.sneq rfl rfl (fun _ => ?_) (fun _ => ?_) <;> (first | (exfalso; omega) | (exfalso; contradiction) | skip))); all_goals (try refine Wq.nil ?_))))
      (repeat' (first | refine Qseq.normal ?_ | refine Wc.ret ?_))
      exact Qfn.retR (results2 rfl (rvOf_agg (e := 36) rfl rfl b9 rfl) (rvOf_tmp rfl)) ⟨_, rfl, ⟨⟨k0, k6, k1, kd, p3, k4⟩, false, rfl, fun e => (by cases e), fun _ => hf⟩, n9⟩
    have hEv : EvL ⟨k0, k6, k1, kd, p3, k4⟩ := ⟨hyW, fun e => (by have h : nameK kd = [] := e; rw [nameK_nil] at h; omega), hpp, (by show 0 < k0; omega), hk0m, hk6m⟩
    (repeat' (first | refine Wg.nil ?_ | (refine Wg.qh rfl rfl rfl ?_; refine Wq.guardN rfl rfl ?_; try refine Wq.nil ?_) | (refine Wg.qh rfl rfl rfl ?_; (try refine Wq.guardY rfl rfl ?_); (first | refine Wq.moveE (by conv => { lhs; whnf }) ?_ | refine Wq.assignE (by conv => { lhs; whnf }) ?_ | refine Wq.extract rfl rfl ?_ | refine Wq.pickTE rfl (by conv => { lhs; whnf }) ?_ | refine Wq.pickFE rfl (by conv => { lhs; whnf }) ?_ | refine Wq.notB rfl ?_ | refine Wq.lenS rfl ?_ | refine Wq.lenStr rfl ?_ | refine Wq.nilP rfl ?_ | refine Wq.fieldAddr rfl rfl ?_ | refine Wq.add rfl rfl (by omega) (by omega) ?_ | refine Wq.sub rfl rfl (by omega) (by omega) ?_ | refine Wq.mul rfl rfl (by omega) (by omega) ?_ | refine Wq.convI rfl ?_ | (refine Wq.lss rfl rfl (fun _ => ?_) (fun _ => ?_) <;> (first | (exfalso; omega) | (exfalso; contradiction) | skip)) | (refine Wq.leq rfl rfl (fun _ => ?_) (fun _ => ?_) <;> (first | (exfalso; omega) | (exfalso; contradiction) | skip)) | (refine Wq.gtr rfl rfl (fun _ => ?_) (fun _ => ?_) <;> (first | (exfalso; omega) | (exfalso; contradiction) | skip)) | (refine Wq.geq rfl rfl (fun _ => ?_) (fun _ => ?_) <;> (first | (exfalso; omega) | (exfalso; contradiction) | skip)) | (refine Wq.eql rfl rfl (fun _ => ?_) (fun _ => ?_) <;> (first | (exfalso; omega) | (exfalso; contradiction) | skip)) | (refine Wq.neq rfl rfl (fun _ => ?_) (fun _ => ?_) <;> (first | (exfalso; omega) | (exfalso; contradiction) | skip)) | (refine Wq.seql rfl rfl (fun _ => ?_) (fun _ => ?_) <;> (first | (exfalso; omega) | (exfalso; contradiction) | skip)) | (refine Wq.sneq rfl rfl (fun _ => ?_) (fun _ => ?_) <;> (first | (exfalso; omega) | (exfalso; contradiction) | skip))); all_goals (try refine Wq.nil ?_))))
    refine Wk.Wg.qh rfl rfl rfl (Wq.guardY rfl rfl (Wq.load1 (u := .int .u64 k0) rfl (fun W' c => (bxC W' c).cell (o := 0) rfl) (Wq.nil ?_)))
    (repeat' (first | refine Wg.nil ?_ | (refine Wg.qh rfl rfl rfl ?_; refine Wq.guardN rfl rfl ?_; try refine Wq.nil ?_) | (refine Wg.qh rfl rfl rfl ?_; (try refine Wq.guardY rfl rfl ?_); (first | refine Wq.moveE (by conv => { lhs; whnf }) ?_ | refine Wq.assignE (by conv => { lhs; whnf }) ?_ | refine Wq.extract rfl rfl ?_ | refine Wq.pickTE rfl (by conv => { lhs; whnf }) ?_ | refine Wq.pickFE rfl (by conv => { lhs; whnf }) ?_ | refine Wq.notB rfl ?_ | refine Wq.lenS rfl ?_ | refine Wq.lenStr rfl ?_ | refine Wq.nilP rfl ?_ | refine Wq.fieldAddr rfl rfl ?_ | refine Wq.add rfl rfl (by omega) (by omega) ?_ | refine Wq.sub rfl rfl (by omega) (by omega) ?_ | refine Wq.mul rfl rfl (by omega) (by omega) ?_ | refine Wq.convI rfl ?_ | (refine Wq.lss rfl rfl (fun _ => ?_) (fun _ => ?_) <;> (first | (exfalso; omega) | (exfalso; contradiction) | skip)) | (refine Wq.leq rfl rfl (fun _ => ?_) (fun _ => ?_) <;> (first | (exfalso; omega) | (exfalso; contradiction) | skip)) | (refine Wq.gtr rfl rfl (fun _ => ?_) (fun _ => ?_) <;> (first | (exfalso; omega) | (exfalso; contradiction) | skip)) | (refine Wq.geq rfl rfl (fun _ => ?_) (fun _ => ?_) <;> (first | (exfalso; omega) | (exfalso; contradiction) | skip)) | (refine Wq.eql rfl rfl (fun _ => ?_) (fun _ => ?_) <;> (first | (exfalso; omega) | (exfalso; contradiction) | skip)) | (refine Wq.neq rfl rfl (fun _ => ?_) (fun _ => ?_) <;> (first | (exfalso; omega) | (exfalso; contradiction) | skip)) | (refine Wq.seql rfl rfl (fun _ => ?_) (fun _ => ?_) <;> (first | (exfalso; omega) | (exfalso; contradiction) | skip)) | (refine Wq.sneq rfl rfl (fun _ => ?_) (fun _ => ?_) <;> (first | (exfalso; omega) | (exfalso; contradiction) | skip))); all_goals (try refine Wq.nil ?_))))
    refine Wk.Wg.qh rfl rfl rfl (Wq.guardY rfl rfl (Wq.load1 (u := .int .u64 k0) rfl (fun W' c => (bxC W' c).cell (o := 0) rfl) (Wq.nil ?_)))
    (repeat' (first | refine Wg.nil ?_ | (refine Wg.qh rfl rfl rfl ?_; refine Wq.guardN rfl rfl ?_; try refine Wq.nil ?_) | (refine Wg.qh rfl rfl rfl ?_; (try refine Wq.guardY rfl rfl ?_); (first | refine Wq.moveE (by conv => { lhs; whnf }) ?_ | refine Wq.assignE (by conv => { lhs; whnf }) ?_ | refine Wq.extract rfl rfl ?_ | refine Wq.pickTE rfl (by conv => { lhs; whnf }) ?_ | refine Wq.pickFE rfl (by conv => { lhs; whnf }) ?_ | refine Wq.notB rfl ?_ | refine Wq.lenS rfl ?_ | refine Wq.lenStr rfl ?_ | refine Wq.nilP rfl ?_ | refine Wq.fieldAddr rfl rfl ?_ | refine Wq.add rfl rfl (by omega) (by omega) ?_ | refine Wq.sub rfl rfl (by omega) (by omega) ?_ | refine Wq.mul rfl rfl (by omega) (by omega) ?_ | refine Wq.convI rfl ?_ | (refine Wq.lss rfl rfl (fun _ => ?_) (fun _ => ?_) <;> (first | (exfalso; omega) | (exfalso; contradiction) | skip)) | (refine Wq.leq rfl rfl (fun _ => ?_) (fun _ => ?_) <;> (first | (exfalso; omega) | (exfalso; contradiction) | skip)) | (refine Wq.gtr rfl rfl (fun _ => ?_) (fun _ => ?_) <;> (first | (exfalso; omega) | (exfalso; contradiction) | skip)) | (refine Wq.geq rfl rfl (fun _ => ?_) (fun _ => ?_) <;> (first | (exfalso; omega) | (exfalso; contradiction) | skip)) | (refine Wq.eql rfl rfl (fun _ => ?_) (fun _ => ?_) <;> (first | (exfalso; omega) | (exfalso; contradiction) | skip)) | (refine Wq.neq rfl rfl (fun _ => ?_) (fun _ => ?_) <;> (first | (exfalso; omega) | (exfalso; contradiction) | skip)) | (refine Wq.seql rfl rfl (fun _ => ?_) (fun _ => ?_) <;> (first | (exfalso; omega) | (exfalso; contradiction) | skip)) | (refine Wq.sneq rfl rfl (fun _ => ?_) (fun _ => ?_) <;> (first | (exfalso; omega) | (exfalso; contradiction) | skip))); all_goals (try refine Wq.nil ?_))))
    refine Wk.Wg.qh rfl rfl rfl (Wq.guardY rfl rfl (Wq.load1 (u := .int .u64 k6) rfl (fun W' c => (bxC W' c).cell (o := 1) rfl) (Wq.nil ?_)))
    (repeat' (first | refine Wg.nil ?_ | (refine Wg.qh rfl rfl rfl ?_; refine Wq.guardN rfl rfl ?_; try refine Wq.nil ?_) | (refine Wg.qh rfl rfl rfl ?_; (try refine Wq.guardY rfl rfl ?_); (first | refine Wq.moveE (by conv => { lhs; whnf }) ?_ | refine Wq.assignE (by conv => { lhs; whnf }) ?_ | refine Wq.extract rfl rfl ?_ | refine Wq.pickTE rfl (by conv => { lhs; whnf }) ?_ | refine Wq.pickFE rfl (by conv => { lhs; whnf }) ?_ | refine Wq.notB rfl ?_ | refine Wq.lenS rfl ?_ | refine Wq.lenStr rfl ?_ | refine Wq.nilP rfl ?_ | refine Wq.fieldAddr rfl rfl ?_ | refine Wq.add rfl rfl (by omega) (by omega) ?_ | refine Wq.sub rfl rfl (by omega) (by omega) ?_ | refine Wq.mul rfl rfl (by omega) (by omega) ?_ | refine Wq.convI rfl ?_ | (refine Wq.lss rfl rfl (fun _ => ?_) (fun _ => ?_) <;> (first | (exfalso; omega) | (exfalso; contradiction) | skip)) | (refine Wq.leq rfl rfl (fun _ => ?_) (fun _ => ?_) <;> (first | (exfalso; omega) | (exfalso; contradiction) | skip)) | (refine Wq.gtr rfl rfl (fun _ => ?_) (fun _ => ?_) <;> (first | (exfalso; omega) | (exfalso; contradiction) | skip)) | (refine Wq.geq rfl rfl (fun _ => ?_) (fun _ => ?_) <;> (first | (exfalso; omega) | (exfalso; contradiction) | skip)) | (refine Wq.eql rfl rfl (fun _ => ?_) (fun _ => ?_) <;> (first | (exfalso; omega) | (exfalso; contradiction) | skip)) | (refine Wq.neq rfl rfl (fun _ => ?_) (fun _ => ?_) <;> (first | (exfalso; omega) | (exfalso; contradiction) | skip)) | (refine Wq.seql rfl rfl (fun _ => ?_) (fun _ => ?_) <;> (first | (exfalso; omega) | (exfalso; contradiction) | skip)) | (refine Wq.sneq rfl rfl (fun _ => ?_) (fun _ => ?_) <;> (first | (exfalso; omega) | (exfalso; contradiction) | skip))); all_goals (try refine Wq.nil ?_))))
    refine Wk.Wg.qh rfl rfl rfl (Wq.guardY rfl rfl (Wq.load1 (u := .int .u64 k0) rfl (fun W' c => (bxC W' c).cell (o := 0) rfl) (Wq.nil ?_)))
    (repeat' (first | refine Wg.nil ?_ | (refine Wg.qh rfl rfl rfl ?_; refine Wq.guardN rfl rfl ?_; try refine Wq.nil ?_) | (refine Wg.qh rfl rfl rfl ?_; (try refine Wq.guardY rfl rfl ?_); (first | refine Wq.moveE (by conv => { lhs; whnf }) ?_ | refine Wq.assignE (by conv => { lhs; whnf }) ?_ | refine Wq.extract rfl rfl ?_ | refine Wq.pickTE rfl (by conv => { lhs; whnf }) ?_ | refine Wq.pickFE rfl (by conv => { lhs; whnf }) ?_ | refine Wq.notB rfl ?_ | refine Wq.lenS rfl ?_ | refine Wq.lenStr rfl ?_ | refine Wq.nilP rfl ?_ | refine Wq.fieldAddr rfl rfl ?_ | refine Wq.add rfl rfl (by omega) (by omega) ?_ | refine Wq.sub rfl rfl (by omega) (by omega) ?_ | refine Wq.mul rfl rfl (by omega) (by omega) ?_ | refine Wq.convI rfl ?_ | (refine Wq.lss rfl rfl (fun _ => ?_) (fun _ => ?_) <;> (first | (exfalso; omega) | (exfalso; contradiction) | skip)) | (refine Wq.leq rfl rfl (fun _ => ?_) (fun _ => ?_) <;> (first | (exfalso; omega) | (exfalso; contradiction) | skip)) | (refine Wq.gtr rfl rfl (fun _ => ?_) (fun _ => ?_) <;> (first | (exfalso; omega) | (exfalso; contradiction) | skip)) | (refine Wq.geq rfl rfl (fun _ => ?_) (fun _ => ?_) <;> (first | (exfalso; omega) | (exfalso; contradiction) | skip)) | (refine Wq.eql rfl rfl (fun _ => ?_) (fun _ => ?_) <;> (first | (exfalso; omega) | (exfalso; contradiction) | skip)) | (refine Wq.neq rfl rfl (fun _ => ?_) (fun _ => ?_) <;> (first | (exfalso; omega) | (exfalso; contradiction) | skip)) | (refine Wq.seql rfl rfl (fun _ => ?_) (fun _ => ?_) <;> (first | (exfalso; omega) | (exfalso; contradiction) | skip)) | (refine Wq.sneq rfl rfl (fun _ => ?_) (fun _ => ?_) <;> (first | (exfalso; omega) | (exfalso; contradiction) | skip))); all_goals (try refine Wq.nil ?_))))
    refine Wk.Wg.oneH rfl rfl rfl rfl rfl (Wl.storeB (o := 0) (new := evC ⟨k0, k6, k1, kd, p3, k4⟩) (bb.chg m3 (fun e => e)) rfl rfl rfl rfl (Nat.le_refl 6) (evC_one _) fun W9 b9 c9 s9 => ?_)
    have n9 : New w W9 := Chg.trans (nW.trans m3) c9 fun k hk e => by omega
    refine Wl.nil ⟨rfl, Chg.trans m3.any c9 fun _ _ e => e, ?_⟩
    (repeat' (first | refine Wg.nil ?_ | (refine Wg.qh rfl rfl rfl ?_; (try refine Wq.guardY rfl rfl ?_); (first | refine Wq.moveE (by conv => { lhs; whnf }) ?_ | refine Wq.assignE (by conv => { lhs; whnf }) ?_ | refine Wq.extract rfl rfl ?_ | refine Wq.pickTE rfl (by conv => { lhs; whnf }) ?_ | refine Wq.pickFE rfl (by conv => { lhs; whnf }) ?_ | refine Wq.notB rfl ?_ | refine Wq.lenS rfl ?_ | refine Wq.lenStr rfl ?_ | refine Wq.nilP rfl ?_ | refine Wq.fieldAddr rfl rfl ?_ | refine Wq.add rfl rfl (by omega) (by omega) ?_ | refine Wq.sub rfl rfl (by omega) (by omega) ?_ | refine Wq.mul rfl rfl (by omega) (by omega) ?_ | refine Wq.convI rfl ?_ | (refine Wq.lss rfl rfl (fun _ => ?_) (fun _ => ?_) <;> (first | (exfalso; omega) | (exfalso; contradiction) | skip)) | (refine Wq.leq rfl rfl (fun _ => ?_) (fun _ => ?_) <;> (first | (exfalso; omega) | (exfalso; contradiction) | skip)) | (refine Wq.gtr rfl rfl (fun _ => ?_) (fun _ => ?_) <;> (first | (exfalso; omega) | (exfalso; contradiction) | skip)) | (refine Wq.geq rfl rfl (fun _ => ?_) (fun _ => ?_) <;> (first | (exfalso; omega) | (exfalso; contradiction) | skip)) | (refine Wq.eql rfl rfl (fun _ => ?_) (fun _ => ?_) <;> (first | (exfalso; omega) | (exfalso; contradiction) | skip)) | (refine Wq.neq rfl rfl (fun _ => ?_) (fun _ => ?_) <;> (first | (exfalso; omega) | (exfalso; contradiction) | skip)) | (refine Wq.seql rfl rfl (fun _ => ?_) (fun _ => ?_) <;> (first | (exfalso; omega) | (exfalso; contradiction) | skip)) | (refine Wq.sneq rfl rfl (fun _ => ?_) (fun _ => ?_) <;> (first | (exfalso; omega) | (exfalso; contradiction) | skip))); all_goals (try refine Wq.nil ?_))))
    (repeat' (first | refine Qseq.normal ?_ | refine Wc.ret ?_))
    exact Qfn.retR (results2 rfl (rvOf_agg (e := 36) rfl rfl b9 rfl) (rvOf_tmp rfl)) ⟨_, rfl, ⟨⟨k0, k6, k1, kd, p3, k4⟩, true, rfl, fun _ => ⟨hEv, hline⟩, fun e => (by cases e)⟩, n9⟩
end Go.Proofs.YtjaendlcijmifaaDoor

namespace Go.Proofs.YtjaendlcijmifaaDoor
open Go Wk
open Go.RowKit (Below)
attribute [local irreducible] Go.Calls

section
variable {P : Program} {n : Nat} {ds : List Deferred} {F : Fr} {ops rest : List Oper} {d : Nat} {ty : TypeId} {pos : String} {aft : Array Edge} {C : World → Prop} {K : Fr → Prop}
theorem Wk.Wq.idxStr {x i : Operand} {t : TypeId} {l : List UInt8} {k : IntKind} {j : Int} {b : UInt8} [ht : Und P t .string] (hx : ev n F x = vs l) (hi : ev n F i = .int k j) (h0 : 0 ≤ j) (hj : l[j.toNat]? = some b)
    (c : Wq P n ds C K ops rest (upd F d (.int .u8 b.toNat))) : Wq P n ds C K ops (⟨some d, .index t x i, ty, pos, aft, none⟩ :: rest) F :=
  Wq.val (fun w _ => by simp only [execOp, hx, hi, Sem.run_bind, run_idxStr ht.h h0 hj, Result.andThen_ok, Sem.run_pure]) c
end
abbrev sgL : List UInt8 := [97, 98, 99, 100, 101, 102, 103, 104, 105, 106, 107, 108, 109, 110, 111, 112, 113, 114, 115, 116, 117, 118, 119, 120, 121, 122, 48, 49, 50, 51, 52, 53, 54, 55, 56, 57, 44, 46, 95, 43, 45, 64, 35, 63]
theorem ne_u8 {a b : UInt8} (h : ¬ ((a.toNat : Int) = (b.toNat : Int))) : a ≠ b := fun e => h (by rw [e])
theorem eq_u8 {a b : UInt8} (h : (a.toNat : Int) = (b.toNat : Int)) : a = b := UInt8.toNat_inj.1 (by omega)
set_option maxHeartbeats 1000000 in
theorem NameR_spec {w : World} {s : List UInt8} (hs : s.length ≤ 9223372036854775807) : Calls Tryd.prog 61 #[vs s] w (Ret fun r w' => r = .bool (nameOk s) ∧ New w w') := by
  have hsl : sgL.length = 44 := rfl
  have hsg : signs = sgL := signs_eq
  have hbad : ∀ {i : Nat} {c : UInt8}, s[i]? = some c → c ∉ sgL → Value.bool false = Value.bool (nameOk s) := fun hc h => by
    unfold nameOk
    rw [all_fail hc (Bool.eq_false_iff.2 fun e => h (hsg ▸ List.contains_iff_mem.1 e)), Bool.and_false]
  refine calls_of_Wc Tryd.func61 rfl Tryd.ntmps61 rfl ?_
  (repeat' (first | refine Wl.assignE (by conv => { lhs; whnf }) ?_ | refine Wl.nil ?_ | refine Qseq.normal ?_ | refine Wc.seq ?_ | refine Wc.region ?_ | refine Wc.block ?_))
  refine Wc.loop (σ := Nat) (fun i => [(0, vs s), (3, vi i)]) (fun i w' => i ≤ s.length ∧ (s.take i).all (fun c => signs.contains c) = true ∧ New w w') (fun i => s.length - i) 0 ⟨rfl, rfl, trivial⟩ ⟨Nat.zero_le _, rfl, Chg.refl _ _⟩ ?_
  rintro i G w1 ⟨hi, hall, n1⟩
  simp only [upds]
  (repeat' (first | refine Wl.moveE (by conv => { lhs; whnf }) ?_ | refine Wl.assignE (by conv => { lhs; whnf }) ?_ | refine Wl.nil ?_ | refine Wl.guardY rfl rfl ?_ | refine Wl.guardN rfl rfl ?_ | refine Wl.pickTE rfl (by conv => { lhs; whnf }) ?_ | refine Wl.pickFE rfl (by conv => { lhs; whnf }) ?_ | refine Wl.lenStr rfl ?_ | refine Qseq.normal ?_ | refine Wc.seq ?_ | refine Wc.region ?_ | refine Wc.block ?_ | refine Wc.skip ?_ | refine Wc.exit ?_ | refine Wc.ret ?_ | refine Qseq.exit ?_ | refine Qblk.hit ?_ | refine Qloop.exit ?_ | refine Wc.condT rfl ?_ | refine Wc.condF rfl ?_ | refine Wl.lss rfl rfl (fun _ => ?_) (fun _ => ?_) | refine Wl.leq rfl rfl (fun _ => ?_) (fun _ => ?_) | refine Wl.geq rfl rfl (fun _ => ?_) (fun _ => ?_)))
  · obtain ⟨c, hc⟩ := get_byte s (k := i) (by omega)
    refine Wc.loop (σ := Nat) (fun k => [(0, vs s), (3, vi i), (4, vi k)]) (fun k w' => k ≤ 44 ∧ c ∉ sgL.take k ∧ New w w') (fun k => 44 - k) 0 ⟨rfl, rfl, rfl, trivial⟩ ⟨Nat.zero_le _, by simp, n1⟩ ?_
    rintro k G w2 ⟨hk, hno, n2⟩
    simp only [upds]
    (repeat' (refine Wc.seq ?_))
    refine Wc.regionN rfl (by kernel_rfl) ?_
    (repeat' (first | refine Wq.moveE (by conv => { lhs; whnf }) ?_ | refine Wq.nil ?_ | refine Wq.guardY rfl rfl ?_ | refine Wq.guardN rfl rfl ?_ | refine Wq.pickFE rfl (by conv => { lhs; whnf }) ?_ | refine Wq.lss rfl rfl (fun _ => ?_) (fun _ => ?_)))
    · obtain ⟨d, hd⟩ := get_byte sgL (k := k) (by omega)
      refine Wq.idxStr rfl rfl (by omega) (by rw [Int.toNat_natCast]; exact hd) ?_
      (repeat' (first | refine Wq.moveE (by conv => { lhs; whnf }) ?_ | refine Wq.guardY rfl rfl ?_))
      refine Wq.idxStr rfl rfl (by omega) (by rw [Int.toNat_natCast]; exact hc) ?_
      (repeat' (first | refine Wq.nil ?_ | refine Wq.guardY rfl rfl ?_ | refine Wq.pickTE rfl (by conv => { lhs; whnf }) ?_ | refine Wq.neq rfl rfl (fun _ => ?_) (fun _ => ?_)))
      · intro w3 n3
        (repeat' (first | refine Wl.moveE (by conv => { lhs; whnf }) ?_ | refine Wl.assignE (by conv => { lhs; whnf }) ?_ | refine Wl.nil ?_ | refine Qseq.normal ?_ | refine Wc.region ?_ | refine Wc.block ?_ | refine Wc.skip ?_ | refine Qblk.normal ?_ | refine Wc.condT rfl ?_ | refine Wl.add rfl rfl (by omega) (by omega) ?_))
        refine Qloop.normal (k + 1) ⟨rfl, rfl, rfl, trivial⟩ ⟨by omega, ?_, New.trans n2 n3⟩ (by omega)
        rw [take_snoc' hd, List.mem_append, List.mem_singleton]
        rintro (e | e)
        · exact hno e
        · exact ne_u8 (by assumption) e.symm
      · intro w3 n3
        (repeat' (first | refine Wl.moveE (by conv => { lhs; whnf }) ?_ | refine Wl.assignE (by conv => { lhs; whnf }) ?_ | refine Wl.nil ?_ | refine Qseq.normal ?_ | refine Wc.seq ?_ | refine Wc.region ?_ | refine Wc.skip ?_ | refine Wc.exit ?_ | refine Qseq.exit ?_ | refine Qblk.normal ?_ | refine Qblk.hit ?_ | refine Qloop.exit ?_ | refine Wc.condF rfl ?_ | refine Wl.add rfl rfl (by omega) (by omega) ?_ | (refine Wl.eql rfl rfl (fun _ => ?_) (fun _ => ?_) <;> (first | (exfalso; omega) | skip))))
        have hdc : d = c := eq_u8 (by assumption)
        subst hdc
        refine Qloop.normal (i + 1) ⟨rfl, rfl, trivial⟩ ⟨by omega, all_step hc hall (by rw [hsg]; exact List.contains_iff_mem.2 (List.mem_of_getElem? hd)), New.trans n2 n3⟩ (by omega)
    · intro w3 n3
      have e : k = 44 := by omega
      subst e
      rw [show sgL.take 44 = sgL from rfl] at hno
      (repeat' (first | refine Wl.moveE (by conv => { lhs; whnf }) ?_ | refine Wl.assignE (by conv => { lhs; whnf }) ?_ | refine Wl.nil ?_ | refine Qseq.normal ?_ | refine Wc.seq ?_ | refine Wc.region ?_ | refine Wc.exit ?_ | refine Wc.ret ?_ | refine Qseq.exit ?_ | refine Qseq.ret ?_ | refine Qblk.ret ?_ | refine Qblk.hit ?_ | refine Qloop.exit ?_ | refine Qloop.ret ?_ | refine Wc.condT rfl ?_ | refine Wc.condF rfl ?_ | (refine Wl.eql rfl rfl (fun _ => ?_) (fun _ => ?_) <;> (first | (exfalso; omega) | skip))))
      exact Qfn.ret1 rfl rfl ⟨_, rfl, hbad hc hno, New.trans n2 n3⟩
  all_goals
    have e : i = s.length := by omega
    subst e
    rw [List.take_length] at hall
    have hq : nameOk s = decide (1 ≤ s.length ∧ s.length ≤ 31) := by
      unfold nameOk
      rw [hall, Bool.and_true]
      cases s with
      | nil => rfl
      | cons a r => simp
    rw [hq]
    refine Qfn.ret1 rfl rfl ⟨_, rfl, ?_, n1⟩
    first
      | (rw [decide_eq_true (by omega)]; rfl)
      | (rw [decide_eq_false (by omega)]; rfl)

set_option maxHeartbeats 1000000 in
theorem KindR_spec {w : World} {k : Nat} (hk : k < 256) : Calls Tryd.prog 42 #[.int .u8 k] w (Ret fun r w' => r = vs (nameK k) ∧ New w w') := by
  refine calls_of_Wc Tryd.func42 rfl Tryd.ntmps42 rfl ?_
  (repeat' (first | refine Wl.assignE (by conv => { lhs; whnf }) ?_ | refine Wl.nil ?_ | refine Qseq.normal ?_ | refine Wc.seq ?_ | refine Wc.region ?_))
  refine Wl.buildSliceN (R := one vs) (Pe := No) (xs := kindL) (us := kindL.map vs) goodS rfl rfl ⟨rfl, rfl, rfl, rfl, rfl, rfl, rfl, rfl, rfl, rfl, rfl, rfl, rfl, rfl, rfl, rfl, rfl, rfl, rfl, rfl, trivial⟩ (by simp [kindL]) (by simp [kindL]) fun v1 w1 o1 n1 s1 ob1 => ?_
  have r1 := o1.rd goodS.mo
  obtain ⟨a, cp, rfl, hc1, hc2⟩ := r1.form
  have hkl : kindL.length = 10 := rfl
  (repeat' (first | refine Wl.moveE (by conv => { lhs; whnf }) ?_ | refine Wl.assignE (by conv => { lhs; whnf }) ?_ | refine Wl.nil ?_ | refine Wl.lenS rfl ?_ | refine Qseq.normal ?_ | refine Wc.seq ?_ | refine Wc.region ?_ | refine Wc.skip ?_ | refine Wc.ret ?_ | refine Qseq.ret ?_ | refine Wc.condT rfl ?_ | refine Wc.condF rfl ?_ | refine Wl.convI rfl ?_ | refine Wl.geq rfl rfl (fun _ => ?_) (fun _ => ?_)))
  · have h10 : 10 ≤ k := by
      have h : ((kindL.length : Nat) : Int) ≤ IntKind.i64.wrap (k : Int) := by assumption
      rw [wrap64_id (by omega) (by omega)] at h; omega
    rw [nameK_big h10]
    exact Qfn.ret1 rfl rfl ⟨_, rfl, rfl, n1⟩
  · have h10 : k < 10 := by
      have h : IntKind.i64.wrap (k : Int) < ((kindL.length : Nat) : Int) := by assumption
      rw [wrap64_id (by omega) (by omega)] at h; omega
    obtain ⟨x, hx⟩ := get_lt kindL (k := k) (by omega)
    refine Wl.idxAddrV r1 rfl rfl (by omega) (by rw [Int.toNat_natCast]; exact hx) fun bb o hc => ?_
    refine Wl.load1 rfl hc ?_
    have e : nameK k = x := by unfold nameK; rw [List.getD_eq_getElem?_getD, hx]; rfl
    rw [e]
    (repeat' (first | refine Wl.assignE (by conv => { lhs; whnf }) ?_ | refine Wl.nil ?_ | refine Qseq.normal ?_ | refine Wc.ret ?_))
    exact Qfn.ret1 rfl rfl ⟨_, rfl, rfl, n1⟩
/-- The reference's ring, in blocks of its own. -/
structure RfAt (Pb : Nat → Prop) (w : World) (b : Nat) (t : Tr) (v : Value) : Prop where
  ok : TrOk t
  hb : Pb b
  bk : Bk w b 85 [vi t.size, .int .u64 t.gone, v]
  own : OwnS rEv 31 6 Pb No w v t.kept
  ne : v.ownBlock ≠ some b
def Rf (Pb : Nat → Prop) (w : World) (b : Nat) (t : Tr) : Prop := ∃ v, RfAt Pb w b t v
theorem RfAt.chg {Pb M : Nat → Prop} {w w' : World} {b : Nat} {t : Tr} {v : Value} (h : RfAt Pb w b t v) (c : Chg M w w') (hM : ∀ k, Pb k → ¬ M k) : RfAt Pb w' b t v :=
  ⟨h.ok, h.hb, h.bk.chg c (hM b h.hb), h.own.chg (plain_flat _) c fun k hk => hM k (h.own.lt hk).1, h.ne⟩
theorem RfAt.new {Pb : Nat → Prop} {w w' : World} {b : Nat} {t : Tr} {v : Value} (h : RfAt Pb w b t v) (n : New w w') : RfAt Pb w' b t v := h.chg n fun _ _ e => e
theorem Rf.chg {Pb M : Nat → Prop} {w w' : World} {b : Nat} {t : Tr} (h : Rf Pb w b t) (c : Chg M w w') (hM : ∀ k, Pb k → ¬ M k) : Rf Pb w' b t := by obtain ⟨v, h⟩ := h; exact ⟨v, h.chg c hM⟩
theorem Rf.new {Pb : Nat → Prop} {w w' : World} {b : Nat} {t : Tr} (h : Rf Pb w b t) (n : New w w') : Rf Pb w' b t := h.chg n fun _ _ e => e
theorem Rf.ok {Pb : Nat → Prop} {w : World} {b : Nat} {t : Tr} (h : Rf Pb w b t) : TrOk t := by obtain ⟨v, h⟩ := h; exact h.ok
theorem RfAt.mono {Pb Pb' : Nat → Prop} {w : World} {b : Nat} {t : Tr} {v : Value} (h : RfAt Pb w b t v) (hP : ∀ k, k < w.heap.size → Pb k → Pb' k) : RfAt Pb' w b t v :=
  ⟨h.ok, hP b h.bk.lt h.hb, h.bk, h.own.mono goodEv.mo hP (fun _ _ e => e), h.ne⟩
theorem Rf.mono {Pb Pb' : Nat → Prop} {w : World} {b : Nat} {t : Tr} (h : Rf Pb w b t) (hP : ∀ k, k < w.heap.size → Pb k → Pb' k) : Rf Pb' w b t := by obtain ⟨v, h⟩ := h; exact ⟨v, h.mono hP⟩
theorem NewR_spec {w : World} {n : Int} : Calls Tryd.prog 24 #[vi n] w (Ret fun r w' => ((n < 1 ∨ 4096 < n) ∧ r = .tuple #[.pointer none, vi 1] ∧ w = w' ∨ 1 ≤ n ∧ n ≤ 4096 ∧ ∃ b, r = .tuple #[pT b, vi 0] ∧ Rf (fun k => w.heap.size ≤ k) w' b ⟨n.toNat, 0, []⟩) ∧ New w w') := by
  refine calls_of_Wc Tryd.func24 rfl Tryd.ntmps24 rfl ?_
  (repeat' (first | refine Wl.moveE (by conv => { lhs; whnf }) ?_ | refine Wl.assignE (by conv => { lhs; whnf }) ?_ | refine Wl.nil ?_ | refine Wl.guardY rfl rfl ?_ | refine Wl.guardN rfl rfl ?_ | refine Wl.pickTE rfl (by conv => { lhs; whnf }) ?_ | refine Wl.pickFE rfl (by conv => { lhs; whnf }) ?_ | refine Qseq.normal ?_ | refine Wc.seq ?_ | refine Wc.region ?_ | refine Wc.skip ?_ | refine Wc.ret ?_ | refine Qseq.ret ?_ | refine Wc.condT rfl ?_ | refine Wc.condF rfl ?_ | refine Wl.lss rfl rfl (fun _ => ?_) (fun _ => ?_) | refine Wl.gtr rfl rfl (fun _ => ?_) (fun _ => ?_)))
  · exact Qfn.ret2 rfl rfl rfl ⟨_, rfl, .inl ⟨.inl (by omega), rfl, rfl⟩, Chg.refl _ _⟩
  · exact Qfn.ret2 rfl rfl rfl ⟨_, rfl, .inl ⟨.inr (by omega), rfl, rfl⟩, Chg.refl _ _⟩
  · refine Wl.buildG (u := .agg #[vi n, .int .u64 0, .slice none 0 0]) rfl (by kernel_rfl) ?_
    skip
    refine Wl.box rfl fun w1 b1 n1 s1 => ?_
    (repeat' (first | refine Wl.assignE (by conv => { lhs; whnf }) ?_ | refine Wl.nil ?_ | refine Qseq.normal ?_ | refine Wc.ret ?_))
    refine Qfn.ret2 rfl rfl rfl ⟨_, rfl, .inr ⟨by omega, by omega, w.heap.size, rfl, .slice none 0 0, TrOk.new (by omega) (by omega), Nat.le_refl _, ?_, OwnS.nil, (fun e => by cases e)⟩, n1⟩
    rw [show ((n.toNat : Nat) : Int) = n by omega]
    exact b1
theorem lastR_spec {Pb : Nat → Prop} {w : World} {b : Nat} {t : Tr} (h : Rf Pb w b t) : Calls Tryd.prog 41 #[pT b] w (Ret fun r w' => r = .int .u64 t.last ∧ New w w') := by
  obtain ⟨v, h⟩ := h
  obtain ⟨a, cap, rfl, hc1, hc2⟩ := h.own.form
  have hl := h.ok.last
  unfold Tr.last at hl
  refine calls_of_Wc Tryd.func41 rfl Tryd.ntmps41 rfl ?_
  (repeat' (first | refine Wl.assignE (by conv => { lhs; whnf }) ?_ | refine Wl.nil ?_ | refine Qseq.normal ?_ | refine Wc.seq ?_ | refine Wc.region ?_))
  refine Wc.regionN rfl (by kernel_rfl) ?_
  (repeat' (first | refine Wq.moveE (by conv => { lhs; whnf }) ?_ | refine Wq.nilP rfl ?_ | refine Wq.fieldAddr rfl rfl ?_))
  refine Wq.load1 rfl (fun w' n => (h.new n).bk.cell (o := 1) rfl) ?_
  (repeat' (first | refine Wq.moveE (by conv => { lhs; whnf }) ?_ | refine Wq.nilP rfl ?_ | refine Wq.fieldAddr rfl rfl ?_))
  refine Wq.load1 rfl (fun w' n => (h.new n).bk.cell (o := 2) rfl) ?_
  (repeat' (first | refine Wq.lenS rfl ?_ | refine Wq.convI rfl ?_))
  refine Wq.addW rfl rfl ?_
  (repeat' (first | refine Wq.assignE (by conv => { lhs; whnf }) ?_ | refine Wq.nil ?_))
  intro w1 n1
  (repeat' (first | refine Qseq.normal ?_ | refine Wc.ret ?_))
  refine Qfn.ret1 rfl rfl ⟨_, rfl, ?_, n1⟩
  show Value.int .u64 (IntKind.u64.wrap ((t.gone : Int) + IntKind.u64.wrap (t.kept.length : Int))) = _
  rw [wu (x := (t.kept.length : Int)) (by omega) (by omega), wu (by omega) (by omega)]
  unfold Tr.last
  rfl
end Go.Proofs.YtjaendlcijmifaaDoor

namespace Go.Proofs.YtjaendlcijmifaaDoor
open Go Wk
open Go.RowKit (Below)
attribute [local irreducible] Go.Calls

theorem dropC {α : Type} {l : List α} {i : Nat} {x : α} (h : l[i]? = some x) : l.drop i = x :: l.drop (i + 1) := by
  obtain ⟨h1, rfl⟩ := List.getElem?_eq_some_iff.1 h
  exact List.drop_eq_getElem_cons h1
theorem pathM_cons {r : List UInt8} (hr : r ≠ []) : pathM (47 :: r) = (decide ((splitR 47 r).length ≤ 15) && (splitR 47 r).all nameOk) := by
  unfold pathM
  rw [decide_eq_false (by simpa using hr), Bool.false_or]
  have e : splitR 47 (47 :: r) = [] :: splitR 47 r := by rw [splitR, if_pos rfl]
  have hn := splitR_ne 47 r
  rw [e]
  have hp := List.length_pos_iff.2 hn
  rw [show (decide (([] :: splitR 47 r)[0]? = some ([] : List UInt8))) = true from rfl, Bool.true_and, decide_eq_true (by simp; omega), Bool.true_and]
  simp only [List.drop_succ_cons, List.drop_zero, List.length_cons]
  congr 1
  · apply decide_eq_decide.2; omega
  · rw [List.all_eq_not_any_not]
theorem pathM_no {s : List UInt8} (h : s[0]? ≠ some 47) : pathM s = false := by
  unfold pathM
  cases s with
  | nil => rfl
  | cons b l =>
    have hb : b ≠ 47 := fun e => h (by rw [e]; rfl)
    rw [decide_eq_false (fun e => by cases e; exact hb rfl), Bool.false_or]
    have : (splitR 47 (b :: l))[0]? ≠ some [] := by
      rw [splitR, if_neg hb]
      split <;> simp
    rw [decide_eq_false this]; rfl
/-- How far the scan is: what lies behind, what begins at 'from'. -/
structure ScanP (r : List UInt8) (i from' names : Nat) : Prop where
  hle : from' ≤ i
  hi : i ≤ r.length
  done : ∃ d, splitR 47 r = d ++ splitR 47 (r.drop from') ∧ d.length = names ∧ d.all nameOk = true
  free : ∀ b ∈ (r.drop from').take (i - from'), b ≠ 47
theorem ScanP.last {r : List UInt8} {f m : Nat} (h : ScanP r r.length f m) : ∃ d, splitR 47 r = d ++ [(r.take r.length).drop f] ∧ d.length = m ∧ d.all nameOk = true := by
  obtain ⟨d, h1, h2, h3⟩ := h.done
  refine ⟨d, ?_, h2, h3⟩
  rw [h1, List.take_length, splitR_free fun b hb => h.free b (by rw [List.take_of_length_le (by simp)]; exact hb)]
theorem ScanP.at {r : List UInt8} {i f m : Nat} (h : ScanP r i f m) (hi : r[i]? = some 47) : ∃ d, splitR 47 r = d ++ (r.take i).drop f :: splitR 47 (r.drop (i + 1)) ∧ d.length = m ∧ d.all nameOk = true := by
  obtain ⟨d, h1, h2, h3⟩ := h.done
  have hle := h.hle
  refine ⟨d, ?_, h2, h3⟩
  have e : r.drop f = (r.take i).drop f ++ 47 :: r.drop (i + 1) := by
    have e1 : r = r.take i ++ 47 :: r.drop (i + 1) := by
      rw [← dropC hi, List.take_append_drop]
    have hl := (List.getElem?_eq_some_iff.1 hi).1
    conv => lhs; rw [e1]
    rw [List.drop_append_of_le_length (by simp; omega)]
  rw [h1]
  conv => lhs; rw [e]
  rw [splitR_at fun b hb => h.free b (by rw [List.drop_take] at hb; exact hb)]
theorem ScanP.step {r : List UInt8} {i f m : Nat} {c : UInt8} (h : ScanP r i f m) (hi : r[i]? = some c) (hc : c ≠ 47) : ScanP r (i + 1) f m := by
  have hl := (List.getElem?_eq_some_iff.1 hi).1
  have hle := h.hle
  refine ⟨by omega, by omega, h.done, fun b hb => ?_⟩
  rw [show i + 1 - f = (i - f) + 1 by omega, take_snoc' (y := c) (by rw [List.getElem?_drop, show f + (i - f) = i by omega]; exact hi)] at hb
  rcases List.mem_append.1 hb with hb | hb
  · exact h.free b hb
  · rw [List.mem_singleton.1 hb]; exact hc
theorem ScanP.next {r : List UInt8} {i f m : Nat} (h : ScanP r i f m) (hi : r[i]? = some 47) (hn : nameOk ((r.take i).drop f) = true) : ScanP r (i + 1) (i + 1) (m + 1) := by
  have hl := (List.getElem?_eq_some_iff.1 hi).1
  obtain ⟨d, h1, h2, h3⟩ := h.at hi
  refine ⟨Nat.le_refl _, by omega, ⟨d ++ [(r.take i).drop f], by rw [h1, List.append_assoc]; rfl, by simp [h2], by simp [h3, hn]⟩, fun b hb => by simp at hb⟩
theorem scan0 (r : List UInt8) : ScanP r 0 0 0 := ⟨Nat.le_refl _, Nat.zero_le _, ⟨[], rfl, rfl, rfl⟩, fun b hb => by simp at hb⟩
set_option maxHeartbeats 1000000 in
theorem PathR_spec {w : World} {s : List UInt8} (hl : s.length ≤ 100000000) : Calls Tryd.prog 43 #[vs s] w (Ret fun r w' => r = .bool (pathM s) ∧ New w w') := by
  refine calls_of_Wc Tryd.func43 rfl Tryd.ntmps43 rfl ?_
  (repeat' (first | refine Wl.moveE (by conv => { lhs; whnf }) ?_ | refine Wl.assignE (by conv => { lhs; whnf }) ?_ | refine Wl.nil ?_ | refine Wl.guardY rfl rfl ?_ | refine Wl.guardN rfl rfl ?_ | refine Wl.pickTE rfl (by conv => { lhs; whnf }) ?_ | refine Qseq.normal ?_ | refine Wc.seq ?_ | refine Wc.region ?_ | refine Wc.skip ?_ | refine Wc.ret ?_ | refine Qseq.ret ?_ | refine Wc.condT rfl ?_ | refine Wc.condF rfl ?_ | refine Wl.seql rfl rfl (fun _ => ?_) (fun _ => ?_)))
  · have e : s = [47] := by assumption
    subst e
    exact Qfn.ret1 rfl rfl ⟨_, rfl, rfl, Chg.refl _ _⟩
  · have e : s = [] := by assumption
    subst e
    exact Qfn.ret1 rfl rfl ⟨_, rfl, rfl, Chg.refl _ _⟩
  have hne : s ≠ [47] := by assumption
  have hs0 : s ≠ [] := by assumption
  obtain ⟨c0, r, rfl⟩ : ∃ c r, s = c :: r := by cases s with
    | nil => exact absurd rfl hs0
    | cons c r => exact ⟨c, r, rfl⟩
  refine Wl.idxStr (j := 0) (l := c0 :: r) (b := c0) rfl rfl (Int.le_refl 0) rfl ?_
  (repeat' (first | refine Wl.assignE (by conv => { lhs; whnf }) ?_ | refine Wl.nil ?_ | refine Wl.guardY rfl rfl ?_ | refine Wl.pickFE rfl (by conv => { lhs; whnf }) ?_ | refine Qseq.normal ?_ | refine Wc.seq ?_ | refine Wc.region ?_ | refine Wc.block ?_ | refine Wc.skip ?_ | refine Wc.ret ?_ | refine Qseq.ret ?_ | refine Wc.condT rfl ?_ | refine Wc.condF rfl ?_ | refine Wl.neq rfl rfl (fun _ => ?_) (fun _ => ?_)))
  · have hc : c0 ≠ 47 := fun e => (by assumption : ¬ ((c0.toNat : Int) = 47)) (by rw [e]; rfl)
    rw [pathM_no (by simpa using hc)]
    exact Qfn.ret1 rfl rfl ⟨_, rfl, rfl, Chg.refl _ _⟩
  have hc : c0 = 47 := UInt8.toNat_inj.1 (by have h : (c0.toNat : Int) = 47 := by assumption
                                             show c0.toNat = 47; omega)
  subst hc
  have hr : r ≠ [] := fun e => hne (by rw [e])
  rw [pathM_cons hr]
  have hrl : r.length + 1 ≤ 100000000 := hl
  have hsl : (47 :: r : List UInt8).length = r.length + 1 := rfl
  refine Wc.loop (σ := Nat × Nat × Nat) (fun x => [(0, vs (47 :: r)), (3, vi x.2.2), (4, vi (x.2.1 + 1 : Nat)), (5, vi (x.1 + 1 : Nat))]) (fun x W => (ScanP r x.1 x.2.1 x.2.2 ∨ x.1 = r.length + 1 ∧ (splitR 47 r).length = x.2.2 ∧ (splitR 47 r).all nameOk = true) ∧ x.1 ≤ r.length + 1 ∧ x.2.2 ≤ x.1 ∧ New w W) (fun x => r.length + 1 - x.1) (0, 0, 0) ⟨rfl, rfl, rfl, rfl, trivial⟩
    ⟨.inl (scan0 r), Nat.zero_le _, Nat.le_refl _, Chg.refl _ _⟩ ?_
  rintro ⟨i, f, m⟩ G W ⟨hS, hi1, hm, n1⟩
  dsimp only at hS hi1 hm
  simp only [upds]
  have bad : ∀ d t x, splitR 47 r = d ++ x :: t → nameOk x = false → (splitR 47 r).all nameOk = false := fun d t x e h => by
    rw [e, List.all_append, List.all_cons, h, Bool.false_and, Bool.and_false]
  (repeat' (first | refine Wl.moveE (by conv => { lhs; whnf }) ?_ | refine Wl.assignE (by conv => { lhs; whnf }) ?_ | refine Wl.nil ?_ | refine Wl.guardY rfl rfl ?_ | refine Wl.guardN rfl rfl ?_ | refine Wl.pickTE rfl (by conv => { lhs; whnf }) ?_ | refine Wl.lenStr rfl ?_ | refine Qseq.normal ?_ | refine Wc.seq ?_ | refine Wc.region ?_ | refine Wc.block ?_ | refine Wc.skip ?_ | refine Wc.exit ?_ | refine Wc.ret ?_ | refine Qseq.exit ?_ | refine Qblk.hit ?_ | refine Qloop.exit ?_ | refine Wc.condT rfl ?_ | refine Wc.condF rfl ?_ | refine Wl.leq rfl rfl (fun _ => ?_) (fun _ => ?_) | refine Wl.eql rfl rfl (fun _ => ?_) (fun _ => ?_)))
  · rcases hS with hS | ⟨he, _⟩
    rotate_left
    · omega
    have hle := hS.hle
    have hi := hS.hi
    have ei : i = r.length := by omega
    subst ei
    obtain ⟨d, h1, h2, h3⟩ := hS.last
    refine Wl.strBoth (l := 47 :: r) rfl rfl rfl (by omega) (by omega) (by omega) ?_
    rw [show ((47 :: r).take ((r.length + 1 : Nat) : Int).toNat).drop ((f + 1 : Nat) : Int).toNat = (r.take r.length).drop f from rfl]
    refine Wl.call (NameR_spec (by simp; omega)) rfl ?_
    rintro _ w2 ⟨rfl, n2⟩
    cases hno : nameOk ((r.take r.length).drop f) with
    | false =>
      (repeat' (first | refine Wl.assignE (by conv => { lhs; whnf }) ?_ | refine Wl.nil ?_ | refine Wl.notB rfl ?_ | refine Qseq.normal ?_ | refine Wc.seq ?_ | refine Wc.region ?_ | refine Wc.ret ?_ | refine Qseq.ret ?_ | refine Qblk.ret ?_ | refine Qloop.ret ?_ | refine Wc.condT rfl ?_))
      rw [bad d [] _ h1 hno, Bool.and_false]
      exact Qfn.ret1 rfl rfl ⟨_, rfl, rfl, n1.trans n2⟩
    | true =>
      (repeat' (first | refine Wl.moveE (by conv => { lhs; whnf }) ?_ | refine Wl.assignE (by conv => { lhs; whnf }) ?_ | refine Wl.nil ?_ | refine Wl.notB rfl ?_ | refine Qseq.normal ?_ | refine Wc.seq ?_ | refine Wc.region ?_ | refine Wc.skip ?_ | refine Qblk.normal ?_ | refine Wc.condF rfl ?_ | refine Wl.add rfl rfl (by omega) (by omega) ?_))
      exact Qloop.normal (r.length + 1, r.length + 1, m + 1) ⟨rfl, rfl, rfl, rfl, trivial⟩ ⟨.inr ⟨rfl, by rw [h1]; simp [h2], by rw [h1]; simp [h3]; simpa using hno⟩, Nat.le_refl _, by dsimp only; omega, n1.trans n2⟩ (by dsimp only; omega)
  · rcases hS with hS | ⟨he, _⟩
    rotate_left
    · omega
    have hle := hS.hle
    have hi := hS.hi
    obtain ⟨c, hc⟩ := get_byte r (k := i) (by omega)
    refine Wl.idxStr (l := 47 :: r) (b := c) rfl rfl (by omega) (by rw [Int.toNat_natCast]; exact hc) ?_
    (repeat' (first | refine Wl.moveE (by conv => { lhs; whnf }) ?_ | refine Wl.assignE (by conv => { lhs; whnf }) ?_ | refine Wl.nil ?_ | refine Wl.guardY rfl rfl ?_ | refine Wl.pickFE rfl (by conv => { lhs; whnf }) ?_ | refine Qseq.normal ?_ | refine Wc.seq ?_ | refine Wc.region ?_ | refine Wc.skip ?_ | refine Qblk.normal ?_ | refine Wc.condT rfl ?_ | refine Wc.condF rfl ?_ | refine Wl.add rfl rfl (by omega) (by omega) ?_ | refine Wl.eql rfl rfl (fun _ => ?_) (fun _ => ?_)))
    · have e : c = 47 := UInt8.toNat_inj.1 (by have h : (c.toNat : Int) = 47 := by assumption
                                               show c.toNat = 47; omega)
      subst e
      obtain ⟨d, h1, h2, h3⟩ := hS.at hc
      refine Wl.strBoth (l := 47 :: r) rfl rfl rfl (by omega) (by omega) (by omega) ?_
      rw [show ((47 :: r).take ((i + 1 : Nat) : Int).toNat).drop ((f + 1 : Nat) : Int).toNat = (r.take i).drop f from rfl]
      refine Wl.call (NameR_spec (by simp; omega)) rfl ?_
      rintro _ w2 ⟨rfl, n2⟩
      cases hno : nameOk ((r.take i).drop f) with
      | false =>
        (repeat' (first | refine Wl.assignE (by conv => { lhs; whnf }) ?_ | refine Wl.nil ?_ | refine Wl.notB rfl ?_ | refine Qseq.normal ?_ | refine Wc.seq ?_ | refine Wc.region ?_ | refine Wc.ret ?_ | refine Qseq.ret ?_ | refine Qblk.ret ?_ | refine Qloop.ret ?_ | refine Wc.condT rfl ?_))
        rw [bad d _ _ h1 hno, Bool.and_false]
        exact Qfn.ret1 rfl rfl ⟨_, rfl, rfl, n1.trans n2⟩
      | true =>
        (repeat' (first | refine Wl.moveE (by conv => { lhs; whnf }) ?_ | refine Wl.assignE (by conv => { lhs; whnf }) ?_ | refine Wl.nil ?_ | refine Wl.notB rfl ?_ | refine Qseq.normal ?_ | refine Wc.seq ?_ | refine Wc.region ?_ | refine Wc.skip ?_ | refine Qblk.normal ?_ | refine Wc.condF rfl ?_ | refine Wl.add rfl rfl (by omega) (by omega) ?_))
        exact Qloop.normal (i + 1, i + 1, m + 1) ⟨rfl, rfl, rfl, rfl, trivial⟩ ⟨.inl (hS.next hc hno), by dsimp only; omega, by dsimp only; omega, n1.trans n2⟩ (by dsimp only; omega)
    · have e : c ≠ 47 := fun e => (by assumption : ¬ ((c.toNat : Int) = 47)) (by rw [e]; rfl)
      exact Qloop.normal (i + 1, f, m) ⟨rfl, rfl, rfl, rfl, trivial⟩ ⟨.inl (hS.step hc e), by dsimp only; omega, by dsimp only; omega, n1⟩ (by dsimp only; omega)
  · rcases hS with hS | ⟨he, h1, h2⟩
    · have := hS.hi; omega
    rw [h1, h2, Bool.and_true, decide_eq_true (by omega)]
    exact Qfn.ret1 rfl rfl ⟨_, rfl, rfl, n1⟩
  · rcases hS with hS | ⟨he, h1, h2⟩
    · have := hS.hi; omega
    rw [h1, h2, Bool.and_true, decide_eq_false (by omega)]
    exact Qfn.ret1 rfl rfl ⟨_, rfl, rfl, n1⟩
end Go.Proofs.YtjaendlcijmifaaDoor

namespace Go.Proofs.YtjaendlcijmifaaDoor
open Go Wk
open Go.RowKit (Below)
attribute [local irreducible] Go.Calls

set_option maxRecDepth 4000 in
set_option maxHeartbeats 2000000 in
theorem AddR_spec {Pb : Nat → Prop} {w : World} {b ca : Nat} {t : Tr} {tm : Int} {kd : Nat} {pa : List UInt8} {ar : Int} (h : Rf Pb w b t) (hw : InW ca tm kd ar) (hl : pa.length ≤ 100000000) :
    Calls Tryd.prog 25 #[pT b, .int .u64 ca, vi tm, .int .u8 kd, vs pa, vi ar] w (Ret fun r w' => r = .tuple #[.int .u64 (t.add ca tm kd pa ar).1, vi (t.add ca tm kd pa ar).2.1] ∧
      Rf (fun k => Pb k ∨ w.heap.size ≤ k) w' b (t.add ca tm kd pa ar).2.2 ∧ Chg Pb w w') := by
  have hok := h.ok
  have hlast := hok.last
  have hadd := hok.add hw (pa := pa)
  have same : ∀ {w'}, New w w' → Rf (fun k => Pb k ∨ w.heap.size ≤ k) w' b t ∧ Chg Pb w w' := fun n => ⟨(h.new n).mono fun _ _ e => .inl e, n.any⟩
  refine calls_of_Wc Tryd.func25 rfl Tryd.ntmps25 rfl ?_
  (repeat' (first | refine Wl.moveE (by conv => { lhs; whnf }) ?_ | refine Wl.assignE (by conv => { lhs; whnf }) ?_ | refine Wl.nil ?_ | refine Qseq.normal ?_ | refine Wc.seq ?_ | refine Wc.region ?_))
  refine Wl.call (lastR_spec h) rfl ?_
  rintro _ w1 ⟨rfl, n1⟩
  (repeat' (first | refine Wl.moveE (by conv => { lhs; whnf }) ?_ | refine Wl.assignE (by conv => { lhs; whnf }) ?_ | refine Wl.nil ?_ | refine Wl.guardY rfl rfl ?_ | refine Wl.guardN rfl rfl ?_ | refine Wl.pickTE rfl (by conv => { lhs; whnf }) ?_ | refine Qseq.normal ?_ | refine Wc.seq ?_ | refine Wc.region ?_ | refine Wc.ret ?_ | refine Qseq.ret ?_ | refine Wc.condT rfl ?_ | refine Wl.gtr rfl rfl (fun _ => ?_) (fun _ => ?_)))
  · have e : t.add ca tm kd pa ar = (0, 1, t) := by unfold Tr.add; rw [if_pos (.inl (by omega))]
    rw [e]
    exact Qfn.ret2 rfl rfl rfl ⟨_, rfl, rfl, same n1⟩
  refine Wl.call (KindR_spec hw.kd) rfl ?_
  rintro _ w2 ⟨rfl, n2⟩
  replace n2 := n1.trans n2
  clear n1
  (try refine Wl.guardY rfl rfl ?_)
  (repeat' (first | refine Wl.moveE (by conv => { lhs; whnf }) ?_ | refine Wl.assignE (by conv => { lhs; whnf }) ?_ | refine Wl.nil ?_ | refine Wl.guardY rfl rfl ?_ | refine Wl.guardN rfl rfl ?_ | refine Wl.pickTE rfl (by conv => { lhs; whnf }) ?_ | refine Wl.pickFE rfl (by conv => { lhs; whnf }) ?_ | refine Qseq.normal ?_ | refine Wc.seq ?_ | refine Wc.region ?_ | refine Wc.ret ?_ | refine Qseq.ret ?_ | refine Wc.condT rfl ?_ | refine Wl.seql rfl rfl (fun _ => ?_) (fun _ => ?_)))
  · have hk : nameK kd = [] := by assumption
    have e : t.add ca tm kd pa ar = (0, 1, t) := by unfold Tr.add; rw [if_pos (.inr (.inl hk))]
    rw [e]
    exact Qfn.ret2 rfl rfl rfl ⟨_, rfl, rfl, same n2⟩
  have hk : nameK kd ≠ [] := by assumption
  refine Wl.call (PathR_spec hl) rfl ?_
  rintro _ w3 ⟨rfl, n3⟩
  replace n3 := n2.trans n3
  clear n2
  (try refine Wl.guardY rfl rfl ?_)
  cases hp : pathM pa with
  | false =>
    have e : t.add ca tm kd pa ar = (0, 1, t) := by unfold Tr.add; rw [if_pos (.inr (.inr hp))]
    (repeat' (first | refine Wl.assignE (by conv => { lhs; whnf }) ?_ | refine Wl.nil ?_ | refine Wl.pickFE rfl (by conv => { lhs; whnf }) ?_ | refine Wl.notB rfl ?_ | refine Qseq.normal ?_ | refine Wc.seq ?_ | refine Wc.region ?_ | refine Wc.ret ?_ | refine Qseq.ret ?_ | refine Wc.condT rfl ?_))
    rw [e]
    exact Qfn.ret2 rfl rfl rfl ⟨_, rfl, rfl, same n3⟩
  | true =>
    have hno : ¬ (t.last < ca ∨ nameK kd = [] ∨ pathM pa = false) := by
      rintro (e | e | e)
      · omega
      · exact hk e
      · rw [hp] at e; cases e
    (repeat' (first | refine Wl.moveE (by conv => { lhs; whnf }) ?_ | refine Wl.nil ?_ | refine Wl.pickFE rfl (by conv => { lhs; whnf }) ?_ | refine Wl.notB rfl ?_ | refine Qseq.normal ?_ | refine Wc.seq ?_ | refine Wc.region ?_ | refine Wc.skip ?_ | refine Wc.condF rfl ?_))
    refine Wl.call (lastR_spec (h.new n3)) rfl ?_
    rintro _ w4 ⟨rfl, n4⟩
    replace n4 := n3.trans n4
    clear n3
    skip
    refine Wl.geq rfl rfl (fun h62 => ?_) (fun h62 => ?_)
    · (repeat' (first | refine Wl.assignE (by conv => { lhs; whnf }) ?_ | refine Wl.nil ?_ | refine Qseq.normal ?_ | refine Wc.seq ?_ | refine Wc.region ?_ | refine Wc.ret ?_ | refine Qseq.ret ?_ | refine Wc.condT rfl ?_))
      have e : t.add ca tm kd pa ar = (0, 3, t) := by unfold Tr.add; rw [if_neg hno, if_pos (by omega)]
      rw [e]
      exact Qfn.ret2 rfl rfl rfl ⟨_, rfl, rfl, same n4⟩
    have hfull : t.last < 4611686018427387904 := by omega
    have e : t.add ca tm kd pa ar = (t.last + 1, 0, t.put ⟨t.last + 1, ca, t.late tm, kd, pa, ar⟩) := by unfold Tr.add; rw [if_neg hno, if_neg (by omega)]
    rw [e] at hadd ⊢
    clear e
    dsimp only at hadd ⊢
    obtain ⟨v, hr⟩ := h.new n4
    obtain ⟨a, cap, hv, hc1, hc2⟩ := hr.own.form
    have rr := hr.own.rd goodEv.mo
    rw [hv] at rr
    have hkl := hok.len
    have hks := hok.s1
    (repeat' (first | refine Wl.nil ?_ | refine Qseq.normal ?_ | refine Wc.skip ?_ | refine Wc.condF rfl ?_))
    refine Wk.Wc.cutW [(0, pT b), (1, .int .u64 ca), (2, vi (t.late tm)), (3, .int .u8 kd), (4, vs pa), (5, vi ar)] (fun W => New w W) ?_ ?_
    · clear h62 hfull hlast
      (repeat' (first | refine Wl.moveE (by conv => { lhs; whnf }) ?_ | refine Wc.seq ?_ | refine Wc.region ?_ | refine Wl.nilP rfl ?_ | refine Wl.fieldAddr rfl rfl ?_))
      refine Wl.load1 rfl (hr.bk.cell (o := 2) (u := .slice a t.kept.length cap) (by rw [hv]; rfl)) ?_
      (repeat' (first | refine Wl.nil ?_ | refine Wl.lenS rfl ?_ | refine Qseq.normal ?_ | refine Wc.skip ?_ | refine Wc.condT rfl ?_ | refine Wc.condF rfl ?_ | refine Wl.gtr rfl rfl (fun _ => ?_) (fun _ => ?_)))
      · obtain ⟨y, hy⟩ := get_lt t.kept (k := t.kept.length - 1) (by omega)
        have hlate : t.late tm = max tm y.tm := by unfold Tr.late; rw [List.getLast?_eq_getElem?, hy]
        refine Wc.regionT rfl (by kernel_rfl) (New w4) (Chg.drew _ _) ?_
        intro w5 n5
        (repeat' (first | refine Wt.quiet rfl (Wq.moveE (by conv => { lhs; whnf }) (Wq.nil ?_)) | refine Wt.quiet rfl (Wq.nilP rfl (Wq.nil ?_)) | refine Wt.quiet rfl (Wq.fieldAddr rfl rfl (Wq.nil ?_))))
        refine Wt.quiet rfl (Wq.load1 rfl (fun w' n => (hr.new n).bk.cell (o := 2) (u := .slice a t.kept.length cap) (by rw [hv]; rfl)) (Wq.nil ?_))
        (repeat' (first | refine Wt.quiet rfl (Wq.moveE (by conv => { lhs; whnf }) (Wq.nil ?_)) | refine Wt.quiet rfl (Wq.nilP rfl (Wq.nil ?_)) | refine Wt.quiet rfl (Wq.fieldAddr rfl rfl (Wq.nil ?_))))
        refine Wt.quiet rfl (Wq.load1 rfl (fun w' n => (hr.new n).bk.cell (o := 2) (u := .slice a t.kept.length cap) (by rw [hv]; rfl)) (Wq.nil ?_))
        (repeat' (first | refine Wt.quiet rfl (Wq.lenS rfl (Wq.nil ?_)) | refine Wt.quiet rfl (Wq.sub rfl rfl (by omega) (by omega) (Wq.nil ?_))))
        refine Wt.quiet rfl (Wq.idxAddr rr (fun w' n => n.keep) rfl rfl (by omega) (by rw [show ((t.kept.length : Int) - 1).toNat = t.kept.length - 1 by omega]; exact hy) fun bb o cs hcl hR hat => Wq.nil ?_)
        obtain rfl : cs = evC y := hR
        (repeat' (refine Wt.quiet rfl (Wq.fieldAddr rfl rfl (Wq.nil ?_))))
        refine Wt.quiet rfl (Wq.load1 (u := vi y.tm) rfl (fun w' n => (hat w' n).get 2 rfl) (Wq.nil ?_))
        refine Wt.chain rfl (Wl.maxI rfl rfl ?_)
        rw [show (if y.tm > tm then y.tm else tm) = max tm y.tm by split <;> omega, ← hlate]
        refine Wl.nil ⟨rfl, n5, ?_⟩
        (repeat' (first | refine Wt.nil ?_ | refine Wt.quiet rfl (Wq.assignE (by conv => { lhs; whnf }) (Wq.nil ?_))))
        skip
        exact ⟨rfl, ⟨rfl, rfl, rfl, rfl, rfl, rfl, trivial⟩, n4.trans n5⟩
      · have hk0 : t.kept = [] := List.eq_nil_of_length_eq_zero (by omega)
        have hlate : t.late tm = tm := by unfold Tr.late; rw [hk0]; rfl
        rw [hlate]
        exact ⟨rfl, ⟨rfl, rfl, rfl, rfl, rfl, rfl, trivial⟩, n4⟩
    rintro G w5 n5
    simp only [upds]
    clear hr rr hv n4 hc1 hc2
    (repeat' (first | refine Wl.moveE (by conv => { lhs; whnf }) ?_ | refine Wc.seq ?_ | refine Wc.region ?_))
    refine Wl.call (lastR_spec (h.new n5)) rfl ?_
    rintro _ w6 ⟨rfl, n6⟩
    replace n6 := n5.trans n6
    refine Wl.addW rfl rfl ?_
    rw [show (t.last : Int) + 1 = ((t.last + 1 : Nat) : Int) by omega, wu (by omega) (by omega)]
    clear h62 hfull hlast
    generalize hx : (⟨t.last + 1, ca, t.late tm, kd, pa, ar⟩ : Ev) = x at hadd
    (repeat' (refine Wl.moveE (by conv => { lhs; whnf }) ?_))
    refine Wl.buildG (u := evV x) rfl (by subst hx; kernel_rfl) ?_
    skip
    refine Wl.alloc fun w7 b7 n7 s7 => ?_
    replace b7 : Bk w7 w6.heap.size 31 (evC ev0) := b7
    refine Wl.storeB (o := 0) (new := evC x) b7 rfl rfl rfl rfl (Nat.le_refl 6) (evC_one _) fun w8 b8 c8 s8 => ?_
    replace b8 : Bk w8 w6.heap.size 31 (evC x) := b8
    have z6 := n6.size
    have n8 : New w w8 := Chg.trans (n6.trans n7) c8 fun k hk e => by omega
    clear b7 n7 c8 n6 n5
    obtain ⟨v, h8⟩ := (h.mono (Pb' := fun k => Pb k ∧ k < w.heap.size) fun k hk e => ⟨e, hk⟩).new n8
    have hvlt : ∀ k, v.ownBlock = some k → Pb k ∧ k < w.heap.size := fun k hk => (h8.own.lt hk).1
    have hblt : Pb b ∧ b < w.heap.size := h8.hb
    have hblt2 := hblt.2
    have hne := h8.ne
    obtain ⟨a, cap, hv, hc1, hc2⟩ := h8.own.form
    have z8 := n8.size
    (repeat' (first | refine Wl.nil ?_ | refine Qseq.normal ?_ | refine Wc.seq ?_))
    refine Wc.regionT rfl (by kernel_rfl) (fun w' => Chg (fun k => v.ownBlock = some k) w8 w') (Chg.drew _ _) ?_
    intro w9 n9
    have bk : ∀ w', Chg (fun k => v.ownBlock = some k) w8 w' → Bk w' b 85 [vi t.size, .int .u64 t.gone, v] := fun w' c => h8.bk.chg c hne
    have bx : ∀ w', Chg (fun k => v.ownBlock = some k) w8 w' → Bk w' w6.heap.size 31 (evC x) := fun w' c => b8.chg c fun e => by have := (hvlt _ e).2; omega
    (repeat' (first | refine Wt.quiet rfl (Wq.moveE (by conv => { lhs; whnf }) (Wq.nil ?_)) | refine Wt.quiet rfl (Wq.nilP rfl (Wq.nil ?_)) | refine Wt.quiet rfl (Wq.fieldAddr rfl rfl (Wq.nil ?_))))
    refine Wt.quiet rfl (Wq.load1 rfl (fun w' c => (bk w' c).cell (o := 2) rfl) (Wq.nil ?_))
    skip
    refine Wt.quiet rfl (Wq.loadAt (fun w' c => (bx w' c).at) rfl rfl (Wq.nil ?_))
    have h9 := h8.new n9
    refine Wt.chain rfl (Wl.buildSlice1 (R := rEv) (Pe := fun _ => False) (y := x) goodEv rfl rfl rfl rfl (by omega) (by omega) fun v4 w10 o4 n10 s10 e10 => ?_)
    have n810 := n9.trans n10
    have h10 := h9.new n10
    refine Wl.nil ⟨rfl, n810.any, ?_⟩
    refine Wt.chain rfl (Wl.appendAll (R := rEv) goodEv h10.own (o4.rd goodEv.mo) (fun y cs hy => hy) rfl rfl (by omega) (by simp only [maxLen, List.length_singleton]; omega) (by simp only [List.length_singleton]; omega) fun v5 w11 o5 c11 lie _ => ?_)
    have c811 : Chg (fun k => v.ownBlock = some k) w8 w11 := Chg.trans n810.any c11 fun k _ e => e
    refine Wl.nil ⟨rfl, c811, ?_⟩
    have bk11 := bk w11 c811
    have bx11 := bx w11 c811
    (repeat' (first | refine Wt.quiet rfl (Wq.nilP rfl (Wq.nil ?_)) | refine Wt.quiet rfl (Wq.fieldAddr rfl rfl (Wq.nil ?_))))
    refine Wt.last rfl (Wl.store1 bk11 rfl (by simp) rfl (by obtain ⟨_, _, rfl, _⟩ := o5.form; rfl) fun w12 b12 c12 => ?_)
    have s811 := c811.size
    have s9 := n9.size
    have s910 := n810.size
    have hv5 : ∀ k, v5.ownBlock = some k → k ≠ b := by
      intro k hk
      rcases lie with lie | lie
      · rw [lie] at hk; exact fun e => hne (e ▸ hk)
      · have := lie k hk; omega
    have c812 : Chg (fun k => v.ownBlock = some k ∨ k = b) w8 w12 := Chg.trans (c811.mono fun _ _ e => .inl e) c12 fun _ _ e => .inr e
    have cf : Chg Pb w w12 := Chg.trans n8.any c812 fun k hk e => by
      rcases e with e | rfl
      · exact (hvlt k e).1
      · exact hblt.1
    have o12 := (o5.chg (plain_flat _) c12 fun k hk e => hv5 k hk e).mono goodEv.mo (Pb' := fun k => Pb k ∨ w.heap.size ≤ k) (fun k _ hk => by rcases hk with hk | hk; exact .inl hk.1; exact .inr (by omega)) fun _ _ e => e
    have bx12 := bx11.chg c12 (by omega)
    clear bk bx bk11 bx11 h9 h10 o4 o5 c11 c12 c811 c812 n810 n9 n10 b8 lie
    (repeat' (first | refine Wl.nil ?_ | refine Qseq.normal ?_ | refine Wc.seq ?_))
    refine Wc.regionN rfl (by kernel_rfl) ?_
    (repeat' (first | refine Wq.moveE (by conv => { lhs; whnf }) ?_ | refine Wq.nilP rfl ?_ | refine Wq.fieldAddr rfl rfl ?_))
    obtain ⟨a5, cp5, hv5', hd1, hd2⟩ := o12.form
    have hkx : (t.kept ++ [x]).length = t.kept.length + 1 := by rw [List.length_append, List.length_singleton]
    subst hv5'
    refine Wq.load1 rfl (fun w' n => (b12.chg n (fun e => e)).cell (o := 2) rfl) ?_
    (repeat' (first | refine Wq.moveE (by conv => { lhs; whnf }) ?_ | refine Wq.lenS rfl ?_ | refine Wq.nilP rfl ?_ | refine Wq.fieldAddr rfl rfl ?_))
    refine Wq.load1 rfl (fun w' n => (b12.chg n (fun e => e)).cell (o := 0) rfl) ?_
    have s0 := hok.s0
    (repeat' (first | refine Wq.nil ?_ | refine Wq.gtr rfl rfl (fun _ => ?_) (fun _ => ?_)))
    · intro w13 n13
      have b13 := b12.chg n13 (fun e => e)
      have o13 := o12.new (plain_flat _) n13
      have bx13 := bx12.chg n13 (fun e => e)
      (repeat' (first | refine Wl.moveE (by conv => { lhs; whnf }) ?_ | refine Qseq.normal ?_ | refine Wc.seq ?_ | refine Wc.region ?_ | refine Wc.condT rfl ?_))
      refine Wl.buildSlice0 (R := rEv) (Pe := No) fun v6 w14 o6 n14 => ?_
      have b14 := b13.chg n14 (fun e => e)
      have o14 := o13.new (plain_flat _) n14
      have bx14 := bx13.chg n14 (fun e => e)
      (repeat' (first | refine Wl.moveE (by conv => { lhs; whnf }) ?_ | refine Wl.nilP rfl ?_ | refine Wl.fieldAddr rfl rfl ?_))
      refine Wl.load1 rfl (b14.cell (o := 2) rfl) ?_
      refine Wl.sliceFrom (o14.rd goodEv.mo) rfl rfl (by omega) (by omega) fun v7 h7 => ?_
      have z12 := n13.size
      have s14 := n14.size
      have zb := b12.lt
      have zx := bx12.lt
      refine Wl.appendAll goodEv o6 h7 (fun y cs hy => hy) rfl rfl (by omega) (by simp only [maxLen, List.length_nil, List.length_drop]; omega) (by simp only [List.length_nil, List.length_drop]; omega) fun v8 w15 o8 c15 lie8 _ => ?_
      have hlt6 : ∀ k, v6.ownBlock = some k → w13.heap.size ≤ k := fun k hk => (o6.lt hk).1
      have b15 := b14.chg c15 (fun e => by have := hlt6 _ e; omega)
      have bx15 := bx14.chg c15 (fun e => by have := hlt6 _ e; omega)
      have s15 := c15.size
      have hv8 : ∀ k, v8.ownBlock = some k → w13.heap.size ≤ k := by
        intro k hk
        rcases lie8 with lie | lie
        · rw [lie] at hk; exact hlt6 k hk
        · have := lie k hk; omega
      (repeat' (first | refine Wl.nilP rfl ?_ | refine Wl.fieldAddr rfl rfl ?_))
      refine Wl.store1 b15 rfl (by simp) rfl (by obtain ⟨_, _, rfl, _⟩ := o8.form; rfl) fun w16 b16 c16 => ?_
      have bx16 := bx15.chg c16 (by omega)
      have o16 := o8.chg (plain_flat _) c16 fun k hk e => by have := hv8 k hk; omega
      have s16 := c16.size
      have hgl := hok.last
      unfold Tr.last at hgl
      have hg1 : t.gone < 4611686018427387905 := by omega
      clear hgl
      (repeat' (first | refine Wl.moveE (by conv => { lhs; whnf }) ?_ | refine Wl.nil ?_ | refine Qseq.normal ?_ | refine Wc.region ?_ | refine Wl.nilP rfl ?_ | refine Wl.fieldAddr rfl rfl ?_))
      refine Wl.load1 rfl (b16.cell (o := 1) rfl) ?_
      refine Wl.addW rfl rfl ?_
      rw [show (t.gone : Int) + 1 = ((t.gone + 1 : Nat) : Int) by omega, wu (by omega) (by omega)]
      clear hg1
      (repeat' (first | refine Wl.nilP rfl ?_ | refine Wl.fieldAddr rfl rfl ?_))
      refine Wl.store1 b16 rfl (by simp) rfl rfl fun w17 b17 c17 => ?_
      have bx17 := bx16.chg c17 (by omega)
      have o17 := o16.chg (plain_flat _) c17 fun k hk e => by have := hv8 k hk; omega
      (repeat' (first | refine Wl.nil ?_ | refine Qseq.normal ?_ | refine Wc.seq ?_ | refine Wc.region ?_ | refine Wl.fieldAddr rfl rfl ?_))
      refine Wl.load1 (u := .int .u64 (t.last + 1 : Nat)) rfl (bx17.cell (o := 0) (by subst hx; rfl)) ?_
      (repeat' (first | refine Wl.assignE (by conv => { lhs; whnf }) ?_ | refine Wl.nil ?_ | refine Qseq.normal ?_ | refine Wc.ret ?_))
      have ep : t.put x = ⟨t.size, t.gone + 1, (t.kept ++ [x]).drop 1⟩ := by
        unfold Tr.put; rw [if_neg (by omega), List.drop_append_of_le_length (by omega)]
      rw [ep] at hadd ⊢
      have c1217 : Chg (fun k => v6.ownBlock = some k ∨ k = b) w12 w17 := Chg.trans (n13.trans n14).any (Chg.trans (Chg.trans (c15.mono fun _ _ e => .inl e) c16 fun _ _ e => .inr e) c17 fun _ _ e => .inr e) fun _ _ e => e
      exact Qfn.ret2 rfl rfl rfl ⟨_, rfl, rfl, ⟨_, hadd, .inl hblt.1, b17, o17.mono goodEv.mo (fun k _ hk => by rcases hk with hk | hk <;> exact .inr (by omega)) fun _ _ e => e, fun e => by have := hv8 b e; omega⟩, Chg.trans cf c1217 fun k hk e => by
        rcases e with e | rfl
        · have := hlt6 k e; omega
        · exact hblt.1⟩
    · intro w13 n13
      have b13 := b12.chg n13 (fun e => e)
      have bx13 := bx12.chg n13 (fun e => e)
      (repeat' (first | refine Qseq.normal ?_ | refine Wc.seq ?_ | refine Wc.region ?_ | refine Wc.skip ?_ | refine Wc.condF rfl ?_ | refine Wl.fieldAddr rfl rfl ?_))
      refine Wl.load1 (u := .int .u64 (t.last + 1 : Nat)) rfl (bx13.cell (o := 0) (by subst hx; rfl)) ?_
      (repeat' (first | refine Wl.assignE (by conv => { lhs; whnf }) ?_ | refine Wl.nil ?_ | refine Qseq.normal ?_ | refine Wc.ret ?_))
      have ep : t.put x = ⟨t.size, t.gone, t.kept ++ [x]⟩ := by unfold Tr.put; rw [if_pos (by omega)]
      rw [ep] at hadd ⊢
      exact Qfn.ret2 rfl rfl rfl ⟨_, rfl, rfl, ⟨_, hadd, .inl hblt.1, b13, o12.new (plain_flat _) n13, fun e => hv5 b e rfl⟩, Chg.trans cf n13.any fun _ _ e => e⟩
end Go.Proofs.YtjaendlcijmifaaDoor

namespace Go.Proofs.YtjaendlcijmifaaDoor
open Go Wk
open Go.RowKit (Below)
attribute [local irreducible] Go.Calls

theorem get_hit {t : Tr} (h : TrOk t) {i : Nat} {x : Ev} (hx : t.kept[i]? = some x) : t.get x.id = some x := by
  have h1 := h.ids i x hx
  have h2 := (List.getElem?_eq_some_iff.1 hx).1
  unfold Tr.get Tr.at Tr.last
  rw [if_neg (by omega)]
  show t.kept[x.id - t.gone - 1]? = some x
  rw [show x.id - t.gone - 1 = i by omega]
  exact hx
theorem get_miss {t : Tr} (h : TrOk t) {id : Nat} (hx : ∀ x ∈ t.kept, x.id ≠ id) : t.get id = none := by
  cases hg : t.at id with
  | none => unfold Tr.get; rw [hg]; rfl
  | some k =>
    obtain ⟨h1, h2⟩ := Tr.at_lt hg
    obtain ⟨x, hk⟩ := get_lt t.kept h1
    have := h.ids k x hk
    exact absurd (by omega) (hx x (List.mem_of_getElem? hk))
set_option maxHeartbeats 1000000 in
theorem GetR_spec {Pb : Nat → Prop} {w : World} {b : Nat} {t : Tr} {id : Nat} (h : Rf Pb w b t) :
    Calls Tryd.prog 62 #[pT b, .int .u64 id] w (Ret fun r w' => (match t.get id with
      | none => r = .tuple #[evV ev0, vi 6]
      | some x => r = .tuple #[evV x, vi 0]) ∧ New w w') := by
  obtain ⟨v, h⟩ := h
  obtain ⟨a, cap, rfl, hc1, hc2⟩ := h.own.form
  have hok := h.ok
  have hkl := hok.len
  have hks := hok.s1
  refine calls_of_Wc Tryd.func62 rfl Tryd.ntmps62 rfl ?_
  (repeat' (first | refine Wc.seq ?_ | refine Wc.region ?_))
  refine Wl.alloc fun w1 b1 n1 s1 => ?_
  replace b1 : Bk w1 w.heap.size 31 (evC ev0) := b1
  (repeat' (first | refine Wl.assignE (by conv => { lhs; whnf }) ?_ | refine Wl.nil ?_ | refine Qseq.normal ?_ | refine Wc.seq ?_ | refine Wc.region ?_ | refine Wc.block ?_))
  refine Wc.loop (σ := Nat) (fun i => [(0, pT b), (1, .int .u64 id), (4, pT w.heap.size), (6, vi i)]) (fun i W => i ≤ t.kept.length ∧ New w1 W ∧ ∀ x ∈ t.kept.take i, x.id ≠ id) (fun i => t.kept.length - i) 0 ⟨rfl, rfl, rfl, rfl, trivial⟩ ⟨Nat.zero_le _, Chg.refl _ _, by simp⟩ ?_
  rintro i G W ⟨hi, nW, hno⟩
  simp only [upds]
  have n0 := n1.trans nW
  have hW := h.new n0
  have bW := b1.chg nW (fun e => e)
  (repeat' (first | refine Wl.moveE (by conv => { lhs; whnf }) ?_ | refine Wc.seq ?_ | refine Wc.region ?_ | refine Wl.nilP rfl ?_ | refine Wl.fieldAddr rfl rfl ?_))
  refine Wl.load1 rfl (hW.bk.cell (o := 2) rfl) ?_
  (repeat' (first | refine Wl.moveE (by conv => { lhs; whnf }) ?_ | refine Wl.nil ?_ | refine Wl.lenS rfl ?_ | refine Qseq.normal ?_ | refine Wc.seq ?_ | refine Wc.region ?_ | refine Wc.block ?_ | refine Wc.skip ?_ | refine Wc.exit ?_ | refine Qseq.exit ?_ | refine Qblk.hit ?_ | refine Qloop.exit ?_ | refine Wc.condT rfl ?_ | refine Wc.condF rfl ?_ | refine Wl.nilP rfl ?_ | refine Wl.fieldAddr rfl rfl ?_ | refine Wl.lss rfl rfl (fun _ => ?_) (fun _ => ?_)))
  · obtain ⟨x, hx⟩ := get_lt t.kept (k := i) (by omega)
    refine Wl.load1 rfl (hW.bk.cell (o := 2) rfl) ?_
    (repeat' (refine Wl.moveE (by conv => { lhs; whnf }) ?_))
    refine Wl.idxAddr (hW.own.rd goodEv.mo) rfl rfl (by omega) (by rw [Int.toNat_natCast]; exact hx) fun bb o cs hcl hR hat => ?_
    obtain rfl : cs = evC x := hR
    refine Wl.fieldAddr rfl rfl ?_
    refine Wl.load1 (u := .int .u64 x.id) rfl (hat.get 0 rfl) ?_
    (repeat' (first | refine Wl.moveE (by conv => { lhs; whnf }) ?_ | refine Wl.assignE (by conv => { lhs; whnf }) ?_ | refine Wl.nil ?_ | refine Qseq.normal ?_ | refine Wc.seq ?_ | refine Wc.region ?_ | refine Wc.skip ?_ | refine Qblk.normal ?_ | refine Wc.condT rfl ?_ | refine Wc.condF rfl ?_ | refine Wl.nilP rfl ?_ | refine Wl.fieldAddr rfl rfl ?_ | refine Wl.add rfl rfl (by omega) (by omega) ?_ | refine Wl.eql rfl rfl (fun _ => ?_) (fun _ => ?_)))
    · have hxid : x.id = id := by omega
      have hg := get_hit hok hx
      rw [hxid] at hg
      refine Wl.load1 rfl (hW.bk.cell (o := 2) rfl) ?_
      (repeat' (refine Wl.moveE (by conv => { lhs; whnf }) ?_))
      refine Wl.idxAddr (hW.own.rd goodEv.mo) rfl rfl (by omega) (by rw [Int.toNat_natCast]; exact hx) fun bb o cs hcl hR hat => ?_
      obtain rfl : cs = evC x := hR
      refine Wl.loadAt hat rfl rfl ?_
      refine Wl.storeB (o := 0) (new := evC x) bW rfl rfl rfl rfl (Nat.le_refl 6) (evC_one _) fun w3 b3 c3 s3 => ?_
      (repeat' (first | refine Wl.assignE (by conv => { lhs; whnf }) ?_ | refine Wl.nil ?_ | refine Qseq.normal ?_ | refine Wc.ret ?_ | refine Qseq.ret ?_ | refine Qblk.ret ?_ | refine Qloop.ret ?_))
      refine Qfn.retR (results2 rfl (rvOf_agg (e := 31) rfl rfl b3 rfl) (rvOf_tmp rfl)) ⟨_, rfl, ?_, Chg.trans n0 c3 fun k hk e => by omega⟩
      rw [hg]; rfl
    · refine Qloop.normal (i + 1) ⟨rfl, rfl, rfl, rfl, trivial⟩ ⟨by omega, nW, fun y hy => ?_⟩ (by omega)
      rw [take_snoc' hx] at hy
      rcases List.mem_append.1 hy with hy | hy
      · exact hno y hy
      · rw [List.mem_singleton.1 hy]; omega
  · have e : i = t.kept.length := by omega
    subst e
    rw [List.take_length] at hno
    have hg := get_miss hok hno
    refine Wl.buildG (u := evV ev0) rfl (by kernel_rfl) ?_
    skip
    refine Wl.storeB (o := 0) (new := evC ev0) bW rfl rfl rfl rfl (by decide) (evC_one _) fun w3 b3 c3 s3 => ?_
    (repeat' (first | refine Wl.assignE (by conv => { lhs; whnf }) ?_ | refine Wl.nil ?_ | refine Qseq.normal ?_ | refine Wc.ret ?_))
    refine Qfn.retR (results2 rfl (rvOf_agg (e := 31) rfl rfl b3 rfl) (rvOf_tmp rfl)) ⟨_, rfl, ?_, Chg.trans n0 c3 fun k hk e => by omega⟩
    rw [hg]; rfl
end Go.Proofs.YtjaendlcijmifaaDoor

namespace Go.Proofs.YtjaendlcijmifaaDoor
open Go Wk
open Go.RowKit (Below)
attribute [local irreducible] Go.Calls

theorem nat_dig {u : Nat} (h : u < 10) : decN u = [UInt8.ofNat (48 + u)] := Lib.decDigits_one h
theorem nat_dig2 {u : Nat} (h1 : ¬ u < 10) (h2 : u < 100) : decN u = [UInt8.ofNat (48 + u / 10), UInt8.ofNat (48 + u % 10)] := Lib.decDigits_two h1 h2
theorem int_dig (u : Nat) : decI (u : Int) = decN u := Lib.itoa_nonneg u
def aw1 : Tr := ⟨3, 0, [⟨1, 0, 10, 1, [47, 97], 0⟩]⟩
def aw2 : Tr := ⟨3, 0, [⟨1, 0, 10, 1, [47, 97], 0⟩, ⟨2, 1, 12, 3, [47, 97], 5⟩]⟩
theorem pathA : pathM [47, 97] = true := by decide
theorem aw1_add : (⟨3, 0, []⟩ : Tr).add 0 10 1 [47, 97] 0 = (1, 0, aw1) := by
  unfold Tr.add
  rw [if_neg (by simp [Tr.last, pathA]; decide), if_neg (by simp [Tr.last])]
  rfl
theorem aw2_add : aw1.add 1 12 3 [47, 97] 5 = (2, 0, aw2) := by
  unfold Tr.add
  rw [if_neg (by simp [Tr.last, aw1, pathA]; decide), if_neg (by simp [Tr.last, aw1])]
  rfl
theorem aw_lines : linesM aw2 = [[49, 32, 49, 48, 32, 98, 105, 110, 100, 32, 47, 97, 32, 48], [50, 32, 49, 50, 32, 111, 110, 32, 47, 97, 32, 53, 32, 98, 121, 32, 49]] := by
  have e0 : decI 0 = [48] := (int_dig 0).trans (nat_dig (by omega))
  have e5 : decI 5 = [53] := (int_dig 5).trans (nat_dig (by omega))
  have e10 : decI 10 = [49, 48] := (int_dig 10).trans (nat_dig2 (by omega) (by omega))
  have e12 : decI 12 = [49, 50] := (int_dig 12).trans (nat_dig2 (by omega) (by omega))
  have d1 : decN 1 = [49] := nat_dig (by omega)
  have d2 : decN 2 = [50] := nat_dig (by omega)
  simp only [linesM, aw2, List.map_cons, List.map_nil, lineM, lineH, e0, e5, e10, e12, d1, d2]
  rfl
set_option maxHeartbeats 1000000 in
theorem awake_spec {w : World} (ht : Tb w) : Calls Tryd.prog 13 #[] w (Ret fun r w' => r = .bool true ∧ New w w') := by
  refine calls_of_Wc Tryd.func13 rfl Tryd.ntmps13 rfl ?_
  (repeat' (first | refine Wl.assignE (by conv => { lhs; whnf }) ?_ | refine Wl.nil ?_ | refine Qseq.normal ?_ | refine Wc.seq ?_ | refine Wc.region ?_))
  refine Wl.call (New_spec (n := 3)) rfl ?_
  rintro r w1 ⟨hr, n1⟩
  rcases hr with ⟨hr, _⟩ | ⟨_, _, b, rfl, h1⟩
  · omega
  have z1 := n1.size
  replace h1 : Rg (fun k => w.heap.size ≤ k) w1 b ⟨3, 0, []⟩ := h1
  (repeat' (first | refine Wl.moveE (by conv => { lhs; whnf }) ?_ | refine Wl.assignE (by conv => { lhs; whnf }) ?_ | refine Wl.nil ?_ | refine Wl.extract rfl rfl ?_ | refine Qseq.normal ?_ | refine Wc.seq ?_ | refine Wc.region ?_))
  refine Wl.call (Add_spec (ca := 0) (tm := 10) (kd := 1) (pa := [47, 97]) (ar := 0) h1 ⟨by omega, by omega, by omega, by omega, by omega, by omega⟩ (by simp)) rfl ?_
  rintro _ w2 ⟨rfl, h2, c2⟩
  rw [aw1_add] at h2 ⊢
  have n2 : New w w2 := Chg.trans n1 c2 fun k hk e => by omega
  have z2 := n2.size
  (repeat' (first | refine Wl.moveE (by conv => { lhs; whnf }) ?_ | refine Wl.assignE (by conv => { lhs; whnf }) ?_ | refine Wl.nil ?_ | refine Wl.extract rfl rfl ?_ | refine Qseq.normal ?_ | refine Wc.seq ?_ | refine Wc.region ?_))
  refine Wl.call (Add_spec (ca := 1) (tm := 12) (kd := 3) (pa := [47, 97]) (ar := 5) (h2.mono (Pb' := fun k => w.heap.size ≤ k) fun k _ e => by rcases e with e | e <;> omega) ⟨by omega, by omega, by omega, by omega, by omega, by omega⟩ (by simp)) rfl ?_
  rintro _ w3 ⟨rfl, h3, c3⟩
  rw [aw2_add] at h3 ⊢
  have n3 : New w w3 := Chg.trans n2 c3 fun k hk e => by omega
  have z3 := n3.size
  (repeat' (first | refine Wl.moveE (by conv => { lhs; whnf }) ?_ | refine Wl.assignE (by conv => { lhs; whnf }) ?_ | refine Wl.nil ?_ | refine Wl.extract rfl rfl ?_ | refine Wl.guardY rfl rfl ?_ | refine Wl.pickTE rfl (by conv => { lhs; whnf }) ?_ | refine Qseq.normal ?_ | refine Wc.seq ?_ | refine Wc.region ?_ | (refine Wl.eql rfl rfl (fun _ => ?_) (fun _ => ?_) <;> (first | (exfalso; omega) | (exfalso; contradiction) | skip))))
  refine Wl.call (Lines_spec (ht.new n3) h3) rfl ?_
  rintro l w4 ⟨o4, n4⟩
  rw [aw_lines] at o4
  have r4 := o4.rd goodS.mo
  (repeat' (refine Wl.guardY rfl rfl ?_))
  refine Wl.buildSliceN (R := one vs) (Pe := fun _ => True) (xs := [[49, 32, 49, 48, 32, 98, 105, 110, 100, 32, 47, 97, 32, 48], [50, 32, 49, 50, 32, 111, 110, 32, 47, 97, 32, 53, 32, 98, 121, 32, 49]]) (us := [vs [49, 32, 49, 48, 32, 98, 105, 110, 100, 32, 47, 97, 32, 48], vs [50, 32, 49, 50, 32, 111, 110, 32, 47, 97, 32, 53, 32, 98, 121, 32, 49]]) goodS rfl rfl ⟨rfl, rfl, rfl, rfl, trivial⟩ (by simp) (by simp) fun v5 w5 o5 n5 s5 e5 => ?_
  (repeat' (refine Wl.guardY rfl rfl ?_))
  refine Wl.call (texts_spec (r4.keep (stable_one _) n5.keep) (o5.rd goodS.mo)) rfl ?_
  rintro _ w6 ⟨rfl, n6⟩
  rw [decide_eq_true rfl]
  (repeat' (first | refine Wl.assignE (by conv => { lhs; whnf }) ?_ | refine Wl.nil ?_ | refine Wl.pickTE rfl (by conv => { lhs; whnf }) ?_ | refine Qseq.normal ?_ | refine Wc.ret ?_))
  exact Qfn.ret1 rfl rfl ⟨_, rfl, rfl, ((n3.trans n4).trans n5).trans n6⟩
end Go.Proofs.YtjaendlcijmifaaDoor

namespace Go.Proofs.YtjaendlcijmifaaDoor
open Go Wk
open Go.RowKit (Below)
attribute [local irreducible] Go.Calls

/-- All that is put in. -/
def fillM (t : Tr) (l : List Ev) : Tr := l.foldl (fun t x => (t.add x.ca x.tm x.kd x.pa x.ar).2.2) t
theorem InW.of {e : Ev} (h : EvW e) : InW e.ca e.tm e.kd e.ar := ⟨h.ca, h.t0, h.t1, h.kd, h.a0, h.a1⟩
theorem mod50 {x : Int} : ∃ N : Nat, ((x.tmod 50 + 50).tmod 50) + 1 = (N : Int) ∧ 1 ≤ N ∧ N ≤ 50 ∧ -50 < x.tmod 50 ∧ x.tmod 50 < 50 := by
  have h1 : -50 < x.tmod 50 ∧ x.tmod 50 < 50 := by
    constructor
    · have := Int.lt_tmod_of_pos x (show (0 : Int) < 50 by decide); omega
    · exact Int.tmod_lt_of_pos x (by decide)
  have h2 : (x.tmod 50 + 50).tmod 50 = (x.tmod 50 + 50) % 50 := Int.tmod_eq_emod_of_nonneg (by omega)
  refine ⟨((x.tmod 50 + 50) % 50 + 1).toNat, ?_, ?_, ?_, h1⟩ <;> omega
noncomputable def size50 (x : Int) : Nat := Classical.choose (mod50 (x := x))
theorem size50_spec (x : Int) : ((x.tmod 50 + 50).tmod 50) + 1 = (size50 x : Int) ∧ 1 ≤ size50 x ∧ size50 x ≤ 50 ∧ -50 < x.tmod 50 ∧ x.tmod 50 < 50 := Classical.choose_spec (mod50 (x := x))
noncomputable def filledM (sz : Int) (l : List Ev) : Tr := fillM ⟨size50 sz, 0, []⟩ (l.take 40)
theorem fill_snoc {t : Tr} {l : List Ev} {i : Nat} {y : Ev} (h : l[i]? = some y) : fillM t (l.take (i + 1)) = ((fillM t (l.take i)).add y.ca y.tm y.kd y.pa y.ar).2.2 := by
  unfold fillM
  rw [take_snoc' h, List.foldl_append]; rfl
theorem fill_size (t : Tr) : ∀ l : List Ev, (fillM t l).size = t.size := by
  intro l
  induction l generalizing t with
  | nil => rfl
  | cons x l ih => exact (ih _).trans (add_size _ _ _ _ _ _)
set_option maxHeartbeats 1000000 in
theorem filled_spec {w : World} {sz : Int} {v : Value} {l : List Ev} (h : RdS rEv 6 (fun _ => True) w v l) (hw : ∀ e ∈ l, EvW e ∧ e.pa.length ≤ 100000000) :
    Calls Tryd.prog 14 #[vi sz, v] w (Ret fun r w' => ∃ b, r = pT b ∧ Rg (fun k => w.heap.size ≤ k) w' b (filledM sz l) ∧ New w w') := by
  obtain ⟨hN, hN0, hN8, hm0, hm1⟩ := size50_spec sz
  obtain ⟨a1, cp1, rfl, hc1, hd1⟩ := h.form
  simp only [maxLen] at hd1
  refine calls_of_Wc Tryd.func14 rfl Tryd.ntmps14 rfl ?_
  (repeat' (first | refine Wl.moveE (by conv => { lhs; whnf }) ?_ | refine Wl.assignE (by conv => { lhs; whnf }) ?_ | refine Wl.nil ?_ | refine Qseq.normal ?_ | refine Wc.seq ?_ | refine Wc.region ?_))
  refine Wl.remW rfl rfl (by omega) ?_
  (repeat' (refine Wl.add rfl rfl (by omega) (by omega) ?_))
  refine Wl.remW rfl rfl (by omega) ?_
  (repeat' (refine Wl.add rfl rfl (by omega) (by omega) ?_))
  rw [hN]
  refine Wl.call (New_spec (n := (size50 sz : Int))) rfl ?_
  rintro r w2 ⟨hr, n2⟩
  rcases hr with ⟨hr, _⟩ | ⟨_, _, b, rfl, ra⟩
  · omega
  rw [Int.toNat_natCast] at ra
  (repeat' (first | refine Wl.moveE (by conv => { lhs; whnf }) ?_ | refine Wl.assignE (by conv => { lhs; whnf }) ?_ | refine Wl.nil ?_ | refine Wl.extract rfl rfl ?_ | refine Qseq.normal ?_ | refine Wc.seq ?_ | refine Wc.region ?_ | refine Wc.block ?_ | refine Wc.skip ?_ | refine Wc.condF rfl ?_ | (refine Wl.neq rfl rfl (fun _ => ?_) (fun _ => ?_) <;> (first | (exfalso; omega) | skip))))
  refine Wc.loop (σ := Nat) (fun i => [(0, vi sz), (1, .slice a1 l.length cp1), (5, pT b), (7, vi i)]) (fun i W => i ≤ l.length ∧ i ≤ 40 ∧ New w W ∧ Rg (fun k => w.heap.size ≤ k) W b (fillM ⟨size50 sz, 0, []⟩ (l.take i))) (fun i => l.length - i) 0 ⟨rfl, rfl, rfl, rfl, trivial⟩ ⟨Nat.zero_le _, Nat.zero_le _, n2, ra⟩ ?_
  rintro i G W ⟨hi, hi2, n0, rg⟩
  simp only [upds]
  have z0 := n0.size
  (repeat' (first | refine Wl.moveE (by conv => { lhs; whnf }) ?_ | refine Wl.assignE (by conv => { lhs; whnf }) ?_ | refine Wl.nil ?_ | refine Wl.guardY rfl rfl ?_ | refine Wl.guardN rfl rfl ?_ | refine Wl.pickTE rfl (by conv => { lhs; whnf }) ?_ | refine Wl.pickFE rfl (by conv => { lhs; whnf }) ?_ | refine Wl.lenS rfl ?_ | refine Qseq.normal ?_ | refine Wc.seq ?_ | refine Wc.region ?_ | refine Wc.block ?_ | refine Wc.skip ?_ | refine Wc.exit ?_ | refine Wc.ret ?_ | refine Qseq.exit ?_ | refine Qblk.hit ?_ | refine Qloop.exit ?_ | refine Wc.condT rfl ?_ | refine Wc.condF rfl ?_ | refine Wl.lss rfl rfl (fun _ => ?_) (fun _ => ?_)))
  · obtain ⟨y, hy⟩ := get_lt l (k := i) (by omega)
    obtain ⟨hyw, hyl⟩ := hw y (List.mem_of_getElem? hy)
    refine Wc.regionT rfl (by kernel_rfl) (New w) (Chg.trans n0 (Chg.drew _ _) fun _ _ e => e) ?_
    intro W1 m1
    (repeat' (refine Wt.quiet rfl (Wq.moveE (by conv => { lhs; whnf }) (Wq.nil ?_))))
    refine Wt.quiet rfl (Wq.idxAddr h (fun W' c => c.keep) rfl rfl (by omega) (by rw [Int.toNat_natCast]; exact hy) fun bb o cs hl hR hat => Wq.nil ?_)
    obtain rfl : cs = evC y := hR
    (repeat' (refine Wt.quiet rfl (Wq.fieldAddr rfl rfl (Wq.nil ?_))))
    refine Wt.quiet rfl (Wq.load1 rfl (fun W' c => (hat W' c).get 1 rfl) (Wq.nil ?_))
    (repeat' (refine Wt.quiet rfl (Wq.moveE (by conv => { lhs; whnf }) (Wq.nil ?_))))
    refine Wt.quiet rfl (Wq.idxAddr h (fun W' c => c.keep) rfl rfl (by omega) (by rw [Int.toNat_natCast]; exact hy) fun bb o cs hl hR hat => Wq.nil ?_)
    obtain rfl : cs = evC y := hR
    (repeat' (refine Wt.quiet rfl (Wq.fieldAddr rfl rfl (Wq.nil ?_))))
    refine Wt.quiet rfl (Wq.load1 rfl (fun W' c => (hat W' c).get 2 rfl) (Wq.nil ?_))
    (repeat' (refine Wt.quiet rfl (Wq.moveE (by conv => { lhs; whnf }) (Wq.nil ?_))))
    refine Wt.quiet rfl (Wq.idxAddr h (fun W' c => c.keep) rfl rfl (by omega) (by rw [Int.toNat_natCast]; exact hy) fun bb o cs hl hR hat => Wq.nil ?_)
    obtain rfl : cs = evC y := hR
    (repeat' (refine Wt.quiet rfl (Wq.fieldAddr rfl rfl (Wq.nil ?_))))
    refine Wt.quiet rfl (Wq.load1 rfl (fun W' c => (hat W' c).get 3 rfl) (Wq.nil ?_))
    (repeat' (refine Wt.quiet rfl (Wq.moveE (by conv => { lhs; whnf }) (Wq.nil ?_))))
    refine Wt.quiet rfl (Wq.idxAddr h (fun W' c => c.keep) rfl rfl (by omega) (by rw [Int.toNat_natCast]; exact hy) fun bb o cs hl hR hat => Wq.nil ?_)
    obtain rfl : cs = evC y := hR
    (repeat' (refine Wt.quiet rfl (Wq.fieldAddr rfl rfl (Wq.nil ?_))))
    refine Wt.quiet rfl (Wq.load1 rfl (fun W' c => (hat W' c).get 4 rfl) (Wq.nil ?_))
    (repeat' (refine Wt.quiet rfl (Wq.moveE (by conv => { lhs; whnf }) (Wq.nil ?_))))
    refine Wt.quiet rfl (Wq.idxAddr h (fun W' c => c.keep) rfl rfl (by omega) (by rw [Int.toNat_natCast]; exact hy) fun bb o cs hl hR hat => Wq.nil ?_)
    obtain rfl : cs = evC y := hR
    (repeat' (refine Wt.quiet rfl (Wq.fieldAddr rfl rfl (Wq.nil ?_))))
    refine Wt.quiet rfl (Wq.load1 rfl (fun W' c => (hat W' c).get 5 rfl) (Wq.nil ?_))
    refine Wt.last rfl (Wl.call (Add_spec (rg.new m1) (InW.of hyw) hyl) rfl ?_)
    rintro _ W2 ⟨rfl, rg2, c2⟩
    have zm := m1.size
    rw [← fill_snoc hy] at rg2
    (repeat' (first | refine Wl.moveE (by conv => { lhs; whnf }) ?_ | refine Wl.assignE (by conv => { lhs; whnf }) ?_ | refine Wl.nil ?_ | refine Qseq.normal ?_ | refine Wc.region ?_ | refine Qblk.normal ?_ | refine Wl.add rfl rfl (by omega) (by omega) ?_))
    exact Qloop.normal (i + 1) ⟨rfl, rfl, rfl, rfl, trivial⟩ ⟨by omega, by omega, Chg.trans (n0.trans m1) c2 fun k hk e => by omega, rg2.mono fun k _ e => by rcases e with e | e <;> omega⟩ (by omega)
  all_goals
    refine Qfn.ret1 rfl rfl ⟨_, rfl, b, rfl, ?_, n0⟩
    have e : l.take i = l.take 40 := by
      rcases Nat.lt_or_ge i 40 with h40 | h40
      · rw [List.take_of_length_le (by omega), List.take_of_length_le (by omega)]
      · rw [show i = 40 by omega]
    unfold filledM
    rw [← e]; exact rg
/-! ### Why -/
def whyF (t : Tr) : Nat → Ev → List Ev × Bool
  | 0, x => ([x], true)
  | f + 1, x => if x.ca = 0 then ([x], true) else match t.get x.ca with
    | none => ([x], false)
    | some y => (x :: (whyF t f y).1, (whyF t f y).2)
def whyM (t : Tr) (id : Nat) : List Ev × Bool × Int := match t.get id with
  | none => ([], false, 6)
  | some x => ((whyF t id x).1, (whyF t id x).2, 0)
theorem whyF_fuel {t : Tr} (h : TrOk t) : ∀ (f g : Nat) (x : Ev), x ∈ t.kept → x.id ≤ f → x.id ≤ g → whyF t f x = whyF t g x
  | 0, g, x, hx, hf, _ => by
    have := h.cas x hx
    omega
  | f + 1, 0, x, hx, _, hg => by
    have := h.cas x hx
    omega
  | f + 1, g + 1, x, hx, hf, hg => by
    unfold whyF
    split
    · rfl
    · cases hq : t.get x.ca with
      | none => rfl
      | some y =>
        have hy := h.get hq
        have hc := h.cas x hx
        have := whyF_fuel h f g y hy.2.1 (by omega) (by omega)
        simp only [this]
theorem whyF_len (t : Tr) : ∀ (f : Nat) (x : Ev), (whyF t f x).1.length ≤ f + 1
  | 0, x => by simp [whyF]
  | f + 1, x => by
    unfold whyF
    split
    · simp
    · cases t.get x.ca with
      | none => simp
      | some y => have := whyF_len t f y; simp; omega
end Go.Proofs.YtjaendlcijmifaaDoor

namespace Go.Proofs.YtjaendlcijmifaaDoor.Wk
open Go Go.RowKit

section
variable {P : Program} {n : Nat} {Q : Po} {F : Fr} {w : World}
theorem Wr.range {r0 : Nat} {rc : Loop} (hr0 : w.heap[r0]? = some (.loop rc)) {g : Operand} {p : Nat} {assign body : Code} {gf : Nat} {lb : Array Value} {N : Nat} {x : Nat → Value} {Rd : World → Prop}
    (hg : ev n F g = .func (.func gf) #[] lb) (eg : ∀ args w, (callFunc gf args).run P w = .ok (.enter gf args) w) (it : Iter P gf lb N x Rd)
    (I : Nat → World → Prop) (Ix : Code → World → Prop)
    (hRd : ∀ k W, I k W → Rd W)
    (sN : ∀ k W W', I k W → New W W' → I k W')
    (sI : ∀ k W r r', I k W → W.heap[w.heap.size]? = some (.loop r) → I k (W.putObj w.heap.size (.loop r')))
    (sX : ∀ c W r r', Ix c W → W.heap[w.heap.size]? = some (.loop r) → Ix c (W.putObj w.heap.size (.loop r')))
    (h0 : ∀ r, I 0 (w.alloc (.loop r)))
    (hround : ∀ k W r, k < N → I k W → W.heap[w.heap.size]? = some (.loop r) →
      Wr P n (some w.heap.size) (Qas fun F' W' => New W W' ∧ ∀ r', Wr P n (some w.heap.size) (Qrd w.heap.size w.heap.size (W'.putObj w.heap.size (.loop r')) (I (k + 1)) Ix) body F' (W'.putObj w.heap.size (.loop r'))) assign (upd F p (x k)) W)
    (hdone : ∀ W, I N W → Q .normal F W)
    (hret : ∀ W, Ix .ret W → Q .ret F W)
    (hexit : ∀ id W, Ix (.exit id) W → Q (.exit id) F W) :
    Wr P n (some r0) Q (.rangeFunc g #[p] assign body) F w := by
  unfold Wr
  refine wpIn_rangeFunc ?_
  intro fn _
  obtain ⟨rec, hrec⟩ : ∃ rec : LoopState → Option Code → Loop, rec = fun st pe => { state := st, pending := pe, fn, tmps := arr n F, params := #[p], assign, body, defers := rc.defers } := ⟨_, rfl⟩
  obtain ⟨W1, hW1⟩ : ∃ W1, w.alloc (.loop (rec .ready none)) = W1 := ⟨_, rfl⟩
  have hL1 : W1.heap[w.heap.size]? = some (.loop (rec .ready none)) := by
    rw [← hW1]; exact World.alloc_heap_new w _
  have hI1 : I 0 W1 := by rw [← hW1]; exact h0 _
  refine ⟨w.heap.size, [], W1, { target := .fn (.func gf) lb, args := #[.func (.yield w.heap.size) #[] #[]] }, W1, gf,
    #[.func (.yield w.heap.size) #[] #[]] ++ lb, W1, ?_, ?_, ?_, ?_, fun h => by simp [FR, Fence.wide] at h, ?_⟩
  · rw [← hW1, hrec]; exact run_enterLoop_inner hr0 _ _ _ _ _
  · simp only [resolve, act_eval, hg]
    simp [go_sem]
  · exact fun _ _ => trivial
  · simp [invoke, go_sem, eg]
  · refine CallsIn.mono (show CallsIn (FR (some r0)) (0 - 1) P gf _ W1 _ from it w.heap.size
      (fun k W => I k W ∧ W.heap[w.heap.size]? = some (.loop (rec .ready none)))
      (fun W => ∃ c, (c = .ret ∨ ∃ id, c = .exit id) ∧ Ix c W ∧ W.heap[w.heap.size]? = some (.loop (rec .done (some c))))
      W1 (fun k W h => hRd k W h.1) (fun k W W' h n => ⟨sN k W W' h.1 n, (n.block _ (Array.getElem?_eq_some_iff.1 h.2).1 id).trans h.2⟩) ?_ ⟨hI1, hL1⟩) ?_
    · -- one round
      rintro k W hk ⟨hi, hl⟩
      have hlt : w.heap.size < W.heap.size := (Array.getElem?_eq_some_iff.1 hl).1
      have hy := run_yield (P := P) (args := #[x k]) hl (by rw [hrec]; rfl)
      rw [hrec] at hy
      have hz : ((#[p].zip #[x k]).foldl (fun tmps (t, a) => tmps.setIfInBounds t a) (arr n F)) = arr n (upd F p (x k)) := by
        simp [arr_put]
      refine ⟨fn, _, assign, body, hy, roundIn_of_wpIn (F := Fence.wide) (n := 0) trivial ?_⟩
      dsimp only
      rw [hz]
      have hA := hround k W _ hk hi hl
      unfold Wr at hA
      refine wpIn_mono hA ?_
      rintro e a w1 ⟨F', rfl, hq⟩
      cases e with
      | normal =>
        obtain ⟨hn, hq⟩ := hq
        have hl' := (hn.block _ hlt id).trans hl
        have hlt' : w.heap.size < w1.heap.size := (Array.getElem?_eq_some_iff.1 hl').1
        refine ⟨_, run_beginRound hl' (by rw [hrec]), ?_⟩
        have hl2 : (w1.putObj w.heap.size (.loop { rec .ready none with state := .busy })).heap[w.heap.size]? = some (.loop { rec .ready none with state := .busy }) := World.putObj_heap_same hlt'
        have hB := hq { rec .ready none with state := .busy }
        unfold Wr at hB
        refine wpIn_mono hB ?_
        have fin : ∀ (jump : Option Code) (W3 : World), W3.heap[w.heap.size]? = some (.loop { rec .ready none with state := .busy }) →
            (Instr.endRound w.heap.size jump).run P W3 = .ok (.bool jump.isNone) (W3.putObj w.heap.size (.loop (rec (if jump.isNone then .ready else .done) jump))) ∧
            (W3.putObj w.heap.size (.loop (rec (if jump.isNone then .ready else .done) jump))).heap[w.heap.size]? = some (.loop (rec (if jump.isNone then .ready else .done) jump)) := fun jump W3 h3 => by
          have := run_endRound (P := P) jump h3
          rw [hrec] at this ⊢
          exact ⟨this, World.putObj_heap_same (Array.getElem?_eq_some_iff.1 h3).1⟩
        rintro e a3 W3 ⟨F3, rfl, hq3⟩
        cases e with
        | normal =>
          obtain ⟨h3, _, h5⟩ := hq3
          obtain ⟨hr, hl4⟩ := fin none W3 (h3.trans hl2)
          exact ⟨_, _, hr, .inl ⟨rfl, sI _ _ _ _ h5 (h3.trans hl2), hl4⟩⟩
        | ret =>
          obtain ⟨h3, _, h5⟩ := hq3
          obtain ⟨hr, hl4⟩ := fin (some .ret) W3 (h3.trans hl2)
          exact ⟨_, _, hr, .inr ⟨rfl, .ret, .inl rfl, sX _ _ _ _ h5 (h3.trans hl2), hl4⟩⟩
        | exit id =>
          obtain ⟨h3, _, h5⟩ := hq3
          obtain ⟨hr, hl4⟩ := fin (some (.exit id)) W3 (h3.trans hl2)
          exact ⟨_, _, hr, .inr ⟨rfl, .exit id, .inr ⟨id, rfl⟩, sX _ _ _ _ h5 (h3.trans hl2), hl4⟩⟩
        | goto t => exact hq3.elim
        | panic ch => exact hq3.elim
        | outgrown => exact hq3.elim
      | exit id => exact hq.elim
      | goto t => exact hq.elim
      | ret => exact hq.elim
      | panic ch => exact hq.elim
      | outgrown => exact hq.elim
    · -- behind the iterator
      rintro e W2 ⟨⟨v, rfl⟩, (⟨hi, hl⟩ | ⟨c, hc, hi, hl⟩)⟩
      · refine ⟨none, _, by have := run_endLoop (P := P) hl (by rw [hrec]; simp); rw [hrec] at this; exact this, ?_⟩
        exact ⟨_, rfl, hdone _ (sI _ _ _ _ hi hl)⟩
      · refine ⟨some c, _, by have := run_endLoop (P := P) hl (by rw [hrec]; simp); rw [hrec] at this; exact this, ?_⟩
        rcases hc with rfl | ⟨id, rfl⟩
        · exact wpIn_ret ⟨_, rfl, hret _ (sX _ _ _ _ hi hl)⟩
        · exact wpIn_exit ⟨_, rfl, hexit _ _ (sX _ _ _ _ hi hl)⟩
end
end Go.Proofs.YtjaendlcijmifaaDoor.Wk

namespace Go.Proofs.YtjaendlcijmifaaDoor
open Go Wk
open Go.RowKit (Below)
attribute [local irreducible] Go.Calls

set_option maxHeartbeats 1000000 in
theorem Why_spec {Pb : Nat → Prop} {w : World} {b : Nat} {t : Tr} {id : Nat} (h : Rg Pb w b t) (hid : id < 18446744073709551616) :
    Calls Tryd.prog 16 #[pT b, .int .u64 id] w (Ret fun r w' => ∃ v, r = .tuple #[v, .bool (whyM t id).2.1, vi (whyM t id).2.2] ∧ OwnS rEv 36 6 (fun k => w.heap.size ≤ k) No w' v (whyM t id).1 ∧ New w w') := by
  have hok := h.ok
  have hlast := hok.last
  refine calls_of_Wc Tryd.func16 rfl Tryd.ntmps16 rfl ?_
  (repeat' (first | refine Wl.moveE (by conv => { lhs; whnf }) ?_ | refine Wl.assignE (by conv => { lhs; whnf }) ?_ | refine Wl.nil ?_ | refine Qseq.normal ?_ | refine Wc.seq ?_ | refine Wc.region ?_))
  refine Wl.call (Get_spec h hid) rfl ?_
  rintro r w1 ⟨hr, n1⟩
  cases hg : t.get id with
  | none =>
    rw [hg] at hr
    obtain rfl := hr
    have hm : whyM t id = ([], false, 6) := by unfold whyM; rw [hg]
    rw [hm]
    (repeat' (first | refine Wl.moveE (by conv => { lhs; whnf }) ?_ | refine Wl.extract rfl rfl ?_))
    refine Wl.alloc fun w2 b2 n2 s2 => ?_
    refine Wl.storeB (o := 0) (new := evC ev0) b2 rfl rfl rfl rfl (by decide) (evC_one _) fun w3 b3 c3 s3 => ?_
    have n3 : New w1 w3 := Chg.trans n2 c3 fun _ _ e => by omega
    (repeat' (first | refine Wl.moveE (by conv => { lhs; whnf }) ?_ | refine Wl.assignE (by conv => { lhs; whnf }) ?_ | refine Wl.nil ?_ | refine Qseq.normal ?_ | refine Wc.seq ?_ | refine Wc.region ?_ | refine Wc.ret ?_ | refine Qseq.ret ?_ | refine Wc.condT rfl ?_ | (refine Wl.neq rfl rfl (fun _ => ?_) (fun _ => ?_) <;> (first | (exfalso; omega) | skip))))
    exact Qfn.ret3 rfl rfl rfl rfl ⟨_, rfl, _, rfl, OwnS.nil, n1.trans n3⟩
  | some x =>
    rw [hg] at hr
    obtain rfl := hr
    obtain ⟨hxid, hxm, _, _, _⟩ := hok.get hg
    have hm : whyM t id = ((whyF t x.id x).1, (whyF t x.id x).2, 0) := by unfold whyM; rw [hg, hxid]
    rw [hm]
    (repeat' (first | refine Wl.moveE (by conv => { lhs; whnf }) ?_ | refine Wl.extract rfl rfl ?_))
    refine Wl.alloc fun w2 b2 n2 s2 => ?_
    refine Wl.storeB (o := 0) (new := evC x) b2 rfl rfl rfl rfl (Nat.le_refl 6) (evC_one _) fun w3 b3 c3 s3 => ?_
    replace b3 : Bk w3 w1.heap.size 36 (evC x) := b3
    have n3 : New w1 w3 := Chg.trans n2 c3 fun _ _ e => by omega
    have z1 := n1.size
    have z3 := n3.size
    have e3 := b3.lt
    (repeat' (first | refine Wl.moveE (by conv => { lhs; whnf }) ?_ | refine Wl.assignE (by conv => { lhs; whnf }) ?_ | refine Wl.nil ?_ | refine Qseq.normal ?_ | refine Wc.seq ?_ | refine Wc.region ?_ | refine Wc.skip ?_ | refine Wc.condF rfl ?_ | (refine Wl.neq rfl rfl (fun _ => ?_) (fun _ => ?_) <;> (first | (exfalso; omega) | skip))))
    refine Wl.loadB b3 rfl rfl ?_
    refine Wl.buildSlice1 (R := rEv) (Pe := No) (y := x) goodEv rfl rfl rfl rfl (by omega) (by omega) fun v4 w4 o4 n4 s4 e4 => ?_
    have hxl : x.id ≤ t.last := by have := (hok.get hg).2.2.2.2; omega
    have hk4 := hok.len
    have hs4 := hok.s1
    (repeat' (first | refine Wl.assignE (by conv => { lhs; whnf }) ?_ | refine Wl.nil ?_ | refine Qseq.normal ?_ | refine Wc.seq ?_ | refine Wc.block ?_))
    refine Wc.loop (σ := Value × List Ev × Ev) (fun s => [(0, pT b), (7, pT w1.heap.size), (9, s.1)]) (fun s W => New w W ∧ Bk W w1.heap.size 36 (evC s.2.2) ∧ OwnS rEv 36 6 (fun k => w3.heap.size ≤ k) No W s.1 (s.2.1 ++ [s.2.2]) ∧
      s.2.2 ∈ t.kept ∧ (whyF t x.id x).1 = s.2.1 ++ (whyF t s.2.2.id s.2.2).1 ∧ (whyF t x.id x).2 = (whyF t s.2.2.id s.2.2).2 ∧ s.2.1.length + s.2.2.id ≤ x.id) (fun s => s.2.2.id) (v4, [], x) ⟨rfl, rfl, rfl, trivial⟩
      ⟨(n1.trans n3).trans n4, b3.chg n4 (fun e => e), o4.mono goodEv.mo (fun _ _ e => e) (fun _ _ e => e), hxm, rfl, rfl, by simp⟩ ?_
    clear b3 o4 n4
    rintro ⟨v, acc, cur⟩ G W ⟨nW, bx, ov, hc, hw1, hw2, hlen⟩
    dsimp only at bx ov hc hw1 hw2 hlen
    have hcw := (hok.ok cur hc).1
    have hcas := hok.cas cur hc
    obtain ⟨ci, hci⟩ := List.mem_iff_getElem?.1 hc
    have hcid := hok.ids ci cur hci
    obtain ⟨f, hf⟩ : ∃ f, cur.id = f + 1 := ⟨cur.id - 1, by omega⟩
    have zW := nW.size
    have hgW := h.new nW
    unfold Tr.last at hxl
    simp only [upds]
    (repeat' (first | refine Wc.seq ?_ | refine Wc.region ?_ | refine Wl.fieldAddr rfl rfl ?_))
    refine Wl.load1 rfl (bx.cell (o := 1) rfl) ?_
    (repeat' (first | refine Wl.moveE (by conv => { lhs; whnf }) ?_ | refine Wl.assignE (by conv => { lhs; whnf }) ?_ | refine Wl.nil ?_ | refine Qseq.normal ?_ | refine Wc.seq ?_ | refine Wc.region ?_ | refine Wc.block ?_ | refine Wc.skip ?_ | refine Wc.exit ?_ | refine Wc.ret ?_ | refine Qseq.exit ?_ | refine Qblk.hit ?_ | refine Qloop.exit ?_ | refine Wc.condT rfl ?_ | refine Wc.condF rfl ?_ | refine Wl.fieldAddr rfl rfl ?_ | refine Wl.neq rfl rfl (fun _ => ?_) (fun _ => ?_)))
    · refine Wl.load1 rfl (bx.cell (o := 1) rfl) ?_
      refine Wl.call (Get_spec hgW hcw.ca) rfl ?_
      rintro r W1 ⟨hr, m1⟩
      have bx1 := bx.chg m1 (fun e => e)
      cases hq : t.get cur.ca with
      | none =>
        rw [hq] at hr
        obtain rfl := hr
        have hwf : whyF t cur.id cur = ([cur], false) := by rw [hf]; unfold whyF; rw [if_neg (by omega), hq]
        rw [hwf] at hw1 hw2
        (repeat' (first | refine Wl.moveE (by conv => { lhs; whnf }) ?_ | refine Wl.extract rfl rfl ?_))
        refine Wl.storeB (o := 0) (new := evC ev0) bx1 rfl rfl rfl rfl (Nat.le_refl 6) (evC_one _) fun W2 bx2 m2 s2 => ?_
        have m12 : Chg (fun k => k = w1.heap.size) W W2 := Chg.trans m1.any m2 fun _ _ e => e
        (repeat' (first | refine Wl.moveE (by conv => { lhs; whnf }) ?_ | refine Wl.assignE (by conv => { lhs; whnf }) ?_ | refine Wl.nil ?_ | refine Qseq.normal ?_ | refine Wc.seq ?_ | refine Wc.region ?_ | refine Wc.ret ?_ | refine Qseq.ret ?_ | refine Qblk.ret ?_ | refine Qloop.ret ?_ | refine Wc.condT rfl ?_ | (refine Wl.neq rfl rfl (fun _ => ?_) (fun _ => ?_) <;> (first | (exfalso; omega) | skip))))
        rw [hw1, hw2]
        exact Qfn.ret3 rfl rfl rfl rfl ⟨_, rfl, _, rfl, (ov.chg (plain_flat _) m12 fun k hk e => by have := (ov.lt hk).1; omega).mono goodEv.mo (fun k _ e => by omega) (fun _ _ e => e), Chg.trans nW m12 fun k hk e => by omega⟩
      | some y =>
        rw [hq] at hr
        obtain rfl := hr
        obtain ⟨hyid, hym, _, _, _⟩ := hok.get hq
        have hwf : whyF t cur.id cur = (cur :: (whyF t y.id y).1, (whyF t y.id y).2) := by
          rw [hf]
          conv => lhs; unfold whyF
          rw [if_neg (by omega), hq]
          dsimp only
          rw [whyF_fuel hok f y.id y hym (by omega) (Nat.le_refl _)]
        rw [hwf] at hw1 hw2
        (repeat' (first | refine Wl.moveE (by conv => { lhs; whnf }) ?_ | refine Wl.extract rfl rfl ?_))
        refine Wl.storeB (o := 0) (new := evC y) bx1 rfl rfl rfl rfl (Nat.le_refl 6) (evC_one _) fun W2 bx2 m2 s2 => ?_
        replace bx2 : Bk W2 w1.heap.size 36 (evC y) := bx2
        have m12 : Chg (fun k => k = w1.heap.size) W W2 := Chg.trans m1.any m2 fun _ _ e => e
        have ov2 := ov.chg (plain_flat _) m12 fun k hk e => by have := (ov.lt hk).1; omega
        have nW2 : New w W2 := Chg.trans nW m12 fun k hk e => by omega
        have zW2 := m12.size
        (repeat' (first | refine Wl.moveE (by conv => { lhs; whnf }) ?_ | refine Wl.assignE (by conv => { lhs; whnf }) ?_ | refine Wl.nil ?_ | refine Qseq.normal ?_ | refine Wc.seq ?_ | refine Wc.region ?_ | refine Wc.skip ?_ | refine Wc.condF rfl ?_ | (refine Wl.neq rfl rfl (fun _ => ?_) (fun _ => ?_) <;> (first | (exfalso; omega) | skip))))
        refine Wl.loadB bx2 rfl rfl ?_
        refine Wl.append1 (y := y) goodEv ov2 rfl rfl rfl rfl rfl (by omega) (by omega) (by simp only [maxLen, List.length_append, List.length_singleton]; omega) (by simp only [List.length_append, List.length_singleton]; omega) rfl rfl fun v' W3 p ov3 m3 lie => ?_
        have e2 := bx2.lt
        (repeat' (first | refine Wl.assignE (by conv => { lhs; whnf }) ?_ | refine Wl.nil ?_ | refine Qblk.normal ?_))
        exact Qloop.normal (v', acc ++ [cur], y) ⟨rfl, rfl, rfl, trivial⟩ ⟨Chg.trans nW2 m3 fun k hk e => by have := (ov2.lt e).1; omega, bx2.chg m3 fun e => by have := (ov2.lt e).1; omega, ov3.mono goodEv.mo (fun k _ e => by rcases e with e | e <;> omega) (fun _ _ e => e), hym,
          by dsimp only; rw [hw1, List.append_assoc]; rfl, hw2, by dsimp only; rw [List.length_append, List.length_singleton]; omega⟩ (by dsimp only; omega)
    · have hwf : whyF t cur.id cur = ([cur], true) := by rw [hf]; unfold whyF; rw [if_pos (by omega)]
      rw [hwf] at hw1 hw2
      rw [hw1, hw2]
      exact Qfn.ret3 rfl rfl rfl rfl ⟨_, rfl, _, rfl, ov.mono goodEv.mo (fun k _ e => by omega) (fun _ _ e => e), nW⟩
end Go.Proofs.YtjaendlcijmifaaDoor

namespace Go.Proofs.YtjaendlcijmifaaDoor
open Go Wk
open Go.RowKit (Below)
attribute [local irreducible] Go.Calls

set_option maxHeartbeats 1000000 in
theorem WhyR_spec {Pb : Nat → Prop} {w : World} {b : Nat} {t : Tr} {id : Nat} (h : Rf Pb w b t) (hid : id < 18446744073709551616) :
    Calls Tryd.prog 63 #[pT b, .int .u64 id] w (Ret fun r w' => ∃ v, r = .tuple #[v, .bool (whyM t id).2.1, vi (whyM t id).2.2] ∧ OwnS rEv 31 6 (fun k => w.heap.size ≤ k) No w' v (whyM t id).1 ∧ New w w') := by
  have hok := h.ok
  have hlast := hok.last
  refine calls_of_Wc Tryd.func63 rfl Tryd.ntmps63 rfl ?_
  (repeat' (first | refine Wl.moveE (by conv => { lhs; whnf }) ?_ | refine Wl.assignE (by conv => { lhs; whnf }) ?_ | refine Wl.nil ?_ | refine Qseq.normal ?_ | refine Wc.seq ?_ | refine Wc.region ?_))
  refine Wl.call (GetR_spec h) rfl ?_
  rintro r w1 ⟨hr, n1⟩
  cases hg : t.get id with
  | none =>
    rw [hg] at hr
    obtain rfl := hr
    have hm : whyM t id = ([], false, 6) := by unfold whyM; rw [hg]
    rw [hm]
    (repeat' (first | refine Wl.moveE (by conv => { lhs; whnf }) ?_ | refine Wl.extract rfl rfl ?_))
    refine Wl.alloc fun w2 b2 n2 s2 => ?_
    refine Wl.storeB (o := 0) (new := evC ev0) b2 rfl rfl rfl rfl (by decide) (evC_one _) fun w3 b3 c3 s3 => ?_
    have n3 : New w1 w3 := Chg.trans n2 c3 fun _ _ e => by omega
    (repeat' (first | refine Wl.moveE (by conv => { lhs; whnf }) ?_ | refine Wl.assignE (by conv => { lhs; whnf }) ?_ | refine Wl.nil ?_ | refine Qseq.normal ?_ | refine Wc.seq ?_ | refine Wc.region ?_ | refine Wc.ret ?_ | refine Qseq.ret ?_ | refine Wc.condT rfl ?_ | (refine Wl.neq rfl rfl (fun _ => ?_) (fun _ => ?_) <;> (first | (exfalso; omega) | skip))))
    exact Qfn.ret3 rfl rfl rfl rfl ⟨_, rfl, _, rfl, OwnS.nil, n1.trans n3⟩
  | some x =>
    rw [hg] at hr
    obtain rfl := hr
    obtain ⟨hxid, hxm, _, _, _⟩ := hok.get hg
    have hm : whyM t id = ((whyF t x.id x).1, (whyF t x.id x).2, 0) := by unfold whyM; rw [hg, hxid]
    rw [hm]
    (repeat' (first | refine Wl.moveE (by conv => { lhs; whnf }) ?_ | refine Wl.extract rfl rfl ?_))
    refine Wl.alloc fun w2 b2 n2 s2 => ?_
    refine Wl.storeB (o := 0) (new := evC x) b2 rfl rfl rfl rfl (Nat.le_refl 6) (evC_one _) fun w3 b3 c3 s3 => ?_
    replace b3 : Bk w3 w1.heap.size 31 (evC x) := b3
    have n3 : New w1 w3 := Chg.trans n2 c3 fun _ _ e => by omega
    have z1 := n1.size
    have z3 := n3.size
    have e3 := b3.lt
    (repeat' (first | refine Wl.moveE (by conv => { lhs; whnf }) ?_ | refine Wl.assignE (by conv => { lhs; whnf }) ?_ | refine Wl.nil ?_ | refine Qseq.normal ?_ | refine Wc.seq ?_ | refine Wc.region ?_ | refine Wc.skip ?_ | refine Wc.condF rfl ?_ | (refine Wl.neq rfl rfl (fun _ => ?_) (fun _ => ?_) <;> (first | (exfalso; omega) | skip))))
    refine Wl.loadB b3 rfl rfl ?_
    refine Wl.buildSlice1 (R := rEv) (Pe := No) (y := x) goodEv rfl rfl rfl rfl (by omega) (by omega) fun v4 w4 o4 n4 s4 e4 => ?_
    have hxl : x.id ≤ t.last := by have := (hok.get hg).2.2.2.2; omega
    have hk4 := hok.len
    have hs4 := hok.s1
    (repeat' (first | refine Wl.assignE (by conv => { lhs; whnf }) ?_ | refine Wl.nil ?_ | refine Qseq.normal ?_ | refine Wc.seq ?_ | refine Wc.block ?_))
    refine Wc.loop (σ := Value × List Ev × Ev) (fun s => [(0, pT b), (7, pT w1.heap.size), (9, s.1)]) (fun s W => New w W ∧ Bk W w1.heap.size 31 (evC s.2.2) ∧ OwnS rEv 31 6 (fun k => w3.heap.size ≤ k) No W s.1 (s.2.1 ++ [s.2.2]) ∧
      s.2.2 ∈ t.kept ∧ (whyF t x.id x).1 = s.2.1 ++ (whyF t s.2.2.id s.2.2).1 ∧ (whyF t x.id x).2 = (whyF t s.2.2.id s.2.2).2 ∧ s.2.1.length + s.2.2.id ≤ x.id) (fun s => s.2.2.id) (v4, [], x) ⟨rfl, rfl, rfl, trivial⟩
      ⟨(n1.trans n3).trans n4, b3.chg n4 (fun e => e), o4.mono goodEv.mo (fun _ _ e => e) (fun _ _ e => e), hxm, rfl, rfl, by simp⟩ ?_
    clear b3 o4 n4
    rintro ⟨v, acc, cur⟩ G W ⟨nW, bx, ov, hc, hw1, hw2, hlen⟩
    dsimp only at bx ov hc hw1 hw2 hlen
    have hcw := (hok.ok cur hc).1
    have hcas := hok.cas cur hc
    obtain ⟨ci, hci⟩ := List.mem_iff_getElem?.1 hc
    have hcid := hok.ids ci cur hci
    obtain ⟨f, hf⟩ : ∃ f, cur.id = f + 1 := ⟨cur.id - 1, by omega⟩
    have zW := nW.size
    have hgW := h.new nW
    unfold Tr.last at hxl
    simp only [upds]
    (repeat' (first | refine Wc.seq ?_ | refine Wc.region ?_ | refine Wl.fieldAddr rfl rfl ?_))
    refine Wl.load1 rfl (bx.cell (o := 1) rfl) ?_
    (repeat' (first | refine Wl.moveE (by conv => { lhs; whnf }) ?_ | refine Wl.assignE (by conv => { lhs; whnf }) ?_ | refine Wl.nil ?_ | refine Qseq.normal ?_ | refine Wc.seq ?_ | refine Wc.region ?_ | refine Wc.block ?_ | refine Wc.skip ?_ | refine Wc.exit ?_ | refine Wc.ret ?_ | refine Qseq.exit ?_ | refine Qblk.hit ?_ | refine Qloop.exit ?_ | refine Wc.condT rfl ?_ | refine Wc.condF rfl ?_ | refine Wl.fieldAddr rfl rfl ?_ | refine Wl.neq rfl rfl (fun _ => ?_) (fun _ => ?_)))
    · refine Wl.load1 rfl (bx.cell (o := 1) rfl) ?_
      refine Wl.call (GetR_spec hgW) rfl ?_
      rintro r W1 ⟨hr, m1⟩
      have bx1 := bx.chg m1 (fun e => e)
      cases hq : t.get cur.ca with
      | none =>
        rw [hq] at hr
        obtain rfl := hr
        have hwf : whyF t cur.id cur = ([cur], false) := by rw [hf]; unfold whyF; rw [if_neg (by omega), hq]
        rw [hwf] at hw1 hw2
        (repeat' (first | refine Wl.moveE (by conv => { lhs; whnf }) ?_ | refine Wl.extract rfl rfl ?_))
        refine Wl.alloc fun W2 c2 q2 s2 => ?_
        refine Wl.storeB (o := 0) (new := evC ev0) c2 rfl rfl rfl rfl (Nat.le_refl 6) (evC_one _) fun W3 c3 q3 s3 => ?_
        have m13 : New W1 W3 := Chg.trans q2 q3 fun _ _ e => by omega
        have m03 := m1.trans m13
        (repeat' (first | refine Wl.moveE (by conv => { lhs; whnf }) ?_ | refine Wl.assignE (by conv => { lhs; whnf }) ?_ | refine Wl.nil ?_ | refine Qseq.normal ?_ | refine Wc.seq ?_ | refine Wc.region ?_ | refine Wc.ret ?_ | refine Qseq.ret ?_ | refine Qblk.ret ?_ | refine Qloop.ret ?_ | refine Wc.condT rfl ?_ | (refine Wl.neq rfl rfl (fun _ => ?_) (fun _ => ?_) <;> (first | (exfalso; omega) | skip))))
        rw [hw1, hw2]
        exact Qfn.ret3 rfl rfl rfl rfl ⟨_, rfl, _, rfl, (ov.new (plain_flat _) m03).mono goodEv.mo (fun k _ e => by omega) (fun _ _ e => e), nW.trans m03⟩
      | some y =>
        rw [hq] at hr
        obtain rfl := hr
        obtain ⟨hyid, hym, _, _, _⟩ := hok.get hq
        have hwf : whyF t cur.id cur = (cur :: (whyF t y.id y).1, (whyF t y.id y).2) := by
          rw [hf]
          conv => lhs; unfold whyF
          rw [if_neg (by omega), hq]
          dsimp only
          rw [whyF_fuel hok f y.id y hym (by omega) (Nat.le_refl _)]
        rw [hwf] at hw1 hw2
        (repeat' (first | refine Wl.moveE (by conv => { lhs; whnf }) ?_ | refine Wl.extract rfl rfl ?_))
        refine Wl.alloc fun W2 c2 q2 s2 => ?_
        refine Wl.storeB (o := 0) (new := evC y) c2 rfl rfl rfl rfl (Nat.le_refl 6) (evC_one _) fun W3 c3 q3 s3 => ?_
        replace c3 : Bk W3 W1.heap.size 31 (evC y) := c3
        have m13 : New W1 W3 := Chg.trans q2 q3 fun _ _ e => by omega
        have m03 := m1.trans m13
        have zm1 := m1.size
        have zW2 := m03.size
        have ov2 := ov.new (plain_flat _) m03
        have bx2 := bx.chg m03 (fun e => e)
        have nW2 := nW.trans m03
        have e0 := bx.lt
        (repeat' (first | refine Wl.moveE (by conv => { lhs; whnf }) ?_ | refine Wl.assignE (by conv => { lhs; whnf }) ?_ | refine Wl.nil ?_ | refine Qseq.normal ?_ | refine Wc.seq ?_ | refine Wc.region ?_ | refine Wc.skip ?_ | refine Wc.condF rfl ?_ | (refine Wl.neq rfl rfl (fun _ => ?_) (fun _ => ?_) <;> (first | (exfalso; omega) | skip))))
        refine Wl.loadB c3 rfl rfl ?_
        refine Wl.append1 (y := y) goodEv ov2 rfl rfl rfl rfl rfl (by omega) (by omega) (by simp only [maxLen, List.length_append, List.length_singleton]; omega) (by simp only [List.length_append, List.length_singleton]; omega) rfl rfl fun v' W4 p ov3 m4 lie => ?_
        have c4 := c3.chg m4 fun e => by have := (ov.lt e).2; omega
        have bx4 := bx2.chg m4 fun e => by have := (ov2.lt e).1; omega
        have nW4 : New w W4 := Chg.trans nW2 m4 fun k hk e => by have := (ov2.lt e).1; omega
        (repeat' (first | refine Wl.assignE (by conv => { lhs; whnf }) ?_ | refine Wl.nil ?_ | refine Qseq.normal ?_ | refine Wc.region ?_))
        refine Wl.loadB c4 rfl rfl ?_
        refine Wl.storeB (o := 0) (new := evC y) bx4 rfl rfl rfl rfl (Nat.le_refl 6) (evC_one _) fun W5 bx5 m5 s5 => ?_
        replace bx5 : Bk W5 w1.heap.size 31 (evC y) := bx5
        have ov5 := ov3.chg (plain_flat _) m5 fun k hk e => by have := (ov3.lt hk).1; omega
        (repeat' (first | refine Wl.nil ?_ | refine Qblk.normal ?_))
        exact Qloop.normal (v', acc ++ [cur], y) ⟨rfl, rfl, rfl, trivial⟩ ⟨Chg.trans nW4 m5 fun k hk e => by omega, bx5, ov5.mono goodEv.mo (fun k _ e => by rcases e with e | e <;> omega) (fun _ _ e => e), hym,
          by dsimp only; rw [hw1, List.append_assoc]; rfl, hw2, by dsimp only; rw [List.length_append, List.length_singleton]; omega⟩ (by dsimp only; omega)
    · have hwf : whyF t cur.id cur = ([cur], true) := by rw [hf]; unfold whyF; rw [if_pos (by omega)]
      rw [hwf] at hw1 hw2
      rw [hw1, hw2]
      exact Qfn.ret3 rfl rfl rfl rfl ⟨_, rfl, _, rfl, ov.mono goodEv.mo (fun k _ e => by omega) (fun _ _ e => e), nW⟩
end Go.Proofs.YtjaendlcijmifaaDoor

namespace Go.Proofs.YtjaendlcijmifaaDoor
open Go Wk
open Go.RowKit (Below)
attribute [local irreducible] Go.Calls

set_option maxRecDepth 4000 in
set_option maxHeartbeats 1000000 in
theorem lineR_spec {w : World} {x : Ev} (ht : Tb w) (hw : EvW x) (hl : x.pa.length ≤ 100000000) :
    Calls Tryd.prog 46 #[evV x] w (Ret fun r w' => r = vs (lineM x) ∧ New w w') := by
  have h1 := decN_len hw.id
  have h2 := decI_len hw.t0 hw.t1
  have h3 := nameK_len x.kd
  have h4 := decI_len hw.a0 hw.a1
  have h5 := decN_len hw.ca
  refine calls_of_Wc Tryd.func46 rfl Tryd.ntmps46 rfl ?_
  (repeat' (first | refine Wc.seq ?_ | refine Wc.region ?_))
  refine Wl.box rfl fun w1 b1 n1 s1 => ?_
  replace b1 : Bk w1 w.heap.size 31 (evC x) := b1
  (repeat' (first | refine Wl.assignE (by conv => { lhs; whnf }) ?_ | refine Wl.nil ?_ | refine Qseq.normal ?_ | refine Wc.seq ?_))
  refine Wc.regionT rfl (by kernel_rfl) (New w1) (Chg.drew _ _) ?_
  have bx : ∀ w', New w1 w' → Bk w' w.heap.size 31 (evC x) := fun w' n => b1.chg n (fun e => e)
  have tx : ∀ {w'}, New w1 w' → Tb w' := fun n => ht.new (n1.trans n)
  intro w2 n2
  (repeat' (refine Wt.quiet rfl (Wq.fieldAddr rfl rfl (Wq.nil ?_))))
  refine Wt.quiet rfl (Wq.load1 rfl (fun w' n => (bx w' n).cell (o := 0) rfl) (Wq.nil ?_))
  refine Wt.chain rfl (Wl.call (FormatUint_spec (tx n2) hw.id) rfl ?_)
  rintro _ w3 ⟨rfl, n3⟩
  replace n3 := n2.trans n3
  refine Wl.nil ⟨rfl, n3, ?_⟩
  refine Wt.quiet rfl (Wq.sadd rfl rfl (by simp only [List.length_append, List.length_cons, List.length_nil]; omega) (Wq.nil ?_))
  (repeat' (refine Wt.quiet rfl (Wq.fieldAddr rfl rfl (Wq.nil ?_))))
  refine Wt.quiet rfl (Wq.load1 rfl (fun w' n => (bx w' n).cell (o := 2) rfl) (Wq.nil ?_))
  refine Wt.chain rfl (Wl.call (FormatInt_spec (tx n3) hw.t0 hw.t1) rfl ?_)
  rintro _ w4 ⟨rfl, n4⟩
  replace n4 := n3.trans n4
  refine Wl.nil ⟨rfl, n4, ?_⟩
  refine Wt.quiet rfl (Wq.sadd rfl rfl (by simp only [List.length_append, List.length_cons, List.length_nil]; omega) (Wq.nil ?_))
  refine Wt.quiet rfl (Wq.sadd rfl rfl (by simp only [List.length_append, List.length_cons, List.length_nil]; omega) (Wq.nil ?_))
  (repeat' (refine Wt.quiet rfl (Wq.fieldAddr rfl rfl (Wq.nil ?_))))
  refine Wt.quiet rfl (Wq.load1 rfl (fun w' n => (bx w' n).cell (o := 3) rfl) (Wq.nil ?_))
  refine Wt.chain rfl (Wl.call (KindR_spec hw.kd) rfl ?_)
  rintro _ w5 ⟨rfl, n5⟩
  replace n5 := n4.trans n5
  refine Wl.nil ⟨rfl, n5, ?_⟩
  refine Wt.quiet rfl (Wq.sadd rfl rfl (by simp only [List.length_append, List.length_cons, List.length_nil]; omega) (Wq.nil ?_))
  refine Wt.quiet rfl (Wq.sadd rfl rfl (by simp only [List.length_append, List.length_cons, List.length_nil]; omega) (Wq.nil ?_))
  (repeat' (refine Wt.quiet rfl (Wq.fieldAddr rfl rfl (Wq.nil ?_))))
  refine Wt.quiet rfl (Wq.load1 rfl (fun w' n => (bx w' n).cell (o := 4) rfl) (Wq.nil ?_))
  refine Wt.quiet rfl (Wq.sadd rfl rfl (by simp only [List.length_append, List.length_cons, List.length_nil]; omega) (Wq.nil ?_))
  refine Wt.quiet rfl (Wq.sadd rfl rfl (by simp only [List.length_append, List.length_cons, List.length_nil]; omega) (Wq.nil ?_))
  (repeat' (refine Wt.quiet rfl (Wq.fieldAddr rfl rfl (Wq.nil ?_))))
  refine Wt.quiet rfl (Wq.load1 rfl (fun w' n => (bx w' n).cell (o := 5) rfl) (Wq.nil ?_))
  refine Wt.chain rfl (Wl.call (FormatInt_spec (tx n5) hw.a0 hw.a1) rfl ?_)
  rintro _ w6 ⟨rfl, n6⟩
  replace n6 := n5.trans n6
  refine Wl.nil ⟨rfl, n6, ?_⟩
  refine Wt.quiet rfl (Wq.sadd rfl rfl (by simp only [List.length_append, List.length_cons, List.length_nil]; omega) (Wq.nil ?_))
  (repeat' (first | refine Wt.nil ?_ | refine Wt.quiet rfl (Wq.assignE (by conv => { lhs; whnf }) (Wq.nil ?_))))
  have hH : decN x.id ++ [32] ++ decI x.tm ++ [32] ++ nameK x.kd ++ [32] ++ x.pa ++ [32] ++ decI x.ar = lineH x := rfl
  have hHl : (lineH x).length ≤ x.pa.length + 80 := by unfold lineH; simp only [List.length_append, List.length_cons, List.length_nil]; omega
  rw [hH]
  have b6 := bx _ n6
  (repeat' (first | refine Qseq.normal ?_ | refine Wc.seq ?_ | refine Wc.region ?_ | refine Wl.fieldAddr rfl rfl ?_))
  refine Wl.load1 rfl (b6.cell (o := 1) rfl) ?_
  have n06 := n1.trans n6
  (repeat' (first | refine Wl.moveE (by conv => { lhs; whnf }) ?_ | refine Wl.assignE (by conv => { lhs; whnf }) ?_ | refine Wl.nil ?_ | refine Qseq.normal ?_ | refine Wc.seq ?_ | refine Wc.region ?_ | refine Wc.skip ?_ | refine Wc.ret ?_ | refine Wc.condT rfl ?_ | refine Wc.condF rfl ?_ | refine Wl.neq rfl rfl (fun _ => ?_) (fun _ => ?_)))
  · refine Wl.sadd rfl rfl (by simp only [List.length_append, List.length_cons, List.length_nil]; omega) ?_
    (repeat' (refine Wl.fieldAddr rfl rfl ?_))
    refine Wl.load1 rfl (b6.cell (o := 1) rfl) ?_
    refine Wl.call (FormatUint_spec (tx n6) hw.ca) rfl ?_
    rintro _ w7 ⟨rfl, n7⟩
    refine Wl.sadd rfl rfl (by simp only [List.length_append, List.length_cons, List.length_nil]; omega) ?_
    (repeat' (first | refine Wl.moveE (by conv => { lhs; whnf }) ?_ | refine Wl.assignE (by conv => { lhs; whnf }) ?_ | refine Wl.nil ?_ | refine Qseq.normal ?_ | refine Wc.seq ?_ | refine Wc.region ?_ | refine Wc.ret ?_))
    refine Qfn.ret1 rfl rfl ⟨_, rfl, ?_, n06.trans n7⟩
    unfold lineM
    rw [if_neg (by omega)]
    first | rfl | (rw [← List.append_assoc]; rfl) | (rw [List.append_assoc]; rfl)
  · refine Qfn.ret1 rfl rfl ⟨_, rfl, ?_, n06⟩
    unfold lineM
    rw [if_pos (by omega)]; rfl
end Go.Proofs.YtjaendlcijmifaaDoor

namespace Go.Proofs.YtjaendlcijmifaaDoor
open Go Wk
open Go.RowKit (Below)
attribute [local irreducible] Go.Calls

set_option maxHeartbeats 1000000 in
theorem LinesR_spec {Pb : Nat → Prop} {w : World} {b : Nat} {t : Tr} (ht : Tb w) (h : Rf Pb w b t) : Calls Tryd.prog 28 #[pT b] w (Ret fun r w' => OwnS (one vs) 9 1 (fun b => w.heap.size ≤ b) No w' r (linesM t) ∧ New w w') := by
  obtain ⟨v, h⟩ := h
  obtain ⟨a, cap, rfl, hc1, hc2⟩ := h.own.form
  have hok := h.ok
  have hkl := hok.len
  have hks := hok.s1
  refine calls_of_Wc Tryd.func28 rfl Tryd.ntmps28 rfl ?_
  (repeat' (first | refine Wl.assignE (by conv => { lhs; whnf }) ?_ | refine Wl.nil ?_ | refine Qseq.normal ?_ | refine Wc.seq ?_ | refine Wc.region ?_ | refine Wc.block ?_))
  refine Wc.loop (σ := Nat × Value) (fun s => [(0, pT b), (3, s.2), (4, vi s.1)]) (fun s W => s.1 ≤ t.kept.length ∧ OwnS (one vs) 9 1 (fun b => w.heap.size ≤ b) No W s.2 ((t.kept.take s.1).map lineM) ∧ New w W) (fun s => t.kept.length - s.1) (0, .slice none 0 0) ⟨rfl, rfl, rfl, trivial⟩ ⟨Nat.zero_le _, OwnS.nil, Chg.refl _ _⟩ ?_
  rintro ⟨i, g⟩ G W ⟨hi, og, nW⟩
  dsimp only at hi og
  simp only [upds]
  have hW := h.new nW
  have zW := nW.size
  (repeat' (first | refine Wl.moveE (by conv => { lhs; whnf }) ?_ | refine Wc.seq ?_ | refine Wc.region ?_ | refine Wl.nilP rfl ?_ | refine Wl.fieldAddr rfl rfl ?_))
  refine Wl.load1 rfl (hW.bk.cell (o := 2) rfl) ?_
  (repeat' (first | refine Wl.moveE (by conv => { lhs; whnf }) ?_ | refine Wl.assignE (by conv => { lhs; whnf }) ?_ | refine Wl.nil ?_ | refine Wl.lenS rfl ?_ | refine Qseq.normal ?_ | refine Wc.seq ?_ | refine Wc.region ?_ | refine Wc.block ?_ | refine Wc.skip ?_ | refine Wc.exit ?_ | refine Wc.ret ?_ | refine Qseq.exit ?_ | refine Qblk.hit ?_ | refine Qloop.exit ?_ | refine Wc.condT rfl ?_ | refine Wc.condF rfl ?_ | refine Wl.nilP rfl ?_ | refine Wl.fieldAddr rfl rfl ?_ | refine Wl.lss rfl rfl (fun _ => ?_) (fun _ => ?_)))
  · obtain ⟨x, hx⟩ := get_lt t.kept (k := i) (by omega)
    obtain ⟨k1, k2, k3⟩ := hok.ok x (List.mem_of_getElem? hx)
    have hpl := pathM_len k3
    refine Wl.load1 rfl (hW.bk.cell (o := 2) rfl) ?_
    (repeat' (refine Wl.moveE (by conv => { lhs; whnf }) ?_))
    refine Wl.idxAddr (hW.own.rd goodEv.mo) rfl rfl (by omega) (by rw [Int.toNat_natCast]; exact hx) fun bb o cs hcl hR hat => ?_
    obtain rfl : cs = evC x := hR
    refine Wl.loadAt hat rfl rfl ?_
    refine Wl.call (lineR_spec (ht.new nW) k1 (by omega)) rfl ?_
    rintro _ W1 ⟨rfl, m1⟩
    have zm := m1.size
    have og1 := og.new (plain_one _) m1
    refine Wl.append1 (y := lineM x) goodS og1 rfl rfl rfl rfl rfl (by omega) (by omega) (by simp only [maxLen, List.length_map, List.length_take]; omega) (by simp only [List.length_map, List.length_take]; omega) rfl rfl fun g' W2 p og2 c2 _ => ?_
    have e : (t.kept.take i).map lineM ++ [lineM x] = (t.kept.take (i + 1)).map lineM := by rw [take_snoc' hx, List.map_append]; rfl
    rw [e] at og2
    (repeat' (first | refine Wl.moveE (by conv => { lhs; whnf }) ?_ | refine Wl.assignE (by conv => { lhs; whnf }) ?_ | refine Wl.nil ?_ | refine Qseq.normal ?_ | refine Wc.region ?_ | refine Qblk.normal ?_ | refine Wl.add rfl rfl (by omega) (by omega) ?_))
    exact Qloop.normal (i + 1, g') ⟨rfl, rfl, rfl, trivial⟩ ⟨by dsimp only; omega, og2.mono goodS.mo (fun k _ hk => by rcases hk with hk | hk <;> omega) (fun _ _ e => e), Chg.trans (nW.trans m1) c2 fun k hk e => by have := (og1.lt e).1; omega⟩ (by dsimp only; omega)
  · have e : i = t.kept.length := by omega
    subst e
    rw [List.take_length] at og
    exact Qfn.ret1 rfl rfl ⟨_, rfl, og, nW⟩
end Go.Proofs.YtjaendlcijmifaaDoor

namespace Go.Proofs.YtjaendlcijmifaaDoor
open Go Wk
open Go.RowKit (Below)
attribute [local irreducible] Go.Calls

/-- How far the scan is: what was found, what begins at 'f'. -/
structure ScanW (r : List UInt8) (i f : Nat) (out : List (List UInt8)) : Prop where
  hle : f ≤ i
  hi : i ≤ r.length
  few : out.length ≤ f
  done : splitR 32 r = out ++ splitR 32 (r.drop f)
  free : ∀ b ∈ (r.drop f).take (i - f), b ≠ 32
theorem ScanW.last {r : List UInt8} {f : Nat} {out : List (List UInt8)} (h : ScanW r r.length f out) : splitR 32 r = out ++ [(r.take r.length).drop f] := by
  rw [h.done, List.take_length, splitR_free fun b hb => h.free b (by rw [List.take_of_length_le (by simp)]; exact hb)]
theorem ScanW.step {r : List UInt8} {i f : Nat} {out : List (List UInt8)} {c : UInt8} (h : ScanW r i f out) (hi : r[i]? = some c) (hc : c ≠ 32) : ScanW r (i + 1) f out := by
  have hl := (List.getElem?_eq_some_iff.1 hi).1
  have hle := h.hle
  refine ⟨by omega, by omega, h.few, h.done, fun b hb => ?_⟩
  rw [show i + 1 - f = (i - f) + 1 by omega, take_snoc' (y := c) (by rw [List.getElem?_drop, show f + (i - f) = i by omega]; exact hi)] at hb
  rcases List.mem_append.1 hb with hb | hb
  · exact h.free b hb
  · rw [List.mem_singleton.1 hb]; exact hc
theorem ScanW.next {r : List UInt8} {i f : Nat} {out : List (List UInt8)} (h : ScanW r i f out) (hi : r[i]? = some 32) : ScanW r (i + 1) (i + 1) (out ++ [(r.take i).drop f]) := by
  have hl := (List.getElem?_eq_some_iff.1 hi).1
  have hle := h.hle
  have hf := h.few
  have e : r.drop f = (r.take i).drop f ++ 32 :: r.drop (i + 1) := by
    have e1 : r = r.take i ++ 32 :: r.drop (i + 1) := by
      rw [← dropC hi, List.take_append_drop]
    conv => lhs; rw [e1]
    rw [List.drop_append_of_le_length (by simp; omega)]
  have hd : splitR 32 r = out ++ ((r.take i).drop f :: splitR 32 (r.drop (i + 1))) := by
    rw [h.done]
    conv => lhs; rw [e]
    rw [splitR_at fun b hb => h.free b (by rw [List.drop_take] at hb; exact hb)]
  exact ⟨Nat.le_refl _, by omega, by simp; omega, by rw [hd, List.append_assoc]; rfl, fun b hb => by simp at hb⟩
theorem scanW0 (r : List UInt8) : ScanW r 0 0 [] := ⟨Nat.le_refl _, Nat.zero_le _, Nat.le_refl _, rfl, fun b hb => by simp at hb⟩
set_option maxHeartbeats 1000000 in
theorem words_spec {w : World} {s : List UInt8} (hl : s.length ≤ 10000000) : Calls Tryd.prog 66 #[vs s] w (Ret fun r w' => OwnS (one vs) 9 1 (fun b => w.heap.size ≤ b) No w' r (splitR 32 s) ∧ New w w') := by
  refine calls_of_Wc Tryd.func66 rfl Tryd.ntmps66 rfl ?_
  (repeat' (first | refine Wl.assignE (by conv => { lhs; whnf }) ?_ | refine Wl.nil ?_ | refine Qseq.normal ?_ | refine Wc.seq ?_ | refine Wc.region ?_ | refine Wc.block ?_))
  refine Wc.loop (σ := Nat × Nat × Value × List (List UInt8)) (fun x => [(0, vs s), (3, x.2.2.1), (4, vi x.2.1), (5, vi x.1)]) (fun x W => (ScanW s x.1 x.2.1 x.2.2.2 ∨ x.1 = s.length + 1 ∧ splitR 32 s = x.2.2.2) ∧ x.1 ≤ s.length + 1 ∧ New w W ∧ OwnS (one vs) 9 1 (fun b => w.heap.size ≤ b) No W x.2.2.1 x.2.2.2) (fun x => s.length + 1 - x.1) (0, 0, .slice none 0 0, []) ⟨rfl, rfl, rfl, rfl, trivial⟩
    ⟨.inl (scanW0 s), Nat.zero_le _, Chg.refl _ _, OwnS.nil⟩ ?_
  rintro ⟨i, f, g, out⟩ G W ⟨hS, hi1, nW, og⟩
  dsimp only at hS hi1 og
  simp only [upds]
  have zW := nW.size
  (repeat' (first | refine Wl.moveE (by conv => { lhs; whnf }) ?_ | refine Wl.assignE (by conv => { lhs; whnf }) ?_ | refine Wl.nil ?_ | refine Wl.guardY rfl rfl ?_ | refine Wl.guardN rfl rfl ?_ | refine Wl.pickTE rfl (by conv => { lhs; whnf }) ?_ | refine Wl.lenStr rfl ?_ | refine Qseq.normal ?_ | refine Wc.seq ?_ | refine Wc.region ?_ | refine Wc.block ?_ | refine Wc.skip ?_ | refine Wc.exit ?_ | refine Wc.ret ?_ | refine Qseq.exit ?_ | refine Qblk.hit ?_ | refine Qloop.exit ?_ | refine Wc.condT rfl ?_ | refine Wc.condF rfl ?_ | refine Wl.leq rfl rfl (fun _ => ?_) (fun _ => ?_) | refine Wl.eql rfl rfl (fun _ => ?_) (fun _ => ?_)))
  · rcases hS with hS | ⟨he, _⟩
    rotate_left
    · omega
    have hle := hS.hle
    have hi := hS.hi
    have hfew := hS.few
    have ei : i = s.length := by omega
    subst ei
    have hd := hS.last
    refine Wl.strBoth rfl rfl rfl (by omega) (by omega) (by omega) ?_
    rw [show ((s.take ((s.length : Nat) : Int).toNat).drop ((f : Nat) : Int).toNat) = (s.take s.length).drop f from rfl]
    refine Wl.append1 (y := (s.take s.length).drop f) goodS og rfl rfl rfl rfl rfl (by omega) (by omega) (by simp only [maxLen]; omega) (by omega) rfl rfl fun g' W2 p og2 c2 _ => ?_
    (repeat' (first | refine Wl.moveE (by conv => { lhs; whnf }) ?_ | refine Wl.assignE (by conv => { lhs; whnf }) ?_ | refine Wl.nil ?_ | refine Qseq.normal ?_ | refine Wc.region ?_ | refine Qblk.normal ?_ | refine Wl.add rfl rfl (by omega) (by omega) ?_))
    exact Qloop.normal (s.length + 1, s.length + 1, g', out ++ [(s.take s.length).drop f]) ⟨rfl, rfl, rfl, rfl, trivial⟩ ⟨.inr ⟨rfl, hd⟩, Nat.le_refl _, Chg.trans nW c2 fun k hk e => by have := (og.lt e).1; omega, og2.mono goodS.mo (fun k _ hk => by rcases hk with hk | hk <;> omega) fun _ _ e => e⟩ (by dsimp only; omega)
  · rcases hS with hS | ⟨he, _⟩
    rotate_left
    · omega
    have hle := hS.hle
    have hi := hS.hi
    have hfew := hS.few
    obtain ⟨c, hc⟩ := get_lt s (k := i) (by omega)
    refine Wl.idxStr (b := c) rfl rfl (by omega) (by rw [Int.toNat_natCast]; exact hc) ?_
    (repeat' (first | refine Wl.moveE (by conv => { lhs; whnf }) ?_ | refine Wl.assignE (by conv => { lhs; whnf }) ?_ | refine Wl.nil ?_ | refine Wl.guardY rfl rfl ?_ | refine Wl.pickFE rfl (by conv => { lhs; whnf }) ?_ | refine Qseq.normal ?_ | refine Wc.seq ?_ | refine Wc.region ?_ | refine Wc.skip ?_ | refine Qblk.normal ?_ | refine Wc.condT rfl ?_ | refine Wc.condF rfl ?_ | refine Wl.add rfl rfl (by omega) (by omega) ?_ | refine Wl.eql rfl rfl (fun _ => ?_) (fun _ => ?_)))
    · have e : c = 32 := UInt8.toNat_inj.1 (by have h : (c.toNat : Int) = 32 := by assumption
                                               show c.toNat = 32; omega)
      subst e
      refine Wl.strBoth rfl rfl rfl (by omega) (by omega) (by omega) ?_
      rw [show ((s.take ((i : Nat) : Int).toNat).drop ((f : Nat) : Int).toNat) = (s.take i).drop f from rfl]
      refine Wl.append1 (y := (s.take i).drop f) goodS og rfl rfl rfl rfl rfl (by omega) (by omega) (by simp only [maxLen]; omega) (by omega) rfl rfl fun g' W2 p og2 c2 _ => ?_
      (repeat' (first | refine Wl.moveE (by conv => { lhs; whnf }) ?_ | refine Wl.assignE (by conv => { lhs; whnf }) ?_ | refine Wl.nil ?_ | refine Qseq.normal ?_ | refine Wc.region ?_ | refine Qblk.normal ?_ | refine Wl.add rfl rfl (by omega) (by omega) ?_))
      exact Qloop.normal (i + 1, i + 1, g', out ++ [(s.take i).drop f]) ⟨rfl, rfl, rfl, rfl, trivial⟩ ⟨.inl (hS.next hc), by dsimp only; omega, Chg.trans nW c2 fun k hk e => by have := (og.lt e).1; omega, og2.mono goodS.mo (fun k _ hk => by rcases hk with hk | hk <;> omega) fun _ _ e => e⟩ (by dsimp only; omega)
    · have e : c ≠ 32 := fun e => (by assumption : ¬ ((c.toNat : Int) = 32)) (by rw [e]; rfl)
      exact Qloop.normal (i + 1, f, g, out) ⟨rfl, rfl, rfl, rfl, trivial⟩ ⟨.inl (hS.step hc e), by dsimp only; omega, nW, og⟩ (by dsimp only; omega)
  · rcases hS with hS | ⟨he, h1⟩
    · have := hS.hi; omega
    rw [← h1] at og
    exact Qfn.ret1 rfl rfl ⟨_, rfl, og, nW⟩
end Go.Proofs.YtjaendlcijmifaaDoor
