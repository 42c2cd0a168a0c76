/-
  Texts of this claim, one behind the other: Xj, Xk, Xq, Rn, Xr, Xs, Xt.
-/
import Derived.Test.YtjaendlcijmifaaDoorZc
import Derived.RangeFuncNested
import Derived.Maps.Keyed
namespace Go.Proofs.YtjaendlcijmifaaDoor
open Go Wk
open Go.RowKit (Below)
attribute [local irreducible] Go.Calls

theorem splitR_sum (c : UInt8) : ∀ l : List UInt8, ((splitR c l).map fun x => x.length + 1).sum = l.length + 1
  | [] => rfl
  | b :: l => by
    have ih := splitR_sum c l
    rw [splitR]
    split
    · rw [List.map_cons, List.sum_cons, ih]; simp; omega
    · have hne := splitR_ne c l
      revert ih hne
      generalize splitR c l = q
      intro ih hne
      cases q with
      | nil => exact absurd rfl hne
      | cons h t => simp only [List.map_cons, List.sum_cons, List.length_cons] at ih ⊢; omega
theorem sum_le_mul {m : Nat} : ∀ {l : List Nat}, (∀ x ∈ l, x ≤ m) → l.sum ≤ l.length * m
  | [], _ => by simp
  | x :: l, h => by
    have h1 := sum_le_mul (l := l) fun y hy => h y (by simp [hy])
    have h2 := h x (by simp)
    rw [List.sum_cons, List.length_cons, Nat.add_mul]; omega
theorem pathM_len {s : List UInt8} (h : pathM s = true) : s.length ≤ 1000 := by
  unfold pathM at h
  rcases Bool.or_eq_true _ _ ▸ h with h | h
  · rw [of_decide_eq_true h]; simp
  · simp only [Bool.and_eq_true, Bool.not_eq_true', List.any_eq_false, decide_eq_true_eq] at h
    obtain ⟨⟨⟨h0, h1⟩, h2⟩, h3⟩ := h
    have hs := splitR_sum 47 s
    have hle : ∀ x ∈ (splitR 47 s).map fun x => x.length + 1, x ≤ 32 := by
      intro x hx
      obtain ⟨y, hy, rfl⟩ := List.mem_map.1 hx
      obtain ⟨k, hk⟩ := List.mem_iff_getElem?.1 hy
      cases k with
      | zero =>
        rw [h0] at hk
        cases hk; simp
      | succ k =>
        have hm : y ∈ (splitR 47 s).drop 1 := List.mem_iff_getElem?.2 ⟨k, by rw [List.getElem?_drop, Nat.add_comm]; exact hk⟩
        have := h3 y hm
        cases hn : nameOk y with
        | false => rw [hn] at this; exact absurd rfl this
        | true =>
          unfold nameOk at hn
          rw [Bool.and_eq_true] at hn
          have := of_decide_eq_true hn.1
          omega
    have := sum_le_mul hle
    rw [List.length_map] at this
    have h4 : (splitR 47 s).length * 32 ≤ 16 * 32 := Nat.mul_le_mul_right _ h2
    omega
theorem goodS : GoodR (one vs) 1 := good_one _ fun _ => rfl
set_option maxHeartbeats 2000000 in
theorem Lines_spec' {w : World} {p : Value} {l : List Ev} (ht : Tb w) (hl : l.length ≤ 1000000) (hw : ∀ e ∈ l, EvW e ∧ e.pa.length ≤ 100000000) (hE : ∀ w', New w w' → Calls Tryd.prog 11 #[p] w' (Ret fun r w'' => SeqAt (fun k => w'.heap.size ≤ k) w'' r l ∧ New w' w'')) :
    Calls Tryd.prog 21 #[p] w (Ret fun r w' => OwnS (one vs) 9 1 (fun b => w.heap.size ≤ b) No w' r (l.map lineM) ∧ New w w') := by
  refine calls_of_Wd Tryd.func21 rfl Tryd.ntmps21 rfl ?_
  (repeat' (first | refine Wl.assignE (by conv => { lhs; whnf }) ?_ | refine Wl.nil ?_ | refine Wd.seq ?_ | refine Qds.normal ?_ | refine Wd.region ?_))
  refine Wl.alloc fun w1 b1 n1 s1 => ?_
  replace b1 : Bk w1 w.heap.size 50 [.slice none 0 0] := b1
  (repeat' (first | refine Wl.moveE (by conv => { lhs; whnf }) ?_ | refine Wl.nil ?_ | refine Wd.seq ?_ | refine Qds.normal ?_ | refine Wd.region ?_))
  refine Wl.call (hE w1 n1) rfl ?_
  intro f w2 hh
  obtain ⟨⟨bs, sv, rfl, hbs, hb2, hr2⟩, n2⟩ := hh
  have b2 := b1.chg n2 (fun e => e)
  have hq2 : SqR (fun k => w1.heap.size ≤ k ∧ k < w2.heap.size) bs sv l w2 := ⟨hb2, hr2.mono (mono_flat _) fun k hk e => ⟨e, hk⟩⟩
  have hbl := hb2.lt
  have n02 := n1.trans n2
  have z1 := n1.size
  have z2 := n2.size
  clear hb2 hr2 b1
  let I : Nat → World → Prop := fun k W => New w W ∧ w2.heap.size ≤ W.heap.size ∧ SqR (fun k => w1.heap.size ≤ k ∧ k < w2.heap.size) bs sv l W ∧ ∃ u, Bk W w.heap.size 50 [u] ∧ OwnS (one vs) 9 1 (fun j => w2.heap.size ≤ j) No W u ((l.take k).map lineM)
  (repeat' (first | refine Wl.nil ?_ | refine Wd.block ?_ | refine Qds.normal ?_))
  refine Wd.range (gf := 55) (lb := #[pT bs]) rfl (fun args _ => run_callFunc inferInstance args) (iter_values (Pb := fun k => w1.heap.size ≤ k ∧ k < w2.heap.size) (bs := bs) (v := sv) (l := l)) I (fun _ _ => False) ?_ ?_ ?_ ?_ ?_ ?_ ?_ ?_ ?_
  · exact fun k W h => h.2.2.1
  · rintro k W W' ⟨h1, h2, h3, u, h4, h5⟩ n
    exact ⟨h1.trans n, Nat.le_trans h2 n.size, h3.new n, u, h4.chg n (fun e => e), h5.new (plain_one _) n⟩
  · rintro k W r r' ⟨h1, h2, h3, u, h4, h5⟩ hL
    exact ⟨h1.put _ (by omega), by simpa using h2, h3.put _ (.loop hL) (by omega), u, h4.put _ (.loop hL), h5.put _ (plain_one _) (.loop hL)⟩
  · exact fun _ _ _ _ h => h.elim
  · intro r
    have n := Chg.loop (w := w2) (.deferred (some [])) (.loop r)
    exact ⟨n02.trans n, n.size, hq2.new n, _, b2.chg n (fun e => e), OwnS.nil⟩
  · rintro k W r hk ⟨h1, h2, h3, u, h4, h5⟩ hL hD
    obtain ⟨y, hy⟩ := get_lt l hk
    obtain ⟨hyw, hyl⟩ := hw y (List.mem_of_getElem? hy)
    show Wr _ _ _ _ _ (upd _ 7 (evV (l.getD k ev0))) W
    rw [getD_of hy]
    (repeat' (refine Wr.region rfl (by repeat' (first | exact Qfn.out (by rintro _ ⟨⟨_, e⟩, _⟩; cases e) | exact Qrd.out | exact Qas.out | refine Qsr.out ?_ | refine Qloop.out ?_ | refine Qsc.out ?_ | refine Qblk.out ?_)) ?_))
    refine Wl.alloc fun W1 c1 m1 t1 => ?_
    refine Wl.storeB (o := 0) (new := evC y) c1 rfl rfl rfl rfl (Nat.le_refl 6) (evC_one _) fun W2 c2 m2 t2 => ?_
    replace c2 : Bk W2 W.heap.size 36 (evC y) := c2
    have m02 : New W W2 := Chg.trans m1 m2 fun _ _ e => by omega
    (repeat' (refine Wl.nil ?_))
    refine ⟨m02, fun r' => ?_⟩
    have nL : NoC W2 (w2.heap.size + 1) := .loop ((m02.block _ (Array.getElem?_eq_some_iff.1 hL).1 id).trans hL)
    have hLt := nL.lt
    have q1 : New w (W2.putObj (w2.heap.size + 1) (.loop r')) := (h1.trans m02).put _ (by omega)
    have q3 := (h3.new m02).put (.loop r') nL (by omega)
    have q4 := (h4.chg m02 (fun e => e)).put (.loop r') nL
    have q5 := (h5.new (plain_one _) m02).put (.loop r') (plain_one _) nL
    have q6 := c2.put (.loop r') nL
    have qL : NoC (W2.putObj (w2.heap.size + 1) (.loop r')) (w2.heap.size + 1) := .loop (World.putObj_heap_same hLt)
    have qD : NoC (W2.putObj (w2.heap.size + 1) (.loop r')) w2.heap.size := .mark ((World.putObj_heap_other (by omega)).trans ((m02.block _ (Array.getElem?_eq_some_iff.1 hD).1 id).trans hD))
    have hu1 : ∀ j, u.ownBlock = some j → w2.heap.size ≤ j ∧ j < W.heap.size := fun j e => h5.lt e
    generalize W2.putObj (w2.heap.size + 1) (.loop r') = W3 at *
    clear m1 m2 c1 c2 h1 h3 h4 h5
    have zW := q1.size
    have zL := qL.lt
    have z6 := q6.lt
    obtain ⟨ua, ucp, hu0, _⟩ := q5.form
    (repeat' (refine Wr.block ?_))
    refine Wr.regionT rfl (by repeat' (first | exact Qfn.out (by rintro _ ⟨⟨_, e⟩, _⟩; cases e) | exact Qrd.out | exact Qas.out | refine Qsr.out ?_ | refine Qloop.out ?_ | refine Qsc.out ?_ | refine Qblk.out ?_)) rfl (by kernel_rfl) (fun W' => Chg (fun j => u.ownBlock = some j) W3 W') (Chg.drew _ _) ?_
    intro W4 m4
    have bk4 : ∀ W', Chg (fun j => u.ownBlock = some j) W3 W' → Bk W' w.heap.size 50 [u] := fun W' c => q4.chg c fun e => by have := hu1 _ e; omega
    skip
    refine Wt.quiet rfl (Wq.load1 rfl (fun W' c => (bk4 W' c).cell (o := 0) rfl) (Wq.nil ?_))
    refine Wt.quiet rfl (Wq.loadAt (fun W' c => (q6.chg c fun e => by have := hu1 _ e; omega).at) rfl rfl (Wq.nil ?_))
    refine Wt.chain rfl (Wl.call (line_spec (ht.new (q1.trans m4)) hyw hyl) rfl ?_)
    rintro _ W5 ⟨rfl, m5⟩
    replace m5 := m4.trans m5
    refine Wl.nil ⟨rfl, m5.any, ?_⟩
    refine Wt.chain rfl (Wl.buildSlice1 (R := one vs) (Pe := No) (y := lineM y) goodS rfl rfl rfl rfl (by omega) (by omega) fun v6 W6 o6 n6 s6 e6 => ?_)
    have m6 := m5.trans n6
    refine Wl.nil ⟨rfl, m6.any, ?_⟩
    refine Wt.chain rfl (Wl.appendAll (R := one vs) goodS (q5.new (plain_one _) m6) (o6.rd goodS.mo) (fun y cs hy => hy) rfl rfl (by omega) (by simp only [maxLen, List.length_map, List.length_take, List.length_singleton]; omega) (by simp only [List.length_map, List.length_take, List.length_singleton]; omega) fun u' W7 o7 c7 lie _ => ?_)
    rw [show (l.take k).map lineM ++ [lineM y] = (l.take (k + 1)).map lineM by rw [take_snoc' hy, List.map_append]; rfl] at o7
    have c37 : Chg (fun j => u.ownBlock = some j) W3 W7 := Chg.trans m6.any c7 fun _ _ e => e
    refine Wl.nil ⟨rfl, c37, ?_⟩
    have zm6 := m6.size
    have hu' : ∀ j, u'.ownBlock = some j → j ≠ w.heap.size := by
      intro j e
      rcases lie with lie | lie
      · rw [lie] at e; have := hu1 j e; omega
      · have := lie j e; omega
    refine Wt.last rfl (Wl.store1 (bk4 W7 c37) rfl (by simp) rfl (by obtain ⟨_, _, rfl, _⟩ := o7.form; rfl) fun W8 q8 d8 => ?_)
    have z7 := c7.size
    have z8 := d8.size
    have e38 : Chg (fun j => u.ownBlock = some j ∨ j = w.heap.size) W3 W8 := Chg.trans (c37.mono fun _ _ e => .inl e) (d8.mono fun _ _ e => .inr e) fun _ _ e => e
    (repeat' (first | refine Wl.nil ?_ | refine Qblk.normal ?_))
    refine ⟨e38.block _ qL.lt ?_, e38.block _ qD.lt ?_, Chg.trans q1 e38 fun j hj e => ?_, by omega, q3.chg e38 ?_ ?_, u', q8, ?_⟩
    · rintro (e | e)
      · exact q5.nl qL e rfl
      · omega
    · rintro (e | e)
      · exact q5.nl qD e rfl
      · omega
    · rcases e with e | e
      · have := hu1 j e; omega
      · omega
    · rintro (e | e)
      · have := hu1 _ e; omega
      · omega
    · rintro j hj (e | e)
      · have := hu1 _ e; omega
      · omega
    · exact (o7.chg (plain_one _) d8 fun j e e' => hu' j e e').mono goodS.mo (fun j _ e => by rcases e with e | e <;> omega) fun _ _ e => e
  · rintro W ⟨h1, h2, h3, u, h4, h5⟩ hD
    rw [List.take_length] at h5
    (repeat' (first | refine Wd.seq ?_ | refine Qds.normal ?_ | refine Qdb.normal ?_ | refine Wd.region ?_))
    refine Wl.load1 rfl (h4.cell (o := 0) rfl) ?_
    (repeat' (first | refine Wl.assignE (by conv => { lhs; whnf }) ?_ | refine Wl.nil ?_ | refine Qds.normal ?_ | refine Wd.ret ?_))
    refine Lv.mark (by simp) hD ?_
    have nD : NoC W w2.heap.size := .mark hD
    refine Lv.ret (v := u) (results1 rfl (rvOf_tmp rfl)) ⟨_, rfl, (h5.put _ (plain_one _) nD).mono goodS.mo (fun j _ e => by omega) (fun _ _ e => e), h1.put _ (by omega)⟩
  · exact fun _ h => h.elim
  · exact fun _ _ h => h.elim
theorem TrOk.evs {t : Tr} (h : TrOk t) : ∀ e ∈ t.kept, EvW e ∧ e.pa.length ≤ 100000000 := fun e he => by
  obtain ⟨h1, _, h3⟩ := h.ok e he
  exact ⟨h1, by have := pathM_len h3; omega⟩
def linesM (t : Tr) : List (List UInt8) := t.kept.map lineM
theorem Lines_spec {Pb : Nat → Prop} {w : World} {b : Nat} {t : Tr} (ht : Tb w) (h : Rg Pb w b t) : Calls Tryd.prog 21 #[pT b] w (Ret fun r w' => OwnS (one vs) 9 1 (fun b => w.heap.size ≤ b) No w' r (linesM t) ∧ New w w') :=
  Lines_spec' ht (by have := h.ok.len; have := h.ok.s1; omega) h.ok.evs fun w' n => Each_spec (h.new n)
theorem Lines_nil {w : World} (ht : Tb w) : Calls Tryd.prog 21 #[.pointer none] w (Ret fun r w' => OwnS (one vs) 9 1 (fun b => w.heap.size ≤ b) No w' r [] ∧ New w w') :=
  Lines_spec' (l := []) ht (by simp) (fun e he => by simp at he) fun w' n => Each_nil
theorem neqL {α : Type} {a b : List α} {x y : α} {i : Nat} (ha : a[i]? = some x) (hb : b[i]? = some y) (h : x ≠ y) : a ≠ b := by
  rintro rfl
  rw [ha] at hb
  exact h (Option.some.inj hb)
theorem take_full {α : Type} {a b : List α} {i : Nat} (hl : a.length = b.length) (hi : i = a.length) (h : a.take i = b.take i) : a = b := by
  subst hi
  rw [List.take_length, hl, List.take_length] at h; exact h
theorem take_both {α : Type} {a b : List α} {x : α} {i : Nat} (h : a.take i = b.take i) (ha : a[i]? = some x) (hb : b[i]? = some x) : a.take (i + 1) = b.take (i + 1) := by
  rw [take_snoc' ha, take_snoc' hb, h]
theorem texts_spec {Pb Pc : Nat → Prop} {w : World} {u v : Value} {a b : List (List UInt8)} (h : RdS (one vs) 1 Pb w u a) (h' : RdS (one vs) 1 Pc w v b) :
    Calls Tryd.prog 22 #[u, v] w (Ret fun r w' => r = .bool (decide (a = b)) ∧ New w w') := by
  obtain ⟨p, cp, rfl, hc1, hc2⟩ := h.form
  obtain ⟨q, cq, rfl, hd1, hd2⟩ := h'.form
  simp only [maxLen] at hc2 hd2
  refine calls_of_Wc Tryd.func22 rfl Tryd.ntmps22 rfl ?_
  (repeat' (first | refine Wl.moveE (by conv => { lhs; whnf }) ?_ | refine Wl.assignE (by conv => { lhs; whnf }) ?_ | refine Wl.nil ?_ | refine Wl.lenS rfl ?_ | refine Qseq.normal ?_ | refine Wc.seq ?_ | refine Wc.region ?_ | refine Wc.block ?_ | refine Wc.skip ?_ | refine Wc.ret ?_ | refine Qseq.ret ?_ | refine Wc.condT rfl ?_ | refine Wc.condF rfl ?_ | refine Wl.neq rfl rfl (fun _ => ?_) (fun _ => ?_)))
  · refine Qfn.ret1 rfl rfl ⟨_, rfl, ?_, Chg.refl _ _⟩
    rw [decide_eq_false (fun e => by subst e; omega)]; rfl
  · have hl : a.length = b.length := by omega
    refine Wc.loop (σ := Nat) (fun i => [(0, .slice p a.length cp), (1, .slice q b.length cq), (5, vi i)]) (fun i w' => i ≤ a.length ∧ a.take i = b.take i ∧ New w w') (fun i => a.length - i) 0 ⟨rfl, rfl, rfl, trivial⟩ ⟨Nat.zero_le _, rfl, Chg.refl _ _⟩ ?_
    rintro i G w1 ⟨hi, he, n1⟩
    simp only [upds]
    have g := h.keep (stable_one _) n1.keep
    have g' := h'.keep (stable_one _) n1.keep
    (repeat' (first | refine Wl.moveE (by conv => { lhs; whnf }) ?_ | refine Wl.assignE (by conv => { lhs; whnf }) ?_ | refine Wl.nil ?_ | refine Wl.lenS rfl ?_ | refine Qseq.normal ?_ | refine Wc.seq ?_ | refine Wc.region ?_ | refine Wc.block ?_ | refine Wc.skip ?_ | refine Wc.exit ?_ | refine Wc.ret ?_ | refine Qseq.exit ?_ | refine Qblk.hit ?_ | refine Qloop.exit ?_ | refine Wc.condT rfl ?_ | refine Wc.condF rfl ?_ | refine Wl.lss rfl rfl (fun _ => ?_) (fun _ => ?_)))
    · obtain ⟨x, hx⟩ := get_lt a (k := i) (by omega)
      obtain ⟨y, hy⟩ := get_lt b (k := i) (by omega)
      refine Wc.regionN rfl (by kernel_rfl) ?_
      (repeat' (refine Wq.moveE (by conv => { lhs; whnf }) ?_))
      refine Wq.idxAddrV g (fun w' n => n.keep) rfl rfl (by omega) (by rw [Int.toNat_natCast]; exact hx) fun bb o hc => ?_
      refine Wq.load1 rfl hc ?_
      (repeat' (refine Wq.moveE (by conv => { lhs; whnf }) ?_))
      refine Wq.idxAddrV g' (fun w' n => n.keep) rfl rfl (by omega) (by rw [Int.toNat_natCast]; exact hy) fun bb' o' hc' => ?_
      refine Wq.load1 rfl hc' ?_
      (repeat' (first | refine Wq.nil ?_ | refine Wq.sneq rfl rfl (fun _ => ?_) (fun _ => ?_)))
      · intro w2 n2
        have hne : x ≠ y := by assumption
        (repeat' (first | refine Wl.assignE (by conv => { lhs; whnf }) ?_ | refine Wl.nil ?_ | refine Qseq.normal ?_ | refine Wc.seq ?_ | refine Wc.region ?_ | refine Wc.ret ?_ | refine Qseq.ret ?_ | refine Qblk.ret ?_ | refine Qloop.ret ?_ | refine Wc.condT rfl ?_))
        refine Qfn.ret1 rfl rfl ⟨_, rfl, ?_, n1.trans n2⟩
        rw [decide_eq_false (neqL hx hy hne)]; rfl
      · intro w2 n2
        have hxy : x = y := by assumption
        subst hxy
        (repeat' (first | refine Wl.moveE (by conv => { lhs; whnf }) ?_ | refine Wl.assignE (by conv => { lhs; whnf }) ?_ | refine Wl.nil ?_ | refine Qseq.normal ?_ | refine Wc.region ?_ | refine Wc.skip ?_ | refine Qblk.normal ?_ | refine Wc.condF rfl ?_ | refine Wl.add rfl rfl (by omega) (by omega) ?_))
        exact Qloop.normal (i + 1) ⟨rfl, rfl, rfl, trivial⟩ ⟨by omega, take_both he hx hy, n1.trans n2⟩ (by omega)
    · refine Qfn.ret1 rfl rfl ⟨_, rfl, ?_, n1⟩
      rw [decide_eq_true (take_full hl (by omega) he)]; rfl
end Go.Proofs.YtjaendlcijmifaaDoor

namespace Go.Proofs.YtjaendlcijmifaaDoor
open Go Wk
open Go.RowKit (Below)
attribute [local irreducible] Go.Calls

theorem nat_dig {u : Nat} (h : u < 10) : decN u = [UInt8.ofNat (48 + u)] := Lib.decDigits_one h
theorem nat_dig2 {u : Nat} (h1 : ¬ u < 10) (h2 : u < 100) : decN u = [UInt8.ofNat (48 + u / 10), UInt8.ofNat (48 + u % 10)] := Lib.decDigits_two h1 h2
theorem int_dig (u : Nat) : decI (u : Int) = decN u := Lib.itoa_nonneg u
def aw1 : Tr := ⟨3, 0, [⟨1, 0, 10, 1, [47, 97], 0⟩]⟩
def aw2 : Tr := ⟨3, 0, [⟨1, 0, 10, 1, [47, 97], 0⟩, ⟨2, 1, 12, 3, [47, 97], 5⟩]⟩
theorem pathA : pathM [47, 97] = true := by decide
theorem aw1_add : (⟨3, 0, []⟩ : Tr).add 0 10 1 [47, 97] 0 = (1, 0, aw1) := by
  unfold Tr.add
  rw [if_neg (by simp [Tr.last, pathA]; decide), if_neg (by simp [Tr.last])]
  rfl
theorem aw2_add : aw1.add 1 12 3 [47, 97] 5 = (2, 0, aw2) := by
  unfold Tr.add
  rw [if_neg (by simp [Tr.last, aw1, pathA]; decide), if_neg (by simp [Tr.last, aw1])]
  rfl
theorem aw_lines : linesM aw2 = [[49, 32, 49, 48, 32, 98, 105, 110, 100, 32, 47, 97, 32, 48], [50, 32, 49, 50, 32, 111, 110, 32, 47, 97, 32, 53, 32, 98, 121, 32, 49]] := by
  have e0 : decI 0 = [48] := (int_dig 0).trans (nat_dig (by omega))
  have e5 : decI 5 = [53] := (int_dig 5).trans (nat_dig (by omega))
  have e10 : decI 10 = [49, 48] := (int_dig 10).trans (nat_dig2 (by omega) (by omega))
  have e12 : decI 12 = [49, 50] := (int_dig 12).trans (nat_dig2 (by omega) (by omega))
  have d1 : decN 1 = [49] := nat_dig (by omega)
  have d2 : decN 2 = [50] := nat_dig (by omega)
  simp only [linesM, aw2, List.map_cons, List.map_nil, lineM, lineH, e0, e5, e10, e12, d1, d2]
  rfl
set_option maxHeartbeats 1000000 in
theorem awake_spec {w : World} (ht : Tb w) : Calls Tryd.prog 13 #[] w (Ret fun r w' => r = .bool true ∧ New w w') := by
  refine calls_of_Wc Tryd.func13 rfl Tryd.ntmps13 rfl ?_
  (repeat' (first | refine Wl.assignE (by conv => { lhs; whnf }) ?_ | refine Wl.nil ?_ | refine Qseq.normal ?_ | refine Wc.seq ?_ | refine Wc.region ?_))
  refine Wl.call (New_spec (n := 3)) rfl ?_
  rintro r w1 ⟨hr, n1⟩
  rcases hr with ⟨hr, _⟩ | ⟨_, _, b, rfl, h1⟩
  · omega
  have z1 := n1.size
  replace h1 : Rg (fun k => w.heap.size ≤ k) w1 b ⟨3, 0, []⟩ := h1
  (repeat' (first | refine Wl.moveE (by conv => { lhs; whnf }) ?_ | refine Wl.assignE (by conv => { lhs; whnf }) ?_ | refine Wl.nil ?_ | refine Wl.extract rfl rfl ?_ | refine Qseq.normal ?_ | refine Wc.seq ?_ | refine Wc.region ?_))
  refine Wl.call (Add_spec (ca := 0) (tm := 10) (kd := 1) (pa := [47, 97]) (ar := 0) h1 ⟨by omega, by omega, by omega, by omega, by omega, by omega⟩ (by simp)) rfl ?_
  rintro _ w2 ⟨rfl, h2, c2⟩
  rw [aw1_add] at h2 ⊢
  have n2 : New w w2 := Chg.trans n1 c2 fun k hk e => by omega
  have z2 := n2.size
  (repeat' (first | refine Wl.moveE (by conv => { lhs; whnf }) ?_ | refine Wl.assignE (by conv => { lhs; whnf }) ?_ | refine Wl.nil ?_ | refine Wl.extract rfl rfl ?_ | refine Qseq.normal ?_ | refine Wc.seq ?_ | refine Wc.region ?_))
  refine Wl.call (Add_spec (ca := 1) (tm := 12) (kd := 3) (pa := [47, 97]) (ar := 5) (h2.mono (Pb' := fun k => w.heap.size ≤ k) fun k _ e => by rcases e with e | e <;> omega) ⟨by omega, by omega, by omega, by omega, by omega, by omega⟩ (by simp)) rfl ?_
  rintro _ w3 ⟨rfl, h3, c3⟩
  rw [aw2_add] at h3 ⊢
  have n3 : New w w3 := Chg.trans n2 c3 fun k hk e => by omega
  have z3 := n3.size
  (repeat' (first | refine Wl.moveE (by conv => { lhs; whnf }) ?_ | refine Wl.assignE (by conv => { lhs; whnf }) ?_ | refine Wl.nil ?_ | refine Wl.extract rfl rfl ?_ | refine Wl.guardY rfl rfl ?_ | refine Wl.pickTE rfl (by conv => { lhs; whnf }) ?_ | refine Qseq.normal ?_ | refine Wc.seq ?_ | refine Wc.region ?_ | (refine Wl.eql rfl rfl (fun _ => ?_) (fun _ => ?_) <;> (first | (exfalso; omega) | (exfalso; contradiction) | skip))))
  refine Wl.call (Lines_spec (ht.new n3) h3) rfl ?_
  rintro l w4 ⟨o4, n4⟩
  rw [aw_lines] at o4
  have r4 := o4.rd goodS.mo
  (repeat' (refine Wl.guardY rfl rfl ?_))
  refine Wl.buildSliceN (R := one vs) (Pe := fun _ => True) (xs := [[49, 32, 49, 48, 32, 98, 105, 110, 100, 32, 47, 97, 32, 48], [50, 32, 49, 50, 32, 111, 110, 32, 47, 97, 32, 53, 32, 98, 121, 32, 49]]) (us := [vs [49, 32, 49, 48, 32, 98, 105, 110, 100, 32, 47, 97, 32, 48], vs [50, 32, 49, 50, 32, 111, 110, 32, 47, 97, 32, 53, 32, 98, 121, 32, 49]]) goodS rfl rfl ⟨rfl, rfl, rfl, rfl, trivial⟩ (by simp) (by simp) fun v5 w5 o5 n5 s5 e5 => ?_
  (repeat' (refine Wl.guardY rfl rfl ?_))
  refine Wl.call (texts_spec (r4.keep (stable_one _) n5.keep) (o5.rd goodS.mo)) rfl ?_
  rintro _ w6 ⟨rfl, n6⟩
  rw [decide_eq_true rfl]
  (repeat' (first | refine Wl.assignE (by conv => { lhs; whnf }) ?_ | refine Wl.nil ?_ | refine Wl.pickTE rfl (by conv => { lhs; whnf }) ?_ | refine Qseq.normal ?_ | refine Wc.ret ?_))
  exact Qfn.ret1 rfl rfl ⟨_, rfl, rfl, ((n3.trans n4).trans n5).trans n6⟩
end Go.Proofs.YtjaendlcijmifaaDoor

namespace Go.Proofs.YtjaendlcijmifaaDoor
open Go Wk
open Go.RowKit (Below)
attribute [local irreducible] Go.Calls

/-- All that is put in. -/
def fillM (t : Tr) (l : List Ev) : Tr := l.foldl (fun t x => (t.add x.ca x.tm x.kd x.pa x.ar).2.2) t
theorem InW.of {e : Ev} (h : EvW e) : InW e.ca e.tm e.kd e.ar := ⟨h.ca, h.t0, h.t1, h.kd, h.a0, h.a1⟩
theorem mod50 {x : Int} : ∃ N : Nat, ((x.tmod 50 + 50).tmod 50) + 1 = (N : Int) ∧ 1 ≤ N ∧ N ≤ 50 ∧ -50 < x.tmod 50 ∧ x.tmod 50 < 50 := by
  have h1 : -50 < x.tmod 50 ∧ x.tmod 50 < 50 := by
    constructor
    · have := Int.lt_tmod_of_pos x (show (0 : Int) < 50 by decide); omega
    · exact Int.tmod_lt_of_pos x (by decide)
  have h2 : (x.tmod 50 + 50).tmod 50 = (x.tmod 50 + 50) % 50 := Int.tmod_eq_emod_of_nonneg (by omega)
  refine ⟨((x.tmod 50 + 50) % 50 + 1).toNat, ?_, ?_, ?_, h1⟩ <;> omega
noncomputable def size50 (x : Int) : Nat := Classical.choose (mod50 (x := x))
theorem size50_spec (x : Int) : ((x.tmod 50 + 50).tmod 50) + 1 = (size50 x : Int) ∧ 1 ≤ size50 x ∧ size50 x ≤ 50 ∧ -50 < x.tmod 50 ∧ x.tmod 50 < 50 := Classical.choose_spec (mod50 (x := x))
noncomputable def filledM (sz : Int) (l : List Ev) : Tr := fillM ⟨size50 sz, 0, []⟩ (l.take 40)
theorem fill_snoc {t : Tr} {l : List Ev} {i : Nat} {y : Ev} (h : l[i]? = some y) : fillM t (l.take (i + 1)) = ((fillM t (l.take i)).add y.ca y.tm y.kd y.pa y.ar).2.2 := by
  unfold fillM
  rw [take_snoc' h, List.foldl_append]; rfl
theorem fill_size (t : Tr) : ∀ l : List Ev, (fillM t l).size = t.size := by
  intro l
  induction l generalizing t with
  | nil => rfl
  | cons x l ih => exact (ih _).trans (add_size _ _ _ _ _ _)
set_option maxHeartbeats 1000000 in
theorem filled_spec {w : World} {sz : Int} {v : Value} {l : List Ev} (h : RdS rEv 6 (fun _ => True) w v l) (hw : ∀ e ∈ l, EvW e ∧ e.pa.length ≤ 100000000) :
    Calls Tryd.prog 14 #[vi sz, v] w (Ret fun r w' => ∃ b, r = pT b ∧ Rg (fun k => w.heap.size ≤ k) w' b (filledM sz l) ∧ New w w') := by
  obtain ⟨hN, hN0, hN8, hm0, hm1⟩ := size50_spec sz
  obtain ⟨a1, cp1, rfl, hc1, hd1⟩ := h.form
  simp only [maxLen] at hd1
  refine calls_of_Wc Tryd.func14 rfl Tryd.ntmps14 rfl ?_
  (repeat' (first | refine Wl.moveE (by conv => { lhs; whnf }) ?_ | refine Wl.assignE (by conv => { lhs; whnf }) ?_ | refine Wl.nil ?_ | refine Wl.extract rfl rfl ?_ | refine Wl.guardY rfl rfl ?_ | refine Wl.guardN rfl rfl ?_ | refine Wl.guardU rfl ?_ | refine Wl.pickTE rfl (by conv => { lhs; whnf }) ?_ | refine Wl.pickFE rfl (by conv => { lhs; whnf }) ?_ | refine Wl.notB rfl ?_ | refine Wl.lenS rfl ?_ | refine Wl.lenStr rfl ?_ | refine Qseq.normal ?_ | refine Wc.seq ?_ | refine Wc.region ?_ | refine Wc.block ?_ | refine Wc.skip ?_ | refine Wc.exit ?_ | refine Wc.ret ?_ | refine Qseq.exit ?_ | refine Qseq.ret ?_ | refine Wc.scope ?_ | refine Wc.label ?_ | refine Qsc.normal ?_ | refine Qsc.exit ?_ | refine Qsc.ret ?_ | refine Qblk.normal ?_ | refine Qblk.ret ?_ | refine Qblk.hit ?_ | refine Qblk.miss rfl ?_ | refine Qloop.exit ?_ | refine Qloop.ret ?_ | refine Wc.condT rfl ?_ | refine Wc.condF rfl ?_ | refine Wl.nilP rfl ?_ | refine Wl.fieldAddr rfl rfl ?_ | refine Wl.nilF rfl ?_ | refine Wl.add rfl rfl (by omega) (by omega) ?_ | refine Wl.sub rfl rfl (by omega) (by omega) ?_ | refine Wl.mul rfl rfl (by omega) (by omega) ?_ | refine Wl.convI rfl ?_ | (refine Wl.lss rfl rfl (fun _ => ?_) (fun _ => ?_) <;> (first | (exfalso; omega) | (exfalso; contradiction) | skip)) | (refine Wl.leq rfl rfl (fun _ => ?_) (fun _ => ?_) <;> (first | (exfalso; omega) | (exfalso; contradiction) | skip)) | (refine Wl.gtr rfl rfl (fun _ => ?_) (fun _ => ?_) <;> (first | (exfalso; omega) | (exfalso; contradiction) | skip)) | (refine Wl.geq rfl rfl (fun _ => ?_) (fun _ => ?_) <;> (first | (exfalso; omega) | (exfalso; contradiction) | skip)) | (refine Wl.eql rfl rfl (fun _ => ?_) (fun _ => ?_) <;> (first | (exfalso; omega) | (exfalso; contradiction) | skip)) | (refine Wl.neq rfl rfl (fun _ => ?_) (fun _ => ?_) <;> (first | (exfalso; omega) | (exfalso; contradiction) | skip)) | (refine Wl.seql rfl rfl (fun _ => ?_) (fun _ => ?_) <;> (first | (exfalso; omega) | (exfalso; contradiction) | skip)) | (refine Wl.sneq rfl rfl (fun _ => ?_) (fun _ => ?_) <;> (first | (exfalso; omega) | (exfalso; contradiction) | skip))))
  refine Wl.remW rfl rfl (by omega) ?_
  (repeat' (first | refine Wl.moveE (by conv => { lhs; whnf }) ?_ | refine Wl.assignE (by conv => { lhs; whnf }) ?_ | refine Wl.nil ?_ | refine Wl.extract rfl rfl ?_ | refine Wl.guardY rfl rfl ?_ | refine Wl.guardN rfl rfl ?_ | refine Wl.guardU rfl ?_ | refine Wl.pickTE rfl (by conv => { lhs; whnf }) ?_ | refine Wl.pickFE rfl (by conv => { lhs; whnf }) ?_ | refine Wl.notB rfl ?_ | refine Wl.lenS rfl ?_ | refine Wl.lenStr rfl ?_ | refine Qseq.normal ?_ | refine Wc.seq ?_ | refine Wc.region ?_ | refine Wc.block ?_ | refine Wc.skip ?_ | refine Wc.exit ?_ | refine Wc.ret ?_ | refine Qseq.exit ?_ | refine Qseq.ret ?_ | refine Wc.scope ?_ | refine Wc.label ?_ | refine Qsc.normal ?_ | refine Qsc.exit ?_ | refine Qsc.ret ?_ | refine Qblk.normal ?_ | refine Qblk.ret ?_ | refine Qblk.hit ?_ | refine Qblk.miss rfl ?_ | refine Qloop.exit ?_ | refine Qloop.ret ?_ | refine Wc.condT rfl ?_ | refine Wc.condF rfl ?_ | refine Wl.nilP rfl ?_ | refine Wl.fieldAddr rfl rfl ?_ | refine Wl.nilF rfl ?_ | refine Wl.add rfl rfl (by omega) (by omega) ?_ | refine Wl.sub rfl rfl (by omega) (by omega) ?_ | refine Wl.mul rfl rfl (by omega) (by omega) ?_ | refine Wl.convI rfl ?_ | (refine Wl.lss rfl rfl (fun _ => ?_) (fun _ => ?_) <;> (first | (exfalso; omega) | (exfalso; contradiction) | skip)) | (refine Wl.leq rfl rfl (fun _ => ?_) (fun _ => ?_) <;> (first | (exfalso; omega) | (exfalso; contradiction) | skip)) | (refine Wl.gtr rfl rfl (fun _ => ?_) (fun _ => ?_) <;> (first | (exfalso; omega) | (exfalso; contradiction) | skip)) | (refine Wl.geq rfl rfl (fun _ => ?_) (fun _ => ?_) <;> (first | (exfalso; omega) | (exfalso; contradiction) | skip)) | (refine Wl.eql rfl rfl (fun _ => ?_) (fun _ => ?_) <;> (first | (exfalso; omega) | (exfalso; contradiction) | skip)) | (refine Wl.neq rfl rfl (fun _ => ?_) (fun _ => ?_) <;> (first | (exfalso; omega) | (exfalso; contradiction) | skip)) | (refine Wl.seql rfl rfl (fun _ => ?_) (fun _ => ?_) <;> (first | (exfalso; omega) | (exfalso; contradiction) | skip)) | (refine Wl.sneq rfl rfl (fun _ => ?_) (fun _ => ?_) <;> (first | (exfalso; omega) | (exfalso; contradiction) | skip))))
  refine Wl.remW rfl rfl (by omega) ?_
  (repeat' (first | refine Wl.moveE (by conv => { lhs; whnf }) ?_ | refine Wl.assignE (by conv => { lhs; whnf }) ?_ | refine Wl.nil ?_ | refine Wl.extract rfl rfl ?_ | refine Wl.guardY rfl rfl ?_ | refine Wl.guardN rfl rfl ?_ | refine Wl.guardU rfl ?_ | refine Wl.pickTE rfl (by conv => { lhs; whnf }) ?_ | refine Wl.pickFE rfl (by conv => { lhs; whnf }) ?_ | refine Wl.notB rfl ?_ | refine Wl.lenS rfl ?_ | refine Wl.lenStr rfl ?_ | refine Qseq.normal ?_ | refine Wc.seq ?_ | refine Wc.region ?_ | refine Wc.block ?_ | refine Wc.skip ?_ | refine Wc.exit ?_ | refine Wc.ret ?_ | refine Qseq.exit ?_ | refine Qseq.ret ?_ | refine Wc.scope ?_ | refine Wc.label ?_ | refine Qsc.normal ?_ | refine Qsc.exit ?_ | refine Qsc.ret ?_ | refine Qblk.normal ?_ | refine Qblk.ret ?_ | refine Qblk.hit ?_ | refine Qblk.miss rfl ?_ | refine Qloop.exit ?_ | refine Qloop.ret ?_ | refine Wc.condT rfl ?_ | refine Wc.condF rfl ?_ | refine Wl.nilP rfl ?_ | refine Wl.fieldAddr rfl rfl ?_ | refine Wl.nilF rfl ?_ | refine Wl.add rfl rfl (by omega) (by omega) ?_ | refine Wl.sub rfl rfl (by omega) (by omega) ?_ | refine Wl.mul rfl rfl (by omega) (by omega) ?_ | refine Wl.convI rfl ?_ | (refine Wl.lss rfl rfl (fun _ => ?_) (fun _ => ?_) <;> (first | (exfalso; omega) | (exfalso; contradiction) | skip)) | (refine Wl.leq rfl rfl (fun _ => ?_) (fun _ => ?_) <;> (first | (exfalso; omega) | (exfalso; contradiction) | skip)) | (refine Wl.gtr rfl rfl (fun _ => ?_) (fun _ => ?_) <;> (first | (exfalso; omega) | (exfalso; contradiction) | skip)) | (refine Wl.geq rfl rfl (fun _ => ?_) (fun _ => ?_) <;> (first | (exfalso; omega) | (exfalso; contradiction) | skip)) | (refine Wl.eql rfl rfl (fun _ => ?_) (fun _ => ?_) <;> (first | (exfalso; omega) | (exfalso; contradiction) | skip)) | (refine Wl.neq rfl rfl (fun _ => ?_) (fun _ => ?_) <;> (first | (exfalso; omega) | (exfalso; contradiction) | skip)) | (refine Wl.seql rfl rfl (fun _ => ?_) (fun _ => ?_) <;> (first | (exfalso; omega) | (exfalso; contradiction) | skip)) | (refine Wl.sneq rfl rfl (fun _ => ?_) (fun _ => ?_) <;> (first | (exfalso; omega) | (exfalso; contradiction) | skip))))
  rw [hN]
  refine Wl.call (New_spec (n := (size50 sz : Int))) rfl ?_
  rintro r w2 ⟨hr, n2⟩
  rcases hr with ⟨hr, _⟩ | ⟨_, _, b, rfl, ra⟩
  · omega
  rw [Int.toNat_natCast] at ra
  (repeat' (first | refine Wl.moveE (by conv => { lhs; whnf }) ?_ | refine Wl.assignE (by conv => { lhs; whnf }) ?_ | refine Wl.nil ?_ | refine Wl.extract rfl rfl ?_ | refine Wl.guardY rfl rfl ?_ | refine Wl.guardN rfl rfl ?_ | refine Wl.guardU rfl ?_ | refine Wl.pickTE rfl (by conv => { lhs; whnf }) ?_ | refine Wl.pickFE rfl (by conv => { lhs; whnf }) ?_ | refine Wl.notB rfl ?_ | refine Wl.lenS rfl ?_ | refine Wl.lenStr rfl ?_ | refine Qseq.normal ?_ | refine Wc.seq ?_ | refine Wc.region ?_ | refine Wc.block ?_ | refine Wc.skip ?_ | refine Wc.exit ?_ | refine Wc.ret ?_ | refine Qseq.exit ?_ | refine Qseq.ret ?_ | refine Wc.scope ?_ | refine Wc.label ?_ | refine Qsc.normal ?_ | refine Qsc.exit ?_ | refine Qsc.ret ?_ | refine Qblk.normal ?_ | refine Qblk.ret ?_ | refine Qblk.hit ?_ | refine Qblk.miss rfl ?_ | refine Qloop.exit ?_ | refine Qloop.ret ?_ | refine Wc.condT rfl ?_ | refine Wc.condF rfl ?_ | refine Wl.nilP rfl ?_ | refine Wl.fieldAddr rfl rfl ?_ | refine Wl.nilF rfl ?_ | refine Wl.add rfl rfl (by omega) (by omega) ?_ | refine Wl.sub rfl rfl (by omega) (by omega) ?_ | refine Wl.mul rfl rfl (by omega) (by omega) ?_ | refine Wl.convI rfl ?_ | (refine Wl.lss rfl rfl (fun _ => ?_) (fun _ => ?_) <;> (first | (exfalso; omega) | (exfalso; contradiction) | skip)) | (refine Wl.leq rfl rfl (fun _ => ?_) (fun _ => ?_) <;> (first | (exfalso; omega) | (exfalso; contradiction) | skip)) | (refine Wl.gtr rfl rfl (fun _ => ?_) (fun _ => ?_) <;> (first | (exfalso; omega) | (exfalso; contradiction) | skip)) | (refine Wl.geq rfl rfl (fun _ => ?_) (fun _ => ?_) <;> (first | (exfalso; omega) | (exfalso; contradiction) | skip)) | (refine Wl.eql rfl rfl (fun _ => ?_) (fun _ => ?_) <;> (first | (exfalso; omega) | (exfalso; contradiction) | skip)) | (refine Wl.neq rfl rfl (fun _ => ?_) (fun _ => ?_) <;> (first | (exfalso; omega) | (exfalso; contradiction) | skip)) | (refine Wl.seql rfl rfl (fun _ => ?_) (fun _ => ?_) <;> (first | (exfalso; omega) | (exfalso; contradiction) | skip)) | (refine Wl.sneq rfl rfl (fun _ => ?_) (fun _ => ?_) <;> (first | (exfalso; omega) | (exfalso; contradiction) | skip))))
  refine Wc.loop (σ := Nat) (fun i => [(0, vi sz), (1, .slice a1 l.length cp1), (5, pT b), (7, vi i)]) (fun i W => i ≤ l.length ∧ i ≤ 40 ∧ New w W ∧ Rg (fun k => w.heap.size ≤ k) W b (fillM ⟨size50 sz, 0, []⟩ (l.take i))) (fun i => l.length - i) 0 ⟨rfl, rfl, rfl, rfl, trivial⟩ ⟨Nat.zero_le _, Nat.zero_le _, n2, ra⟩ ?_
  rintro i G W ⟨hi, hi2, n0, rg⟩
  simp only [upds]
  have z0 := n0.size
  (repeat' (first | refine Wl.moveE (by conv => { lhs; whnf }) ?_ | refine Wl.assignE (by conv => { lhs; whnf }) ?_ | refine Wl.nil ?_ | refine Wl.extract rfl rfl ?_ | refine Wl.guardY rfl rfl ?_ | refine Wl.guardN rfl rfl ?_ | refine Wl.guardU rfl ?_ | refine Wl.pickTE rfl (by conv => { lhs; whnf }) ?_ | refine Wl.pickFE rfl (by conv => { lhs; whnf }) ?_ | refine Wl.notB rfl ?_ | refine Wl.lenS rfl ?_ | refine Wl.lenStr rfl ?_ | refine Qseq.normal ?_ | refine Wc.seq ?_ | refine Wc.region ?_ | refine Wc.block ?_ | refine Wc.skip ?_ | refine Wc.exit ?_ | refine Wc.ret ?_ | refine Qseq.exit ?_ | refine Qseq.ret ?_ | refine Wc.scope ?_ | refine Wc.label ?_ | refine Qsc.normal ?_ | refine Qsc.exit ?_ | refine Qsc.ret ?_ | refine Qblk.normal ?_ | refine Qblk.ret ?_ | refine Qblk.hit ?_ | refine Qblk.miss rfl ?_ | refine Qloop.exit ?_ | refine Qloop.ret ?_ | refine Wc.condT rfl ?_ | refine Wc.condF rfl ?_ | refine Wl.nilP rfl ?_ | refine Wl.fieldAddr rfl rfl ?_ | refine Wl.nilF rfl ?_ | refine Wl.add rfl rfl (by omega) (by omega) ?_ | refine Wl.sub rfl rfl (by omega) (by omega) ?_ | refine Wl.mul rfl rfl (by omega) (by omega) ?_ | refine Wl.convI rfl ?_ | (refine Wl.lss rfl rfl (fun _ => ?_) (fun _ => ?_) <;> (first | (exfalso; omega) | (exfalso; contradiction) | skip)) | (refine Wl.leq rfl rfl (fun _ => ?_) (fun _ => ?_) <;> (first | (exfalso; omega) | (exfalso; contradiction) | skip)) | (refine Wl.gtr rfl rfl (fun _ => ?_) (fun _ => ?_) <;> (first | (exfalso; omega) | (exfalso; contradiction) | skip)) | (refine Wl.geq rfl rfl (fun _ => ?_) (fun _ => ?_) <;> (first | (exfalso; omega) | (exfalso; contradiction) | skip)) | (refine Wl.eql rfl rfl (fun _ => ?_) (fun _ => ?_) <;> (first | (exfalso; omega) | (exfalso; contradiction) | skip)) | (refine Wl.neq rfl rfl (fun _ => ?_) (fun _ => ?_) <;> (first | (exfalso; omega) | (exfalso; contradiction) | skip)) | (refine Wl.seql rfl rfl (fun _ => ?_) (fun _ => ?_) <;> (first | (exfalso; omega) | (exfalso; contradiction) | skip)) | (refine Wl.sneq rfl rfl (fun _ => ?_) (fun _ => ?_) <;> (first | (exfalso; omega) | (exfalso; contradiction) | skip))))
  · obtain ⟨y, hy⟩ := get_lt l (k := i) (by omega)
    obtain ⟨hyw, hyl⟩ := hw y (List.mem_of_getElem? hy)
    refine Wc.regionT rfl (by kernel_rfl) (New w) (Chg.trans n0 (Chg.drew _ _) fun _ _ e => e) ?_
    intro W1 m1
    (repeat' (first | refine Wt.nil ?_ | refine Wt.guardY rfl rfl ?_ | refine Wt.guardN rfl rfl (by assumption) ?_ | refine Wt.guardU rfl (by assumption) ?_ | refine Wt.quiet rfl (Wq.moveE (by conv => { lhs; whnf }) (Wq.nil ?_)) | refine Wt.quiet rfl (Wq.assignE (by conv => { lhs; whnf }) (Wq.nil ?_)) | refine Wt.quiet rfl (Wq.extract rfl rfl (Wq.nil ?_)) | refine Wt.quiet rfl (Wq.pickTE rfl (by conv => { lhs; whnf }) (Wq.nil ?_)) | refine Wt.quiet rfl (Wq.pickFE rfl (by conv => { lhs; whnf }) (Wq.nil ?_)) | refine Wt.quiet rfl (Wq.notB rfl (Wq.nil ?_)) | refine Wt.quiet rfl (Wq.lenS rfl (Wq.nil ?_)) | refine Wt.quiet rfl (Wq.lenStr rfl (Wq.nil ?_)) | refine Wt.quiet rfl (Wq.nilP rfl (Wq.nil ?_)) | refine Wt.quiet rfl (Wq.fieldAddr rfl rfl (Wq.nil ?_)) | refine Wt.quiet rfl (Wq.add rfl rfl (by omega) (by omega) (Wq.nil ?_)) | refine Wt.quiet rfl (Wq.sub rfl rfl (by omega) (by omega) (Wq.nil ?_)) | refine Wt.quiet rfl (Wq.mul rfl rfl (by omega) (by omega) (Wq.nil ?_)) | refine Wt.quiet rfl (Wq.convI rfl (Wq.nil ?_)) | (refine Wt.quiet rfl (Wq.lss rfl rfl (fun _ => Wq.nil ?_) (fun _ => Wq.nil ?_)) <;> (first | (exfalso; omega) | (exfalso; contradiction) | skip)) | (refine Wt.quiet rfl (Wq.leq rfl rfl (fun _ => Wq.nil ?_) (fun _ => Wq.nil ?_)) <;> (first | (exfalso; omega) | (exfalso; contradiction) | skip)) | (refine Wt.quiet rfl (Wq.gtr rfl rfl (fun _ => Wq.nil ?_) (fun _ => Wq.nil ?_)) <;> (first | (exfalso; omega) | (exfalso; contradiction) | skip)) | (refine Wt.quiet rfl (Wq.geq rfl rfl (fun _ => Wq.nil ?_) (fun _ => Wq.nil ?_)) <;> (first | (exfalso; omega) | (exfalso; contradiction) | skip)) | (refine Wt.quiet rfl (Wq.eql rfl rfl (fun _ => Wq.nil ?_) (fun _ => Wq.nil ?_)) <;> (first | (exfalso; omega) | (exfalso; contradiction) | skip)) | (refine Wt.quiet rfl (Wq.neq rfl rfl (fun _ => Wq.nil ?_) (fun _ => Wq.nil ?_)) <;> (first | (exfalso; omega) | (exfalso; contradiction) | skip)) | (refine Wt.quiet rfl (Wq.seql rfl rfl (fun _ => Wq.nil ?_) (fun _ => Wq.nil ?_)) <;> (first | (exfalso; omega) | (exfalso; contradiction) | skip)) | (refine Wt.quiet rfl (Wq.sneq rfl rfl (fun _ => Wq.nil ?_) (fun _ => Wq.nil ?_)) <;> (first | (exfalso; omega) | (exfalso; contradiction) | skip))))
    refine Wt.quiet rfl (Wq.idxAddr h (fun W' c => c.keep) rfl rfl (by omega) (by rw [Int.toNat_natCast]; exact hy) fun bb o cs hl hR hat => Wq.nil ?_)
    obtain rfl : cs = evC y := hR
    (repeat' (first | refine Wt.nil ?_ | refine Wt.guardY rfl rfl ?_ | refine Wt.guardN rfl rfl (by assumption) ?_ | refine Wt.guardU rfl (by assumption) ?_ | refine Wt.quiet rfl (Wq.moveE (by conv => { lhs; whnf }) (Wq.nil ?_)) | refine Wt.quiet rfl (Wq.assignE (by conv => { lhs; whnf }) (Wq.nil ?_)) | refine Wt.quiet rfl (Wq.extract rfl rfl (Wq.nil ?_)) | refine Wt.quiet rfl (Wq.pickTE rfl (by conv => { lhs; whnf }) (Wq.nil ?_)) | refine Wt.quiet rfl (Wq.pickFE rfl (by conv => { lhs; whnf }) (Wq.nil ?_)) | refine Wt.quiet rfl (Wq.notB rfl (Wq.nil ?_)) | refine Wt.quiet rfl (Wq.lenS rfl (Wq.nil ?_)) | refine Wt.quiet rfl (Wq.lenStr rfl (Wq.nil ?_)) | refine Wt.quiet rfl (Wq.nilP rfl (Wq.nil ?_)) | refine Wt.quiet rfl (Wq.fieldAddr rfl rfl (Wq.nil ?_)) | refine Wt.quiet rfl (Wq.add rfl rfl (by omega) (by omega) (Wq.nil ?_)) | refine Wt.quiet rfl (Wq.sub rfl rfl (by omega) (by omega) (Wq.nil ?_)) | refine Wt.quiet rfl (Wq.mul rfl rfl (by omega) (by omega) (Wq.nil ?_)) | refine Wt.quiet rfl (Wq.convI rfl (Wq.nil ?_)) | (refine Wt.quiet rfl (Wq.lss rfl rfl (fun _ => Wq.nil ?_) (fun _ => Wq.nil ?_)) <;> (first | (exfalso; omega) | (exfalso; contradiction) | skip)) | (refine Wt.quiet rfl (Wq.leq rfl rfl (fun _ => Wq.nil ?_) (fun _ => Wq.nil ?_)) <;> (first | (exfalso; omega) | (exfalso; contradiction) | skip)) | (refine Wt.quiet rfl (Wq.gtr rfl rfl (fun _ => Wq.nil ?_) (fun _ => Wq.nil ?_)) <;> (first | (exfalso; omega) | (exfalso; contradiction) | skip)) | (refine Wt.quiet rfl (Wq.geq rfl rfl (fun _ => Wq.nil ?_) (fun _ => Wq.nil ?_)) <;> (first | (exfalso; omega) | (exfalso; contradiction) | skip)) | (refine Wt.quiet rfl (Wq.eql rfl rfl (fun _ => Wq.nil ?_) (fun _ => Wq.nil ?_)) <;> (first | (exfalso; omega) | (exfalso; contradiction) | skip)) | (refine Wt.quiet rfl (Wq.neq rfl rfl (fun _ => Wq.nil ?_) (fun _ => Wq.nil ?_)) <;> (first | (exfalso; omega) | (exfalso; contradiction) | skip)) | (refine Wt.quiet rfl (Wq.seql rfl rfl (fun _ => Wq.nil ?_) (fun _ => Wq.nil ?_)) <;> (first | (exfalso; omega) | (exfalso; contradiction) | skip)) | (refine Wt.quiet rfl (Wq.sneq rfl rfl (fun _ => Wq.nil ?_) (fun _ => Wq.nil ?_)) <;> (first | (exfalso; omega) | (exfalso; contradiction) | skip))))
    refine Wt.quiet rfl (Wq.load1 rfl (fun W' c => (hat W' c).get 1 rfl) (Wq.nil ?_))
    (repeat' (first | refine Wt.nil ?_ | refine Wt.guardY rfl rfl ?_ | refine Wt.guardN rfl rfl (by assumption) ?_ | refine Wt.guardU rfl (by assumption) ?_ | refine Wt.quiet rfl (Wq.moveE (by conv => { lhs; whnf }) (Wq.nil ?_)) | refine Wt.quiet rfl (Wq.assignE (by conv => { lhs; whnf }) (Wq.nil ?_)) | refine Wt.quiet rfl (Wq.extract rfl rfl (Wq.nil ?_)) | refine Wt.quiet rfl (Wq.pickTE rfl (by conv => { lhs; whnf }) (Wq.nil ?_)) | refine Wt.quiet rfl (Wq.pickFE rfl (by conv => { lhs; whnf }) (Wq.nil ?_)) | refine Wt.quiet rfl (Wq.notB rfl (Wq.nil ?_)) | refine Wt.quiet rfl (Wq.lenS rfl (Wq.nil ?_)) | refine Wt.quiet rfl (Wq.lenStr rfl (Wq.nil ?_)) | refine Wt.quiet rfl (Wq.nilP rfl (Wq.nil ?_)) | refine Wt.quiet rfl (Wq.fieldAddr rfl rfl (Wq.nil ?_)) | refine Wt.quiet rfl (Wq.add rfl rfl (by omega) (by omega) (Wq.nil ?_)) | refine Wt.quiet rfl (Wq.sub rfl rfl (by omega) (by omega) (Wq.nil ?_)) | refine Wt.quiet rfl (Wq.mul rfl rfl (by omega) (by omega) (Wq.nil ?_)) | refine Wt.quiet rfl (Wq.convI rfl (Wq.nil ?_)) | (refine Wt.quiet rfl (Wq.lss rfl rfl (fun _ => Wq.nil ?_) (fun _ => Wq.nil ?_)) <;> (first | (exfalso; omega) | (exfalso; contradiction) | skip)) | (refine Wt.quiet rfl (Wq.leq rfl rfl (fun _ => Wq.nil ?_) (fun _ => Wq.nil ?_)) <;> (first | (exfalso; omega) | (exfalso; contradiction) | skip)) | (refine Wt.quiet rfl (Wq.gtr rfl rfl (fun _ => Wq.nil ?_) (fun _ => Wq.nil ?_)) <;> (first | (exfalso; omega) | (exfalso; contradiction) | skip)) | (refine Wt.quiet rfl (Wq.geq rfl rfl (fun _ => Wq.nil ?_) (fun _ => Wq.nil ?_)) <;> (first | (exfalso; omega) | (exfalso; contradiction) | skip)) | (refine Wt.quiet rfl (Wq.eql rfl rfl (fun _ => Wq.nil ?_) (fun _ => Wq.nil ?_)) <;> (first | (exfalso; omega) | (exfalso; contradiction) | skip)) | (refine Wt.quiet rfl (Wq.neq rfl rfl (fun _ => Wq.nil ?_) (fun _ => Wq.nil ?_)) <;> (first | (exfalso; omega) | (exfalso; contradiction) | skip)) | (refine Wt.quiet rfl (Wq.seql rfl rfl (fun _ => Wq.nil ?_) (fun _ => Wq.nil ?_)) <;> (first | (exfalso; omega) | (exfalso; contradiction) | skip)) | (refine Wt.quiet rfl (Wq.sneq rfl rfl (fun _ => Wq.nil ?_) (fun _ => Wq.nil ?_)) <;> (first | (exfalso; omega) | (exfalso; contradiction) | skip))))
    refine Wt.quiet rfl (Wq.idxAddr h (fun W' c => c.keep) rfl rfl (by omega) (by rw [Int.toNat_natCast]; exact hy) fun bb o cs hl hR hat => Wq.nil ?_)
    obtain rfl : cs = evC y := hR
    (repeat' (first | refine Wt.nil ?_ | refine Wt.guardY rfl rfl ?_ | refine Wt.guardN rfl rfl (by assumption) ?_ | refine Wt.guardU rfl (by assumption) ?_ | refine Wt.quiet rfl (Wq.moveE (by conv => { lhs; whnf }) (Wq.nil ?_)) | refine Wt.quiet rfl (Wq.assignE (by conv => { lhs; whnf }) (Wq.nil ?_)) | refine Wt.quiet rfl (Wq.extract rfl rfl (Wq.nil ?_)) | refine Wt.quiet rfl (Wq.pickTE rfl (by conv => { lhs; whnf }) (Wq.nil ?_)) | refine Wt.quiet rfl (Wq.pickFE rfl (by conv => { lhs; whnf }) (Wq.nil ?_)) | refine Wt.quiet rfl (Wq.notB rfl (Wq.nil ?_)) | refine Wt.quiet rfl (Wq.lenS rfl (Wq.nil ?_)) | refine Wt.quiet rfl (Wq.lenStr rfl (Wq.nil ?_)) | refine Wt.quiet rfl (Wq.nilP rfl (Wq.nil ?_)) | refine Wt.quiet rfl (Wq.fieldAddr rfl rfl (Wq.nil ?_)) | refine Wt.quiet rfl (Wq.add rfl rfl (by omega) (by omega) (Wq.nil ?_)) | refine Wt.quiet rfl (Wq.sub rfl rfl (by omega) (by omega) (Wq.nil ?_)) | refine Wt.quiet rfl (Wq.mul rfl rfl (by omega) (by omega) (Wq.nil ?_)) | refine Wt.quiet rfl (Wq.convI rfl (Wq.nil ?_)) | (refine Wt.quiet rfl (Wq.lss rfl rfl (fun _ => Wq.nil ?_) (fun _ => Wq.nil ?_)) <;> (first | (exfalso; omega) | (exfalso; contradiction) | skip)) | (refine Wt.quiet rfl (Wq.leq rfl rfl (fun _ => Wq.nil ?_) (fun _ => Wq.nil ?_)) <;> (first | (exfalso; omega) | (exfalso; contradiction) | skip)) | (refine Wt.quiet rfl (Wq.gtr rfl rfl (fun _ => Wq.nil ?_) (fun _ => Wq.nil ?_)) <;> (first | (exfalso; omega) | (exfalso; contradiction) | skip)) | (refine Wt.quiet rfl (Wq.geq rfl rfl (fun _ => Wq.nil ?_) (fun _ => Wq.nil ?_)) <;> (first | (exfalso; omega) | (exfalso; contradiction) | skip)) | (refine Wt.quiet rfl (Wq.eql rfl rfl (fun _ => Wq.nil ?_) (fun _ => Wq.nil ?_)) <;> (first | (exfalso; omega) | (exfalso; contradiction) | skip)) | (refine Wt.quiet rfl (Wq.neq rfl rfl (fun _ => Wq.nil ?_) (fun _ => Wq.nil ?_)) <;> (first | (exfalso; omega) | (exfalso; contradiction) | skip)) | (refine Wt.quiet rfl (Wq.seql rfl rfl (fun _ => Wq.nil ?_) (fun _ => Wq.nil ?_)) <;> (first | (exfalso; omega) | (exfalso; contradiction) | skip)) | (refine Wt.quiet rfl (Wq.sneq rfl rfl (fun _ => Wq.nil ?_) (fun _ => Wq.nil ?_)) <;> (first | (exfalso; omega) | (exfalso; contradiction) | skip))))
    refine Wt.quiet rfl (Wq.load1 rfl (fun W' c => (hat W' c).get 2 rfl) (Wq.nil ?_))
    (repeat' (first | refine Wt.nil ?_ | refine Wt.guardY rfl rfl ?_ | refine Wt.guardN rfl rfl (by assumption) ?_ | refine Wt.guardU rfl (by assumption) ?_ | refine Wt.quiet rfl (Wq.moveE (by conv => { lhs; whnf }) (Wq.nil ?_)) | refine Wt.quiet rfl (Wq.assignE (by conv => { lhs; whnf }) (Wq.nil ?_)) | refine Wt.quiet rfl (Wq.extract rfl rfl (Wq.nil ?_)) | refine Wt.quiet rfl (Wq.pickTE rfl (by conv => { lhs; whnf }) (Wq.nil ?_)) | refine Wt.quiet rfl (Wq.pickFE rfl (by conv => { lhs; whnf }) (Wq.nil ?_)) | refine Wt.quiet rfl (Wq.notB rfl (Wq.nil ?_)) | refine Wt.quiet rfl (Wq.lenS rfl (Wq.nil ?_)) | refine Wt.quiet rfl (Wq.lenStr rfl (Wq.nil ?_)) | refine Wt.quiet rfl (Wq.nilP rfl (Wq.nil ?_)) | refine Wt.quiet rfl (Wq.fieldAddr rfl rfl (Wq.nil ?_)) | refine Wt.quiet rfl (Wq.add rfl rfl (by omega) (by omega) (Wq.nil ?_)) | refine Wt.quiet rfl (Wq.sub rfl rfl (by omega) (by omega) (Wq.nil ?_)) | refine Wt.quiet rfl (Wq.mul rfl rfl (by omega) (by omega) (Wq.nil ?_)) | refine Wt.quiet rfl (Wq.convI rfl (Wq.nil ?_)) | (refine Wt.quiet rfl (Wq.lss rfl rfl (fun _ => Wq.nil ?_) (fun _ => Wq.nil ?_)) <;> (first | (exfalso; omega) | (exfalso; contradiction) | skip)) | (refine Wt.quiet rfl (Wq.leq rfl rfl (fun _ => Wq.nil ?_) (fun _ => Wq.nil ?_)) <;> (first | (exfalso; omega) | (exfalso; contradiction) | skip)) | (refine Wt.quiet rfl (Wq.gtr rfl rfl (fun _ => Wq.nil ?_) (fun _ => Wq.nil ?_)) <;> (first | (exfalso; omega) | (exfalso; contradiction) | skip)) | (refine Wt.quiet rfl (Wq.geq rfl rfl (fun _ => Wq.nil ?_) (fun _ => Wq.nil ?_)) <;> (first | (exfalso; omega) | (exfalso; contradiction) | skip)) | (refine Wt.quiet rfl (Wq.eql rfl rfl (fun _ => Wq.nil ?_) (fun _ => Wq.nil ?_)) <;> (first | (exfalso; omega) | (exfalso; contradiction) | skip)) | (refine Wt.quiet rfl (Wq.neq rfl rfl (fun _ => Wq.nil ?_) (fun _ => Wq.nil ?_)) <;> (first | (exfalso; omega) | (exfalso; contradiction) | skip)) | (refine Wt.quiet rfl (Wq.seql rfl rfl (fun _ => Wq.nil ?_) (fun _ => Wq.nil ?_)) <;> (first | (exfalso; omega) | (exfalso; contradiction) | skip)) | (refine Wt.quiet rfl (Wq.sneq rfl rfl (fun _ => Wq.nil ?_) (fun _ => Wq.nil ?_)) <;> (first | (exfalso; omega) | (exfalso; contradiction) | skip))))
    refine Wt.quiet rfl (Wq.idxAddr h (fun W' c => c.keep) rfl rfl (by omega) (by rw [Int.toNat_natCast]; exact hy) fun bb o cs hl hR hat => Wq.nil ?_)
    obtain rfl : cs = evC y := hR
    (repeat' (first | refine Wt.nil ?_ | refine Wt.guardY rfl rfl ?_ | refine Wt.guardN rfl rfl (by assumption) ?_ | refine Wt.guardU rfl (by assumption) ?_ | refine Wt.quiet rfl (Wq.moveE (by conv => { lhs; whnf }) (Wq.nil ?_)) | refine Wt.quiet rfl (Wq.assignE (by conv => { lhs; whnf }) (Wq.nil ?_)) | refine Wt.quiet rfl (Wq.extract rfl rfl (Wq.nil ?_)) | refine Wt.quiet rfl (Wq.pickTE rfl (by conv => { lhs; whnf }) (Wq.nil ?_)) | refine Wt.quiet rfl (Wq.pickFE rfl (by conv => { lhs; whnf }) (Wq.nil ?_)) | refine Wt.quiet rfl (Wq.notB rfl (Wq.nil ?_)) | refine Wt.quiet rfl (Wq.lenS rfl (Wq.nil ?_)) | refine Wt.quiet rfl (Wq.lenStr rfl (Wq.nil ?_)) | refine Wt.quiet rfl (Wq.nilP rfl (Wq.nil ?_)) | refine Wt.quiet rfl (Wq.fieldAddr rfl rfl (Wq.nil ?_)) | refine Wt.quiet rfl (Wq.add rfl rfl (by omega) (by omega) (Wq.nil ?_)) | refine Wt.quiet rfl (Wq.sub rfl rfl (by omega) (by omega) (Wq.nil ?_)) | refine Wt.quiet rfl (Wq.mul rfl rfl (by omega) (by omega) (Wq.nil ?_)) | refine Wt.quiet rfl (Wq.convI rfl (Wq.nil ?_)) | (refine Wt.quiet rfl (Wq.lss rfl rfl (fun _ => Wq.nil ?_) (fun _ => Wq.nil ?_)) <;> (first | (exfalso; omega) | (exfalso; contradiction) | skip)) | (refine Wt.quiet rfl (Wq.leq rfl rfl (fun _ => Wq.nil ?_) (fun _ => Wq.nil ?_)) <;> (first | (exfalso; omega) | (exfalso; contradiction) | skip)) | (refine Wt.quiet rfl (Wq.gtr rfl rfl (fun _ => Wq.nil ?_) (fun _ => Wq.nil ?_)) <;> (first | (exfalso; omega) | (exfalso; contradiction) | skip)) | (refine Wt.quiet rfl (Wq.geq rfl rfl (fun _ => Wq.nil ?_) (fun _ => Wq.nil ?_)) <;> (first | (exfalso; omega) | (exfalso; contradiction) | skip)) | (refine Wt.quiet rfl (Wq.eql rfl rfl (fun _ => Wq.nil ?_) (fun _ => Wq.nil ?_)) <;> (first | (exfalso; omega) | (exfalso; contradiction) | skip)) | (refine Wt.quiet rfl (Wq.neq rfl rfl (fun _ => Wq.nil ?_) (fun _ => Wq.nil ?_)) <;> (first | (exfalso; omega) | (exfalso; contradiction) | skip)) | (refine Wt.quiet rfl (Wq.seql rfl rfl (fun _ => Wq.nil ?_) (fun _ => Wq.nil ?_)) <;> (first | (exfalso; omega) | (exfalso; contradiction) | skip)) | (refine Wt.quiet rfl (Wq.sneq rfl rfl (fun _ => Wq.nil ?_) (fun _ => Wq.nil ?_)) <;> (first | (exfalso; omega) | (exfalso; contradiction) | skip))))
    refine Wt.quiet rfl (Wq.load1 rfl (fun W' c => (hat W' c).get 3 rfl) (Wq.nil ?_))
    (repeat' (first | refine Wt.nil ?_ | refine Wt.guardY rfl rfl ?_ | refine Wt.guardN rfl rfl (by assumption) ?_ | refine Wt.guardU rfl (by assumption) ?_ | refine Wt.quiet rfl (Wq.moveE (by conv => { lhs; whnf }) (Wq.nil ?_)) | refine Wt.quiet rfl (Wq.assignE (by conv => { lhs; whnf }) (Wq.nil ?_)) | refine Wt.quiet rfl (Wq.extract rfl rfl (Wq.nil ?_)) | refine Wt.quiet rfl (Wq.pickTE rfl (by conv => { lhs; whnf }) (Wq.nil ?_)) | refine Wt.quiet rfl (Wq.pickFE rfl (by conv => { lhs; whnf }) (Wq.nil ?_)) | refine Wt.quiet rfl (Wq.notB rfl (Wq.nil ?_)) | refine Wt.quiet rfl (Wq.lenS rfl (Wq.nil ?_)) | refine Wt.quiet rfl (Wq.lenStr rfl (Wq.nil ?_)) | refine Wt.quiet rfl (Wq.nilP rfl (Wq.nil ?_)) | refine Wt.quiet rfl (Wq.fieldAddr rfl rfl (Wq.nil ?_)) | refine Wt.quiet rfl (Wq.add rfl rfl (by omega) (by omega) (Wq.nil ?_)) | refine Wt.quiet rfl (Wq.sub rfl rfl (by omega) (by omega) (Wq.nil ?_)) | refine Wt.quiet rfl (Wq.mul rfl rfl (by omega) (by omega) (Wq.nil ?_)) | refine Wt.quiet rfl (Wq.convI rfl (Wq.nil ?_)) | (refine Wt.quiet rfl (Wq.lss rfl rfl (fun _ => Wq.nil ?_) (fun _ => Wq.nil ?_)) <;> (first | (exfalso; omega) | (exfalso; contradiction) | skip)) | (refine Wt.quiet rfl (Wq.leq rfl rfl (fun _ => Wq.nil ?_) (fun _ => Wq.nil ?_)) <;> (first | (exfalso; omega) | (exfalso; contradiction) | skip)) | (refine Wt.quiet rfl (Wq.gtr rfl rfl (fun _ => Wq.nil ?_) (fun _ => Wq.nil ?_)) <;> (first | (exfalso; omega) | (exfalso; contradiction) | skip)) | (refine Wt.quiet rfl (Wq.geq rfl rfl (fun _ => Wq.nil ?_) (fun _ => Wq.nil ?_)) <;> (first | (exfalso; omega) | (exfalso; contradiction) | skip)) | (refine Wt.quiet rfl (Wq.eql rfl rfl (fun _ => Wq.nil ?_) (fun _ => Wq.nil ?_)) <;> (first | (exfalso; omega) | (exfalso; contradiction) | skip)) | (refine Wt.quiet rfl (Wq.neq rfl rfl (fun _ => Wq.nil ?_) (fun _ => Wq.nil ?_)) <;> (first | (exfalso; omega) | (exfalso; contradiction) | skip)) | (refine Wt.quiet rfl (Wq.seql rfl rfl (fun _ => Wq.nil ?_) (fun _ => Wq.nil ?_)) <;> (first | (exfalso; omega) | (exfalso; contradiction) | skip)) | (refine Wt.quiet rfl (Wq.sneq rfl rfl (fun _ => Wq.nil ?_) (fun _ => Wq.nil ?_)) <;> (first | (exfalso; omega) | (exfalso; contradiction) | skip))))
    refine Wt.quiet rfl (Wq.idxAddr h (fun W' c => c.keep) rfl rfl (by omega) (by rw [Int.toNat_natCast]; exact hy) fun bb o cs hl hR hat => Wq.nil ?_)
    obtain rfl : cs = evC y := hR
    (repeat' (first | refine Wt.nil ?_ | refine Wt.guardY rfl rfl ?_ | refine Wt.guardN rfl rfl (by assumption) ?_ | refine Wt.guardU rfl (by assumption) ?_ | refine Wt.quiet rfl (Wq.moveE (by conv => { lhs; whnf }) (Wq.nil ?_)) | refine Wt.quiet rfl (Wq.assignE (by conv => { lhs; whnf }) (Wq.nil ?_)) | refine Wt.quiet rfl (Wq.extract rfl rfl (Wq.nil ?_)) | refine Wt.quiet rfl (Wq.pickTE rfl (by conv => { lhs; whnf }) (Wq.nil ?_)) | refine Wt.quiet rfl (Wq.pickFE rfl (by conv => { lhs; whnf }) (Wq.nil ?_)) | refine Wt.quiet rfl (Wq.notB rfl (Wq.nil ?_)) | refine Wt.quiet rfl (Wq.lenS rfl (Wq.nil ?_)) | refine Wt.quiet rfl (Wq.lenStr rfl (Wq.nil ?_)) | refine Wt.quiet rfl (Wq.nilP rfl (Wq.nil ?_)) | refine Wt.quiet rfl (Wq.fieldAddr rfl rfl (Wq.nil ?_)) | refine Wt.quiet rfl (Wq.add rfl rfl (by omega) (by omega) (Wq.nil ?_)) | refine Wt.quiet rfl (Wq.sub rfl rfl (by omega) (by omega) (Wq.nil ?_)) | refine Wt.quiet rfl (Wq.mul rfl rfl (by omega) (by omega) (Wq.nil ?_)) | refine Wt.quiet rfl (Wq.convI rfl (Wq.nil ?_)) | (refine Wt.quiet rfl (Wq.lss rfl rfl (fun _ => Wq.nil ?_) (fun _ => Wq.nil ?_)) <;> (first | (exfalso; omega) | (exfalso; contradiction) | skip)) | (refine Wt.quiet rfl (Wq.leq rfl rfl (fun _ => Wq.nil ?_) (fun _ => Wq.nil ?_)) <;> (first | (exfalso; omega) | (exfalso; contradiction) | skip)) | (refine Wt.quiet rfl (Wq.gtr rfl rfl (fun _ => Wq.nil ?_) (fun _ => Wq.nil ?_)) <;> (first | (exfalso; omega) | (exfalso; contradiction) | skip)) | (refine Wt.quiet rfl (Wq.geq rfl rfl (fun _ => Wq.nil ?_) (fun _ => Wq.nil ?_)) <;> (first | (exfalso; omega) | (exfalso; contradiction) | skip)) | (refine Wt.quiet rfl (Wq.eql rfl rfl (fun _ => Wq.nil ?_) (fun _ => Wq.nil ?_)) <;> (first | (exfalso; omega) | (exfalso; contradiction) | skip)) | (refine Wt.quiet rfl (Wq.neq rfl rfl (fun _ => Wq.nil ?_) (fun _ => Wq.nil ?_)) <;> (first | (exfalso; omega) | (exfalso; contradiction) | skip)) | (refine Wt.quiet rfl (Wq.seql rfl rfl (fun _ => Wq.nil ?_) (fun _ => Wq.nil ?_)) <;> (first | (exfalso; omega) | (exfalso; contradiction) | skip)) | (refine Wt.quiet rfl (Wq.sneq rfl rfl (fun _ => Wq.nil ?_) (fun _ => Wq.nil ?_)) <;> (first | (exfalso; omega) | (exfalso; contradiction) | skip))))
    refine Wt.quiet rfl (Wq.load1 rfl (fun W' c => (hat W' c).get 4 rfl) (Wq.nil ?_))
    (repeat' (first | refine Wt.nil ?_ | refine Wt.guardY rfl rfl ?_ | refine Wt.guardN rfl rfl (by assumption) ?_ | refine Wt.guardU rfl (by assumption) ?_ | refine Wt.quiet rfl (Wq.moveE (by conv => { lhs; whnf }) (Wq.nil ?_)) | refine Wt.quiet rfl (Wq.assignE (by conv => { lhs; whnf }) (Wq.nil ?_)) | refine Wt.quiet rfl (Wq.extract rfl rfl (Wq.nil ?_)) | refine Wt.quiet rfl (Wq.pickTE rfl (by conv => { lhs; whnf }) (Wq.nil ?_)) | refine Wt.quiet rfl (Wq.pickFE rfl (by conv => { lhs; whnf }) (Wq.nil ?_)) | refine Wt.quiet rfl (Wq.notB rfl (Wq.nil ?_)) | refine Wt.quiet rfl (Wq.lenS rfl (Wq.nil ?_)) | refine Wt.quiet rfl (Wq.lenStr rfl (Wq.nil ?_)) | refine Wt.quiet rfl (Wq.nilP rfl (Wq.nil ?_)) | refine Wt.quiet rfl (Wq.fieldAddr rfl rfl (Wq.nil ?_)) | refine Wt.quiet rfl (Wq.add rfl rfl (by omega) (by omega) (Wq.nil ?_)) | refine Wt.quiet rfl (Wq.sub rfl rfl (by omega) (by omega) (Wq.nil ?_)) | refine Wt.quiet rfl (Wq.mul rfl rfl (by omega) (by omega) (Wq.nil ?_)) | refine Wt.quiet rfl (Wq.convI rfl (Wq.nil ?_)) | (refine Wt.quiet rfl (Wq.lss rfl rfl (fun _ => Wq.nil ?_) (fun _ => Wq.nil ?_)) <;> (first | (exfalso; omega) | (exfalso; contradiction) | skip)) | (refine Wt.quiet rfl (Wq.leq rfl rfl (fun _ => Wq.nil ?_) (fun _ => Wq.nil ?_)) <;> (first | (exfalso; omega) | (exfalso; contradiction) | skip)) | (refine Wt.quiet rfl (Wq.gtr rfl rfl (fun _ => Wq.nil ?_) (fun _ => Wq.nil ?_)) <;> (first | (exfalso; omega) | (exfalso; contradiction) | skip)) | (refine Wt.quiet rfl (Wq.geq rfl rfl (fun _ => Wq.nil ?_) (fun _ => Wq.nil ?_)) <;> (first | (exfalso; omega) | (exfalso; contradiction) | skip)) | (refine Wt.quiet rfl (Wq.eql rfl rfl (fun _ => Wq.nil ?_) (fun _ => Wq.nil ?_)) <;> (first | (exfalso; omega) | (exfalso; contradiction) | skip)) | (refine Wt.quiet rfl (Wq.neq rfl rfl (fun _ => Wq.nil ?_) (fun _ => Wq.nil ?_)) <;> (first | (exfalso; omega) | (exfalso; contradiction) | skip)) | (refine Wt.quiet rfl (Wq.seql rfl rfl (fun _ => Wq.nil ?_) (fun _ => Wq.nil ?_)) <;> (first | (exfalso; omega) | (exfalso; contradiction) | skip)) | (refine Wt.quiet rfl (Wq.sneq rfl rfl (fun _ => Wq.nil ?_) (fun _ => Wq.nil ?_)) <;> (first | (exfalso; omega) | (exfalso; contradiction) | skip))))
    refine Wt.quiet rfl (Wq.idxAddr h (fun W' c => c.keep) rfl rfl (by omega) (by rw [Int.toNat_natCast]; exact hy) fun bb o cs hl hR hat => Wq.nil ?_)
    obtain rfl : cs = evC y := hR
    (repeat' (first | refine Wt.nil ?_ | refine Wt.guardY rfl rfl ?_ | refine Wt.guardN rfl rfl (by assumption) ?_ | refine Wt.guardU rfl (by assumption) ?_ | refine Wt.quiet rfl (Wq.moveE (by conv => { lhs; whnf }) (Wq.nil ?_)) | refine Wt.quiet rfl (Wq.assignE (by conv => { lhs; whnf }) (Wq.nil ?_)) | refine Wt.quiet rfl (Wq.extract rfl rfl (Wq.nil ?_)) | refine Wt.quiet rfl (Wq.pickTE rfl (by conv => { lhs; whnf }) (Wq.nil ?_)) | refine Wt.quiet rfl (Wq.pickFE rfl (by conv => { lhs; whnf }) (Wq.nil ?_)) | refine Wt.quiet rfl (Wq.notB rfl (Wq.nil ?_)) | refine Wt.quiet rfl (Wq.lenS rfl (Wq.nil ?_)) | refine Wt.quiet rfl (Wq.lenStr rfl (Wq.nil ?_)) | refine Wt.quiet rfl (Wq.nilP rfl (Wq.nil ?_)) | refine Wt.quiet rfl (Wq.fieldAddr rfl rfl (Wq.nil ?_)) | refine Wt.quiet rfl (Wq.add rfl rfl (by omega) (by omega) (Wq.nil ?_)) | refine Wt.quiet rfl (Wq.sub rfl rfl (by omega) (by omega) (Wq.nil ?_)) | refine Wt.quiet rfl (Wq.mul rfl rfl (by omega) (by omega) (Wq.nil ?_)) | refine Wt.quiet rfl (Wq.convI rfl (Wq.nil ?_)) | (refine Wt.quiet rfl (Wq.lss rfl rfl (fun _ => Wq.nil ?_) (fun _ => Wq.nil ?_)) <;> (first | (exfalso; omega) | (exfalso; contradiction) | skip)) | (refine Wt.quiet rfl (Wq.leq rfl rfl (fun _ => Wq.nil ?_) (fun _ => Wq.nil ?_)) <;> (first | (exfalso; omega) | (exfalso; contradiction) | skip)) | (refine Wt.quiet rfl (Wq.gtr rfl rfl (fun _ => Wq.nil ?_) (fun _ => Wq.nil ?_)) <;> (first | (exfalso; omega) | (exfalso; contradiction) | skip)) | (refine Wt.quiet rfl (Wq.geq rfl rfl (fun _ => Wq.nil ?_) (fun _ => Wq.nil ?_)) <;> (first | (exfalso; omega) | (exfalso; contradiction) | skip)) | (refine Wt.quiet rfl (Wq.eql rfl rfl (fun _ => Wq.nil ?_) (fun _ => Wq.nil ?_)) <;> (first | (exfalso; omega) | (exfalso; contradiction) | skip)) | (refine Wt.quiet rfl (Wq.neq rfl rfl (fun _ => Wq.nil ?_) (fun _ => Wq.nil ?_)) <;> (first | (exfalso; omega) | (exfalso; contradiction) | skip)) | (refine Wt.quiet rfl (Wq.seql rfl rfl (fun _ => Wq.nil ?_) (fun _ => Wq.nil ?_)) <;> (first | (exfalso; omega) | (exfalso; contradiction) | skip)) | (refine Wt.quiet rfl (Wq.sneq rfl rfl (fun _ => Wq.nil ?_) (fun _ => Wq.nil ?_)) <;> (first | (exfalso; omega) | (exfalso; contradiction) | skip))))
    refine Wt.quiet rfl (Wq.load1 rfl (fun W' c => (hat W' c).get 5 rfl) (Wq.nil ?_))
    refine Wt.last rfl (Wl.call (Add_spec (rg.new m1) (InW.of hyw) hyl) rfl ?_)
    rintro _ W2 ⟨rfl, rg2, c2⟩
    have zm := m1.size
    rw [← fill_snoc hy] at rg2
    (repeat' (first | refine Wl.moveE (by conv => { lhs; whnf }) ?_ | refine Wl.assignE (by conv => { lhs; whnf }) ?_ | refine Wl.nil ?_ | refine Wl.extract rfl rfl ?_ | refine Wl.guardY rfl rfl ?_ | refine Wl.guardN rfl rfl ?_ | refine Wl.guardU rfl ?_ | refine Wl.pickTE rfl (by conv => { lhs; whnf }) ?_ | refine Wl.pickFE rfl (by conv => { lhs; whnf }) ?_ | refine Wl.notB rfl ?_ | refine Wl.lenS rfl ?_ | refine Wl.lenStr rfl ?_ | refine Qseq.normal ?_ | refine Wc.seq ?_ | refine Wc.region ?_ | refine Wc.block ?_ | refine Wc.skip ?_ | refine Wc.exit ?_ | refine Wc.ret ?_ | refine Qseq.exit ?_ | refine Qseq.ret ?_ | refine Wc.scope ?_ | refine Wc.label ?_ | refine Qsc.normal ?_ | refine Qsc.exit ?_ | refine Qsc.ret ?_ | refine Qblk.normal ?_ | refine Qblk.ret ?_ | refine Qblk.hit ?_ | refine Qblk.miss rfl ?_ | refine Qloop.exit ?_ | refine Qloop.ret ?_ | refine Wc.condT rfl ?_ | refine Wc.condF rfl ?_ | refine Wl.nilP rfl ?_ | refine Wl.fieldAddr rfl rfl ?_ | refine Wl.nilF rfl ?_ | refine Wl.add rfl rfl (by omega) (by omega) ?_ | refine Wl.sub rfl rfl (by omega) (by omega) ?_ | refine Wl.mul rfl rfl (by omega) (by omega) ?_ | refine Wl.convI rfl ?_ | (refine Wl.lss rfl rfl (fun _ => ?_) (fun _ => ?_) <;> (first | (exfalso; omega) | (exfalso; contradiction) | skip)) | (refine Wl.leq rfl rfl (fun _ => ?_) (fun _ => ?_) <;> (first | (exfalso; omega) | (exfalso; contradiction) | skip)) | (refine Wl.gtr rfl rfl (fun _ => ?_) (fun _ => ?_) <;> (first | (exfalso; omega) | (exfalso; contradiction) | skip)) | (refine Wl.geq rfl rfl (fun _ => ?_) (fun _ => ?_) <;> (first | (exfalso; omega) | (exfalso; contradiction) | skip)) | (refine Wl.eql rfl rfl (fun _ => ?_) (fun _ => ?_) <;> (first | (exfalso; omega) | (exfalso; contradiction) | skip)) | (refine Wl.neq rfl rfl (fun _ => ?_) (fun _ => ?_) <;> (first | (exfalso; omega) | (exfalso; contradiction) | skip)) | (refine Wl.seql rfl rfl (fun _ => ?_) (fun _ => ?_) <;> (first | (exfalso; omega) | (exfalso; contradiction) | skip)) | (refine Wl.sneq rfl rfl (fun _ => ?_) (fun _ => ?_) <;> (first | (exfalso; omega) | (exfalso; contradiction) | skip))))
    exact Qloop.normal (i + 1) ⟨rfl, rfl, rfl, rfl, trivial⟩ ⟨by omega, by omega, Chg.trans (n0.trans m1) c2 fun k hk e => by omega, rg2.mono fun k _ e => by rcases e with e | e <;> omega⟩ (by omega)
  all_goals
    refine Qfn.ret1 rfl rfl ⟨_, rfl, b, rfl, ?_, n0⟩
    have e : l.take i = l.take 40 := by
      rcases Nat.lt_or_ge i 40 with h40 | h40
      · rw [List.take_of_length_le (by omega), List.take_of_length_le (by omega)]
      · rw [show i = 40 by omega]
    unfold filledM
    rw [← e]; exact rg
/-! ### Why -/
def whyF (t : Tr) : Nat → Ev → List Ev × Bool
  | 0, x => ([x], true)
  | f + 1, x => if x.ca = 0 then ([x], true) else match t.get x.ca with
    | none => ([x], false)
    | some y => (x :: (whyF t f y).1, (whyF t f y).2)
def whyM (t : Tr) (id : Nat) : List Ev × Bool × Int := match t.get id with
  | none => ([], false, 6)
  | some x => ((whyF t id x).1, (whyF t id x).2, 0)
theorem whyF_fuel {t : Tr} (h : TrOk t) : ∀ (f g : Nat) (x : Ev), x ∈ t.kept → x.id ≤ f → x.id ≤ g → whyF t f x = whyF t g x
  | 0, g, x, hx, hf, _ => by
    have := h.cas x hx
    omega
  | f + 1, 0, x, hx, _, hg => by
    have := h.cas x hx
    omega
  | f + 1, g + 1, x, hx, hf, hg => by
    unfold whyF
    split
    · rfl
    · cases hq : t.get x.ca with
      | none => rfl
      | some y =>
        have hy := h.get hq
        have hc := h.cas x hx
        have := whyF_fuel h f g y hy.2.1 (by omega) (by omega)
        simp only [this]
theorem whyF_len (t : Tr) : ∀ (f : Nat) (x : Ev), (whyF t f x).1.length ≤ f + 1
  | 0, x => by simp [whyF]
  | f + 1, x => by
    unfold whyF
    split
    · simp
    · cases t.get x.ca with
      | none => simp
      | some y => have := whyF_len t f y; simp; omega
end Go.Proofs.YtjaendlcijmifaaDoor

namespace Go.Proofs.YtjaendlcijmifaaDoor.Wk
open Go Go.RowKit

section
variable {P : Program} {n : Nat} {Q : Po} {F : Fr} {w : World}
theorem Wr.range {r0 : Nat} {rc : Loop} (hr0 : w.heap[r0]? = some (.loop rc)) {g : Operand} {p : Nat} {assign body : Code} {gf : Nat} {lb : Array Value} {N : Nat} {x : Nat → Value} {Rd : World → Prop}
    (hg : ev n F g = .func (.func gf) #[] lb) (eg : ∀ args w, (callFunc gf args).run P w = .ok (.enter gf args) w) (it : Iter P gf lb N x Rd)
    (I : Nat → World → Prop) (Ix : Code → World → Prop)
    (hRd : ∀ k W, I k W → Rd W)
    (sN : ∀ k W W', I k W → New W W' → I k W')
    (sI : ∀ k W r r', I k W → W.heap[w.heap.size]? = some (.loop r) → I k (W.putObj w.heap.size (.loop r')))
    (sX : ∀ c W r r', Ix c W → W.heap[w.heap.size]? = some (.loop r) → Ix c (W.putObj w.heap.size (.loop r')))
    (h0 : ∀ r, I 0 (w.alloc (.loop r)))
    (hround : ∀ k W r, k < N → I k W → W.heap[w.heap.size]? = some (.loop r) →
      Wr P n (some w.heap.size) (Qas fun F' W' => New W W' ∧ ∀ r', Wr P n (some w.heap.size) (Qrd w.heap.size w.heap.size (W'.putObj w.heap.size (.loop r')) (I (k + 1)) Ix) body F' (W'.putObj w.heap.size (.loop r'))) assign (upd F p (x k)) W)
    (hdone : ∀ W, I N W → Q .normal F W)
    (hret : ∀ W, Ix .ret W → Q .ret F W)
    (hexit : ∀ id W, Ix (.exit id) W → Q (.exit id) F W) :
    Wr P n (some r0) Q (.rangeFunc g #[p] assign body) F w := by
  unfold Wr
  refine wpIn_rangeFunc ?_
  intro fn _
  obtain ⟨rec, hrec⟩ : ∃ rec : LoopState → Option Code → Loop, rec = fun st pe => { state := st, pending := pe, fn, tmps := arr n F, params := #[p], assign, body, defers := rc.defers } := ⟨_, rfl⟩
  obtain ⟨W1, hW1⟩ : ∃ W1, w.alloc (.loop (rec .ready none)) = W1 := ⟨_, rfl⟩
  have hL1 : W1.heap[w.heap.size]? = some (.loop (rec .ready none)) := by
    rw [← hW1]; exact World.alloc_heap_new w _
  have hI1 : I 0 W1 := by rw [← hW1]; exact h0 _
  refine ⟨w.heap.size, [], W1, { target := .fn (.func gf) lb, args := #[.func (.yield w.heap.size) #[] #[]] }, W1, gf,
    #[.func (.yield w.heap.size) #[] #[]] ++ lb, W1, ?_, ?_, ?_, ?_, fun h => by simp [FR, Fence.wide] at h, ?_⟩
  · rw [← hW1, hrec]; exact run_enterLoop_inner hr0 _ _ _ _ _
  · simp only [resolve, act_eval, hg]
    simp [go_sem]
  · exact fun _ _ => trivial
  · simp [invoke, go_sem, eg]
  · refine CallsIn.mono (show CallsIn (FR (some r0)) (0 - 1) P gf _ W1 _ from it w.heap.size
      (fun k W => I k W ∧ W.heap[w.heap.size]? = some (.loop (rec .ready none)))
      (fun W => ∃ c, (c = .ret ∨ ∃ id, c = .exit id) ∧ Ix c W ∧ W.heap[w.heap.size]? = some (.loop (rec .done (some c))))
      W1 (fun k W h => hRd k W h.1) (fun k W W' h n => ⟨sN k W W' h.1 n, (n.block _ (Array.getElem?_eq_some_iff.1 h.2).1 id).trans h.2⟩) ?_ ⟨hI1, hL1⟩) ?_
    · -- one round
      rintro k W hk ⟨hi, hl⟩
      have hlt : w.heap.size < W.heap.size := (Array.getElem?_eq_some_iff.1 hl).1
      have hy := run_yield (P := P) (args := #[x k]) hl (by rw [hrec]; rfl)
      rw [hrec] at hy
      have hz : ((#[p].zip #[x k]).foldl (fun tmps (t, a) => tmps.setIfInBounds t a) (arr n F)) = arr n (upd F p (x k)) := by
        simp [arr_put]
      refine ⟨fn, _, assign, body, hy, roundIn_of_wpIn (F := Fence.wide) (n := 0) trivial ?_⟩
      dsimp only
      rw [hz]
      have hA := hround k W _ hk hi hl
      unfold Wr at hA
      refine wpIn_mono hA ?_
      rintro e a w1 ⟨F', rfl, hq⟩
      cases e with
      | normal =>
        obtain ⟨hn, hq⟩ := hq
        have hl' := (hn.block _ hlt id).trans hl
        have hlt' : w.heap.size < w1.heap.size := (Array.getElem?_eq_some_iff.1 hl').1
        refine ⟨_, run_beginRound hl' (by rw [hrec]), ?_⟩
        have hl2 : (w1.putObj w.heap.size (.loop { rec .ready none with state := .busy })).heap[w.heap.size]? = some (.loop { rec .ready none with state := .busy }) := World.putObj_heap_same hlt'
        have hB := hq { rec .ready none with state := .busy }
        unfold Wr at hB
        refine wpIn_mono hB ?_
        have fin : ∀ (jump : Option Code) (W3 : World), W3.heap[w.heap.size]? = some (.loop { rec .ready none with state := .busy }) →
            (Instr.endRound w.heap.size jump).run P W3 = .ok (.bool jump.isNone) (W3.putObj w.heap.size (.loop (rec (if jump.isNone then .ready else .done) jump))) ∧
            (W3.putObj w.heap.size (.loop (rec (if jump.isNone then .ready else .done) jump))).heap[w.heap.size]? = some (.loop (rec (if jump.isNone then .ready else .done) jump)) := fun jump W3 h3 => by
          have := run_endRound (P := P) jump h3
          rw [hrec] at this ⊢
          exact ⟨this, World.putObj_heap_same (Array.getElem?_eq_some_iff.1 h3).1⟩
        rintro e a3 W3 ⟨F3, rfl, hq3⟩
        cases e with
        | normal =>
          obtain ⟨h3, _, h5⟩ := hq3
          obtain ⟨hr, hl4⟩ := fin none W3 (h3.trans hl2)
          exact ⟨_, _, hr, .inl ⟨rfl, sI _ _ _ _ h5 (h3.trans hl2), hl4⟩⟩
        | ret =>
          obtain ⟨h3, _, h5⟩ := hq3
          obtain ⟨hr, hl4⟩ := fin (some .ret) W3 (h3.trans hl2)
          exact ⟨_, _, hr, .inr ⟨rfl, .ret, .inl rfl, sX _ _ _ _ h5 (h3.trans hl2), hl4⟩⟩
        | exit id =>
          obtain ⟨h3, _, h5⟩ := hq3
          obtain ⟨hr, hl4⟩ := fin (some (.exit id)) W3 (h3.trans hl2)
          exact ⟨_, _, hr, .inr ⟨rfl, .exit id, .inr ⟨id, rfl⟩, sX _ _ _ _ h5 (h3.trans hl2), hl4⟩⟩
        | goto t => exact hq3.elim
        | panic ch => exact hq3.elim
        | outgrown => exact hq3.elim
      | exit id => exact hq.elim
      | goto t => exact hq.elim
      | ret => exact hq.elim
      | panic ch => exact hq.elim
      | outgrown => exact hq.elim
    · -- behind the iterator
      rintro e W2 ⟨⟨v, rfl⟩, (⟨hi, hl⟩ | ⟨c, hc, hi, hl⟩)⟩
      · refine ⟨none, _, by have := run_endLoop (P := P) hl (by rw [hrec]; simp); rw [hrec] at this; exact this, ?_⟩
        exact ⟨_, rfl, hdone _ (sI _ _ _ _ hi hl)⟩
      · refine ⟨some c, _, by have := run_endLoop (P := P) hl (by rw [hrec]; simp); rw [hrec] at this; exact this, ?_⟩
        rcases hc with rfl | ⟨id, rfl⟩
        · exact wpIn_ret ⟨_, rfl, hret _ (sX _ _ _ _ hi hl)⟩
        · exact wpIn_exit ⟨_, rfl, hexit _ _ (sX _ _ _ _ hi hl)⟩
end
end Go.Proofs.YtjaendlcijmifaaDoor.Wk

namespace Go.Proofs.YtjaendlcijmifaaDoor
open Go Wk
open Go.RowKit (Below)
attribute [local irreducible] Go.Calls

set_option maxHeartbeats 1000000 in
theorem Why_spec {Pb : Nat → Prop} {w : World} {b : Nat} {t : Tr} {id : Nat} (h : Rg Pb w b t) (hid : id < 18446744073709551616) :
    Calls Tryd.prog 16 #[pT b, .int .u64 id] w (Ret fun r w' => ∃ v, r = .tuple #[v, .bool (whyM t id).2.1, vi (whyM t id).2.2] ∧ OwnS rEv 36 6 (fun k => w.heap.size ≤ k) No w' v (whyM t id).1 ∧ New w w') := by
  have hok := h.ok
  have hlast := hok.last
  refine calls_of_Wc Tryd.func16 rfl Tryd.ntmps16 rfl ?_
  (repeat' (first | refine Wl.moveE (by conv => { lhs; whnf }) ?_ | refine Wl.assignE (by conv => { lhs; whnf }) ?_ | refine Wl.nil ?_ | refine Wl.extract rfl rfl ?_ | refine Wl.guardY rfl rfl ?_ | refine Wl.guardN rfl rfl ?_ | refine Wl.guardU rfl ?_ | refine Wl.pickTE rfl (by conv => { lhs; whnf }) ?_ | refine Wl.pickFE rfl (by conv => { lhs; whnf }) ?_ | refine Wl.notB rfl ?_ | refine Wl.lenS rfl ?_ | refine Wl.lenStr rfl ?_ | refine Qseq.normal ?_ | refine Wc.seq ?_ | refine Wc.region ?_ | refine Wc.block ?_ | refine Wc.skip ?_ | refine Wc.exit ?_ | refine Wc.ret ?_ | refine Qseq.exit ?_ | refine Qseq.ret ?_ | refine Wc.scope ?_ | refine Wc.label ?_ | refine Qsc.normal ?_ | refine Qsc.exit ?_ | refine Qsc.ret ?_ | refine Qblk.normal ?_ | refine Qblk.ret ?_ | refine Qblk.hit ?_ | refine Qblk.miss rfl ?_ | refine Qloop.exit ?_ | refine Qloop.ret ?_ | refine Wc.condT rfl ?_ | refine Wc.condF rfl ?_ | refine Wl.nilP rfl ?_ | refine Wl.fieldAddr rfl rfl ?_ | refine Wl.nilF rfl ?_ | refine Wl.add rfl rfl (by omega) (by omega) ?_ | refine Wl.sub rfl rfl (by omega) (by omega) ?_ | refine Wl.mul rfl rfl (by omega) (by omega) ?_ | refine Wl.convI rfl ?_ | (refine Wl.lss rfl rfl (fun _ => ?_) (fun _ => ?_) <;> (first | (exfalso; omega) | (exfalso; contradiction) | skip)) | (refine Wl.leq rfl rfl (fun _ => ?_) (fun _ => ?_) <;> (first | (exfalso; omega) | (exfalso; contradiction) | skip)) | (refine Wl.gtr rfl rfl (fun _ => ?_) (fun _ => ?_) <;> (first | (exfalso; omega) | (exfalso; contradiction) | skip)) | (refine Wl.geq rfl rfl (fun _ => ?_) (fun _ => ?_) <;> (first | (exfalso; omega) | (exfalso; contradiction) | skip)) | (refine Wl.eql rfl rfl (fun _ => ?_) (fun _ => ?_) <;> (first | (exfalso; omega) | (exfalso; contradiction) | skip)) | (refine Wl.neq rfl rfl (fun _ => ?_) (fun _ => ?_) <;> (first | (exfalso; omega) | (exfalso; contradiction) | skip)) | (refine Wl.seql rfl rfl (fun _ => ?_) (fun _ => ?_) <;> (first | (exfalso; omega) | (exfalso; contradiction) | skip)) | (refine Wl.sneq rfl rfl (fun _ => ?_) (fun _ => ?_) <;> (first | (exfalso; omega) | (exfalso; contradiction) | skip))))
  refine Wl.call (Get_spec h hid) rfl ?_
  rintro r w1 ⟨hr, n1⟩
  cases hg : t.get id with
  | none =>
    rw [hg] at hr
    obtain rfl := hr
    have hm : whyM t id = ([], false, 6) := by unfold whyM; rw [hg]
    rw [hm]
    (repeat' (first | refine Wl.moveE (by conv => { lhs; whnf }) ?_ | refine Wl.assignE (by conv => { lhs; whnf }) ?_ | refine Wl.nil ?_ | refine Wl.extract rfl rfl ?_ | refine Wl.guardY rfl rfl ?_ | refine Wl.guardN rfl rfl ?_ | refine Wl.guardU rfl ?_ | refine Wl.pickTE rfl (by conv => { lhs; whnf }) ?_ | refine Wl.pickFE rfl (by conv => { lhs; whnf }) ?_ | refine Wl.notB rfl ?_ | refine Wl.lenS rfl ?_ | refine Wl.lenStr rfl ?_ | refine Qseq.normal ?_ | refine Wc.seq ?_ | refine Wc.region ?_ | refine Wc.block ?_ | refine Wc.skip ?_ | refine Wc.exit ?_ | refine Wc.ret ?_ | refine Qseq.exit ?_ | refine Qseq.ret ?_ | refine Wc.scope ?_ | refine Wc.label ?_ | refine Qsc.normal ?_ | refine Qsc.exit ?_ | refine Qsc.ret ?_ | refine Qblk.normal ?_ | refine Qblk.ret ?_ | refine Qblk.hit ?_ | refine Qblk.miss rfl ?_ | refine Qloop.exit ?_ | refine Qloop.ret ?_ | refine Wc.condT rfl ?_ | refine Wc.condF rfl ?_ | refine Wl.nilP rfl ?_ | refine Wl.fieldAddr rfl rfl ?_ | refine Wl.nilF rfl ?_ | refine Wl.add rfl rfl (by omega) (by omega) ?_ | refine Wl.sub rfl rfl (by omega) (by omega) ?_ | refine Wl.mul rfl rfl (by omega) (by omega) ?_ | refine Wl.convI rfl ?_ | (refine Wl.lss rfl rfl (fun _ => ?_) (fun _ => ?_) <;> (first | (exfalso; omega) | (exfalso; contradiction) | skip)) | (refine Wl.leq rfl rfl (fun _ => ?_) (fun _ => ?_) <;> (first | (exfalso; omega) | (exfalso; contradiction) | skip)) | (refine Wl.gtr rfl rfl (fun _ => ?_) (fun _ => ?_) <;> (first | (exfalso; omega) | (exfalso; contradiction) | skip)) | (refine Wl.geq rfl rfl (fun _ => ?_) (fun _ => ?_) <;> (first | (exfalso; omega) | (exfalso; contradiction) | skip)) | (refine Wl.eql rfl rfl (fun _ => ?_) (fun _ => ?_) <;> (first | (exfalso; omega) | (exfalso; contradiction) | skip)) | (refine Wl.neq rfl rfl (fun _ => ?_) (fun _ => ?_) <;> (first | (exfalso; omega) | (exfalso; contradiction) | skip)) | (refine Wl.seql rfl rfl (fun _ => ?_) (fun _ => ?_) <;> (first | (exfalso; omega) | (exfalso; contradiction) | skip)) | (refine Wl.sneq rfl rfl (fun _ => ?_) (fun _ => ?_) <;> (first | (exfalso; omega) | (exfalso; contradiction) | skip))))
    refine Wl.alloc fun w2 b2 n2 s2 => ?_
    refine Wl.storeB (o := 0) (new := evC ev0) b2 rfl rfl rfl rfl (by decide) (evC_one _) fun w3 b3 c3 s3 => ?_
    have n3 : New w1 w3 := Chg.trans n2 c3 fun _ _ e => by omega
    (repeat' (first | refine Wl.moveE (by conv => { lhs; whnf }) ?_ | refine Wl.assignE (by conv => { lhs; whnf }) ?_ | refine Wl.nil ?_ | refine Wl.extract rfl rfl ?_ | refine Wl.guardY rfl rfl ?_ | refine Wl.guardN rfl rfl ?_ | refine Wl.guardU rfl ?_ | refine Wl.pickTE rfl (by conv => { lhs; whnf }) ?_ | refine Wl.pickFE rfl (by conv => { lhs; whnf }) ?_ | refine Wl.notB rfl ?_ | refine Wl.lenS rfl ?_ | refine Wl.lenStr rfl ?_ | refine Qseq.normal ?_ | refine Wc.seq ?_ | refine Wc.region ?_ | refine Wc.block ?_ | refine Wc.skip ?_ | refine Wc.exit ?_ | refine Wc.ret ?_ | refine Qseq.exit ?_ | refine Qseq.ret ?_ | refine Wc.scope ?_ | refine Wc.label ?_ | refine Qsc.normal ?_ | refine Qsc.exit ?_ | refine Qsc.ret ?_ | refine Qblk.normal ?_ | refine Qblk.ret ?_ | refine Qblk.hit ?_ | refine Qblk.miss rfl ?_ | refine Qloop.exit ?_ | refine Qloop.ret ?_ | refine Wc.condT rfl ?_ | refine Wc.condF rfl ?_ | refine Wl.nilP rfl ?_ | refine Wl.fieldAddr rfl rfl ?_ | refine Wl.nilF rfl ?_ | refine Wl.add rfl rfl (by omega) (by omega) ?_ | refine Wl.sub rfl rfl (by omega) (by omega) ?_ | refine Wl.mul rfl rfl (by omega) (by omega) ?_ | refine Wl.convI rfl ?_ | (refine Wl.lss rfl rfl (fun _ => ?_) (fun _ => ?_) <;> (first | (exfalso; omega) | (exfalso; contradiction) | skip)) | (refine Wl.leq rfl rfl (fun _ => ?_) (fun _ => ?_) <;> (first | (exfalso; omega) | (exfalso; contradiction) | skip)) | (refine Wl.gtr rfl rfl (fun _ => ?_) (fun _ => ?_) <;> (first | (exfalso; omega) | (exfalso; contradiction) | skip)) | (refine Wl.geq rfl rfl (fun _ => ?_) (fun _ => ?_) <;> (first | (exfalso; omega) | (exfalso; contradiction) | skip)) | (refine Wl.eql rfl rfl (fun _ => ?_) (fun _ => ?_) <;> (first | (exfalso; omega) | (exfalso; contradiction) | skip)) | (refine Wl.neq rfl rfl (fun _ => ?_) (fun _ => ?_) <;> (first | (exfalso; omega) | (exfalso; contradiction) | skip)) | (refine Wl.seql rfl rfl (fun _ => ?_) (fun _ => ?_) <;> (first | (exfalso; omega) | (exfalso; contradiction) | skip)) | (refine Wl.sneq rfl rfl (fun _ => ?_) (fun _ => ?_) <;> (first | (exfalso; omega) | (exfalso; contradiction) | skip))))
    exact Qfn.ret3 rfl rfl rfl rfl ⟨_, rfl, _, rfl, OwnS.nil, n1.trans n3⟩
  | some x =>
    rw [hg] at hr
    obtain rfl := hr
    obtain ⟨hxid, hxm, _, _, _⟩ := hok.get hg
    have hm : whyM t id = ((whyF t x.id x).1, (whyF t x.id x).2, 0) := by unfold whyM; rw [hg, hxid]
    rw [hm]
    (repeat' (first | refine Wl.moveE (by conv => { lhs; whnf }) ?_ | refine Wl.assignE (by conv => { lhs; whnf }) ?_ | refine Wl.nil ?_ | refine Wl.extract rfl rfl ?_ | refine Wl.guardY rfl rfl ?_ | refine Wl.guardN rfl rfl ?_ | refine Wl.guardU rfl ?_ | refine Wl.pickTE rfl (by conv => { lhs; whnf }) ?_ | refine Wl.pickFE rfl (by conv => { lhs; whnf }) ?_ | refine Wl.notB rfl ?_ | refine Wl.lenS rfl ?_ | refine Wl.lenStr rfl ?_ | refine Qseq.normal ?_ | refine Wc.seq ?_ | refine Wc.region ?_ | refine Wc.block ?_ | refine Wc.skip ?_ | refine Wc.exit ?_ | refine Wc.ret ?_ | refine Qseq.exit ?_ | refine Qseq.ret ?_ | refine Wc.scope ?_ | refine Wc.label ?_ | refine Qsc.normal ?_ | refine Qsc.exit ?_ | refine Qsc.ret ?_ | refine Qblk.normal ?_ | refine Qblk.ret ?_ | refine Qblk.hit ?_ | refine Qblk.miss rfl ?_ | refine Qloop.exit ?_ | refine Qloop.ret ?_ | refine Wc.condT rfl ?_ | refine Wc.condF rfl ?_ | refine Wl.nilP rfl ?_ | refine Wl.fieldAddr rfl rfl ?_ | refine Wl.nilF rfl ?_ | refine Wl.add rfl rfl (by omega) (by omega) ?_ | refine Wl.sub rfl rfl (by omega) (by omega) ?_ | refine Wl.mul rfl rfl (by omega) (by omega) ?_ | refine Wl.convI rfl ?_ | (refine Wl.lss rfl rfl (fun _ => ?_) (fun _ => ?_) <;> (first | (exfalso; omega) | (exfalso; contradiction) | skip)) | (refine Wl.leq rfl rfl (fun _ => ?_) (fun _ => ?_) <;> (first | (exfalso; omega) | (exfalso; contradiction) | skip)) | (refine Wl.gtr rfl rfl (fun _ => ?_) (fun _ => ?_) <;> (first | (exfalso; omega) | (exfalso; contradiction) | skip)) | (refine Wl.geq rfl rfl (fun _ => ?_) (fun _ => ?_) <;> (first | (exfalso; omega) | (exfalso; contradiction) | skip)) | (refine Wl.eql rfl rfl (fun _ => ?_) (fun _ => ?_) <;> (first | (exfalso; omega) | (exfalso; contradiction) | skip)) | (refine Wl.neq rfl rfl (fun _ => ?_) (fun _ => ?_) <;> (first | (exfalso; omega) | (exfalso; contradiction) | skip)) | (refine Wl.seql rfl rfl (fun _ => ?_) (fun _ => ?_) <;> (first | (exfalso; omega) | (exfalso; contradiction) | skip)) | (refine Wl.sneq rfl rfl (fun _ => ?_) (fun _ => ?_) <;> (first | (exfalso; omega) | (exfalso; contradiction) | skip))))
    refine Wl.alloc fun w2 b2 n2 s2 => ?_
    refine Wl.storeB (o := 0) (new := evC x) b2 rfl rfl rfl rfl (Nat.le_refl 6) (evC_one _) fun w3 b3 c3 s3 => ?_
    replace b3 : Bk w3 w1.heap.size 36 (evC x) := b3
    have n3 : New w1 w3 := Chg.trans n2 c3 fun _ _ e => by omega
    have z1 := n1.size
    have z3 := n3.size
    have e3 := b3.lt
    (repeat' (first | refine Wl.moveE (by conv => { lhs; whnf }) ?_ | refine Wl.assignE (by conv => { lhs; whnf }) ?_ | refine Wl.nil ?_ | refine Wl.extract rfl rfl ?_ | refine Wl.guardY rfl rfl ?_ | refine Wl.guardN rfl rfl ?_ | refine Wl.guardU rfl ?_ | refine Wl.pickTE rfl (by conv => { lhs; whnf }) ?_ | refine Wl.pickFE rfl (by conv => { lhs; whnf }) ?_ | refine Wl.notB rfl ?_ | refine Wl.lenS rfl ?_ | refine Wl.lenStr rfl ?_ | refine Qseq.normal ?_ | refine Wc.seq ?_ | refine Wc.region ?_ | refine Wc.block ?_ | refine Wc.skip ?_ | refine Wc.exit ?_ | refine Wc.ret ?_ | refine Qseq.exit ?_ | refine Qseq.ret ?_ | refine Wc.scope ?_ | refine Wc.label ?_ | refine Qsc.normal ?_ | refine Qsc.exit ?_ | refine Qsc.ret ?_ | refine Qblk.normal ?_ | refine Qblk.ret ?_ | refine Qblk.hit ?_ | refine Qblk.miss rfl ?_ | refine Qloop.exit ?_ | refine Qloop.ret ?_ | refine Wc.condT rfl ?_ | refine Wc.condF rfl ?_ | refine Wl.nilP rfl ?_ | refine Wl.fieldAddr rfl rfl ?_ | refine Wl.nilF rfl ?_ | refine Wl.add rfl rfl (by omega) (by omega) ?_ | refine Wl.sub rfl rfl (by omega) (by omega) ?_ | refine Wl.mul rfl rfl (by omega) (by omega) ?_ | refine Wl.convI rfl ?_ | (refine Wl.lss rfl rfl (fun _ => ?_) (fun _ => ?_) <;> (first | (exfalso; omega) | (exfalso; contradiction) | skip)) | (refine Wl.leq rfl rfl (fun _ => ?_) (fun _ => ?_) <;> (first | (exfalso; omega) | (exfalso; contradiction) | skip)) | (refine Wl.gtr rfl rfl (fun _ => ?_) (fun _ => ?_) <;> (first | (exfalso; omega) | (exfalso; contradiction) | skip)) | (refine Wl.geq rfl rfl (fun _ => ?_) (fun _ => ?_) <;> (first | (exfalso; omega) | (exfalso; contradiction) | skip)) | (refine Wl.eql rfl rfl (fun _ => ?_) (fun _ => ?_) <;> (first | (exfalso; omega) | (exfalso; contradiction) | skip)) | (refine Wl.neq rfl rfl (fun _ => ?_) (fun _ => ?_) <;> (first | (exfalso; omega) | (exfalso; contradiction) | skip)) | (refine Wl.seql rfl rfl (fun _ => ?_) (fun _ => ?_) <;> (first | (exfalso; omega) | (exfalso; contradiction) | skip)) | (refine Wl.sneq rfl rfl (fun _ => ?_) (fun _ => ?_) <;> (first | (exfalso; omega) | (exfalso; contradiction) | skip))))
    refine Wl.loadB b3 rfl rfl ?_
    refine Wl.buildSlice1 (R := rEv) (Pe := No) (y := x) goodEv rfl rfl rfl rfl (by omega) (by omega) fun v4 w4 o4 n4 s4 e4 => ?_
    have hxl : x.id ≤ t.last := by have := (hok.get hg).2.2.2.2; omega
    have hk4 := hok.len
    have hs4 := hok.s1
    (repeat' (first | refine Wl.moveE (by conv => { lhs; whnf }) ?_ | refine Wl.assignE (by conv => { lhs; whnf }) ?_ | refine Wl.nil ?_ | refine Wl.extract rfl rfl ?_ | refine Wl.guardY rfl rfl ?_ | refine Wl.guardN rfl rfl ?_ | refine Wl.guardU rfl ?_ | refine Wl.pickTE rfl (by conv => { lhs; whnf }) ?_ | refine Wl.pickFE rfl (by conv => { lhs; whnf }) ?_ | refine Wl.notB rfl ?_ | refine Wl.lenS rfl ?_ | refine Wl.lenStr rfl ?_ | refine Qseq.normal ?_ | refine Wc.seq ?_ | refine Wc.region ?_ | refine Wc.block ?_ | refine Wc.skip ?_ | refine Wc.exit ?_ | refine Wc.ret ?_ | refine Qseq.exit ?_ | refine Qseq.ret ?_ | refine Wc.scope ?_ | refine Wc.label ?_ | refine Qsc.normal ?_ | refine Qsc.exit ?_ | refine Qsc.ret ?_ | refine Qblk.normal ?_ | refine Qblk.ret ?_ | refine Qblk.hit ?_ | refine Qblk.miss rfl ?_ | refine Qloop.exit ?_ | refine Qloop.ret ?_ | refine Wc.condT rfl ?_ | refine Wc.condF rfl ?_ | refine Wl.nilP rfl ?_ | refine Wl.fieldAddr rfl rfl ?_ | refine Wl.nilF rfl ?_ | refine Wl.add rfl rfl (by omega) (by omega) ?_ | refine Wl.sub rfl rfl (by omega) (by omega) ?_ | refine Wl.mul rfl rfl (by omega) (by omega) ?_ | refine Wl.convI rfl ?_ | (refine Wl.lss rfl rfl (fun _ => ?_) (fun _ => ?_) <;> (first | (exfalso; omega) | (exfalso; contradiction) | skip)) | (refine Wl.leq rfl rfl (fun _ => ?_) (fun _ => ?_) <;> (first | (exfalso; omega) | (exfalso; contradiction) | skip)) | (refine Wl.gtr rfl rfl (fun _ => ?_) (fun _ => ?_) <;> (first | (exfalso; omega) | (exfalso; contradiction) | skip)) | (refine Wl.geq rfl rfl (fun _ => ?_) (fun _ => ?_) <;> (first | (exfalso; omega) | (exfalso; contradiction) | skip)) | (refine Wl.eql rfl rfl (fun _ => ?_) (fun _ => ?_) <;> (first | (exfalso; omega) | (exfalso; contradiction) | skip)) | (refine Wl.neq rfl rfl (fun _ => ?_) (fun _ => ?_) <;> (first | (exfalso; omega) | (exfalso; contradiction) | skip)) | (refine Wl.seql rfl rfl (fun _ => ?_) (fun _ => ?_) <;> (first | (exfalso; omega) | (exfalso; contradiction) | skip)) | (refine Wl.sneq rfl rfl (fun _ => ?_) (fun _ => ?_) <;> (first | (exfalso; omega) | (exfalso; contradiction) | skip))))
    refine Wc.loop (σ := Value × List Ev × Ev) (fun s => [(0, pT b), (7, pT w1.heap.size), (9, s.1)]) (fun s W => New w W ∧ Bk W w1.heap.size 36 (evC s.2.2) ∧ OwnS rEv 36 6 (fun k => w3.heap.size ≤ k) No W s.1 (s.2.1 ++ [s.2.2]) ∧
      s.2.2 ∈ t.kept ∧ (whyF t x.id x).1 = s.2.1 ++ (whyF t s.2.2.id s.2.2).1 ∧ (whyF t x.id x).2 = (whyF t s.2.2.id s.2.2).2 ∧ s.2.1.length + s.2.2.id ≤ x.id) (fun s => s.2.2.id) (v4, [], x) ⟨rfl, rfl, rfl, trivial⟩
      ⟨(n1.trans n3).trans n4, b3.chg n4 (fun e => e), o4.mono goodEv.mo (fun _ _ e => e) (fun _ _ e => e), hxm, rfl, rfl, by simp⟩ ?_
    clear b3 o4 n4
    rintro ⟨v, acc, cur⟩ G W ⟨nW, bx, ov, hc, hw1, hw2, hlen⟩
    dsimp only at bx ov hc hw1 hw2 hlen
    have hcw := (hok.ok cur hc).1
    have hcas := hok.cas cur hc
    obtain ⟨ci, hci⟩ := List.mem_iff_getElem?.1 hc
    have hcid := hok.ids ci cur hci
    obtain ⟨f, hf⟩ : ∃ f, cur.id = f + 1 := ⟨cur.id - 1, by omega⟩
    have zW := nW.size
    have hgW := h.new nW
    unfold Tr.last at hxl
    simp only [upds]
    (repeat' (first | refine Wl.moveE (by conv => { lhs; whnf }) ?_ | refine Wl.assignE (by conv => { lhs; whnf }) ?_ | refine Wl.nil ?_ | refine Wl.extract rfl rfl ?_ | refine Wl.guardY rfl rfl ?_ | refine Wl.guardN rfl rfl ?_ | refine Wl.guardU rfl ?_ | refine Wl.pickTE rfl (by conv => { lhs; whnf }) ?_ | refine Wl.pickFE rfl (by conv => { lhs; whnf }) ?_ | refine Wl.notB rfl ?_ | refine Wl.lenS rfl ?_ | refine Wl.lenStr rfl ?_ | refine Qseq.normal ?_ | refine Wc.seq ?_ | refine Wc.region ?_ | refine Wc.block ?_ | refine Wc.skip ?_ | refine Wc.exit ?_ | refine Wc.ret ?_ | refine Qseq.exit ?_ | refine Qseq.ret ?_ | refine Wc.scope ?_ | refine Wc.label ?_ | refine Qsc.normal ?_ | refine Qsc.exit ?_ | refine Qsc.ret ?_ | refine Qblk.normal ?_ | refine Qblk.ret ?_ | refine Qblk.hit ?_ | refine Qblk.miss rfl ?_ | refine Qloop.exit ?_ | refine Qloop.ret ?_ | refine Wc.condT rfl ?_ | refine Wc.condF rfl ?_ | refine Wl.nilP rfl ?_ | refine Wl.fieldAddr rfl rfl ?_ | refine Wl.nilF rfl ?_ | refine Wl.add rfl rfl (by omega) (by omega) ?_ | refine Wl.sub rfl rfl (by omega) (by omega) ?_ | refine Wl.mul rfl rfl (by omega) (by omega) ?_ | refine Wl.convI rfl ?_ | (refine Wl.lss rfl rfl (fun _ => ?_) (fun _ => ?_) <;> (first | (exfalso; omega) | (exfalso; contradiction) | skip)) | (refine Wl.leq rfl rfl (fun _ => ?_) (fun _ => ?_) <;> (first | (exfalso; omega) | (exfalso; contradiction) | skip)) | (refine Wl.gtr rfl rfl (fun _ => ?_) (fun _ => ?_) <;> (first | (exfalso; omega) | (exfalso; contradiction) | skip)) | (refine Wl.geq rfl rfl (fun _ => ?_) (fun _ => ?_) <;> (first | (exfalso; omega) | (exfalso; contradiction) | skip)) | (refine Wl.eql rfl rfl (fun _ => ?_) (fun _ => ?_) <;> (first | (exfalso; omega) | (exfalso; contradiction) | skip)) | (refine Wl.neq rfl rfl (fun _ => ?_) (fun _ => ?_) <;> (first | (exfalso; omega) | (exfalso; contradiction) | skip)) | (refine Wl.seql rfl rfl (fun _ => ?_) (fun _ => ?_) <;> (first | (exfalso; omega) | (exfalso; contradiction) | skip)) | (refine Wl.sneq rfl rfl (fun _ => ?_) (fun _ => ?_) <;> (first | (exfalso; omega) | (exfalso; contradiction) | skip))))
    refine Wl.load1 rfl (bx.cell (o := 1) rfl) ?_
    (repeat' (first | refine Wl.moveE (by conv => { lhs; whnf }) ?_ | refine Wl.assignE (by conv => { lhs; whnf }) ?_ | refine Wl.nil ?_ | refine Wl.extract rfl rfl ?_ | refine Wl.guardY rfl rfl ?_ | refine Wl.guardN rfl rfl ?_ | refine Wl.guardU rfl ?_ | refine Wl.pickTE rfl (by conv => { lhs; whnf }) ?_ | refine Wl.pickFE rfl (by conv => { lhs; whnf }) ?_ | refine Wl.notB rfl ?_ | refine Wl.lenS rfl ?_ | refine Wl.lenStr rfl ?_ | refine Qseq.normal ?_ | refine Wc.seq ?_ | refine Wc.region ?_ | refine Wc.block ?_ | refine Wc.skip ?_ | refine Wc.exit ?_ | refine Wc.ret ?_ | refine Qseq.exit ?_ | refine Qseq.ret ?_ | refine Wc.scope ?_ | refine Wc.label ?_ | refine Qsc.normal ?_ | refine Qsc.exit ?_ | refine Qsc.ret ?_ | refine Qblk.normal ?_ | refine Qblk.ret ?_ | refine Qblk.hit ?_ | refine Qblk.miss rfl ?_ | refine Qloop.exit ?_ | refine Qloop.ret ?_ | refine Wc.condT rfl ?_ | refine Wc.condF rfl ?_ | refine Wl.nilP rfl ?_ | refine Wl.fieldAddr rfl rfl ?_ | refine Wl.nilF rfl ?_ | refine Wl.add rfl rfl (by omega) (by omega) ?_ | refine Wl.sub rfl rfl (by omega) (by omega) ?_ | refine Wl.mul rfl rfl (by omega) (by omega) ?_ | refine Wl.convI rfl ?_ | (refine Wl.lss rfl rfl (fun _ => ?_) (fun _ => ?_) <;> (first | (exfalso; omega) | (exfalso; contradiction) | skip)) | (refine Wl.leq rfl rfl (fun _ => ?_) (fun _ => ?_) <;> (first | (exfalso; omega) | (exfalso; contradiction) | skip)) | (refine Wl.gtr rfl rfl (fun _ => ?_) (fun _ => ?_) <;> (first | (exfalso; omega) | (exfalso; contradiction) | skip)) | (refine Wl.geq rfl rfl (fun _ => ?_) (fun _ => ?_) <;> (first | (exfalso; omega) | (exfalso; contradiction) | skip)) | (refine Wl.eql rfl rfl (fun _ => ?_) (fun _ => ?_) <;> (first | (exfalso; omega) | (exfalso; contradiction) | skip)) | (refine Wl.neq rfl rfl (fun _ => ?_) (fun _ => ?_) <;> (first | (exfalso; omega) | (exfalso; contradiction) | skip)) | (refine Wl.seql rfl rfl (fun _ => ?_) (fun _ => ?_) <;> (first | (exfalso; omega) | (exfalso; contradiction) | skip)) | (refine Wl.sneq rfl rfl (fun _ => ?_) (fun _ => ?_) <;> (first | (exfalso; omega) | (exfalso; contradiction) | skip))))
    · refine Wl.load1 rfl (bx.cell (o := 1) rfl) ?_
      refine Wl.call (Get_spec hgW hcw.ca) rfl ?_
      rintro r W1 ⟨hr, m1⟩
      have bx1 := bx.chg m1 (fun e => e)
      cases hq : t.get cur.ca with
      | none =>
        rw [hq] at hr
        obtain rfl := hr
        have hwf : whyF t cur.id cur = ([cur], false) := by rw [hf]; unfold whyF; rw [if_neg (by omega), hq]
        rw [hwf] at hw1 hw2
        (repeat' (first | refine Wl.moveE (by conv => { lhs; whnf }) ?_ | refine Wl.assignE (by conv => { lhs; whnf }) ?_ | refine Wl.nil ?_ | refine Wl.extract rfl rfl ?_ | refine Wl.guardY rfl rfl ?_ | refine Wl.guardN rfl rfl ?_ | refine Wl.guardU rfl ?_ | refine Wl.pickTE rfl (by conv => { lhs; whnf }) ?_ | refine Wl.pickFE rfl (by conv => { lhs; whnf }) ?_ | refine Wl.notB rfl ?_ | refine Wl.lenS rfl ?_ | refine Wl.lenStr rfl ?_ | refine Qseq.normal ?_ | refine Wc.seq ?_ | refine Wc.region ?_ | refine Wc.block ?_ | refine Wc.skip ?_ | refine Wc.exit ?_ | refine Wc.ret ?_ | refine Qseq.exit ?_ | refine Qseq.ret ?_ | refine Wc.scope ?_ | refine Wc.label ?_ | refine Qsc.normal ?_ | refine Qsc.exit ?_ | refine Qsc.ret ?_ | refine Qblk.normal ?_ | refine Qblk.ret ?_ | refine Qblk.hit ?_ | refine Qblk.miss rfl ?_ | refine Qloop.exit ?_ | refine Qloop.ret ?_ | refine Wc.condT rfl ?_ | refine Wc.condF rfl ?_ | refine Wl.nilP rfl ?_ | refine Wl.fieldAddr rfl rfl ?_ | refine Wl.nilF rfl ?_ | refine Wl.add rfl rfl (by omega) (by omega) ?_ | refine Wl.sub rfl rfl (by omega) (by omega) ?_ | refine Wl.mul rfl rfl (by omega) (by omega) ?_ | refine Wl.convI rfl ?_ | (refine Wl.lss rfl rfl (fun _ => ?_) (fun _ => ?_) <;> (first | (exfalso; omega) | (exfalso; contradiction) | skip)) | (refine Wl.leq rfl rfl (fun _ => ?_) (fun _ => ?_) <;> (first | (exfalso; omega) | (exfalso; contradiction) | skip)) | (refine Wl.gtr rfl rfl (fun _ => ?_) (fun _ => ?_) <;> (first | (exfalso; omega) | (exfalso; contradiction) | skip)) | (refine Wl.geq rfl rfl (fun _ => ?_) (fun _ => ?_) <;> (first | (exfalso; omega) | (exfalso; contradiction) | skip)) | (refine Wl.eql rfl rfl (fun _ => ?_) (fun _ => ?_) <;> (first | (exfalso; omega) | (exfalso; contradiction) | skip)) | (refine Wl.neq rfl rfl (fun _ => ?_) (fun _ => ?_) <;> (first | (exfalso; omega) | (exfalso; contradiction) | skip)) | (refine Wl.seql rfl rfl (fun _ => ?_) (fun _ => ?_) <;> (first | (exfalso; omega) | (exfalso; contradiction) | skip)) | (refine Wl.sneq rfl rfl (fun _ => ?_) (fun _ => ?_) <;> (first | (exfalso; omega) | (exfalso; contradiction) | skip))))
        refine Wl.storeB (o := 0) (new := evC ev0) bx1 rfl rfl rfl rfl (Nat.le_refl 6) (evC_one _) fun W2 bx2 m2 s2 => ?_
        have m12 : Chg (fun k => k = w1.heap.size) W W2 := Chg.trans m1.any m2 fun _ _ e => e
        (repeat' (first | refine Wl.moveE (by conv => { lhs; whnf }) ?_ | refine Wl.assignE (by conv => { lhs; whnf }) ?_ | refine Wl.nil ?_ | refine Wl.extract rfl rfl ?_ | refine Wl.guardY rfl rfl ?_ | refine Wl.guardN rfl rfl ?_ | refine Wl.guardU rfl ?_ | refine Wl.pickTE rfl (by conv => { lhs; whnf }) ?_ | refine Wl.pickFE rfl (by conv => { lhs; whnf }) ?_ | refine Wl.notB rfl ?_ | refine Wl.lenS rfl ?_ | refine Wl.lenStr rfl ?_ | refine Qseq.normal ?_ | refine Wc.seq ?_ | refine Wc.region ?_ | refine Wc.block ?_ | refine Wc.skip ?_ | refine Wc.exit ?_ | refine Wc.ret ?_ | refine Qseq.exit ?_ | refine Qseq.ret ?_ | refine Wc.scope ?_ | refine Wc.label ?_ | refine Qsc.normal ?_ | refine Qsc.exit ?_ | refine Qsc.ret ?_ | refine Qblk.normal ?_ | refine Qblk.ret ?_ | refine Qblk.hit ?_ | refine Qblk.miss rfl ?_ | refine Qloop.exit ?_ | refine Qloop.ret ?_ | refine Wc.condT rfl ?_ | refine Wc.condF rfl ?_ | refine Wl.nilP rfl ?_ | refine Wl.fieldAddr rfl rfl ?_ | refine Wl.nilF rfl ?_ | refine Wl.add rfl rfl (by omega) (by omega) ?_ | refine Wl.sub rfl rfl (by omega) (by omega) ?_ | refine Wl.mul rfl rfl (by omega) (by omega) ?_ | refine Wl.convI rfl ?_ | (refine Wl.lss rfl rfl (fun _ => ?_) (fun _ => ?_) <;> (first | (exfalso; omega) | (exfalso; contradiction) | skip)) | (refine Wl.leq rfl rfl (fun _ => ?_) (fun _ => ?_) <;> (first | (exfalso; omega) | (exfalso; contradiction) | skip)) | (refine Wl.gtr rfl rfl (fun _ => ?_) (fun _ => ?_) <;> (first | (exfalso; omega) | (exfalso; contradiction) | skip)) | (refine Wl.geq rfl rfl (fun _ => ?_) (fun _ => ?_) <;> (first | (exfalso; omega) | (exfalso; contradiction) | skip)) | (refine Wl.eql rfl rfl (fun _ => ?_) (fun _ => ?_) <;> (first | (exfalso; omega) | (exfalso; contradiction) | skip)) | (refine Wl.neq rfl rfl (fun _ => ?_) (fun _ => ?_) <;> (first | (exfalso; omega) | (exfalso; contradiction) | skip)) | (refine Wl.seql rfl rfl (fun _ => ?_) (fun _ => ?_) <;> (first | (exfalso; omega) | (exfalso; contradiction) | skip)) | (refine Wl.sneq rfl rfl (fun _ => ?_) (fun _ => ?_) <;> (first | (exfalso; omega) | (exfalso; contradiction) | skip))))
        rw [hw1, hw2]
        exact Qfn.ret3 rfl rfl rfl rfl ⟨_, rfl, _, rfl, (ov.chg (plain_flat _) m12 fun k hk e => by have := (ov.lt hk).1; omega).mono goodEv.mo (fun k _ e => by omega) (fun _ _ e => e), Chg.trans nW m12 fun k hk e => by omega⟩
      | some y =>
        rw [hq] at hr
        obtain rfl := hr
        obtain ⟨hyid, hym, _, _, _⟩ := hok.get hq
        have hwf : whyF t cur.id cur = (cur :: (whyF t y.id y).1, (whyF t y.id y).2) := by
          rw [hf]
          conv => lhs; unfold whyF
          rw [if_neg (by omega), hq]
          dsimp only
          rw [whyF_fuel hok f y.id y hym (by omega) (Nat.le_refl _)]
        rw [hwf] at hw1 hw2
        (repeat' (first | refine Wl.moveE (by conv => { lhs; whnf }) ?_ | refine Wl.assignE (by conv => { lhs; whnf }) ?_ | refine Wl.nil ?_ | refine Wl.extract rfl rfl ?_ | refine Wl.guardY rfl rfl ?_ | refine Wl.guardN rfl rfl ?_ | refine Wl.guardU rfl ?_ | refine Wl.pickTE rfl (by conv => { lhs; whnf }) ?_ | refine Wl.pickFE rfl (by conv => { lhs; whnf }) ?_ | refine Wl.notB rfl ?_ | refine Wl.lenS rfl ?_ | refine Wl.lenStr rfl ?_ | refine Qseq.normal ?_ | refine Wc.seq ?_ | refine Wc.region ?_ | refine Wc.block ?_ | refine Wc.skip ?_ | refine Wc.exit ?_ | refine Wc.ret ?_ | refine Qseq.exit ?_ | refine Qseq.ret ?_ | refine Wc.scope ?_ | refine Wc.label ?_ | refine Qsc.normal ?_ | refine Qsc.exit ?_ | refine Qsc.ret ?_ | refine Qblk.normal ?_ | refine Qblk.ret ?_ | refine Qblk.hit ?_ | refine Qblk.miss rfl ?_ | refine Qloop.exit ?_ | refine Qloop.ret ?_ | refine Wc.condT rfl ?_ | refine Wc.condF rfl ?_ | refine Wl.nilP rfl ?_ | refine Wl.fieldAddr rfl rfl ?_ | refine Wl.nilF rfl ?_ | refine Wl.add rfl rfl (by omega) (by omega) ?_ | refine Wl.sub rfl rfl (by omega) (by omega) ?_ | refine Wl.mul rfl rfl (by omega) (by omega) ?_ | refine Wl.convI rfl ?_ | (refine Wl.lss rfl rfl (fun _ => ?_) (fun _ => ?_) <;> (first | (exfalso; omega) | (exfalso; contradiction) | skip)) | (refine Wl.leq rfl rfl (fun _ => ?_) (fun _ => ?_) <;> (first | (exfalso; omega) | (exfalso; contradiction) | skip)) | (refine Wl.gtr rfl rfl (fun _ => ?_) (fun _ => ?_) <;> (first | (exfalso; omega) | (exfalso; contradiction) | skip)) | (refine Wl.geq rfl rfl (fun _ => ?_) (fun _ => ?_) <;> (first | (exfalso; omega) | (exfalso; contradiction) | skip)) | (refine Wl.eql rfl rfl (fun _ => ?_) (fun _ => ?_) <;> (first | (exfalso; omega) | (exfalso; contradiction) | skip)) | (refine Wl.neq rfl rfl (fun _ => ?_) (fun _ => ?_) <;> (first | (exfalso; omega) | (exfalso; contradiction) | skip)) | (refine Wl.seql rfl rfl (fun _ => ?_) (fun _ => ?_) <;> (first | (exfalso; omega) | (exfalso; contradiction) | skip)) | (refine Wl.sneq rfl rfl (fun _ => ?_) (fun _ => ?_) <;> (first | (exfalso; omega) | (exfalso; contradiction) | skip))))
        refine Wl.storeB (o := 0) (new := evC y) bx1 rfl rfl rfl rfl (Nat.le_refl 6) (evC_one _) fun W2 bx2 m2 s2 => ?_
        replace bx2 : Bk W2 w1.heap.size 36 (evC y) := bx2
        have m12 : Chg (fun k => k = w1.heap.size) W W2 := Chg.trans m1.any m2 fun _ _ e => e
        have ov2 := ov.chg (plain_flat _) m12 fun k hk e => by have := (ov.lt hk).1; omega
        have nW2 : New w W2 := Chg.trans nW m12 fun k hk e => by omega
        have zW2 := m12.size
        (repeat' (first | refine Wl.moveE (by conv => { lhs; whnf }) ?_ | refine Wl.assignE (by conv => { lhs; whnf }) ?_ | refine Wl.nil ?_ | refine Wl.extract rfl rfl ?_ | refine Wl.guardY rfl rfl ?_ | refine Wl.guardN rfl rfl ?_ | refine Wl.guardU rfl ?_ | refine Wl.pickTE rfl (by conv => { lhs; whnf }) ?_ | refine Wl.pickFE rfl (by conv => { lhs; whnf }) ?_ | refine Wl.notB rfl ?_ | refine Wl.lenS rfl ?_ | refine Wl.lenStr rfl ?_ | refine Qseq.normal ?_ | refine Wc.seq ?_ | refine Wc.region ?_ | refine Wc.block ?_ | refine Wc.skip ?_ | refine Wc.exit ?_ | refine Wc.ret ?_ | refine Qseq.exit ?_ | refine Qseq.ret ?_ | refine Wc.scope ?_ | refine Wc.label ?_ | refine Qsc.normal ?_ | refine Qsc.exit ?_ | refine Qsc.ret ?_ | refine Qblk.normal ?_ | refine Qblk.ret ?_ | refine Qblk.hit ?_ | refine Qblk.miss rfl ?_ | refine Qloop.exit ?_ | refine Qloop.ret ?_ | refine Wc.condT rfl ?_ | refine Wc.condF rfl ?_ | refine Wl.nilP rfl ?_ | refine Wl.fieldAddr rfl rfl ?_ | refine Wl.nilF rfl ?_ | refine Wl.add rfl rfl (by omega) (by omega) ?_ | refine Wl.sub rfl rfl (by omega) (by omega) ?_ | refine Wl.mul rfl rfl (by omega) (by omega) ?_ | refine Wl.convI rfl ?_ | (refine Wl.lss rfl rfl (fun _ => ?_) (fun _ => ?_) <;> (first | (exfalso; omega) | (exfalso; contradiction) | skip)) | (refine Wl.leq rfl rfl (fun _ => ?_) (fun _ => ?_) <;> (first | (exfalso; omega) | (exfalso; contradiction) | skip)) | (refine Wl.gtr rfl rfl (fun _ => ?_) (fun _ => ?_) <;> (first | (exfalso; omega) | (exfalso; contradiction) | skip)) | (refine Wl.geq rfl rfl (fun _ => ?_) (fun _ => ?_) <;> (first | (exfalso; omega) | (exfalso; contradiction) | skip)) | (refine Wl.eql rfl rfl (fun _ => ?_) (fun _ => ?_) <;> (first | (exfalso; omega) | (exfalso; contradiction) | skip)) | (refine Wl.neq rfl rfl (fun _ => ?_) (fun _ => ?_) <;> (first | (exfalso; omega) | (exfalso; contradiction) | skip)) | (refine Wl.seql rfl rfl (fun _ => ?_) (fun _ => ?_) <;> (first | (exfalso; omega) | (exfalso; contradiction) | skip)) | (refine Wl.sneq rfl rfl (fun _ => ?_) (fun _ => ?_) <;> (first | (exfalso; omega) | (exfalso; contradiction) | skip))))
        refine Wl.loadB bx2 rfl rfl ?_
        refine Wl.append1 (y := y) goodEv ov2 rfl rfl rfl rfl rfl (by omega) (by omega) (by simp only [maxLen, List.length_append, List.length_singleton]; omega) (by simp only [List.length_append, List.length_singleton]; omega) rfl rfl fun v' W3 p ov3 m3 lie => ?_
        have e2 := bx2.lt
        (repeat' (first | refine Wl.moveE (by conv => { lhs; whnf }) ?_ | refine Wl.assignE (by conv => { lhs; whnf }) ?_ | refine Wl.nil ?_ | refine Wl.extract rfl rfl ?_ | refine Wl.guardY rfl rfl ?_ | refine Wl.guardN rfl rfl ?_ | refine Wl.guardU rfl ?_ | refine Wl.pickTE rfl (by conv => { lhs; whnf }) ?_ | refine Wl.pickFE rfl (by conv => { lhs; whnf }) ?_ | refine Wl.notB rfl ?_ | refine Wl.lenS rfl ?_ | refine Wl.lenStr rfl ?_ | refine Qseq.normal ?_ | refine Wc.seq ?_ | refine Wc.region ?_ | refine Wc.block ?_ | refine Wc.skip ?_ | refine Wc.exit ?_ | refine Wc.ret ?_ | refine Qseq.exit ?_ | refine Qseq.ret ?_ | refine Wc.scope ?_ | refine Wc.label ?_ | refine Qsc.normal ?_ | refine Qsc.exit ?_ | refine Qsc.ret ?_ | refine Qblk.normal ?_ | refine Qblk.ret ?_ | refine Qblk.hit ?_ | refine Qblk.miss rfl ?_ | refine Qloop.exit ?_ | refine Qloop.ret ?_ | refine Wc.condT rfl ?_ | refine Wc.condF rfl ?_ | refine Wl.nilP rfl ?_ | refine Wl.fieldAddr rfl rfl ?_ | refine Wl.nilF rfl ?_ | refine Wl.add rfl rfl (by omega) (by omega) ?_ | refine Wl.sub rfl rfl (by omega) (by omega) ?_ | refine Wl.mul rfl rfl (by omega) (by omega) ?_ | refine Wl.convI rfl ?_ | (refine Wl.lss rfl rfl (fun _ => ?_) (fun _ => ?_) <;> (first | (exfalso; omega) | (exfalso; contradiction) | skip)) | (refine Wl.leq rfl rfl (fun _ => ?_) (fun _ => ?_) <;> (first | (exfalso; omega) | (exfalso; contradiction) | skip)) | (refine Wl.gtr rfl rfl (fun _ => ?_) (fun _ => ?_) <;> (first | (exfalso; omega) | (exfalso; contradiction) | skip)) | (refine Wl.geq rfl rfl (fun _ => ?_) (fun _ => ?_) <;> (first | (exfalso; omega) | (exfalso; contradiction) | skip)) | (refine Wl.eql rfl rfl (fun _ => ?_) (fun _ => ?_) <;> (first | (exfalso; omega) | (exfalso; contradiction) | skip)) | (refine Wl.neq rfl rfl (fun _ => ?_) (fun _ => ?_) <;> (first | (exfalso; omega) | (exfalso; contradiction) | skip)) | (refine Wl.seql rfl rfl (fun _ => ?_) (fun _ => ?_) <;> (first | (exfalso; omega) | (exfalso; contradiction) | skip)) | (refine Wl.sneq rfl rfl (fun _ => ?_) (fun _ => ?_) <;> (first | (exfalso; omega) | (exfalso; contradiction) | skip))))
        exact Qloop.normal (v', acc ++ [cur], y) ⟨rfl, rfl, rfl, trivial⟩ ⟨Chg.trans nW2 m3 fun k hk e => by have := (ov2.lt e).1; omega, bx2.chg m3 fun e => by have := (ov2.lt e).1; omega, ov3.mono goodEv.mo (fun k _ e => by rcases e with e | e <;> omega) (fun _ _ e => e), hym,
          by dsimp only; rw [hw1, List.append_assoc]; rfl, hw2, by dsimp only; rw [List.length_append, List.length_singleton]; omega⟩ (by dsimp only; omega)
    · have hwf : whyF t cur.id cur = ([cur], true) := by rw [hf]; unfold whyF; rw [if_pos (by omega)]
      rw [hwf] at hw1 hw2
      rw [hw1, hw2]
      exact Qfn.ret3 rfl rfl rfl rfl ⟨_, rfl, _, rfl, ov.mono goodEv.mo (fun k _ e => by omega) (fun _ _ e => e), nW⟩
end Go.Proofs.YtjaendlcijmifaaDoor

namespace Go.Proofs.YtjaendlcijmifaaDoor
open Go Wk
open Go.RowKit (Below)
attribute [local irreducible] Go.Calls

section
variable {P : Program} {n : Nat} {ds : List Deferred} {Q : Po} {F : Fr} {w : World} {ops rest : List Oper} {d : Nat} {ty : TypeId} {pos : String} {aft : Array Edge}
theorem Wk.Wl.mapIns {x i y : Operand} {t k e : TypeId} {b : Nat} {l : List (Value × Value)} {key u : Value} {q : Lit} [ht : Und P t (.map k e)] (Kd : Maps.Keyed P k) (h : MapL P k w b l) (hq : keyOf P k key = some q) (hn : ∀ p ∈ l, p.1 ≠ key)
    (hx : ev n F x = .map (some b)) (hi : ev n F i = key) (hy : ev n F y = u) (c : ∀ w', MapL P k w' b (l ++ [(key, u)]) → Chg (fun j => j = b) w w' → w'.heap.size = w.heap.size → Wl P n ds Q ops rest F w') :
    Wl P n ds Q ops (⟨none, .insert t x i y, ty, pos, aft, none⟩ :: rest) F w := by
  have hlt := h.lt
  obtain ⟨es, clock, hh, rfl, hk⟩ := h
  have hg := run_getObj_map (P := P) w b es clock hh
  rcases Kd.find w hq es.toList hk with ⟨hf, _⟩ | ⟨j, e0, hf, hj, rfl⟩
  · have h1 : (w.heap.setIfInBounds b (.map (es.push { key, val := u, born := clock }) (clock + 1)))[b]? = some (.map (es.push { key, val := u, born := clock }) (clock + 1)) := by simp [Array.getElem?_setIfInBounds, hlt]
    have hset : (setObj b (.map (es.push { key, val := u, born := clock }) (clock + 1))).run P w = .ok () { w with heap := w.heap.setIfInBounds b (.map (es.push { key, val := u, born := clock }) (clock + 1)) } := by simp [setObj, Sem.run, hh]
    refine Wl.unit (w' := { w with heap := w.heap.setIfInBounds b (.map (es.push { key, val := u, born := clock }) (clock + 1)) }) ?_ (c _ ⟨_, _, h1, by simp, fun e he => ?_⟩ ⟨rfl, rfl, rfl, by simp, fun j _ hj => Array.getElem?_setIfInBounds_ne (Ne.symm hj)⟩ (by simp))
    · simp [execOp, hx, hi, hy, Instr.mapUpdate, run_underlying ht.h, hg, Kd.check w _ hq, hf, hset]
    · simp only [Array.toList_push, List.mem_append, List.mem_singleton] at he
      rcases he with he | rfl
      · exact hk e he
      · exact ⟨q, hq⟩
  · exfalso
    have hm := List.mem_of_getElem? hj
    exact hn (e0.key, e0.val) (List.mem_map.2 ⟨e0, hm, rfl⟩) rfl
end
/-- Those that one has led to. -/
def ledS (id : Nat) (l : List Ev) : List Nat := l.foldl (fun out x => if (id :: out).contains x.ca then out ++ [x.id] else out) []
def ledM (t : Tr) (id : Nat) : List Nat × Int := match t.get id with
  | none => ([], 6)
  | some _ => (ledS id t.kept, 0)
theorem ledS_snoc {id : Nat} {l : List Ev} {k : Nat} {y : Ev} (h : l[k]? = some y) : ledS id (l.take (k + 1)) = if (id :: ledS id (l.take k)).contains y.ca then ledS id (l.take k) ++ [y.id] else ledS id (l.take k) := by
  unfold ledS
  rw [take_snoc' h, List.foldl_append]; rfl
theorem ledS_inv {t : Tr} (h : TrOk t) (id : Nat) : ∀ k : Nat, k ≤ t.kept.length → (∀ z ∈ ledS id (t.kept.take k), id < z ∧ z ≤ t.gone + k) ∧ (ledS id (t.kept.take k)).length ≤ k
  | 0, _ => ⟨fun z hz => by simp [ledS] at hz, by simp [ledS]⟩
  | k + 1, hk => by
    obtain ⟨y, hy⟩ := get_lt t.kept (k := k) (by omega)
    obtain ⟨ih, il⟩ := ledS_inv h id k (by omega)
    have hi := h.ids k y hy
    have hc := h.cas y (List.mem_of_getElem? hy)
    rw [ledS_snoc hy]
    split
    · rename_i hm
      refine ⟨fun z hz => ?_, by rw [List.length_append, List.length_singleton]; omega⟩
      rcases List.mem_append.1 hz with hz | hz
      · have := ih z hz; omega
      · rw [List.mem_singleton.1 hz]
        rcases List.mem_cons.1 (List.contains_iff_mem.1 hm) with e | e
        · omega
        · have := ih _ e; omega
    · exact ⟨fun z hz => by have := ih z hz; omega, by omega⟩
abbrev u64V : Nat → Value := fun i => .int .u64 i
theorem goodU : GoodR (one u64V) 1 := good_one _ fun _ => rfl
def mp (S : List Nat) : List (Value × Value) := S.map fun i => (u64V i, vi 1)
theorem kU : Maps.Keyed Tryd.prog 27 := Maps.int_keyed Tryd.underlying27
theorem keyU {i : Nat} (h : i < 18446744073709551616) : keyOf Tryd.prog 27 (u64V i) = some (.int .u64 i) :=
  Maps.keyOf_int_mk Tryd.underlying27 (by simp [Lit.wf, IntKind.min, IntKind.max, IntKind.signed, IntKind.bits]; omega)
theorem u64V_inj {i j : Nat} (h : u64V i = u64V j) : i = j := by
  simp only [u64V, Value.int.injEq, true_and] at h; omega
theorem mp_in {S : List Nat} {i : Nat} {r z : Value} (h : (u64V i, r) ∈ mp S ∨ r = z ∧ ∀ p ∈ mp S, p.1 ≠ u64V i) : (i ∈ S ∧ r = vi 1) ∨ (i ∉ S ∧ r = z) := by
  rcases h with h | ⟨h1, h2⟩
  · obtain ⟨j, hj, he⟩ := List.mem_map.1 h
    rw [Prod.mk.injEq] at he
    rw [← u64V_inj he.1]
    exact .inl ⟨hj, he.2.symm⟩
  · exact .inr ⟨fun hi => h2 _ (List.mem_map.2 ⟨i, hi, rfl⟩) rfl, h1⟩
theorem mp_not {S : List Nat} {i : Nat} (h : i ∉ S) : ∀ p ∈ mp S, p.1 ≠ u64V i := by
  intro p hp he
  obtain ⟨j, hj, rfl⟩ := List.mem_map.1 hp
  exact h (u64V_inj he ▸ hj)
theorem mp_snoc (S : List Nat) (i : Nat) : mp S ++ [(u64V i, vi 1)] = mp (S ++ [i]) := by simp [mp]
set_option maxHeartbeats 2000000 in
theorem Led_spec {Pb : Nat → Prop} {w : World} {b : Nat} {t : Tr} {id : Nat} (h : Rg Pb w b t) (hid : id < 18446744073709551616) :
    Calls Tryd.prog 17 #[pT b, .int .u64 id] w (Ret fun r w' => ∃ v, r = .tuple #[v, vi (ledM t id).2] ∧ OwnS (one u64V) 27 1 (fun k => w.heap.size ≤ k) No w' v (ledM t id).1 ∧ New w w') := by
  have hok := h.ok
  have hlast := hok.last
  refine calls_of_Wd Tryd.func17 rfl Tryd.ntmps17 rfl ?_
  (repeat' (first | refine Wl.moveE (by conv => { lhs; whnf }) ?_ | refine Wl.assignE (by conv => { lhs; whnf }) ?_ | refine Wl.nil ?_ | refine Wl.extract rfl rfl ?_ | refine Wl.guardY rfl rfl ?_ | refine Wl.guardN rfl rfl ?_ | refine Wl.guardU rfl ?_ | refine Wl.pickTE rfl (by conv => { lhs; whnf }) ?_ | refine Wl.pickFE rfl (by conv => { lhs; whnf }) ?_ | refine Wl.notB rfl ?_ | refine Wl.lenS rfl ?_ | refine Wl.lenStr rfl ?_ | refine Wd.seq ?_ | refine Wd.block ?_ | refine Wd.condT rfl ?_ | refine Wd.condF rfl ?_ | refine Qds.normal ?_ | refine Qds.exit ?_ | refine Qds.ret ?_ | refine Qdb.normal ?_ | refine Qdb.ret ?_ | refine Qdb.hit ?_ | refine Qdb.miss rfl ?_ | refine Qdn.e ?_ | refine Wd.region ?_ | refine Wd.skip ?_ | refine Wd.exit ?_ | refine Wd.ret ?_ | refine Wl.nilP rfl ?_ | refine Wl.fieldAddr rfl rfl ?_ | refine Wl.nilF rfl ?_ | refine Wl.add rfl rfl (by omega) (by omega) ?_ | refine Wl.sub rfl rfl (by omega) (by omega) ?_ | refine Wl.mul rfl rfl (by omega) (by omega) ?_ | refine Wl.convI rfl ?_ | (refine Wl.lss rfl rfl (fun _ => ?_) (fun _ => ?_) <;> (first | (exfalso; omega) | (exfalso; contradiction) | skip)) | (refine Wl.leq rfl rfl (fun _ => ?_) (fun _ => ?_) <;> (first | (exfalso; omega) | (exfalso; contradiction) | skip)) | (refine Wl.gtr rfl rfl (fun _ => ?_) (fun _ => ?_) <;> (first | (exfalso; omega) | (exfalso; contradiction) | skip)) | (refine Wl.geq rfl rfl (fun _ => ?_) (fun _ => ?_) <;> (first | (exfalso; omega) | (exfalso; contradiction) | skip)) | (refine Wl.eql rfl rfl (fun _ => ?_) (fun _ => ?_) <;> (first | (exfalso; omega) | (exfalso; contradiction) | skip)) | (refine Wl.neq rfl rfl (fun _ => ?_) (fun _ => ?_) <;> (first | (exfalso; omega) | (exfalso; contradiction) | skip)) | (refine Wl.seql rfl rfl (fun _ => ?_) (fun _ => ?_) <;> (first | (exfalso; omega) | (exfalso; contradiction) | skip)) | (refine Wl.sneq rfl rfl (fun _ => ?_) (fun _ => ?_) <;> (first | (exfalso; omega) | (exfalso; contradiction) | skip))))
  refine Wl.call (Get_spec h hid) rfl ?_
  rintro r w1 ⟨hr, n1⟩
  cases hg : t.get id with
  | none =>
    rw [hg] at hr
    obtain rfl := hr
    have hm : ledM t id = ([], 6) := by unfold ledM; rw [hg]
    rw [hm]
    (repeat' (first | refine Wl.moveE (by conv => { lhs; whnf }) ?_ | refine Wl.assignE (by conv => { lhs; whnf }) ?_ | refine Wl.nil ?_ | refine Wl.extract rfl rfl ?_ | refine Wl.guardY rfl rfl ?_ | refine Wl.guardN rfl rfl ?_ | refine Wl.guardU rfl ?_ | refine Wl.pickTE rfl (by conv => { lhs; whnf }) ?_ | refine Wl.pickFE rfl (by conv => { lhs; whnf }) ?_ | refine Wl.notB rfl ?_ | refine Wl.lenS rfl ?_ | refine Wl.lenStr rfl ?_ | refine Wd.seq ?_ | refine Wd.block ?_ | refine Wd.condT rfl ?_ | refine Wd.condF rfl ?_ | refine Qds.normal ?_ | refine Qds.exit ?_ | refine Qds.ret ?_ | refine Qdb.normal ?_ | refine Qdb.ret ?_ | refine Qdb.hit ?_ | refine Qdb.miss rfl ?_ | refine Qdn.e ?_ | refine Wd.region ?_ | refine Wd.skip ?_ | refine Wd.exit ?_ | refine Wd.ret ?_ | refine Wl.nilP rfl ?_ | refine Wl.fieldAddr rfl rfl ?_ | refine Wl.nilF rfl ?_ | refine Wl.add rfl rfl (by omega) (by omega) ?_ | refine Wl.sub rfl rfl (by omega) (by omega) ?_ | refine Wl.mul rfl rfl (by omega) (by omega) ?_ | refine Wl.convI rfl ?_ | (refine Wl.lss rfl rfl (fun _ => ?_) (fun _ => ?_) <;> (first | (exfalso; omega) | (exfalso; contradiction) | skip)) | (refine Wl.leq rfl rfl (fun _ => ?_) (fun _ => ?_) <;> (first | (exfalso; omega) | (exfalso; contradiction) | skip)) | (refine Wl.gtr rfl rfl (fun _ => ?_) (fun _ => ?_) <;> (first | (exfalso; omega) | (exfalso; contradiction) | skip)) | (refine Wl.geq rfl rfl (fun _ => ?_) (fun _ => ?_) <;> (first | (exfalso; omega) | (exfalso; contradiction) | skip)) | (refine Wl.eql rfl rfl (fun _ => ?_) (fun _ => ?_) <;> (first | (exfalso; omega) | (exfalso; contradiction) | skip)) | (refine Wl.neq rfl rfl (fun _ => ?_) (fun _ => ?_) <;> (first | (exfalso; omega) | (exfalso; contradiction) | skip)) | (refine Wl.seql rfl rfl (fun _ => ?_) (fun _ => ?_) <;> (first | (exfalso; omega) | (exfalso; contradiction) | skip)) | (refine Wl.sneq rfl rfl (fun _ => ?_) (fun _ => ?_) <;> (first | (exfalso; omega) | (exfalso; contradiction) | skip))))
    refine Wl.alloc fun w2 b2 n2 s2 => ?_
    refine Wl.storeB (o := 0) (new := evC ev0) b2 rfl rfl rfl rfl (by decide) (evC_one _) fun w3 b3 c3 s3 => ?_
    have n3 : New w1 w3 := Chg.trans n2 c3 fun _ _ e => by omega
    (repeat' (first | refine Wl.moveE (by conv => { lhs; whnf }) ?_ | refine Wl.assignE (by conv => { lhs; whnf }) ?_ | refine Wl.nil ?_ | refine Wl.extract rfl rfl ?_ | refine Wl.guardY rfl rfl ?_ | refine Wl.guardN rfl rfl ?_ | refine Wl.guardU rfl ?_ | refine Wl.pickTE rfl (by conv => { lhs; whnf }) ?_ | refine Wl.pickFE rfl (by conv => { lhs; whnf }) ?_ | refine Wl.notB rfl ?_ | refine Wl.lenS rfl ?_ | refine Wl.lenStr rfl ?_ | refine Wd.seq ?_ | refine Wd.block ?_ | refine Wd.condT rfl ?_ | refine Wd.condF rfl ?_ | refine Qds.normal ?_ | refine Qds.exit ?_ | refine Qds.ret ?_ | refine Qdb.normal ?_ | refine Qdb.ret ?_ | refine Qdb.hit ?_ | refine Qdb.miss rfl ?_ | refine Qdn.e ?_ | refine Wd.region ?_ | refine Wd.skip ?_ | refine Wd.exit ?_ | refine Wd.ret ?_ | refine Wl.nilP rfl ?_ | refine Wl.fieldAddr rfl rfl ?_ | refine Wl.nilF rfl ?_ | refine Wl.add rfl rfl (by omega) (by omega) ?_ | refine Wl.sub rfl rfl (by omega) (by omega) ?_ | refine Wl.mul rfl rfl (by omega) (by omega) ?_ | refine Wl.convI rfl ?_ | (refine Wl.lss rfl rfl (fun _ => ?_) (fun _ => ?_) <;> (first | (exfalso; omega) | (exfalso; contradiction) | skip)) | (refine Wl.leq rfl rfl (fun _ => ?_) (fun _ => ?_) <;> (first | (exfalso; omega) | (exfalso; contradiction) | skip)) | (refine Wl.gtr rfl rfl (fun _ => ?_) (fun _ => ?_) <;> (first | (exfalso; omega) | (exfalso; contradiction) | skip)) | (refine Wl.geq rfl rfl (fun _ => ?_) (fun _ => ?_) <;> (first | (exfalso; omega) | (exfalso; contradiction) | skip)) | (refine Wl.eql rfl rfl (fun _ => ?_) (fun _ => ?_) <;> (first | (exfalso; omega) | (exfalso; contradiction) | skip)) | (refine Wl.neq rfl rfl (fun _ => ?_) (fun _ => ?_) <;> (first | (exfalso; omega) | (exfalso; contradiction) | skip)) | (refine Wl.seql rfl rfl (fun _ => ?_) (fun _ => ?_) <;> (first | (exfalso; omega) | (exfalso; contradiction) | skip)) | (refine Wl.sneq rfl rfl (fun _ => ?_) (fun _ => ?_) <;> (first | (exfalso; omega) | (exfalso; contradiction) | skip))))
    exact Lv.ret (results2 rfl (rvOf_tmp rfl) (rvOf_tmp rfl)) ⟨_, rfl, _, rfl, OwnS.nil, n1.trans n3⟩
  | some x =>
    rw [hg] at hr
    obtain rfl := hr
    have hm : ledM t id = (ledS id t.kept, 0) := by unfold ledM; rw [hg]
    rw [hm]
    (repeat' (first | refine Wl.moveE (by conv => { lhs; whnf }) ?_ | refine Wl.assignE (by conv => { lhs; whnf }) ?_ | refine Wl.nil ?_ | refine Wl.extract rfl rfl ?_ | refine Wl.guardY rfl rfl ?_ | refine Wl.guardN rfl rfl ?_ | refine Wl.guardU rfl ?_ | refine Wl.pickTE rfl (by conv => { lhs; whnf }) ?_ | refine Wl.pickFE rfl (by conv => { lhs; whnf }) ?_ | refine Wl.notB rfl ?_ | refine Wl.lenS rfl ?_ | refine Wl.lenStr rfl ?_ | refine Wd.seq ?_ | refine Wd.block ?_ | refine Wd.condT rfl ?_ | refine Wd.condF rfl ?_ | refine Qds.normal ?_ | refine Qds.exit ?_ | refine Qds.ret ?_ | refine Qdb.normal ?_ | refine Qdb.ret ?_ | refine Qdb.hit ?_ | refine Qdb.miss rfl ?_ | refine Qdn.e ?_ | refine Wd.region ?_ | refine Wd.skip ?_ | refine Wd.exit ?_ | refine Wd.ret ?_ | refine Wl.nilP rfl ?_ | refine Wl.fieldAddr rfl rfl ?_ | refine Wl.nilF rfl ?_ | refine Wl.add rfl rfl (by omega) (by omega) ?_ | refine Wl.sub rfl rfl (by omega) (by omega) ?_ | refine Wl.mul rfl rfl (by omega) (by omega) ?_ | refine Wl.convI rfl ?_ | (refine Wl.lss rfl rfl (fun _ => ?_) (fun _ => ?_) <;> (first | (exfalso; omega) | (exfalso; contradiction) | skip)) | (refine Wl.leq rfl rfl (fun _ => ?_) (fun _ => ?_) <;> (first | (exfalso; omega) | (exfalso; contradiction) | skip)) | (refine Wl.gtr rfl rfl (fun _ => ?_) (fun _ => ?_) <;> (first | (exfalso; omega) | (exfalso; contradiction) | skip)) | (refine Wl.geq rfl rfl (fun _ => ?_) (fun _ => ?_) <;> (first | (exfalso; omega) | (exfalso; contradiction) | skip)) | (refine Wl.eql rfl rfl (fun _ => ?_) (fun _ => ?_) <;> (first | (exfalso; omega) | (exfalso; contradiction) | skip)) | (refine Wl.neq rfl rfl (fun _ => ?_) (fun _ => ?_) <;> (first | (exfalso; omega) | (exfalso; contradiction) | skip)) | (refine Wl.seql rfl rfl (fun _ => ?_) (fun _ => ?_) <;> (first | (exfalso; omega) | (exfalso; contradiction) | skip)) | (refine Wl.sneq rfl rfl (fun _ => ?_) (fun _ => ?_) <;> (first | (exfalso; omega) | (exfalso; contradiction) | skip))))
    refine Wl.alloc fun w2 b2 n2 s2 => ?_
    refine Wl.storeB (o := 0) (new := evC x) b2 rfl rfl rfl rfl (Nat.le_refl 6) (evC_one _) fun w3 b3 c3 s3 => ?_
    have n3 : New w1 w3 := Chg.trans n2 c3 fun _ _ e => by omega
    have z1 := n1.size
    have z3 := n3.size
    clear b2 n2 b3 c3 s2 s3
    (repeat' (first | refine Wl.moveE (by conv => { lhs; whnf }) ?_ | refine Wl.assignE (by conv => { lhs; whnf }) ?_ | refine Wl.nil ?_ | refine Wl.extract rfl rfl ?_ | refine Wl.guardY rfl rfl ?_ | refine Wl.guardN rfl rfl ?_ | refine Wl.guardU rfl ?_ | refine Wl.pickTE rfl (by conv => { lhs; whnf }) ?_ | refine Wl.pickFE rfl (by conv => { lhs; whnf }) ?_ | refine Wl.notB rfl ?_ | refine Wl.lenS rfl ?_ | refine Wl.lenStr rfl ?_ | refine Wd.seq ?_ | refine Wd.block ?_ | refine Wd.condT rfl ?_ | refine Wd.condF rfl ?_ | refine Qds.normal ?_ | refine Qds.exit ?_ | refine Qds.ret ?_ | refine Qdb.normal ?_ | refine Qdb.ret ?_ | refine Qdb.hit ?_ | refine Qdb.miss rfl ?_ | refine Qdn.e ?_ | refine Wd.region ?_ | refine Wd.skip ?_ | refine Wd.exit ?_ | refine Wd.ret ?_ | refine Wl.nilP rfl ?_ | refine Wl.fieldAddr rfl rfl ?_ | refine Wl.nilF rfl ?_ | refine Wl.add rfl rfl (by omega) (by omega) ?_ | refine Wl.sub rfl rfl (by omega) (by omega) ?_ | refine Wl.mul rfl rfl (by omega) (by omega) ?_ | refine Wl.convI rfl ?_ | (refine Wl.lss rfl rfl (fun _ => ?_) (fun _ => ?_) <;> (first | (exfalso; omega) | (exfalso; contradiction) | skip)) | (refine Wl.leq rfl rfl (fun _ => ?_) (fun _ => ?_) <;> (first | (exfalso; omega) | (exfalso; contradiction) | skip)) | (refine Wl.gtr rfl rfl (fun _ => ?_) (fun _ => ?_) <;> (first | (exfalso; omega) | (exfalso; contradiction) | skip)) | (refine Wl.geq rfl rfl (fun _ => ?_) (fun _ => ?_) <;> (first | (exfalso; omega) | (exfalso; contradiction) | skip)) | (refine Wl.eql rfl rfl (fun _ => ?_) (fun _ => ?_) <;> (first | (exfalso; omega) | (exfalso; contradiction) | skip)) | (refine Wl.neq rfl rfl (fun _ => ?_) (fun _ => ?_) <;> (first | (exfalso; omega) | (exfalso; contradiction) | skip)) | (refine Wl.seql rfl rfl (fun _ => ?_) (fun _ => ?_) <;> (first | (exfalso; omega) | (exfalso; contradiction) | skip)) | (refine Wl.sneq rfl rfl (fun _ => ?_) (fun _ => ?_) <;> (first | (exfalso; omega) | (exfalso; contradiction) | skip))))
    refine Wl.makeMap (k := 27) fun w4 m4 n4 s4 => ?_
    (repeat' (first | refine Wl.moveE (by conv => { lhs; whnf }) ?_ | refine Wl.assignE (by conv => { lhs; whnf }) ?_ | refine Wl.nil ?_ | refine Wl.extract rfl rfl ?_ | refine Wl.guardY rfl rfl ?_ | refine Wl.guardN rfl rfl ?_ | refine Wl.guardU rfl ?_ | refine Wl.pickTE rfl (by conv => { lhs; whnf }) ?_ | refine Wl.pickFE rfl (by conv => { lhs; whnf }) ?_ | refine Wl.notB rfl ?_ | refine Wl.lenS rfl ?_ | refine Wl.lenStr rfl ?_ | refine Wd.seq ?_ | refine Wd.block ?_ | refine Wd.condT rfl ?_ | refine Wd.condF rfl ?_ | refine Qds.normal ?_ | refine Qds.exit ?_ | refine Qds.ret ?_ | refine Qdb.normal ?_ | refine Qdb.ret ?_ | refine Qdb.hit ?_ | refine Qdb.miss rfl ?_ | refine Qdn.e ?_ | refine Wd.region ?_ | refine Wd.skip ?_ | refine Wd.exit ?_ | refine Wd.ret ?_ | refine Wl.nilP rfl ?_ | refine Wl.fieldAddr rfl rfl ?_ | refine Wl.nilF rfl ?_ | refine Wl.add rfl rfl (by omega) (by omega) ?_ | refine Wl.sub rfl rfl (by omega) (by omega) ?_ | refine Wl.mul rfl rfl (by omega) (by omega) ?_ | refine Wl.convI rfl ?_ | (refine Wl.lss rfl rfl (fun _ => ?_) (fun _ => ?_) <;> (first | (exfalso; omega) | (exfalso; contradiction) | skip)) | (refine Wl.leq rfl rfl (fun _ => ?_) (fun _ => ?_) <;> (first | (exfalso; omega) | (exfalso; contradiction) | skip)) | (refine Wl.gtr rfl rfl (fun _ => ?_) (fun _ => ?_) <;> (first | (exfalso; omega) | (exfalso; contradiction) | skip)) | (refine Wl.geq rfl rfl (fun _ => ?_) (fun _ => ?_) <;> (first | (exfalso; omega) | (exfalso; contradiction) | skip)) | (refine Wl.eql rfl rfl (fun _ => ?_) (fun _ => ?_) <;> (first | (exfalso; omega) | (exfalso; contradiction) | skip)) | (refine Wl.neq rfl rfl (fun _ => ?_) (fun _ => ?_) <;> (first | (exfalso; omega) | (exfalso; contradiction) | skip)) | (refine Wl.seql rfl rfl (fun _ => ?_) (fun _ => ?_) <;> (first | (exfalso; omega) | (exfalso; contradiction) | skip)) | (refine Wl.sneq rfl rfl (fun _ => ?_) (fun _ => ?_) <;> (first | (exfalso; omega) | (exfalso; contradiction) | skip))))
    refine Wk.Wl.mapIns (key := u64V id) (u := vi 1) kU m4 (keyU hid) (fun p hp => by simp at hp) rfl rfl rfl fun w5 m5 c5 s5 => ?_
    replace m5 : MapL Tryd.prog 27 w5 w3.heap.size (mp [id]) := m5
    (repeat' (first | refine Wl.moveE (by conv => { lhs; whnf }) ?_ | refine Wl.assignE (by conv => { lhs; whnf }) ?_ | refine Wl.nil ?_ | refine Wl.extract rfl rfl ?_ | refine Wl.guardY rfl rfl ?_ | refine Wl.guardN rfl rfl ?_ | refine Wl.guardU rfl ?_ | refine Wl.pickTE rfl (by conv => { lhs; whnf }) ?_ | refine Wl.pickFE rfl (by conv => { lhs; whnf }) ?_ | refine Wl.notB rfl ?_ | refine Wl.lenS rfl ?_ | refine Wl.lenStr rfl ?_ | refine Wd.seq ?_ | refine Wd.block ?_ | refine Wd.condT rfl ?_ | refine Wd.condF rfl ?_ | refine Qds.normal ?_ | refine Qds.exit ?_ | refine Qds.ret ?_ | refine Qdb.normal ?_ | refine Qdb.ret ?_ | refine Qdb.hit ?_ | refine Qdb.miss rfl ?_ | refine Qdn.e ?_ | refine Wd.region ?_ | refine Wd.skip ?_ | refine Wd.exit ?_ | refine Wd.ret ?_ | refine Wl.nilP rfl ?_ | refine Wl.fieldAddr rfl rfl ?_ | refine Wl.nilF rfl ?_ | refine Wl.add rfl rfl (by omega) (by omega) ?_ | refine Wl.sub rfl rfl (by omega) (by omega) ?_ | refine Wl.mul rfl rfl (by omega) (by omega) ?_ | refine Wl.convI rfl ?_ | (refine Wl.lss rfl rfl (fun _ => ?_) (fun _ => ?_) <;> (first | (exfalso; omega) | (exfalso; contradiction) | skip)) | (refine Wl.leq rfl rfl (fun _ => ?_) (fun _ => ?_) <;> (first | (exfalso; omega) | (exfalso; contradiction) | skip)) | (refine Wl.gtr rfl rfl (fun _ => ?_) (fun _ => ?_) <;> (first | (exfalso; omega) | (exfalso; contradiction) | skip)) | (refine Wl.geq rfl rfl (fun _ => ?_) (fun _ => ?_) <;> (first | (exfalso; omega) | (exfalso; contradiction) | skip)) | (refine Wl.eql rfl rfl (fun _ => ?_) (fun _ => ?_) <;> (first | (exfalso; omega) | (exfalso; contradiction) | skip)) | (refine Wl.neq rfl rfl (fun _ => ?_) (fun _ => ?_) <;> (first | (exfalso; omega) | (exfalso; contradiction) | skip)) | (refine Wl.seql rfl rfl (fun _ => ?_) (fun _ => ?_) <;> (first | (exfalso; omega) | (exfalso; contradiction) | skip)) | (refine Wl.sneq rfl rfl (fun _ => ?_) (fun _ => ?_) <;> (first | (exfalso; omega) | (exfalso; contradiction) | skip))))
    refine Wl.alloc fun w6 b6 n6 s6 => ?_
    refine Wl.store1 b6 rfl Nat.zero_lt_one rfl rfl fun w7 b7 c7 => ?_
    replace b7 : Bk w7 w5.heap.size 80 [.map (some w3.heap.size)] := b7
    have n57 : New w5 w7 := Chg.trans n6 c7 fun _ _ e => by omega
    have n35 : New w3 w5 := Chg.trans n4 c5 fun _ _ e => by omega
    have m7 := m5.chg n57 (fun e => e)
    have z5 := n35.size
    have z7 := n57.size
    have e5 := m5.lt
    have e7 := b7.lt
    clear m4 n4 s4 m5 c5 b6 n6 c7
    (repeat' (first | refine Wl.moveE (by conv => { lhs; whnf }) ?_ | refine Wl.assignE (by conv => { lhs; whnf }) ?_ | refine Wl.nil ?_ | refine Wl.extract rfl rfl ?_ | refine Wl.guardY rfl rfl ?_ | refine Wl.guardN rfl rfl ?_ | refine Wl.guardU rfl ?_ | refine Wl.pickTE rfl (by conv => { lhs; whnf }) ?_ | refine Wl.pickFE rfl (by conv => { lhs; whnf }) ?_ | refine Wl.notB rfl ?_ | refine Wl.lenS rfl ?_ | refine Wl.lenStr rfl ?_ | refine Wd.seq ?_ | refine Wd.block ?_ | refine Wd.condT rfl ?_ | refine Wd.condF rfl ?_ | refine Qds.normal ?_ | refine Qds.exit ?_ | refine Qds.ret ?_ | refine Qdb.normal ?_ | refine Qdb.ret ?_ | refine Qdb.hit ?_ | refine Qdb.miss rfl ?_ | refine Qdn.e ?_ | refine Wd.region ?_ | refine Wd.skip ?_ | refine Wd.exit ?_ | refine Wd.ret ?_ | refine Wl.nilP rfl ?_ | refine Wl.fieldAddr rfl rfl ?_ | refine Wl.nilF rfl ?_ | refine Wl.add rfl rfl (by omega) (by omega) ?_ | refine Wl.sub rfl rfl (by omega) (by omega) ?_ | refine Wl.mul rfl rfl (by omega) (by omega) ?_ | refine Wl.convI rfl ?_ | (refine Wl.lss rfl rfl (fun _ => ?_) (fun _ => ?_) <;> (first | (exfalso; omega) | (exfalso; contradiction) | skip)) | (refine Wl.leq rfl rfl (fun _ => ?_) (fun _ => ?_) <;> (first | (exfalso; omega) | (exfalso; contradiction) | skip)) | (refine Wl.gtr rfl rfl (fun _ => ?_) (fun _ => ?_) <;> (first | (exfalso; omega) | (exfalso; contradiction) | skip)) | (refine Wl.geq rfl rfl (fun _ => ?_) (fun _ => ?_) <;> (first | (exfalso; omega) | (exfalso; contradiction) | skip)) | (refine Wl.eql rfl rfl (fun _ => ?_) (fun _ => ?_) <;> (first | (exfalso; omega) | (exfalso; contradiction) | skip)) | (refine Wl.neq rfl rfl (fun _ => ?_) (fun _ => ?_) <;> (first | (exfalso; omega) | (exfalso; contradiction) | skip)) | (refine Wl.seql rfl rfl (fun _ => ?_) (fun _ => ?_) <;> (first | (exfalso; omega) | (exfalso; contradiction) | skip)) | (refine Wl.sneq rfl rfl (fun _ => ?_) (fun _ => ?_) <;> (first | (exfalso; omega) | (exfalso; contradiction) | skip))))
    refine Wl.alloc fun w8 b8 n8 s8 => ?_
    replace b8 : Bk w8 w7.heap.size 44 [.slice none 0 0] := b8
    (repeat' (first | refine Wl.moveE (by conv => { lhs; whnf }) ?_ | refine Wl.assignE (by conv => { lhs; whnf }) ?_ | refine Wl.nil ?_ | refine Wl.extract rfl rfl ?_ | refine Wl.guardY rfl rfl ?_ | refine Wl.guardN rfl rfl ?_ | refine Wl.guardU rfl ?_ | refine Wl.pickTE rfl (by conv => { lhs; whnf }) ?_ | refine Wl.pickFE rfl (by conv => { lhs; whnf }) ?_ | refine Wl.notB rfl ?_ | refine Wl.lenS rfl ?_ | refine Wl.lenStr rfl ?_ | refine Wd.seq ?_ | refine Wd.block ?_ | refine Wd.condT rfl ?_ | refine Wd.condF rfl ?_ | refine Qds.normal ?_ | refine Qds.exit ?_ | refine Qds.ret ?_ | refine Qdb.normal ?_ | refine Qdb.ret ?_ | refine Qdb.hit ?_ | refine Qdb.miss rfl ?_ | refine Qdn.e ?_ | refine Wd.region ?_ | refine Wd.skip ?_ | refine Wd.exit ?_ | refine Wd.ret ?_ | refine Wl.nilP rfl ?_ | refine Wl.fieldAddr rfl rfl ?_ | refine Wl.nilF rfl ?_ | refine Wl.add rfl rfl (by omega) (by omega) ?_ | refine Wl.sub rfl rfl (by omega) (by omega) ?_ | refine Wl.mul rfl rfl (by omega) (by omega) ?_ | refine Wl.convI rfl ?_ | (refine Wl.lss rfl rfl (fun _ => ?_) (fun _ => ?_) <;> (first | (exfalso; omega) | (exfalso; contradiction) | skip)) | (refine Wl.leq rfl rfl (fun _ => ?_) (fun _ => ?_) <;> (first | (exfalso; omega) | (exfalso; contradiction) | skip)) | (refine Wl.gtr rfl rfl (fun _ => ?_) (fun _ => ?_) <;> (first | (exfalso; omega) | (exfalso; contradiction) | skip)) | (refine Wl.geq rfl rfl (fun _ => ?_) (fun _ => ?_) <;> (first | (exfalso; omega) | (exfalso; contradiction) | skip)) | (refine Wl.eql rfl rfl (fun _ => ?_) (fun _ => ?_) <;> (first | (exfalso; omega) | (exfalso; contradiction) | skip)) | (refine Wl.neq rfl rfl (fun _ => ?_) (fun _ => ?_) <;> (first | (exfalso; omega) | (exfalso; contradiction) | skip)) | (refine Wl.seql rfl rfl (fun _ => ?_) (fun _ => ?_) <;> (first | (exfalso; omega) | (exfalso; contradiction) | skip)) | (refine Wl.sneq rfl rfl (fun _ => ?_) (fun _ => ?_) <;> (first | (exfalso; omega) | (exfalso; contradiction) | skip))))
    have n08 := ((n1.trans n3).trans (n35.trans n57)).trans n8
    refine Wl.call (Each_spec (h.new n08)) rfl ?_
    intro f w9 hh
    obtain ⟨⟨bs, sv, rfl, hbs, hb9, hr9⟩, n9⟩ := hh
    have z9 := n9.size
    have n09 := n08.trans n9
    have m9 := (m7.chg n8 (fun e => e)).chg n9 (fun e => e)
    have b9 := (b7.chg n8 (fun e => e)).chg n9 (fun e => e)
    have o9 := b8.chg n9 (fun e => e)
    have e9 := hb9.lt
    have q9 : SqR (fun k => w8.heap.size ≤ k ∧ k < w9.heap.size) bs sv t.kept w9 := ⟨hb9, hr9.mono (mono_flat _) fun k hk e => ⟨e, hk⟩⟩
    clear hb9 hr9 b8 b7 m7 n8 n57 n35 n3 n9
    let I : Nat → World → Prop := fun k W => New w W ∧ w9.heap.size ≤ W.heap.size ∧ SqR (fun k => w8.heap.size ≤ k ∧ k < w9.heap.size) bs sv t.kept W ∧ MapL Tryd.prog 27 W w3.heap.size (mp (id :: ledS id (t.kept.take k))) ∧ Bk W w5.heap.size 80 [.map (some w3.heap.size)] ∧
      ∃ u, Bk W w7.heap.size 44 [u] ∧ OwnS (one u64V) 27 1 (fun j => w9.heap.size ≤ j) No W u (ledS id (t.kept.take k))
    (repeat' (first | refine Wl.moveE (by conv => { lhs; whnf }) ?_ | refine Wl.assignE (by conv => { lhs; whnf }) ?_ | refine Wl.nil ?_ | refine Wl.extract rfl rfl ?_ | refine Wl.guardY rfl rfl ?_ | refine Wl.guardN rfl rfl ?_ | refine Wl.guardU rfl ?_ | refine Wl.pickTE rfl (by conv => { lhs; whnf }) ?_ | refine Wl.pickFE rfl (by conv => { lhs; whnf }) ?_ | refine Wl.notB rfl ?_ | refine Wl.lenS rfl ?_ | refine Wl.lenStr rfl ?_ | refine Wd.seq ?_ | refine Wd.block ?_ | refine Wd.condT rfl ?_ | refine Wd.condF rfl ?_ | refine Qds.normal ?_ | refine Qds.exit ?_ | refine Qds.ret ?_ | refine Qdb.normal ?_ | refine Qdb.ret ?_ | refine Qdb.hit ?_ | refine Qdb.miss rfl ?_ | refine Qdn.e ?_ | refine Wd.region ?_ | refine Wd.skip ?_ | refine Wd.exit ?_ | refine Wd.ret ?_ | refine Wl.nilP rfl ?_ | refine Wl.fieldAddr rfl rfl ?_ | refine Wl.nilF rfl ?_ | refine Wl.add rfl rfl (by omega) (by omega) ?_ | refine Wl.sub rfl rfl (by omega) (by omega) ?_ | refine Wl.mul rfl rfl (by omega) (by omega) ?_ | refine Wl.convI rfl ?_ | (refine Wl.lss rfl rfl (fun _ => ?_) (fun _ => ?_) <;> (first | (exfalso; omega) | (exfalso; contradiction) | skip)) | (refine Wl.leq rfl rfl (fun _ => ?_) (fun _ => ?_) <;> (first | (exfalso; omega) | (exfalso; contradiction) | skip)) | (refine Wl.gtr rfl rfl (fun _ => ?_) (fun _ => ?_) <;> (first | (exfalso; omega) | (exfalso; contradiction) | skip)) | (refine Wl.geq rfl rfl (fun _ => ?_) (fun _ => ?_) <;> (first | (exfalso; omega) | (exfalso; contradiction) | skip)) | (refine Wl.eql rfl rfl (fun _ => ?_) (fun _ => ?_) <;> (first | (exfalso; omega) | (exfalso; contradiction) | skip)) | (refine Wl.neq rfl rfl (fun _ => ?_) (fun _ => ?_) <;> (first | (exfalso; omega) | (exfalso; contradiction) | skip)) | (refine Wl.seql rfl rfl (fun _ => ?_) (fun _ => ?_) <;> (first | (exfalso; omega) | (exfalso; contradiction) | skip)) | (refine Wl.sneq rfl rfl (fun _ => ?_) (fun _ => ?_) <;> (first | (exfalso; omega) | (exfalso; contradiction) | skip))))
    refine Wd.range (gf := 55) (lb := #[pT bs]) rfl (fun args _ => run_callFunc inferInstance args) (iter_values (Pb := fun k => w8.heap.size ≤ k ∧ k < w9.heap.size) (bs := bs) (v := sv) (l := t.kept)) I (fun _ _ => False) ?_ ?_ ?_ ?_ ?_ ?_ ?_ ?_ ?_
    · exact fun k W h => h.2.2.1
    · rintro k W W' ⟨h1, h2, h3, h4, h5, u, h6, h7⟩ n
      exact ⟨h1.trans n, Nat.le_trans h2 n.size, h3.new n, h4.chg n (fun e => e), h5.chg n (fun e => e), u, h6.chg n (fun e => e), h7.new (plain_one _) n⟩
    · rintro k W r r' ⟨h1, h2, h3, h4, h5, u, h6, h7⟩ hL
      exact ⟨h1.put _ (by omega), by simpa using h2, h3.put _ (.loop hL) (by omega), h4.put _ (by omega), h5.put _ (.loop hL), u, h6.put _ (.loop hL), h7.put _ (plain_one _) (.loop hL)⟩
    · exact fun _ _ _ _ h => h.elim
    · intro r
      have n := Chg.loop (w := w9) (.deferred (some [])) (.loop r)
      exact ⟨n09.trans n, n.size, q9.new n, m9.chg n (fun e => e), b9.chg n (fun e => e), _, o9.chg n (fun e => e), OwnS.nil⟩
    · rintro k W r hk ⟨h1, h2, h3, h4, h5, u, h6, h7⟩ hL hD
      obtain ⟨y, hy⟩ := get_lt t.kept hk
      have hyw := (hok.ok y (List.mem_of_getElem? hy)).1
      have hyid := hok.ids k y hy
      have hyca := hok.cas y (List.mem_of_getElem? hy)
      obtain ⟨hinv, hilen⟩ := ledS_inv hok id k (by omega)
      have hk4 := hok.len
      have hs4 := hok.s1
      show Wr _ _ _ _ _ (upd _ 25 (evV (t.kept.getD k ev0))) W
      rw [getD_of hy]
      (repeat' (first | refine Wl.moveE (by conv => { lhs; whnf }) ?_ | refine Wl.assignE (by conv => { lhs; whnf }) ?_ | refine Wl.nil ?_ | refine Wl.extract rfl rfl ?_ | refine Wl.guardY rfl rfl ?_ | refine Wl.guardN rfl rfl ?_ | refine Wl.guardU rfl ?_ | refine Wl.pickTE rfl (by conv => { lhs; whnf }) ?_ | refine Wl.pickFE rfl (by conv => { lhs; whnf }) ?_ | refine Wl.notB rfl ?_ | refine Wl.lenS rfl ?_ | refine Wl.lenStr rfl ?_ | refine Qsr.normal ?_ | refine Wr.seq ?_ | refine Wr.region rfl (by repeat' (first | exact Qfn.out (by rintro _ ⟨⟨_, e⟩, _⟩; cases e) | exact Qrd.out | exact Qas.out | refine Qsr.out ?_ | refine Qloop.out ?_ | refine Qsc.out ?_ | refine Qblk.out ?_)) ?_ | refine Wr.block ?_ | refine Wr.skip ?_ | refine Wr.exit ?_ | refine Wr.ret ?_ | refine Qsr.exit ?_ | refine Qsr.ret ?_ | refine Qblk.normal ?_ | refine Qblk.ret ?_ | refine Qblk.hit ?_ | refine Qblk.miss rfl ?_ | refine Wr.scope ?_ | refine Wr.label ?_ | refine Qsc.normal ?_ | refine Qsc.exit ?_ | refine Qsc.ret ?_ | refine Qloop.exit ?_ | refine Qloop.ret ?_ | refine Wr.condT rfl ?_ | refine Wr.condF rfl ?_ | refine Wl.nilP rfl ?_ | refine Wl.fieldAddr rfl rfl ?_ | refine Wl.nilF rfl ?_ | refine Wl.add rfl rfl (by omega) (by omega) ?_ | refine Wl.sub rfl rfl (by omega) (by omega) ?_ | refine Wl.mul rfl rfl (by omega) (by omega) ?_ | refine Wl.convI rfl ?_ | (refine Wl.lss rfl rfl (fun _ => ?_) (fun _ => ?_) <;> (first | (exfalso; omega) | (exfalso; contradiction) | skip)) | (refine Wl.leq rfl rfl (fun _ => ?_) (fun _ => ?_) <;> (first | (exfalso; omega) | (exfalso; contradiction) | skip)) | (refine Wl.gtr rfl rfl (fun _ => ?_) (fun _ => ?_) <;> (first | (exfalso; omega) | (exfalso; contradiction) | skip)) | (refine Wl.geq rfl rfl (fun _ => ?_) (fun _ => ?_) <;> (first | (exfalso; omega) | (exfalso; contradiction) | skip)) | (refine Wl.eql rfl rfl (fun _ => ?_) (fun _ => ?_) <;> (first | (exfalso; omega) | (exfalso; contradiction) | skip)) | (refine Wl.neq rfl rfl (fun _ => ?_) (fun _ => ?_) <;> (first | (exfalso; omega) | (exfalso; contradiction) | skip)) | (refine Wl.seql rfl rfl (fun _ => ?_) (fun _ => ?_) <;> (first | (exfalso; omega) | (exfalso; contradiction) | skip)) | (refine Wl.sneq rfl rfl (fun _ => ?_) (fun _ => ?_) <;> (first | (exfalso; omega) | (exfalso; contradiction) | skip))))
      refine Wl.alloc fun W1 c1 m1 t1 => ?_
      refine Wl.storeB (o := 0) (new := evC y) c1 rfl rfl rfl rfl (Nat.le_refl 6) (evC_one _) fun W2 c2 m2 t2 => ?_
      replace c2 : Bk W2 W.heap.size 36 (evC y) := c2
      have m02 : New W W2 := Chg.trans m1 m2 fun _ _ e => by omega
      (repeat' (first | refine Wl.moveE (by conv => { lhs; whnf }) ?_ | refine Wl.assignE (by conv => { lhs; whnf }) ?_ | refine Wl.nil ?_ | refine Wl.extract rfl rfl ?_ | refine Wl.guardY rfl rfl ?_ | refine Wl.guardN rfl rfl ?_ | refine Wl.guardU rfl ?_ | refine Wl.pickTE rfl (by conv => { lhs; whnf }) ?_ | refine Wl.pickFE rfl (by conv => { lhs; whnf }) ?_ | refine Wl.notB rfl ?_ | refine Wl.lenS rfl ?_ | refine Wl.lenStr rfl ?_ | refine Qsr.normal ?_ | refine Wr.seq ?_ | refine Wr.region rfl (by repeat' (first | exact Qfn.out (by rintro _ ⟨⟨_, e⟩, _⟩; cases e) | exact Qrd.out | exact Qas.out | refine Qsr.out ?_ | refine Qloop.out ?_ | refine Qsc.out ?_ | refine Qblk.out ?_)) ?_ | refine Wr.block ?_ | refine Wr.skip ?_ | refine Wr.exit ?_ | refine Wr.ret ?_ | refine Qsr.exit ?_ | refine Qsr.ret ?_ | refine Qblk.normal ?_ | refine Qblk.ret ?_ | refine Qblk.hit ?_ | refine Qblk.miss rfl ?_ | refine Wr.scope ?_ | refine Wr.label ?_ | refine Qsc.normal ?_ | refine Qsc.exit ?_ | refine Qsc.ret ?_ | refine Qloop.exit ?_ | refine Qloop.ret ?_ | refine Wr.condT rfl ?_ | refine Wr.condF rfl ?_ | refine Wl.nilP rfl ?_ | refine Wl.fieldAddr rfl rfl ?_ | refine Wl.nilF rfl ?_ | refine Wl.add rfl rfl (by omega) (by omega) ?_ | refine Wl.sub rfl rfl (by omega) (by omega) ?_ | refine Wl.mul rfl rfl (by omega) (by omega) ?_ | refine Wl.convI rfl ?_ | (refine Wl.lss rfl rfl (fun _ => ?_) (fun _ => ?_) <;> (first | (exfalso; omega) | (exfalso; contradiction) | skip)) | (refine Wl.leq rfl rfl (fun _ => ?_) (fun _ => ?_) <;> (first | (exfalso; omega) | (exfalso; contradiction) | skip)) | (refine Wl.gtr rfl rfl (fun _ => ?_) (fun _ => ?_) <;> (first | (exfalso; omega) | (exfalso; contradiction) | skip)) | (refine Wl.geq rfl rfl (fun _ => ?_) (fun _ => ?_) <;> (first | (exfalso; omega) | (exfalso; contradiction) | skip)) | (refine Wl.eql rfl rfl (fun _ => ?_) (fun _ => ?_) <;> (first | (exfalso; omega) | (exfalso; contradiction) | skip)) | (refine Wl.neq rfl rfl (fun _ => ?_) (fun _ => ?_) <;> (first | (exfalso; omega) | (exfalso; contradiction) | skip)) | (refine Wl.seql rfl rfl (fun _ => ?_) (fun _ => ?_) <;> (first | (exfalso; omega) | (exfalso; contradiction) | skip)) | (refine Wl.sneq rfl rfl (fun _ => ?_) (fun _ => ?_) <;> (first | (exfalso; omega) | (exfalso; contradiction) | skip))))
      refine ⟨m02, fun r' => ?_⟩
      have hL2 := (m02.block _ (NoC.loop hL).lt fun e => e).trans hL
      have hD2 := (m02.block _ (NoC.mark hD).lt fun e => e).trans hD
      have hLt := (NoC.loop hL2).lt
      have q1 : New w (W2.putObj (w9.heap.size + 1) (.loop r')) := (h1.trans m02).put _ (by omega)
      have q3 := (h3.new m02).put (.loop r') (.loop hL2) (by omega)
      have q4 := (h4.chg m02 (fun e => e)).put (.loop r') (show w9.heap.size + 1 ≠ w3.heap.size by omega)
      have q5 := (h5.chg m02 (fun e => e)).put (.loop r') (.loop hL2)
      have q6 := (h6.chg m02 (fun e => e)).put (.loop r') (.loop hL2)
      have q7 := (h7.new (plain_one _) m02).put (.loop r') (plain_one _) (.loop hL2)
      have q8 := c2.put (.loop r') (.loop hL2)
      have qL : NoC (W2.putObj (w9.heap.size + 1) (.loop r')) (w9.heap.size + 1) := .loop (World.putObj_heap_same hLt)
      have qD : NoC (W2.putObj (w9.heap.size + 1) (.loop r')) w9.heap.size := .mark ((World.putObj_heap_other (by omega)).trans hD2)
      have hu1 : ∀ j, u.ownBlock = some j → w9.heap.size ≤ j ∧ j < W.heap.size := fun j e => h7.lt e
      generalize W2.putObj (w9.heap.size + 1) (.loop r') = W3 at *
      clear m1 m2 c1 c2 h1 h3 h4 h5 h6 h7 m02 hL hD hL2 hD2
      have zL := qL.lt
      have z8 := q8.lt
      (repeat' (first | refine Wl.moveE (by conv => { lhs; whnf }) ?_ | refine Wl.assignE (by conv => { lhs; whnf }) ?_ | refine Wl.nil ?_ | refine Wl.extract rfl rfl ?_ | refine Wl.guardY rfl rfl ?_ | refine Wl.guardN rfl rfl ?_ | refine Wl.guardU rfl ?_ | refine Wl.pickTE rfl (by conv => { lhs; whnf }) ?_ | refine Wl.pickFE rfl (by conv => { lhs; whnf }) ?_ | refine Wl.notB rfl ?_ | refine Wl.lenS rfl ?_ | refine Wl.lenStr rfl ?_ | refine Qsr.normal ?_ | refine Wr.seq ?_ | refine Wr.region rfl (by repeat' (first | exact Qfn.out (by rintro _ ⟨⟨_, e⟩, _⟩; cases e) | exact Qrd.out | exact Qas.out | refine Qsr.out ?_ | refine Qloop.out ?_ | refine Qsc.out ?_ | refine Qblk.out ?_)) ?_ | refine Wr.block ?_ | refine Wr.skip ?_ | refine Wr.exit ?_ | refine Wr.ret ?_ | refine Qsr.exit ?_ | refine Qsr.ret ?_ | refine Qblk.normal ?_ | refine Qblk.ret ?_ | refine Qblk.hit ?_ | refine Qblk.miss rfl ?_ | refine Wr.scope ?_ | refine Wr.label ?_ | refine Qsc.normal ?_ | refine Qsc.exit ?_ | refine Qsc.ret ?_ | refine Qloop.exit ?_ | refine Qloop.ret ?_ | refine Wr.condT rfl ?_ | refine Wr.condF rfl ?_ | refine Wl.nilP rfl ?_ | refine Wl.fieldAddr rfl rfl ?_ | refine Wl.nilF rfl ?_ | refine Wl.add rfl rfl (by omega) (by omega) ?_ | refine Wl.sub rfl rfl (by omega) (by omega) ?_ | refine Wl.mul rfl rfl (by omega) (by omega) ?_ | refine Wl.convI rfl ?_ | (refine Wl.lss rfl rfl (fun _ => ?_) (fun _ => ?_) <;> (first | (exfalso; omega) | (exfalso; contradiction) | skip)) | (refine Wl.leq rfl rfl (fun _ => ?_) (fun _ => ?_) <;> (first | (exfalso; omega) | (exfalso; contradiction) | skip)) | (refine Wl.gtr rfl rfl (fun _ => ?_) (fun _ => ?_) <;> (first | (exfalso; omega) | (exfalso; contradiction) | skip)) | (refine Wl.geq rfl rfl (fun _ => ?_) (fun _ => ?_) <;> (first | (exfalso; omega) | (exfalso; contradiction) | skip)) | (refine Wl.eql rfl rfl (fun _ => ?_) (fun _ => ?_) <;> (first | (exfalso; omega) | (exfalso; contradiction) | skip)) | (refine Wl.neq rfl rfl (fun _ => ?_) (fun _ => ?_) <;> (first | (exfalso; omega) | (exfalso; contradiction) | skip)) | (refine Wl.seql rfl rfl (fun _ => ?_) (fun _ => ?_) <;> (first | (exfalso; omega) | (exfalso; contradiction) | skip)) | (refine Wl.sneq rfl rfl (fun _ => ?_) (fun _ => ?_) <;> (first | (exfalso; omega) | (exfalso; contradiction) | skip))))
      refine Wl.load1 rfl (q5.cell (o := 0) rfl) ?_
      (repeat' (first | refine Wl.moveE (by conv => { lhs; whnf }) ?_ | refine Wl.assignE (by conv => { lhs; whnf }) ?_ | refine Wl.nil ?_ | refine Wl.extract rfl rfl ?_ | refine Wl.guardY rfl rfl ?_ | refine Wl.guardN rfl rfl ?_ | refine Wl.guardU rfl ?_ | refine Wl.pickTE rfl (by conv => { lhs; whnf }) ?_ | refine Wl.pickFE rfl (by conv => { lhs; whnf }) ?_ | refine Wl.notB rfl ?_ | refine Wl.lenS rfl ?_ | refine Wl.lenStr rfl ?_ | refine Qsr.normal ?_ | refine Wr.seq ?_ | refine Wr.region rfl (by repeat' (first | exact Qfn.out (by rintro _ ⟨⟨_, e⟩, _⟩; cases e) | exact Qrd.out | exact Qas.out | refine Qsr.out ?_ | refine Qloop.out ?_ | refine Qsc.out ?_ | refine Qblk.out ?_)) ?_ | refine Wr.block ?_ | refine Wr.skip ?_ | refine Wr.exit ?_ | refine Wr.ret ?_ | refine Qsr.exit ?_ | refine Qsr.ret ?_ | refine Qblk.normal ?_ | refine Qblk.ret ?_ | refine Qblk.hit ?_ | refine Qblk.miss rfl ?_ | refine Wr.scope ?_ | refine Wr.label ?_ | refine Qsc.normal ?_ | refine Qsc.exit ?_ | refine Qsc.ret ?_ | refine Qloop.exit ?_ | refine Qloop.ret ?_ | refine Wr.condT rfl ?_ | refine Wr.condF rfl ?_ | refine Wl.nilP rfl ?_ | refine Wl.fieldAddr rfl rfl ?_ | refine Wl.nilF rfl ?_ | refine Wl.add rfl rfl (by omega) (by omega) ?_ | refine Wl.sub rfl rfl (by omega) (by omega) ?_ | refine Wl.mul rfl rfl (by omega) (by omega) ?_ | refine Wl.convI rfl ?_ | (refine Wl.lss rfl rfl (fun _ => ?_) (fun _ => ?_) <;> (first | (exfalso; omega) | (exfalso; contradiction) | skip)) | (refine Wl.leq rfl rfl (fun _ => ?_) (fun _ => ?_) <;> (first | (exfalso; omega) | (exfalso; contradiction) | skip)) | (refine Wl.gtr rfl rfl (fun _ => ?_) (fun _ => ?_) <;> (first | (exfalso; omega) | (exfalso; contradiction) | skip)) | (refine Wl.geq rfl rfl (fun _ => ?_) (fun _ => ?_) <;> (first | (exfalso; omega) | (exfalso; contradiction) | skip)) | (refine Wl.eql rfl rfl (fun _ => ?_) (fun _ => ?_) <;> (first | (exfalso; omega) | (exfalso; contradiction) | skip)) | (refine Wl.neq rfl rfl (fun _ => ?_) (fun _ => ?_) <;> (first | (exfalso; omega) | (exfalso; contradiction) | skip)) | (refine Wl.seql rfl rfl (fun _ => ?_) (fun _ => ?_) <;> (first | (exfalso; omega) | (exfalso; contradiction) | skip)) | (refine Wl.sneq rfl rfl (fun _ => ?_) (fun _ => ?_) <;> (first | (exfalso; omega) | (exfalso; contradiction) | skip))))
      refine Wl.load1 rfl (q8.cell (o := 1) rfl) ?_
      refine Wl.lookup (key := u64V y.ca) kU q4 (keyU hyw.ca) rfl rfl fun r hr => ?_
      rcases mp_in hr with ⟨hin, rfl⟩ | ⟨hin, rfl⟩
      · have hout : ledS id (t.kept.take (k + 1)) = ledS id (t.kept.take k) ++ [y.id] := by rw [ledS_snoc hy, if_pos (List.contains_iff_mem.2 hin)]
        have hnew : y.id ∉ id :: ledS id (t.kept.take k) := by
          intro e
          rcases List.mem_cons.1 hin with e1 | e1
          · rcases List.mem_cons.1 e with e2 | e2
            · omega
            · have := hinv _ e2; omega
          · have h1 := hinv _ e1
            rcases List.mem_cons.1 e with e2 | e2
            · omega
            · have := hinv _ e2; omega
        (repeat' (first | refine Wl.moveE (by conv => { lhs; whnf }) ?_ | refine Wl.assignE (by conv => { lhs; whnf }) ?_ | refine Wl.nil ?_ | refine Wl.extract rfl rfl ?_ | refine Wl.guardY rfl rfl ?_ | refine Wl.guardN rfl rfl ?_ | refine Wl.guardU rfl ?_ | refine Wl.pickTE rfl (by conv => { lhs; whnf }) ?_ | refine Wl.pickFE rfl (by conv => { lhs; whnf }) ?_ | refine Wl.notB rfl ?_ | refine Wl.lenS rfl ?_ | refine Wl.lenStr rfl ?_ | refine Qsr.normal ?_ | refine Wr.seq ?_ | refine Wr.region rfl (by repeat' (first | exact Qfn.out (by rintro _ ⟨⟨_, e⟩, _⟩; cases e) | exact Qrd.out | exact Qas.out | refine Qsr.out ?_ | refine Qloop.out ?_ | refine Qsc.out ?_ | refine Qblk.out ?_)) ?_ | refine Wr.block ?_ | refine Wr.skip ?_ | refine Wr.exit ?_ | refine Wr.ret ?_ | refine Qsr.exit ?_ | refine Qsr.ret ?_ | refine Qblk.normal ?_ | refine Qblk.ret ?_ | refine Qblk.hit ?_ | refine Qblk.miss rfl ?_ | refine Wr.scope ?_ | refine Wr.label ?_ | refine Qsc.normal ?_ | refine Qsc.exit ?_ | refine Qsc.ret ?_ | refine Qloop.exit ?_ | refine Qloop.ret ?_ | refine Wr.condT rfl ?_ | refine Wr.condF rfl ?_ | refine Wl.nilP rfl ?_ | refine Wl.fieldAddr rfl rfl ?_ | refine Wl.nilF rfl ?_ | refine Wl.add rfl rfl (by omega) (by omega) ?_ | refine Wl.sub rfl rfl (by omega) (by omega) ?_ | refine Wl.mul rfl rfl (by omega) (by omega) ?_ | refine Wl.convI rfl ?_ | (refine Wl.lss rfl rfl (fun _ => ?_) (fun _ => ?_) <;> (first | (exfalso; omega) | (exfalso; contradiction) | skip)) | (refine Wl.leq rfl rfl (fun _ => ?_) (fun _ => ?_) <;> (first | (exfalso; omega) | (exfalso; contradiction) | skip)) | (refine Wl.gtr rfl rfl (fun _ => ?_) (fun _ => ?_) <;> (first | (exfalso; omega) | (exfalso; contradiction) | skip)) | (refine Wl.geq rfl rfl (fun _ => ?_) (fun _ => ?_) <;> (first | (exfalso; omega) | (exfalso; contradiction) | skip)) | (refine Wl.eql rfl rfl (fun _ => ?_) (fun _ => ?_) <;> (first | (exfalso; omega) | (exfalso; contradiction) | skip)) | (refine Wl.neq rfl rfl (fun _ => ?_) (fun _ => ?_) <;> (first | (exfalso; omega) | (exfalso; contradiction) | skip)) | (refine Wl.seql rfl rfl (fun _ => ?_) (fun _ => ?_) <;> (first | (exfalso; omega) | (exfalso; contradiction) | skip)) | (refine Wl.sneq rfl rfl (fun _ => ?_) (fun _ => ?_) <;> (first | (exfalso; omega) | (exfalso; contradiction) | skip))))
        refine Wl.load1 rfl (q5.cell (o := 0) rfl) ?_
        (repeat' (first | refine Wl.moveE (by conv => { lhs; whnf }) ?_ | refine Wl.assignE (by conv => { lhs; whnf }) ?_ | refine Wl.nil ?_ | refine Wl.extract rfl rfl ?_ | refine Wl.guardY rfl rfl ?_ | refine Wl.guardN rfl rfl ?_ | refine Wl.guardU rfl ?_ | refine Wl.pickTE rfl (by conv => { lhs; whnf }) ?_ | refine Wl.pickFE rfl (by conv => { lhs; whnf }) ?_ | refine Wl.notB rfl ?_ | refine Wl.lenS rfl ?_ | refine Wl.lenStr rfl ?_ | refine Qsr.normal ?_ | refine Wr.seq ?_ | refine Wr.region rfl (by repeat' (first | exact Qfn.out (by rintro _ ⟨⟨_, e⟩, _⟩; cases e) | exact Qrd.out | exact Qas.out | refine Qsr.out ?_ | refine Qloop.out ?_ | refine Qsc.out ?_ | refine Qblk.out ?_)) ?_ | refine Wr.block ?_ | refine Wr.skip ?_ | refine Wr.exit ?_ | refine Wr.ret ?_ | refine Qsr.exit ?_ | refine Qsr.ret ?_ | refine Qblk.normal ?_ | refine Qblk.ret ?_ | refine Qblk.hit ?_ | refine Qblk.miss rfl ?_ | refine Wr.scope ?_ | refine Wr.label ?_ | refine Qsc.normal ?_ | refine Qsc.exit ?_ | refine Qsc.ret ?_ | refine Qloop.exit ?_ | refine Qloop.ret ?_ | refine Wr.condT rfl ?_ | refine Wr.condF rfl ?_ | refine Wl.nilP rfl ?_ | refine Wl.fieldAddr rfl rfl ?_ | refine Wl.nilF rfl ?_ | refine Wl.add rfl rfl (by omega) (by omega) ?_ | refine Wl.sub rfl rfl (by omega) (by omega) ?_ | refine Wl.mul rfl rfl (by omega) (by omega) ?_ | refine Wl.convI rfl ?_ | (refine Wl.lss rfl rfl (fun _ => ?_) (fun _ => ?_) <;> (first | (exfalso; omega) | (exfalso; contradiction) | skip)) | (refine Wl.leq rfl rfl (fun _ => ?_) (fun _ => ?_) <;> (first | (exfalso; omega) | (exfalso; contradiction) | skip)) | (refine Wl.gtr rfl rfl (fun _ => ?_) (fun _ => ?_) <;> (first | (exfalso; omega) | (exfalso; contradiction) | skip)) | (refine Wl.geq rfl rfl (fun _ => ?_) (fun _ => ?_) <;> (first | (exfalso; omega) | (exfalso; contradiction) | skip)) | (refine Wl.eql rfl rfl (fun _ => ?_) (fun _ => ?_) <;> (first | (exfalso; omega) | (exfalso; contradiction) | skip)) | (refine Wl.neq rfl rfl (fun _ => ?_) (fun _ => ?_) <;> (first | (exfalso; omega) | (exfalso; contradiction) | skip)) | (refine Wl.seql rfl rfl (fun _ => ?_) (fun _ => ?_) <;> (first | (exfalso; omega) | (exfalso; contradiction) | skip)) | (refine Wl.sneq rfl rfl (fun _ => ?_) (fun _ => ?_) <;> (first | (exfalso; omega) | (exfalso; contradiction) | skip))))
        refine Wl.load1 rfl (q8.cell (o := 0) rfl) ?_
        refine Wl.lookup (key := u64V y.id) kU q4 (keyU hyw.id) rfl rfl fun r hr => ?_
        rcases mp_in hr with ⟨h', _⟩ | ⟨_, rfl⟩
        · exact absurd h' hnew
        (repeat' (first | refine Wl.moveE (by conv => { lhs; whnf }) ?_ | refine Wl.assignE (by conv => { lhs; whnf }) ?_ | refine Wl.nil ?_ | refine Wl.extract rfl rfl ?_ | refine Wl.guardY rfl rfl ?_ | refine Wl.guardN rfl rfl ?_ | refine Wl.guardU rfl ?_ | refine Wl.pickTE rfl (by conv => { lhs; whnf }) ?_ | refine Wl.pickFE rfl (by conv => { lhs; whnf }) ?_ | refine Wl.notB rfl ?_ | refine Wl.lenS rfl ?_ | refine Wl.lenStr rfl ?_ | refine Qsr.normal ?_ | refine Wr.seq ?_ | refine Wr.region rfl (by repeat' (first | exact Qfn.out (by rintro _ ⟨⟨_, e⟩, _⟩; cases e) | exact Qrd.out | exact Qas.out | refine Qsr.out ?_ | refine Qloop.out ?_ | refine Qsc.out ?_ | refine Qblk.out ?_)) ?_ | refine Wr.block ?_ | refine Wr.skip ?_ | refine Wr.exit ?_ | refine Wr.ret ?_ | refine Qsr.exit ?_ | refine Qsr.ret ?_ | refine Qblk.normal ?_ | refine Qblk.ret ?_ | refine Qblk.hit ?_ | refine Qblk.miss rfl ?_ | refine Wr.scope ?_ | refine Wr.label ?_ | refine Qsc.normal ?_ | refine Qsc.exit ?_ | refine Qsc.ret ?_ | refine Qloop.exit ?_ | refine Qloop.ret ?_ | refine Wr.condT rfl ?_ | refine Wr.condF rfl ?_ | refine Wl.nilP rfl ?_ | refine Wl.fieldAddr rfl rfl ?_ | refine Wl.nilF rfl ?_ | refine Wl.add rfl rfl (by omega) (by omega) ?_ | refine Wl.sub rfl rfl (by omega) (by omega) ?_ | refine Wl.mul rfl rfl (by omega) (by omega) ?_ | refine Wl.convI rfl ?_ | (refine Wl.lss rfl rfl (fun _ => ?_) (fun _ => ?_) <;> (first | (exfalso; omega) | (exfalso; contradiction) | skip)) | (refine Wl.leq rfl rfl (fun _ => ?_) (fun _ => ?_) <;> (first | (exfalso; omega) | (exfalso; contradiction) | skip)) | (refine Wl.gtr rfl rfl (fun _ => ?_) (fun _ => ?_) <;> (first | (exfalso; omega) | (exfalso; contradiction) | skip)) | (refine Wl.geq rfl rfl (fun _ => ?_) (fun _ => ?_) <;> (first | (exfalso; omega) | (exfalso; contradiction) | skip)) | (refine Wl.eql rfl rfl (fun _ => ?_) (fun _ => ?_) <;> (first | (exfalso; omega) | (exfalso; contradiction) | skip)) | (refine Wl.neq rfl rfl (fun _ => ?_) (fun _ => ?_) <;> (first | (exfalso; omega) | (exfalso; contradiction) | skip)) | (refine Wl.seql rfl rfl (fun _ => ?_) (fun _ => ?_) <;> (first | (exfalso; omega) | (exfalso; contradiction) | skip)) | (refine Wl.sneq rfl rfl (fun _ => ?_) (fun _ => ?_) <;> (first | (exfalso; omega) | (exfalso; contradiction) | skip))))
        refine Wl.mapPut (key := u64V y.id) (u := vi 1) kU q4 (keyU hyw.id) (mp_not hnew) rfl rfl rfl fun W4 p4 d4 s4 => ?_
        rw [mp_snoc, List.cons_append, ← hout] at p4
        have q5' := q5.chg d4 (by omega)
        have q6' := q6.chg d4 (by omega)
        have q8' := q8.chg d4 (by omega)
        have q7' := q7.chg (plain_one _) d4 fun j e e' => by have := hu1 j e; omega
        have z4 := d4.size
        (repeat' (first | refine Wl.moveE (by conv => { lhs; whnf }) ?_ | refine Wl.assignE (by conv => { lhs; whnf }) ?_ | refine Wl.nil ?_ | refine Wl.extract rfl rfl ?_ | refine Wl.guardY rfl rfl ?_ | refine Wl.guardN rfl rfl ?_ | refine Wl.guardU rfl ?_ | refine Wl.pickTE rfl (by conv => { lhs; whnf }) ?_ | refine Wl.pickFE rfl (by conv => { lhs; whnf }) ?_ | refine Wl.notB rfl ?_ | refine Wl.lenS rfl ?_ | refine Wl.lenStr rfl ?_ | refine Qsr.normal ?_ | refine Wr.seq ?_ | refine Wr.region rfl (by repeat' (first | exact Qfn.out (by rintro _ ⟨⟨_, e⟩, _⟩; cases e) | exact Qrd.out | exact Qas.out | refine Qsr.out ?_ | refine Qloop.out ?_ | refine Qsc.out ?_ | refine Qblk.out ?_)) ?_ | refine Wr.block ?_ | refine Wr.skip ?_ | refine Wr.exit ?_ | refine Wr.ret ?_ | refine Qsr.exit ?_ | refine Qsr.ret ?_ | refine Qblk.normal ?_ | refine Qblk.ret ?_ | refine Qblk.hit ?_ | refine Qblk.miss rfl ?_ | refine Wr.scope ?_ | refine Wr.label ?_ | refine Qsc.normal ?_ | refine Qsc.exit ?_ | refine Qsc.ret ?_ | refine Qloop.exit ?_ | refine Qloop.ret ?_ | refine Wr.condT rfl ?_ | refine Wr.condF rfl ?_ | refine Wl.nilP rfl ?_ | refine Wl.fieldAddr rfl rfl ?_ | refine Wl.nilF rfl ?_ | refine Wl.add rfl rfl (by omega) (by omega) ?_ | refine Wl.sub rfl rfl (by omega) (by omega) ?_ | refine Wl.mul rfl rfl (by omega) (by omega) ?_ | refine Wl.convI rfl ?_ | (refine Wl.lss rfl rfl (fun _ => ?_) (fun _ => ?_) <;> (first | (exfalso; omega) | (exfalso; contradiction) | skip)) | (refine Wl.leq rfl rfl (fun _ => ?_) (fun _ => ?_) <;> (first | (exfalso; omega) | (exfalso; contradiction) | skip)) | (refine Wl.gtr rfl rfl (fun _ => ?_) (fun _ => ?_) <;> (first | (exfalso; omega) | (exfalso; contradiction) | skip)) | (refine Wl.geq rfl rfl (fun _ => ?_) (fun _ => ?_) <;> (first | (exfalso; omega) | (exfalso; contradiction) | skip)) | (refine Wl.eql rfl rfl (fun _ => ?_) (fun _ => ?_) <;> (first | (exfalso; omega) | (exfalso; contradiction) | skip)) | (refine Wl.neq rfl rfl (fun _ => ?_) (fun _ => ?_) <;> (first | (exfalso; omega) | (exfalso; contradiction) | skip)) | (refine Wl.seql rfl rfl (fun _ => ?_) (fun _ => ?_) <;> (first | (exfalso; omega) | (exfalso; contradiction) | skip)) | (refine Wl.sneq rfl rfl (fun _ => ?_) (fun _ => ?_) <;> (first | (exfalso; omega) | (exfalso; contradiction) | skip))))
        refine Wl.load1 rfl (q6'.cell (o := 0) rfl) ?_
        (repeat' (first | refine Wl.moveE (by conv => { lhs; whnf }) ?_ | refine Wl.assignE (by conv => { lhs; whnf }) ?_ | refine Wl.nil ?_ | refine Wl.extract rfl rfl ?_ | refine Wl.guardY rfl rfl ?_ | refine Wl.guardN rfl rfl ?_ | refine Wl.guardU rfl ?_ | refine Wl.pickTE rfl (by conv => { lhs; whnf }) ?_ | refine Wl.pickFE rfl (by conv => { lhs; whnf }) ?_ | refine Wl.notB rfl ?_ | refine Wl.lenS rfl ?_ | refine Wl.lenStr rfl ?_ | refine Qsr.normal ?_ | refine Wr.seq ?_ | refine Wr.region rfl (by repeat' (first | exact Qfn.out (by rintro _ ⟨⟨_, e⟩, _⟩; cases e) | exact Qrd.out | exact Qas.out | refine Qsr.out ?_ | refine Qloop.out ?_ | refine Qsc.out ?_ | refine Qblk.out ?_)) ?_ | refine Wr.block ?_ | refine Wr.skip ?_ | refine Wr.exit ?_ | refine Wr.ret ?_ | refine Qsr.exit ?_ | refine Qsr.ret ?_ | refine Qblk.normal ?_ | refine Qblk.ret ?_ | refine Qblk.hit ?_ | refine Qblk.miss rfl ?_ | refine Wr.scope ?_ | refine Wr.label ?_ | refine Qsc.normal ?_ | refine Qsc.exit ?_ | refine Qsc.ret ?_ | refine Qloop.exit ?_ | refine Qloop.ret ?_ | refine Wr.condT rfl ?_ | refine Wr.condF rfl ?_ | refine Wl.nilP rfl ?_ | refine Wl.fieldAddr rfl rfl ?_ | refine Wl.nilF rfl ?_ | refine Wl.add rfl rfl (by omega) (by omega) ?_ | refine Wl.sub rfl rfl (by omega) (by omega) ?_ | refine Wl.mul rfl rfl (by omega) (by omega) ?_ | refine Wl.convI rfl ?_ | (refine Wl.lss rfl rfl (fun _ => ?_) (fun _ => ?_) <;> (first | (exfalso; omega) | (exfalso; contradiction) | skip)) | (refine Wl.leq rfl rfl (fun _ => ?_) (fun _ => ?_) <;> (first | (exfalso; omega) | (exfalso; contradiction) | skip)) | (refine Wl.gtr rfl rfl (fun _ => ?_) (fun _ => ?_) <;> (first | (exfalso; omega) | (exfalso; contradiction) | skip)) | (refine Wl.geq rfl rfl (fun _ => ?_) (fun _ => ?_) <;> (first | (exfalso; omega) | (exfalso; contradiction) | skip)) | (refine Wl.eql rfl rfl (fun _ => ?_) (fun _ => ?_) <;> (first | (exfalso; omega) | (exfalso; contradiction) | skip)) | (refine Wl.neq rfl rfl (fun _ => ?_) (fun _ => ?_) <;> (first | (exfalso; omega) | (exfalso; contradiction) | skip)) | (refine Wl.seql rfl rfl (fun _ => ?_) (fun _ => ?_) <;> (first | (exfalso; omega) | (exfalso; contradiction) | skip)) | (refine Wl.sneq rfl rfl (fun _ => ?_) (fun _ => ?_) <;> (first | (exfalso; omega) | (exfalso; contradiction) | skip))))
        refine Wl.load1 rfl (q8'.cell (o := 0) rfl) ?_
        refine Wl.append1 (y := y.id) goodU q7' rfl rfl rfl rfl rfl (by omega) (by omega) (by simp only [maxLen]; omega) (by omega) rfl rfl fun u' W5 p o5 d5 lie => ?_
        rw [← hout] at o5
        have q6'' := q6'.chg d5 fun e => by have := hu1 _ e; omega
        refine Wl.store1 q6'' rfl Nat.zero_lt_one rfl (by obtain ⟨_, _, rfl, _⟩ := o5.form; rfl) fun W6 q9' d6 => ?_
        have z5 := d5.size
        have z6 := d6.size
        have hu' : ∀ j, u'.ownBlock = some j → j ≠ w7.heap.size := by
          intro j e
          rcases lie with lie | lie
          · rw [lie] at e; have := hu1 j e; omega
          · have := lie j e; omega
        have e36 : Chg (fun j => u.ownBlock = some j ∨ j = w7.heap.size ∨ j = w3.heap.size) W3 W6 := Chg.trans (Chg.trans (d4.mono fun _ _ e => .inr (.inr e)) (d5.mono fun _ _ e => .inl e) fun _ _ e => e) (d6.mono fun _ _ e => .inr (.inl e)) fun _ _ e => e
        (repeat' (first | refine Wl.moveE (by conv => { lhs; whnf }) ?_ | refine Wl.assignE (by conv => { lhs; whnf }) ?_ | refine Wl.nil ?_ | refine Wl.extract rfl rfl ?_ | refine Wl.guardY rfl rfl ?_ | refine Wl.guardN rfl rfl ?_ | refine Wl.guardU rfl ?_ | refine Wl.pickTE rfl (by conv => { lhs; whnf }) ?_ | refine Wl.pickFE rfl (by conv => { lhs; whnf }) ?_ | refine Wl.notB rfl ?_ | refine Wl.lenS rfl ?_ | refine Wl.lenStr rfl ?_ | refine Qsr.normal ?_ | refine Wr.seq ?_ | refine Wr.region rfl (by repeat' (first | exact Qfn.out (by rintro _ ⟨⟨_, e⟩, _⟩; cases e) | exact Qrd.out | exact Qas.out | refine Qsr.out ?_ | refine Qloop.out ?_ | refine Qsc.out ?_ | refine Qblk.out ?_)) ?_ | refine Wr.block ?_ | refine Wr.skip ?_ | refine Wr.exit ?_ | refine Wr.ret ?_ | refine Qsr.exit ?_ | refine Qsr.ret ?_ | refine Qblk.normal ?_ | refine Qblk.ret ?_ | refine Qblk.hit ?_ | refine Qblk.miss rfl ?_ | refine Wr.scope ?_ | refine Wr.label ?_ | refine Qsc.normal ?_ | refine Qsc.exit ?_ | refine Qsc.ret ?_ | refine Qloop.exit ?_ | refine Qloop.ret ?_ | refine Wr.condT rfl ?_ | refine Wr.condF rfl ?_ | refine Wl.nilP rfl ?_ | refine Wl.fieldAddr rfl rfl ?_ | refine Wl.nilF rfl ?_ | refine Wl.add rfl rfl (by omega) (by omega) ?_ | refine Wl.sub rfl rfl (by omega) (by omega) ?_ | refine Wl.mul rfl rfl (by omega) (by omega) ?_ | refine Wl.convI rfl ?_ | (refine Wl.lss rfl rfl (fun _ => ?_) (fun _ => ?_) <;> (first | (exfalso; omega) | (exfalso; contradiction) | skip)) | (refine Wl.leq rfl rfl (fun _ => ?_) (fun _ => ?_) <;> (first | (exfalso; omega) | (exfalso; contradiction) | skip)) | (refine Wl.gtr rfl rfl (fun _ => ?_) (fun _ => ?_) <;> (first | (exfalso; omega) | (exfalso; contradiction) | skip)) | (refine Wl.geq rfl rfl (fun _ => ?_) (fun _ => ?_) <;> (first | (exfalso; omega) | (exfalso; contradiction) | skip)) | (refine Wl.eql rfl rfl (fun _ => ?_) (fun _ => ?_) <;> (first | (exfalso; omega) | (exfalso; contradiction) | skip)) | (refine Wl.neq rfl rfl (fun _ => ?_) (fun _ => ?_) <;> (first | (exfalso; omega) | (exfalso; contradiction) | skip)) | (refine Wl.seql rfl rfl (fun _ => ?_) (fun _ => ?_) <;> (first | (exfalso; omega) | (exfalso; contradiction) | skip)) | (refine Wl.sneq rfl rfl (fun _ => ?_) (fun _ => ?_) <;> (first | (exfalso; omega) | (exfalso; contradiction) | skip))))
        refine ⟨e36.block _ qL.lt ?_, e36.block _ qD.lt ?_, Chg.trans q1 e36 fun j hj e => ?_, by omega, q3.chg e36 ?_ ?_, (p4.chg d5 fun e => by have := hu1 _ e; omega).chg d6 (by omega), (q5'.chg d5 fun e => by have := hu1 _ e; omega).chg d6 (by omega), u', q9', ?_⟩
        · rintro (e | e | e)
          · exact q7.nl qL e rfl
          · omega
          · omega
        · rintro (e | e | e)
          · exact q7.nl qD e rfl
          · omega
          · omega
        · rcases e with e | e | e
          · have := hu1 j e; omega
          · omega
          · omega
        · rintro (e | e | e)
          · have := hu1 _ e; omega
          · omega
          · omega
        · rintro j hj (e | e | e)
          · have := hu1 _ e; omega
          · omega
          · omega
        · exact (o5.chg (plain_one _) d6 fun j e e' => hu' j e e').mono goodU.mo (fun j _ e => by rcases e with e | e <;> omega) fun _ _ e => e
      · have hout : ledS id (t.kept.take (k + 1)) = ledS id (t.kept.take k) := by rw [ledS_snoc hy, if_neg (fun e => hin (List.contains_iff_mem.1 e))]
        (repeat' (first | refine Wl.moveE (by conv => { lhs; whnf }) ?_ | refine Wl.assignE (by conv => { lhs; whnf }) ?_ | refine Wl.nil ?_ | refine Wl.extract rfl rfl ?_ | refine Wl.guardY rfl rfl ?_ | refine Wl.guardN rfl rfl ?_ | refine Wl.guardU rfl ?_ | refine Wl.pickTE rfl (by conv => { lhs; whnf }) ?_ | refine Wl.pickFE rfl (by conv => { lhs; whnf }) ?_ | refine Wl.notB rfl ?_ | refine Wl.lenS rfl ?_ | refine Wl.lenStr rfl ?_ | refine Qsr.normal ?_ | refine Wr.seq ?_ | refine Wr.region rfl (by repeat' (first | exact Qfn.out (by rintro _ ⟨⟨_, e⟩, _⟩; cases e) | exact Qrd.out | exact Qas.out | refine Qsr.out ?_ | refine Qloop.out ?_ | refine Qsc.out ?_ | refine Qblk.out ?_)) ?_ | refine Wr.block ?_ | refine Wr.skip ?_ | refine Wr.exit ?_ | refine Wr.ret ?_ | refine Qsr.exit ?_ | refine Qsr.ret ?_ | refine Qblk.normal ?_ | refine Qblk.ret ?_ | refine Qblk.hit ?_ | refine Qblk.miss rfl ?_ | refine Wr.scope ?_ | refine Wr.label ?_ | refine Qsc.normal ?_ | refine Qsc.exit ?_ | refine Qsc.ret ?_ | refine Qloop.exit ?_ | refine Qloop.ret ?_ | refine Wr.condT rfl ?_ | refine Wr.condF rfl ?_ | refine Wl.nilP rfl ?_ | refine Wl.fieldAddr rfl rfl ?_ | refine Wl.nilF rfl ?_ | refine Wl.add rfl rfl (by omega) (by omega) ?_ | refine Wl.sub rfl rfl (by omega) (by omega) ?_ | refine Wl.mul rfl rfl (by omega) (by omega) ?_ | refine Wl.convI rfl ?_ | (refine Wl.lss rfl rfl (fun _ => ?_) (fun _ => ?_) <;> (first | (exfalso; omega) | (exfalso; contradiction) | skip)) | (refine Wl.leq rfl rfl (fun _ => ?_) (fun _ => ?_) <;> (first | (exfalso; omega) | (exfalso; contradiction) | skip)) | (refine Wl.gtr rfl rfl (fun _ => ?_) (fun _ => ?_) <;> (first | (exfalso; omega) | (exfalso; contradiction) | skip)) | (refine Wl.geq rfl rfl (fun _ => ?_) (fun _ => ?_) <;> (first | (exfalso; omega) | (exfalso; contradiction) | skip)) | (refine Wl.eql rfl rfl (fun _ => ?_) (fun _ => ?_) <;> (first | (exfalso; omega) | (exfalso; contradiction) | skip)) | (refine Wl.neq rfl rfl (fun _ => ?_) (fun _ => ?_) <;> (first | (exfalso; omega) | (exfalso; contradiction) | skip)) | (refine Wl.seql rfl rfl (fun _ => ?_) (fun _ => ?_) <;> (first | (exfalso; omega) | (exfalso; contradiction) | skip)) | (refine Wl.sneq rfl rfl (fun _ => ?_) (fun _ => ?_) <;> (first | (exfalso; omega) | (exfalso; contradiction) | skip))))
        refine ⟨rfl, rfl, q1, by omega, q3, ?_, q5, u, q6, ?_⟩
        · rw [hout]; exact q4
        · rw [hout]; exact q7
    · rintro W ⟨h1, h2, h3, h4, h5, u, h6, h7⟩ hD
      rw [List.take_length] at h7
      (repeat' (first | refine Wl.moveE (by conv => { lhs; whnf }) ?_ | refine Wl.assignE (by conv => { lhs; whnf }) ?_ | refine Wl.nil ?_ | refine Wl.extract rfl rfl ?_ | refine Wl.guardY rfl rfl ?_ | refine Wl.guardN rfl rfl ?_ | refine Wl.guardU rfl ?_ | refine Wl.pickTE rfl (by conv => { lhs; whnf }) ?_ | refine Wl.pickFE rfl (by conv => { lhs; whnf }) ?_ | refine Wl.notB rfl ?_ | refine Wl.lenS rfl ?_ | refine Wl.lenStr rfl ?_ | refine Wd.seq ?_ | refine Wd.block ?_ | refine Wd.condT rfl ?_ | refine Wd.condF rfl ?_ | refine Qds.normal ?_ | refine Qds.exit ?_ | refine Qds.ret ?_ | refine Qdb.normal ?_ | refine Qdb.ret ?_ | refine Qdb.hit ?_ | refine Qdb.miss rfl ?_ | refine Qdn.e ?_ | refine Wd.region ?_ | refine Wd.skip ?_ | refine Wd.exit ?_ | refine Wd.ret ?_ | refine Wl.nilP rfl ?_ | refine Wl.fieldAddr rfl rfl ?_ | refine Wl.nilF rfl ?_ | refine Wl.add rfl rfl (by omega) (by omega) ?_ | refine Wl.sub rfl rfl (by omega) (by omega) ?_ | refine Wl.mul rfl rfl (by omega) (by omega) ?_ | refine Wl.convI rfl ?_ | (refine Wl.lss rfl rfl (fun _ => ?_) (fun _ => ?_) <;> (first | (exfalso; omega) | (exfalso; contradiction) | skip)) | (refine Wl.leq rfl rfl (fun _ => ?_) (fun _ => ?_) <;> (first | (exfalso; omega) | (exfalso; contradiction) | skip)) | (refine Wl.gtr rfl rfl (fun _ => ?_) (fun _ => ?_) <;> (first | (exfalso; omega) | (exfalso; contradiction) | skip)) | (refine Wl.geq rfl rfl (fun _ => ?_) (fun _ => ?_) <;> (first | (exfalso; omega) | (exfalso; contradiction) | skip)) | (refine Wl.eql rfl rfl (fun _ => ?_) (fun _ => ?_) <;> (first | (exfalso; omega) | (exfalso; contradiction) | skip)) | (refine Wl.neq rfl rfl (fun _ => ?_) (fun _ => ?_) <;> (first | (exfalso; omega) | (exfalso; contradiction) | skip)) | (refine Wl.seql rfl rfl (fun _ => ?_) (fun _ => ?_) <;> (first | (exfalso; omega) | (exfalso; contradiction) | skip)) | (refine Wl.sneq rfl rfl (fun _ => ?_) (fun _ => ?_) <;> (first | (exfalso; omega) | (exfalso; contradiction) | skip))))
      refine Wl.load1 rfl (h6.cell (o := 0) rfl) ?_
      (repeat' (first | refine Wl.moveE (by conv => { lhs; whnf }) ?_ | refine Wl.assignE (by conv => { lhs; whnf }) ?_ | refine Wl.nil ?_ | refine Wl.extract rfl rfl ?_ | refine Wl.guardY rfl rfl ?_ | refine Wl.guardN rfl rfl ?_ | refine Wl.guardU rfl ?_ | refine Wl.pickTE rfl (by conv => { lhs; whnf }) ?_ | refine Wl.pickFE rfl (by conv => { lhs; whnf }) ?_ | refine Wl.notB rfl ?_ | refine Wl.lenS rfl ?_ | refine Wl.lenStr rfl ?_ | refine Wd.seq ?_ | refine Wd.block ?_ | refine Wd.condT rfl ?_ | refine Wd.condF rfl ?_ | refine Qds.normal ?_ | refine Qds.exit ?_ | refine Qds.ret ?_ | refine Qdb.normal ?_ | refine Qdb.ret ?_ | refine Qdb.hit ?_ | refine Qdb.miss rfl ?_ | refine Qdn.e ?_ | refine Wd.region ?_ | refine Wd.skip ?_ | refine Wd.exit ?_ | refine Wd.ret ?_ | refine Wl.nilP rfl ?_ | refine Wl.fieldAddr rfl rfl ?_ | refine Wl.nilF rfl ?_ | refine Wl.add rfl rfl (by omega) (by omega) ?_ | refine Wl.sub rfl rfl (by omega) (by omega) ?_ | refine Wl.mul rfl rfl (by omega) (by omega) ?_ | refine Wl.convI rfl ?_ | (refine Wl.lss rfl rfl (fun _ => ?_) (fun _ => ?_) <;> (first | (exfalso; omega) | (exfalso; contradiction) | skip)) | (refine Wl.leq rfl rfl (fun _ => ?_) (fun _ => ?_) <;> (first | (exfalso; omega) | (exfalso; contradiction) | skip)) | (refine Wl.gtr rfl rfl (fun _ => ?_) (fun _ => ?_) <;> (first | (exfalso; omega) | (exfalso; contradiction) | skip)) | (refine Wl.geq rfl rfl (fun _ => ?_) (fun _ => ?_) <;> (first | (exfalso; omega) | (exfalso; contradiction) | skip)) | (refine Wl.eql rfl rfl (fun _ => ?_) (fun _ => ?_) <;> (first | (exfalso; omega) | (exfalso; contradiction) | skip)) | (refine Wl.neq rfl rfl (fun _ => ?_) (fun _ => ?_) <;> (first | (exfalso; omega) | (exfalso; contradiction) | skip)) | (refine Wl.seql rfl rfl (fun _ => ?_) (fun _ => ?_) <;> (first | (exfalso; omega) | (exfalso; contradiction) | skip)) | (refine Wl.sneq rfl rfl (fun _ => ?_) (fun _ => ?_) <;> (first | (exfalso; omega) | (exfalso; contradiction) | skip))))
      refine Lv.mark (by simp) hD ?_
      have nD : NoC W w9.heap.size := .mark hD
      refine Lv.ret (results2 rfl (rvOf_tmp rfl) (rvOf_tmp rfl)) ⟨_, rfl, _, rfl, (h7.put _ (plain_one _) nD).mono goodU.mo (fun j _ e => by omega) (fun _ _ e => e), h1.put _ (by omega)⟩
    · exact fun _ h => h.elim
    · exact fun _ _ h => h.elim
end Go.Proofs.YtjaendlcijmifaaDoor

namespace Go.Proofs.YtjaendlcijmifaaDoor
open Go Wk
open Go.RowKit (Below)
attribute [local irreducible] Go.Calls

abbrev why (t : Tr) (x : Ev) : List Ev := (whyF t x.id x).1
theorem whyF_step {t : Tr} (h : TrOk t) {x : Ev} (hx : x ∈ t.kept) : whyF t x.id x = if x.ca = 0 then ([x], true) else match t.get x.ca with
    | none => ([x], false)
    | some y => (x :: (whyF t y.id y).1, (whyF t y.id y).2) := by
  have hc := h.cas x hx
  obtain ⟨f, hf⟩ : ∃ f, x.id = f + 1 := ⟨x.id - 1, by omega⟩
  rw [hf]
  conv => lhs; unfold whyF
  by_cases h0 : x.ca = 0
  · rw [if_pos h0, if_pos h0]
  · rw [if_neg h0, if_neg h0]
    cases hq : t.get x.ca with
    | none => rfl
    | some y =>
      obtain ⟨hy1, hy2, _⟩ := h.get hq
      dsimp only
      rw [whyF_fuel h f y.id y hy2 (by omega) (Nat.le_refl _)]
theorem mem_id {t : Tr} (h : TrOk t) {x : Ev} (hx : x ∈ t.kept) : t.gone < x.id ∧ x.id ≤ t.last := by
  obtain ⟨i, hi⟩ := List.mem_iff_getElem?.1 hx
  have := h.ids i x hi
  have hl := (List.getElem?_eq_some_iff.1 hi).1
  unfold Tr.last; omega
/-- The numbers behind an event's own. -/
def tailIds (t : Tr) (x : Ev) : List Nat := ((why t x).drop 1).map Ev.id
theorem why_head {t : Tr} (h : TrOk t) {x : Ev} (hx : x ∈ t.kept) : (why t x)[0]? = some x := by
  unfold why
  rw [whyF_step h hx]
  split
  · rfl
  · cases t.get x.ca <;> rfl
theorem tailIds_step {t : Tr} (h : TrOk t) {x : Ev} (hx : x ∈ t.kept) : tailIds t x = match (if x.ca = 0 then none else t.get x.ca) with
    | none => []
    | some y => y.id :: tailIds t y := by
  unfold tailIds why
  rw [whyF_step h hx]
  by_cases h0 : x.ca = 0
  · rw [if_pos h0, if_pos h0]; rfl
  · rw [if_neg h0, if_neg h0]
    cases hq : t.get x.ca with
    | none => rfl
    | some y =>
      have hy := why_head h (h.get hq).2.1
      unfold why at hy
      show ((whyF t y.id y).1).map Ev.id = y.id :: (((whyF t y.id y).1).drop 1).map Ev.id
      cases hw : (whyF t y.id y).1 with
      | nil => rw [hw] at hy; cases hy
      | cons a r =>
        rw [hw] at hy
        cases hy; rfl
/-- An event led to another one just if it stands in that one's Why. -/
theorem led_why {t : Tr} (h : TrOk t) {id : Nat} (hid : t.gone < id) : ∀ k : Nat, k ≤ t.kept.length → ∀ (j : Nat) (y : Ev), j < k → t.kept[j]? = some y → (y.id ∈ ledS id (t.kept.take k) ↔ id ∈ tailIds t y)
  | 0, _, j, y, hj, _ => by omega
  | k + 1, hk, j, y, hj, hy => by
    obtain ⟨z, hz⟩ := get_lt t.kept (k := k) (by omega)
    obtain ⟨hinv, _⟩ := ledS_inv h id k (by omega)
    have hzi := h.ids k z hz
    have hyi := h.ids j y hy
    rcases Nat.lt_or_ge j k with hjk | hjk
    · have ih := led_why h hid k (by omega) j y hjk hy
      rw [← ih, ledS_snoc hz]
      split
      · rw [List.mem_append, List.mem_singleton]
        constructor
        · rintro (e | e)
          · exact e
          · omega
        · exact .inl
      · exact Iff.rfl
    · obtain rfl : j = k := by omega
      obtain rfl : z = y := by rw [hz] at hy; exact Option.some.inj hy
      have hzm := List.mem_of_getElem? hz
      have hzc := h.cas z hzm
      have hlast : z.id ≤ t.last := (mem_id h hzm).2
      rw [ledS_snoc hz, tailIds_step h hzm]
      have hnot : z.id ∉ ledS id (t.kept.take j) := fun e => by have := hinv _ e; omega
      have key : (id :: ledS id (t.kept.take j)).contains z.ca = true ↔ id ∈ (match (if z.ca = 0 then none else t.get z.ca) with | none => [] | some y => y.id :: tailIds t y : List Nat) := by
        rw [List.contains_iff_mem]
        by_cases h0 : z.ca = 0
        · rw [if_pos h0]
          constructor
          · intro e
            rcases List.mem_cons.1 e with e | e
            · omega
            · have := hinv _ e; omega
          · intro e; cases e
        · rw [if_neg h0]
          cases hq : t.get z.ca with
          | none =>
            have hn := get_none.1 hq
            constructor
            · intro e
              rcases List.mem_cons.1 e with e | e
              · omega
              · have := hinv _ e; omega
            · intro e; cases e
          | some y =>
            obtain ⟨h1, h2, h3, h4, h5⟩ := h.get hq
            have ih := led_why h hid j (by omega) (z.ca - t.gone - 1) y (by omega) h3
            rw [List.mem_cons, List.mem_cons, h1] at *
            constructor
            · rintro (e | e)
              · exact .inl e.symm
              · exact .inr (ih.1 e)
            · rintro (e | e)
              · exact .inl e.symm
              · exact .inr (ih.2 e)
      by_cases hc : (id :: ledS id (t.kept.take j)).contains z.ca = true
      · rw [if_pos hc]
        refine ⟨fun _ => key.1 hc, fun _ => List.mem_append.2 (.inr (List.mem_singleton.2 rfl))⟩
      · rw [if_neg hc]
        exact ⟨fun e => absurd e hnot, fun e => absurd (key.2 e) hc⟩
/-- Each number in a Why has its cause behind it; the end. -/
structure WhyOk (t : Tr) (l : List Ev) (whole : Bool) : Prop where
  ne : l ≠ []
  mem : ∀ e ∈ l, e ∈ t.kept
  fall : ∀ (k : Nat) (e f : Ev), l[k]? = some e → l[k + 1]? = some f → f.id < e.id ∧ f.id = e.ca
  fin : ∀ e, l.getLast? = some e → (whole = true ↔ e.ca = 0) ∧ (whole = false → e.ca ≤ t.gone)
theorem why_ok {t : Tr} (h : TrOk t) : ∀ (n : Nat) (x : Ev), x.id ≤ n → x ∈ t.kept → WhyOk t (whyF t x.id x).1 (whyF t x.id x).2
  | 0, x, hn, hx => by have := h.cas x hx; omega
  | n + 1, x, hn, hx => by
    have hxc := h.cas x hx
    have hxl := (mem_id h hx).2
    rw [whyF_step h hx]
    by_cases h0 : x.ca = 0
    · rw [if_pos h0]
      refine ⟨by simp, fun e he => by rw [List.mem_singleton.1 he]; exact hx, fun k e f _ hf => by simp at hf, fun e he => ?_⟩
      cases he
      exact ⟨⟨fun _ => h0, fun _ => rfl⟩, fun e => absurd e (by simp)⟩
    · rw [if_neg h0]
      cases hq : t.get x.ca with
      | none =>
        have hn := get_none.1 hq
        refine ⟨by simp, fun e he => by rw [List.mem_singleton.1 he]; exact hx, fun k e f _ hf => by simp at hf, fun e he => ?_⟩
        cases he
        refine ⟨⟨fun e => absurd e (by simp), fun e => absurd e h0⟩, fun _ => ?_⟩
        show x.ca ≤ t.gone
        omega
      | some y =>
        obtain ⟨h1, h2, _⟩ := h.get hq
        have ih := why_ok h n y (by omega) h2
        have hy := why_head h h2
        unfold why at hy
        dsimp only
        generalize (whyF t y.id y).1 = r at ih hy ⊢
        cases r with
        | nil => cases hy
        | cons a r =>
          cases hy
          refine ⟨by simp, fun e he => ?_, fun k e f he hf => ?_, fun e he => ?_⟩
          · rcases List.mem_cons.1 he with rfl | he
            · exact hx
            · exact ih.mem e he
          · cases k with
            | zero =>
              cases he
              cases hf
              omega
            | succ k => exact ih.fall k e f he hf
          · rw [List.getLast?_cons_cons] at he
            exact ih.fin e he
theorem among_spec {Pb : Nat → Prop} {w : World} {v : Value} {l : List Nat} {n : Nat} (h : RdS (one u64V) 1 Pb w v l) :
    Calls Tryd.prog 18 #[v, .int .u64 n] w (Ret fun r w' => r = .bool (l.contains n) ∧ w = w') := by
  obtain ⟨a, cp, rfl, hc1, hc2⟩ := h.form
  simp only [maxLen] at hc2
  refine calls_of_Wc Tryd.func18 rfl Tryd.ntmps18 rfl ?_
  (repeat' (first | refine Wl.moveE (by conv => { lhs; whnf }) ?_ | refine Wl.assignE (by conv => { lhs; whnf }) ?_ | refine Wl.nil ?_ | refine Wl.extract rfl rfl ?_ | refine Wl.guardY rfl rfl ?_ | refine Wl.guardN rfl rfl ?_ | refine Wl.guardU rfl ?_ | refine Wl.pickTE rfl (by conv => { lhs; whnf }) ?_ | refine Wl.pickFE rfl (by conv => { lhs; whnf }) ?_ | refine Wl.notB rfl ?_ | refine Wl.lenS rfl ?_ | refine Wl.lenStr rfl ?_ | refine Qseq.normal ?_ | refine Wc.seq ?_ | refine Wc.region ?_ | refine Wc.block ?_ | refine Wc.skip ?_ | refine Wc.exit ?_ | refine Wc.ret ?_ | refine Qseq.exit ?_ | refine Qseq.ret ?_ | refine Wc.scope ?_ | refine Wc.label ?_ | refine Qsc.normal ?_ | refine Qsc.exit ?_ | refine Qsc.ret ?_ | refine Qblk.normal ?_ | refine Qblk.ret ?_ | refine Qblk.hit ?_ | refine Qblk.miss rfl ?_ | refine Qloop.exit ?_ | refine Qloop.ret ?_ | refine Wc.condT rfl ?_ | refine Wc.condF rfl ?_ | refine Wl.nilP rfl ?_ | refine Wl.fieldAddr rfl rfl ?_ | refine Wl.nilF rfl ?_ | refine Wl.add rfl rfl (by omega) (by omega) ?_ | refine Wl.sub rfl rfl (by omega) (by omega) ?_ | refine Wl.mul rfl rfl (by omega) (by omega) ?_ | refine Wl.convI rfl ?_ | (refine Wl.lss rfl rfl (fun _ => ?_) (fun _ => ?_) <;> (first | (exfalso; omega) | (exfalso; contradiction) | skip)) | (refine Wl.leq rfl rfl (fun _ => ?_) (fun _ => ?_) <;> (first | (exfalso; omega) | (exfalso; contradiction) | skip)) | (refine Wl.gtr rfl rfl (fun _ => ?_) (fun _ => ?_) <;> (first | (exfalso; omega) | (exfalso; contradiction) | skip)) | (refine Wl.geq rfl rfl (fun _ => ?_) (fun _ => ?_) <;> (first | (exfalso; omega) | (exfalso; contradiction) | skip)) | (refine Wl.eql rfl rfl (fun _ => ?_) (fun _ => ?_) <;> (first | (exfalso; omega) | (exfalso; contradiction) | skip)) | (refine Wl.neq rfl rfl (fun _ => ?_) (fun _ => ?_) <;> (first | (exfalso; omega) | (exfalso; contradiction) | skip)) | (refine Wl.seql rfl rfl (fun _ => ?_) (fun _ => ?_) <;> (first | (exfalso; omega) | (exfalso; contradiction) | skip)) | (refine Wl.sneq rfl rfl (fun _ => ?_) (fun _ => ?_) <;> (first | (exfalso; omega) | (exfalso; contradiction) | skip))))
  refine Wc.loop (σ := Nat) (fun i => [(0, .slice a l.length cp), (1, .int .u64 n), (5, vi i)]) (fun i w' => i ≤ l.length ∧ (∀ x ∈ l.take i, decide (x = n) = false) ∧ w = w') (fun i => l.length - i) 0 ⟨rfl, rfl, rfl, trivial⟩ ⟨Nat.zero_le _, by simp, rfl⟩ ?_
  rintro i G _ ⟨hi, hall, rfl⟩
  simp only [upds]
  (repeat' (first | refine Wl.moveE (by conv => { lhs; whnf }) ?_ | refine Wl.assignE (by conv => { lhs; whnf }) ?_ | refine Wl.nil ?_ | refine Wl.extract rfl rfl ?_ | refine Wl.guardY rfl rfl ?_ | refine Wl.guardN rfl rfl ?_ | refine Wl.guardU rfl ?_ | refine Wl.pickTE rfl (by conv => { lhs; whnf }) ?_ | refine Wl.pickFE rfl (by conv => { lhs; whnf }) ?_ | refine Wl.notB rfl ?_ | refine Wl.lenS rfl ?_ | refine Wl.lenStr rfl ?_ | refine Qseq.normal ?_ | refine Wc.seq ?_ | refine Wc.region ?_ | refine Wc.block ?_ | refine Wc.skip ?_ | refine Wc.exit ?_ | refine Wc.ret ?_ | refine Qseq.exit ?_ | refine Qseq.ret ?_ | refine Wc.scope ?_ | refine Wc.label ?_ | refine Qsc.normal ?_ | refine Qsc.exit ?_ | refine Qsc.ret ?_ | refine Qblk.normal ?_ | refine Qblk.ret ?_ | refine Qblk.hit ?_ | refine Qblk.miss rfl ?_ | refine Qloop.exit ?_ | refine Qloop.ret ?_ | refine Wc.condT rfl ?_ | refine Wc.condF rfl ?_ | refine Wl.nilP rfl ?_ | refine Wl.fieldAddr rfl rfl ?_ | refine Wl.nilF rfl ?_ | refine Wl.add rfl rfl (by omega) (by omega) ?_ | refine Wl.sub rfl rfl (by omega) (by omega) ?_ | refine Wl.mul rfl rfl (by omega) (by omega) ?_ | refine Wl.convI rfl ?_ | (refine Wl.lss rfl rfl (fun _ => ?_) (fun _ => ?_) <;> (first | (exfalso; omega) | (exfalso; contradiction) | skip)) | (refine Wl.leq rfl rfl (fun _ => ?_) (fun _ => ?_) <;> (first | (exfalso; omega) | (exfalso; contradiction) | skip)) | (refine Wl.gtr rfl rfl (fun _ => ?_) (fun _ => ?_) <;> (first | (exfalso; omega) | (exfalso; contradiction) | skip)) | (refine Wl.geq rfl rfl (fun _ => ?_) (fun _ => ?_) <;> (first | (exfalso; omega) | (exfalso; contradiction) | skip)) | (refine Wl.eql rfl rfl (fun _ => ?_) (fun _ => ?_) <;> (first | (exfalso; omega) | (exfalso; contradiction) | skip)) | (refine Wl.neq rfl rfl (fun _ => ?_) (fun _ => ?_) <;> (first | (exfalso; omega) | (exfalso; contradiction) | skip)) | (refine Wl.seql rfl rfl (fun _ => ?_) (fun _ => ?_) <;> (first | (exfalso; omega) | (exfalso; contradiction) | skip)) | (refine Wl.sneq rfl rfl (fun _ => ?_) (fun _ => ?_) <;> (first | (exfalso; omega) | (exfalso; contradiction) | skip))))
  · obtain ⟨y, hy⟩ := get_lt l (k := i) (by omega)
    refine Wl.idxAddrV h rfl rfl (by omega) (by rw [Int.toNat_natCast]; exact hy) fun b o hc => ?_
    refine Wl.load1 rfl hc ?_
    (repeat' (first | refine Wl.moveE (by conv => { lhs; whnf }) ?_ | refine Wl.assignE (by conv => { lhs; whnf }) ?_ | refine Wl.nil ?_ | refine Wl.extract rfl rfl ?_ | refine Wl.guardY rfl rfl ?_ | refine Wl.guardN rfl rfl ?_ | refine Wl.guardU rfl ?_ | refine Wl.pickTE rfl (by conv => { lhs; whnf }) ?_ | refine Wl.pickFE rfl (by conv => { lhs; whnf }) ?_ | refine Wl.notB rfl ?_ | refine Wl.lenS rfl ?_ | refine Wl.lenStr rfl ?_ | refine Qseq.normal ?_ | refine Wc.seq ?_ | refine Wc.region ?_ | refine Wc.block ?_ | refine Wc.skip ?_ | refine Wc.exit ?_ | refine Wc.ret ?_ | refine Qseq.exit ?_ | refine Qseq.ret ?_ | refine Wc.scope ?_ | refine Wc.label ?_ | refine Qsc.normal ?_ | refine Qsc.exit ?_ | refine Qsc.ret ?_ | refine Qblk.normal ?_ | refine Qblk.ret ?_ | refine Qblk.hit ?_ | refine Qblk.miss rfl ?_ | refine Qloop.exit ?_ | refine Qloop.ret ?_ | refine Wc.condT rfl ?_ | refine Wc.condF rfl ?_ | refine Wl.nilP rfl ?_ | refine Wl.fieldAddr rfl rfl ?_ | refine Wl.nilF rfl ?_ | refine Wl.add rfl rfl (by omega) (by omega) ?_ | refine Wl.sub rfl rfl (by omega) (by omega) ?_ | refine Wl.mul rfl rfl (by omega) (by omega) ?_ | refine Wl.convI rfl ?_ | (refine Wl.lss rfl rfl (fun _ => ?_) (fun _ => ?_) <;> (first | (exfalso; omega) | (exfalso; contradiction) | skip)) | (refine Wl.leq rfl rfl (fun _ => ?_) (fun _ => ?_) <;> (first | (exfalso; omega) | (exfalso; contradiction) | skip)) | (refine Wl.gtr rfl rfl (fun _ => ?_) (fun _ => ?_) <;> (first | (exfalso; omega) | (exfalso; contradiction) | skip)) | (refine Wl.geq rfl rfl (fun _ => ?_) (fun _ => ?_) <;> (first | (exfalso; omega) | (exfalso; contradiction) | skip)) | (refine Wl.eql rfl rfl (fun _ => ?_) (fun _ => ?_) <;> (first | (exfalso; omega) | (exfalso; contradiction) | skip)) | (refine Wl.neq rfl rfl (fun _ => ?_) (fun _ => ?_) <;> (first | (exfalso; omega) | (exfalso; contradiction) | skip)) | (refine Wl.seql rfl rfl (fun _ => ?_) (fun _ => ?_) <;> (first | (exfalso; omega) | (exfalso; contradiction) | skip)) | (refine Wl.sneq rfl rfl (fun _ => ?_) (fun _ => ?_) <;> (first | (exfalso; omega) | (exfalso; contradiction) | skip))))
    · have e : y = n := by omega
      refine Qfn.ret1 rfl rfl ⟨_, rfl, ?_, rfl⟩
      rw [List.contains_iff_mem.2 (e ▸ List.mem_of_getElem? hy)]; rfl
    · exact Qloop.normal (i + 1) ⟨rfl, rfl, rfl, trivial⟩ ⟨by omega, take_all hy hall (decide_eq_false (by omega)), rfl⟩ (by omega)
  · have e : i = l.length := by omega
    subst e
    rw [List.take_length] at hall
    refine Qfn.ret1 rfl rfl ⟨_, rfl, ?_, rfl⟩
    have : l.contains n = false := by
      rw [Bool.eq_false_iff]; intro e
      have := hall n (List.contains_iff_mem.1 e)
      simp at this
    rw [this]; rfl
theorem stands_spec {Pb : Nat → Prop} {w : World} {v : Value} {l : List Ev} {n : Nat} (h : RdS rEv 6 Pb w v l) (hne : l ≠ []) :
    Calls Tryd.prog 19 #[v, .int .u64 n] w (Ret fun r w' => r = .bool (((l.drop 1).map Ev.id).contains n) ∧ w = w') := by
  obtain ⟨a, cp, rfl, hc1, hc2⟩ := h.form
  simp only [maxLen] at hc2
  have hpos := List.length_pos_iff.2 hne
  refine calls_of_Wc Tryd.func19 rfl Tryd.ntmps19 rfl ?_
  (repeat' (first | refine Wl.moveE (by conv => { lhs; whnf }) ?_ | refine Wl.assignE (by conv => { lhs; whnf }) ?_ | refine Wl.nil ?_ | refine Wl.extract rfl rfl ?_ | refine Wl.guardY rfl rfl ?_ | refine Wl.guardN rfl rfl ?_ | refine Wl.guardU rfl ?_ | refine Wl.pickTE rfl (by conv => { lhs; whnf }) ?_ | refine Wl.pickFE rfl (by conv => { lhs; whnf }) ?_ | refine Wl.notB rfl ?_ | refine Wl.lenS rfl ?_ | refine Wl.lenStr rfl ?_ | refine Qseq.normal ?_ | refine Wc.seq ?_ | refine Wc.region ?_ | refine Wc.block ?_ | refine Wc.skip ?_ | refine Wc.exit ?_ | refine Wc.ret ?_ | refine Qseq.exit ?_ | refine Qseq.ret ?_ | refine Wc.scope ?_ | refine Wc.label ?_ | refine Qsc.normal ?_ | refine Qsc.exit ?_ | refine Qsc.ret ?_ | refine Qblk.normal ?_ | refine Qblk.ret ?_ | refine Qblk.hit ?_ | refine Qblk.miss rfl ?_ | refine Qloop.exit ?_ | refine Qloop.ret ?_ | refine Wc.condT rfl ?_ | refine Wc.condF rfl ?_ | refine Wl.nilP rfl ?_ | refine Wl.fieldAddr rfl rfl ?_ | refine Wl.nilF rfl ?_ | refine Wl.add rfl rfl (by omega) (by omega) ?_ | refine Wl.sub rfl rfl (by omega) (by omega) ?_ | refine Wl.mul rfl rfl (by omega) (by omega) ?_ | refine Wl.convI rfl ?_ | (refine Wl.lss rfl rfl (fun _ => ?_) (fun _ => ?_) <;> (first | (exfalso; omega) | (exfalso; contradiction) | skip)) | (refine Wl.leq rfl rfl (fun _ => ?_) (fun _ => ?_) <;> (first | (exfalso; omega) | (exfalso; contradiction) | skip)) | (refine Wl.gtr rfl rfl (fun _ => ?_) (fun _ => ?_) <;> (first | (exfalso; omega) | (exfalso; contradiction) | skip)) | (refine Wl.geq rfl rfl (fun _ => ?_) (fun _ => ?_) <;> (first | (exfalso; omega) | (exfalso; contradiction) | skip)) | (refine Wl.eql rfl rfl (fun _ => ?_) (fun _ => ?_) <;> (first | (exfalso; omega) | (exfalso; contradiction) | skip)) | (refine Wl.neq rfl rfl (fun _ => ?_) (fun _ => ?_) <;> (first | (exfalso; omega) | (exfalso; contradiction) | skip)) | (refine Wl.seql rfl rfl (fun _ => ?_) (fun _ => ?_) <;> (first | (exfalso; omega) | (exfalso; contradiction) | skip)) | (refine Wl.sneq rfl rfl (fun _ => ?_) (fun _ => ?_) <;> (first | (exfalso; omega) | (exfalso; contradiction) | skip))))
  refine Wc.loop (σ := Nat) (fun i => [(0, .slice a l.length cp), (1, .int .u64 n), (5, vi (i + 1 : Nat))]) (fun i w' => i + 1 ≤ l.length ∧ (∀ x ∈ ((l.drop 1).map Ev.id).take i, decide (x = n) = false) ∧ w = w') (fun i => l.length - i) 0 ⟨rfl, rfl, rfl, trivial⟩ ⟨by omega, by simp, rfl⟩ ?_
  rintro i G _ ⟨hi, hall, rfl⟩
  simp only [upds]
  (repeat' (first | refine Wl.moveE (by conv => { lhs; whnf }) ?_ | refine Wl.assignE (by conv => { lhs; whnf }) ?_ | refine Wl.nil ?_ | refine Wl.extract rfl rfl ?_ | refine Wl.guardY rfl rfl ?_ | refine Wl.guardN rfl rfl ?_ | refine Wl.guardU rfl ?_ | refine Wl.pickTE rfl (by conv => { lhs; whnf }) ?_ | refine Wl.pickFE rfl (by conv => { lhs; whnf }) ?_ | refine Wl.notB rfl ?_ | refine Wl.lenS rfl ?_ | refine Wl.lenStr rfl ?_ | refine Qseq.normal ?_ | refine Wc.seq ?_ | refine Wc.region ?_ | refine Wc.block ?_ | refine Wc.skip ?_ | refine Wc.exit ?_ | refine Wc.ret ?_ | refine Qseq.exit ?_ | refine Qseq.ret ?_ | refine Wc.scope ?_ | refine Wc.label ?_ | refine Qsc.normal ?_ | refine Qsc.exit ?_ | refine Qsc.ret ?_ | refine Qblk.normal ?_ | refine Qblk.ret ?_ | refine Qblk.hit ?_ | refine Qblk.miss rfl ?_ | refine Qloop.exit ?_ | refine Qloop.ret ?_ | refine Wc.condT rfl ?_ | refine Wc.condF rfl ?_ | refine Wl.nilP rfl ?_ | refine Wl.fieldAddr rfl rfl ?_ | refine Wl.nilF rfl ?_ | refine Wl.add rfl rfl (by omega) (by omega) ?_ | refine Wl.sub rfl rfl (by omega) (by omega) ?_ | refine Wl.mul rfl rfl (by omega) (by omega) ?_ | refine Wl.convI rfl ?_ | (refine Wl.lss rfl rfl (fun _ => ?_) (fun _ => ?_) <;> (first | (exfalso; omega) | (exfalso; contradiction) | skip)) | (refine Wl.leq rfl rfl (fun _ => ?_) (fun _ => ?_) <;> (first | (exfalso; omega) | (exfalso; contradiction) | skip)) | (refine Wl.gtr rfl rfl (fun _ => ?_) (fun _ => ?_) <;> (first | (exfalso; omega) | (exfalso; contradiction) | skip)) | (refine Wl.geq rfl rfl (fun _ => ?_) (fun _ => ?_) <;> (first | (exfalso; omega) | (exfalso; contradiction) | skip)) | (refine Wl.eql rfl rfl (fun _ => ?_) (fun _ => ?_) <;> (first | (exfalso; omega) | (exfalso; contradiction) | skip)) | (refine Wl.neq rfl rfl (fun _ => ?_) (fun _ => ?_) <;> (first | (exfalso; omega) | (exfalso; contradiction) | skip)) | (refine Wl.seql rfl rfl (fun _ => ?_) (fun _ => ?_) <;> (first | (exfalso; omega) | (exfalso; contradiction) | skip)) | (refine Wl.sneq rfl rfl (fun _ => ?_) (fun _ => ?_) <;> (first | (exfalso; omega) | (exfalso; contradiction) | skip))))
  · obtain ⟨y, hy⟩ := get_lt l (k := i + 1) (by omega)
    have hy' : ((l.drop 1).map Ev.id)[i]? = some y.id := by rw [List.getElem?_map, List.getElem?_drop, Nat.add_comm 1 i, hy]; rfl
    refine Wl.idxAddr h rfl rfl (by omega) (by rw [Int.toNat_natCast]; exact hy) fun b o cs hcl hR hat => ?_
    obtain rfl : cs = evC y := hR
    (repeat' (first | refine Wl.moveE (by conv => { lhs; whnf }) ?_ | refine Wl.assignE (by conv => { lhs; whnf }) ?_ | refine Wl.nil ?_ | refine Wl.extract rfl rfl ?_ | refine Wl.guardY rfl rfl ?_ | refine Wl.guardN rfl rfl ?_ | refine Wl.guardU rfl ?_ | refine Wl.pickTE rfl (by conv => { lhs; whnf }) ?_ | refine Wl.pickFE rfl (by conv => { lhs; whnf }) ?_ | refine Wl.notB rfl ?_ | refine Wl.lenS rfl ?_ | refine Wl.lenStr rfl ?_ | refine Qseq.normal ?_ | refine Wc.seq ?_ | refine Wc.region ?_ | refine Wc.block ?_ | refine Wc.skip ?_ | refine Wc.exit ?_ | refine Wc.ret ?_ | refine Qseq.exit ?_ | refine Qseq.ret ?_ | refine Wc.scope ?_ | refine Wc.label ?_ | refine Qsc.normal ?_ | refine Qsc.exit ?_ | refine Qsc.ret ?_ | refine Qblk.normal ?_ | refine Qblk.ret ?_ | refine Qblk.hit ?_ | refine Qblk.miss rfl ?_ | refine Qloop.exit ?_ | refine Qloop.ret ?_ | refine Wc.condT rfl ?_ | refine Wc.condF rfl ?_ | refine Wl.nilP rfl ?_ | refine Wl.fieldAddr rfl rfl ?_ | refine Wl.nilF rfl ?_ | refine Wl.add rfl rfl (by omega) (by omega) ?_ | refine Wl.sub rfl rfl (by omega) (by omega) ?_ | refine Wl.mul rfl rfl (by omega) (by omega) ?_ | refine Wl.convI rfl ?_ | (refine Wl.lss rfl rfl (fun _ => ?_) (fun _ => ?_) <;> (first | (exfalso; omega) | (exfalso; contradiction) | skip)) | (refine Wl.leq rfl rfl (fun _ => ?_) (fun _ => ?_) <;> (first | (exfalso; omega) | (exfalso; contradiction) | skip)) | (refine Wl.gtr rfl rfl (fun _ => ?_) (fun _ => ?_) <;> (first | (exfalso; omega) | (exfalso; contradiction) | skip)) | (refine Wl.geq rfl rfl (fun _ => ?_) (fun _ => ?_) <;> (first | (exfalso; omega) | (exfalso; contradiction) | skip)) | (refine Wl.eql rfl rfl (fun _ => ?_) (fun _ => ?_) <;> (first | (exfalso; omega) | (exfalso; contradiction) | skip)) | (refine Wl.neq rfl rfl (fun _ => ?_) (fun _ => ?_) <;> (first | (exfalso; omega) | (exfalso; contradiction) | skip)) | (refine Wl.seql rfl rfl (fun _ => ?_) (fun _ => ?_) <;> (first | (exfalso; omega) | (exfalso; contradiction) | skip)) | (refine Wl.sneq rfl rfl (fun _ => ?_) (fun _ => ?_) <;> (first | (exfalso; omega) | (exfalso; contradiction) | skip))))
    refine Wl.load1 rfl (hat.get 0 rfl) ?_
    (repeat' (first | refine Wl.moveE (by conv => { lhs; whnf }) ?_ | refine Wl.assignE (by conv => { lhs; whnf }) ?_ | refine Wl.nil ?_ | refine Wl.extract rfl rfl ?_ | refine Wl.guardY rfl rfl ?_ | refine Wl.guardN rfl rfl ?_ | refine Wl.guardU rfl ?_ | refine Wl.pickTE rfl (by conv => { lhs; whnf }) ?_ | refine Wl.pickFE rfl (by conv => { lhs; whnf }) ?_ | refine Wl.notB rfl ?_ | refine Wl.lenS rfl ?_ | refine Wl.lenStr rfl ?_ | refine Qseq.normal ?_ | refine Wc.seq ?_ | refine Wc.region ?_ | refine Wc.block ?_ | refine Wc.skip ?_ | refine Wc.exit ?_ | refine Wc.ret ?_ | refine Qseq.exit ?_ | refine Qseq.ret ?_ | refine Wc.scope ?_ | refine Wc.label ?_ | refine Qsc.normal ?_ | refine Qsc.exit ?_ | refine Qsc.ret ?_ | refine Qblk.normal ?_ | refine Qblk.ret ?_ | refine Qblk.hit ?_ | refine Qblk.miss rfl ?_ | refine Qloop.exit ?_ | refine Qloop.ret ?_ | refine Wc.condT rfl ?_ | refine Wc.condF rfl ?_ | refine Wl.nilP rfl ?_ | refine Wl.fieldAddr rfl rfl ?_ | refine Wl.nilF rfl ?_ | refine Wl.add rfl rfl (by omega) (by omega) ?_ | refine Wl.sub rfl rfl (by omega) (by omega) ?_ | refine Wl.mul rfl rfl (by omega) (by omega) ?_ | refine Wl.convI rfl ?_ | (refine Wl.lss rfl rfl (fun _ => ?_) (fun _ => ?_) <;> (first | (exfalso; omega) | (exfalso; contradiction) | skip)) | (refine Wl.leq rfl rfl (fun _ => ?_) (fun _ => ?_) <;> (first | (exfalso; omega) | (exfalso; contradiction) | skip)) | (refine Wl.gtr rfl rfl (fun _ => ?_) (fun _ => ?_) <;> (first | (exfalso; omega) | (exfalso; contradiction) | skip)) | (refine Wl.geq rfl rfl (fun _ => ?_) (fun _ => ?_) <;> (first | (exfalso; omega) | (exfalso; contradiction) | skip)) | (refine Wl.eql rfl rfl (fun _ => ?_) (fun _ => ?_) <;> (first | (exfalso; omega) | (exfalso; contradiction) | skip)) | (refine Wl.neq rfl rfl (fun _ => ?_) (fun _ => ?_) <;> (first | (exfalso; omega) | (exfalso; contradiction) | skip)) | (refine Wl.seql rfl rfl (fun _ => ?_) (fun _ => ?_) <;> (first | (exfalso; omega) | (exfalso; contradiction) | skip)) | (refine Wl.sneq rfl rfl (fun _ => ?_) (fun _ => ?_) <;> (first | (exfalso; omega) | (exfalso; contradiction) | skip))))
    · have e : y.id = n := by omega
      refine Qfn.ret1 rfl rfl ⟨_, rfl, ?_, rfl⟩
      rw [List.contains_iff_mem.2 (e ▸ List.mem_of_getElem? hy')]; rfl
    · exact Qloop.normal (i + 1) ⟨rfl, rfl, rfl, trivial⟩ ⟨by omega, take_all hy' hall (decide_eq_false (by omega)), rfl⟩ (by omega)
  · have e : ((l.drop 1).map Ev.id).take i = (l.drop 1).map Ev.id := List.take_of_length_le (by rw [List.length_map, List.length_drop]; omega)
    rw [e] at hall
    refine Qfn.ret1 rfl rfl ⟨_, rfl, ?_, rfl⟩
    have : ((l.drop 1).map Ev.id).contains n = false := by
      rw [Bool.eq_false_iff]; intro e
      have := hall n (List.contains_iff_mem.1 e)
      simp at this
    rw [this]; rfl
end Go.Proofs.YtjaendlcijmifaaDoor
